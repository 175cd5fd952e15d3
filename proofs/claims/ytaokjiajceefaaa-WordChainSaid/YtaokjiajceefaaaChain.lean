/-
WordChain returns true.
-/
import Derived.Test.YtaokjiajceefaaaOwn
import Derived.Test.YtaokjiajceefaaaAt
import Derived.Test.YtaokjiajceefaaaAtB
namespace Go.Proofs.Ytaokjiajceefaaa
open Go.ChangeShapes Go.WideShapes Go.ChangeAt Go.RowKit

structure ChSt (w0 : World) (x A n : Nat) (a0 a1 a2 a3 a4 a5 a6 : Int) (f : Nat → Int) (w : World) : Prop where
  rA : RowX 23 w A n f
  box : w.heap[x]? = some (.cells #[.int .i64 a0, .int .i64 a1, .int .i64 a2, .int .i64 a3, .int .i64 a4, .int .i64 a5, .int .i64 a6] 28)
  bel : Below w0.heap.size w0 w

section
variable {w0 w : World} {x A n : Nat} {a0 a1 a2 a3 a4 a5 a6 : Int} {f : Nat → Int}
theorem ChSt.more (h : ChSt w0 x A n a0 a1 a2 a3 a4 a5 a6 f w) (os : Array Obj) (d : Nat) : ChSt w0 x A n a0 a1 a2 a3 a4 a5 a6 f (w.more os d) :=
  ⟨h.rA.more _ _, by rw [World.heap_more _ _ _ _ (Array.getElem?_eq_some_iff.1 h.box).1]; exact h.box, h.bel.more1 _ _⟩
theorem ChSt.alloc (h : ChSt w0 x A n a0 a1 a2 a3 a4 a5 a6 f w) (o : Obj) : ChSt w0 x A n a0 a1 a2 a3 a4 a5 a6 f (w.alloc o) :=
  ⟨h.rA.alloc _, by rw [Below.heap_alloc _ _ _ (Array.getElem?_eq_some_iff.1 h.box).1]; exact h.box, h.bel.alloc1 _⟩
theorem ChSt.cfg (h : ChSt w0 x A n a0 a1 a2 a3 a4 a5 a6 f w) : x < w.heap.size ∧ w.cell? ⟨x, 0, none⟩ = some (.int .i64 a0) ∧ w.cell? ⟨x, 1, none⟩ = some (.int .i64 a1) ∧ w.cell? ⟨x, 2, none⟩ = some (.int .i64 a2) ∧
    w.cell? ⟨x, 3, none⟩ = some (.int .i64 a3) ∧ w.cell? ⟨x, 4, none⟩ = some (.int .i64 a4) ∧ w.cell? ⟨x, 5, none⟩ = some (.int .i64 a5) ∧ w.cell? ⟨x, 6, none⟩ = some (.int .i64 a6) :=
  ⟨(Array.getElem?_eq_some_iff.1 h.box).1, by simp [World.cell?, h.box], by simp [World.cell?, h.box], by simp [World.cell?, h.box], by simp [World.cell?, h.box], by simp [World.cell?, h.box], by simp [World.cell?, h.box], by simp [World.cell?, h.box]⟩
theorem ChSt.row (h : ChSt w0 x A n a0 a1 a2 a3 a4 a5 a6 f w) (k : Nat) (hk : k < n) : A < w.heap.size ∧ w.cell? ⟨A, k, none⟩ = some (.int .u64 (f k)) := ⟨h.rA.lt, h.rA.row.cell k hk⟩
end

def AtGives (a0 a1 a2 a3 a4 a5 a6 y r i k : Int) : Prop := ∀ w, Calls Try.prog 33 #[.agg #[.int .i64 a0, .int .i64 a1, .int .i64 a2, .int .i64 a3, .int .i64 a4, .int .i64 a5, .int .i64 a6], .int .i64 y] w fun e w' => e = .returned (.tuple #[.agg #[.int .i64 r, .int .i64 i, .int .i64 k], .int .i64 0]) ∧ Below w.heap.size w w'

theorem chain_at {a0 a1 a2 a3 a4 a5 a6 : Int} (hok : okCfg a0 a1 a2 a3 a4 a5 a6 = true) {b n s : Nat} (hs : a5 = (s : Int)) (hn : baseF a1 a2 a5 a6 13 = (n : Int)) (hb : addrAt a1 a2 a5 a6 10 0 0 = (b : Int)) {y : Nat} (hy : y < n) :
    ∃ r i k, AtGives a0 a1 a2 a3 a4 a5 a6 y r i k ∧ ((r = 10 ∧ i = (y : Int) - b ∧ b ≤ y ∧ y < b + s) ∨ (r = 4 ∧ y = 3) ∨ (r = 5 ∧ y = 4) ∨ (r ≠ 10 ∧ r ≠ 4 ∧ r ≠ 5 ∧ y ≠ 3 ∧ y ≠ 4 ∧ (y < b ∨ b + s ≤ y))) := by
  obtain ⟨b0, b1, b2, b3, b4, b5, b6, bm⟩ := ok_bounds hok
  obtain ⟨m, hm, hr⟩ := inReg_some (a1 := a1) (a2 := a2) (a5 := a5) (a6 := a6) (adr := (y : Int)) (by omega) 13 (by omega)
  have e9 : baseF a1 a2 a5 a6 9 = (b : Int) := by rw [← hb]; simp [addrAt]
  have e10 : baseF a1 a2 a5 a6 10 = (b : Int) + s := by
    have : baseF a1 a2 a5 a6 (9 + 1) = baseF a1 a2 a5 a6 9 + a5 := rfl
    rw [this, e9, hs]
  have e3 : baseF a1 a2 a5 a6 3 = 3 := rfl
  have e4 : baseF a1 a2 a5 a6 4 = 4 := rfl
  have e5 : baseF a1 a2 a5 a6 5 = 5 := rfl
  have hlo := hr.1
  have hhi := hr.2
  have far : m ≠ 9 → m ≠ 3 → m ≠ 4 → y ≠ 3 ∧ y ≠ 4 ∧ (y < b ∨ b + s ≤ y) := by
    intro h9 h3 h4
    have c9 : m + 1 ≤ 9 ∨ 10 ≤ m := by omega
    have c3 : m + 1 ≤ 3 ∨ 5 ≤ m := by omega
    have q9 : (y : Int) < b ∨ (b : Int) + s ≤ y := by
      rcases c9 with c | c
      · have := baseF_mono b1 b5 b6 bm c; omega
      · have := baseF_mono b1 b5 b6 bm c; omega
    have q3 : (y : Int) < 3 ∨ 5 ≤ (y : Int) := by
      rcases c3 with c | c
      · have := baseF_mono b1 b5 b6 bm c; omega
      · have := baseF_mono b1 b5 b6 bm c; omega
    omega
  by_cases h8 : m = 8
  · subst h8
    exact ⟨_, _, _, fun w => at_nine a0 a1 a2 a3 a4 a5 a6 y hok hr w, .inr (.inr (.inr ⟨by decide, by decide, by decide, far (by decide) (by decide) (by decide)⟩))⟩
  · refine ⟨_, _, _, fun w => at_one a0 a1 a2 a3 a4 a5 a6 y m hok hm h8 hr w, ?_⟩
    by_cases h9 : m = 9
    · subst h9
      exact .inl ⟨rfl, by rw [e9], by omega, by have h : baseF a1 a2 a5 a6 (9 + 1) = baseF a1 a2 a5 a6 10 := rfl; omega⟩
    by_cases h3 : m = 3
    · subst h3
      exact .inr (.inl ⟨rfl, by have h : baseF a1 a2 a5 a6 (3 + 1) = 4 := rfl; omega⟩)
    by_cases h4 : m = 4
    · subst h4
      exact .inr (.inr (.inl ⟨rfl, by have h : baseF a1 a2 a5 a6 (4 + 1) = 5 := rfl; omega⟩))
    exact .inr (.inr (.inr ⟨by omega, by omega, by omega, far h9 h3 h4⟩))

theorem chain_word {b u s : Nat} (hb : 5 ≤ b) (k : Nat) (hu : u ≤ k) (hk : k < s) : firstW b u s (b + k) = if k + 1 < s then (k : Int) + 2 else 0 := by
  unfold firstW
  rw [if_neg (by omega), if_neg (by omega)]
  by_cases h : k + 1 < s
  · rw [if_pos h, if_pos (by omega)]; omega
  · rw [if_neg h, if_neg (by omega)]

theorem unlinkW (v : Int) (h0 : 0 ≤ v) (h1 : v ≤ 2048) (w : World) : Calls Try.prog 22 #[.int .u64 v] w fun e w' => e = .returned (.tuple #[.int .i64 (v - 1), .bool false, .int .i64 0]) ∧ w = w' := by
  have := unlink_ok v w (by omega) (by omega) (by unfold isLink; rw [Bool.and_eq_true, decide_eq_true_eq, decide_eq_true_eq]; omega)
  rw [show linkIndex v = v - 1 by unfold linkIndex; omega, show linkMark v = false by unfold linkMark; rw [show v / 4294967296 = 0 by omega]; rfl] at this
  exact this

theorem unheadW (v : Int) (h0 : 0 ≤ v) (h1 : v ≤ 1024) (w : World) : Calls Try.prog 28 #[.int .u64 v] w fun e w' => e = .returned (.tuple #[.int .u32 0, .int .i64 (v - 1), .int .i64 0]) ∧ w = w' := by
  have := unhead_ok v w (by omega) (by omega) (by unfold isHead; rw [decide_eq_true_eq]; omega)
  rw [show linkIndex v = v - 1 by unfold linkIndex; omega, show v / 4294967296 = 0 by omega] at this
  exact this

def nxt (s k : Nat) : Int := if k < s then (k : Int) else -1
theorem nxt_zero (b u s : Nat) (hs : s ≤ 1024) (_hu : u ≤ s) : firstW b u s 0 - 1 = nxt s u ∧ 0 ≤ firstW b u s 0 ∧ firstW b u s 0 ≤ 1024 := by
  unfold firstW nxt
  rw [if_pos rfl]
  by_cases h : u < s
  · rw [if_pos h, if_pos h]; omega
  · rw [if_neg h, if_neg h]; omega
theorem nxt_word {b u s : Nat} (hb : 5 ≤ b) (k : Nat) (hu : u ≤ k) (hk : k < s) (hs : s ≤ 1024) : firstW b u s (b + k) - 1 = nxt s (k + 1) ∧ 0 ≤ firstW b u s (b + k) ∧ firstW b u s (b + k) ≤ 2048 := by
  rw [chain_word hb k hu hk]
  unfold nxt
  by_cases h : k + 1 < s
  · rw [if_pos h, if_pos h]; omega
  · rw [if_neg h, if_neg h]; omega

/-- what stands at address y, by cases -/
def ChainCase (r i v : Int) (u s : Nat) : Prop :=
  (r = 10 ∧ (0 : Int) < u ∧ i < u ∧ v = 0) ∨ (r = 10 ∧ (0 : Int) < u ∧ (u : Int) ≤ i ∧ (s : Int) - 1 ≤ i ∧ v = 0) ∨ (r = 10 ∧ (0 : Int) < u ∧ (u : Int) ≤ i ∧ i < (s : Int) - 1) ∨
  (r = 10 ∧ ¬ (0 : Int) < u ∧ (u : Int) ≤ i ∧ (s : Int) - 1 ≤ i ∧ v = 0) ∨ (r = 10 ∧ ¬ (0 : Int) < u ∧ (u : Int) ≤ i ∧ i < (s : Int) - 1) ∨
  (r = 4 ∧ (0 : Int) < u ∧ v = 1) ∨ (r = 4 ∧ ¬ (0 : Int) < u ∧ v = 0) ∨ (r = 5 ∧ (0 : Int) < u ∧ v = 1) ∨ (r = 5 ∧ ¬ (0 : Int) < u ∧ v = 0) ∨
  ((r == 10) = false ∧ (r == 4) = false ∧ (r == 5) = false ∧ (0 : Int) < u ∧ v = 0) ∨ ((r == 10) = false ∧ (r == 4) = false ∧ (r == 5) = false ∧ ¬ (0 : Int) < u ∧ v = 0)

theorem chain_case {r i : Int} {b u s y : Nat} (hb : 5 ≤ b) (hy : 1 ≤ y) (hus : u ≤ s)
    (h : (r = 10 ∧ i = (y : Int) - b ∧ b ≤ y ∧ y < b + s) ∨ (r = 4 ∧ y = 3) ∨ (r = 5 ∧ y = 4) ∨ (r ≠ 10 ∧ r ≠ 4 ∧ r ≠ 5 ∧ y ≠ 3 ∧ y ≠ 4 ∧ (y < b ∨ b + s ≤ y))) : ChainCase r i (firstW b u s y) u s := by
  unfold ChainCase
  rcases h with ⟨h1, h2, h3, h4⟩ | ⟨h1, h2⟩ | ⟨h1, h2⟩ | ⟨h1, h2, h3, h4, h5, h6⟩
  · by_cases hf : b + u ≤ y ∧ y + 1 < b + s
    · omega
    · have hv : firstW b u s y = 0 := by
        unfold firstW
        rw [if_neg (by omega), if_neg (by omega), if_neg hf]
      omega
  · subst h2
    have hv : firstW b u s 3 = if 0 < u then 1 else 0 := rfl
    by_cases h0 : 0 < u
    · rw [if_pos h0] at hv; omega
    · rw [if_neg h0] at hv; omega
  · subst h2
    have hv : firstW b u s 4 = if 0 < u then 1 else 0 := rfl
    by_cases h0 : 0 < u
    · rw [if_pos h0] at hv; omega
    · rw [if_neg h0] at hv; omega
  · have hv : firstW b u s y = 0 := by
      unfold firstW
      rw [if_neg (by omega), if_neg (by omega), if_neg (by omega)]
    have e1 : (r == 10) = false := by simpa using h1
    have e2 : (r == 4) = false := by simpa using h2
    have e3 : (r == 5) = false := by simpa using h3
    by_cases h0 : (0 : Int) < u
    · exact .inr (.inr (.inr (.inr (.inr (.inr (.inr (.inr (.inr (.inl ⟨e1, e2, e3, h0, hv⟩)))))))))
    · exact .inr (.inr (.inr (.inr (.inr (.inr (.inr (.inr (.inr (.inr ⟨e1, e2, e3, h0, hv⟩)))))))))

set_option maxRecDepth 100000 in
set_option maxHeartbeats 8000000 in
theorem wordChain_walk (a0 a1 a2 a3 a4 a5 a6 u : Int) (w : World) : Calls Try.prog 12 #[.agg #[.int .i64 a0, .int .i64 a1, .int .i64 a2, .int .i64 a3, .int .i64 a4, .int .i64 a5, .int .i64 a6], .int .i64 u] w fun e w' => e = .returned (.bool true) ∧ Below w.heap.size w w' := by
  go_enter Try.func12, Try.ntmps12
  go_upto_region 1 with (fail)
  go_cut [33] (fun t wx => t = .bool (notSo a0 a1 a2 a3 a4 a5 a6 u) ∧ ∃ os d, wx = (w.alloc (.cells #[.int .i64 a0, .int .i64 a1, .int .i64 a2, .int .i64 a3, .int .i64 a4, .int .i64 a5, .int .i64 a6] 28)).more os d)
  case first =>
    have e2 : cfgErr a0 a1 a2 a3 a4 a5 a6 = if okCfg a0 a1 a2 a3 a4 a5 a6 then 0 else 1 := rfl
    cases hok : okCfg a0 a1 a2 a3 a4 a5 a6
    all_goals
      simp only [hok, Bool.false_eq_true, ↓reduceIte] at e2
    · have E := Lib.hid (show notSo a0 a1 a2 a3 a4 a5 a6 u = true by simp [notSo, hok])
      go_wp2_with (go_at_call 16; refine (check_any _ _ _ _ _ _ _ _).mono ?_; rintro e w1 ⟨rfl, hb1⟩; obtain ⟨os, d, rfl⟩ := hb1.more; clear hb1)
      go_meet
      exact ⟨by rw [E.out], RowKit.Below.more (by repeat (first | exact Below.refl _ _ | apply Below.drew | apply Below.more1 | apply Below.alloc1))⟩
    · have hcase : u < 0 ∨ (0 ≤ u ∧ a5 < u) ∨ (0 ≤ u ∧ u ≤ a5) := by omega
      rcases hcase with hu | ⟨hu0, hu⟩ | ⟨hu0, hu⟩
      · have E := Lib.hid (show notSo a0 a1 a2 a3 a4 a5 a6 u = true by simp [notSo, hok, hu])
        go_wp2_with (go_at_call 16; refine (check_any _ _ _ _ _ _ _ _).mono ?_; rintro e w1 ⟨rfl, hb1⟩; obtain ⟨os, d, rfl⟩ := hb1.more; clear hb1)
        go_meet
        exact ⟨by rw [E.out], RowKit.Below.more (by repeat (first | exact Below.refl _ _ | apply Below.drew | apply Below.more1 | apply Below.alloc1))⟩
      · have E := Lib.hid (show notSo a0 a1 a2 a3 a4 a5 a6 u = true by simp [notSo, hok, hu])
        go_wp2_with (go_at_call 16; refine (check_any _ _ _ _ _ _ _ _).mono ?_; rintro e w1 ⟨rfl, hb1⟩; obtain ⟨os, d, rfl⟩ := hb1.more; clear hb1)
        go_meet
        exact ⟨by rw [E.out], RowKit.Below.more (by repeat (first | exact Below.refl _ _ | apply Below.drew | apply Below.more1 | apply Below.alloc1))⟩
      · have E := Lib.hid (show notSo a0 a1 a2 a3 a4 a5 a6 u = false by simp [notSo, hok]; omega)
        have d1 : decide (u < 0) = false := by simp; omega
        have d2 : decide (a5 < u) = false := by simp; omega
        go_wp2_with (go_at_call 16; refine (check_any _ _ _ _ _ _ _ _).mono ?_; rintro e w1 ⟨rfl, hb1⟩; obtain ⟨os, d, rfl⟩ := hb1.more; clear hb1)
        go_meet
        exact ⟨by rw [E.out], RowKit.Below.more (by repeat (first | exact Below.refl _ _ | apply Below.drew | apply Below.more1 | apply Below.alloc1))⟩
  case rest =>
    obtain ⟨rfl, os, d, rfl⟩ := hcut
    go_upto_if 33 with (fail)
    go_cut [1] (fun t wx => ∃ (b0 b1 b2 b3 b4 b5 b6 : Int) (v : Nat), t = .int .i64 (v : Int) ∧ okCfg b0 b1 b2 b3 b4 b5 b6 = true ∧ (v : Int) ≤ b5 ∧ ∃ os d, wx = (w.alloc (.cells #[.int .i64 b0, .int .i64 b1, .int .i64 b2, .int .i64 b3, .int .i64 b4, .int .i64 b5, .int .i64 b6] 28)).more os d)
    case first =>
      cases hns : notSo a0 a1 a2 a3 a4 a5 a6 u
      · have hns' := hns
        simp only [notSo, Bool.or_eq_false_iff, Bool.not_eq_false', decide_eq_false_iff_not] at hns'
        obtain ⟨v, rfl⟩ : ∃ v : Nat, u = (v : Int) := ⟨u.toNat, by omega⟩
        have hok := Lib.hid hns'.1.1
        have hv : (v : Int) ≤ a5 := by omega
        clear hns'
        go_wp2
        go_meet
        exact ⟨_, _, _, _, _, _, _, _, rfl, hok.out, hv, RowKit.Below.more (by repeat (first | exact Below.refl _ _ | apply Below.drew | apply Below.more1 | apply Below.alloc1))⟩
      · go_wp2_with (go_at_call 17; refine (small_any _).mono ?_; rintro e w1 ⟨rfl, hb1⟩; obtain ⟨os, d, rfl⟩ := hb1.more; clear hb1)
        go_meet
        exact ⟨2, 2, 3, 1, 0, 4, 2, 1, rfl, by decide, by omega, RowKit.Below.more (by repeat (first | exact Below.refl _ _ | apply Below.drew | apply Below.more1 | apply Below.alloc1))⟩
    case rest =>
      obtain ⟨a0, a1, a2, a3, a4, a5, a6, u, rfl, hok, hu, os, d, rfl⟩ := hcut
      obtain ⟨b, n, s, hs, hn, hb, h1, h2, h3, h4⟩ := first_nums hok
      have hus : u ≤ s := by have := hs.out; omega
      have HF := Lib.hid (fun w => first_ok a0 a1 a2 a3 a4 a5 a6 u b n s hok hs hus hn hb h1 h2 h3 w)
      have HZ := Lib.hid (fun w => by have := size_ok a0 a1 a2 a3 a4 a5 a6 hok w; rw [hn.out] at this; exact this)
      have HAT := Lib.hid (fun y (hy : y < n) => chain_at hok hs.out hn.out hb.out hy)
      have HAD := Lib.hid (fun (k : Nat) (hk : k < s) w => by
        have := addr_ok _ _ _ _ _ _ _ 10 k 0 hok (by have := hs.out; simp [addrOk, manyI]; omega) w
        rw [show addrAt a1 a2 a5 a6 10 (k : Int) 0 = ((b + k : Nat) : Int) by have := hb.out; simp [addrAt] at this ⊢; omega] at this
        exact this)
      obtain rfl : a5 = (s : Int) := hs.out
      have Hok := Lib.hid hok
      clear hok hu
      have Hus := Lib.hid hus
      clear hus
      go_wp2_with fail
      refine (HF.out _).mono ?_; rintro e w1 ⟨osA, dA, osA', dA', rfl, rfl⟩
      go_wp2_with fail
      have st : ChSt w w.heap.size (w.heap.size + 1 + os.size + osA.size) n a0 a1 a2 a3 a4 s a6 (firstW b u s) (((((w.alloc (.cells #[.int .i64 a0, .int .i64 a1, .int .i64 a2, .int .i64 a3, .int .i64 a4, .int .i64 s, .int .i64 a6] 28)).more os d).more osA dA).alloc (.cells (intCells .u64 n (firstW b u s)) 23)).more osA' dA') :=
        ⟨by repeat (first | (refine RowX.made _ _ _ _ ?_; simp [go_sem]; done) | apply RowX.more | apply RowX.alloc), by repeat (first | exact heap_alloc_new _ _ | rw [World.heap_more _ _ _ _ (by simp [go_sem] <;> omega)] | rw [Below.heap_alloc _ _ _ (by simp [go_sem] <;> omega)]), (by repeat (first | exact Below.refl _ _ | apply Below.drew | apply Below.more1 | apply Below.alloc1))⟩
      have hAx : w.heap.size < w.heap.size + 1 + os.size + osA.size := by omega
      generalize w.heap.size + 1 + os.size + osA.size = A at *
      generalize (((((w.alloc (.cells #[.int .i64 a0, .int .i64 a1, .int .i64 a2, .int .i64 a3, .int .i64 a4, .int .i64 s, .int .i64 a6] 28)).more os d).more osA dA).alloc (.cells (intCells .u64 n (firstW b u s)) 23)).more osA' dA') = wy at *
      obtain ⟨lx, x0, x1, x2, x3, x4, x5, x6⟩ := st.cfg
      have r0 := st.row 0 (by omega)
      obtain ⟨lA, r0⟩ := r0
      have hs1 : s ≤ 1024 := by obtain ⟨_, _, _, _, _, b5, _⟩ := ok_bounds Hok.out; omega
      obtain ⟨hv1, hv2, hv3⟩ := nxt_zero b u s hs1 Hus.out
      generalize firstW b u s 0 = v0 at r0 hv1 hv2 hv3
      have Hv1 := Lib.hid hv1
      clear hv1
      refine (HZ.out _).mono ?_; rintro e w1 ⟨rfl, hb1⟩; obtain ⟨osZ, dZ, rfl⟩ := hb1.more; clear hb1
      go_wp2_with (go_at_call 28; refine (unheadW v0 hv2 hv3 _).mono ?_; rintro e w1 ⟨rfl, rfl⟩)
      replace st := st.more osZ dZ
      clear lx x0 x1 x2 x3 x4 x5 x6 lA r0
      go_loopg [10, 11] (s - u) (fun g nx sl wz => ∃ k : Nat, u ≤ k ∧ k ≤ s ∧ s ≤ k + g ∧ nx = .int .i64 (nxt s k) ∧ sl = .int .i64 (k : Int) ∧ ChSt w w.heap.size A n a0 a1 a2 a3 a4 s a6 (firstW b u s) wz)
      case atStart => exact ⟨u, Nat.le_refl _, Hus.out, by omega, by rw [Hv1.out], rfl, st⟩
      case round =>
        clear st hv2 hv3
        obtain ⟨k, hku, hks, hg, rfl, rfl, st⟩ := hrel
        obtain ⟨lx, x0, x1, x2, x3, x4, x5, x6⟩ := st.cfg
        by_cases hlk : k < s
        · have e : nxt s k = k := by unfold nxt; rw [if_pos hlk]
          obtain ⟨lA, cA⟩ := st.row (b + k) (by omega)
          obtain ⟨hu1, hu2, hu3⟩ := nxt_word h1 k hku hlk hs1
          generalize firstW b u s (b + k) = v at cA hu1 hu2 hu3
          have Hu1 := Lib.hid hu1
          clear hu1
          go_wp2_with (first
            | (go_at_call 32; (with_reducible refine (HAD.out k hlk _).mono ?_); rintro e w1 ⟨rfl, hb1⟩; obtain ⟨osQ, dQ, rfl⟩ := hb1.more; clear hb1)
            | (go_at_call 22; refine (unlinkW v hu2 hu3 _).mono ?_; rintro e w1 ⟨rfl, rfl⟩))
          go_roundg (s - (k + 1))
          case measure => omega
          case rel => exact ⟨k + 1, by omega, by omega, by omega, by rw [Hu1.out], by go_num, st.more _ _⟩
        · obtain rfl : s = k := by omega
          have e : nxt s s = -1 := by unfold nxt; rw [if_neg hlk]
          go_wp2
          go_loopg [16] n (fun g sl wz => ∃ y : Nat, 1 ≤ y ∧ y ≤ n ∧ n ≤ y + g ∧ sl = .int .i64 (y : Int) ∧ ChSt w w.heap.size A n a0 a1 a2 a3 a4 s a6 (firstW b u s) wz)
          case atStart => exact ⟨1, by omega, by omega, by omega, rfl, st⟩
          case round =>
            clear st e lx x0 x1 x2 x3 x4 x5 x6
            obtain ⟨y, hy1, hyn, hg, rfl, st⟩ := hrel
            obtain ⟨lx, x0, x1, x2, x3, x4, x5, x6⟩ := st.cfg
            by_cases hlk : y < n
            · obtain ⟨lA, cA⟩ := st.row y hlk
              obtain ⟨r, i, kk, hat, hc⟩ := HAT.out y hlk
              have hcase := chain_case h1 hy1 Hus.out hc
              clear hc
              have HA := Lib.hid hat
              clear hat
              generalize firstW b u s y = v at cA hcase
              unfold ChainCase at hcase
              rcases hcase with ⟨rfl, c1, c2, rfl⟩ | ⟨rfl, c1, c2, c3, rfl⟩ | ⟨rfl, c1, c2, c3⟩ | ⟨rfl, c1, c2, c3, rfl⟩ | ⟨rfl, c1, c2, c3⟩ | ⟨rfl, c1, rfl⟩ | ⟨rfl, c1, rfl⟩ | ⟨rfl, c1, rfl⟩ | ⟨rfl, c1, rfl⟩ | ⟨q1, q2, q3, c1, rfl⟩ | ⟨q1, q2, q3, c1, rfl⟩
              all_goals
                go_wp2_with (go_at_call 33; refine (HA.out _).mono ?_; rintro e w1 ⟨rfl, hb1⟩; obtain ⟨osQ, dQ, rfl⟩ := hb1.more; clear hb1)
                go_roundg (n - (y + 1))
                case measure => omega
                case rel => exact ⟨y + 1, by omega, by omega, by omega, by go_num, (st.more _ _).alloc _⟩
            · go_wp2
              go_ret
              exact ⟨rfl, st.bel⟩
end Go.Proofs.Ytaokjiajceefaaa
