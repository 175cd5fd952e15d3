/-
A machine takes 65536 moves and no more; 65516 moves of bumps by both threads in turn begin ten thousand calls (MachineFull). Plain.
-/
import Derived.Test.YtbhbpfpggfcpgaaQInS
namespace Go
open Go.RowKit
open Go.Proofs.Ytbhbpfpggfcpgaa

theorem pm_moves {K : Kits} (ms : List Mv) : ∀ p : PM K, p.moves ≤ 65536 → (p.goes ms).moves = min (p.moves + ms.length) 65536 := by
  induction ms with
  | nil => intro p h; show p.moves = _; simp; omega
  | cons m ms ih =>
    intro p h
    have hm : (p.move m).1.moves = min (p.moves + 1) 65536 := by
      rcases p.move_cases m with ⟨h1, e⟩ | ⟨h1, e⟩ | ⟨h1, i, se, t, _, _, _, _, e⟩ | ⟨h1, i, se, t, _, _, _, _, _, e⟩
      · rw [e]; show p.moves = _; omega
      · rw [e]; show p.moves + 1 = _; omega
      · rw [e]; show p.moves + 1 = _; omega
      · rw [e]; show p.moves + 1 = _; omega
    have := ih (p.move m).1 (by rw [hm]; omega)
    show ((p.move m).1.goes ms).moves = _
    rw [this, hm]
    simp only [List.length_cons]
    omega
theorem pm_full {K : Kits} (p : PM K) (h : 65536 ≤ p.moves) (mv : Mv) : p.move mv = (p, false) := by
  unfold PM.move; rw [if_pos h]

/-- the moves of the law: bumps by both in turn -/
def bothMv (i : Nat) : Mv := ⟨(i % 2 : Nat), if i % 8 < 2 then 2 else 0, 0, 0⟩
def bothMs (k : Nat) : List Mv := (List.range k).map bothMv
theorem bothMs_len (k : Nat) : (bothMs k).length = k := by simp [bothMs]
theorem bothMs_succ (k : Nat) : bothMs (k + 1) = bothMs k ++ [bothMv k] := by simp [bothMs, List.range_succ]

structure Bt (o : OS) (w : Int) (t0 t1 : Option Tk) (c m : Nat) : Prop where
  words : o.words = [w]
  seats : ∃ a b, o.seats = [⟨t0, a⟩, ⟨t1, b⟩]
  calls : o.calls.length = c
  moves : o.moves = m

section
variable {o : OS} {w : Int} {t0 t1 : Option Tk} {c m : Nat}
theorem Bt.at (h : Bt o w t0 t1 c m) : o.at 0 = w := by unfold OS.at; rw [h.words]; rfl
theorem Bt.b0 (h : Bt o w none t1 c m) (hm : m < 65536) : Bt (o.move 1 ⟨0, 2, 0, 0⟩).1 w (some (.bump 0 0 false)) t1 (c + 1) (m + 1) := by
  obtain ⟨h1, ⟨a, b, h2⟩, h3, h4⟩ := h
  have : o.move 1 ⟨0, 2, 0, 0⟩ = (o.begin 0 ⟨0, 2, 0, 0⟩ (.bump 0 0 false), true) := by
    unfold OS.move
    rw [if_neg (by omega), if_neg (by decide), h2]
    rfl
  rw [this]
  exact ⟨h1, ⟨_, _, by simp only [OS.begin, h2]; rfl⟩, by simp only [OS.begin]; simp [h3], by simp only [OS.begin]; omega⟩
theorem Bt.b1 (h : Bt o w t0 none c m) (hm : m < 65536) : Bt (o.move 1 ⟨1, 2, 0, 0⟩).1 w t0 (some (.bump 0 0 false)) (c + 1) (m + 1) := by
  obtain ⟨h1, ⟨a, b, h2⟩, h3, h4⟩ := h
  have : o.move 1 ⟨1, 2, 0, 0⟩ = (o.begin 1 ⟨1, 2, 0, 0⟩ (.bump 0 0 false), true) := by
    unfold OS.move
    rw [if_neg (by omega), if_neg (by decide), h2]
    rfl
  rw [this]
  exact ⟨h1, ⟨_, _, by simp only [OS.begin, h2]; rfl⟩, by simp only [OS.begin]; simp [h3], by simp only [OS.begin]; omega⟩
theorem Bt.x0 {t : Tk} (h : Bt o w (some t) t1 c m) (hm : m < 65536) : Bt (o.move 1 ⟨0, 2, 0, 0⟩).1 w (some t) t1 c (m + 1) := by
  obtain ⟨h1, ⟨a, b, h2⟩, h3, h4⟩ := h
  have : o.move 1 ⟨0, 2, 0, 0⟩ = (o.skip, false) := by
    unfold OS.move
    rw [if_neg (by omega), if_neg (by decide), h2]
    rfl
  rw [this]
  exact ⟨h1, ⟨_, _, h2⟩, h3, by simp only [OS.skip]; omega⟩
theorem Bt.x1 {t : Tk} (h : Bt o w t0 (some t) c m) (hm : m < 65536) : Bt (o.move 1 ⟨1, 2, 0, 0⟩).1 w t0 (some t) c (m + 1) := by
  obtain ⟨h1, ⟨a, b, h2⟩, h3, h4⟩ := h
  have : o.move 1 ⟨1, 2, 0, 0⟩ = (o.skip, false) := by
    unfold OS.move
    rw [if_neg (by omega), if_neg (by decide), h2]
    rfl
  rw [this]
  exact ⟨h1, ⟨_, _, h2⟩, h3, by simp only [OS.skip]; omega⟩
theorem Bt.n0 (h : Bt o w none t1 c m) (hm : m < 65536) : Bt (o.move 1 ⟨0, 0, 0, 0⟩).1 w none t1 c (m + 1) := by
  obtain ⟨h1, ⟨a, b, h2⟩, h3, h4⟩ := h
  have : o.move 1 ⟨0, 0, 0, 0⟩ = (o.skip, false) := by
    unfold OS.move
    rw [if_neg (by omega), if_neg (by decide), h2]
    rfl
  rw [this]
  exact ⟨h1, ⟨_, _, h2⟩, h3, by simp only [OS.skip]; omega⟩
theorem Bt.n1 (h : Bt o w t0 none c m) (hm : m < 65536) : Bt (o.move 1 ⟨1, 0, 0, 0⟩).1 w t0 none c (m + 1) := by
  obtain ⟨h1, ⟨a, b, h2⟩, h3, h4⟩ := h
  have : o.move 1 ⟨1, 0, 0, 0⟩ = (o.skip, false) := by
    unfold OS.move
    rw [if_neg (by omega), if_neg (by decide), h2]
    rfl
  rw [this]
  exact ⟨h1, ⟨_, _, h2⟩, h3, by simp only [OS.skip]; omega⟩
theorem s0_eq {t : Tk} {a : Int} (hs : o.seats[0]? = some ⟨some t, a⟩) (hm : o.moves < 65536) : o.move 1 ⟨0, 0, 0, 0⟩ = (o.step 0 ⟨some t, a⟩ t, true) := by
  unfold OS.move
  rw [if_neg (by omega), if_neg (by decide)]
  show (match o.seats[0]? with | none => _ | some se => _) = _
  rw [hs]
  rfl
theorem s1_eq {t : Tk} {a : Int} (hs : o.seats[1]? = some ⟨some t, a⟩) (hm : o.moves < 65536) : o.move 1 ⟨1, 0, 0, 0⟩ = (o.step 1 ⟨some t, a⟩ t, true) := by
  unfold OS.move
  rw [if_neg (by omega), if_neg (by decide)]
  show (match o.seats[1]? with | none => _ | some se => _) = _
  rw [hs]
  rfl
theorem Bt.l0 {s : Int} (h : Bt o w (some (.bump 0 s false)) t1 c m) (hm : m < 65536) : Bt (o.move 1 ⟨0, 0, 0, 0⟩).1 w (some (.bump 0 w true)) t1 c (m + 1) := by
  have hat := h.at
  obtain ⟨h1, ⟨a, b, h2⟩, h3, h4⟩ := h
  rw [s0_eq (by rw [h2]; rfl) (by omega)]
  exact ⟨h1, ⟨_, _, by simp only [OS.step, h2, hat]; rfl⟩, h3, by simp only [OS.step]; omega⟩
theorem Bt.l1 {s : Int} (h : Bt o w t0 (some (.bump 0 s false)) c m) (hm : m < 65536) : Bt (o.move 1 ⟨1, 0, 0, 0⟩).1 w t0 (some (.bump 0 w true)) c (m + 1) := by
  have hat := h.at
  obtain ⟨h1, ⟨a, b, h2⟩, h3, h4⟩ := h
  rw [s1_eq (by rw [h2]; rfl) (by omega)]
  exact ⟨h1, ⟨_, _, by simp only [OS.step, h2, hat]; rfl⟩, h3, by simp only [OS.step]; omega⟩
theorem Bt.y0 (h : Bt o w (some (.bump 0 w true)) t1 c m) (hm : m < 65536) : Bt (o.move 1 ⟨0, 0, 0, 0⟩).1 (IntKind.u64.wrap (w + 1)) none t1 c (m + 1) := by
  have hat := h.at
  obtain ⟨h1, ⟨a, b, h2⟩, h3, h4⟩ := h
  rw [s0_eq (by rw [h2]; rfl) (by omega)]
  simp only [OS.step, hat, if_true]
  exact ⟨by rw [h1]; rfl, ⟨_, _, by rw [h2]; rfl⟩, by simp [OS.ends, h3], by show o.moves + 1 = _; omega⟩
theorem Bt.y1 (h : Bt o w t0 (some (.bump 0 w true)) c m) (hm : m < 65536) : Bt (o.move 1 ⟨1, 0, 0, 0⟩).1 (IntKind.u64.wrap (w + 1)) t0 none c (m + 1) := by
  have hat := h.at
  obtain ⟨h1, ⟨a, b, h2⟩, h3, h4⟩ := h
  rw [s1_eq (by rw [h2]; rfl) (by omega)]
  simp only [OS.step, hat, if_true]
  exact ⟨by rw [h1]; rfl, ⟨_, _, by rw [h2]; rfl⟩, by simp [OS.ends, h3], by show o.moves + 1 = _; omega⟩
theorem Bt.f0 {s : Int} (h : Bt o w (some (.bump 0 s true)) t1 c m) (hne : w ≠ s) (hm : m < 65536) : Bt (o.move 1 ⟨0, 0, 0, 0⟩).1 w (some (.bump 0 s false)) t1 c (m + 1) := by
  have hat := h.at
  obtain ⟨h1, ⟨a, b, h2⟩, h3, h4⟩ := h
  rw [s0_eq (by rw [h2]; rfl) (by omega)]
  simp only [OS.step, hat, if_neg hne]
  exact ⟨h1, ⟨_, _, by rw [h2]; rfl⟩, h3, by show o.moves + 1 = _; omega⟩
theorem Bt.f1 {s : Int} (h : Bt o w t0 (some (.bump 0 s true)) c m) (hne : w ≠ s) (hm : m < 65536) : Bt (o.move 1 ⟨1, 0, 0, 0⟩).1 w t0 (some (.bump 0 s false)) c (m + 1) := by
  have hat := h.at
  obtain ⟨h1, ⟨a, b, h2⟩, h3, h4⟩ := h
  rw [s1_eq (by rw [h2]; rfl) (by omega)]
  simp only [OS.step, hat, if_neg hne]
  exact ⟨h1, ⟨_, _, by rw [h2]; rfl⟩, h3, by show o.moves + 1 = _; omega⟩
end

theorem wrap_few (w : Int) (h0 : 0 ≤ w) (h1 : w < 1000000) : IntKind.u64.wrap (w + 1) = w + 1 := by
  have := IntWalk.u64_in (w + 1) (by omega)
  exact this

theorem bothMv_at (q j : Nat) : bothMv (24 * q + j) = bothMv j := by
  unfold bothMv
  rw [show (24 * q + j) % 2 = j % 2 by omega, show (24 * q + j) % 8 = j % 8 by omega]

theorem goes_next (o : OS) (k : Nat) : o.goes 1 (bothMs (k + 1)) = ((o.goes 1 (bothMs k)).move 1 (bothMv k)).1 := by rw [bothMs_succ, OS.goes_snoc]

/-- twenty-four moves: four bumps -/
theorem both24 (q : Nat) (w c : Nat) (hw : w < 100000) (hq : 24 * (q + 1) ≤ 65536) (h : Bt (osOf [0] 2 (bothMs (24 * q))) w none none c (24 * q)) : Bt (osOf [0] 2 (bothMs (24 * (q + 1)))) ((w + 4 : Nat) : Int) none none (c + 4) (24 * (q + 1)) := by
  have nx : ∀ j, osOf [0] 2 (bothMs (24 * q + (j + 1))) = ((osOf [0] 2 (bothMs (24 * q + j))).move 1 (bothMv j)).1 := fun j => by
    rw [show 24 * q + (j + 1) = 24 * q + j + 1 by omega, bothMs_succ, osOf_snoc, bothMv_at]; rfl
  have w1 : IntKind.u64.wrap ((w : Int) + 1) = (w : Int) + 1 := wrap_few _ (by omega) (by omega)
  have w2 : IntKind.u64.wrap ((w : Int) + 1 + 1) = (w : Int) + 1 + 1 := wrap_few _ (by omega) (by omega)
  have w3 : IntKind.u64.wrap ((w : Int) + 1 + 1 + 1) = (w : Int) + 1 + 1 + 1 := wrap_few _ (by omega) (by omega)
  have w4 : IntKind.u64.wrap ((w : Int) + 1 + 1 + 1 + 1) = (w : Int) + 1 + 1 + 1 + 1 := wrap_few _ (by omega) (by omega)
  have h0 : Bt (osOf [0] 2 (bothMs (24 * q + 0))) w none none c (24 * q) := h
  have a1 := h0.b0 (by omega)
  rw [show (⟨0, 2, 0, 0⟩ : Mv) = bothMv 0 from rfl, ← nx 0] at a1
  have a2 := a1.b1 (by omega)
  rw [show (⟨1, 2, 0, 0⟩ : Mv) = bothMv 1 from rfl, ← nx 1] at a2
  have a3 := a2.l0 (by omega)
  rw [show (⟨0, 0, 0, 0⟩ : Mv) = bothMv 2 from rfl, ← nx 2] at a3
  have a4 := a3.l1 (by omega)
  rw [show (⟨1, 0, 0, 0⟩ : Mv) = bothMv 3 from rfl, ← nx 3] at a4
  have a5 := a4.y0 (by omega)
  rw [show (⟨0, 0, 0, 0⟩ : Mv) = bothMv 4 from rfl, ← nx 4, w1] at a5
  have a6 := a5.f1 (by omega) (by omega)
  rw [show (⟨1, 0, 0, 0⟩ : Mv) = bothMv 5 from rfl, ← nx 5] at a6
  have a7 := a6.n0 (by omega)
  rw [show (⟨0, 0, 0, 0⟩ : Mv) = bothMv 6 from rfl, ← nx 6] at a7
  have a8 := a7.l1 (by omega)
  rw [show (⟨1, 0, 0, 0⟩ : Mv) = bothMv 7 from rfl, ← nx 7] at a8
  have a9 := a8.b0 (by omega)
  rw [show (⟨0, 2, 0, 0⟩ : Mv) = bothMv 8 from rfl, ← nx 8] at a9
  have a10 := a9.x1 (by omega)
  rw [show (⟨1, 2, 0, 0⟩ : Mv) = bothMv 9 from rfl, ← nx 9] at a10
  have a11 := a10.l0 (by omega)
  rw [show (⟨0, 0, 0, 0⟩ : Mv) = bothMv 10 from rfl, ← nx 10] at a11
  have a12 := a11.y1 (by omega)
  rw [show (⟨1, 0, 0, 0⟩ : Mv) = bothMv 11 from rfl, ← nx 11, w2] at a12
  have a13 := a12.f0 (by omega) (by omega)
  rw [show (⟨0, 0, 0, 0⟩ : Mv) = bothMv 12 from rfl, ← nx 12] at a13
  have a14 := a13.n1 (by omega)
  rw [show (⟨1, 0, 0, 0⟩ : Mv) = bothMv 13 from rfl, ← nx 13] at a14
  have a15 := a14.l0 (by omega)
  rw [show (⟨0, 0, 0, 0⟩ : Mv) = bothMv 14 from rfl, ← nx 14] at a15
  have a16 := a15.n1 (by omega)
  rw [show (⟨1, 0, 0, 0⟩ : Mv) = bothMv 15 from rfl, ← nx 15] at a16
  have a17 := a16.x0 (by omega)
  rw [show (⟨0, 2, 0, 0⟩ : Mv) = bothMv 16 from rfl, ← nx 16] at a17
  have a18 := a17.b1 (by omega)
  rw [show (⟨1, 2, 0, 0⟩ : Mv) = bothMv 17 from rfl, ← nx 17] at a18
  have a19 := a18.y0 (by omega)
  rw [show (⟨0, 0, 0, 0⟩ : Mv) = bothMv 18 from rfl, ← nx 18, w3] at a19
  have a20 := a19.l1 (by omega)
  rw [show (⟨1, 0, 0, 0⟩ : Mv) = bothMv 19 from rfl, ← nx 19] at a20
  have a21 := a20.n0 (by omega)
  rw [show (⟨0, 0, 0, 0⟩ : Mv) = bothMv 20 from rfl, ← nx 20] at a21
  have a22 := a21.y1 (by omega)
  rw [show (⟨1, 0, 0, 0⟩ : Mv) = bothMv 21 from rfl, ← nx 21, w4] at a22
  have a23 := a22.n0 (by omega)
  rw [show (⟨0, 0, 0, 0⟩ : Mv) = bothMv 22 from rfl, ← nx 22] at a23
  have a24 := a23.n1 (by omega)
  rw [show (⟨1, 0, 0, 0⟩ : Mv) = bothMv 23 from rfl, ← nx 23] at a24
  have e : (24 * q + (23 + 1)) = 24 * (q + 1) := by omega
  rw [e] at a24
  exact ⟨by rw [a24.words]; congr 1, a24.seats, by rw [a24.calls], by rw [a24.moves]⟩

theorem both_at (q : Nat) (hq : 24 * q ≤ 65536) : Bt (osOf [0] 2 (bothMs (24 * q))) ((4 * q : Nat) : Int) none none (4 * q) (24 * q) := by
  induction q with
  | zero => exact ⟨rfl, ⟨-1, -1, rfl⟩, rfl, rfl⟩
  | succ q ih =>
    have := both24 q (4 * q) (4 * q) (by omega) hq (ih (by omega))
    exact this
theorem calls_mono (size : Int) (ms : List Mv) : ∀ o : OS, o.calls.length ≤ (o.goes size ms).calls.length := by
  induction ms with
  | nil => intro o; exact Nat.le_refl _
  | cons m ms ih =>
    intro o
    refine Nat.le_trans ?_ (ih (o.move size m).1)
    rcases o.move_cases size m with ⟨_, e⟩ | ⟨_, e⟩ | ⟨_, i, se, t, _, _, _, _, e⟩ | ⟨_, i, se, t, _, _, _, _, _, e⟩
    · rw [e]; exact Nat.le_refl _
    · rw [e]; exact Nat.le_refl _
    · rw [e]
      unfold OS.step
      split
      · simp [OS.ends]
      · simp
      · split
        · simp [OS.ends]
        · simp
    · rw [e]
      simp [OS.begin]
theorem both_more (q k : Nat) (hq : 24 * q ≤ 65536) (hk : 24 * q ≤ k) : 4 * q ≤ (osOf [0] 2 (bothMs k)).calls.length := by
  have h := (both_at q hq).calls
  generalize 24 * q = K at *
  have hs : bothMs k = bothMs K ++ (bothMs k).drop K := by
    have : bothMs K = (bothMs k).take K := by
      unfold bothMs
      rw [← List.map_take, List.take_range]
      congr 2
      omega
    rw [this, List.take_append_drop]
  have := calls_mono (([0] : List Int).length : Int) ((bothMs k).drop K) (osOf [0] 2 (bothMs K))
  rw [hs]
  unfold osOf at this h ⊢
  rw [OS.goes_append]
  omega
theorem both_many (k : Nat) (hk : 65500 ≤ k) : 10000 ≤ (osOf [0] 2 (bothMs k)).calls.length := by
  have := both_more 2729 k (by omega) (by omega)
  omega
end Go
