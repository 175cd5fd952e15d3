/-
reclaimlaw02: access, sameWords, writes.
-/
import Derived.Test.YtpmadfokpimjcaaMemD
import Derived.Deep.LoopGhost
import Derived.BigQuiet
namespace Go.Proofs.Ytpmadfokpimjcaa
open Go.ChangeShapes Go.WideShapes Go.ChangeAt Go.RowKit

/-- a call of a script -/
structure OpS where
  kd : Int
  th : Int
  ad : Int
  n : Int
  old : Int
  w : Int
def OpS.val (o : OpS) : Value := .agg #[.int .i64 o.kd, .int .i64 o.th, .int .i64 o.ad, .int .i64 o.n, .int .u64 o.old, .int .u64 o.w]
def accF (st : MemS) (o : OpS) : MemS :=
  if 0 ≤ o.ad ∧ o.ad < (st.words.length : Int) then
    if o.kd.tmod 3 = 0 then st.load o.th o.ad.toNat else if o.kd.tmod 3 = 1 ∨ o.kd.tmod 3 = -1 then st.store o.th o.ad.toNat o.w else st.swap o.th o.ad.toNat o.old o.w
  else st

theorem MemOut.same {w w' : World} {base mb : Nat} {st : MemS} {v : MemV} (h : MemAt w base mb st v) (ho : Only (fun _ => False) w w') : MemOut w base mb v st w' :=
  ⟨v, h.only ho (fun _ _ x => x), ho.mono (fun _ _ x => x.elim), fun _ hk => .inl hk⟩

theorem tmod3 (x : Int) : x.tmod 3 = 0 ∨ x.tmod 3 = 1 ∨ x.tmod 3 = -1 ∨ x.tmod 3 = 2 ∨ x.tmod 3 = -2 := by
  rcases Int.lt_or_le x 0 with h | h
  · obtain ⟨y, rfl⟩ : ∃ y : Int, x = -y := ⟨-x, by omega⟩
    rw [Int.neg_tmod, Int.tmod_eq_emod_of_nonneg (by omega)]
    omega
  · rw [Int.tmod_eq_emod_of_nonneg h]
    omega

set_option maxRecDepth 100000 in
set_option maxHeartbeats 2000000 in
theorem access_any {w : World} {base mb : Nat} {st : MemS} {v : MemV} (h : MemAt w base mb st v) (hl1 : st.log.length ≤ 3000000000000) (hl2 : st.ahead.length ≤ 3000000000000) (k t a n old x : Int) :
    Calls Try.prog 20 #[.pointer (some ⟨mb, 0, none⟩), .agg #[.int .i64 k, .int .i64 t, .int .i64 a, .int .i64 n, .int .u64 old, .int .u64 x]] w fun e w' =>
    e = .returned (.tuple #[]) ∧ MemOut w base mb v (accF st ⟨k, t, a, n, old, x⟩) w' := by
  have hB : MemAt (w.alloc (.cells #[.int .i64 k, .int .i64 t, .int .i64 a, .int .i64 n, .int .u64 old, .int .u64 x] 38)) base mb st v := h.alloc _
  have HB := Lib.hid hB
  clear hB
  by_cases hth : 0 ≤ a ∧ a < (st.words.length : Int)
  · obtain ⟨j, rfl⟩ : ∃ j : Nat, a = (j : Int) := ⟨a.toNat, by omega⟩
    have hj : j < st.words.length := by omega
    have HE := Lib.hid (show accF st ⟨k, t, (j : Int), n, old, x⟩ = if k.tmod 3 = 0 then st.load t j else if k.tmod 3 = 1 ∨ k.tmod 3 = -1 then st.store t j x else st.swap t j old x by unfold accF; rw [if_pos hth]; rfl)
    clear hth
    rcases tmod3 k with hq | hq | hq | hq | hq
    all_goals
      have HQ := Lib.hid hq
      have HE2 := HE.out
      rw [hq] at HE2
      simp only [show ¬ (1 : Int) = 0 by decide, show ¬ (-1 : Int) = 0 by decide, show ¬ (2 : Int) = 0 by decide, show ¬ (-2 : Int) = 0 by decide, show ¬ (2 : Int) = 1 by decide, show ¬ (2 : Int) = -1 by decide, show ¬ (-2 : Int) = 1 by decide, show ¬ (-2 : Int) = -1 by decide, true_or, or_true, or_self, ↓reduceIte] at HE2
      have HE3 := Lib.hid HE2
      clear HE HE2
      go_enter Try.func20, Try.ntmps20
      go_wp2_with (first
        | (go_at_call 16; refine (load_ok HB.out hl1 hl2 t j hj).mono ?_; rintro e w1 ⟨rfl, hm⟩; have HM := Lib.hid hm; clear hm)
        | (go_at_call 36; refine (store_ok HB.out hl1 hl2 t j x hj).mono ?_; rintro e w1 ⟨rfl, hm⟩; have HM := Lib.hid hm; clear hm)
        | (go_at_call 35; refine (swap_ok HB.out hl1 hl2 t j old x hj).mono ?_; rintro e w1 ⟨rfl, hm⟩; have HM := Lib.hid hm; clear hm))
      go_end0
      exact ⟨rfl, by rw [HE3.out]; exact MemOut.pre ((Only.refl _ _).alloc _) HM.out⟩
  · have hth' : a < 0 ∨ (st.words.length : Int) ≤ a := by omega
    have HE := Lib.hid (show accF st ⟨k, t, a, n, old, x⟩ = st by unfold accF; rw [if_neg hth])
    have HT := Lib.hid hth'
    have HH := Lib.hid h
    clear hth hth' h
    rcases tmod3 k with hq | hq | hq | hq | hq
    all_goals
      go_enter Try.func20, Try.ntmps20
      go_wp2_with (first
        | (go_at_call 16; refine (load_bad HB.out t a HT.out).mono ?_; rintro e w1 ⟨rfl, rfl⟩)
        | (go_at_call 36; refine (store_bad HB.out t a x HT.out).mono ?_; rintro e w1 ⟨rfl, rfl⟩)
        | (go_at_call 35; refine (swap_bad HB.out t a old x HT.out).mono ?_; rintro e w1 ⟨rfl, rfl⟩))
      go_end0
      exact ⟨rfl, by rw [HE.out]; exact MemOut.same HH.out ((Only.refl _ _).alloc _)⟩

set_option maxRecDepth 100000 in
theorem sameWords_yes {w : World} {b1 b2 n : Nat} {v1 v2 : Value} {l : List Int} (h1 : w.RowV b1 23 1 v1 n (u64s l)) (h2 : w.RowV b2 23 1 v2 n (u64s l)) : Calls Try.prog 23 #[v1, v2] w fun e w' =>
    e = .returned (.bool true) ∧ Below w.heap.size w w' := by
  have hl : l.length = n := by have := h1.1; simpa [u64s] using this
  obtain ⟨o1, c1, rfl, q1, r1⟩ := h1.form
  obtain ⟨o2, c2, rfl, q2, r2⟩ := h2.form
  unfold maxLen at r1 r2
  have H1 := Lib.hid h1
  have H2 := Lib.hid h2
  have HL := Lib.hid hl
  clear h1 h2 hl
  have hne : ((n : Int) != (n : Int)) = false := by simp
  go_enter Try.func23, Try.ntmps23
  go_wp2
  go_loopg [5] n (fun g sl wr => ∃ k : Nat, k ≤ n ∧ n ≤ k + g ∧ sl = .int .i64 (k : Int) ∧ ∃ os d, wr = w.more os d)
  case atStart => exact ⟨0, by omega, by omega, rfl, #[], w.drawn, by simp [World.more]⟩
  case round =>
    obtain ⟨k, hk, hg, rfl, os, d, rfl⟩ := hrel
    by_cases hlk : k < n
    · obtain ⟨g1, d1, e1, _, _, s1, _, _, x1⟩ := H1.out.some_form (by omega)
      obtain ⟨g2, d2, e2, _, _, s2, _, _, x2⟩ := H2.out.some_form (by omega)
      cases e1
      cases e2
      have y1 := x1 k _ (u64s_get (by have := HL.out; omega))
      have y2 := x2 k _ (u64s_get (by have := HL.out; omega))
      clear x1 x2
      generalize l.getD k 0 = z at y1 y2
      go_wp2
      refine wp_region_more_lit (by kernel_rfl) (by kernel_rfl) ?_
      repeat (first | go_big_quiet_skip | (go_big_quiet_want; go_big_quiet_op; first | go_big_quiet_on | (apply Exists.intro; refine ⟨fun _ => ?_, ?_⟩; (focus (fail)); go_big_quiet_on)))
      refine wpQuiet_nil ?_
      intro osq dq
      go_wp2
      go_roundg (n - (k + 1))
      case measure => omega
      case rel => exact ⟨k + 1, by omega, by omega, by go_num, RowKit.Below.more (by repeat (first | exact Below.refl _ _ | apply Below.drew | apply Below.more1 | apply Below.alloc1))⟩
    · go_wp2
      go_ret
      exact ⟨rfl, (by repeat (first | exact Below.refl _ _ | apply Below.drew | apply Below.more1 | apply Below.alloc1))⟩

/-- does this access write? -/
def accWr (a : Acc) : Bool := decide (a.kd = 3) && decide (a.saw = a.old) || decide (a.kd = 2)
theorem writes_any (a : Acc) (w : World) : Calls Try.prog 22 #[.agg #[.int .i64 a.mv, .int .i64 a.th, .int .i64 a.kd, .int .i64 a.ad, .int .u64 a.old, .int .u64 a.nw, .int .u64 a.saw]] w fun e w' =>
    e = .returned (.bool (accWr a)) ∧ Below w.heap.size w w' := by
  obtain ⟨mv, th, kd, ad, old, nw, saw⟩ := a
  have E := Lib.hid (show accWr ⟨mv, th, kd, ad, old, nw, saw⟩ = (decide (kd = 3) && decide (saw = old) || decide (kd = 2)) from rfl)
  by_cases h3 : kd = 3
  · subst h3
    by_cases hs : saw = old
    · subst hs
      go_enter Try.func22, Try.ntmps22
      go_wp2
      go_ret
      exact ⟨by rw [E.out]; simp, (by repeat (first | exact Below.refl _ _ | apply Below.drew | apply Below.more1 | apply Below.alloc1))⟩
    · have hq : (saw == old) = false := by simpa using hs
      have HS := Lib.hid hs
      clear hs
      go_enter Try.func22, Try.ntmps22
      go_wp2
      go_ret
      exact ⟨by rw [E.out]; simp [HS.out], (by repeat (first | exact Below.refl _ _ | apply Below.drew | apply Below.more1 | apply Below.alloc1))⟩
  · have hq : (kd == 3) = false := by simpa using h3
    have H3 := Lib.hid h3
    clear h3
    by_cases h2 : kd = 2
    · subst h2
      go_enter Try.func22, Try.ntmps22
      go_wp2
      go_ret
      exact ⟨by rw [E.out]; simp, (by repeat (first | exact Below.refl _ _ | apply Below.drew | apply Below.more1 | apply Below.alloc1))⟩
    · have hq2 : (kd == 2) = false := by simpa using h2
      have H2 := Lib.hid h2
      clear h2
      go_enter Try.func22, Try.ntmps22
      go_wp2
      go_ret
      exact ⟨by rw [E.out]; simp [H2.out, H3.out], (by repeat (first | exact Below.refl _ _ | apply Below.drew | apply Below.more1 | apply Below.alloc1))⟩

theorem num_any (x : Int) (w : World) : Calls Try.prog 14 #[.int .i64 x] w fun e w' => e = .returned (.int .i64 x) ∧ w = w' := by
  go_enter Try.func14, Try.ntmps14
  go_wp2
  go_ret
  exact ⟨rfl, rfl⟩

theorem RowV_new {w : World} {b t k n H : Nat} {cs : Array Value} (hH : w.heap.size = H) (hb : b ≤ H) (hn : 0 < n) (hm : n ≤ maxLen) (hs : cs.size = n * k) : (w.alloc (.cells cs t)).RowV b t k (.slice (some ⟨H, 0, none⟩) n n) n cs.toList := by
  subst hH
  exact ⟨by simpa using hs, .inr ⟨_, n, cs, rfl, hb, heap_alloc_new w _, Nat.le_refl _, hn, hm, by omega, List.take_of_length_le (by simp; omega)⟩⟩

set_option maxRecDepth 100000 in
set_option maxHeartbeats 2000000 in
theorem awake_any (w : World) : Calls Try.prog 18 #[] w fun e w' => e = .returned (.bool true) ∧ Below w.heap.size w w' := by
  have hN := new_ok (w := w.alloc (.cells #[.int .u64 7, .int .u64 8] 23)) (vx := .slice (some ⟨w.heap.size, 0, none⟩) 2 2) (l := [7, 8])
    ⟨rfl, .inr ⟨_, 2, rfl, Nat.le_refl _, fun j u hu => by
      rw [add_none, cell_of_row _ _ _ _ _ (0, 0) (heap_alloc_new w (.cells #[.int .u64 7, .int .u64 8] 23))]
      simpa [u64s] using hu⟩⟩ (by decide)
  have HN := Lib.hid hN
  clear hN
  go_enter Try.func18, Try.ntmps18
  go_wp2_with fail
  refine HN.out.mono ?_
  rintro e w1 ⟨mb, v, rfl, hM, hO⟩
  have b1 : Below w.heap.size w w1 := by
    have := hO.below (B := w.heap.size) (fun _ h => h.elim) (by simp)
    exact (((Below.refl _ w).alloc1 _)).trans this
  have HM := Lib.hid hM
  have HB1 := Lib.hid b1
  have hbase : w.heap.size + 1 = (w.alloc (.cells #[.int .u64 7, .int .u64 8] 23)).heap.size := by simp
  have HS1 : Hid (Calls Try.prog 15 #[.pointer (some ⟨mb, 0, none⟩)] w1 fun e w' => e = .returned (.int .i64 2) ∧ w1 = w') := size_mem hM
  have HL1 : Hid (Calls Try.prog 16 #[.pointer (some ⟨mb, 0, none⟩), .int .i64 3, .int .i64 1] w1 fun e w' => e = .returned (.tuple #[.int .u64 8, .int .i64 0]) ∧ MemOut w1 _ mb v (MemS.load ⟨[7, 8], [], [], 0⟩ 3 1) w') := load_ok hM (by simp) (by simp) 3 1 (by decide)
  clear hM hO b1
  go_wp2_with (first
    | (go_at_call 15; refine HS1.out.mono ?_; rintro e w2 ⟨rfl, rfl⟩)
    | (go_at_call 14; refine (num_any _ _).mono ?_; rintro e w2 ⟨rfl, rfl⟩))
  refine HL1.out.mono ?_
  rintro e w2 ⟨rfl, v2, hM2, hO2, hF2⟩
  have HW2 : Hid (Calls Try.prog 35 #[.pointer (some ⟨mb, 0, none⟩), .int .i64 1, .int .i64 0, .int .u64 7, .int .u64 10] w2 fun e w' => e = .returned (.tuple #[.int .u64 7, .bool true, .int .i64 0]) ∧ MemOut w2 _ mb v2 (MemS.swap (MemS.load ⟨[7, 8], [], [], 0⟩ 3 1) 1 0 7 10) w') := swap_ok hM2 (by decide) (by decide) 1 0 7 10 (by decide)
  have b2 : Below w.heap.size w w2 := HB1.out.trans (hO2.below (fun k hk => by have := (HM.out.lt k hk).1; omega) (by have := HB1.out.size; omega))
  have HM2 := Lib.hid hM2
  have HB2 := Lib.hid b2
  clear hM2 hO2 hF2 b2
  go_wp2_with fail
  refine HW2.out.mono ?_
  rintro e w3 ⟨rfl, v3, hM3, hO3, hF3⟩
  have b3 : Below w.heap.size w w3 := HB2.out.trans (hO3.below (fun k hk => by have := (HM2.out.lt k hk).1; omega) (by have := HB2.out.size; omega))
  have HC3 : Hid (Calls Try.prog 17 #[.pointer (some ⟨mb, 0, none⟩)] w3 fun e w' => e = .returned (.int .i64 2) ∧ w3 = w') := count_mem hM3
  have HW3 : Hid (Calls Try.prog 24 #[.pointer (some ⟨mb, 0, none⟩)] w3 (Cloned w3 23 1 2 (u64s [10, 8]))) := words_mem hM3 (by decide)
  have HB3 := Lib.hid b3
  clear hM3 hO3 hF3 b3
  go_wp2_with (first
    | (go_at_call 17; refine HC3.out.mono ?_; rintro e w4 ⟨rfl, rfl⟩)
    | (go_at_call 24; refine HW3.out.mono ?_; rintro e w4 ⟨o4, c4, rfl, n4, m4, hr4, ho4⟩; have HR4 := Lib.hid hr4; have HO4 := Lib.hid ho4; clear hr4 ho4)
    | (go_at_call 14; refine (num_any _ _).mono ?_; rintro e w2 ⟨rfl, rfl⟩))
  refine (sameWords_yes (b2 := 0) (l := [10, 8]) (HR4.out.alloc _) (RowV_new (cs := #[.int .u64 10, .int .u64 8]) rfl (Nat.zero_le _) (by omega) (by unfold maxLen; omega) rfl)).mono ?_
  rintro e w5 ⟨rfl, hb5⟩
  have b5 : Below w.heap.size w w5 := by
    have c1 := HO4.out.below (B := w.heap.size) (fun _ h => h.elim) (by have := HB3.out.size; omega)
    have c2 : Below w.heap.size w4 (w4.alloc (.cells #[.int .u64 10, .int .u64 8] 23)) := (Below.refl _ _).alloc (by have := HB3.out.size; have := HO4.out.size; omega) _
    exact ((HB3.out.trans c1).trans c2).trans (hb5.mono (by have := HB3.out.size; have := HO4.out.size; simp; omega))
  have HB5 := Lib.hid b5
  clear b5 hb5
  go_wp2
  go_ret
  exact ⟨rfl, HB5.out⟩

/-- made: a memory of these words; nil: there are too many -/
theorem made_long {w : World} (o : Option Addr) (n c : Nat) (hn : 8192 < n) (hm : n ≤ 9223372036854775807) : Calls Try.prog 19 #[.slice o n c] w fun e w' => e = .returned (.pointer none) ∧ Below w.heap.size w w' := by
  go_enter Try.func19, Try.ntmps19
  go_wp2_with (go_at_call 18; refine (awake_any _).mono ?_; rintro e w1 ⟨rfl, hb1⟩; obtain ⟨os, d, rfl⟩ := hb1.more; clear hb1)
  go_ret
  exact ⟨rfl, (by repeat (first | exact Below.refl _ _ | apply Below.drew | apply Below.more1 | apply Below.alloc1))⟩
def Made (w : World) (l : List Int) (e : Ending) (w' : World) : Prop :=
  ∃ mb v, e = .returned (.pointer (some ⟨mb, 0, none⟩)) ∧ MemAt w' w.heap.size mb ⟨l, [], [], 0⟩ v ∧ Below w.heap.size w w'
theorem made_ok {w : World} {vx : Value} {l : List Int} (hs : w.Src 1 vx l.length (u64s l)) (hn : l.length ≤ 8192) : Calls Try.prog 19 #[vx] w (Made w l) := by
  have HC : Hid (∀ os d, Calls Try.prog 13 #[vx] (w.more os d) (MadeMem (w.more os d) l)) := fun os d => new_ok (hs.more os d) hn
  obtain ⟨o, c, rfl⟩ : ∃ o c, vx = .slice o l.length c := by
    rcases hs.2 with ⟨rfl, h0⟩ | ⟨ad, c, rfl, hc, _⟩
    · exact ⟨none, 0, by rw [h0]⟩
    · exact ⟨some ad, c, rfl⟩
  clear hs
  go_enter Try.func19, Try.ntmps19
  go_wp2_with (first
    | (go_at_call 18; refine (awake_any _).mono ?_; rintro e w1 ⟨rfl, hb1⟩; obtain ⟨os, d, rfl⟩ := hb1.more; clear hb1)
    | (go_at_call 13; refine (HC.out _ _).mono ?_; rintro e w1 ⟨mb, v, rfl, hm, ho⟩; have HM := Lib.hid hm; have HO := Lib.hid ho; clear hm ho)
    | (go_at_call 14; refine (num_any _ _).mono ?_; rintro e w2 ⟨rfl, rfl⟩))
  go_ret
  refine ⟨mb, v, rfl, HM.out.base_mono (by simp [go_sem]), ?_⟩
  have b1 : Below w.heap.size w (w.more os d) := (by repeat (first | exact Below.refl _ _ | apply Below.drew | apply Below.more1 | apply Below.alloc1))
  exact b1.trans (HO.out.below (fun _ h => h.elim) (by simp [go_sem]))
end Go.Proofs.Ytpmadfokpimjcaa
