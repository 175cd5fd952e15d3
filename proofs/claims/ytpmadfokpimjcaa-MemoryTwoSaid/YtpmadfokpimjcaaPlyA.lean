/-
ask and doc at every call; same; begin.
-/
import Derived.Test.YtpmadfokpimjcaaPlyP
namespace Go.Proofs.Ytpmadfokpimjcaa
open Go.ChangeShapes Go.WideShapes Go.ChangeAt Go.RowKit

theorem ne_beq {k : Int} {i : Int} (h : ¬ k = i) : (k == i) = false := by simpa using h

theorem ask_all {w : World} {base mb : Nat} {l : List Int} {st : MemS} {v : MemV} (h : MemAt w base mb st v) (hg : Good2 l st) (hl1 : st.log.length ≤ 2999999999999) (hwl : st.words.length ≤ 3000000000000) (kd t a n old x : Int) :
    Calls Try.prog 33 #[.pointer (some ⟨mb, 0, none⟩), .agg #[.int .i64 kd, .int .i64 t, .int .i64 a, .int .i64 n, .int .u64 old, .int .u64 x]] w fun e w' =>
    TellAt w.heap.size (tellF st ⟨kd, t, a, n, old, x⟩) e w' ∧ MemOut w base mb v (nextF st ⟨kd, t, a, n, old, x⟩) w' := by
  have hl2 : st.ahead.length ≤ 2999999999999 := by rw [hg.ahead]; exact hl1
  have hf : Fine st := hg.toGood.fine
  have hs : (n = (n.toNat : Int)) ∨ (n < 0 ∧ n.toNat = 0) := by omega
  unfold tellF nextF
  by_cases h1 : kd = 1
  · subst h1
    simp only [↓reduceIte]
    exact ask1 h t n old x a
  by_cases h2 : kd = 2
  · subst h2
    simp only [show ¬ (2 : Int) = 1 by decide, ↓reduceIte]
    by_cases hin : 0 ≤ a ∧ a < (st.words.length : Int)
    · obtain ⟨j, rfl⟩ : ∃ j : Nat, a = (j : Int) := ⟨a.toNat, by omega⟩
      simp only [hin, and_self, ↓reduceIte, Int.toNat_natCast]
      exact ask2_ok h t n old x j (by omega) hl1 hl2
    · simp only [if_neg hin]
      exact ask2_bad h t n old x a (by omega)
  by_cases h3 : kd = 3
  · subst h3
    simp only [show ¬ (3 : Int) = 1 by decide, show ¬ (3 : Int) = 2 by decide, ↓reduceIte]
    by_cases hin : 0 ≤ a ∧ a < (st.words.length : Int)
    · obtain ⟨j, rfl⟩ : ∃ j : Nat, a = (j : Int) := ⟨a.toNat, by omega⟩
      simp only [hin, and_self, ↓reduceIte, Int.toNat_natCast]
      exact ask3_ok h t n old x j (by omega) hl1 hl2
    · simp only [if_neg hin]
      exact ask3_bad h t n old x a (by omega)
  by_cases h4 : kd = 4
  · subst h4
    simp only [show ¬ (4 : Int) = 1 by decide, show ¬ (4 : Int) = 2 by decide, show ¬ (4 : Int) = 3 by decide, ↓reduceIte]
    by_cases hin : 0 ≤ a ∧ a < (st.words.length : Int)
    · obtain ⟨j, rfl⟩ : ∃ j : Nat, a = (j : Int) := ⟨a.toNat, by omega⟩
      simp only [hin, and_self, ↓reduceIte, Int.toNat_natCast]
      by_cases hq : st.at j = old
      · rw [if_pos hq]
        exact ask4_yes h t n old x j (by omega) hq hl1 hl2
      · rw [if_neg hq]
        exact ask4_no h t n old x j (by omega) hq hl1 hl2
    · simp only [if_neg hin]
      exact ask4_bad h t n old x a (by omega)
  by_cases h5 : kd = 5
  · subst h5
    simp only [show ¬ (5 : Int) = 1 by decide, show ¬ (5 : Int) = 2 by decide, show ¬ (5 : Int) = 3 by decide, show ¬ (5 : Int) = 4 by decide, ↓reduceIte]
    by_cases hin : 0 ≤ n ∧ n ≤ (st.log.length : Int)
    · simp only [if_pos hin]
      exact ask5_ok h t n old x a n.toNat (by omega) (by omega) hf hl1
    · simp only [if_neg hin]
      exact ask5_bad h t n old x a (by omega)
  by_cases h6 : kd = 6
  · subst h6
    simp only [show ¬ (6 : Int) = 1 by decide, show ¬ (6 : Int) = 2 by decide, show ¬ (6 : Int) = 3 by decide, show ¬ (6 : Int) = 4 by decide, show ¬ (6 : Int) = 5 by decide, ↓reduceIte]
    by_cases hin : 0 ≤ a ∧ a < (st.words.length : Int)
    · obtain ⟨j, rfl⟩ : ∃ j : Nat, a = (j : Int) := ⟨a.toNat, by omega⟩
      rw [if_pos hin]
      exact ask6_ok h t n old x j (by omega) hl1
    · rw [if_neg hin]
      exact ask6_bad h t n old x a (by omega)
  by_cases h7 : kd = 7
  · subst h7
    simp only [show ¬ (7 : Int) = 1 by decide, show ¬ (7 : Int) = 2 by decide, show ¬ (7 : Int) = 3 by decide, show ¬ (7 : Int) = 4 by decide, show ¬ (7 : Int) = 5 by decide, show ¬ (7 : Int) = 6 by decide, ↓reduceIte]
    exact ask7 h t n old x a n.toNat hs (st.log.length - n.toNat) (by omega) hl1
  by_cases h8 : kd = 8
  · subst h8
    simp only [show ¬ (8 : Int) = 1 by decide, show ¬ (8 : Int) = 2 by decide, show ¬ (8 : Int) = 3 by decide, show ¬ (8 : Int) = 4 by decide, show ¬ (8 : Int) = 5 by decide, show ¬ (8 : Int) = 6 by decide, show ¬ (8 : Int) = 7 by decide, ↓reduceIte]
    exact ask8 h t n old x a n.toNat hs (min (st.log.length - n.toNat) (stopF a)) (by omega) hl1
  simp only [if_neg h1, if_neg h2, if_neg h3, if_neg h4, if_neg h5, if_neg h6, if_neg h7, if_neg h8]
  by_cases h9 : kd = 9
  · subst h9
    simp only [↓reduceIte]
    exact ask9 h t n old x a hwl
  simp only [if_neg h9]
  by_cases h10 : kd = 10
  · subst h10
    simp only [↓reduceIte]
    exact ask10 h t n old x a
  simp only [if_neg h10]
  exact askX h t n old x a kd (ne_beq h1) (ne_beq h2) (ne_beq h3) (ne_beq h4) (ne_beq h5) (ne_beq h6) (ne_beq h7) (ne_beq h8) (ne_beq h9) (ne_beq h10)

theorem doc_all {w : World} {base rb : Nat} {l : List Int} {st : MemS} {v : RefV} (h : RefAt w base rb l st v) (hg : Good2 l st) (hl1 : st.log.length ≤ 2999999999999) (hwl : l.length ≤ 3000000000000) (kd t a n old x : Int) :
    Calls Try.prog 34 #[.pointer (some ⟨rb, 0, none⟩), .agg #[.int .i64 kd, .int .i64 t, .int .i64 a, .int .i64 n, .int .u64 old, .int .u64 x]] w fun e w' =>
    TellAt w.heap.size (tellF st ⟨kd, t, a, n, old, x⟩) e w' ∧ RefOut w base rb v l (nextF st ⟨kd, t, a, n, old, x⟩) w' := by
  have hlen := hg.toGood.len
  have hin0 : ∀ a ∈ st.log, 0 ≤ a.ad ∧ a.ad < (l.length : Int) := fun a ha => by
    have := hg.toGood.fine.addr a ha
    rw [hlen] at this
    exact this
  have hs : (n = (n.toNat : Int)) ∨ (n < 0 ∧ n.toNat = 0) := by omega
  unfold tellF nextF
  by_cases h1 : kd = 1
  · subst h1
    simp only [↓reduceIte]
    exact doc1 h t n old x a
  by_cases h2 : kd = 2
  · subst h2
    simp only [show ¬ (2 : Int) = 1 by decide, ↓reduceIte]
    by_cases hin : 0 ≤ a ∧ a < (st.words.length : Int)
    · obtain ⟨j, rfl⟩ : ∃ j : Nat, a = (j : Int) := ⟨a.toNat, by omega⟩
      simp only [hin, and_self, ↓reduceIte, Int.toNat_natCast]
      exact doc2_ok h t n old x j (by omega) hl1
    · simp only [if_neg hin]
      exact doc2_bad h t n old x a (by omega)
  by_cases h3 : kd = 3
  · subst h3
    simp only [show ¬ (3 : Int) = 1 by decide, show ¬ (3 : Int) = 2 by decide, ↓reduceIte]
    by_cases hin : 0 ≤ a ∧ a < (st.words.length : Int)
    · obtain ⟨j, rfl⟩ : ∃ j : Nat, a = (j : Int) := ⟨a.toNat, by omega⟩
      simp only [hin, and_self, ↓reduceIte, Int.toNat_natCast]
      exact doc3_ok h t n old x j (by omega) hl1
    · simp only [if_neg hin]
      exact doc3_bad h t n old x a (by omega)
  by_cases h4 : kd = 4
  · subst h4
    simp only [show ¬ (4 : Int) = 1 by decide, show ¬ (4 : Int) = 2 by decide, show ¬ (4 : Int) = 3 by decide, ↓reduceIte]
    by_cases hin : 0 ≤ a ∧ a < (st.words.length : Int)
    · obtain ⟨j, rfl⟩ : ∃ j : Nat, a = (j : Int) := ⟨a.toNat, by omega⟩
      simp only [hin, and_self, ↓reduceIte, Int.toNat_natCast]
      by_cases hq : st.at j = old
      · rw [if_pos hq]
        exact doc4_yes h t n old x j (by omega) hq hl1
      · rw [if_neg hq]
        exact doc4_no h t n old x j (by omega) hq hl1
    · simp only [if_neg hin]
      exact doc4_bad h t n old x a (by omega)
  by_cases h5 : kd = 5
  · subst h5
    simp only [show ¬ (5 : Int) = 1 by decide, show ¬ (5 : Int) = 2 by decide, show ¬ (5 : Int) = 3 by decide, show ¬ (5 : Int) = 4 by decide, ↓reduceIte]
    by_cases hin : 0 ≤ n ∧ n ≤ (st.log.length : Int)
    · simp only [if_pos hin]
      have hc : n.toNat ≤ st.log.length := by omega
      refine (doc5_ok h t n old x a n.toNat hc (by omega) hin0 hwl hl1).mono fun e w' ⟨k1, k2⟩ => ⟨k1, k2.of_eq ?_ rfl rfl⟩
      show undoN st (st.log.length - n.toNat) = (st.log.take n.toNat).foldl wrF l
      rw [undo_replay hg _ (by omega), show st.log.length - (st.log.length - n.toNat) = n.toNat by omega]
    · simp only [if_neg hin]
      exact doc5_bad h t n old x a (by omega)
  by_cases h6 : kd = 6
  · subst h6
    simp only [show ¬ (6 : Int) = 1 by decide, show ¬ (6 : Int) = 2 by decide, show ¬ (6 : Int) = 3 by decide, show ¬ (6 : Int) = 4 by decide, show ¬ (6 : Int) = 5 by decide, ↓reduceIte]
    by_cases hin : 0 ≤ a ∧ a < (st.words.length : Int)
    · obtain ⟨j, rfl⟩ : ∃ j : Nat, a = (j : Int) := ⟨a.toNat, by omega⟩
      rw [if_pos hin]
      exact doc6_ok h t n old x j (by omega)
    · rw [if_neg hin]
      exact doc6_bad h t n old x a (by omega)
  by_cases h7 : kd = 7
  · subst h7
    simp only [show ¬ (7 : Int) = 1 by decide, show ¬ (7 : Int) = 2 by decide, show ¬ (7 : Int) = 3 by decide, show ¬ (7 : Int) = 4 by decide, show ¬ (7 : Int) = 5 by decide, show ¬ (7 : Int) = 6 by decide, ↓reduceIte]
    exact doc7 h t n old x a n.toNat hs (st.log.length - n.toNat) rfl hl1
  by_cases h8 : kd = 8
  · subst h8
    simp only [show ¬ (8 : Int) = 1 by decide, show ¬ (8 : Int) = 2 by decide, show ¬ (8 : Int) = 3 by decide, show ¬ (8 : Int) = 4 by decide, show ¬ (8 : Int) = 5 by decide, show ¬ (8 : Int) = 6 by decide, show ¬ (8 : Int) = 7 by decide, ↓reduceIte]
    exact doc8 h t n old x a n.toNat hs (min (st.log.length - n.toNat) (stopF a)) rfl hl1
  simp only [if_neg h1, if_neg h2, if_neg h3, if_neg h4, if_neg h5, if_neg h6, if_neg h7, if_neg h8]
  by_cases h9 : kd = 9
  · subst h9
    simp only [↓reduceIte]
    exact doc9 h t n old x a (by omega)
  simp only [if_neg h9]
  by_cases h10 : kd = 10
  · subst h10
    simp only [↓reduceIte]
    exact doc10 h t n old x a
  simp only [if_neg h10]
  exact docX h t n old x a kd (ne_beq h1) (ne_beq h2) (ne_beq h3) (ne_beq h4) (ne_beq h5) (ne_beq h6) (ne_beq h7) (ne_beq h8) (ne_beq h9) (ne_beq h10)

theorem i64s_get {l : List Int} {i : Nat} (h : i < l.length) : (i64s l)[i]? = some (.int .i64 (l.getD i 0)) := by
  simp [i64s, List.getD, h]
set_option maxRecDepth 100000 in
theorem sameInts_yes {w : World} {b1 b2 n : Nat} {v1 v2 : Value} {l : List Int} (h1 : w.RowV b1 3 1 v1 n (i64s l)) (h2 : w.RowV b2 3 1 v2 n (i64s l)) : Calls Try.prog 43 #[v1, v2] w fun e w' =>
    e = .returned (.bool true) ∧ Below w.heap.size w w' := by
  have hl : l.length = n := by have := h1.1; simpa [i64s] using this
  obtain ⟨o1, c1, rfl, q1, r1⟩ := h1.form
  obtain ⟨o2, c2, rfl, q2, r2⟩ := h2.form
  unfold maxLen at r1 r2
  have H1 := Lib.hid h1
  have H2 := Lib.hid h2
  have HL := Lib.hid hl
  clear h1 h2 hl
  have hne : ((n : Int) != (n : Int)) = false := by simp
  go_enter Try.func43, Try.ntmps43
  go_wp2
  go_loopg [5] n (fun g sl wr => ∃ k : Nat, k ≤ n ∧ n ≤ k + g ∧ sl = .int .i64 (k : Int) ∧ ∃ os d, wr = w.more os d)
  case atStart => exact ⟨0, by omega, by omega, rfl, #[], w.drawn, by simp [World.more]⟩
  case round =>
    obtain ⟨k, hk, hg, rfl, os, d, rfl⟩ := hrel
    by_cases hlk : k < n
    · obtain ⟨g1, d1, e1, _, _, s1, _, _, x1⟩ := H1.out.some_form (by omega)
      obtain ⟨g2, d2, e2, _, _, s2, _, _, x2⟩ := H2.out.some_form (by omega)
      cases e1
      cases e2
      have y1 := x1 k _ (i64s_get (by have := HL.out; omega))
      have y2 := x2 k _ (i64s_get (by have := HL.out; omega))
      clear x1 x2
      generalize l.getD k 0 = z at y1 y2
      go_wp2
      refine wp_region_more_lit (by kernel_rfl) (by kernel_rfl) ?_
      repeat (first | go_big_quiet_skip | (go_big_quiet_want; go_big_quiet_op; first | go_big_quiet_on | (apply Exists.intro; refine ⟨fun _ => ?_, ?_⟩; (focus (fail)); go_big_quiet_on)))
      refine wpQuiet_nil ?_
      intro osq dq
      go_wp2
      go_roundg (n - (k + 1))
      case measure => omega
      case rel => exact ⟨k + 1, by omega, by omega, by go_num, RowKit.Below.more (by repeat (first | exact Below.refl _ _ | apply Below.drew | apply Below.more1 | apply Below.alloc1))⟩
    · go_wp2
      go_ret
      exact ⟨rfl, (by repeat (first | exact Below.refl _ _ | apply Below.drew | apply Below.more1 | apply Below.alloc1))⟩

set_option maxRecDepth 100000 in
theorem same_yes {w : World} {b1 b2 b3 b4 b5 b6 : Nat} {c : Int} {vn vw vl un uw ul : Value} {n m : Nat} {ns ws : List Int} {lg : List Acc} (h1 : w.RowV b1 3 1 vn n (i64s ns)) (h2 : w.RowV b2 3 1 un n (i64s ns))
    (h3 : w.RowV b3 23 1 vw m (u64s ws)) (h4 : w.RowV b4 23 1 uw m (u64s ws)) (h5 : w.RowV b5 45 7 vl lg.length (accs lg)) (h6 : w.RowV b6 45 7 ul lg.length (accs lg)) :
    Calls Try.prog 32 #[.agg #[.int .i64 c, vn, vw, vl], .agg #[.int .i64 c, un, uw, ul]] w fun e w' => e = .returned (.bool true) ∧ Below w.heap.size w w' := by
  have C1 : Hid (∀ W, Below w.heap.size w W → Calls Try.prog 43 #[vn, un] W fun e w' => e = .returned (.bool true) ∧ Below W.heap.size W w') := fun W hb => sameInts_yes (h1.of_block fun k hk => hb.block k (h1.lt k hk).2) (h2.of_block fun k hk => hb.block k (h2.lt k hk).2)
  have C2 : Hid (∀ W, Below w.heap.size w W → Calls Try.prog 23 #[vw, uw] W fun e w' => e = .returned (.bool true) ∧ Below W.heap.size W w') := fun W hb => sameWords_yes (h3.of_block fun k hk => hb.block k (h3.lt k hk).2) (h4.of_block fun k hk => hb.block k (h4.lt k hk).2)
  have C3 : Hid (∀ W, Below w.heap.size w W → Calls Try.prog 30 #[vl, ul] W fun e w' => e = .returned (.bool true) ∧ Below W.heap.size W w') := fun W hb => sameLog_yes (h5.of_block fun k hk => hb.block k (h5.lt k hk).2) (h6.of_block fun k hk => hb.block k (h6.lt k hk).2)
  obtain ⟨o1, c1, rfl, _, _⟩ := h1.form
  obtain ⟨o2, c2, rfl, _, _⟩ := h2.form
  obtain ⟨o3, c3, rfl, _, _⟩ := h3.form
  obtain ⟨o4, c4, rfl, _, _⟩ := h4.form
  obtain ⟨o5, c5, rfl, _, _⟩ := h5.form
  obtain ⟨o6, c6, rfl, _, _⟩ := h6.form
  clear h1 h2 h3 h4 h5 h6
  have q0 : (c == c) = true := by simp
  go_enter Try.func32, Try.ntmps32
  go_wp2_with fail
  refine (C1.out _ (by repeat (first | exact Below.refl _ _ | apply Below.drew | apply Below.more1 | apply Below.alloc1))).mono ?_; rintro e w1 ⟨rfl, hb1⟩; obtain ⟨os, d, rfl⟩ := hb1.more; clear hb1
  go_wp2_with fail
  refine (C2.out _ (by repeat (first | exact Below.refl _ _ | apply Below.drew | apply Below.more1 | apply Below.alloc1))).mono ?_
  rintro e w1 ⟨rfl, hb1⟩
  obtain ⟨os2, d2, rfl⟩ := hb1.more
  clear hb1
  go_wp2_with fail
  refine (C3.out _ (by repeat (first | exact Below.refl _ _ | apply Below.drew | apply Below.more1 | apply Below.alloc1))).mono ?_
  rintro e w1 ⟨rfl, hb1⟩
  obtain ⟨os3, d3, rfl⟩ := hb1.more
  clear hb1
  go_wp2
  go_ret
  exact ⟨rfl, (by repeat (first | exact Below.refl _ _ | apply Below.drew | apply Below.more1 | apply Below.alloc1))⟩

theorem begin_long {w : World} (o : Option Addr) (n c : Nat) (hn : 8192 < n) (hm : n ≤ 9223372036854775807) : Calls Try.prog 31 #[.slice o n c] w fun e w' => e = .returned (.tuple #[.pointer none, .pointer none, .bool true]) ∧ w = w' := by
  go_enter Try.func31, Try.ntmps31
  go_wp2_with (first
    | (go_at_call 13; refine (new_long o n c hn hm).mono ?_; rintro e w1 ⟨rfl, rfl⟩)
    | (go_at_call 42; refine (rnew_long o n c hn hm).mono ?_; rintro e w1 ⟨rfl, rfl⟩)
    | (go_at_call 14; refine (num_any _ _).mono ?_; rintro e w2 ⟨rfl, rfl⟩))
  go_ret3
  exact ⟨rfl, rfl⟩
/-- the program's memory and the document's -/
structure PairM (w : World) (mb rb : Nat) (l : List Int) (st : MemS) (W : World) : Prop where
  m : ∃ vm vr, MemAt W w.heap.size mb st vm ∧ RefAt W w.heap.size rb l st vr ∧ ∀ i, vm.own mb i → ¬ vr.own rb i
  hb : Below w.heap.size w W
theorem begin_ok {w : World} {vx : Value} {l : List Int} (hs : w.Src 1 vx l.length (u64s l)) (hn : l.length ≤ 8192) : Calls Try.prog 31 #[vx] w fun e w' =>
    ∃ mb rb, e = .returned (.tuple #[.pointer (some ⟨mb, 0, none⟩), .pointer (some ⟨rb, 0, none⟩), .bool true]) ∧ PairM w mb rb l ⟨l, [], [], 0⟩ w' := by
  have HS := Lib.hid hs
  have HN := Lib.hid (new_ok hs hn)
  obtain ⟨o, c, rfl⟩ : ∃ o c, vx = .slice o l.length c := by
    rcases hs.2 with ⟨rfl, h0⟩ | ⟨ad, c, rfl, hc, _⟩
    · exact ⟨none, 0, by rw [h0]⟩
    · exact ⟨some ad, c, rfl⟩
  clear hs
  go_enter Try.func31, Try.ntmps31
  go_wp2_with fail
  refine HN.out.mono ?_
  rintro e w1 ⟨mb, vm, rfl, hM, hO⟩
  have hb1 : Below w.heap.size w w1 := hO.below (fun _ hx => hx.elim) (Nat.le_refl _)
  have HR := Lib.hid (rnew_ok (HS.out.below hb1) hn)
  have HM := Lib.hid hM
  have HB1 := Lib.hid hb1
  clear hM hO hb1 HN
  go_wp2_with fail
  refine HR.out.mono ?_
  rintro e w2 ⟨rb, vr, rfl, hR, hb2⟩
  have hp : PairM w mb rb l ⟨l, [], [], 0⟩ w2 :=
    ⟨⟨vm, vr, HM.out.of_block fun i hi => hb2.block i (HM.out.lt i hi).2, hR.base_mono HB1.out.size, fun i hi hj => by have h1 := (HM.out.lt i hi).2; have h2 := (hR.lt i hj).1; omega⟩, HB1.out.trans (hb2.mono HB1.out.size)⟩
  have HP := Lib.hid hp
  clear hp hR hb2 HR
  go_wp2_with (go_at_call 14; refine (num_any _ _).mono ?_; rintro e w2 ⟨rfl, rfl⟩)
  go_ret3
  exact ⟨mb, rb, rfl, HP.out⟩
end Go.Proofs.Ytpmadfokpimjcaa
