/-
Two memories side by side; what Back undoes.
-/
import Derived.Test.YtpmadfokpimjcaaBeh
import Derived.Test.YtpmadfokpimjcaaBack
import Derived.Test.YtpmadfokpimjcaaWrB
import Derived.Laws.StructEq
namespace Go.Proofs.Ytpmadfokpimjcaa
open Go.ChangeShapes Go.WideShapes Go.ChangeAt Go.RowKit

theorem Good.fine {l : List Int} {st : MemS} (h : Good l st) : Fine st := by
  refine ⟨h.ahead, fun a ha => ?_⟩
  obtain ⟨i, hi, rfl⟩ := List.mem_iff_getElem.1 ha
  obtain ⟨s1, s2, _⟩ := h.saw i _ (List.getElem?_eq_getElem hi)
  rw [foldl_wrF_len] at s2
  exact ⟨s1, by rw [h.len]; exact s2⟩
theorem undoN_snoc {s s' : MemS} {a : Acc} {x : Int} (h1 : s'.log = s.log ++ [a]) (h2 : s'.ahead = s.ahead ++ [x]) (hf : s.ahead.length = s.log.length) (h3 : s'.words.set a.ad.toNat x = s.words) :
    ∀ m, m ≤ s.log.length → undoN s' (m + 1) = undoN s m := by
  intro m
  induction m with
  | zero =>
    intro _
    show s'.words.set (s'.log.getD (s'.log.length - 1 - 0) ⟨0, 0, 0, 0, 0, 0, 0⟩).ad.toNat (s'.ahead.getD (s'.log.length - 1 - 0) 0) = s.words
    rw [h1, h2]
    have e1 : (s.log ++ [a]).length - 1 - 0 = s.log.length := by simp
    rw [e1]
    have e2 : (s.log ++ [a]).getD s.log.length ⟨0, 0, 0, 0, 0, 0, 0⟩ = a := by simp [List.getD]
    have e3 : (s.ahead ++ [x]).getD s.log.length 0 = x := by rw [← hf]; simp [List.getD]
    rw [e2, e3]
    exact h3
  | succ m ih =>
    intro hm
    have e := ih (by omega)
    show (undoN s' (m + 1)).set (s'.log.getD (s'.log.length - 1 - (m + 1)) ⟨0, 0, 0, 0, 0, 0, 0⟩).ad.toNat (s'.ahead.getD (s'.log.length - 1 - (m + 1)) 0) = (undoN s m).set (s.log.getD (s.log.length - 1 - m) ⟨0, 0, 0, 0, 0, 0, 0⟩).ad.toNat (s.ahead.getD (s.log.length - 1 - m) 0)
    rw [e, h1, h2]
    have e1 : (s.log ++ [a]).length - 1 - (m + 1) = s.log.length - 1 - m := by simp; omega
    rw [e1]
    have e2 : (s.log ++ [a]).getD (s.log.length - 1 - m) ⟨0, 0, 0, 0, 0, 0, 0⟩ = s.log.getD (s.log.length - 1 - m) ⟨0, 0, 0, 0, 0, 0, 0⟩ := by
      simp only [List.getD]
      rw [List.getElem?_append_left (by omega)]
    have e3 : (s.ahead ++ [x]).getD (s.log.length - 1 - m) 0 = s.ahead.getD (s.log.length - 1 - m) 0 := by
      simp only [List.getD]
      rw [List.getElem?_append_left (by omega)]
    rw [e2, e3]

theorem accF_cases (st : MemS) (o : OpS) : accF st o = st ∨ ∃ j kd old nw saw, j < st.words.length ∧ (accF st o).log = st.log ++ [⟨st.move, o.th, kd, (j : Int), old, nw, saw⟩] ∧ (accF st o).ahead = st.ahead ++ [st.words.getD j 0] ∧ (accF st o).move = st.move ∧
    ((accF st o).words = st.words.set j nw ∨ (accF st o).words = st.words) := by
  unfold accF
  split
  · rename_i hth
    refine .inr ⟨o.ad.toNat, ?_⟩
    have hj : o.ad.toNat < st.words.length := by omega
    split
    · exact ⟨1, 0, 0, st.at o.ad.toNat, hj, by simp [MemS.load, MemS.note], by simp [MemS.load, MemS.note, MemS.at], rfl, .inr rfl⟩
    · split
      · exact ⟨2, 0, o.w, 0, hj, by simp [MemS.store, MemS.note], by simp [MemS.store, MemS.note, MemS.at], rfl, .inl rfl⟩
      · unfold MemS.swap
        split
        · exact ⟨3, o.old, o.w, st.at o.ad.toNat, hj, by simp [MemS.note], by simp [MemS.note, MemS.at], rfl, .inl rfl⟩
        · exact ⟨3, o.old, o.w, st.at o.ad.toNat, hj, by simp [MemS.note], by simp [MemS.note, MemS.at], rfl, .inr rfl⟩
  · exact .inl rfl

theorem MemS.eqOf {s t : MemS} (h1 : s.words = t.words) (h2 : s.log = t.log) (h3 : s.ahead = t.ahead) (h4 : s.move = t.move) : s = t := by
  cases s; cases t; simp_all
theorem back_accF (st : MemS) (o : OpS) (hf : st.ahead.length = st.log.length) (c : Nat) (hc : c ≤ st.log.length) : (accF st o).back c = st.back c := by
  rcases accF_cases st o with he | ⟨j, kd, old, nw, saw, hj, h1, h2, h3, h4⟩
  · rw [he]
  · have hw : (accF st o).words.set j (st.words.getD j 0) = st.words := by
      have hself : st.words.set j (st.words.getD j 0) = st.words := by
        apply List.ext_getElem?
        intro i
        rw [List.getElem?_set]
        split
        · rename_i e
          subst e
          simp [List.getD, hj]
        · rfl
      rcases h4 with h4 | h4
      · rw [h4, List.set_set]
        exact hself
      · rw [h4]
        exact hself
    have hu := undoN_snoc (a := ⟨st.move, o.th, kd, (j : Int), old, nw, saw⟩) h1 h2 hf (by simpa using hw) (st.log.length - c) (by omega)
    have hlen : (accF st o).log.length - c = (st.log.length - c) + 1 := by rw [h1]; simp; omega
    refine MemS.eqOf ?_ ?_ ?_ h3
    · show undoN (accF st o) ((accF st o).log.length - c) = undoN st (st.log.length - c)
      rw [hlen, hu]
    · show (accF st o).log.take c = st.log.take c
      rw [h1, List.take_append_of_le_length hc]
    · show (accF st o).ahead.take c = st.ahead.take c
      rw [h2, List.take_append_of_le_length (by omega)]
theorem back_self (st : MemS) (hf : st.ahead.length = st.log.length) : st.back st.log.length = st := by
  refine MemS.eqOf ?_ ?_ ?_ rfl
  · show undoN st (st.log.length - st.log.length) = st.words
    rw [Nat.sub_self]
    rfl
  · exact List.take_length
  · show st.ahead.take st.log.length = st.ahead
    rw [← hf]
    exact List.take_length
theorem accF_logle (st : MemS) (o : OpS) : st.log.length ≤ (accF st o).log.length := by
  rcases accF_cases st o with he | ⟨j, kd, old, nw, saw, hj, h1, _⟩
  · rw [he]; exact Nat.le_refl _
  · rw [h1]; simp
theorem back_accs (l : List Int) (one two : List OpS) : (accs1 l (one ++ two)).back (accs1 l one).log.length = accs1 l one ∧ (accs1 l one).log.length ≤ (accs1 l (one ++ two)).log.length := by
  have key : ∀ (two : List OpS), ∀ st : MemS, st.ahead.length = st.log.length → ∀ c, c ≤ st.log.length → ((two.foldl accF st).back c = st.back c ∧ st.log.length ≤ (two.foldl accF st).log.length) := by
    intro two
    induction two with
    | nil => intro st _ c _; exact ⟨rfl, Nat.le_refl _⟩
    | cons o two ih =>
      intro st hf c hc
      have h1 := accF_logle st o
      have hf' : (accF st o).ahead.length = (accF st o).log.length := by
        rcases accF_cases st o with he | ⟨j, kd, old, nw, saw, hj, h1, h2, _⟩
        · rw [he]; exact hf
        · rw [h1, h2]; simp [hf]
      obtain ⟨k1, k2⟩ := ih (accF st o) hf' c (by omega)
      simp only [List.foldl_cons]
      exact ⟨k1.trans (back_accF st o hf c hc), Nat.le_trans h1 k2⟩
  have hg := (accs1_good l one).ahead
  have h := key two (accs1 l one) hg (accs1 l one).log.length (Nat.le_refl _)
  have e : accs1 l (one ++ two) = two.foldl accF (accs1 l one) := by unfold accs1; rw [List.foldl_append]
  rw [e]
  exact ⟨h.1.trans (back_self _ hg), h.2⟩

/-- two memories -/
structure TwoM (w : World) (mb kb : Nat) (sm sk : MemS) (W : World) : Prop where
  m : ∃ vm vk, MemAt W w.heap.size mb sm vm ∧ MemAt W w.heap.size kb sk vk ∧ ∀ i, vm.own mb i → ¬ vk.own kb i
  hb : Below w.heap.size w W
section
variable {w W W' : World} {mb kb : Nat} {sm sk : MemS}
theorem TwoM.swap (h : TwoM w mb kb sm sk W) : TwoM w kb mb sk sm W := by
  obtain ⟨vm, vk, h1, h2, h3⟩ := h.m
  exact ⟨⟨vk, vm, h2, h1, fun i hi hj => h3 i hj hi⟩, h.hb⟩
theorem TwoM.below (h : TwoM w mb kb sm sk W) (hb : Below W.heap.size W W') : TwoM w mb kb sm sk W' := by
  obtain ⟨vm, vk, h1, h2, h3⟩ := h.m
  exact ⟨⟨vm, vk, h1.of_block fun k hk => hb.block k (h1.lt k hk).2, h2.of_block fun k hk => hb.block k (h2.lt k hk).2, h3⟩, h.hb.trans (hb.mono h.hb.size)⟩
theorem TwoM.step {vm vk : MemV} (h1 : MemAt W w.heap.size mb sm vm) (h2 : MemAt W w.heap.size kb sk vk) (h3 : ∀ i, vm.own mb i → ¬ vk.own kb i) (hb : Below w.heap.size w W) {st : MemS} (ho : MemOut W w.heap.size mb vm st W') : TwoM w mb kb st sk W' := by
  obtain ⟨v', k1, k2, k3⟩ := ho
  refine ⟨⟨v', vk, k1, h2.of_block fun i hi => k2.block i (h2.lt i hi).2 (fun hx => h3 i hx hi), fun i hi hj => ?_⟩, hb.trans (k2.below (fun i hi => (h1.lt i hi).1) hb.size)⟩
  rcases k3 i hi with h4 | h4
  · exact h3 i h4 hj
  · have := (h2.lt i hj).2
    omega
theorem tm_acc (h : TwoM w mb kb sm sk W) (hl1 : sm.log.length ≤ 3000000000000) (hl2 : sm.ahead.length ≤ 3000000000000) (k t a n old x : Int) :
    Calls Try.prog 20 #[.pointer (some ⟨mb, 0, none⟩), .agg #[.int .i64 k, .int .i64 t, .int .i64 a, .int .i64 n, .int .u64 old, .int .u64 x]] W fun e w' =>
    e = .returned (.tuple #[]) ∧ TwoM w mb kb (accF sm ⟨k, t, a, n, old, x⟩) sk w' := by
  obtain ⟨vm, vk, h1, h2, h3⟩ := h.m
  exact (access_any h1 hl1 hl2 k t a n old x).mono fun e w' ⟨he, ho⟩ => ⟨he, TwoM.step h1 h2 h3 h.hb ho⟩
theorem tm_back (h : TwoM w mb kb sm sk W) (hf : Fine sm) (hl : sm.log.length ≤ 3000000000000) (c : Nat) (hc : c ≤ sm.log.length) :
    Calls Try.prog 29 #[.pointer (some ⟨mb, 0, none⟩), .int .i64 (c : Int)] W fun e w' => e = .returned (.int .i64 0) ∧ TwoM w mb kb (sm.back c) sk w' := by
  obtain ⟨vm, vk, h1, h2, h3⟩ := h.m
  exact (back_ok h1 hf hl c hc).mono fun e w' ⟨he, ho⟩ => ⟨he, TwoM.step h1 h2 h3 h.hb ho⟩
theorem tm_count (h : TwoM w mb kb sm sk W) : Calls Try.prog 17 #[.pointer (some ⟨mb, 0, none⟩)] W fun e w' => e = .returned (.int .i64 (sm.log.length : Int)) ∧ W = w' := by
  obtain ⟨vm, vk, h1, h2, h3⟩ := h.m
  exact count_mem h1
theorem tm_words (h : TwoM w mb kb sm sk W) (hn : sm.words.length ≤ 3000000000000) : Calls Try.prog 24 #[.pointer (some ⟨mb, 0, none⟩)] W fun e w' =>
    ∃ o c, e = .returned (.slice o sm.words.length c) ∧ sm.words.length ≤ c ∧ c ≤ 9223372036854775807 ∧ w'.RowV W.heap.size 23 1 (.slice o sm.words.length c) sm.words.length (u64s sm.words) ∧ TwoM w mb kb sm sk w' ∧ Below W.heap.size W w' := by
  obtain ⟨vm, vk, h1, h2, h3⟩ := h.m
  exact (words_mem h1 hn).mono fun e w' ⟨o, c, he, l1, l2, hr, ho⟩ => ⟨o, c, he, l1, l2, hr, h.below (ho.below (fun _ hx => hx.elim) (Nat.le_refl _)), ho.below (fun _ hx => hx.elim) (Nat.le_refl _)⟩
theorem tm_logged (h : TwoM w mb kb sm sk W) (hl : sm.log.length ≤ 3000000000000) (most : Int) (hm : (sm.log.length : Int) ≤ most) :
    Calls Try.prog 21 #[.pointer (some ⟨mb, 0, none⟩), .int .i64 0, .int .i64 most] W fun e w' => LogAll W sm.log e w' ∧ TwoM w mb kb sm sk w' := by
  obtain ⟨vm, vk, h1, h2, h3⟩ := h.m
  refine (logged_full h1 hl most hm).mono ?_
  rintro e w' ⟨on, cn, ol, cl, he, n1, n2, n3, n4, r1, r2, hb⟩
  exact ⟨⟨on, cn, ol, cl, he, n1, n2, n3, n4, r1, r2, hb⟩, h.below hb⟩
theorem tm_writer (h : TwoM w mb kb sm sk W) (hl : sm.log.length ≤ 3000000000000) (j : Nat) (hj : j < sm.words.length) :
    Calls Try.prog 27 #[.pointer (some ⟨mb, 0, none⟩), .int .i64 (j : Int)] W fun e w' => e = .returned (.tuple #[.int .i64 (lastW j (items sm.log 0 sm.log.length)).1, .int .i64 (lastW j (items sm.log 0 sm.log.length)).2, .int .i64 0]) ∧ TwoM w mb kb sm sk w' ∧ Below W.heap.size W w' := by
  obtain ⟨vm, vk, h1, h2, h3⟩ := h.m
  exact (writer_any h1 hl j hj).mono fun e w' ⟨he, hb⟩ => ⟨he, h.below hb, hb⟩
end

set_option maxRecDepth 100000 in
theorem sameLog_yes {w : World} {b1 b2 : Nat} {v1 v2 : Value} {l : List Acc} (h1 : w.RowV b1 45 7 v1 l.length (accs l)) (h2 : w.RowV b2 45 7 v2 l.length (accs l)) : Calls Try.prog 30 #[v1, v2] w fun e w' =>
    e = .returned (.bool true) ∧ Below w.heap.size w w' := by
  obtain ⟨o1, c1, rfl, q1, r1⟩ := h1.form
  obtain ⟨o2, c2, rfl, q2, r2⟩ := h2.form
  unfold maxLen at r1 r2
  have H1 := Lib.hid h1
  have H2 := Lib.hid h2
  clear h1 h2
  have hne : ((l.length : Int) != (l.length : Int)) = false := by simp
  go_enter Try.func30, Try.ntmps30
  go_wp2
  go_loopg [5] l.length (fun g sl wr => ∃ k : Nat, k ≤ l.length ∧ l.length ≤ k + g ∧ sl = .int .i64 (k : Int) ∧ ∃ os d, wr = w.more os d)
  case atStart => exact ⟨0, by omega, by omega, rfl, #[], w.drawn, by simp [World.more]⟩
  case round =>
    obtain ⟨k, hk, hg, rfl, os, d, rfl⟩ := hrel
    by_cases hlk : k < l.length
    · obtain ⟨g1, d1, e1, _, _, s1, _, _, x1⟩ := H1.out.some_form (by omega)
      obtain ⟨g2, d2, e2, _, _, s2, _, _, x2⟩ := H2.out.some_form (by omega)
      cases e1
      cases e2
      have xa : ∀ j u, l[k].cells[j]? = some u → j < 7 → w.cell? ⟨g1, k * 7 + j, none⟩ = some u := fun j u hu hj => x1 (k * 7 + j) u (by rw [accs_get l k j hlk hj]; simpa [hlk] using hu)
      have xb : ∀ j u, l[k].cells[j]? = some u → j < 7 → w.cell? ⟨g2, k * 7 + j, none⟩ = some u := fun j u hu hj => x2 (k * 7 + j) u (by rw [accs_get l k j hlk hj]; simpa [hlk] using hu)
      generalize l[k] = z at *
      obtain ⟨mv, th, kd, ad, old, nw, saw⟩ := z
      have z0 := xa 0 _ rfl (by omega)
      have z1 := xa 1 _ rfl (by omega)
      have z2 := xa 2 _ rfl (by omega)
      have z3 := xa 3 _ rfl (by omega)
      have z4 := xa 4 _ rfl (by omega)
      have z5 := xa 5 _ rfl (by omega)
      have z6 := xa 6 _ rfl (by omega)
      have y0 := xb 0 _ rfl (by omega)
      have y1 := xb 1 _ rfl (by omega)
      have y2 := xb 2 _ rfl (by omega)
      have y3 := xb 3 _ rfl (by omega)
      have y4 := xb 4 _ rfl (by omega)
      have y5 := xb 5 _ rfl (by omega)
      have y6 := xb 6 _ rfl (by omega)
      simp only [Nat.add_zero] at z0 y0
      simp only at z0 z1 z2 z3 z4 z5 z6 y0 y1 y2 y3 y4 y5 y6
      clear x1 x2 xa xb
      go_wp2
      refine wp_region_more_lit (by kernel_rfl) (by kernel_rfl) ?_
      repeat (first | go_big_quiet_skip | (go_big_quiet_want; go_big_quiet_op; first | go_big_quiet_on | (apply Exists.intro; refine ⟨fun _ => ?_, ?_⟩; (focus (fail)); go_big_quiet_on)))
      refine wpQuiet_nil ?_
      intro osq dq
      go_wp2
      go_roundg (l.length - (k + 1))
      case measure => omega
      case rel => exact ⟨k + 1, by omega, by omega, by go_num, RowKit.Below.more (by repeat (first | exact Below.refl _ _ | apply Below.drew | apply Below.more1 | apply Below.alloc1))⟩
    · go_wp2
      go_ret
      exact ⟨rfl, (by repeat (first | exact Below.refl _ _ | apply Below.drew | apply Below.more1 | apply Below.alloc1))⟩
end Go.Proofs.Ytpmadfokpimjcaa
