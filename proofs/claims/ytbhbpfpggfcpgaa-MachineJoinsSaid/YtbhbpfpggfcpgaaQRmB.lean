/-
reclaimref03: one move (move): a call of the machine's own begins.
-/
import Derived.Test.YtbhbpfpggfcpgaaQRmR
namespace Go
open Go.RowKit
open Go.Proofs.Ytbhbpfpggfcpgaa
/-- a thread that begins -/
def RT.start (n : Int) (lb : Int) (t : RT) : RT := { RT.puts (List.replicate 48 0) 0 { t with busy := true, call := n, pos := lb } with vback := .slice none 0 0 }
theorem RT.start_ok {t : RT} (h : t.ok) (n lb : Int) : (t.start n lb).ok := by
  have h1 := RT.puts_ok (List.replicate 48 0) 0 { t with busy := true, call := n, pos := lb } ⟨h.1, h.2⟩
  unfold RT.start
  generalize RT.puts (List.replicate 48 0) 0 { t with busy := true, call := n, pos := lb } = t1 at h1
  exact ⟨h1.1, h1.2⟩
def RM.beg (m : RM) (i : Nat) (mv : Mv) (lb : Int) : RM := { m.thr i (RT.start m.calls.length lb) with calls := m.calls ++ [⟨mv.th, mv.op, mv.arg, mv.data, m.moves, -1, -1, 0, 0⟩] }
end Go
namespace Go.Proofs.Ytbhbpfpggfcpgaa
open Go.ChangeShapes Go.WideShapes Go.ChangeAt Go.RowKit Go.Shelf

def RT.start3 (n : Int) (lb : Int) (t : RT) : RT := { t with busy := true, call := n, pos := lb }
def RT.noback (t : RT) : RT := { t with vback := .slice none 0 0 }
theorem start_eq (n lb : Int) : RT.start n lb = RT.noback ∘ RT.puts (List.replicate 48 0) 0 ∘ RT.start3 n lb := rfl
section
variable {w : World} {base mb : Nat} {m : RM} {v : RMV}
theorem putT' (h : RMAt w base mb m v) {g i j : Nat} (hg : (v.row 4).rowBlock = some g) (hi : i < m.T.length) (hj : j < 658) (f : RT → RT) (hy : (f m.T[i]).ok) (u : Value) (hc : (f m.T[i]).cells = m.T[i].cells.set j u) :
    RMAt (w.setCell ⟨g, i * 658 + j, none⟩ u) base mb (m.thr i f) v := by
  rw [RM.thr_eq _ _ _ hi]
  exact h.putT hg hi hj _ hy u hc
theorem thr_start3 (h : RMAt w base mb m v) {g i : Nat} (hg : (v.row 4).rowBlock = some g) (hi : i < m.T.length) (n lb : Int) :
    RMAt (((w.setCell ⟨g, i * 658, none⟩ (.bool true)).setCell ⟨g, i * 658 + 1, none⟩ (.int .i64 n)).setCell ⟨g, i * 658 + 2, none⟩ (.int .i64 lb)) base mb (m.thr i (RT.start3 n lb)) v := by
  have hok := h.tok m.T[i] (List.getElem_mem hi)
  have h1 := putT' h hg hi (j := 0) (by omega) (fun t => { t with busy := true }) hok (.bool true) (RT.set0 _ true)
  have h2 := putT' h1 hg (by rw [RM.thr_len]; exact hi) (j := 1) (by omega) (fun t => { t with call := n }) (by rw [RM.thr_get _ _ _ hi]; exact hok) (.int .i64 n) (RT.set1 _ n)
  have h3 := putT' h2 hg (by rw [RM.thr_len, RM.thr_len]; exact hi) (j := 2) (by omega) (fun t => { t with pos := lb }) (by rw [RM.thr_get _ _ _ (by rw [RM.thr_len]; exact hi), RM.thr_get _ _ _ hi]; exact hok) (.int .i64 lb) (RT.set2 _ lb)
  rw [Nat.add_zero, RM.thr_thr, RM.thr_thr] at h3
  exact h3
theorem thr_noback (h : RMAt w base mb m v) {g i : Nat} (hg : (v.row 4).rowBlock = some g) (hi : i < m.T.length) : RMAt (w.setCell ⟨g, i * 658 + 51, none⟩ (.slice none 0 0)) base mb (m.thr i RT.noback) v := by
  have hok := h.tok m.T[i] (List.getElem_mem hi)
  exact putT' h hg hi (j := 51) (by omega) RT.noback hok _ (RT.setback hok _)
end
def Z48 : Array Value := (u64s (List.replicate 48 0)).toArray
theorem _root_.Go.RT.cb {t : RT} (h : t.ok) : t.cells[51]? = some t.vback := by
  unfold RT.cells
  rw [show 51 = 48 + 1 + 1 + 1 by omega]
  simp only [List.getElem?_cons_succ]
  rw [List.getElem?_append_right (by simp [u64s, h.1])]
  simp [u64s, h.1]
theorem Z48_list : Z48.toList = u64s (List.replicate 48 0) := rfl
theorem heap_setCells_ne {b k : Nat} (hne : k ≠ b) : ∀ (l : List Value) (o : Nat) (w : World), (w.setCells b o l).heap[k]? = w.heap[k]?
  | [], _, _ => rfl
  | u :: l, o, w => (heap_setCells_ne hne l (o + 1) (w.setCell ⟨b, o, none⟩ u)).trans (Below.heap_setCell _ _ _ _ hne)
theorem info48 : (Try.prog.info? 146).map (·.size) = some Z48.size := by kernel_rfl
theorem one48 : Z48.all (·.oneCell') = true := by kernel_rfl
theorem at_store (ty : TypeId) {P : Program} {ops : Array Oper} {rest : List Oper} {a : Act} {w : World} {Q : Exit → Act → World → Prop} {d : Option Tmp} {x y : Operand} {t : TypeId} {p : String} {af : Array Edge}
    (h : wpList P ops Q ({ dst := d, op := .store ty x y, type := t, pos := p, after := af, guard := none } :: rest) a w) : wpList P ops Q ({ dst := d, op := .store ty x y, type := t, pos := p, after := af, guard := none } :: rest) a w := h

set_option maxRecDepth 100000 in
set_option maxHeartbeats 4000000 in
theorem rmove_yes1 {w : World} {base mb : Nat} {m : RM} {v : RMV} (H : RMAt w base mb m v) {i : Nat} (marg mdata : Int) (hi : i < m.T.length) (hbz : m.T[i].busy = false) (hents : m.ents = ownEnts) (hlab : m.labels = ownLabels)
    (hyes : (decide (0 ≤ marg) && decide (marg < (m.words.length : Int))) = true) (hcl : m.calls.length ≤ 1000000) :
    Calls Try.prog 62 #[.pointer (some ⟨mb, 0, none⟩), .agg #[.int .i64 (i : Int), .int .i64 1, .int .i64 marg, .int .i64 mdata]] w
      fun e w' => e = .returned (.bool true) ∧ ROut w base mb v (m.beg i ⟨(i : Int), 1, marg, mdata⟩ 0) w' := by
  obtain ⟨g, cap, e4, h1, h1', h2, h3, h4, h5, h6, h7⟩ := H.thr hi
  have b11 := H.b11
  rw [e4] at b11
  have lb := (H.lt mb (.inl rfl)).2
  have t0 := h6 0 _ (by omega) (RT.c0 _)
  simp only [Nat.add_zero] at t0
  unfold maxLen at h1'
  rw [hbz] at t0
  have q1 : decide ((i : Int) < 0) = false := by simp
  have q2 : decide ((m.T.length : Int) ≤ (i : Int)) = false := by simp; omega
  have q2n : decide (m.T.length ≤ i) = false := by simp; omega
  obtain ⟨ge, cape, ee, d1, d1', d2, d3, d4, d5, d6, d7⟩ := H.row (i := 3) (by omega) (show 0 < m.ents.length by rw [hents]; decide)
  change v.row 3 = .slice (some ⟨ge, 0, none⟩) m.ents.length cape at ee
  change m.ents.length ≤ cape at d1
  have d6' : ∀ (j : Nat) (u : Value), (m.ents.flatMap Ent.cells)[j]? = some u → w.cell? ⟨ge, j, none⟩ = some u := d6
  rw [hents] at d6'
  have x0 := d6' 0 _ rfl
  have x1 := d6' 1 _ rfl
  have x2 := d6' 2 _ rfl
  have x3 := d6' 3 _ rfl
  have x4 := d6' 4 _ rfl
  have x5 := d6' 5 _ rfl
  have b10 := H.b10
  rw [ee] at b10
  have hel : m.ents.length = 2 := by rw [hents]; rfl
  rw [hel] at b10 d1
  unfold maxLen at d1'
  have HMY := Lib.hid (fun Wq (hq : Only (fun _ => False) w Wq) => may_addr (H.only hq (fun _ _ x => x)) ⟨(i : Int), 1, marg, mdata⟩ rfl hi)
  unfold Mv.v at HMY
  have HYES := Lib.hid hyes
  have HH := Lib.hid H
  have H4 := Lib.hid h4
  have HLB := Lib.hid hlab
  have HBX := Lib.hid (And.intro h2 h3)
  clear H h4 h5 h6 e4 d2 d4 d5 d6 d6' ee hyes hents hlab h2
  go_enter Try.func62, Try.ntmps62
  go_wp2
  go_wp2
  refine wp_region_more_lit (by kernel_rfl) (by kernel_rfl) ?_
  repeat (first | go_big_quiet_skip | (go_big_quiet_want; go_big_quiet_op; first | go_big_quiet_on | (apply Exists.intro; refine ⟨fun _ => ?_, ?_⟩; (focus (fail)); go_big_quiet_on)))
  refine wpQuiet_nil ?_
  intro osq dq
  go_wp2
  go_wp2
  refine wp_region_more_lit (by kernel_rfl) (by kernel_rfl) ?_
  repeat (first | go_big_quiet_skip | (go_big_quiet_want; go_big_quiet_op; first | go_big_quiet_on | (apply Exists.intro; refine ⟨fun _ => ?_, ?_⟩; (focus (fail)); go_big_quiet_on)))
  refine wpQuiet_nil ?_
  intro osq dq
  go_wp2
  go_loopg [48] 0 (fun gh s48 wr => ∃ k : Nat, k ≤ 0 ∧ 0 ≤ k + gh ∧ s48 = .int .i64 (k : Int) ∧ ∃ os d, wr = (w.alloc (.cells #[.int .i64 (i : Int), .int .i64 1, .int .i64 marg, .int .i64 mdata] 34)).more os d)
  case atStart => exact ⟨0, by omega, by omega, by go_num, RowKit.Below.more (by repeat (first | exact Below.refl _ _ | apply Below.drew | apply Below.more1 | apply Below.alloc1))⟩
  case round =>
    obtain ⟨k, hk1, hk2, rfl, os, d, rfl⟩ := hrel
    obtain rfl : k = 0 := by omega
    go_upto_region 15 with (go_at_call 72; refine (HMY.out _ (by repeat (first | exact Only.refl _ _ | apply Only.alloc | apply Only.drew | apply Only.more))).mono ?_; rintro e w3 ⟨rfl, hb3⟩; rw [HYES.out]; obtain ⟨os3, d3', rfl⟩ := hb3.more; clear hb3)
    refine gen_world ?_
    intro W1 hW1
    have HN0 := Lib.hid (show Only (fun _ => False) w W1 by rw [hW1]; exact ((((Only.refl _ w).alloc _).more _ _).alloc _).more _ _)
    have HB : Hid (RMAt W1 base mb m v) := Lib.hid (HH.out.only HN0.out (fun _ _ x => x))
    obtain ⟨b3, hb3⟩ : ∃ b3, b3 = w.heap.size := ⟨_, rfl⟩
    obtain ⟨b7, hb7⟩ : ∃ b7, b7 = w.heap.size + 1 + os.size := ⟨_, rfl⟩
    have HB3w := Lib.hid hb3
    have HB7 := Lib.hid hb7
    have hm3 : W1.heap[b3]? = some (.cells #[.int .i64 (i : Int), .int .i64 1, .int .i64 marg, .int .i64 mdata] 34 (0, 0)) := by
      rw [hW1, World.heap_more _ _ _ _ (by simp [World.size_more]; omega), Below.heap_alloc _ _ _ (by simp [World.size_more]; omega), World.heap_more _ _ _ _ (by simp; omega)]
      exact heap_alloc_at hb3.symm
    have hm7 : W1.heap[b7]? = some (.cells #[.int .i64 1, .int .i64 1, .int .i64 5] 145 (0, 0)) := by
      rw [hW1, World.heap_more _ _ _ _ (by simp [World.size_more]; omega)]
      exact heap_alloc_at (by simp [World.size_more]; omega)
    rw [← hb7, ← hb3]
    have k0 : W1.cell? ⟨b3, 0, none⟩ = some (.int .i64 (i : Int)) := by simp [World.cell?, hm3]
    have k1 : W1.cell? ⟨b3, 1, none⟩ = some (.int .i64 1) := by simp [World.cell?, hm3]
    have k2 : W1.cell? ⟨b3, 2, none⟩ = some (.int .i64 marg) := by simp [World.cell?, hm3]
    have k3 : W1.cell? ⟨b3, 3, none⟩ = some (.int .i64 mdata) := by simp [World.cell?, hm3]
    have l3 := (Array.getElem?_eq_some_iff.1 hm3).1
    have e0 : W1.cell? ⟨b7, 0, none⟩ = some (.int .i64 1) := by simp [World.cell?, hm7]
    have e1 : W1.cell? ⟨b7, 1, none⟩ = some (.int .i64 1) := by simp [World.cell?, hm7]
    have l7 := (Array.getElem?_eq_some_iff.1 hm7).1
    have lw : mb < w.heap.size := (HH.out.lt mb (.inl rfl)).2
    have lg : g < w.heap.size := (HH.out.lt g (own_row (by omega) H4.out)).2
    have nm3 : mb ≠ b3 := by omega
    have n3m : b3 ≠ mb := by omega
    have ng3 : g ≠ b3 := by omega
    have n3g : b3 ≠ g := by omega
    have ng7 : g ≠ b7 := by omega
    have n7g : b7 ≠ g := by omega
    obtain ⟨g1, cap1, e41, p1, p1', p2, p3, p4, p5, p6, p7⟩ := HB.out.thr hi
    obtain rfl : g = g1 := by rw [H4.out] at p4; exact Option.some.inj p4
    have ngm := p7
    have nmg := Ne.symm p7
    have c0 : ∃ u, W1.cell? ⟨g, i * 658, none⟩ = some u := ⟨_, p6 0 _ (by omega) (RT.c0 _)⟩
    have c1 : ∃ u, W1.cell? ⟨g, i * 658 + 1, none⟩ = some u := ⟨_, p6 1 _ (by omega) (RT.c1 _)⟩
    have c2 : ∃ u, W1.cell? ⟨g, i * 658 + 2, none⟩ = some u := ⟨_, p6 2 _ (by omega) (RT.c2 _)⟩
    obtain ⟨u0, c0⟩ := c0
    obtain ⟨u1, c1⟩ := c1
    obtain ⟨u2, c2⟩ := c2
    have z0 := p5 (i * 658)
    have z1 := p5 (i * 658 + 1)
    have z2 := p5 (i * 658 + 2)
    obtain ⟨oc, cc, ec, y1, y2⟩ := (HB.out.rows 8 (by omega)).form
    change v.row 8 = .slice oc m.calls.length cc at ec
    change m.calls.length ≤ cc at y1
    have b24 := HB.out.b24
    rw [ec] at b24
    have HLN : Hid (m.labels.length = 4) := Lib.hid (by rw [HLB.out]; rfl)
    obtain ⟨gl, capl, el, l1, l1', l2, l3b, l4, lz5, l6, l7b⟩ := HB.out.row (i := 2) (by omega) (show 0 < m.labels.length by rw [HLN.out]; decide)
    change v.row 2 = .slice (some ⟨gl, 0, none⟩) m.labels.length capl at el
    change m.labels.length ≤ capl at l1
    have b9 := HB.out.b9
    rw [el, HLN.out] at b9
    rw [HLN.out] at l1
    have ngl : g ≠ gl := HB.out.apart2 (i := 4) (j := 2) (by omega) (by omega) (by omega) H4.out l4
    have nlg : gl ≠ g := Ne.symm ngl
    have nlm : mb ≠ gl := Ne.symm l7b
    have cl : W1.cell? ⟨gl, 1, none⟩ = some (.int .i64 0) := l6 1 _ (by show (ints m.labels)[1]? = _; rw [HLB.out]; rfl)
    have lb1 := (HB.out.lt mb (.inl rfl)).2
    unfold maxLen at l1'
    have HP5 := Lib.hid p5
    have HM3 := Lib.hid hm3
    have YY := Lib.hid (And.intro ec (And.intro y1 y2))
    clear hW1 hm3 hm7 hb3 hb7 b10 b11 t0 x0 x1 x2 x3 x4 x5 e41 p1 p1' p2 p4 p5 p6 p7 el ec y1 y2 l2 l4 lz5 l6 lb
    go_wp2
    go_wp2
    refine wp_region_more_tail 11 (by kernel_rfl) (by kernel_rfl) ?_
    simp only [List.take_succ_cons, List.take_zero, List.drop_succ_cons, List.drop_zero]
    repeat (first | go_big_quiet_skip | (go_big_quiet_want; go_big_quiet_op; first | go_big_quiet_on | (apply Exists.intro; refine ⟨fun _ => ?_, ?_⟩; (focus (fail)); go_big_quiet_on)))
    refine wpQuiet_nil ?_
    intro osq dq
    go_upto_region 18 with (fail)
    refine gen_world ?_
    intro W2 hW2
    have HB2 : Hid (RMAt W2 base mb (m.thr i (RT.start3 m.calls.length 0)) v) := Lib.hid (by
      rw [hW2]
      repeat apply RMAt.more
      exact thr_start3 HB.out H4.out hi _ _)
    have HO2 : Hid (Only (v.own mb) w W2) := Lib.hid (by
      rw [hW2]
      repeat apply Only.more
      exact (((HN0.out.mono (fun _ _ x => x.elim)).set (.inl (own_row (i := 4) (by omega) H4.out)) _).set (.inl (own_row (i := 4) (by omega) H4.out)) _).set (.inl (own_row (i := 4) (by omega) H4.out)) _)
    have hm32 : W2.heap[b3]? = some (.cells #[.int .i64 (i : Int), .int .i64 1, .int .i64 marg, .int .i64 mdata] 34 (0, 0)) := by
      rw [hW2, World.heap_more _ _ _ _ (by simpa using l3), Below.heap_setCell _ _ _ _ n3g, Below.heap_setCell _ _ _ _ n3g, Below.heap_setCell _ _ _ _ n3g]
      exact HM3.out
    clear hW2 k0 k1 k2 k3 e0 e1 l7 l3 cl b9 nlg nlm ngl l3b l1 l1' ng7 n7g c0 c1 c2 z0 z1 z2 b24 lb1 p3
    obtain ⟨g2, cap2, e42, r1, r1', r2, r3, r4, r5, r6, r7⟩ := HB2.out.thr (by rw [RM.thr_len]; exact hi)
    obtain rfl : g = g2 := by rw [H4.out] at r4; exact Option.some.inj r4
    have HTH : Hid (W2.there g (i * 658 + 3) Z48.size) := Lib.hid (fun j hj => ⟨by
      have hj' : j < 48 := hj
      rw [Nat.add_assoc, r6 (3 + j) _ (by omega) (RT.cr (HB2.out.tok _ (List.getElem_mem _)) j hj')]
      rfl, r5 _⟩)
    clear r1 r1' r2 r4 r5 r6 e42 r7
    go_upto_region 19 with ((with_reducible refine at_store 146 ?_); refine wpList_store_mid rfl 146 (.tmp 89) (.tmp 87) rfl g (i * 658 + 3) Z48 rfl rfl HTH.out info48 one48 ?_)
    refine gen_world ?_
    intro W3 hW3
    have HB3 : Hid (RMAt W3 base mb ((m.thr i (RT.start3 m.calls.length 0)).thr i (RT.puts (List.replicate 48 0) 0)) v) := Lib.hid (by
      rw [hW3, Z48_list]
      exact thr_puts H4.out (List.replicate 48 0) 0 W2 _ HB2.out (by rw [RM.thr_len]; exact hi) (by decide))
    have HO3 : Hid (Only (v.own mb) w W3) := Lib.hid (by
      rw [hW3]
      exact setCells_only (own_row (i := 4) (by omega) H4.out) _ _ _ _ HO2.out)
    have hm33 : W3.heap[b3]? = some (.cells #[.int .i64 (i : Int), .int .i64 1, .int .i64 marg, .int .i64 mdata] 34 (0, 0)) := by
      rw [hW3, heap_setCells_ne n3g]
      exact hm32
    clear hW3 hm32
    have HM33 := Lib.hid hm33
    obtain ⟨g3, cap3, e43, r1, r1', r2, r3, r4, r5, r6, r7⟩ := HB3.out.thr (by rw [RM.thr_len, RM.thr_len]; exact hi)
    obtain rfl : g = g3 := by rw [H4.out] at r4; exact Option.some.inj r4
    obtain ⟨ub, cb⟩ : ∃ u, W3.cell? ⟨g, i * 658 + 51, none⟩ = some u := ⟨_, r6 51 _ (by omega) (RT.cb (HB3.out.tok _ (List.getElem_mem _)))⟩
    have zb := r5 (i * 658 + 51)
    clear hm33 r1 r1' r2 r4 r5 r6 e43 r7
    go_upto_region 20 with (fail)
    refine gen_world ?_
    intro W4 hW4
    have HB4 : Hid (RMAt W4 base mb (m.thr i (RT.start m.calls.length 0)) v) := Lib.hid (by
      rw [hW4, start_eq, ← RM.thr_thr, ← RM.thr_thr]
      exact thr_noback HB3.out H4.out (by rw [RM.thr_len, RM.thr_len]; exact hi))
    have HO4 : Hid (Only (v.own mb) w W4) := Lib.hid (by
      rw [hW4]
      exact HO3.out.set (.inl (own_row (i := 4) (by omega) H4.out)) _)
    have hm34 : W4.heap[b3]? = some (.cells #[.int .i64 (i : Int), .int .i64 1, .int .i64 marg, .int .i64 mdata] 34 (0, 0)) := by
      rw [hW4, Below.heap_setCell _ _ _ _ n3g]
      exact HM33.out
    clear hW4 cb zb r3
    have x0 : W4.cell? ⟨b3, 0, none⟩ = some (.int .i64 (i : Int)) := by simp [World.cell?, hm34]
    have x1 : W4.cell? ⟨b3, 1, none⟩ = some (.int .i64 1) := by simp [World.cell?, hm34]
    have x2 : W4.cell? ⟨b3, 2, none⟩ = some (.int .i64 marg) := by simp [World.cell?, hm34]
    have x3 : W4.cell? ⟨b3, 3, none⟩ = some (.int .i64 mdata) := by simp [World.cell?, hm34]
    have l3 := (Array.getElem?_eq_some_iff.1 hm34).1
    clear hm34
    obtain ⟨i0, ii, iz0, iz1, iz2⟩ := info_parts infoCall
    have HII := Lib.hid ii
    have HZ0 := Lib.hid iz0
    have HZ1 := Lib.hid iz1
    have HZ2 := Lib.hid iz2
    clear ii iz0 iz1 iz2
    obtain ⟨ot, ct, et, y1, y2⟩ := (HB4.out.rows 8 (by omega)).form
    change v.row 8 = .slice ot m.calls.length ct at et
    change m.calls.length ≤ ct at y1
    have b24 := HB4.out.b24
    have b23 : W4.cell? ⟨mb, 23, none⟩ = some (.int .i64 m.moves) := HB4.out.b23
    rw [et] at b24
    have RT8 : Hid (W4.RowV base 63 9 (.slice ot m.calls.length ct) m.calls.length (cals m.calls)) := Lib.hid (by rw [← et]; exact HB4.out.rows 8 (by omega))
    have ET := Lib.hid et
    have lb2 := (HB4.out.lt mb (.inl rfl)).2
    have hbase : base ≤ W4.heap.size := Nat.le_trans HB4.out.ge (Nat.le_of_lt lb2)
    have S2 := Lib.hid (show m.calls.length + 1 ≤ maxLen by unfold maxLen; omega)
    have S3 := Lib.hid (show ((m.calls.length + 1) + (m.calls.length + 1) / 4 + 192) * 72 ≤ 281474976710656 by omega)
    have f24 := fun q : LaterF (fun k => (v.row 8).rowBlock = some k) W4 => q.cell b24 lb2 (fun e => HB4.out.apart (by omega) e rfl)
    have f23 := fun q : LaterF (fun k => (v.row 8).rowBlock = some k) W4 => q.cell b23 lb2 (fun e => HB4.out.apart (by omega) e rfl)
    have hn3 : ¬ (fun k => (v.row 8).rowBlock = some k) b3 := fun e => by have := (HH.out.lt b3 (own_row (by omega) e)).2; have := HB3w.out; omega
    have q0 := fun q : LaterF (fun k => (v.row 8).rowBlock = some k) W4 => q.cell x0 l3 hn3
    have q1' := fun q : LaterF (fun k => (v.row 8).rowBlock = some k) W4 => q.cell x1 l3 hn3
    have q2' := fun q : LaterF (fun k => (v.row 8).rowBlock = some k) W4 => q.cell x2 l3 hn3
    have q3 := fun q : LaterF (fun k => (v.row 8).rowBlock = some k) W4 => q.cell x3 l3 hn3
    have S1 := Lib.hid (cals_one [⟨(i : Int), 1, marg, mdata, m.moves, -1, -1, 0, 0⟩])
    unfold maxLen at y2
    clear x0 x1 x2 x3 et b24 b23
    go_wp2
    refine wp_region_plan (fun wz => ∃ q : LaterF (fun k => (v.row 8).rowBlock = some k) W4, wz = q.W) [18, 19, 22] [0, 1, 2, 3, 4, 5, 6, 7, 8, 9, 10, 11, 12, 13, 14, 15, 16, 17] (.fork 18 [] (.fork 19 [] (.tail 20) .none) .none) oper0 (by kernel_rfl) (by kernel_rfl) (laterF_in (Only.refl _ _).drew) ?_
    simp only [wpPlan, List.map_cons, List.map_nil, List.getD_cons_zero, List.getD_cons_succ, List.drop_succ_cons, List.drop_zero]
    repeat (first | go_big_quiet_skip | (go_big_quiet_want; go_big_quiet_op; go_big_quiet_on))
    refine wpQuiet_nil ?_
    refine ⟨?_, trivial⟩
    go_wp2_with fail
    refine strict_on ?_
    refine ⟨?_, ?_⟩
    · exact laterF_in (by repeat (first | exact Only.refl _ _ | apply Only.alloc | apply Only.drew))
    repeat (first | go_big_quiet_skip | (go_big_quiet_want; go_big_quiet_op; go_big_quiet_on))
    refine wpQuiet_nil ?_
    refine ⟨?_, trivial⟩
    go_wp2_with (at_builtin; refine wpList_append_row _ rfl _ _ 37 rfl base 63 i0 _ 9 72 Try.underlying37 HII.out HZ0.out HZ1.out HZ2.out rfl (.slice ot m.calls.length ct) m.calls.length (cals m.calls) rfl (by repeat (first | exact RT8.out | apply World.RowV.alloc | apply World.RowV.drew)) _ 1 _ rfl (by repeat (first | apply World.Src.drew | exact World.Src.one rfl rfl)) S1.out S2.out S3.out (by simp; omega) ?_; intro v' w5 hown hout; have HWN := Lib.hid hown; have HWO := Lib.hid hout; clear hown hout)
    refine strict_on ?_
    refine ⟨?_, ?_⟩
    · refine laterF_in (Only.trans ?_ (Only.out HWO.out (F := fun k => (Value.slice ot m.calls.length ct).rowBlock = some k) (fun k hk => hk)) (fun k hk => .inl (by rw [ET.out]; exact hk)))
      repeat (first | exact Only.refl _ _ | apply Only.alloc | apply Only.drew)
    repeat (first | go_big_quiet_skip | (go_big_quiet_want; go_big_quiet_op; go_big_quiet_on))
    refine wpQuiet_nil ?_
    have HWO2 := HWO.out
    rw [← ET.out] at HWO2
    have HFIN := Lib.hid (app_calls (mb := mb) (m := m.thr i (RT.start m.calls.length 0)) (v := v) (a := ⟨(i : Int), 1, marg, mdata, m.moves, -1, -1, 0, 0⟩) (by repeat (first | exact HB4.out | apply RMAt.alloc | apply RMAt.drew)) HWN.out HWO2)
    obtain ⟨d0, dz, dl⟩ := RMAt.aft (base := base) (mb := mb) (m := m.thr i (RT.start m.calls.length 0)) (v := v) (i := 8) (by repeat (first | exact HB4.out | apply RMAt.alloc | apply RMAt.drew)) (by omega) HWO2
    clear HWO2
    have d24 := d0 24 _ rfl
    have z24 := dz 24
    obtain ⟨ov, cv, ev, _, _⟩ := HWN.out.form
    subst ev
    clear d0 dz
    go_wp2
    go_ret
    refine ⟨rfl, ?_⟩
    refine ROut.ahead HO4.out (ROut.pre ?_ HFIN.out)
    repeat (first | exact Only.refl _ _ | apply Only.alloc | apply Only.drew)

set_option maxRecDepth 100000 in
set_option maxHeartbeats 4000000 in
theorem rmove_yes2 {w : World} {base mb : Nat} {m : RM} {v : RMV} (H : RMAt w base mb m v) {i : Nat} (marg mdata : Int) (hi : i < m.T.length) (hbz : m.T[i].busy = false) (hents : m.ents = ownEnts) (hlab : m.labels = ownLabels)
    (hyes : (decide (0 ≤ marg) && decide (marg < (m.words.length : Int))) = true) (hcl : m.calls.length ≤ 1000000) :
    Calls Try.prog 62 #[.pointer (some ⟨mb, 0, none⟩), .agg #[.int .i64 (i : Int), .int .i64 2, .int .i64 marg, .int .i64 mdata]] w
      fun e w' => e = .returned (.bool true) ∧ ROut w base mb v (m.beg i ⟨(i : Int), 2, marg, mdata⟩ 5) w' := by
  obtain ⟨g, cap, e4, h1, h1', h2, h3, h4, h5, h6, h7⟩ := H.thr hi
  have b11 := H.b11
  rw [e4] at b11
  have lb := (H.lt mb (.inl rfl)).2
  have t0 := h6 0 _ (by omega) (RT.c0 _)
  simp only [Nat.add_zero] at t0
  unfold maxLen at h1'
  rw [hbz] at t0
  have q1 : decide ((i : Int) < 0) = false := by simp
  have q2 : decide ((m.T.length : Int) ≤ (i : Int)) = false := by simp; omega
  have q2n : decide (m.T.length ≤ i) = false := by simp; omega
  obtain ⟨ge, cape, ee, d1, d1', d2, d3, d4, d5, d6, d7⟩ := H.row (i := 3) (by omega) (show 0 < m.ents.length by rw [hents]; decide)
  change v.row 3 = .slice (some ⟨ge, 0, none⟩) m.ents.length cape at ee
  change m.ents.length ≤ cape at d1
  have d6' : ∀ (j : Nat) (u : Value), (m.ents.flatMap Ent.cells)[j]? = some u → w.cell? ⟨ge, j, none⟩ = some u := d6
  rw [hents] at d6'
  have x0 := d6' 0 _ rfl
  have x1 := d6' 1 _ rfl
  have x2 := d6' 2 _ rfl
  have x3 := d6' 3 _ rfl
  have x4 := d6' 4 _ rfl
  have x5 := d6' 5 _ rfl
  have b10 := H.b10
  rw [ee] at b10
  have hel : m.ents.length = 2 := by rw [hents]; rfl
  rw [hel] at b10 d1
  unfold maxLen at d1'
  have HMY := Lib.hid (fun Wq (hq : Only (fun _ => False) w Wq) => may_addr (H.only hq (fun _ _ x => x)) ⟨(i : Int), 2, marg, mdata⟩ rfl hi)
  unfold Mv.v at HMY
  have HYES := Lib.hid hyes
  have HH := Lib.hid H
  have H4 := Lib.hid h4
  have HLB := Lib.hid hlab
  have HBX := Lib.hid (And.intro h2 h3)
  clear H h4 h5 h6 e4 d2 d4 d5 d6 d6' ee hyes hents hlab h2
  go_enter Try.func62, Try.ntmps62
  go_wp2
  go_wp2
  refine wp_region_more_lit (by kernel_rfl) (by kernel_rfl) ?_
  repeat (first | go_big_quiet_skip | (go_big_quiet_want; go_big_quiet_op; first | go_big_quiet_on | (apply Exists.intro; refine ⟨fun _ => ?_, ?_⟩; (focus (fail)); go_big_quiet_on)))
  refine wpQuiet_nil ?_
  intro osq dq
  go_wp2
  go_wp2
  refine wp_region_more_lit (by kernel_rfl) (by kernel_rfl) ?_
  repeat (first | go_big_quiet_skip | (go_big_quiet_want; go_big_quiet_op; first | go_big_quiet_on | (apply Exists.intro; refine ⟨fun _ => ?_, ?_⟩; (focus (fail)); go_big_quiet_on)))
  refine wpQuiet_nil ?_
  intro osq dq
  go_wp2
  go_loopg [48] 1 (fun gh s48 wr => ∃ k : Nat, k ≤ 1 ∧ 1 ≤ k + gh ∧ s48 = .int .i64 (k : Int) ∧ ∃ os d, wr = (w.alloc (.cells #[.int .i64 (i : Int), .int .i64 2, .int .i64 marg, .int .i64 mdata] 34)).more os d)
  case atStart => exact ⟨0, by omega, by omega, by go_num, RowKit.Below.more (by repeat (first | exact Below.refl _ _ | apply Below.drew | apply Below.more1 | apply Below.alloc1))⟩
  case round =>
    obtain ⟨k, hk1, hk2, rfl, os, d, rfl⟩ := hrel
    rcases (by omega : k = 0 ∨ k = 1) with rfl | rfl
    · go_wp2
      go_roundg 0
      case measure => omega
      case rel => exact ⟨1, by omega, by omega, by go_num, RowKit.Below.more (by repeat (first | exact Below.refl _ _ | apply Below.drew | apply Below.more1 | apply Below.alloc1))⟩
    go_upto_region 15 with (go_at_call 72; refine (HMY.out _ (by repeat (first | exact Only.refl _ _ | apply Only.alloc | apply Only.drew | apply Only.more))).mono ?_; rintro e w3 ⟨rfl, hb3⟩; rw [HYES.out]; obtain ⟨os3, d3', rfl⟩ := hb3.more; clear hb3)
    refine gen_world ?_
    intro W1 hW1
    have HN0 := Lib.hid (show Only (fun _ => False) w W1 by rw [hW1]; exact ((((Only.refl _ w).alloc _).more _ _).alloc _).more _ _)
    have HB : Hid (RMAt W1 base mb m v) := Lib.hid (HH.out.only HN0.out (fun _ _ x => x))
    obtain ⟨b3, hb3⟩ : ∃ b3, b3 = w.heap.size := ⟨_, rfl⟩
    obtain ⟨b7, hb7⟩ : ∃ b7, b7 = w.heap.size + 1 + os.size := ⟨_, rfl⟩
    have HB3w := Lib.hid hb3
    have HB7 := Lib.hid hb7
    have hm3 : W1.heap[b3]? = some (.cells #[.int .i64 (i : Int), .int .i64 2, .int .i64 marg, .int .i64 mdata] 34 (0, 0)) := by
      rw [hW1, World.heap_more _ _ _ _ (by simp [World.size_more]; omega), Below.heap_alloc _ _ _ (by simp [World.size_more]; omega), World.heap_more _ _ _ _ (by simp; omega)]
      exact heap_alloc_at hb3.symm
    have hm7 : W1.heap[b7]? = some (.cells #[.int .i64 2, .int .i64 2, .int .i64 5] 145 (0, 0)) := by
      rw [hW1, World.heap_more _ _ _ _ (by simp [World.size_more]; omega)]
      exact heap_alloc_at (by simp [World.size_more]; omega)
    rw [← hb7, ← hb3]
    have k0 : W1.cell? ⟨b3, 0, none⟩ = some (.int .i64 (i : Int)) := by simp [World.cell?, hm3]
    have k1 : W1.cell? ⟨b3, 1, none⟩ = some (.int .i64 2) := by simp [World.cell?, hm3]
    have k2 : W1.cell? ⟨b3, 2, none⟩ = some (.int .i64 marg) := by simp [World.cell?, hm3]
    have k3 : W1.cell? ⟨b3, 3, none⟩ = some (.int .i64 mdata) := by simp [World.cell?, hm3]
    have l3 := (Array.getElem?_eq_some_iff.1 hm3).1
    have e0 : W1.cell? ⟨b7, 0, none⟩ = some (.int .i64 2) := by simp [World.cell?, hm7]
    have e1 : W1.cell? ⟨b7, 1, none⟩ = some (.int .i64 2) := by simp [World.cell?, hm7]
    have l7 := (Array.getElem?_eq_some_iff.1 hm7).1
    have lw : mb < w.heap.size := (HH.out.lt mb (.inl rfl)).2
    have lg : g < w.heap.size := (HH.out.lt g (own_row (by omega) H4.out)).2
    have nm3 : mb ≠ b3 := by omega
    have n3m : b3 ≠ mb := by omega
    have ng3 : g ≠ b3 := by omega
    have n3g : b3 ≠ g := by omega
    have ng7 : g ≠ b7 := by omega
    have n7g : b7 ≠ g := by omega
    obtain ⟨g1, cap1, e41, p1, p1', p2, p3, p4, p5, p6, p7⟩ := HB.out.thr hi
    obtain rfl : g = g1 := by rw [H4.out] at p4; exact Option.some.inj p4
    have ngm := p7
    have nmg := Ne.symm p7
    have c0 : ∃ u, W1.cell? ⟨g, i * 658, none⟩ = some u := ⟨_, p6 0 _ (by omega) (RT.c0 _)⟩
    have c1 : ∃ u, W1.cell? ⟨g, i * 658 + 1, none⟩ = some u := ⟨_, p6 1 _ (by omega) (RT.c1 _)⟩
    have c2 : ∃ u, W1.cell? ⟨g, i * 658 + 2, none⟩ = some u := ⟨_, p6 2 _ (by omega) (RT.c2 _)⟩
    obtain ⟨u0, c0⟩ := c0
    obtain ⟨u1, c1⟩ := c1
    obtain ⟨u2, c2⟩ := c2
    have z0 := p5 (i * 658)
    have z1 := p5 (i * 658 + 1)
    have z2 := p5 (i * 658 + 2)
    obtain ⟨oc, cc, ec, y1, y2⟩ := (HB.out.rows 8 (by omega)).form
    change v.row 8 = .slice oc m.calls.length cc at ec
    change m.calls.length ≤ cc at y1
    have b24 := HB.out.b24
    rw [ec] at b24
    have HLN : Hid (m.labels.length = 4) := Lib.hid (by rw [HLB.out]; rfl)
    obtain ⟨gl, capl, el, l1, l1', l2, l3b, l4, lz5, l6, l7b⟩ := HB.out.row (i := 2) (by omega) (show 0 < m.labels.length by rw [HLN.out]; decide)
    change v.row 2 = .slice (some ⟨gl, 0, none⟩) m.labels.length capl at el
    change m.labels.length ≤ capl at l1
    have b9 := HB.out.b9
    rw [el, HLN.out] at b9
    rw [HLN.out] at l1
    have ngl : g ≠ gl := HB.out.apart2 (i := 4) (j := 2) (by omega) (by omega) (by omega) H4.out l4
    have nlg : gl ≠ g := Ne.symm ngl
    have nlm : mb ≠ gl := Ne.symm l7b
    have cl : W1.cell? ⟨gl, 2, none⟩ = some (.int .i64 5) := l6 2 _ (by show (ints m.labels)[2]? = _; rw [HLB.out]; rfl)
    have lb1 := (HB.out.lt mb (.inl rfl)).2
    unfold maxLen at l1'
    have HP5 := Lib.hid p5
    have HM3 := Lib.hid hm3
    have YY := Lib.hid (And.intro ec (And.intro y1 y2))
    clear hW1 hm3 hm7 hb3 hb7 b10 b11 t0 x0 x1 x2 x3 x4 x5 e41 p1 p1' p2 p4 p5 p6 p7 el ec y1 y2 l2 l4 lz5 l6 lb
    go_wp2
    go_wp2
    refine wp_region_more_tail 11 (by kernel_rfl) (by kernel_rfl) ?_
    simp only [List.take_succ_cons, List.take_zero, List.drop_succ_cons, List.drop_zero]
    repeat (first | go_big_quiet_skip | (go_big_quiet_want; go_big_quiet_op; first | go_big_quiet_on | (apply Exists.intro; refine ⟨fun _ => ?_, ?_⟩; (focus (fail)); go_big_quiet_on)))
    refine wpQuiet_nil ?_
    intro osq dq
    go_upto_region 18 with (fail)
    refine gen_world ?_
    intro W2 hW2
    have HB2 : Hid (RMAt W2 base mb (m.thr i (RT.start3 m.calls.length 5)) v) := Lib.hid (by
      rw [hW2]
      repeat apply RMAt.more
      exact thr_start3 HB.out H4.out hi _ _)
    have HO2 : Hid (Only (v.own mb) w W2) := Lib.hid (by
      rw [hW2]
      repeat apply Only.more
      exact (((HN0.out.mono (fun _ _ x => x.elim)).set (.inl (own_row (i := 4) (by omega) H4.out)) _).set (.inl (own_row (i := 4) (by omega) H4.out)) _).set (.inl (own_row (i := 4) (by omega) H4.out)) _)
    have hm32 : W2.heap[b3]? = some (.cells #[.int .i64 (i : Int), .int .i64 2, .int .i64 marg, .int .i64 mdata] 34 (0, 0)) := by
      rw [hW2, World.heap_more _ _ _ _ (by simpa using l3), Below.heap_setCell _ _ _ _ n3g, Below.heap_setCell _ _ _ _ n3g, Below.heap_setCell _ _ _ _ n3g]
      exact HM3.out
    clear hW2 k0 k1 k2 k3 e0 e1 l7 l3 cl b9 nlg nlm ngl l3b l1 l1' ng7 n7g c0 c1 c2 z0 z1 z2 b24 lb1 p3
    obtain ⟨g2, cap2, e42, r1, r1', r2, r3, r4, r5, r6, r7⟩ := HB2.out.thr (by rw [RM.thr_len]; exact hi)
    obtain rfl : g = g2 := by rw [H4.out] at r4; exact Option.some.inj r4
    have HTH : Hid (W2.there g (i * 658 + 3) Z48.size) := Lib.hid (fun j hj => ⟨by
      have hj' : j < 48 := hj
      rw [Nat.add_assoc, r6 (3 + j) _ (by omega) (RT.cr (HB2.out.tok _ (List.getElem_mem _)) j hj')]
      rfl, r5 _⟩)
    clear r1 r1' r2 r4 r5 r6 e42 r7
    go_upto_region 19 with ((with_reducible refine at_store 146 ?_); refine wpList_store_mid rfl 146 (.tmp 89) (.tmp 87) rfl g (i * 658 + 3) Z48 rfl rfl HTH.out info48 one48 ?_)
    refine gen_world ?_
    intro W3 hW3
    have HB3 : Hid (RMAt W3 base mb ((m.thr i (RT.start3 m.calls.length 5)).thr i (RT.puts (List.replicate 48 0) 0)) v) := Lib.hid (by
      rw [hW3, Z48_list]
      exact thr_puts H4.out (List.replicate 48 0) 0 W2 _ HB2.out (by rw [RM.thr_len]; exact hi) (by decide))
    have HO3 : Hid (Only (v.own mb) w W3) := Lib.hid (by
      rw [hW3]
      exact setCells_only (own_row (i := 4) (by omega) H4.out) _ _ _ _ HO2.out)
    have hm33 : W3.heap[b3]? = some (.cells #[.int .i64 (i : Int), .int .i64 2, .int .i64 marg, .int .i64 mdata] 34 (0, 0)) := by
      rw [hW3, heap_setCells_ne n3g]
      exact hm32
    clear hW3 hm32
    have HM33 := Lib.hid hm33
    obtain ⟨g3, cap3, e43, r1, r1', r2, r3, r4, r5, r6, r7⟩ := HB3.out.thr (by rw [RM.thr_len, RM.thr_len]; exact hi)
    obtain rfl : g = g3 := by rw [H4.out] at r4; exact Option.some.inj r4
    obtain ⟨ub, cb⟩ : ∃ u, W3.cell? ⟨g, i * 658 + 51, none⟩ = some u := ⟨_, r6 51 _ (by omega) (RT.cb (HB3.out.tok _ (List.getElem_mem _)))⟩
    have zb := r5 (i * 658 + 51)
    clear hm33 r1 r1' r2 r4 r5 r6 e43 r7
    go_upto_region 20 with (fail)
    refine gen_world ?_
    intro W4 hW4
    have HB4 : Hid (RMAt W4 base mb (m.thr i (RT.start m.calls.length 5)) v) := Lib.hid (by
      rw [hW4, start_eq, ← RM.thr_thr, ← RM.thr_thr]
      exact thr_noback HB3.out H4.out (by rw [RM.thr_len, RM.thr_len]; exact hi))
    have HO4 : Hid (Only (v.own mb) w W4) := Lib.hid (by
      rw [hW4]
      exact HO3.out.set (.inl (own_row (i := 4) (by omega) H4.out)) _)
    have hm34 : W4.heap[b3]? = some (.cells #[.int .i64 (i : Int), .int .i64 2, .int .i64 marg, .int .i64 mdata] 34 (0, 0)) := by
      rw [hW4, Below.heap_setCell _ _ _ _ n3g]
      exact HM33.out
    clear hW4 cb zb r3
    have x0 : W4.cell? ⟨b3, 0, none⟩ = some (.int .i64 (i : Int)) := by simp [World.cell?, hm34]
    have x1 : W4.cell? ⟨b3, 1, none⟩ = some (.int .i64 2) := by simp [World.cell?, hm34]
    have x2 : W4.cell? ⟨b3, 2, none⟩ = some (.int .i64 marg) := by simp [World.cell?, hm34]
    have x3 : W4.cell? ⟨b3, 3, none⟩ = some (.int .i64 mdata) := by simp [World.cell?, hm34]
    have l3 := (Array.getElem?_eq_some_iff.1 hm34).1
    clear hm34
    obtain ⟨i0, ii, iz0, iz1, iz2⟩ := info_parts infoCall
    have HII := Lib.hid ii
    have HZ0 := Lib.hid iz0
    have HZ1 := Lib.hid iz1
    have HZ2 := Lib.hid iz2
    clear ii iz0 iz1 iz2
    obtain ⟨ot, ct, et, y1, y2⟩ := (HB4.out.rows 8 (by omega)).form
    change v.row 8 = .slice ot m.calls.length ct at et
    change m.calls.length ≤ ct at y1
    have b24 := HB4.out.b24
    have b23 : W4.cell? ⟨mb, 23, none⟩ = some (.int .i64 m.moves) := HB4.out.b23
    rw [et] at b24
    have RT8 : Hid (W4.RowV base 63 9 (.slice ot m.calls.length ct) m.calls.length (cals m.calls)) := Lib.hid (by rw [← et]; exact HB4.out.rows 8 (by omega))
    have ET := Lib.hid et
    have lb2 := (HB4.out.lt mb (.inl rfl)).2
    have hbase : base ≤ W4.heap.size := Nat.le_trans HB4.out.ge (Nat.le_of_lt lb2)
    have S2 := Lib.hid (show m.calls.length + 1 ≤ maxLen by unfold maxLen; omega)
    have S3 := Lib.hid (show ((m.calls.length + 1) + (m.calls.length + 1) / 4 + 192) * 72 ≤ 281474976710656 by omega)
    have f24 := fun q : LaterF (fun k => (v.row 8).rowBlock = some k) W4 => q.cell b24 lb2 (fun e => HB4.out.apart (by omega) e rfl)
    have f23 := fun q : LaterF (fun k => (v.row 8).rowBlock = some k) W4 => q.cell b23 lb2 (fun e => HB4.out.apart (by omega) e rfl)
    have hn3 : ¬ (fun k => (v.row 8).rowBlock = some k) b3 := fun e => by have := (HH.out.lt b3 (own_row (by omega) e)).2; have := HB3w.out; omega
    have q0 := fun q : LaterF (fun k => (v.row 8).rowBlock = some k) W4 => q.cell x0 l3 hn3
    have q1' := fun q : LaterF (fun k => (v.row 8).rowBlock = some k) W4 => q.cell x1 l3 hn3
    have q2' := fun q : LaterF (fun k => (v.row 8).rowBlock = some k) W4 => q.cell x2 l3 hn3
    have q3 := fun q : LaterF (fun k => (v.row 8).rowBlock = some k) W4 => q.cell x3 l3 hn3
    have S1 := Lib.hid (cals_one [⟨(i : Int), 2, marg, mdata, m.moves, -1, -1, 0, 0⟩])
    unfold maxLen at y2
    clear x0 x1 x2 x3 et b24 b23
    go_wp2
    refine wp_region_plan (fun wz => ∃ q : LaterF (fun k => (v.row 8).rowBlock = some k) W4, wz = q.W) [18, 19, 22] [0, 1, 2, 3, 4, 5, 6, 7, 8, 9, 10, 11, 12, 13, 14, 15, 16, 17] (.fork 18 [] (.fork 19 [] (.tail 20) .none) .none) oper0 (by kernel_rfl) (by kernel_rfl) (laterF_in (Only.refl _ _).drew) ?_
    simp only [wpPlan, List.map_cons, List.map_nil, List.getD_cons_zero, List.getD_cons_succ, List.drop_succ_cons, List.drop_zero]
    repeat (first | go_big_quiet_skip | (go_big_quiet_want; go_big_quiet_op; go_big_quiet_on))
    refine wpQuiet_nil ?_
    refine ⟨?_, trivial⟩
    go_wp2_with fail
    refine strict_on ?_
    refine ⟨?_, ?_⟩
    · exact laterF_in (by repeat (first | exact Only.refl _ _ | apply Only.alloc | apply Only.drew))
    repeat (first | go_big_quiet_skip | (go_big_quiet_want; go_big_quiet_op; go_big_quiet_on))
    refine wpQuiet_nil ?_
    refine ⟨?_, trivial⟩
    go_wp2_with (at_builtin; refine wpList_append_row _ rfl _ _ 37 rfl base 63 i0 _ 9 72 Try.underlying37 HII.out HZ0.out HZ1.out HZ2.out rfl (.slice ot m.calls.length ct) m.calls.length (cals m.calls) rfl (by repeat (first | exact RT8.out | apply World.RowV.alloc | apply World.RowV.drew)) _ 1 _ rfl (by repeat (first | apply World.Src.drew | exact World.Src.one rfl rfl)) S1.out S2.out S3.out (by simp; omega) ?_; intro v' w5 hown hout; have HWN := Lib.hid hown; have HWO := Lib.hid hout; clear hown hout)
    refine strict_on ?_
    refine ⟨?_, ?_⟩
    · refine laterF_in (Only.trans ?_ (Only.out HWO.out (F := fun k => (Value.slice ot m.calls.length ct).rowBlock = some k) (fun k hk => hk)) (fun k hk => .inl (by rw [ET.out]; exact hk)))
      repeat (first | exact Only.refl _ _ | apply Only.alloc | apply Only.drew)
    repeat (first | go_big_quiet_skip | (go_big_quiet_want; go_big_quiet_op; go_big_quiet_on))
    refine wpQuiet_nil ?_
    have HWO2 := HWO.out
    rw [← ET.out] at HWO2
    have HFIN := Lib.hid (app_calls (mb := mb) (m := m.thr i (RT.start m.calls.length 5)) (v := v) (a := ⟨(i : Int), 2, marg, mdata, m.moves, -1, -1, 0, 0⟩) (by repeat (first | exact HB4.out | apply RMAt.alloc | apply RMAt.drew)) HWN.out HWO2)
    obtain ⟨d0, dz, dl⟩ := RMAt.aft (base := base) (mb := mb) (m := m.thr i (RT.start m.calls.length 5)) (v := v) (i := 8) (by repeat (first | exact HB4.out | apply RMAt.alloc | apply RMAt.drew)) (by omega) HWO2
    clear HWO2
    have d24 := d0 24 _ rfl
    have z24 := dz 24
    obtain ⟨ov, cv, ev, _, _⟩ := HWN.out.form
    subst ev
    clear d0 dz
    go_wp2
    go_ret
    refine ⟨rfl, ?_⟩
    refine ROut.ahead HO4.out (ROut.pre ?_ HFIN.out)
    repeat (first | exact Only.refl _ _ | apply Only.alloc | apply Only.drew)
end Go.Proofs.Ytbhbpfpggfcpgaa
