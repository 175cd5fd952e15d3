/-
ArenaHonest returns true.
-/
import Derived.Test.YtjcggokhminmoaaQArLw
import Derived.Test.YtjcggokhminmoaaQArHp
import Derived.Test.YtjcggokhminmoaaQMixF
namespace Go.Proofs.Ytjcggokhminmoaa
open Go.ChangeShapes Go.WideShapes Go.ChangeAt Go.RowKit Go.Shelf

set_option maxRecDepth 100000 in
set_option maxHeartbeats 2000000 in
theorem honest_out {w : World} (a0 a1 a2 a3 a4 a5 a6 : Int) {om : Option Addr} {nm cm : Nat} (h : okCfg a0 a1 a2 a3 a4 a5 a6 = false ∨ (okCfg a0 a1 a2 a3 a4 a5 a6 = true ∧ 65536 < nm)) :
    Calls Try.prog 10 #[.agg #[.int .i64 a0, .int .i64 a1, .int .i64 a2, .int .i64 a3, .int .i64 a4, .int .i64 a5, .int .i64 a6], .slice om nm cm] w fun e w' => e = .returned (.bool true) ∧ Below w.heap.size w w' := by
  have HC := Lib.hid (fun w => config_any a0 a1 a2 a3 a4 a5 a6 w)
  have HW := Lib.hid awake_any
  rcases h with h | ⟨hok, h⟩
  · rw [h] at HC
    clear h
    go_enter Try.func10, Try.ntmps10
    go_wp2_with (first
      | (go_at_call 12; refine (HC.out _).mono ?_; rintro e w1 ⟨rfl, hb1⟩; obtain ⟨os, d, rfl⟩ := hb1.more; clear hb1)
      | (go_at_call 17; refine (HW.out _).mono ?_; rintro e w2 ⟨rfl, ho⟩; have HO := Lib.hid ho; clear ho))
    go_ret
    exact ⟨rfl, (Only.trans (Below.only0 (by repeat (first | exact Below.refl _ _ | apply Below.drew | apply Below.more1 | apply Below.alloc1 | (refine Below.setCell ?_ (by first | exact Nat.le_refl _ | (simp; done) | (simp; omega)) _)))) HO.out (fun _ x => x.elim)).belowF⟩
  · rw [hok] at HC
    have hd : decide ((65536 : Int) < (nm : Int)) = true := by simp; omega
    clear hok h
    go_enter Try.func10, Try.ntmps10
    go_wp2_with (first
      | (go_at_call 12; refine (HC.out _).mono ?_; rintro e w1 ⟨rfl, hb1⟩; obtain ⟨os, d, rfl⟩ := hb1.more; clear hb1)
      | (go_at_call 17; refine (HW.out _).mono ?_; rintro e w2 ⟨rfl, ho⟩; have HO := Lib.hid ho; clear ho))
    go_ret
    exact ⟨rfl, (Only.trans (Below.only0 (by repeat (first | exact Below.refl _ _ | apply Below.drew | apply Below.more1 | apply Below.alloc1 | (refine Below.setCell ?_ (by first | exact Nat.le_refl _ | (simp; done) | (simp; omega)) _)))) HO.out (fun _ x => x.elim)).belowF⟩

theorem moreT {a b c : World} (h : Only (fun _ => False) a b) (k : Below b.heap.size b c) : ∃ os d, c = a.more os d := RowKit.Below.more (h.belowF.trans (k.mono h.size))
/-- the cells of a call in a row -/
theorem cal_at {w : World} {base : Nat} {o : Option Addr} {l : List Cal} {c : Nat} (h : w.RowV base 50 9 (.slice o l.length c) l.length (cals l)) {i : Nat} (hi : i < l.length) : ∃ t, o = some ⟨t, 0, none⟩ ∧ l.length ≤ c ∧ t < w.heap.size ∧
    w.cell? ⟨t, i * 9, none⟩ = some (.int .i64 l[i].th) ∧ w.cell? ⟨t, i * 9 + 1, none⟩ = some (.int .i64 l[i].op) ∧ w.cell? ⟨t, i * 9 + 2, none⟩ = some (.int .i64 l[i].arg) ∧ w.cell? ⟨t, i * 9 + 3, none⟩ = some (.int .i64 l[i].data) ∧ w.cell? ⟨t, i * 9 + 4, none⟩ = some (.int .i64 l[i].beg) ∧
    w.cell? ⟨t, i * 9 + 5, none⟩ = some (.int .i64 l[i].en) ∧ w.cell? ⟨t, i * 9 + 6, none⟩ = some (.int .i64 l[i].pt) ∧ w.cell? ⟨t, i * 9 + 7, none⟩ = some (.int .i64 l[i].ak) ∧ w.cell? ⟨t, i * 9 + 8, none⟩ = some (.int .i64 l[i].av) := by
  obtain ⟨t, cap, e, t1, t2, t3, t4, t5, t6⟩ := h.some_form (by omega)
  cases e
  have fc : ∀ j, j < 9 → (cals l)[i * 9 + j]? = l[i].cells[j]? := fun j hj => flat_get (f := Cal.cells) (k := 9) (fun _ => rfl) l i j hi hj
  exact ⟨t, rfl, t1, t3, t6 _ _ (fc 0 (by omega)), t6 _ _ (fc 1 (by omega)), t6 _ _ (fc 2 (by omega)), t6 _ _ (fc 3 (by omega)), t6 _ _ (fc 4 (by omega)), t6 _ _ (fc 5 (by omega)), t6 _ _ (fc 6 (by omega)), t6 _ _ (fc 7 (by omega)), t6 _ _ (fc 8 (by omega))⟩
/-- the cells of an access in a row -/
theorem acc_at {w : World} {base : Nat} {o : Option Addr} {l : List Acc} {c : Nat} (h : w.RowV base 56 7 (.slice o l.length c) l.length (accs l)) {i : Nat} (hi : i < l.length) : ∃ t, o = some ⟨t, 0, none⟩ ∧ l.length ≤ c ∧ t < w.heap.size ∧
    w.cell? ⟨t, i * 7, none⟩ = some (.int .i64 l[i].mv) ∧ w.cell? ⟨t, i * 7 + 1, none⟩ = some (.int .i64 l[i].th) ∧ w.cell? ⟨t, i * 7 + 2, none⟩ = some (.int .i64 l[i].kd) ∧ w.cell? ⟨t, i * 7 + 3, none⟩ = some (.int .i64 l[i].ad) ∧ w.cell? ⟨t, i * 7 + 4, none⟩ = some (.int .u64 l[i].old) ∧
    w.cell? ⟨t, i * 7 + 5, none⟩ = some (.int .u64 l[i].nw) ∧ w.cell? ⟨t, i * 7 + 6, none⟩ = some (.int .u64 l[i].saw) := by
  obtain ⟨t, cap, e, t1, t2, t3, t4, t5, t6⟩ := h.some_form (by omega)
  cases e
  have fc : ∀ j, j < 7 → (accs l)[i * 7 + j]? = l[i].cells[j]? := fun j hj => flat_get (f := Acc.cells) (k := 7) (fun _ => rfl) l i j hi hj
  exact ⟨t, rfl, t1, t3, t6 _ _ (fc 0 (by omega)), t6 _ _ (fc 1 (by omega)), t6 _ _ (fc 2 (by omega)), t6 _ _ (fc 3 (by omega)), t6 _ _ (fc 4 (by omega)), t6 _ _ (fc 5 (by omega)), t6 _ _ (fc 6 (by omega))⟩

/-- in a round: the machine, the table, the move's box -/
structure HnI (w0 : World) (a0 a1 a2 a3 a4 a5 a6 : Int) (tb mb ab xb : Nat) (kit : Value) (p : PM (arK ab)) (m0 m1 m2 m3 : Int) (wr : World) : Prop where
  tab : TabI ab w0 xb kit p (fun k => k = tb ∨ k = mb) wr
  blk : wr.heap[tb]? = some (tabO a0 a1 a2 a3 a4 a5 a6 ab xb)
  box : wr.heap[mb]? = some (.cells #[.int .i64 m0, .int .i64 m1, .int .i64 m2, .int .i64 m3] 64 (0, 0))
section
variable {W0 w0 wr w' : World} {a0 a1 a2 a3 a4 a5 a6 m0 m1 m2 m3 : Int} {tb mb ab xb : Nat} {kit : Value} {p : PM (arK ab)}
theorem HnI.only (h : HnI w0 a0 a1 a2 a3 a4 a5 a6 tb mb ab xb kit p m0 m1 m2 m3 wr) (ho : Only (fun _ => False) wr w') : HnI w0 a0 a1 a2 a3 a4 a5 a6 tb mb ab xb kit p m0 m1 m2 m3 w' :=
  ⟨h.tab.only ho, ho.blockF h.blk (fun x => x), ho.blockF h.box (fun x => x)⟩
theorem HnI.cells (h : HnI w0 a0 a1 a2 a3 a4 a5 a6 tb mb ab xb kit p m0 m1 m2 m3 wr) : wr.cell? ⟨tb, 7, none⟩ = some (.pointer (some ⟨ab, 0, none⟩)) ∧ wr.cell? ⟨tb, 8, none⟩ = some (.pointer (some ⟨xb, 0, none⟩)) ∧ tb < wr.heap.size ∧
    wr.cell? ⟨mb, 0, none⟩ = some (.int .i64 m0) ∧ wr.cell? ⟨mb, 1, none⟩ = some (.int .i64 m1) ∧ wr.cell? ⟨mb, 2, none⟩ = some (.int .i64 m2) ∧ wr.cell? ⟨mb, 3, none⟩ = some (.int .i64 m3) ∧ mb < wr.heap.size := by
  obtain ⟨_, _, _, _, _, _, _, x7, x8, xl⟩ := boxT h.blk
  have hb := h.box
  exact ⟨x7, x8, xl, by simp [World.cell?, hb], by simp [World.cell?, hb], by simp [World.cell?, hb], by simp [World.cell?, hb], (Array.getElem?_eq_some_iff.1 hb).1⟩
theorem HnI.start (h : LwI W0 a0 a1 a2 a3 a4 a5 a6 tb ab xb kit w0 p wr) (ho : Only (fun _ => False) wr w') (hb : w'.heap[mb]? = some (.cells #[.int .i64 m0, .int .i64 m1, .int .i64 m2, .int .i64 m3] 64 (0, 0))) (hm : wr.heap.size ≤ mb) : HnI w0 a0 a1 a2 a3 a4 a5 a6 tb mb ab xb kit p m0 m1 m2 m3 w' := by
  refine ⟨h.tab.other (H := fun _ => False) ho (fun _ x => x.elim) (fun _ x => x.elim) (fun q hq => ?_), ho.blockF h.blk (fun x => x), hb⟩
  rcases hq with hq | rfl
  · exact .inl hq
  · exact .inr ⟨hm, (Array.getElem?_eq_some_iff.1 hb).1⟩
theorem HnI.lw (h : HnI w0 a0 a1 a2 a3 a4 a5 a6 tb mb ab xb kit p m0 m1 m2 m3 wr) (ho : Only (fun _ => False) W0 w0) : LwI W0 a0 a1 a2 a3 a4 a5 a6 tb ab xb kit w0 p wr := ⟨h.tab.mono (fun _ x => .inl x), h.blk, ho⟩
theorem hn_move (h : HnI w0 a0 a1 a2 a3 a4 a5 a6 tb mb ab xb kit p m0 m1 m2 m3 wr) (hG : p.Good) (mv : Mv) : Calls Try.prog 21 #[.pointer (some ⟨xb, 0, none⟩), mv.v] wr fun e w' => e = .returned (.bool (p.move mv).2) ∧ HnI w0 a0 a1 a2 a3 a4 a5 a6 tb mb ab xb kit (p.move mv).1 m0 m1 m2 m3 w' := by
  refine (tab_move h.tab hG mv).mono ?_
  rintro e w' ⟨he, h1, h2⟩
  exact ⟨he, h1, (h2 tb (.inl rfl)).trans h.blk, (h2 mb (.inr rfl)).trans h.box⟩
theorem hn_busy (h : HnI w0 a0 a1 a2 a3 a4 a5 a6 tb mb ab xb kit p m0 m1 m2 m3 wr) (hG : p.Good) (t : Int) : Calls Try.prog 25 #[.pointer (some ⟨xb, 0, none⟩), .int .i64 t] wr fun e w' => e = .returned (.bool (p.busyB t)) ∧ Below wr.heap.size wr w' := tab_busy h.tab hG t
theorem hn_count (h : HnI w0 a0 a1 a2 a3 a4 a5 a6 tb mb ab xb kit p m0 m1 m2 m3 wr) (x : Int) : Calls Try.prog 29 #[.pointer (some ⟨ab, 0, none⟩), .int .i64 x] wr fun e w' => e = .returned (.int .i64 (cntUpto p.s.slots x p.s.slots.length : Int)) ∧ Below wr.heap.size wr w' := by
  obtain ⟨av, h1, h2⟩ := tab_arena h.tab
  exact acount_any h1 x
theorem hn_cached (h : HnI w0 a0 a1 a2 a3 a4 a5 a6 tb mb ab xb kit p m0 m1 m2 m3 wr) (hA : PA p) (t : Int) : Calls Try.prog 23 #[.pointer (some ⟨ab, 0, none⟩), .int .i64 t] wr (Cloned wr 3 1 (p.s.cache t).length (intsC (p.s.cache t))) := by
  obtain ⟨av, h1, h2⟩ := tab_arena h.tab
  refine acached_any h1 (fun c hc => ?_) t
  obtain ⟨i, hi, rfl⟩ := List.getElem_of_mem hc
  have h3 := (hA.inv.cache i _ (List.getElem?_eq_getElem hi)).2.1
  have h4 := (ok_small hA.inv.ok).2.2.2.2.2.2.2.2.2.2
  omega
theorem hn_call (h : HnI w0 a0 a1 a2 a3 a4 a5 a6 tb mb ab xb kit p m0 m1 m2 m3 wr) (hG : p.Good) (t : Int) : Calls Try.prog 26 #[.pointer (some ⟨xb, 0, none⟩), .int .i64 t] wr fun e w' => e = .returned (.tuple #[(p.callR t).1.v, .bool (p.callR t).2]) ∧ Below wr.heap.size wr w' := tab_call h.tab hG t
end

set_option maxRecDepth 100000 in
set_option maxHeartbeats 4000000 in
theorem honest_in {w : World} (a0 a1 a2 a3 a4 a5 a6 : Int) {om : Option Addr} {cm : Nat} {ms : List Mv} (hok : okCfg a0 a1 a2 a3 a4 a5 a6 = true) (hl : ms.length ≤ 65536) (hm : MvsIn w (.slice om ms.length cm) ms) :
    Calls Try.prog 10 #[.agg #[.int .i64 a0, .int .i64 a1, .int .i64 a2, .int .i64 a3, .int .i64 a4, .int .i64 a5, .int .i64 a6], .slice om ms.length cm] w fun e w' => e = .returned (.bool true) ∧ Below w.heap.size w w' := by
  have HC := Lib.hid (fun w => config_any a0 a1 a2 a3 a4 a5 a6 w)
  rw [hok] at HC
  have HW := Lib.hid awake_any
  have HT := Lib.hid (fun w => table_any a0 a1 a2 a3 a4 a5 a6 hok w)
  have HOK := Lib.hid hok
  have hd : decide ((65536 : Int) < (ms.length : Int)) = false := by simp; omega
  obtain ⟨om', cm', e', _, hm2, hm3⟩ := hm
  cases e'
  have HM := Lib.hid hm3
  unfold maxLen at hm2
  clear hok hm3
  go_enter Try.func10, Try.ntmps10
  go_upto_region 3 with (go_at_call 12; refine (HC.out _).mono ?_; rintro e w1 ⟨rfl, hb1⟩; obtain ⟨os, d, rfl⟩ := hb1.more; clear hb1)
  refine gen_world ?_
  intro W0 hW0
  have HW0 : Hid (Only (fun _ => False) w W0) := Lib.hid (by rw [hW0]; exact (Below.only0 (by repeat (first | exact Below.refl _ _ | apply Below.drew | apply Below.more1 | apply Below.alloc1 | (refine Below.setCell ?_ (by first | exact Nat.le_refl _ | (simp; done) | (simp; omega)) _)))))
  have hcb : W0.heap[w.heap.size]? = some (cfgO a0 a1 a2 a3 a4 a5 a6) := by rw [hW0]; exact (World.heap_more _ _ _ _ (by simp)).trans (heap_alloc_new w _)
  obtain ⟨k0, k1, k2, k3, k4, k5, k6, kl⟩ := boxC hcb
  clear hW0 hcb HC
  go_upto_region 6 with (first
    | (go_at_call 19; refine (HT.out _).mono ?_; rintro e w1 hr; obtain ⟨tb, ab, xb, kit, w0, rfl, hL⟩ := LwI.start hr; have HL := Lib.hid hL; clear hr hL)
    | (go_at_call 17; refine (HW.out _).mono ?_; rintro e w2 ⟨rfl, ho⟩; have HL2 := Lib.hid (HL.out.only ho); clear ho))
  clear HL HT k0 k1 k2 k3 k4 k5 k6 kl
  go_wp2
  go_loopg [6] ms.length (fun gh s6 wr => ∃ k : Nat, k ≤ ms.length ∧ ms.length ≤ k + gh ∧ s6 = .int .i64 (k : Int) ∧ Hid (LwI W0 a0 a1 a2 a3 a4 a5 a6 tb ab xb kit w0 ((arP ab a0 a1 a2 a3 a4 a5 a6 0).goes (ms.take k)) wr))
  case atStart => exact ⟨0, by omega, by omega, by go_num, HL2⟩
  case round =>
    obtain ⟨k, hk1, hk2, rfl, hI⟩ := hrel
    clear HL2
    by_cases hlt : k < ms.length
    · have hw : Only (fun _ => False) w wr := HW0.out.trans hI.out.on (fun _ x => x.elim)
      obtain ⟨b, off, rfl, hb, m0, m1, m2, m3⟩ := HM.out k hlt
      replace m0 := (hw.cellAt (p := ⟨b, off + k * 4 + 0, none⟩) hb (fun x => x)).trans m0
      replace m1 := (hw.cellAt (p := ⟨b, off + k * 4 + 1, none⟩) hb (fun x => x)).trans m1
      replace m2 := (hw.cellAt (p := ⟨b, off + k * 4 + 2, none⟩) hb (fun x => x)).trans m2
      replace m3 := (hw.cellAt (p := ⟨b, off + k * 4 + 3, none⟩) hb (fun x => x)).trans m3
      simp only [Nat.add_zero] at m0
      have hbr : b < wr.heap.size := Nat.lt_of_lt_of_le hb hw.size
      have HG := Lib.hid (arP_goodN (ab := ab) (u := 0) HOK.out (ms.take k))
      have HT := Lib.hid (take_next ms k hlt)
      generalize ms[k] = mk at *
      obtain ⟨mth, mop, marg, mdata⟩ := mk
      simp only at m0 m1 m2 m3
      go_upto_region 10 with (fail)
      refine gen_world ?_
      intro W1 hW1
      have hmb : W1.heap[wr.heap.size]? = some (.cells #[.int .i64 mth, .int .i64 mop, .int .i64 marg, .int .i64 mdata] 64 (0, 0)) := by rw [hW1]; exact heap_alloc_at rfl
      have HN := Lib.hid (HnI.start hI.out (by rw [hW1]; exact (Only.refl _ _).alloc _) hmb (Nat.le_refl _))
      have HON := Lib.hid hI.out.on0
      clear hW1 hmb hI hw m0 m1 m2 m3 hbr hb HM
      generalize wr.heap.size = mb at *
      clear wr
      obtain ⟨p, hp⟩ : ∃ p, p = (arP ab a0 a1 a2 a3 a4 a5 a6 0).goes (ms.take k) := ⟨_, rfl⟩
      have HAP := Lib.hid (arP_ahN (ab := ab) (u := 0) HOK.out (by have := (ok_bounds HOK.out).2.2.2.2.2.1; omega) (ms.take k))
      have HHO := Lib.hid (HonI.runs (arP_ah (ab := ab) (u := 0) HOK.out (by have := (ok_bounds HOK.out).2.2.2.2.2.1; omega)) arP_hon (ms.take k))
      rw [← hp] at HN HG HAP HHO
      have HPE := Lib.hid hp
      clear hp
      obtain ⟨k7, k8, kl, n0, n1, n2, n3, nl⟩ := HN.out.cells
      have q8 := fun q : LaterF (fun _ => False) W1 => q.cell k8 kl (fun x => x)
      have r0 := fun q : LaterF (fun _ => False) W1 => q.cell n0 nl (fun x => x)
      have HB := Lib.hid (fun w1 (h1 : Only (fun _ => False) W1 w1) => hn_busy (HN.out.only h1) HG.out mth)
      obtain ⟨b1, hb1⟩ : ∃ b, p.busyB mth = b := ⟨_, rfl⟩
      rw [hb1] at HB
      have HB1 := Lib.hid hb1
      clear hb1
      clear k7 k8 n0 n1 n2 n3
      go_wp2
      refine wp_region_plan (fun wz => ∃ q : LaterF (fun _ => False) W1, wz = q.W) [6] [0, 1, 2, 3, 4, 5] (.tail 6) oper0 (by kernel_rfl) (by kernel_rfl) (laterF_in (Only.refl _ _).drew) ?_
      simp only [wpPlan, List.map_cons, List.map_nil, List.getD_cons_zero, List.getD_cons_succ, List.drop_succ_cons, List.drop_zero]
      repeat (first | go_big_quiet_skip | (go_big_quiet_want; go_big_quiet_op; go_big_quiet_on))
      refine wpQuiet_nil ?_
      go_upto_region 11 with (go_at_call 25; refine (HB.out _ (Only.refl _ W1).drew).mono ?_; rintro e w2 ⟨rfl, hb1⟩; have HN2 := Lib.hid ((HN.out.only (Only.refl _ W1).drew).only (Below.only0 hb1)); clear hb1)
      clear q8 r0 HB HN kl nl
      obtain ⟨k7, k8, kl, n0, n1, n2, n3, nl⟩ := HN2.out.cells
      have q8 := fun q : LaterF (fun _ => False) w2 => q.cell k8 kl (fun x => x)
      have r0 := fun q : LaterF (fun _ => False) w2 => q.cell n0 nl (fun x => x)
      have r1 := fun q : LaterF (fun _ => False) w2 => q.cell n1 nl (fun x => x)
      have r2 := fun q : LaterF (fun _ => False) w2 => q.cell n2 nl (fun x => x)
      have r3 := fun q : LaterF (fun _ => False) w2 => q.cell n3 nl (fun x => x)
      have HMV := Lib.hid (fun w1 (h1 : Only (fun _ => False) w2 w1) => hn_move (HN2.out.only h1) HG.out ⟨mth, mop, marg, mdata⟩)
      clear k7 k8 n0 n1 n2 n3
      go_wp2
      refine wp_region_plan (fun wz => ∃ q : LaterF (fun _ => False) w2, wz = q.W) [5] [0, 1, 2, 3, 4] (.tail 5) oper0 (by kernel_rfl) (by kernel_rfl) (laterF_in (Only.refl _ _).drew) ?_
      simp only [wpPlan, List.map_cons, List.map_nil, List.getD_cons_zero, List.getD_cons_succ, List.drop_succ_cons, List.drop_zero]
      repeat (first | go_big_quiet_skip | (go_big_quiet_want; go_big_quiet_op; go_big_quiet_on))
      refine wpQuiet_nil ?_
      go_upto_region 12 with (go_at_call 21; refine (HMV.out _ (Only.refl _ w2).drew).mono ?_; rintro e w3 ⟨rfl, hmo⟩; have HN3 := Lib.hid hmo; clear hmo)
      clear q8 r0 r1 r2 r3 HMV HN2 kl nl
      have HQ := Lib.hid (PM.Good.move (arK_ok ab) HG.out ⟨mth, mop, marg, mdata⟩)
      have HQA := Lib.hid (HAP.out.move ⟨mth, mop, marg, mdata⟩).pa
      obtain ⟨q, hq⟩ : ∃ q, q = (p.move ⟨mth, mop, marg, mdata⟩).1 := ⟨_, rfl⟩
      rw [← hq] at HN3 HQ HQA
      have HQE := Lib.hid hq
      clear hq
      obtain ⟨k7, k8, kl, n0, n1, n2, n3, nl⟩ := HN3.out.cells
      have q7 := fun q : LaterF (fun _ => False) w3 => q.cell k7 kl (fun x => x)
      have q8 := fun q : LaterF (fun _ => False) w3 => q.cell k8 kl (fun x => x)
      have r0 := fun q : LaterF (fun _ => False) w3 => q.cell n0 nl (fun x => x)
      have HCL := Lib.hid (fun w1 (h1 : Only (fun _ => False) w3 w1) => hn_call (HN3.out.only h1) HQ.out mth)
      obtain ⟨⟨⟨cth, cop, carg, cdata, cbeg, cen, cpt, cak, cav⟩, cbb⟩, hcr⟩ : ∃ x, q.callR mth = x := ⟨_, rfl⟩
      rw [hcr] at HCL
      simp only [Cal.v] at HCL
      have HCR := Lib.hid hcr
      clear hcr
      clear k7 k8 n0 n1 n2 n3
      refine wp_region_plan (fun wz => ∃ q : LaterF (fun _ => False) w3, wz = q.W) [6, 10, 11] [0, 1, 2, 3, 4, 5] (.fork 6 [7, 8, 9] (.fork 10 [] (.fork 11 [] (.tail 12) .none) .none) (.fork 10 [] (.fork 6 [7, 8, 9] (.fork 11 [] (.tail 12) .none) .none) .none)) oper0 (by kernel_rfl) (by kernel_rfl) (laterF_in (Only.refl _ _).drew) ?_
      simp only [wpPlan, List.map_cons, List.map_nil, List.getD_cons_zero, List.getD_cons_succ, List.drop_succ_cons, List.drop_zero]
      repeat (first | go_big_quiet_skip | (go_big_quiet_want; go_big_quiet_op; go_big_quiet_on))
      refine wpQuiet_nil ?_
      refine ⟨?_, ?_, trivial⟩
      · skip
        go_wp2_with (go_at_call 26; refine (HCL.out _ (by repeat (first | exact Only.refl _ _ | apply Only.alloc | apply Only.drew))).mono ?_; rintro e w4 ⟨rfl, hb1⟩; have HO4 := Lib.hid (Below.only0 hb1); clear hb1)
        refine strict_on ?_
        refine ⟨?_, ?_⟩
        · exact laterF_in (((Only.refl _ _).drew).trans HO4.out (fun _ x => x.elim))
        repeat (first | go_big_quiet_skip | (go_big_quiet_want; go_big_quiet_op; go_big_quiet_on))
        refine wpQuiet_nil ?_
        refine ⟨?_, trivial⟩
        go_wp2_with fail
        refine strict_on ?_
        refine ⟨?_, ?_⟩
        · exact laterF_in ((((Only.refl _ _).drew).trans HO4.out (fun _ x => x.elim)).alloc _)
        repeat (first | go_big_quiet_skip | (go_big_quiet_want; go_big_quiet_op; go_big_quiet_on))
        refine wpQuiet_nil ?_
        try with_reducible refine ⟨?_, trivial⟩
        go_wp2_with fail
        refine strict_on ?_
        refine ⟨?_, ?_⟩
        · exact laterF_in ((((Only.refl _ _).drew).trans HO4.out (fun _ x => x.elim)).alloc _)
        repeat (first | go_big_quiet_skip | (go_big_quiet_want; go_big_quiet_op; go_big_quiet_on))
        refine wpQuiet_nil ?_
        go_upto_region 13 with (fail)
        refine gen_world ?_
        intro W4 hW4
        have HX4 := Lib.hid (show W4.heap[w4.heap.size]? = some (.cells #[.int .i64 cth, .int .i64 cop, .int .i64 carg, .int .i64 cdata, .int .i64 cbeg, .int .i64 cen, .int .i64 cpt, .int .i64 cak, .int .i64 cav] 50 (0, 0)) by rw [hW4]; exact heap_alloc_at rfl)
        have HN4 := Lib.hid (HN3.out.only (w' := W4) (by rw [hW4]; repeat (first | exact ((Only.refl _ _).drew).trans HO4.out (fun _ x => x.elim) | apply Only.alloc | apply Only.drew)))
        clear hW4 HO4 HN3 HCL
        generalize w4.heap.size = cb at *
        clear w4
        clear kl nl q7 q8 r0
        obtain ⟨k7, k8, kl, n0, n1, n2, n3, nl⟩ := HN4.out.cells
        have hx4 := HX4.out
        have x1 : W4.cell? ⟨cb, 1, none⟩ = some (.int .i64 cop) := by simp only [World.cell?, hx4]; rfl
        have x7 : W4.cell? ⟨cb, 7, none⟩ = some (.int .i64 cak) := by simp only [World.cell?, hx4]; rfl
        have xl := (Array.getElem?_eq_some_iff.1 hx4).1
        have HB4 := Lib.hid (fun os d => hn_busy (HN4.out.only ((Only.refl _ _).more os d)) HQ.out mth)
        obtain ⟨b2, hb2⟩ : ∃ b, q.busyB mth = b := ⟨_, rfl⟩
        rw [hb2] at HB4
        have HB2 := Lib.hid hb2
        clear hb2 hx4 HX4 n1 n2 n3
        cases b1 with
        | false =>
          go_wp2
          refine wp_region_more_lit (by kernel_rfl) (by kernel_rfl) ?_
          repeat (first | go_big_quiet_skip | (go_big_quiet_want; go_big_quiet_op; first | go_big_quiet_on | (apply Exists.intro; refine ⟨fun _ => ?_, ?_⟩; (focus (fail)); go_big_quiet_on)))
          refine wpQuiet_nil ?_
          intro osq dq
          go_wp2
          go_roundg (ms.length - (k + 1))
          case measure => omega
          case rel => exact ⟨k + 1, by omega, by omega, by go_num, by rw [HT.out, PM.goes_snoc, ← HPE.out, ← HQE.out]; exact Lib.hid ((HN4.out.only (by repeat (first | exact Only.refl _ _ | apply Only.more | apply Only.alloc | apply Only.drew))).lw HON.out)⟩
        | true =>
          cases b2 with
          | true =>
            go_wp2
            refine wp_region_more_lit (by kernel_rfl) (by kernel_rfl) ?_
            repeat (first | go_big_quiet_skip | (go_big_quiet_want; go_big_quiet_op; first | go_big_quiet_on | (apply Exists.intro; refine ⟨fun _ => ?_, ?_⟩; (focus (go_at_call 25; exact Calls.more_of (HB4.out _ _))); go_big_quiet_on)))
            refine wpQuiet_nil ?_
            intro osq dq
            go_wp2
            go_roundg (ms.length - (k + 1))
            case measure => omega
            case rel => exact ⟨k + 1, by omega, by omega, by go_num, by rw [HT.out, PM.goes_snoc, ← HPE.out, ← HQE.out]; exact Lib.hid ((HN4.out.only (by repeat (first | exact Only.refl _ _ | apply Only.more | apply Only.alloc | apply Only.drew))).lw HON.out)⟩
          | false =>
            cases cbb with
            | false =>
              go_wp2
              refine wp_region_more_lit (by kernel_rfl) (by kernel_rfl) ?_
              repeat (first | go_big_quiet_skip | (go_big_quiet_want; go_big_quiet_op; first | go_big_quiet_on | (apply Exists.intro; refine ⟨fun _ => ?_, ?_⟩; (focus (go_at_call 25; exact Calls.more_of (HB4.out _ _))); go_big_quiet_on)))
              refine wpQuiet_nil ?_
              intro osq dq
              go_wp2
              go_roundg (ms.length - (k + 1))
              case measure => omega
              case rel => exact ⟨k + 1, by omega, by omega, by go_num, by rw [HT.out, PM.goes_snoc, ← HPE.out, ← HQE.out]; exact Lib.hid ((HN4.out.only (by repeat (first | exact Only.refl _ _ | apply Only.more | apply Only.alloc | apply Only.drew))).lw HON.out)⟩
            | true =>
              by_cases hop : cop = 10
              · subst hop
                have hh := hon_move HAP.out HHO.out (mv := ⟨mth, mop, marg, mdata⟩) HB1.out (by rw [← HQE.out]; exact HB2.out) (by rw [← HQE.out]; exact HCR.out) rfl
                rw [← HQE.out] at hh
                simp only at hh
                rcases hh with rfl | ⟨rfl, hcnt, hcac⟩
                · skip
                  go_wp2
                  refine wp_region_more_lit (by kernel_rfl) (by kernel_rfl) ?_
                  repeat (first | go_big_quiet_skip | (go_big_quiet_want; go_big_quiet_op; first | go_big_quiet_on | (apply Exists.intro; refine ⟨fun _ => ?_, ?_⟩; (focus (go_at_call 25; exact Calls.more_of (HB4.out _ _))); go_big_quiet_on)))
                  refine wpQuiet_nil ?_
                  intro osq dq
                  go_wp2
                  refine wp_region_more_lit (by kernel_rfl) (by kernel_rfl) ?_
                  repeat (first | go_big_quiet_skip | (go_big_quiet_want; go_big_quiet_op; first | go_big_quiet_on | (apply Exists.intro; refine ⟨fun _ => ?_, ?_⟩; (focus (fail)); go_big_quiet_on)))
                  refine wpQuiet_nil ?_
                  intro osq dq
                  go_wp2
                  go_roundg (ms.length - (k + 1))
                  case measure => omega
                  case rel => exact ⟨k + 1, by omega, by omega, by go_num, by rw [HT.out, PM.goes_snoc, ← HPE.out, ← HQE.out]; exact Lib.hid ((HN4.out.only (by repeat (first | exact Only.refl _ _ | apply Only.more | apply Only.alloc | apply Only.drew))).lw HON.out)⟩
                · skip
                  go_wp2
                  refine wp_region_more_lit (by kernel_rfl) (by kernel_rfl) ?_
                  repeat (first | go_big_quiet_skip | (go_big_quiet_want; go_big_quiet_op; first | go_big_quiet_on | (apply Exists.intro; refine ⟨fun _ => ?_, ?_⟩; (focus (go_at_call 25; exact Calls.more_of (HB4.out _ _))); go_big_quiet_on)))
                  refine wpQuiet_nil ?_
                  intro osq dq
                  go_upto_region 16 with (fail)
                  have HCT := Lib.hid (fun w1 (h1 : Only (fun _ => False) W4 w1) => hn_count (HN4.out.only h1) 0)
                  have HCD := Lib.hid (fun w1 (h1 : Only (fun _ => False) W4 w1) => hn_cached (HN4.out.only h1) HQA.out mth)
                  rw [hcnt] at HCT
                  rw [hcac] at HCD
                  have q7 := fun q : LaterF (fun _ => False) W4 => q.cell k7 kl (fun x => x)
                  have q0 := fun q : LaterF (fun _ => False) W4 => q.cell n0 nl (fun x => x)
                  have q77 := fun q : LaterF (fun _ => False) W4 => q.cell x7 xl (fun x => x)
                  clear k7 k8 n0 x1 x7 hcnt hcac HB4
                  refine wp_region_plan (fun wz => ∃ q : LaterF (fun _ => False) W4, wz = q.W) [9, 18] [0, 1, 2, 3, 4, 5, 6, 7, 8] (.fork 9 [10, 11, 12, 13, 14, 15, 16, 17] (.tail 18) .none) oper0 (by kernel_rfl) (by kernel_rfl) (laterF_in ((Only.refl _ _).more _ _).drew) ?_
                  simp only [wpPlan, List.map_cons, List.map_nil, List.getD_cons_zero, List.getD_cons_succ, List.drop_succ_cons, List.drop_zero]
                  repeat (first | go_big_quiet_skip | (go_big_quiet_want; go_big_quiet_op; go_big_quiet_on))
                  refine wpQuiet_nil ?_
                  refine ⟨?_, trivial⟩
                  go_wp2_with (go_at_call 29; refine (HCT.out _ (by repeat (first | exact Only.refl _ _ | apply Only.more | apply Only.drew))).mono ?_; rintro e w5 ⟨rfl, hb5⟩; have HO5 := Lib.hid ((show Only (fun _ => False) W4 _ by repeat (first | exact Only.refl _ _ | apply Only.more | apply Only.drew)).trans (Below.only0 hb5) (fun _ x => x.elim)); clear hb5)
                  refine strict_on ?_
                  refine ⟨?_, ?_⟩
                  · exact laterF_in HO5.out
                  repeat (first | go_big_quiet_skip | (go_big_quiet_want; go_big_quiet_op; go_big_quiet_on))
                  refine wpQuiet_nil ?_
                  go_wp2_with (go_at_call 23; refine (HCD.out _ (by repeat (first | exact HO5.out | apply Only.drew))).mono ?_; rintro e w6 ⟨o6, c6, rfl, y1, y2, y3, y4⟩; have HO6 := Lib.hid (Only.trans (show Only (fun _ => False) W4 _ by repeat (first | exact HO5.out | apply Only.drew)) y4 (fun _ x => x.elim)); clear y3 y4)
                  go_roundg (ms.length - (k + 1))
                  case measure => omega
                  case rel => exact ⟨k + 1, by omega, by omega, by go_num, by rw [HT.out, PM.goes_snoc, ← HPE.out, ← HQE.out]; exact Lib.hid ((HN4.out.only (by repeat (first | exact Only.refl _ _ | exact HO6.out | apply Only.more | apply Only.alloc | apply Only.drew))).lw HON.out)⟩
              · have d3 : (cop != 10) = true := by simpa using hop
                have d4 : decide (cop = 10) = false := by simpa using hop
                clear hop
                go_wp2
                refine wp_region_more_lit (by kernel_rfl) (by kernel_rfl) ?_
                repeat (first | go_big_quiet_skip | (go_big_quiet_want; go_big_quiet_op; first | go_big_quiet_on | (apply Exists.intro; refine ⟨fun _ => ?_, ?_⟩; (focus (go_at_call 25; exact Calls.more_of (HB4.out _ _))); go_big_quiet_on)))
                refine wpQuiet_nil ?_
                intro osq dq
                go_wp2
                go_roundg (ms.length - (k + 1))
                case measure => omega
                case rel => exact ⟨k + 1, by omega, by omega, by go_num, by rw [HT.out, PM.goes_snoc, ← HPE.out, ← HQE.out]; exact Lib.hid ((HN4.out.only (by repeat (first | exact Only.refl _ _ | apply Only.more | apply Only.alloc | apply Only.drew))).lw HON.out)⟩
      · skip
        go_wp2_with fail
        refine strict_on ?_
        refine ⟨?_, ?_⟩
        · exact laterF_in ((Only.refl _ _).drew.alloc _)
        repeat (first | go_big_quiet_skip | (go_big_quiet_want; go_big_quiet_op; go_big_quiet_on))
        refine wpQuiet_nil ?_
        try with_reducible refine ⟨?_, trivial⟩
        go_wp2_with (go_at_call 26; refine (HCL.out _ (by repeat (first | exact Only.refl _ _ | apply Only.alloc | apply Only.drew))).mono ?_; rintro e w4 ⟨rfl, hb1⟩; have HO4 := Lib.hid (Below.only0 hb1); clear hb1)
        refine strict_on ?_
        refine ⟨?_, ?_⟩
        · exact laterF_in ((((Only.refl _ _).drew).alloc _).trans HO4.out (fun _ x => x.elim))
        repeat (first | go_big_quiet_skip | (go_big_quiet_want; go_big_quiet_op; go_big_quiet_on))
        refine wpQuiet_nil ?_
        try with_reducible refine ⟨?_, trivial⟩
        have HO34 := Lib.hid (Only.trans (((Only.refl (fun _ => False) w3).drew).alloc _) HO4.out (fun _ x => x.elim))
        have HX3 := Lib.hid (HO4.out.blockF (b := w3.heap.size) (heap_alloc_at rfl) (fun x => x))
        have hx3 := HX3.out
        have e0 : w4.cell? ⟨w3.heap.size, 0, none⟩ = some (.int .i64 0) := by simp only [World.cell?, hx3]; rfl
        have e1 : w4.cell? ⟨w3.heap.size, 1, none⟩ = some (.int .i64 0) := by simp only [World.cell?, hx3]; rfl
        have e2 : w4.cell? ⟨w3.heap.size, 2, none⟩ = some (.int .i64 0) := by simp only [World.cell?, hx3]; rfl
        have e3 : w4.cell? ⟨w3.heap.size, 3, none⟩ = some (.int .i64 0) := by simp only [World.cell?, hx3]; rfl
        have e4 : w4.cell? ⟨w3.heap.size, 4, none⟩ = some (.int .i64 0) := by simp only [World.cell?, hx3]; rfl
        have e5 : w4.cell? ⟨w3.heap.size, 5, none⟩ = some (.int .i64 0) := by simp only [World.cell?, hx3]; rfl
        have e6 : w4.cell? ⟨w3.heap.size, 6, none⟩ = some (.int .i64 0) := by simp only [World.cell?, hx3]; rfl
        have e7 : w4.cell? ⟨w3.heap.size, 7, none⟩ = some (.int .i64 0) := by simp only [World.cell?, hx3]; rfl
        have e8 : w4.cell? ⟨w3.heap.size, 8, none⟩ = some (.int .i64 0) := by simp only [World.cell?, hx3]; rfl
        have ez : ∀ j, w4.frozen? ⟨w3.heap.size, j, none⟩ = false := fun j => by simp only [World.frozen?, hx3]; simp
        have el := (Array.getElem?_eq_some_iff.1 hx3).1
        clear hx3
        go_wp2_with fail
        refine strict_on ?_
        refine ⟨?_, ?_⟩
        · exact laterF_in (by repeat (with_reducible (first | exact HO34.out | apply Only.drew | (refine Only.set ?_ (.inr (Nat.le_refl _)) _))))
        repeat (first | go_big_quiet_skip | (go_big_quiet_want; go_big_quiet_op; go_big_quiet_on))
        refine wpQuiet_nil ?_
        go_upto_region 13 with (fail)
        refine gen_world ?_
        intro W4 hW4
        have HX4 := Lib.hid (show W4.heap[w3.heap.size]? = some (.cells #[.int .i64 cth, .int .i64 cop, .int .i64 carg, .int .i64 cdata, .int .i64 cbeg, .int .i64 cen, .int .i64 cpt, .int .i64 cak, .int .i64 cav] 50 (0, 0)) by rw [hW4]; simp [World.setCell, Array.getElem?_modify, HX3.out])
        have HN4 := Lib.hid (HN3.out.only (w' := W4) (by rw [hW4]; repeat (with_reducible (first | exact HO34.out | apply Only.drew | (refine Only.set ?_ (.inr (Nat.le_refl _)) _)))))
        clear hW4 HO4 HO34 HN3 HCL HX3 e0 e1 e2 e3 e4 e5 e6 e7 e8 ez el
        generalize w3.heap.size = cb at *
        clear w4
        clear kl nl q7 q8 r0
        obtain ⟨k7, k8, kl, n0, n1, n2, n3, nl⟩ := HN4.out.cells
        have hx4 := HX4.out
        have x1 : W4.cell? ⟨cb, 1, none⟩ = some (.int .i64 cop) := by simp only [World.cell?, hx4]; rfl
        have x7 : W4.cell? ⟨cb, 7, none⟩ = some (.int .i64 cak) := by simp only [World.cell?, hx4]; rfl
        have xl := (Array.getElem?_eq_some_iff.1 hx4).1
        have HB4 := Lib.hid (fun os d => hn_busy (HN4.out.only ((Only.refl _ _).more os d)) HQ.out mth)
        obtain ⟨b2, hb2⟩ : ∃ b, q.busyB mth = b := ⟨_, rfl⟩
        rw [hb2] at HB4
        have HB2 := Lib.hid hb2
        clear hb2 hx4 HX4 n1 n2 n3
        cases b1 with
        | false =>
          go_wp2
          refine wp_region_more_lit (by kernel_rfl) (by kernel_rfl) ?_
          repeat (first | go_big_quiet_skip | (go_big_quiet_want; go_big_quiet_op; first | go_big_quiet_on | (apply Exists.intro; refine ⟨fun _ => ?_, ?_⟩; (focus (fail)); go_big_quiet_on)))
          refine wpQuiet_nil ?_
          intro osq dq
          go_wp2
          go_roundg (ms.length - (k + 1))
          case measure => omega
          case rel => exact ⟨k + 1, by omega, by omega, by go_num, by rw [HT.out, PM.goes_snoc, ← HPE.out, ← HQE.out]; exact Lib.hid ((HN4.out.only (by repeat (first | exact Only.refl _ _ | apply Only.more | apply Only.alloc | apply Only.drew))).lw HON.out)⟩
        | true =>
          cases b2 with
          | true =>
            go_wp2
            refine wp_region_more_lit (by kernel_rfl) (by kernel_rfl) ?_
            repeat (first | go_big_quiet_skip | (go_big_quiet_want; go_big_quiet_op; first | go_big_quiet_on | (apply Exists.intro; refine ⟨fun _ => ?_, ?_⟩; (focus (go_at_call 25; exact Calls.more_of (HB4.out _ _))); go_big_quiet_on)))
            refine wpQuiet_nil ?_
            intro osq dq
            go_wp2
            go_roundg (ms.length - (k + 1))
            case measure => omega
            case rel => exact ⟨k + 1, by omega, by omega, by go_num, by rw [HT.out, PM.goes_snoc, ← HPE.out, ← HQE.out]; exact Lib.hid ((HN4.out.only (by repeat (first | exact Only.refl _ _ | apply Only.more | apply Only.alloc | apply Only.drew))).lw HON.out)⟩
          | false =>
            cases cbb with
            | false =>
              go_wp2
              refine wp_region_more_lit (by kernel_rfl) (by kernel_rfl) ?_
              repeat (first | go_big_quiet_skip | (go_big_quiet_want; go_big_quiet_op; first | go_big_quiet_on | (apply Exists.intro; refine ⟨fun _ => ?_, ?_⟩; (focus (go_at_call 25; exact Calls.more_of (HB4.out _ _))); go_big_quiet_on)))
              refine wpQuiet_nil ?_
              intro osq dq
              go_wp2
              go_roundg (ms.length - (k + 1))
              case measure => omega
              case rel => exact ⟨k + 1, by omega, by omega, by go_num, by rw [HT.out, PM.goes_snoc, ← HPE.out, ← HQE.out]; exact Lib.hid ((HN4.out.only (by repeat (first | exact Only.refl _ _ | apply Only.more | apply Only.alloc | apply Only.drew))).lw HON.out)⟩
            | true =>
              by_cases hop : cop = 10
              · subst hop
                have hh := hon_move HAP.out HHO.out (mv := ⟨mth, mop, marg, mdata⟩) HB1.out (by rw [← HQE.out]; exact HB2.out) (by rw [← HQE.out]; exact HCR.out) rfl
                rw [← HQE.out] at hh
                simp only at hh
                rcases hh with rfl | ⟨rfl, hcnt, hcac⟩
                · skip
                  go_wp2
                  refine wp_region_more_lit (by kernel_rfl) (by kernel_rfl) ?_
                  repeat (first | go_big_quiet_skip | (go_big_quiet_want; go_big_quiet_op; first | go_big_quiet_on | (apply Exists.intro; refine ⟨fun _ => ?_, ?_⟩; (focus (go_at_call 25; exact Calls.more_of (HB4.out _ _))); go_big_quiet_on)))
                  refine wpQuiet_nil ?_
                  intro osq dq
                  go_wp2
                  refine wp_region_more_lit (by kernel_rfl) (by kernel_rfl) ?_
                  repeat (first | go_big_quiet_skip | (go_big_quiet_want; go_big_quiet_op; first | go_big_quiet_on | (apply Exists.intro; refine ⟨fun _ => ?_, ?_⟩; (focus (fail)); go_big_quiet_on)))
                  refine wpQuiet_nil ?_
                  intro osq dq
                  go_wp2
                  go_roundg (ms.length - (k + 1))
                  case measure => omega
                  case rel => exact ⟨k + 1, by omega, by omega, by go_num, by rw [HT.out, PM.goes_snoc, ← HPE.out, ← HQE.out]; exact Lib.hid ((HN4.out.only (by repeat (first | exact Only.refl _ _ | apply Only.more | apply Only.alloc | apply Only.drew))).lw HON.out)⟩
                · skip
                  go_wp2
                  refine wp_region_more_lit (by kernel_rfl) (by kernel_rfl) ?_
                  repeat (first | go_big_quiet_skip | (go_big_quiet_want; go_big_quiet_op; first | go_big_quiet_on | (apply Exists.intro; refine ⟨fun _ => ?_, ?_⟩; (focus (go_at_call 25; exact Calls.more_of (HB4.out _ _))); go_big_quiet_on)))
                  refine wpQuiet_nil ?_
                  intro osq dq
                  go_upto_region 16 with (fail)
                  have HCT := Lib.hid (fun w1 (h1 : Only (fun _ => False) W4 w1) => hn_count (HN4.out.only h1) 0)
                  have HCD := Lib.hid (fun w1 (h1 : Only (fun _ => False) W4 w1) => hn_cached (HN4.out.only h1) HQA.out mth)
                  rw [hcnt] at HCT
                  rw [hcac] at HCD
                  have q7 := fun q : LaterF (fun _ => False) W4 => q.cell k7 kl (fun x => x)
                  have q0 := fun q : LaterF (fun _ => False) W4 => q.cell n0 nl (fun x => x)
                  have q77 := fun q : LaterF (fun _ => False) W4 => q.cell x7 xl (fun x => x)
                  clear k7 k8 n0 x1 x7 hcnt hcac HB4
                  refine wp_region_plan (fun wz => ∃ q : LaterF (fun _ => False) W4, wz = q.W) [9, 18] [0, 1, 2, 3, 4, 5, 6, 7, 8] (.fork 9 [10, 11, 12, 13, 14, 15, 16, 17] (.tail 18) .none) oper0 (by kernel_rfl) (by kernel_rfl) (laterF_in ((Only.refl _ _).more _ _).drew) ?_
                  simp only [wpPlan, List.map_cons, List.map_nil, List.getD_cons_zero, List.getD_cons_succ, List.drop_succ_cons, List.drop_zero]
                  repeat (first | go_big_quiet_skip | (go_big_quiet_want; go_big_quiet_op; go_big_quiet_on))
                  refine wpQuiet_nil ?_
                  refine ⟨?_, trivial⟩
                  go_wp2_with (go_at_call 29; refine (HCT.out _ (by repeat (first | exact Only.refl _ _ | apply Only.more | apply Only.drew))).mono ?_; rintro e w5 ⟨rfl, hb5⟩; have HO5 := Lib.hid ((show Only (fun _ => False) W4 _ by repeat (first | exact Only.refl _ _ | apply Only.more | apply Only.drew)).trans (Below.only0 hb5) (fun _ x => x.elim)); clear hb5)
                  refine strict_on ?_
                  refine ⟨?_, ?_⟩
                  · exact laterF_in HO5.out
                  repeat (first | go_big_quiet_skip | (go_big_quiet_want; go_big_quiet_op; go_big_quiet_on))
                  refine wpQuiet_nil ?_
                  go_wp2_with (go_at_call 23; refine (HCD.out _ (by repeat (first | exact HO5.out | apply Only.drew))).mono ?_; rintro e w6 ⟨o6, c6, rfl, y1, y2, y3, y4⟩; have HO6 := Lib.hid (Only.trans (show Only (fun _ => False) W4 _ by repeat (first | exact HO5.out | apply Only.drew)) y4 (fun _ x => x.elim)); clear y3 y4)
                  go_roundg (ms.length - (k + 1))
                  case measure => omega
                  case rel => exact ⟨k + 1, by omega, by omega, by go_num, by rw [HT.out, PM.goes_snoc, ← HPE.out, ← HQE.out]; exact Lib.hid ((HN4.out.only (by repeat (first | exact Only.refl _ _ | exact HO6.out | apply Only.more | apply Only.alloc | apply Only.drew))).lw HON.out)⟩
              · have d3 : (cop != 10) = true := by simpa using hop
                have d4 : decide (cop = 10) = false := by simpa using hop
                clear hop
                go_wp2
                refine wp_region_more_lit (by kernel_rfl) (by kernel_rfl) ?_
                repeat (first | go_big_quiet_skip | (go_big_quiet_want; go_big_quiet_op; first | go_big_quiet_on | (apply Exists.intro; refine ⟨fun _ => ?_, ?_⟩; (focus (go_at_call 25; exact Calls.more_of (HB4.out _ _))); go_big_quiet_on)))
                refine wpQuiet_nil ?_
                intro osq dq
                go_wp2
                go_roundg (ms.length - (k + 1))
                case measure => omega
                case rel => exact ⟨k + 1, by omega, by omega, by go_num, by rw [HT.out, PM.goes_snoc, ← HPE.out, ← HQE.out]; exact Lib.hid ((HN4.out.only (by repeat (first | exact Only.refl _ _ | apply Only.more | apply Only.alloc | apply Only.drew))).lw HON.out)⟩
    · obtain rfl : k = ms.length := by omega
      have HG := Lib.hid (arP_goodN (ab := ab) (u := 0) HOK.out (ms.take ms.length))
      have HHO := Lib.hid (HonI.runs (arP_ah (ab := ab) (u := 0) HOK.out (by have := (ok_bounds HOK.out).2.2.2.2.2.1; omega)) arP_hon (ms.take ms.length))
      have hwl := (arK_words (ab := ab) (u := 0) HOK.out (by have := (ok_bounds HOK.out).2.2.2.2.2.1; omega) (ms.take ms.length)).1
      have hsz := ar_size (h := HOK.out) (u := 0)
      obtain ⟨p, hp⟩ : ∃ p, p = (arP ab a0 a1 a2 a3 a4 a5 a6 0).goes (ms.take ms.length) := ⟨_, rfl⟩
      rw [← hp] at hI HG HHO hwl
      clear hp
      have hlc : p.run.calls.length ≤ 65536 := Nat.le_trans HG.out.calls HG.out.top
      have hll : p.run.trace.length ≤ 262144 := Nat.le_trans HG.out.log (by have := HG.out.top; omega)
      have HR := Lib.hid (tab_run hI.out.tab HG.out (by omega))
      have HHB := Lib.hid (show ∀ (j : Nat) (c : Cal), p.run.calls[j]? = some c → c.ak = 4 → honB p.run.trace c p.run.trace.length = true from fun j c hj hc => honB_yes HHO.out hj hc)
      obtain ⟨_, _, _, _, _, _, _, _, k8, kl⟩ := boxT hI.out.blk
      have HOW := Lib.hid (HW0.out.trans hI.out.on (fun _ x => x.elim))
      clear hI HG HHO hwl hsz HM hd
      generalize p.run = R at *
      go_upto_region 20 with (go_at_call 30; refine HR.out.mono ?_; rintro e w5 ⟨x, he, hra, hro⟩; obtain ⟨xa, xt, xb', xc⟩ := x; obtain ⟨oa, ca, e1, _, _⟩ := hra.wa.form; obtain ⟨ot, ct, e2, _, _⟩ := hra.wt.form; obtain ⟨ob, cb, e3, _, _⟩ := hra.wb.form; obtain ⟨oc, cc, e4, _, _⟩ := hra.wc.form; simp only at e1 e2 e3 e4; subst e1; subst e2; subst e3; subst e4; (unfold RunVs.v at he); subst he; have HRA := Lib.hid hra; have HRO := Lib.hid hro; clear hra hro)
      refine gen_world ?_
      intro W5 hW5
      have hrb : W5.heap[w5.heap.size]? = some (.cells #[.slice oa R.calls.length ca, .slice ot R.trace.length ct, .slice ob R.shifts.length cb, .slice oc R.words.length cc] 42 (0, 0)) := by rw [hW5]; exact heap_alloc_new _ _
      have oW : Only (fun _ => False) w5 W5 := by rw [hW5]; exact (Only.refl _ _).alloc _
      have HA5 := Lib.hid (HRA.out.wa.of_block (fun k hk => oW.block k (HRA.out.wa.lt k hk).2 (fun x => x)))
      have HT5 := Lib.hid (HRA.out.wt.of_block (fun k hk => oW.block k (HRA.out.wt.lt k hk).2 (fun x => x)))
      have HO5 := Lib.hid (HOW.out.trans (HRO.out.trans oW (fun _ x => x.elim)) (fun _ x => x.elim))
      have r0 : W5.cell? ⟨w5.heap.size, 0, none⟩ = some (.slice oa R.calls.length ca) := by simp [World.cell?, hrb]
      have r1 : W5.cell? ⟨w5.heap.size, 1, none⟩ = some (.slice ot R.trace.length ct) := by simp [World.cell?, hrb]
      have rl := (Array.getElem?_eq_some_iff.1 hrb).1
      clear hW5 oW hrb HRA HRO HR k8 kl HOW HW0 HOK
      generalize w5.heap.size = rb at *
      clear w5
      obtain ⟨cs, hcs⟩ : ∃ cs, R.calls = cs := ⟨_, rfl⟩
      obtain ⟨ls, hls⟩ : ∃ ls, R.trace = ls := ⟨_, rfl⟩
      rw [hcs] at HA5 HHB hlc r0
      rw [hls] at HT5 HHB hll r1
      obtain ⟨m, hm⟩ : ∃ m, m = cs.length := ⟨_, rfl⟩
      obtain ⟨n, hn⟩ : ∃ n, n = ls.length := ⟨_, rfl⟩
      have HCM := Lib.hid hm
      have HCN := Lib.hid hn
      rw [← hm] at r0 hlc
      rw [← hn] at r1 hll HHB
      clear hm hn hcs hls
      go_wp2
      go_loopg [12] m (fun gh s12 wr => ∃ i : Nat, i ≤ m ∧ m ≤ i + gh ∧ s12 = .int .i64 (i : Int) ∧ ∃ os d, wr = W5.more os d)
      case atStart => exact ⟨0, by omega, by omega, by go_num, #[], W5.drawn, by simp [World.more]⟩
      case round =>
        obtain ⟨i, hi1, hi2, rfl, os1, d1, rfl⟩ := hrel
        by_cases hlt : i < m
        · obtain ⟨t, e, hcap, tl, x0, x1, x2, x3, x4, x5, x6, x7, x8⟩ := cal_at HA5.out (i := i) (by rw [← HCM.out]; exact hlt)
          subst e
          rw [← HCM.out] at hcap
          have hci := List.getElem?_eq_getElem (show i < cs.length by rw [← HCM.out]; exact hlt)
          have HCI := Lib.hid hci
          clear hci
          generalize hgc : cs[i]'(by rw [← HCM.out]; exact hlt) = c at *
          clear hgc
          obtain ⟨cth, cop, carg, cdata, cbeg, cen, cpt, cak, cav⟩ := c
          simp only at x0 x1 x2 x3 x4 x5 x6 x7 x8
          by_cases hak : cak = 4
          · subst hak
            have HB := Lib.hid (HHB.out i _ HCI.out rfl)
            go_upto_region 24 with (fail)
            refine gen_world ?_
            intro W6 hW6
            have HW6 : Hid (Only (fun _ => False) W5 W6) := Lib.hid (by rw [hW6]; exact (Below.only0 (by repeat (first | exact Below.refl _ _ | apply Below.drew | apply Below.more1 | apply Below.alloc1 | (refine Below.setCell ?_ (by first | exact Nat.le_refl _ | (simp; done) | (simp; omega)) _)))))
            have hxb : W6.heap[(W5.heap.size + os1.size)]? = some (.cells #[.int .i64 cth, .int .i64 cop, .int .i64 carg, .int .i64 cdata, .int .i64 cbeg, .int .i64 cen, .int .i64 cpt, .int .i64 4, .int .i64 cav] 50 (0, 0)) := by rw [hW6]; exact heap_alloc_at (World.size_more _ _ _)
            have xl := (Array.getElem?_eq_some_iff.1 hxb).1
            have y0 : W6.cell? ⟨(W5.heap.size + os1.size), 0, none⟩ = some (.int .i64 cth) := by simp only [World.cell?, hxb]; rfl
            have y5 : W6.cell? ⟨(W5.heap.size + os1.size), 5, none⟩ = some (.int .i64 cen) := by simp only [World.cell?, hxb]; rfl
            have r1' : W6.cell? ⟨rb, 1, none⟩ = some (.slice ot n ct) := (HW6.out.cellAt (p := ⟨rb, 1, none⟩) rl (fun x => x)).trans r1
            have rl' := Nat.lt_of_lt_of_le rl HW6.out.size
            have HT6 := Lib.hid (HT5.out.of_block (fun k hk => HW6.out.block k (HT5.out.lt k hk).2 (fun x => x)))
            clear hxb hW6 x0 x1 x2 x3 x4 x5 x6 x7 x8
            generalize (W5.heap.size + os1.size) = xb6 at *
            clear os1 d1
            go_wp2
            go_loopg [14, 15] n (fun gh s14 s15 wr => ∃ g : Nat, g ≤ n ∧ n ≤ g + gh ∧ s14 = .bool (honB ls ⟨cth, cop, carg, cdata, cbeg, cen, cpt, 4, cav⟩ g) ∧ s15 = .int .i64 (g : Int) ∧ ∃ os d, wr = W6.more os d)
            case atStart => exact ⟨0, by omega, by omega, by rfl, by go_num, #[], W6.drawn, by simp [World.more]⟩
            case round =>
              obtain ⟨g, hg1, hg2, rfl, rfl, os3, d3, rfl⟩ := hrel
              by_cases hil : g < n
              · obtain ⟨t', e, hcap', tl', x0, x1, x2, x3, x4, x5, x6⟩ := acc_at HT6.out (i := g) (by rw [← HCN.out]; exact hil)
                subst e
                rw [← HCN.out] at hcap'
                have hcz := List.getElem?_eq_getElem (show g < ls.length by rw [← HCN.out]; exact hil)
                have HGN := Lib.hid (honB_next (c := ⟨cth, cop, carg, cdata, cbeg, cen, cpt, 4, cav⟩) hcz)
                clear hcz
                generalize hgc : ls[g]'(by rw [← HCN.out]; exact hil) = z at *
                clear hgc
                obtain ⟨zmv, zth, zkd, zad, zold, znw, zsaw⟩ := z
                simp only at x0 x1 x2 x3 x4 x5 x6
                unfold honC at HGN
                simp only at HGN
                obtain ⟨b, hb⟩ : ∃ b, b = honB ls ⟨cth, cop, carg, cdata, cbeg, cen, cpt, 4, cav⟩ g := ⟨_, rfl⟩
                rw [← hb] at HGN ⊢
                clear hb
                cases b with
                | true =>
                  rw [Bool.true_or] at HGN
                  go_wp2
                  go_roundg (n - (g + 1))
                  case measure => omega
                  case rel => exact ⟨g + 1, by omega, by omega, (by first | (rw [HGN.out]; done) | (rw [HGN.out]; rfl)), by go_num, RowKit.Below.more (by repeat (first | exact Below.refl _ _ | apply Below.drew | apply Below.more1 | apply Below.alloc1))⟩
                | false =>
                  rw [Bool.false_or] at HGN
                  by_cases q1 : zmv = cen
                  · subst q1
                    have v1 : (zmv == zmv) = true := by simp
                    by_cases q2 : zth = cth
                    · subst q2
                      have v2 : (zth == zth) = true := by simp
                      by_cases q3 : zkd = 1
                      · subst q3
                        have v3 : ((1 : Int) == 1) = true := rfl
                        by_cases q4 : zad = 0
                        · subst q4
                          have v4 : ((0 : Int) == 0) = true := rfl
                          by_cases q5 : zsaw % 4294967296 = 0
                          · have v5 : (zsaw % 4294967296 == 0) = true := by simpa using q5
                            have v6 : zsaw.tmod 4294967296 = 0 := Int.tmod_eq_zero_of_dvd (Int.dvd_of_emod_eq_zero q5)
                            rw [v1, v2, v3, v4, v5] at HGN
                            clear q5
                            go_wp2
                            go_roundg (n - (g + 1))
                            case measure => omega
                            case rel => exact ⟨g + 1, by omega, by omega, (by first | (rw [HGN.out]; done) | (rw [HGN.out]; rfl)), by go_num, RowKit.Below.more (by repeat (first | exact Below.refl _ _ | apply Below.drew | apply Below.more1 | apply Below.alloc1))⟩
                          · have v5 : (zsaw % 4294967296 == 0) = false := by simpa using q5
                            have v6 : zsaw.tmod 4294967296 ≠ 0 := fun e => q5 (Int.emod_eq_zero_of_dvd (Int.dvd_of_tmod_eq_zero e))
                            have v7 : (zsaw.tmod 4294967296 == 0) = false := by simpa using v6
                            have v8 : decide (zsaw.tmod 4294967296 = 0) = false := by simpa using v6
                            rw [v5] at HGN
                            simp only [Bool.and_false] at HGN
                            clear q5
                            go_wp2
                            go_roundg (n - (g + 1))
                            case measure => omega
                            case rel => exact ⟨g + 1, by omega, by omega, (by first | (rw [HGN.out]; done) | (rw [HGN.out]; rfl)), by go_num, RowKit.Below.more (by repeat (first | exact Below.refl _ _ | apply Below.drew | apply Below.more1 | apply Below.alloc1))⟩
                        · have v4 : (zad == 0) = false := by simpa using q4
                          have v4' : decide (zad = 0) = false := by simpa using q4
                          rw [v4] at HGN
                          simp only [Bool.false_and, Bool.and_false] at HGN
                          clear q4
                          go_wp2
                          go_roundg (n - (g + 1))
                          case measure => omega
                          case rel => exact ⟨g + 1, by omega, by omega, (by first | (rw [HGN.out]; done) | (rw [HGN.out]; rfl)), by go_num, RowKit.Below.more (by repeat (first | exact Below.refl _ _ | apply Below.drew | apply Below.more1 | apply Below.alloc1))⟩
                      · have v3 : (zkd == 1) = false := by simpa using q3
                        have v3' : decide (zkd = 1) = false := by simpa using q3
                        rw [v3] at HGN
                        simp only [Bool.false_and, Bool.and_false] at HGN
                        clear q3
                        go_wp2
                        go_roundg (n - (g + 1))
                        case measure => omega
                        case rel => exact ⟨g + 1, by omega, by omega, (by first | (rw [HGN.out]; done) | (rw [HGN.out]; rfl)), by go_num, RowKit.Below.more (by repeat (first | exact Below.refl _ _ | apply Below.drew | apply Below.more1 | apply Below.alloc1))⟩
                    · have v2 : (zth == cth) = false := by simpa using q2
                      have v2' : decide (zth = cth) = false := by simpa using q2
                      rw [v2] at HGN
                      simp only [Bool.false_and, Bool.and_false] at HGN
                      clear q2
                      go_wp2
                      go_roundg (n - (g + 1))
                      case measure => omega
                      case rel => exact ⟨g + 1, by omega, by omega, (by first | (rw [HGN.out]; done) | (rw [HGN.out]; rfl)), by go_num, RowKit.Below.more (by repeat (first | exact Below.refl _ _ | apply Below.drew | apply Below.more1 | apply Below.alloc1))⟩
                  · have v1 : (zmv == cen) = false := by simpa using q1
                    have v1' : decide (zmv = cen) = false := by simpa using q1
                    rw [v1] at HGN
                    simp only [Bool.false_and] at HGN
                    clear q1
                    go_wp2
                    go_roundg (n - (g + 1))
                    case measure => omega
                    case rel => exact ⟨g + 1, by omega, by omega, (by first | (rw [HGN.out]; done) | (rw [HGN.out]; rfl)), by go_num, RowKit.Below.more (by repeat (first | exact Below.refl _ _ | apply Below.drew | apply Below.more1 | apply Below.alloc1))⟩
              · obtain rfl : g = n := by omega
                rw [HB.out]
                go_wp2
                go_roundg (m - (i + 1))
                case measure => omega
                case rel => exact ⟨i + 1, by omega, by omega, by go_num, moreT HW6.out (by repeat (first | exact Below.refl _ _ | apply Below.drew | apply Below.more1 | apply Below.alloc1))⟩
          · have d3 : (cak != 4) = true := by simpa using hak
            have d4 : decide (cak = 4) = false := by simpa using hak
            clear hak
            go_wp2
            go_roundg (m - (i + 1))
            case measure => omega
            case rel => exact ⟨i + 1, by omega, by omega, by go_num, RowKit.Below.more (by repeat (first | exact Below.refl _ _ | apply Below.drew | apply Below.more1 | apply Below.alloc1))⟩
        · obtain rfl : i = m := by omega
          go_wp2
          go_ret
          exact ⟨rfl, (HO5.out.trans (Below.only0 (by repeat (first | exact Below.refl _ _ | apply Below.drew | apply Below.more1 | apply Below.alloc1 | (refine Below.setCell ?_ (by first | exact Nat.le_refl _ | (simp; done) | (simp; omega)) _)))) (fun _ x => x.elim)).belowF⟩
theorem honest_walk (a0 a1 a2 a3 a4 a5 a6 : Int) {w : World} {ms : List Mv} {om : Option Addr} {cm : Nat} (hm : MvsIn w (.slice om ms.length cm) ms) (_hcm : ms.length ≤ cm ∧ cm ≤ maxLen ∧ (om = none → cm = 0)) :
    Calls Try.prog 10 #[.agg #[.int .i64 a0, .int .i64 a1, .int .i64 a2, .int .i64 a3, .int .i64 a4, .int .i64 a5, .int .i64 a6], .slice om ms.length cm] w fun e w' => e = .returned (.bool true) ∧ Below w.heap.size w w' := by
  cases hok : okCfg a0 a1 a2 a3 a4 a5 a6 with
  | false => exact honest_out _ _ _ _ _ _ _ (.inl hok)
  | true =>
    by_cases hl : 65536 < ms.length
    · exact honest_out _ _ _ _ _ _ _ (.inr ⟨hok, hl⟩)
    · exact honest_in _ _ _ _ _ _ _ hok (by omega) hm
end Go.Proofs.Ytjcggokhminmoaa
