/-
MachineMoves returns true.
-/
import Derived.Test.YtbhbpfpggfcpgaaQPlE
import Derived.Test.YtbhbpfpggfcpgaaQOwnOk
import Derived.Test.YtbhbpfpggfcpgaaQFuw
namespace Go.Proofs.Ytbhbpfpggfcpgaa
open Go.ChangeShapes Go.WideShapes Go.ChangeAt Go.RowKit Go.Shelf

theorem own_osg (l : List Int) (n : Nat) (ms : List Mv) : ((PM.init (ownK l.length) l n ()).goes ms).os = osOf l n ms := by
  have h := PM.os_goes (p := PM.init (ownK l.length) l n ()) (by rw [PM.os_init]; exact OS.Ok.init l n) rfl ms
  rw [PM.os_init] at h
  exact h
theorem own_moves (l : List Int) (n : Nat) (ms : List Mv) : ((PM.init (ownK l.length) l n ()).goes ms).moves = (osOf l n ms).moves := congrArg OS.moves (own_osg l n ms)
/-- both machines behind some moves -/
def MvSt (wa : World) (l : List Int) (n xb : Nat) (kit : Value) (mb : Nat) (pre : List Mv) (wr : World) : Prop :=
  Crew (base := wa.heap.size) [Thing.pm (ownK_ok _) xb kit ((PM.init (ownK l.length) l n ()).goes pre), Thing.rm wa.heap.size mb (osOf l n pre)] wr ∧ Only (fun _ => False) wa wr
theorem MvSt.keep {wa wr w' : World} {l : List Int} {n xb mb : Nat} {kit : Value} {pre : List Mv} (h : MvSt wa l n xb kit mb pre wr) (ho : Only (fun _ => False) wr w') : MvSt wa l n xb kit mb pre w' := ⟨h.1.only ho, h.2.trans ho (fun _ x => x.elim)⟩
section
variable {wa wr : World} {l : List Int} {n xb mb : Nat} {kit : Value} {pre : List Mv}
theorem MvSt.call (h : MvSt wa l n xb kit mb pre wr) (h1 : 1 ≤ n) (h16 : n ≤ 16) (t : Int) : Calls Try.prog 37 #[.pointer (some ⟨xb, 0, none⟩), .int .i64 t] wr fun e w' => e = .returned (.tuple #[((osOf l n pre).callR t).1.v, .bool ((osOf l n pre).callR t).2]) ∧ Below wr.heap.size wr w' := by
  obtain ⟨F, hp⟩ := h.1.get (i := 0) rfl
  have := call_at (own_good l n pre h1 h16) hp t
  rwa [PM.call_os, own_osg] at this
theorem MvSt.busy (h : MvSt wa l n xb kit mb pre wr) (h1 : 1 ≤ n) (h16 : n ≤ 16) (t : Int) : Calls Try.prog 39 #[.pointer (some ⟨xb, 0, none⟩), .int .i64 t] wr fun e w' => e = .returned (.bool ((osOf l n pre).busyB t)) ∧ Below wr.heap.size wr w' := by
  obtain ⟨F, hp⟩ := h.1.get (i := 0) rfl
  have := busy_at (ownK_ok _) (own_good l n pre h1 h16) hp t
  rwa [PM.busy_os, own_osg] at this
theorem MvSt.last (h : MvSt wa l n xb kit mb pre wr) (t : Int) : Calls Try.prog 38 #[.pointer (some ⟨mb, 0, none⟩), .int .i64 t] wr fun e w' => e = .returned (.tuple #[(lastR (osOf l n pre).calls t).1.v, .bool (lastR (osOf l n pre).calls t).2]) ∧ Below wr.heap.size wr w' := by
  obtain ⟨F, b, m, v, g0, g1, g2, _⟩ := h.1.get (i := 1) rfl
  have hs := (osOf_small l n pre).1
  have := last_any g1 (by rw [g2.calls]; omega) t
  rwa [g2.calls] at this
theorem MvSt.run (h : MvSt wa l n xb kit mb pre wr) (hl : l.length ≤ 8192) (h1 : 1 ≤ n) (h16 : n ≤ 16) : Calls Try.prog 19 #[.pointer (some ⟨xb, 0, none⟩)] wr (RunRes wr (refRun l n pre)) := by
  obtain ⟨F, hp⟩ := h.1.get (i := 0) rfl
  have := pm_run (own_good l n pre h1 h16) hp (by rw [own_len]; omega)
  have hr : ((PM.init (ownK l.length) l n ()).goes pre).run = refRun l n pre := own_os l n pre
  rwa [hr] at this
theorem MvSt.told (h : MvSt wa l n xb kit mb pre wr) (hl : l.length ≤ 8192) : Calls Try.prog 36 #[.pointer (some ⟨mb, 0, none⟩)] wr (RunRes wr (refRun l n pre)) := by
  obtain ⟨F, b, m, v, g0, g1, g2, _⟩ := h.1.get (i := 1) rfl
  obtain ⟨hs, hw⟩ := osOf_small l n pre
  have ht := told_any g1 (by rw [g2.calls]; omega) (by rw [g2.trace]; omega) (by rw [g2.shifts]; simp) (by rw [g2.words, hw]; omega)
  rwa [g2.calls, g2.trace, g2.shifts, g2.words] at ht
end
theorem refRun_smallS (l : List Int) (n : Nat) (pre : List Mv) (hl : l.length ≤ 8192) : RunS.small (refRun l n pre) := by
  obtain ⟨hs, hw⟩ := osOf_small l n pre
  refine ⟨?_, ?_, ?_, ?_⟩
  · show (osOf l n pre).calls.length ≤ _; omega
  · show (osOf l n pre).log.length ≤ _; omega
  · show ([] : List Shf).length ≤ _; simp
  · show (osOf l n pre).words.length ≤ _; omega
/-- what a thread is asked, and what must come -/
structure Asks (W : World) (xb mb : Nat) (t : Int) (c d : Cal) (kn b : Bool) : Prop where
  call : ∀ W', Only (fun _ => False) W W' → Calls Try.prog 37 #[.pointer (some ⟨xb, 0, none⟩), .int .i64 t] W' fun e w' => e = .returned (.tuple #[c.v, .bool kn]) ∧ Below W'.heap.size W' w'
  last : ∀ W', Only (fun _ => False) W W' → Calls Try.prog 38 #[.pointer (some ⟨mb, 0, none⟩), .int .i64 t] W' fun e w' => e = .returned (.tuple #[d.v, .bool b]) ∧ Below W'.heap.size W' w'
  busy : ∀ W', Only (fun _ => False) W W' → Calls Try.prog 39 #[.pointer (some ⟨xb, 0, none⟩), .int .i64 t] W' fun e w' => e = .returned (.bool b) ∧ Below W'.heap.size W' w'
  beg : decide (0 ≤ d.beg) = kn
  same : kn = true → c = d
  zero : kn = false → c = Cal.zero
theorem MvSt.asks {wa wr : World} {l : List Int} {n xb mb : Nat} {kit : Value} {pre : List Mv} (h : MvSt wa l n xb kit mb pre wr) (h1 : 1 ≤ n) (h16 : n ≤ 16) (t : Int) : ∃ c d kn b, Asks wr xb mb t c d kn b := by
  obtain ⟨a1, a2, a3, a4⟩ := asks_ok (lastI_of l n pre) t
  exact ⟨_, _, _, _, fun W' ho => (h.keep ho).call h1 h16 t, fun W' ho => (h.keep ho).last t, fun W' ho => by have := (h.keep ho).busy h1 h16 t; rwa [a1] at this, a2.symm, a3, a4⟩

set_option maxRecDepth 100000 in
set_option maxHeartbeats 4000000 in
theorem moves_walk {w : World} {v : Value} {th : Int} {l : List Int} {ms : List Mv} {ox : Option Addr} {cx : Nat} {om : Option Addr} {cm : Nat} (h : ScrIn w v th l ms ox cx om cm) (hl : l.length ≤ 17592186044416) (hms : ms.length ≤ 4398046511104) (ask : Int) :
    Calls Try.prog 13 #[v, .int .i64 ask] w fun e w' => e = .returned (.bool true) ∧ Below w.heap.size w w' := by
  obtain ⟨rfl, hs0, hm0, hx0, hy0⟩ := h
  have HS := Lib.hid hs0
  have HM := Lib.hid hm0
  obtain ⟨i1, ii1, iz10, iz11, iz12⟩ := info_parts infoU64
  have II1 := Lib.hid ii1
  have IZ10 := Lib.hid iz10
  have IZ11 := Lib.hid iz11
  have IZ12 := Lib.hid iz12
  have SO1 := Lib.hid (u64s_one l)
  have SL1 := Lib.hid (show 0 + l.length ≤ maxLen by unfold maxLen; omega)
  have SB1 := Lib.hid (show ((0 + l.length) + (0 + l.length) / 4 + 192) * 8 ≤ 281474976710656 by omega)
  clear hs0 hm0 hx0 hy0 ii1 iz10 iz11 iz12
  go_enter Try.func13, Try.ntmps13
  go_upto_region 1 with (fail)
  refine gen_world ?_
  intro W0 hW0
  have HW0 : Hid (Only (fun _ => False) w W0) := Lib.hid (by rw [hW0]; exact (Only.refl _ w).alloc _)
  have hbx : W0.heap[w.heap.size]? = some (.cells #[.int .i64 th, .slice ox l.length cx, .slice om ms.length cm] 45 (0, 0)) := by rw [hW0]; exact heap_alloc_new w _
  have s0 : W0.cell? ⟨w.heap.size, 0, none⟩ = some (.int .i64 th) := by simp [World.cell?, hbx]
  have s1 : W0.cell? ⟨w.heap.size, 1, none⟩ = some (.slice ox l.length cx) := by simp [World.cell?, hbx]
  have s2 : W0.cell? ⟨w.heap.size, 2, none⟩ = some (.slice om ms.length cm) := by simp [World.cell?, hbx]
  have hl0 := (Array.getElem?_eq_some_iff.1 hbx).1
  clear hW0 hbx
  generalize hsb : w.heap.size = sb at s0 s1 s2 hl0 ⊢
  go_upto_region 3 with (go_at_call 26; refine awake_ok.mono ?_; rintro e w1 ⟨rfl, ho1⟩; have HW1 := Lib.hid (HW0.out.trans ho1 (fun _ x => x.elim)); have s0 := (ho1.cellAt (p := ⟨sb, 0, none⟩) hl0 (fun x => x)).trans s0; have s1 := (ho1.cellAt (p := ⟨sb, 1, none⟩) hl0 (fun x => x)).trans s1; have s2 := (ho1.cellAt (p := ⟨sb, 2, none⟩) hl0 (fun x => x)).trans s2; have hl1 := Nat.lt_of_lt_of_le hl0 ho1.size; clear ho1)
  have q0 := fun q : LaterF (fun _ => False) w1 => q.cell s0 hl1 (fun x => x)
  have q1 := fun q : LaterF (fun _ => False) w1 => q.cell s1 hl1 (fun x => x)
  have q2 := fun q : LaterF (fun _ => False) w1 => q.cell s2 hl1 (fun x => x)
  by_cases hbad : th < 1 ∨ 16 < th
  · have HB := Lib.hid hbad
    refine wp_region_plan (fun wz => ∃ q : LaterF (fun _ => False) w1, wz = q.W) [4, 8, 9] [0, 1, 2, 3, 5, 6, 7] (.fork 4 [] (.fork 8 [] (.fork 9 [10, 11, 12, 13] (.tail 14) .none) .none) .none) oper0 (by kernel_rfl) (by kernel_rfl) (laterF_in (Only.refl _ _).drew) ?_
    simp only [wpPlan, List.map_cons, List.map_nil, List.getD_cons_zero, List.getD_cons_succ, List.drop_succ_cons, List.drop_zero]
    repeat (first | go_big_quiet_skip | (go_big_quiet_want; go_big_quiet_op; go_big_quiet_on))
    refine wpQuiet_nil ?_
    refine ⟨?_, trivial⟩
    go_wp2_with (at_builtin; refine wpList_append_row _ rfl _ _ 28 rfl w1.heap.size 27 i1 _ 1 8 Try.underlying28 II1.out IZ10.out IZ11.out IZ12.out rfl (.slice none 0 0) 0 [] rfl (World.RowV_none _ _ _ _ _) _ l.length (u64s l) rfl (HS.out.only HW1.out).drew SO1.out SL1.out SB1.out (Nat.le_refl _) ?_; intro v2 w2 hown hout; obtain ⟨o7, c7, rfl, _, _⟩ := hown.form; simp only [Nat.zero_add, List.nil_append] at hown; have HR7 := Lib.hid hown; have HO2 := Lib.hid (show Only (fun _ => False) w1 w2 from (Only.refl _ _).drew.trans (Only.out (F := fun _ => False) hout (by simp [Value.rowBlock])) (fun _ x => x.elim)); clear hown hout)
    refine strict_on ?_
    refine ⟨?_, ?_⟩
    · exact laterF_in HO2.out
    repeat (first | go_big_quiet_skip | (go_big_quiet_want; go_big_quiet_op; go_big_quiet_on))
    refine wpQuiet_nil ?_
    try with_reducible refine ⟨?_, trivial⟩
    go_wp2_with (go_at_call 16; refine (own_at _).mono ?_; rintro e w3 ⟨kb, tb2, tb, rfl, hk, ho⟩; have HK := Lib.hid hk; have HO3a := Lib.hid ho; have HO3 := Lib.hid (HO2.out.trans ho (fun _ x => x.elim)); clear hk ho)
    refine strict_on ?_
    refine ⟨?_, ?_⟩
    · exact laterF_in HO3.out
    repeat (first | go_big_quiet_skip | (go_big_quiet_want; go_big_quiet_op; go_big_quiet_on))
    refine wpQuiet_nil ?_
    try with_reducible refine ⟨?_, trivial⟩
    go_wp2_with (go_at_call 15; refine (newm_bad _ _ _ HB.out).mono ?_; rintro e w4 ⟨rfl, rfl⟩)
    refine strict_on ?_
    refine ⟨?_, ?_⟩
    · exact laterF_in HO3.out
    repeat (first | go_big_quiet_skip | (go_big_quiet_want; go_big_quiet_op; go_big_quiet_on))
    refine wpQuiet_nil ?_
    have s0 := (HO3.out.cellAt (p := ⟨sb, 0, none⟩) hl1 (fun x => x)).trans s0
    have hl3 := Nat.lt_of_lt_of_le hl1 HO3.out.size
    have HOF := Lib.hid (HW1.out.trans HO3.out (fun _ x => x.elim))
    clear q0 q1 q2
    by_cases hb1 : th < 1
    · have t1 : decide (th < 1) = true := by simpa using hb1
      clear hbad hb1
      go_wp2
      go_ret
      exact ⟨rfl, Only.below (HOF.out) (fun _ h => h.elim) (Nat.le_refl _)⟩
    · have t1 : decide (th < 1) = false := by simpa using hb1
      have t2 : decide (16 < th) = true := by simp; omega
      clear hbad hb1
      go_wp2
      go_ret
      exact ⟨rfl, Only.below (HOF.out) (fun _ h => h.elim) (Nat.le_refl _)⟩
  have h1 : 1 ≤ th := by omega
  have h16 : th ≤ 16 := by omega
  have t1 : decide (th < 1) = false := by simp; omega
  have t2 : decide (16 < th) = false := by simp; omega
  clear hbad
  by_cases hl8 : 8192 < l.length
  · skip
    refine wp_region_plan (fun wz => ∃ q : LaterF (fun _ => False) w1, wz = q.W) [4, 8, 9] [0, 1, 2, 3, 5, 6, 7] (.fork 4 [] (.fork 8 [] (.fork 9 [10, 11, 12, 13] (.tail 14) .none) .none) .none) oper0 (by kernel_rfl) (by kernel_rfl) (laterF_in (Only.refl _ _).drew) ?_
    simp only [wpPlan, List.map_cons, List.map_nil, List.getD_cons_zero, List.getD_cons_succ, List.drop_succ_cons, List.drop_zero]
    repeat (first | go_big_quiet_skip | (go_big_quiet_want; go_big_quiet_op; go_big_quiet_on))
    refine wpQuiet_nil ?_
    refine ⟨?_, trivial⟩
    go_wp2_with (at_builtin; refine wpList_append_row _ rfl _ _ 28 rfl w1.heap.size 27 i1 _ 1 8 Try.underlying28 II1.out IZ10.out IZ11.out IZ12.out rfl (.slice none 0 0) 0 [] rfl (World.RowV_none _ _ _ _ _) _ l.length (u64s l) rfl (HS.out.only HW1.out).drew SO1.out SL1.out SB1.out (Nat.le_refl _) ?_; intro v2 w2 hown hout; obtain ⟨o7, c7, rfl, _, _⟩ := hown.form; simp only [Nat.zero_add, List.nil_append] at hown; have HR7 := Lib.hid hown; have HO2 := Lib.hid (show Only (fun _ => False) w1 w2 from (Only.refl _ _).drew.trans (Only.out (F := fun _ => False) hout (by simp [Value.rowBlock])) (fun _ x => x.elim)); clear hown hout)
    refine strict_on ?_
    refine ⟨?_, ?_⟩
    · exact laterF_in HO2.out
    repeat (first | go_big_quiet_skip | (go_big_quiet_want; go_big_quiet_op; go_big_quiet_on))
    refine wpQuiet_nil ?_
    try with_reducible refine ⟨?_, trivial⟩
    go_wp2_with (go_at_call 16; refine (own_at _).mono ?_; rintro e w3 ⟨kb, tb2, tb, rfl, hk, ho⟩; have HK := Lib.hid hk; have HO3a := Lib.hid ho; have HO3 := Lib.hid (HO2.out.trans ho (fun _ x => x.elim)); clear hk ho)
    refine strict_on ?_
    refine ⟨?_, ?_⟩
    · exact laterF_in HO3.out
    repeat (first | go_big_quiet_skip | (go_big_quiet_want; go_big_quiet_op; go_big_quiet_on))
    refine wpQuiet_nil ?_
    try with_reducible refine ⟨?_, trivial⟩
    go_wp2_with (go_at_call 15; refine (newm_long th o7 l.length c7 _ h1 h16 hl8 (by omega)).mono ?_; rintro e w4 ⟨rfl, rfl⟩)
    refine strict_on ?_
    refine ⟨?_, ?_⟩
    · exact laterF_in HO3.out
    repeat (first | go_big_quiet_skip | (go_big_quiet_want; go_big_quiet_op; go_big_quiet_on))
    refine wpQuiet_nil ?_
    have s0 := (HO3.out.cellAt (p := ⟨sb, 0, none⟩) hl1 (fun x => x)).trans s0
    have s1 := (HO3.out.cellAt (p := ⟨sb, 1, none⟩) hl1 (fun x => x)).trans s1
    have hl3 := Nat.lt_of_lt_of_le hl1 HO3.out.size
    have HOF := Lib.hid (HW1.out.trans HO3.out (fun _ x => x.elim))
    have t3 : decide ((8192 : Int) < (l.length : Int)) = true := by simp; omega
    clear q0 q1 q2
    go_wp2
    go_ret
    exact ⟨rfl, Only.below (HOF.out) (fun _ h => h.elim) (Nat.le_refl _)⟩
  replace hl8 : l.length ≤ 8192 := by omega
  have t3 : decide ((8192 : Int) < (l.length : Int)) = false := by simp; omega
  obtain ⟨n, rfl⟩ : ∃ n : Nat, th = (n : Int) := ⟨th.toNat, by omega⟩
  replace h1 : 1 ≤ n := by omega
  replace h16 : n ≤ 16 := by omega
  refine wp_region_plan (fun wz => ∃ q : LaterF (fun _ => False) w1, wz = q.W) [4, 8, 9] [0, 1, 2, 3, 5, 6, 7] (.fork 4 [] (.fork 8 [] (.fork 9 [10, 11, 12, 13] (.tail 14) .none) .none) .none) oper0 (by kernel_rfl) (by kernel_rfl) (laterF_in (Only.refl _ _).drew) ?_
  simp only [wpPlan, List.map_cons, List.map_nil, List.getD_cons_zero, List.getD_cons_succ, List.drop_succ_cons, List.drop_zero]
  repeat (first | go_big_quiet_skip | (go_big_quiet_want; go_big_quiet_op; go_big_quiet_on))
  refine wpQuiet_nil ?_
  refine ⟨?_, trivial⟩
  go_wp2_with (at_builtin; refine wpList_append_row _ rfl _ _ 28 rfl w1.heap.size 27 i1 _ 1 8 Try.underlying28 II1.out IZ10.out IZ11.out IZ12.out rfl (.slice none 0 0) 0 [] rfl (World.RowV_none _ _ _ _ _) _ l.length (u64s l) rfl (HS.out.only HW1.out).drew SO1.out SL1.out SB1.out (Nat.le_refl _) ?_; intro v2 w2 hown hout; obtain ⟨o7, c7, rfl, _, _⟩ := hown.form; simp only [Nat.zero_add, List.nil_append] at hown; have HR7 := Lib.hid hown; have HO2 := Lib.hid (show Only (fun _ => False) w1 w2 from (Only.refl _ _).drew.trans (Only.out (F := fun _ => False) hout (by simp [Value.rowBlock])) (fun _ x => x.elim)); clear hown hout)
  refine strict_on ?_
  refine ⟨?_, ?_⟩
  · exact laterF_in HO2.out
  repeat (first | go_big_quiet_skip | (go_big_quiet_want; go_big_quiet_op; go_big_quiet_on))
  refine wpQuiet_nil ?_
  try with_reducible refine ⟨?_, trivial⟩
  go_wp2_with (go_at_call 16; refine (own_at _).mono ?_; rintro e w3 ⟨kb, tb2, tb, rfl, hk, ho⟩; have HK := Lib.hid hk; have HO3a := Lib.hid ho; have HO3 := Lib.hid (HO2.out.trans ho (fun _ x => x.elim)); clear hk ho)
  refine strict_on ?_
  refine ⟨?_, ?_⟩
  · exact laterF_in HO3.out
  repeat (first | go_big_quiet_skip | (go_big_quiet_want; go_big_quiet_op; go_big_quiet_on))
  refine wpQuiet_nil ?_
  try with_reducible refine ⟨?_, trivial⟩
  go_wp2_with (go_at_call 15; refine (newm_ok (w := w3) (km := some kb) n (HR7.out.src.only HO3a.out) hl8 h1 h16).mono ?_; rintro e w4 ⟨xb, rfl, hna⟩; obtain ⟨Fn, hpm, hon⟩ := newAt_pm HK.out HO3a.out hna; have HO4 := Lib.hid (HO2.out.trans hon (fun _ x => x.elim)); have HC4 : Hid (Crew (base := w2.heap.size) [Thing.pm (ownK_ok _) xb (.map (some kb)) (PM.init (ownK l.length) l n ())] w4) := Lib.hid ((Crew.none w2).add hon hpm (fun k hk => (PMAt.lt (ownK_ok _) hpm k hk).1)); have HO24 := Lib.hid hon; clear hna hpm hon)
  refine strict_on ?_
  refine ⟨?_, ?_⟩
  · exact laterF_in HO4.out
  repeat (first | go_big_quiet_skip | (go_big_quiet_want; go_big_quiet_op; go_big_quiet_on))
  refine wpQuiet_nil ?_
  clear q0 q1 q2
  go_upto_region 4 with (fail)
  refine gen_world ?_
  intro W4 hW4
  have z0 := (HO2.out.cellAt (p := ⟨sb, 0, none⟩) hl1 (fun x => x)).trans s0
  have z1 := (HO2.out.cellAt (p := ⟨sb, 1, none⟩) hl1 (fun x => x)).trans s1
  have z2 := (HO2.out.cellAt (p := ⟨sb, 2, none⟩) hl1 (fun x => x)).trans s2
  have HZ0 := Lib.hid z0
  have HZ1 := Lib.hid z1
  have HZ2 := Lib.hid z2
  have HZL := Lib.hid (Nat.lt_of_lt_of_le hl1 HO2.out.size)
  clear z0 z1 z2
  have o44 : Only (fun _ => False) w4 W4 := by rw [hW4]; repeat (first | exact Only.refl _ _ | apply Only.alloc | apply Only.drew | apply Only.more)
  have HC44 := Lib.hid (HC4.out.only o44)
  have HOX := Lib.hid (HO24.out.trans o44 (fun _ x => x.elim))
  have o14 := HO4.out.trans o44 (fun _ x => x.elim)
  have s0 := (o14.cellAt (p := ⟨sb, 0, none⟩) hl1 (fun x => x)).trans s0
  have s1 := (o14.cellAt (p := ⟨sb, 1, none⟩) hl1 (fun x => x)).trans s1
  have s2 := (o14.cellAt (p := ⟨sb, 2, none⟩) hl1 (fun x => x)).trans s2
  have hl4 := Nat.lt_of_lt_of_le hl1 o14.size
  have HOW2 := Lib.hid (HW1.out.trans HO2.out (fun _ x => x.elim))
  have HOW4 := Lib.hid (HW1.out.trans o14 (fun _ x => x.elim))
  have hb2 := HOX.out.size
  clear hW4 o44 HC4 HO24 HO4 o14 HW0 HW1 HO2 HO3a HO3 HK HR7 II1 IZ10 IZ11 IZ12 SO1 SL1 SB1
  go_upto_region 12 with (first
    | (go_at_call 33; refine (rOwn_left _).mono ?_; rintro e w5 ⟨rfl, hO⟩; have HOL := Lib.hid hO; have s0 := (hO.on.cellAt (p := ⟨sb, 0, none⟩) hl4 (fun x => x)).trans s0; have s1 := (hO.on.cellAt (p := ⟨sb, 1, none⟩) hl4 (fun x => x)).trans s1; have s2 := (hO.on.cellAt (p := ⟨sb, 2, none⟩) hl4 (fun x => x)).trans s2; have hl5 := Nat.lt_of_lt_of_le hl4 hO.on.size; clear hO)
    | (go_at_call 34; refine (rNew_any (w0 := W4) (w := w5) n ((HS.out.only HOW4.out).only HOL.out.on) hl8 HOL.out.hc HOL.out.he HOL.out.ne h1 h16 HOL.out.on.size).mono ?_; rintro e w6 ⟨mb, rfl, v6, hV⟩; have HV := Lib.hid hV; have s0 := (hV.only.cellAt (p := ⟨sb, 0, none⟩) hl5 (fun x => x)).trans s0; have s1 := (hV.only.cellAt (p := ⟨sb, 1, none⟩) hl5 (fun x => x)).trans s1; have s2 := (hV.only.cellAt (p := ⟨sb, 2, none⟩) hl5 (fun x => x)).trans s2; have hl6 := Nat.lt_of_lt_of_le hl5 hV.only.size; clear hV))
  have HO46 : Hid (Only (fun _ => False) W4 w6) := Lib.hid (HOL.out.on.trans HV.out.only (fun _ x => x.elim))
  have HM6 : Hid (MvSt w2 l n xb (.map (some kb)) mb [] w6) := Lib.hid ⟨HC44.out.add HO46.out ⟨W4.heap.size, _, v6, hb2, HV.out.at', orel_new l n, rfl⟩ (fun k hk => (HV.out.at'.lt k hk).1), HOX.out.trans HO46.out (fun _ x => x.elim)⟩
  have HS2 := Lib.hid (HS.out.only HOW2.out)
  have HMI := Lib.hid (HM.out.only HOW2.out)
  have HA2 := Lib.hid (HOX.out.trans HO46.out (fun _ x => x.elim))
  clear HC44 HOL HV HOX HS HM HOW4 HO46
  obtain ⟨_, _, em, hm1, hm2, hm3⟩ := HMI.out
  cases em
  have HM3 := Lib.hid hm3
  unfold maxLen at hm2
  clear hm3 HMI
  have d0 : (((0 : Nat) : Int) : Int) = 0 := rfl
  go_wp2
  clear s0 s1 s2
  go_loopg [81] ms.length (fun g sl wr => ∃ k : Nat, k ≤ ms.length ∧ ms.length ≤ k + g ∧ sl = .int .i64 (k : Int) ∧ Hid (MvSt w2 l n xb (.map (some kb)) mb (ms.take k) wr))
  case atStart => exact ⟨0, by omega, by omega, by go_num, HM6⟩
  case round =>
    obtain ⟨k, hk1, hk2, rfl, hI⟩ := hrel
    have hw := hI.out.2
    have s0 := (hw.cellAt (p := ⟨sb, 0, none⟩) HZL.out (fun x => x)).trans HZ0.out
    have s1 := (hw.cellAt (p := ⟨sb, 1, none⟩) HZL.out (fun x => x)).trans HZ1.out
    have s2 := (hw.cellAt (p := ⟨sb, 2, none⟩) HZL.out (fun x => x)).trans HZ2.out
    have hlr := Nat.lt_of_lt_of_le HZL.out hw.size
    by_cases hlt : k < ms.length
    · obtain ⟨b, off, rfl, hb, m0, m1, m2, m3⟩ := HM3.out k hlt
      replace m0 := (hw.cellAt (p := ⟨b, off + k * 4 + 0, none⟩) hb (fun x => x)).trans m0
      replace m1 := (hw.cellAt (p := ⟨b, off + k * 4 + 1, none⟩) hb (fun x => x)).trans m1
      replace m2 := (hw.cellAt (p := ⟨b, off + k * 4 + 2, none⟩) hb (fun x => x)).trans m2
      replace m3 := (hw.cellAt (p := ⟨b, off + k * 4 + 3, none⟩) hb (fun x => x)).trans m3
      simp only [Nat.add_zero] at m0
      have hbr : b < wr.heap.size := Nat.lt_of_lt_of_le hb hw.size
      have HT := Lib.hid (take_next ms k hlt)
      have hdk : decide ((k : Int) < (ms.length : Int)) = true := by simp; omega
      have hwb := hw.size
      generalize ms[k] = mv at m0 m1 m2 m3 HT
      obtain ⟨mth, mop, marg, mdata⟩ := mv
      simp only at m0 m1 m2 m3
      clear hw
      go_upto_region 15 with (fail)
      refine gen_world ?_
      intro W7 hW7
      have HC7 : Hid (Crew (base := w2.heap.size) [Thing.pm (ownK_ok _) xb (.map (some kb)) ((PM.init (ownK l.length) l n ()).goes (ms.take k)), Thing.rm w2.heap.size mb (osOf l n (ms.take k)), Thing.box w2.heap.size wr.heap.size (.cells #[.int .i64 mth, .int .i64 mop, .int .i64 marg, .int .i64 mdata] 34 (0, 0))] W7) := Lib.hid (by rw [hW7]; exact hI.out.1.add ((Only.refl _ wr).alloc _) ⟨hwb, heap_alloc_new wr _, rfl⟩ (fun k hk => Nat.le_of_eq hk.symm))
      have HO7 : Hid (Only (fun _ => False) wr W7) := Lib.hid (by rw [hW7]; exact (Only.refl _ wr).alloc _)
      have hbi : W7.heap[wr.heap.size]? = some (.cells #[.int .i64 mth, .int .i64 mop, .int .i64 marg, .int .i64 mdata] 34 (0, 0)) := by rw [hW7]; exact heap_alloc_new wr _
      have HW2R := Lib.hid hI.out.2
      clear hW7 m0 m1 m2 m3 hI hbr
      generalize hbe : wr.heap.size = bi at HC7 hbi ⊢
      have n0 : W7.cell? ⟨bi, 0, none⟩ = some (.int .i64 mth) := by simp [World.cell?, hbi]
      have n1 : W7.cell? ⟨bi, 1, none⟩ = some (.int .i64 mop) := by simp [World.cell?, hbi]
      have n2 : W7.cell? ⟨bi, 2, none⟩ = some (.int .i64 marg) := by simp [World.cell?, hbi]
      have n3 : W7.cell? ⟨bi, 3, none⟩ = some (.int .i64 mdata) := by simp [World.cell?, hbi]
      have lbi := (Array.getElem?_eq_some_iff.1 hbi).1
      have r0 := fun q : LaterF (fun k => w2.heap.size ≤ k ∧ k ≠ bi) W7 => q.cell n0 lbi (fun h => h.2 rfl)
      have r1 := fun q : LaterF (fun k => w2.heap.size ≤ k ∧ k ≠ bi) W7 => q.cell n1 lbi (fun h => h.2 rfl)
      have r2 := fun q : LaterF (fun k => w2.heap.size ≤ k ∧ k ≠ bi) W7 => q.cell n2 lbi (fun h => h.2 rfl)
      have r3 := fun q : LaterF (fun k => w2.heap.size ≤ k ∧ k ≠ bi) W7 => q.cell n3 lbi (fun h => h.2 rfl)
      obtain ⟨D, hD⟩ : ∃ D, D = ((osOf l n (ms.take k)).move l.length ⟨mth, mop, marg, mdata⟩).2 := ⟨_, rfl⟩
      have HD1 := Lib.hid ((own_did l n (ms.take k) ⟨mth, mop, marg, mdata⟩).trans hD.symm)
      have HD2 := Lib.hid hD.symm
      obtain ⟨M, hM⟩ : ∃ M : Nat, M = (osOf l n (ms.take (k + 1))).moves := ⟨_, rfl⟩
      have HM1 : Hid ((((PM.init (ownK l.length) l n ()).goes (ms.take k)).move ⟨mth, mop, marg, mdata⟩).1.moves = M) := Lib.hid (by rw [hM, HT.out, ← own_moves, PM.goes_snoc])
      have HM2 : Hid ((osOf l n (ms.take k ++ [⟨mth, mop, marg, mdata⟩])).moves = M) := Lib.hid (by rw [hM, HT.out])
      have hdd : (D != D) = false := by simp
      have hmm : ((M : Int) != (M : Int)) = false := by simp
      clear hD hM hbi
      refine wp_region_plan (fun wz => ∃ q : LaterF (fun k => w2.heap.size ≤ k ∧ k ≠ bi) W7, wz = q.W) [2, 5, 9, 13] [0, 1, 3, 4] (.fork 2 [] (.fork 5 [6, 7, 8, 10, 11, 12] (.fork 9 [] (.fork 13 [] (.tail 14) .none) (.fork 13 [] (.fork 9 [] (.tail 14) .none) .none)) .none) .none) oper0 (by kernel_rfl) (by kernel_rfl) (laterF_in (Only.refl _ _).drew) ?_
      simp only [wpPlan, List.map_cons, List.map_nil, List.getD_cons_zero, List.getD_cons_succ, List.drop_succ_cons, List.drop_zero]
      repeat (first | go_big_quiet_skip | (go_big_quiet_want; go_big_quiet_op; go_big_quiet_on))
      refine wpQuiet_nil ?_
      refine ⟨?_, trivial⟩
      go_wp2_with (go_at_call 17; refine (crew_move (i := 0) (ownK_ok _) (HC7.out.only (Only.refl _ _).drew) rfl (own_good l n _ h1 h16) ⟨mth, mop, marg, mdata⟩).mono ?_; rintro e w8 ⟨rfl, hc8, F8, o8, f8, g8⟩; rw [HD1.out]; have HC8 := Lib.hid hc8; have HO8 : Hid (Only (fun k => w2.heap.size ≤ k ∧ k ≠ bi) W7 w8) := Lib.hid (((Only.refl _ _).drew).trans (o8.mono (G := fun k => w2.heap.size ≤ k ∧ k ≠ bi) (fun k _ hk => ⟨(f8 k hk).1, fun e => g8 2 bi _ (by omega) rfl (e ▸ hk)⟩)) (fun k hk => .inl hk)); clear hc8 o8 f8 g8)
      refine strict_on ?_
      refine ⟨?_, ?_⟩
      · exact laterF_in HO8.out
      repeat (first | go_big_quiet_skip | (go_big_quiet_want; go_big_quiet_op; go_big_quiet_on))
      refine wpQuiet_nil ?_
      try with_reducible refine ⟨?_, trivial⟩
      go_wp2_with (go_at_call 35; refine (crew_rmove (i := 1) HC8.out rfl hl8 ⟨mth, mop, marg, mdata⟩).mono ?_; rintro e w9 ⟨rfl, hc9, F9, o9, f9, g9⟩; rw [HD2.out]; have HC9 := Lib.hid hc9; have HO9 : Hid (Only (fun k => w2.heap.size ≤ k ∧ k ≠ bi) W7 w9) := Lib.hid (HO8.out.trans (o9.mono (G := fun k => w2.heap.size ≤ k ∧ k ≠ bi) (fun k _ hk => ⟨(f9 k hk).1, fun e => g9 2 bi _ (by omega) rfl (e ▸ hk)⟩)) (fun k hk => .inl hk)); clear hc9 o9 f9 g9)
      refine strict_on ?_
      refine ⟨?_, ?_⟩
      · exact laterF_in HO9.out
      repeat (first | go_big_quiet_skip | (go_big_quiet_want; go_big_quiet_op; go_big_quiet_on))
      refine wpQuiet_nil ?_
      obtain ⟨c23, lmb⟩ : w9.cell? ⟨mb, 23, none⟩ = some (.int .i64 (M : Int)) ∧ mb < w9.heap.size := by
        obtain ⟨F, b, m, v, g0, g1, g2, _⟩ := HC9.out.get (i := 1) rfl
        refine ⟨?_, (g1.lt mb (.inl rfl)).2⟩
        rw [g1.b23, g2.moves, HM2.out]
      refine ⟨?_, ?_, trivial⟩
      · skip
        go_wp2_with (go_at_call 18; obtain ⟨Fq, hq⟩ := HC9.out.get (i := 0) rfl; refine (moves_any hq).mono ?_; rintro e w10 ⟨rfl, hb10⟩; rw [HM1.out]; obtain ⟨os10, d10, rfl⟩ := hb10.more; clear hb10 hq)
        refine strict_on ?_
        refine ⟨?_, ?_⟩
        · exact laterF_in (HO9.out.more _ _)
        repeat (first | go_big_quiet_skip | (go_big_quiet_want; go_big_quiet_op; go_big_quiet_on))
        refine wpQuiet_nil ?_
        try with_reducible refine ⟨?_, trivial⟩
        go_wp2_with fail
        refine strict_on ?_
        refine ⟨?_, ?_⟩
        · exact laterF_in (HO9.out.more _ _)
        repeat (first | go_big_quiet_skip | (go_big_quiet_want; go_big_quiet_op; go_big_quiet_on))
        refine wpQuiet_nil ?_
        go_upto_region 17 with (fail)
        refine gen_world ?_
        intro W10 hW10
        have HI1 : Hid (MvSt w2 l n xb (.map (some kb)) mb (ms.take (k + 1)) W10) := Lib.hid (by
          have hc := HC9.out.only (show Only (fun _ => False) w9 W10 by rw [hW10]; exact (Only.refl _ _).more _ _)
          have hg : ((PM.init (ownK l.length) l n ()).goes (ms.take (k + 1))) = (((PM.init (ownK l.length) l n ()).goes (ms.take k)).move ⟨mth, mop, marg, mdata⟩).1 := by rw [HT.out, PM.goes_snoc]
          refine ⟨?_, ((HW2R.out.trans HO7.out (fun _ x => x.elim)).trans HO9.out (fun _ hk => .inr hk.1)).trans (show Only (fun _ => False) w9 W10 by rw [hW10]; exact (Only.refl _ _).more _ _) (fun _ x => x.elim)⟩
          rw [hg, HT.out]
          exact Crew.init (us := [_]) hc)
        have hw10 := HI1.out.2
        have s0 := (hw10.cellAt (p := ⟨sb, 0, none⟩) HZL.out (fun x => x)).trans HZ0.out
        have s1 := (hw10.cellAt (p := ⟨sb, 1, none⟩) HZL.out (fun x => x)).trans HZ1.out
        have s2 := (hw10.cellAt (p := ⟨sb, 2, none⟩) HZL.out (fun x => x)).trans HZ2.out
        have hl10 := Nat.lt_of_lt_of_le HZL.out hw10.size
        clear hW10 hw10 HC9 HO9 HC8 HO8 HC7 HO7 r0 r1 r2 r3 n0 n1 n2 n3 lbi c23 lmb HD1 HD2 HM1 HM2 HW2R
        clear w9 w8
        by_cases hm8 : (k : Int) % 8 = 0
        · have f1 : ((k : Int) % 8 != 0) = false := by simpa using hm8
          clear hm8
          go_wp2
          go_loopg [12] (n + 2) (fun g sl wx => ∃ j : Nat, j ≤ n + 2 ∧ n + 2 ≤ j + g ∧ sl = .int .i64 ((j : Int) - 1) ∧ Hid (Only (fun _ => False) W10 wx))
          case atStart => exact ⟨0, by omega, by omega, by go_num, Lib.hid (Only.refl _ _)⟩
          case round =>
            obtain ⟨j, hj1, hj2, rfl, hO⟩ := hrel
            have HI2 := Lib.hid (HI1.out.keep hO.out)
            have s0 := (hO.out.cellAt (p := ⟨sb, 0, none⟩) hl10 (fun x => x)).trans s0
            have hlw := Nat.lt_of_lt_of_le hl10 hO.out.size
            by_cases hjn : j < n + 2
            · have f3 : decide ((j : Int) - 1 ≤ (n : Int)) = true := by simp; omega
              obtain ⟨cc, lc, kn, bb, hA⟩ := HI2.out.asks h1 h16 ((j : Int) - 1)
              have HA := Lib.hid hA
              have HOO := Lib.hid hO.out
              have hbb : (bb != bb) = false := by simp
              cases kn with
              | true =>
                obtain rfl := hA.same rfl
                have f4 := hA.beg
                obtain ⟨y0, y1, y2, y3, y4, y5, y6, y7, y8⟩ := cc
                simp only at f4
                clear hA
                go_wp2_with (first
                  | (go_at_call 37; refine (HA.out.call _ (by repeat (first | exact Only.refl _ _ | apply Only.alloc | apply Only.more | apply Only.drew))).mono ?_; rintro e wA ⟨rfl, hbA⟩; (unfold Cal.v); obtain ⟨osA, dA, rfl⟩ := hbA.more; clear hbA)
                  | (go_at_call 38; refine (HA.out.last _ (by repeat (first | exact Only.refl _ _ | apply Only.alloc | apply Only.more | apply Only.drew))).mono ?_; rintro e wB ⟨rfl, hbB⟩; (unfold Cal.v); obtain ⟨osB, dB, rfl⟩ := hbB.more; clear hbB)
                  | (go_at_call 39; refine (HA.out.busy _ (by repeat (first | exact Only.refl _ _ | apply Only.alloc | apply Only.more | apply Only.drew))).mono ?_; rintro e wC ⟨rfl, hbC⟩; obtain ⟨osC, dC, rfl⟩ := hbC.more; clear hbC))
                go_roundg (n + 2 - (j + 1))
                case measure => omega
                case rel => exact ⟨j + 1, by omega, by omega, by go_num, Lib.hid (by repeat (first | exact HOO.out | apply Only.alloc | apply Only.more | apply Only.drew))⟩
              | false =>
                obtain rfl := hA.zero rfl
                have f4 := hA.beg
                obtain ⟨y0, y1, y2, y3, y4, y5, y6, y7, y8⟩ := lc
                simp only at f4
                clear hA
                go_wp2_with (first
                  | (go_at_call 37; refine (HA.out.call _ (by repeat (first | exact Only.refl _ _ | apply Only.alloc | apply Only.more | apply Only.drew))).mono ?_; rintro e wA ⟨rfl, hbA⟩; (unfold Cal.v Cal.zero); obtain ⟨osA, dA, rfl⟩ := hbA.more; clear hbA)
                  | (go_at_call 38; refine (HA.out.last _ (by repeat (first | exact Only.refl _ _ | apply Only.alloc | apply Only.more | apply Only.drew))).mono ?_; rintro e wB ⟨rfl, hbB⟩; (unfold Cal.v); obtain ⟨osB, dB, rfl⟩ := hbB.more; clear hbB)
                  | (go_at_call 39; refine (HA.out.busy _ (by repeat (first | exact Only.refl _ _ | apply Only.alloc | apply Only.more | apply Only.drew))).mono ?_; rintro e wC ⟨rfl, hbC⟩; obtain ⟨osC, dC, rfl⟩ := hbC.more; clear hbC))
                go_roundg (n + 2 - (j + 1))
                case measure => omega
                case rel => exact ⟨j + 1, by omega, by omega, by go_num, Lib.hid (by repeat (first | exact HOO.out | apply Only.alloc | apply Only.more | apply Only.drew))⟩
            · obtain rfl : j = n + 2 := by omega
              have f3 : decide (((n + 2 : Nat) : Int) - 1 ≤ (n : Int)) = false := by simp; omega
              go_wp2
              go_roundg (ms.length - (k + 1))
              case measure => omega
              case rel => exact ⟨k + 1, by omega, by omega, by go_num, HI2⟩
        · have f1 : ((k : Int) % 8 != 0) = true := by simpa using hm8
          by_cases hlast : k + 1 < ms.length
          · have f2 : decide ((k : Int) < (ms.length : Int) - 1) = true := by simp; omega
            clear hm8 hlast
            go_wp2
            go_roundg (ms.length - (k + 1))
            case measure => omega
            case rel => exact ⟨k + 1, by omega, by omega, by go_num, HI1⟩
          · have f2 : decide ((k : Int) < (ms.length : Int) - 1) = false := by simp; omega
            clear hm8
            go_wp2
            go_loopg [12] (n + 2) (fun g sl wx => ∃ j : Nat, j ≤ n + 2 ∧ n + 2 ≤ j + g ∧ sl = .int .i64 ((j : Int) - 1) ∧ Hid (Only (fun _ => False) W10 wx))
            case atStart => exact ⟨0, by omega, by omega, by go_num, Lib.hid (Only.refl _ _)⟩
            case round =>
              obtain ⟨j, hj1, hj2, rfl, hO⟩ := hrel
              have HI2 := Lib.hid (HI1.out.keep hO.out)
              have s0 := (hO.out.cellAt (p := ⟨sb, 0, none⟩) hl10 (fun x => x)).trans s0
              have hlw := Nat.lt_of_lt_of_le hl10 hO.out.size
              by_cases hjn : j < n + 2
              · have f3 : decide ((j : Int) - 1 ≤ (n : Int)) = true := by simp; omega
                obtain ⟨cc, lc, kn, bb, hA⟩ := HI2.out.asks h1 h16 ((j : Int) - 1)
                have HA := Lib.hid hA
                have HOO := Lib.hid hO.out
                have hbb : (bb != bb) = false := by simp
                cases kn with
                | true =>
                  obtain rfl := hA.same rfl
                  have f4 := hA.beg
                  obtain ⟨y0, y1, y2, y3, y4, y5, y6, y7, y8⟩ := cc
                  simp only at f4
                  clear hA
                  go_wp2_with (first
                    | (go_at_call 37; refine (HA.out.call _ (by repeat (first | exact Only.refl _ _ | apply Only.alloc | apply Only.more | apply Only.drew))).mono ?_; rintro e wA ⟨rfl, hbA⟩; (unfold Cal.v); obtain ⟨osA, dA, rfl⟩ := hbA.more; clear hbA)
                    | (go_at_call 38; refine (HA.out.last _ (by repeat (first | exact Only.refl _ _ | apply Only.alloc | apply Only.more | apply Only.drew))).mono ?_; rintro e wB ⟨rfl, hbB⟩; (unfold Cal.v); obtain ⟨osB, dB, rfl⟩ := hbB.more; clear hbB)
                    | (go_at_call 39; refine (HA.out.busy _ (by repeat (first | exact Only.refl _ _ | apply Only.alloc | apply Only.more | apply Only.drew))).mono ?_; rintro e wC ⟨rfl, hbC⟩; obtain ⟨osC, dC, rfl⟩ := hbC.more; clear hbC))
                  go_roundg (n + 2 - (j + 1))
                  case measure => omega
                  case rel => exact ⟨j + 1, by omega, by omega, by go_num, Lib.hid (by repeat (first | exact HOO.out | apply Only.alloc | apply Only.more | apply Only.drew))⟩
                | false =>
                  obtain rfl := hA.zero rfl
                  have f4 := hA.beg
                  obtain ⟨y0, y1, y2, y3, y4, y5, y6, y7, y8⟩ := lc
                  simp only at f4
                  clear hA
                  go_wp2_with (first
                    | (go_at_call 37; refine (HA.out.call _ (by repeat (first | exact Only.refl _ _ | apply Only.alloc | apply Only.more | apply Only.drew))).mono ?_; rintro e wA ⟨rfl, hbA⟩; (unfold Cal.v Cal.zero); obtain ⟨osA, dA, rfl⟩ := hbA.more; clear hbA)
                    | (go_at_call 38; refine (HA.out.last _ (by repeat (first | exact Only.refl _ _ | apply Only.alloc | apply Only.more | apply Only.drew))).mono ?_; rintro e wB ⟨rfl, hbB⟩; (unfold Cal.v); obtain ⟨osB, dB, rfl⟩ := hbB.more; clear hbB)
                    | (go_at_call 39; refine (HA.out.busy _ (by repeat (first | exact Only.refl _ _ | apply Only.alloc | apply Only.more | apply Only.drew))).mono ?_; rintro e wC ⟨rfl, hbC⟩; obtain ⟨osC, dC, rfl⟩ := hbC.more; clear hbC))
                  go_roundg (n + 2 - (j + 1))
                  case measure => omega
                  case rel => exact ⟨j + 1, by omega, by omega, by go_num, Lib.hid (by repeat (first | exact HOO.out | apply Only.alloc | apply Only.more | apply Only.drew))⟩
              · obtain rfl : j = n + 2 := by omega
                have f3 : decide (((n + 2 : Nat) : Int) - 1 ≤ (n : Int)) = false := by simp; omega
                go_wp2
                go_roundg (ms.length - (k + 1))
                case measure => omega
                case rel => exact ⟨k + 1, by omega, by omega, by go_num, HI2⟩
      · skip
        go_wp2_with fail
        refine strict_on ?_
        refine ⟨?_, ?_⟩
        · exact laterF_in HO9.out
        repeat (first | go_big_quiet_skip | (go_big_quiet_want; go_big_quiet_op; go_big_quiet_on))
        refine wpQuiet_nil ?_
        try with_reducible refine ⟨?_, trivial⟩
        go_wp2_with (go_at_call 18; obtain ⟨Fq, hq⟩ := HC9.out.get (i := 0) rfl; refine (moves_any hq).mono ?_; rintro e w10 ⟨rfl, hb10⟩; rw [HM1.out]; obtain ⟨os10, d10, rfl⟩ := hb10.more; clear hb10 hq)
        refine strict_on ?_
        refine ⟨?_, ?_⟩
        · exact laterF_in (HO9.out.more _ _)
        repeat (first | go_big_quiet_skip | (go_big_quiet_want; go_big_quiet_op; go_big_quiet_on))
        refine wpQuiet_nil ?_
        go_upto_region 17 with (fail)
        refine gen_world ?_
        intro W10 hW10
        have HI1 : Hid (MvSt w2 l n xb (.map (some kb)) mb (ms.take (k + 1)) W10) := Lib.hid (by
          have hc := HC9.out.only (show Only (fun _ => False) w9 W10 by rw [hW10]; exact (Only.refl _ _).more _ _)
          have hg : ((PM.init (ownK l.length) l n ()).goes (ms.take (k + 1))) = (((PM.init (ownK l.length) l n ()).goes (ms.take k)).move ⟨mth, mop, marg, mdata⟩).1 := by rw [HT.out, PM.goes_snoc]
          refine ⟨?_, ((HW2R.out.trans HO7.out (fun _ x => x.elim)).trans HO9.out (fun _ hk => .inr hk.1)).trans (show Only (fun _ => False) w9 W10 by rw [hW10]; exact (Only.refl _ _).more _ _) (fun _ x => x.elim)⟩
          rw [hg, HT.out]
          exact Crew.init (us := [_]) hc)
        have hw10 := HI1.out.2
        have s0 := (hw10.cellAt (p := ⟨sb, 0, none⟩) HZL.out (fun x => x)).trans HZ0.out
        have s1 := (hw10.cellAt (p := ⟨sb, 1, none⟩) HZL.out (fun x => x)).trans HZ1.out
        have s2 := (hw10.cellAt (p := ⟨sb, 2, none⟩) HZL.out (fun x => x)).trans HZ2.out
        have hl10 := Nat.lt_of_lt_of_le HZL.out hw10.size
        clear hW10 hw10 HC9 HO9 HC8 HO8 HC7 HO7 r0 r1 r2 r3 n0 n1 n2 n3 lbi c23 lmb HD1 HD2 HM1 HM2 HW2R
        clear w9 w8
        by_cases hm8 : (k : Int) % 8 = 0
        · have f1 : ((k : Int) % 8 != 0) = false := by simpa using hm8
          clear hm8
          go_wp2
          go_loopg [12] (n + 2) (fun g sl wx => ∃ j : Nat, j ≤ n + 2 ∧ n + 2 ≤ j + g ∧ sl = .int .i64 ((j : Int) - 1) ∧ Hid (Only (fun _ => False) W10 wx))
          case atStart => exact ⟨0, by omega, by omega, by go_num, Lib.hid (Only.refl _ _)⟩
          case round =>
            obtain ⟨j, hj1, hj2, rfl, hO⟩ := hrel
            have HI2 := Lib.hid (HI1.out.keep hO.out)
            have s0 := (hO.out.cellAt (p := ⟨sb, 0, none⟩) hl10 (fun x => x)).trans s0
            have hlw := Nat.lt_of_lt_of_le hl10 hO.out.size
            by_cases hjn : j < n + 2
            · have f3 : decide ((j : Int) - 1 ≤ (n : Int)) = true := by simp; omega
              obtain ⟨cc, lc, kn, bb, hA⟩ := HI2.out.asks h1 h16 ((j : Int) - 1)
              have HA := Lib.hid hA
              have HOO := Lib.hid hO.out
              have hbb : (bb != bb) = false := by simp
              cases kn with
              | true =>
                obtain rfl := hA.same rfl
                have f4 := hA.beg
                obtain ⟨y0, y1, y2, y3, y4, y5, y6, y7, y8⟩ := cc
                simp only at f4
                clear hA
                go_wp2_with (first
                  | (go_at_call 37; refine (HA.out.call _ (by repeat (first | exact Only.refl _ _ | apply Only.alloc | apply Only.more | apply Only.drew))).mono ?_; rintro e wA ⟨rfl, hbA⟩; (unfold Cal.v); obtain ⟨osA, dA, rfl⟩ := hbA.more; clear hbA)
                  | (go_at_call 38; refine (HA.out.last _ (by repeat (first | exact Only.refl _ _ | apply Only.alloc | apply Only.more | apply Only.drew))).mono ?_; rintro e wB ⟨rfl, hbB⟩; (unfold Cal.v); obtain ⟨osB, dB, rfl⟩ := hbB.more; clear hbB)
                  | (go_at_call 39; refine (HA.out.busy _ (by repeat (first | exact Only.refl _ _ | apply Only.alloc | apply Only.more | apply Only.drew))).mono ?_; rintro e wC ⟨rfl, hbC⟩; obtain ⟨osC, dC, rfl⟩ := hbC.more; clear hbC))
                go_roundg (n + 2 - (j + 1))
                case measure => omega
                case rel => exact ⟨j + 1, by omega, by omega, by go_num, Lib.hid (by repeat (first | exact HOO.out | apply Only.alloc | apply Only.more | apply Only.drew))⟩
              | false =>
                obtain rfl := hA.zero rfl
                have f4 := hA.beg
                obtain ⟨y0, y1, y2, y3, y4, y5, y6, y7, y8⟩ := lc
                simp only at f4
                clear hA
                go_wp2_with (first
                  | (go_at_call 37; refine (HA.out.call _ (by repeat (first | exact Only.refl _ _ | apply Only.alloc | apply Only.more | apply Only.drew))).mono ?_; rintro e wA ⟨rfl, hbA⟩; (unfold Cal.v Cal.zero); obtain ⟨osA, dA, rfl⟩ := hbA.more; clear hbA)
                  | (go_at_call 38; refine (HA.out.last _ (by repeat (first | exact Only.refl _ _ | apply Only.alloc | apply Only.more | apply Only.drew))).mono ?_; rintro e wB ⟨rfl, hbB⟩; (unfold Cal.v); obtain ⟨osB, dB, rfl⟩ := hbB.more; clear hbB)
                  | (go_at_call 39; refine (HA.out.busy _ (by repeat (first | exact Only.refl _ _ | apply Only.alloc | apply Only.more | apply Only.drew))).mono ?_; rintro e wC ⟨rfl, hbC⟩; obtain ⟨osC, dC, rfl⟩ := hbC.more; clear hbC))
                go_roundg (n + 2 - (j + 1))
                case measure => omega
                case rel => exact ⟨j + 1, by omega, by omega, by go_num, Lib.hid (by repeat (first | exact HOO.out | apply Only.alloc | apply Only.more | apply Only.drew))⟩
            · obtain rfl : j = n + 2 := by omega
              have f3 : decide (((n + 2 : Nat) : Int) - 1 ≤ (n : Int)) = false := by simp; omega
              go_wp2
              go_roundg (ms.length - (k + 1))
              case measure => omega
              case rel => exact ⟨k + 1, by omega, by omega, by go_num, HI2⟩
        · have f1 : ((k : Int) % 8 != 0) = true := by simpa using hm8
          by_cases hlast : k + 1 < ms.length
          · have f2 : decide ((k : Int) < (ms.length : Int) - 1) = true := by simp; omega
            clear hm8 hlast
            go_wp2
            go_roundg (ms.length - (k + 1))
            case measure => omega
            case rel => exact ⟨k + 1, by omega, by omega, by go_num, HI1⟩
          · have f2 : decide ((k : Int) < (ms.length : Int) - 1) = false := by simp; omega
            clear hm8
            go_wp2
            go_loopg [12] (n + 2) (fun g sl wx => ∃ j : Nat, j ≤ n + 2 ∧ n + 2 ≤ j + g ∧ sl = .int .i64 ((j : Int) - 1) ∧ Hid (Only (fun _ => False) W10 wx))
            case atStart => exact ⟨0, by omega, by omega, by go_num, Lib.hid (Only.refl _ _)⟩
            case round =>
              obtain ⟨j, hj1, hj2, rfl, hO⟩ := hrel
              have HI2 := Lib.hid (HI1.out.keep hO.out)
              have s0 := (hO.out.cellAt (p := ⟨sb, 0, none⟩) hl10 (fun x => x)).trans s0
              have hlw := Nat.lt_of_lt_of_le hl10 hO.out.size
              by_cases hjn : j < n + 2
              · have f3 : decide ((j : Int) - 1 ≤ (n : Int)) = true := by simp; omega
                obtain ⟨cc, lc, kn, bb, hA⟩ := HI2.out.asks h1 h16 ((j : Int) - 1)
                have HA := Lib.hid hA
                have HOO := Lib.hid hO.out
                have hbb : (bb != bb) = false := by simp
                cases kn with
                | true =>
                  obtain rfl := hA.same rfl
                  have f4 := hA.beg
                  obtain ⟨y0, y1, y2, y3, y4, y5, y6, y7, y8⟩ := cc
                  simp only at f4
                  clear hA
                  go_wp2_with (first
                    | (go_at_call 37; refine (HA.out.call _ (by repeat (first | exact Only.refl _ _ | apply Only.alloc | apply Only.more | apply Only.drew))).mono ?_; rintro e wA ⟨rfl, hbA⟩; (unfold Cal.v); obtain ⟨osA, dA, rfl⟩ := hbA.more; clear hbA)
                    | (go_at_call 38; refine (HA.out.last _ (by repeat (first | exact Only.refl _ _ | apply Only.alloc | apply Only.more | apply Only.drew))).mono ?_; rintro e wB ⟨rfl, hbB⟩; (unfold Cal.v); obtain ⟨osB, dB, rfl⟩ := hbB.more; clear hbB)
                    | (go_at_call 39; refine (HA.out.busy _ (by repeat (first | exact Only.refl _ _ | apply Only.alloc | apply Only.more | apply Only.drew))).mono ?_; rintro e wC ⟨rfl, hbC⟩; obtain ⟨osC, dC, rfl⟩ := hbC.more; clear hbC))
                  go_roundg (n + 2 - (j + 1))
                  case measure => omega
                  case rel => exact ⟨j + 1, by omega, by omega, by go_num, Lib.hid (by repeat (first | exact HOO.out | apply Only.alloc | apply Only.more | apply Only.drew))⟩
                | false =>
                  obtain rfl := hA.zero rfl
                  have f4 := hA.beg
                  obtain ⟨y0, y1, y2, y3, y4, y5, y6, y7, y8⟩ := lc
                  simp only at f4
                  clear hA
                  go_wp2_with (first
                    | (go_at_call 37; refine (HA.out.call _ (by repeat (first | exact Only.refl _ _ | apply Only.alloc | apply Only.more | apply Only.drew))).mono ?_; rintro e wA ⟨rfl, hbA⟩; (unfold Cal.v Cal.zero); obtain ⟨osA, dA, rfl⟩ := hbA.more; clear hbA)
                    | (go_at_call 38; refine (HA.out.last _ (by repeat (first | exact Only.refl _ _ | apply Only.alloc | apply Only.more | apply Only.drew))).mono ?_; rintro e wB ⟨rfl, hbB⟩; (unfold Cal.v); obtain ⟨osB, dB, rfl⟩ := hbB.more; clear hbB)
                    | (go_at_call 39; refine (HA.out.busy _ (by repeat (first | exact Only.refl _ _ | apply Only.alloc | apply Only.more | apply Only.drew))).mono ?_; rintro e wC ⟨rfl, hbC⟩; obtain ⟨osC, dC, rfl⟩ := hbC.more; clear hbC))
                  go_roundg (n + 2 - (j + 1))
                  case measure => omega
                  case rel => exact ⟨j + 1, by omega, by omega, by go_num, Lib.hid (by repeat (first | exact HOO.out | apply Only.alloc | apply Only.more | apply Only.drew))⟩
              · obtain rfl : j = n + 2 := by omega
                have f3 : decide (((n + 2 : Nat) : Int) - 1 ≤ (n : Int)) = false := by simp; omega
                go_wp2
                go_roundg (ms.length - (k + 1))
                case measure => omega
                case rel => exact ⟨k + 1, by omega, by omega, by go_num, HI2⟩
    · obtain rfl : k = ms.length := by omega
      rw [List.take_length] at hI
      have HIE := Lib.hid hI.out
      have HWW := Lib.hid (HOW2.out.trans hI.out.2 (fun _ x => x.elim))
      have HSM := Lib.hid (refRun_smallS l n ms hl8)
      obtain ⟨cc, lc, kn, bb, hA⟩ := HIE.out.asks h1 h16 ask
      have HA := Lib.hid hA
      have hbb : (bb != bb) = false := by simp
      clear hI hw hlt
      cases kn with
      | true =>
        obtain rfl := hA.same rfl
        have f4 := hA.beg
        obtain ⟨y0, y1, y2, y3, y4, y5, y6, y7, y8⟩ := cc
        simp only at f4
        clear hA
        go_upto_region 30 with (first
          | (go_at_call 37; refine (HA.out.call _ (by repeat (first | exact Only.refl _ _ | apply Only.alloc | apply Only.more | apply Only.drew))).mono ?_; rintro e wA ⟨rfl, hbA⟩; (unfold Cal.v); obtain ⟨osA, dA, rfl⟩ := hbA.more; clear hbA)
          | (go_at_call 38; refine (HA.out.last _ (by repeat (first | exact Only.refl _ _ | apply Only.alloc | apply Only.more | apply Only.drew))).mono ?_; rintro e wB ⟨rfl, hbB⟩; (unfold Cal.v); obtain ⟨osB, dB, rfl⟩ := hbB.more; clear hbB)
          | (go_at_call 39; refine (HA.out.busy _ (by repeat (first | exact Only.refl _ _ | apply Only.alloc | apply Only.more | apply Only.drew))).mono ?_; rintro e wC ⟨rfl, hbC⟩; obtain ⟨osC, dC, rfl⟩ := hbC.more; clear hbC))
        refine gen_world ?_
        intro W11 hW11
        have HO11 : Hid (Only (fun _ => False) wr W11) := Lib.hid (by rw [hW11]; repeat (first | exact Only.refl _ _ | apply Only.alloc | apply Only.more | apply Only.drew))
        have HI11 := Lib.hid (HIE.out.keep HO11.out)
        clear hW11
        go_wp2_with (first
          | (go_at_call 19; refine (HI11.out.run hl8 h1 h16).mono ?_; rintro e wD ⟨x, rfl, hx, hox⟩; obtain ⟨oa, ca, ot, ct, ob, cb, oc, cc, rfl⟩ := hx.src.forms; have HX := Lib.hid hx.src; have HOD := Lib.hid hox; (unfold RunVs.v); clear hx hox)
          | (go_at_call 36; refine ((HI11.out.keep HOD.out).told hl8).mono ?_; rintro e wE ⟨y, rfl, hy, hoy⟩; obtain ⟨oa2, ca2, ot2, ct2, ob2, cb2, oc2, cc2, rfl⟩ := hy.src.forms; have HCR := Lib.hid (sameRun_yes (HX.out.only hoy) hy.src HSM.out.1 HSM.out.2.1 HSM.out.2.2.1 HSM.out.2.2.2); have HOE := Lib.hid (HOD.out.trans hoy (fun _ x => x.elim)); (unfold RunVs.v); clear hy hoy)
          | (go_at_call 23; refine HCR.out.mono ?_; rintro e wF ⟨rfl, hbF⟩; have HOF := Lib.hid (HOE.out.trans (Below.only0 hbF) (fun _ x => x.elim)); clear hbF))
        go_ret
        exact ⟨rfl, Only.below ((HWW.out.trans HO11.out (fun _ x => x.elim)).trans HOF.out (fun _ x => x.elim)) (fun _ h => h.elim) (Nat.le_refl _)⟩
      | false =>
        obtain rfl := hA.zero rfl
        have f4 := hA.beg
        obtain ⟨y0, y1, y2, y3, y4, y5, y6, y7, y8⟩ := lc
        simp only at f4
        clear hA
        go_upto_region 30 with (first
          | (go_at_call 37; refine (HA.out.call _ (by repeat (first | exact Only.refl _ _ | apply Only.alloc | apply Only.more | apply Only.drew))).mono ?_; rintro e wA ⟨rfl, hbA⟩; (unfold Cal.v Cal.zero); obtain ⟨osA, dA, rfl⟩ := hbA.more; clear hbA)
          | (go_at_call 38; refine (HA.out.last _ (by repeat (first | exact Only.refl _ _ | apply Only.alloc | apply Only.more | apply Only.drew))).mono ?_; rintro e wB ⟨rfl, hbB⟩; (unfold Cal.v); obtain ⟨osB, dB, rfl⟩ := hbB.more; clear hbB)
          | (go_at_call 39; refine (HA.out.busy _ (by repeat (first | exact Only.refl _ _ | apply Only.alloc | apply Only.more | apply Only.drew))).mono ?_; rintro e wC ⟨rfl, hbC⟩; obtain ⟨osC, dC, rfl⟩ := hbC.more; clear hbC))
        refine gen_world ?_
        intro W11 hW11
        have HO11 : Hid (Only (fun _ => False) wr W11) := Lib.hid (by rw [hW11]; repeat (first | exact Only.refl _ _ | apply Only.alloc | apply Only.more | apply Only.drew))
        have HI11 := Lib.hid (HIE.out.keep HO11.out)
        clear hW11
        go_wp2_with (first
          | (go_at_call 19; refine (HI11.out.run hl8 h1 h16).mono ?_; rintro e wD ⟨x, rfl, hx, hox⟩; obtain ⟨oa, ca, ot, ct, ob, cb, oc, cc, rfl⟩ := hx.src.forms; have HX := Lib.hid hx.src; have HOD := Lib.hid hox; (unfold RunVs.v); clear hx hox)
          | (go_at_call 36; refine ((HI11.out.keep HOD.out).told hl8).mono ?_; rintro e wE ⟨y, rfl, hy, hoy⟩; obtain ⟨oa2, ca2, ot2, ct2, ob2, cb2, oc2, cc2, rfl⟩ := hy.src.forms; have HCR := Lib.hid (sameRun_yes (HX.out.only hoy) hy.src HSM.out.1 HSM.out.2.1 HSM.out.2.2.1 HSM.out.2.2.2); have HOE := Lib.hid (HOD.out.trans hoy (fun _ x => x.elim)); (unfold RunVs.v); clear hy hoy)
          | (go_at_call 23; refine HCR.out.mono ?_; rintro e wF ⟨rfl, hbF⟩; have HOF := Lib.hid (HOE.out.trans (Below.only0 hbF) (fun _ x => x.elim)); clear hbF))
        go_ret
        exact ⟨rfl, Only.below ((HWW.out.trans HO11.out (fun _ x => x.elim)).trans HOF.out (fun _ x => x.elim)) (fun _ h => h.elim) (Nat.le_refl _)⟩
end Go.Proofs.Ytbhbpfpggfcpgaa
