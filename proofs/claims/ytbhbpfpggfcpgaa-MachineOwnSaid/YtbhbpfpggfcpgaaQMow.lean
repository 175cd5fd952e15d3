/-
MachineOwn returns true.
-/
import Derived.Test.YtbhbpfpggfcpgaaQMoP
import Derived.Test.YtbhbpfpggfcpgaaQOwnOk
import Derived.Test.YtbhbpfpggfcpgaaQMvl
namespace Go.Proofs.Ytbhbpfpggfcpgaa
open Go.ChangeShapes Go.WideShapes Go.ChangeAt Go.RowKit Go.Shelf

theorem RunAt.forms {w : World} {b : Nat} {x : RunVs} {r : RunS} (h : RunAt w b x r) : ∃ oa ca ot ct ob cb oc cc, x = ⟨.slice oa r.calls.length ca, .slice ot r.trace.length ct, .slice ob r.shifts.length cb, .slice oc r.words.length cc⟩ := h.src.forms
theorem spt_forms {w : World} {y : RunVs} {r : RunS} {s : Nat → List Value} (h : ∀ q, q < 4 → w.Src (runSz q) (y.row q) (r.len q + 70) (s q)) : ∃ oa ca ot ct ob cb oc cc, y = ⟨.slice oa (r.calls.length + 70) ca, .slice ot (r.trace.length + 70) ct, .slice ob (r.shifts.length + 70) cb, .slice oc (r.words.length + 70) cc⟩ := by
  obtain ⟨y1, y2, y3, y4⟩ := y
  obtain ⟨o1, c1, e1⟩ := (h 0 (by omega)).form
  obtain ⟨o2, c2, e2⟩ := (h 1 (by omega)).form
  obtain ⟨o3, c3, e3⟩ := (h 2 (by omega)).form
  obtain ⟨o4, c4, e4⟩ := (h 3 (by omega)).form
  change y1 = .slice o1 (r.calls.length + 70) c1 at e1
  change y2 = .slice o2 (r.trace.length + 70) c2 at e2
  change y3 = .slice o3 (r.shifts.length + 70) c3 at e3
  change y4 = .slice o4 (r.words.length + 70) c4 at e4
  subst e1 e2 e3 e4
  exact ⟨_, _, _, _, _, _, _, _, rfl⟩

set_option maxRecDepth 100000 in
set_option maxHeartbeats 8000000 in
theorem own_walk {w : World} {v : Value} {th : Int} {l : List Int} {ms : List Mv} {ox : Option Addr} {cx : Nat} {om : Option Addr} {cm : Nat} (h : ScrIn w v th l ms ox cx om cm) : Calls Try.prog 11 #[v] w fun e w' => e = .returned (.bool true) ∧ Below w.heap.size w w' := by
  obtain ⟨rfl, hs0, hm0, hx0, hy0⟩ := h
  obtain ⟨l1, hl1⟩ : ∃ l1, l1 = l.take 8192 := ⟨_, rfl⟩
  obtain ⟨ms1, hms1⟩ : ∃ ms1, ms1 = ms.take 65536 := ⟨_, rfl⟩
  have hs1 : w.Src 1 (.slice ox l1.length cx) l1.length (u64s l1) := by
    have := hs0.take hx0.2.2 8192
    rw [show min l.length 8192 = (l.take 8192).length by simp; omega, ← hl1] at this
    exact this
  have hm1 : MvsIn w (.slice om ms1.length cm) ms1 := by
    have := hm0.take 65536
    rw [show min ms.length 65536 = (ms.take 65536).length by simp; omega, ← hms1] at this
    exact this
  have hll : l1.length ≤ 8192 := by rw [hl1]; simp; omega
  have hml : ms1.length ≤ 65536 := by rw [hms1]; simp; omega
  have hff : ∀ W, Calls Try.prog 29 #[.agg #[.int .i64 th, .slice ox l.length cx, .slice om ms.length cm]] W fun e w' => e = .returned (.agg #[.int .i64 (fitN th : Int), .slice ox l1.length cx, .slice om ms1.length cm]) ∧ Only (fun _ => False) W w' := fun W => by
    have := fit_ok (w := W) th ox l.length cx om ms.length cm hx0.1 hy0.1 hx0.2.1 hy0.2.1 hx0.2.2 hy0.2.2
    unfold FitRes at this
    rw [show min l.length 8192 = l1.length by rw [hl1]; simp; omega, show min ms.length 65536 = ms1.length by rw [hms1]; simp; omega] at this
    exact this
  obtain ⟨h1, h16⟩ := fitN_ok th
  obtain ⟨n, hn⟩ : ∃ n, n = fitN th := ⟨_, rfl⟩
  rw [← hn] at hff h1 h16
  obtain ⟨r, hr⟩ : ∃ r, r = refRun l1 n ms1 := ⟨_, rfl⟩
  have HSM := Lib.hid (show RunS.small r by rw [hr]; exact refRun_small _ _ _ hll hml)
  have HS := Lib.hid hs1
  have HM := Lib.hid hm1
  have HF := Lib.hid hff
  have HRP : Hid (∀ W, Only (fun _ => False) w W → Calls Try.prog 22 #[.int .i64 (n : Int), .slice ox l1.length cx, .slice om ms1.length cm] W fun e w' => ∃ x : RunVs, e = .returned (.tuple #[x.v, .int .i64 0]) ∧ RunAt w' W.heap.size x r ∧ Only (fun _ => False) W w') := Lib.hid (fun W ho => by rw [hr]; exact rplay_ok n (hs1.only ho) hll (hm1.only ho) hml h1 h16)
  have HPP : Hid (∀ W, Only (fun _ => False) w W → Calls Try.prog 21 #[.int .i64 (n : Int), .slice ox l1.length cx, .slice om ms1.length cm] W fun e w' => ∃ x : RunVs, e = .returned (.tuple #[x.v, .int .i64 0]) ∧ RunAt w' W.heap.size x r ∧ Only (fun _ => False) W w') := Lib.hid (fun W ho => by rw [hr, show refRun l1 n ms1 = ownRun l1 n ms1 from (own_os l1 n ms1).symm]; exact play_ok n (hs1.only ho) hll (hm1.only ho) hml h1 h16)
  have HRN : Hid (((PM.init (ownK l1.length) l1 n ()).goes ms1).run = r) := Lib.hid (by rw [hr]; exact own_os l1 n ms1)
  obtain ⟨i1, ii1, iz10, iz11, iz12⟩ := info_parts infoU64
  have II1 := Lib.hid ii1
  have IZ10 := Lib.hid iz10
  have IZ11 := Lib.hid iz11
  have IZ12 := Lib.hid iz12
  have SO1 := Lib.hid (u64s_one l1)
  have SL1 := Lib.hid (show 0 + l1.length ≤ maxLen by unfold maxLen; omega)
  have SB1 := Lib.hid (show ((0 + l1.length) + (0 + l1.length) / 4 + 192) * 8 ≤ 281474976710656 by omega)
  clear hs0 hm0 hx0 hy0 hs1 hm1 hff hl1 hms1 hn hr ii1 iz10 iz11 iz12
  go_enter Try.func11, Try.ntmps11
  go_upto_region 2 with (go_at_call 29; refine (HF.out _).mono ?_; rintro e w1 ⟨rfl, ho1⟩; obtain ⟨osA, dA, rfl⟩ := (Only.below ho1 (fun _ h => h.elim) (Nat.le_refl _)).more; clear ho1)
  refine gen_world ?_
  intro W1 hW1
  have HC1 : Hid (CW w [Thing.box w.heap.size w.heap.size (.cells #[.int .i64 (n : Int), .slice ox l1.length cx, .slice om ms1.length cm] 45 (0, 0))] W1) := Lib.hid ((CW.mk (Crew.none w) (Only.refl _ w)).addBox (by rw [hW1]; exact ((Only.refl _ w).alloc _).more _ _) (by rw [hW1, World.heap_more _ _ _ _ (by simp)]; exact heap_alloc_new w _) (Nat.le_refl _))
  clear hW1
  go_upto_region 4 with (go_at_call 26; refine awake_ok.mono ?_; rintro e w2 ⟨rfl, ho2⟩; have HC2 := Lib.hid (HC1.out.keep ho2); clear ho2)
  clear HC1
  have sb := HC2.out.box (i := 0) rfl
  have s0 : w2.cell? ⟨w.heap.size, 0, none⟩ = some (.int .i64 (n : Int)) := by simp [World.cell?, sb]
  have s1 : w2.cell? ⟨w.heap.size, 1, none⟩ = some (.slice ox l1.length cx) := by simp [World.cell?, sb]
  have s2 : w2.cell? ⟨w.heap.size, 2, none⟩ = some (.slice om ms1.length cm) := by simp [World.cell?, sb]
  have sl := (Array.getElem?_eq_some_iff.1 sb).1
  clear sb
  go_upto_region 5 with (go_at_call 22; refine (HRP.out _ HC2.out.on).mono ?_; rintro e w3 ⟨x, rfl, hx, ho3⟩; obtain ⟨rwo0, rwc0, rwo1, rwc1, rwo2, rwc2, rwo3, rwc3, rfl⟩ := hx.forms; (unfold RunVs.v); have HT := Lib.hid (HC2.out.addRun ho3 hx); clear hx ho3)
  refine gen_world ?_
  intro W3 hW
  have HC3 : Hid (CW w [Thing.box w.heap.size w.heap.size (.cells #[.int .i64 (n : Int), .slice ox l1.length cx, .slice om ms1.length cm] 45 (0, 0)), Thing.run w.heap.size (⟨.slice rwo0 r.calls.length rwc0, .slice rwo1 r.trace.length rwc1, .slice rwo2 r.shifts.length rwc2, .slice rwo3 r.words.length rwc3⟩ : RunVs) r, Thing.box w.heap.size w3.heap.size (.cells #[.slice rwo0 r.calls.length rwc0, .slice rwo1 r.trace.length rwc1, .slice rwo2 r.shifts.length rwc2, .slice rwo3 r.words.length rwc3] 41 (0, 0))] W3) := Lib.hid (by rw [hW]; exact HT.out.addBox ((Only.refl _ _).alloc _) (heap_alloc_new _ _) (Nat.le_refl _))
  clear hW HT HC2 s0 s1 s2 sl
  generalize w3.heap.size = bw at HC3 ⊢
  clear w3
  have sb := HC3.out.box (i := 0) rfl
  have s0 : W3.cell? ⟨w.heap.size, 0, none⟩ = some (.int .i64 (n : Int)) := by simp [World.cell?, sb]
  have s1 : W3.cell? ⟨w.heap.size, 1, none⟩ = some (.slice ox l1.length cx) := by simp [World.cell?, sb]
  have s2 : W3.cell? ⟨w.heap.size, 2, none⟩ = some (.slice om ms1.length cm) := by simp [World.cell?, sb]
  have sl := (Array.getElem?_eq_some_iff.1 sb).1
  clear sb
  go_upto_region 6 with (at_builtin; refine wpList_append_row _ rfl _ _ 28 rfl W3.heap.size 27 i1 _ 1 8 Try.underlying28 II1.out IZ10.out IZ11.out IZ12.out rfl (.slice none 0 0) 0 [] rfl (World.RowV_none _ _ _ _ _) _ l1.length (u64s l1) rfl (HS.out.only HC3.out.on) SO1.out SL1.out SB1.out (Nat.le_refl _) ?_; intro v4 w4 hown hout; obtain ⟨o5, c5, rfl, _, _⟩ := hown.form; simp only [Nat.zero_add, List.nil_append] at hown; have HR5 := Lib.hid hown; have HC4 := Lib.hid (HC3.out.addRow (Only.out (F := fun _ => False) hout (by simp [Value.rowBlock])) hown); clear hown hout)
  clear s0 s1 s2 sl HC3
  have sb := HC4.out.box (i := 0) rfl
  have s0 : w4.cell? ⟨w.heap.size, 0, none⟩ = some (.int .i64 (n : Int)) := by simp [World.cell?, sb]
  have s1 : w4.cell? ⟨w.heap.size, 1, none⟩ = some (.slice ox l1.length cx) := by simp [World.cell?, sb]
  have s2 : w4.cell? ⟨w.heap.size, 2, none⟩ = some (.slice om ms1.length cm) := by simp [World.cell?, sb]
  have sl := (Array.getElem?_eq_some_iff.1 sb).1
  clear sb
  have q0 := fun q : LaterF (fun _ => False) w4 => q.cell s0 sl (fun x => x)
  have q1 := fun q : LaterF (fun _ => False) w4 => q.cell s1 sl (fun x => x)
  refine wp_region_plan (fun wz => ∃ q : LaterF (fun _ => False) w4, wz = q.W) [5, 6] [0, 1, 2, 3, 4] (.fork 5 [] (.fork 6 [7, 8, 9, 10] (.tail 11) .none) .none) oper0 (by kernel_rfl) (by kernel_rfl) (laterF_in (Only.refl _ _).drew) ?_
  simp only [wpPlan, List.map_cons, List.map_nil, List.getD_cons_zero, List.getD_cons_succ, List.drop_succ_cons, List.drop_zero]
  repeat (first | go_big_quiet_skip | (go_big_quiet_want; go_big_quiet_op; go_big_quiet_on))
  refine wpQuiet_nil ?_
  refine ⟨?_, trivial⟩
  go_wp2_with (go_at_call 16; refine (own_at _).mono ?_; rintro e w5 ⟨kb, tb2, tb, rfl, hk, ho⟩; have HK := Lib.hid hk; have HO5 := Lib.hid ho; clear hk ho)
  refine strict_on ?_
  refine ⟨?_, ?_⟩
  · exact laterF_in ((Only.refl _ _).drew.trans HO5.out (fun _ x => x.elim))
  repeat (first | go_big_quiet_skip | (go_big_quiet_want; go_big_quiet_op; go_big_quiet_on))
  refine wpQuiet_nil ?_
  try with_reducible refine ⟨?_, trivial⟩
  go_wp2_with (go_at_call 15; refine (newm_ok (w := w5) (km := some kb) n (HR5.out.src.only ((Only.refl _ _).drew.trans HO5.out (fun _ x => x.elim))) hll h1 h16).mono ?_; rintro e w6 ⟨xb, rfl, hna⟩; obtain ⟨Fn, hpm, hon⟩ := newAt_pm HK.out HO5.out hna; have HO6 := Lib.hid ((Only.refl (fun _ => False) w4).drew.trans hon (fun _ x => x.elim)); have HC6 : Hid (CW w [Thing.box w.heap.size w.heap.size (.cells #[.int .i64 (n : Int), .slice ox l1.length cx, .slice om ms1.length cm] 45 (0, 0)), Thing.run w.heap.size (⟨.slice rwo0 r.calls.length rwc0, .slice rwo1 r.trace.length rwc1, .slice rwo2 r.shifts.length rwc2, .slice rwo3 r.words.length rwc3⟩ : RunVs) r, Thing.box w.heap.size bw (.cells #[.slice rwo0 r.calls.length rwc0, .slice rwo1 r.trace.length rwc1, .slice rwo2 r.shifts.length rwc2, .slice rwo3 r.words.length rwc3] 41 (0, 0)), Thing.row1 w.heap.size (.slice o5 l1.length c5) l1.length, Thing.pm2 (base := w.heap.size) (ownK_ok _) xb (.map (some kb)) ((PM.init (ownK l1.length) l1 n ()).goes [])] w6) := Lib.hid (HC4.out.addPm (ownK_ok _) HO6.out (b := w4.drew.heap.size) (Nat.le_refl _) hpm); clear hna hpm hon)
  refine strict_on ?_
  refine ⟨?_, ?_⟩
  · exact laterF_in HO6.out
  repeat (first | go_big_quiet_skip | (go_big_quiet_want; go_big_quiet_op; go_big_quiet_on))
  refine wpQuiet_nil ?_
  clear q0 q1 s0 s1 s2 sl
  go_upto_region 7 with (fail)
  refine gen_world ?_
  intro W6 hW
  have HC7 : Hid (CW w [Thing.box w.heap.size w.heap.size (.cells #[.int .i64 (n : Int), .slice ox l1.length cx, .slice om ms1.length cm] 45 (0, 0)), Thing.run w.heap.size (⟨.slice rwo0 r.calls.length rwc0, .slice rwo1 r.trace.length rwc1, .slice rwo2 r.shifts.length rwc2, .slice rwo3 r.words.length rwc3⟩ : RunVs) r, Thing.box w.heap.size bw (.cells #[.slice rwo0 r.calls.length rwc0, .slice rwo1 r.trace.length rwc1, .slice rwo2 r.shifts.length rwc2, .slice rwo3 r.words.length rwc3] 41 (0, 0)), Thing.row1 w.heap.size (.slice o5 l1.length c5) l1.length, Thing.pm2 (base := w.heap.size) (ownK_ok _) xb (.map (some kb)) ((PM.init (ownK l1.length) l1 n ()).goes [])] W6) := Lib.hid (HC6.out.keep (by rw [hW]; repeat (first | exact Only.refl _ _ | apply Only.alloc | apply Only.drew | apply Only.more)))
  clear hW HC6 HC4 HK HO5 HO6 HR5 II1 IZ10 IZ11 IZ12 SO1 SL1 SB1 HF
  clear w6 w5
  go_wp2
  go_loopg [8] l1.length (fun g sl wr => ∃ j : Nat, j ≤ l1.length ∧ l1.length ≤ j + g ∧ sl = .int .i64 (j : Int) ∧ Hid (CW w [Thing.box w.heap.size w.heap.size (.cells #[.int .i64 (n : Int), .slice ox l1.length cx, .slice om ms1.length cm] 45 (0, 0)), Thing.run w.heap.size (⟨.slice rwo0 r.calls.length rwc0, .slice rwo1 r.trace.length rwc1, .slice rwo2 r.shifts.length rwc2, .slice rwo3 r.words.length rwc3⟩ : RunVs) r, Thing.box w.heap.size bw (.cells #[.slice rwo0 r.calls.length rwc0, .slice rwo1 r.trace.length rwc1, .slice rwo2 r.shifts.length rwc2, .slice rwo3 r.words.length rwc3] 41 (0, 0)), Thing.row1 w.heap.size (.slice o5 l1.length c5) l1.length, Thing.pm2 (base := w.heap.size) (ownK_ok _) xb (.map (some kb)) ((PM.init (ownK l1.length) l1 n ()).goes [])] wr))
  case atStart => exact ⟨0, by omega, by omega, by go_num, HC7⟩
  case round =>
    obtain ⟨j, hj1, hj2, rfl, hI⟩ := hrel
    by_cases hlt : j < l1.length
    · obtain ⟨b, xs, hrow⟩ := hI.out.row (i := 3) rfl
      obtain ⟨g, cap, e, y1, y2, y3, y4, y5, y6⟩ := hrow.some_form (by omega)
      have HN := Lib.hid (hI.out.put (i := 3) rfl y4 hlt (.int .u64 555))
      cases e
      have hd : decide ((j : Int) < (l1.length : Int)) = true := by simp; omega
      obtain ⟨u0, hu0⟩ : ∃ u, wr.cell? ⟨g, j, none⟩ = some u := ⟨_, y6 j _ (List.getElem?_eq_getElem (by rw [hrow.1]; omega))⟩
      have hz := y5 j
      clear hI hrow y6 y5
      go_wp2
      go_roundg (l1.length - (j + 1))
      case measure => omega
      case rel => exact ⟨j + 1, by omega, by omega, by go_num, HN⟩
    · obtain rfl : j = l1.length := by omega
      have HC8 := Lib.hid hI.out
      clear hI hlt hj1 hj2
      have sb := HC8.out.box (i := 0) rfl
      have s0 : wr.cell? ⟨w.heap.size, 0, none⟩ = some (.int .i64 (n : Int)) := by simp [World.cell?, sb]
      have s1 : wr.cell? ⟨w.heap.size, 1, none⟩ = some (.slice ox l1.length cx) := by simp [World.cell?, sb]
      have s2 : wr.cell? ⟨w.heap.size, 2, none⟩ = some (.slice om ms1.length cm) := by simp [World.cell?, sb]
      have sl := (Array.getElem?_eq_some_iff.1 sb).1
      clear sb
      obtain ⟨_, _, em, hm1, hm2, hm3⟩ := HM.out
      cases em
      have HM3 := Lib.hid hm3
      unfold maxLen at hm2
      clear hm3 HM
      go_wp2
      clear s0 s1 s2 sl
      go_loopg [65] ms1.length (fun g sl wr => ∃ k : Nat, k ≤ ms1.length ∧ ms1.length ≤ k + g ∧ sl = .int .i64 (k : Int) ∧ Hid (CW w [Thing.box w.heap.size w.heap.size (.cells #[.int .i64 (n : Int), .slice ox l1.length cx, .slice om ms1.length cm] 45 (0, 0)), Thing.run w.heap.size (⟨.slice rwo0 r.calls.length rwc0, .slice rwo1 r.trace.length rwc1, .slice rwo2 r.shifts.length rwc2, .slice rwo3 r.words.length rwc3⟩ : RunVs) r, Thing.box w.heap.size bw (.cells #[.slice rwo0 r.calls.length rwc0, .slice rwo1 r.trace.length rwc1, .slice rwo2 r.shifts.length rwc2, .slice rwo3 r.words.length rwc3] 41 (0, 0)), Thing.row1 w.heap.size (.slice o5 l1.length c5) l1.length, Thing.pm2 (base := w.heap.size) (ownK_ok _) xb (.map (some kb)) ((PM.init (ownK l1.length) l1 n ()).goes (ms1.take k))] wr))
      case atStart => exact ⟨0, by omega, by omega, by go_num, by rw [List.take_zero]; exact HC8⟩
      case round =>
        obtain ⟨k, hk1, hk2, rfl, hI⟩ := hrel
        have hw := hI.out.on
        by_cases hlt : k < ms1.length
        · obtain ⟨b, off, rfl, hb, m0, m1, m2, m3⟩ := HM3.out k hlt
          replace m0 := (hw.cellAt (p := ⟨b, off + k * 4 + 0, none⟩) hb (fun x => x)).trans m0
          replace m1 := (hw.cellAt (p := ⟨b, off + k * 4 + 1, none⟩) hb (fun x => x)).trans m1
          replace m2 := (hw.cellAt (p := ⟨b, off + k * 4 + 2, none⟩) hb (fun x => x)).trans m2
          replace m3 := (hw.cellAt (p := ⟨b, off + k * 4 + 3, none⟩) hb (fun x => x)).trans m3
          simp only [Nat.add_zero] at m0
          have hbr : b < wr.heap.size := Nat.lt_of_lt_of_le hb hw.size
          have HT := Lib.hid (take_next ms1 k hlt)
          have hdk : decide ((k : Int) < (ms1.length : Int)) = true := by simp; omega
          have HG := Lib.hid (own_good l1 n (ms1.take k) h1 h16)
          generalize ms1[k] = mv at m0 m1 m2 m3 HT
          obtain ⟨mth, mop, marg, mdata⟩ := mv
          simp only at m0 m1 m2 m3
          clear hw
          go_wp2_with (go_at_call 17; refine ((hI.out.keep ((Only.refl _ wr).alloc _)).move (ownK_ok _) (i := 4) rfl HG.out ⟨mth, mop, marg, mdata⟩).mono ?_; rintro e w7 ⟨rfl, hc7⟩; have HN : Hid (CW w [Thing.box w.heap.size w.heap.size (.cells #[.int .i64 (n : Int), .slice ox l1.length cx, .slice (some ⟨b, off, none⟩) ms1.length cm] 45 (0, 0)), Thing.run w.heap.size (⟨.slice rwo0 r.calls.length rwc0, .slice rwo1 r.trace.length rwc1, .slice rwo2 r.shifts.length rwc2, .slice rwo3 r.words.length rwc3⟩ : RunVs) r, Thing.box w.heap.size bw (.cells #[.slice rwo0 r.calls.length rwc0, .slice rwo1 r.trace.length rwc1, .slice rwo2 r.shifts.length rwc2, .slice rwo3 r.words.length rwc3] 41 (0, 0)), Thing.row1 w.heap.size (.slice o5 l1.length c5) l1.length, Thing.pm2 (base := w.heap.size) (ownK_ok _) xb (.map (some kb)) ((PM.init (ownK l1.length) l1 n ()).goes (ms1.take (k + 1)))] w7) := Lib.hid (by rw [HT.out, PM.goes_snoc]; exact hc7); clear hc7)
          go_roundg (ms1.length - (k + 1))
          case measure => omega
          case rel => exact ⟨k + 1, by omega, by omega, by go_num, HN⟩
        · obtain rfl : k = ms1.length := by omega
          have HC9 := Lib.hid hI.out
          clear hI hw
          rw [List.take_length] at HC9
          have sb := HC9.out.box (i := 0) rfl
          have s0 : wr.cell? ⟨w.heap.size, 0, none⟩ = some (.int .i64 (n : Int)) := by simp [World.cell?, sb]
          have s1 : wr.cell? ⟨w.heap.size, 1, none⟩ = some (.slice ox l1.length cx) := by simp [World.cell?, sb]
          have s2 : wr.cell? ⟨w.heap.size, 2, none⟩ = some (.slice om ms1.length cm) := by simp [World.cell?, sb]
          have sl := (Array.getElem?_eq_some_iff.1 sb).1
          clear sb
          have HGE := Lib.hid (own_good l1 n ms1 h1 h16)
          clear hk1 hk2 hlt
          go_upto_region 19 with (first
            | (go_at_call 19; refine (HCA.out.mrun (ownK_ok _) (i := 4) rfl HGE.out (by rw [own_len]; omega)).mono ?_; rintro e wB ⟨x, rfl, hx, hoq⟩; rw [HRN.out] at hx; obtain ⟨rbo0, rbc0, rbo1, rbc1, rbo2, rbc2, rbo3, rbc3, rfl⟩ := hx.forms; (unfold RunVs.v); have HCB := Lib.hid (HCA.out.addRun hoq hx); clear hx hoq)
            | (go_at_call 19; refine (HC9.out.mrun (ownK_ok _) (i := 4) rfl HGE.out (by rw [own_len]; omega)).mono ?_; rintro e wA ⟨x, rfl, hx, hoq⟩; rw [HRN.out] at hx; obtain ⟨rao0, rac0, rao1, rac1, rao2, rac2, rao3, rac3, rfl⟩ := hx.forms; (unfold RunVs.v); have HCA := Lib.hid (HC9.out.addRun hoq hx); clear hx hoq))
          refine gen_world ?_
          intro W10 hW
          obtain ⟨bb, hbb⟩ : ∃ bb, bb = wB.heap.size + 1 := ⟨_, rfl⟩
          obtain ⟨ba, hba⟩ : ∃ ba, ba = wB.heap.size := ⟨_, rfl⟩
          have HC10 : Hid (CW w [Thing.box w.heap.size w.heap.size (.cells #[.int .i64 (n : Int), .slice ox l1.length cx, .slice om ms1.length cm] 45 (0, 0)), Thing.run w.heap.size (⟨.slice rwo0 r.calls.length rwc0, .slice rwo1 r.trace.length rwc1, .slice rwo2 r.shifts.length rwc2, .slice rwo3 r.words.length rwc3⟩ : RunVs) r, Thing.box w.heap.size bw (.cells #[.slice rwo0 r.calls.length rwc0, .slice rwo1 r.trace.length rwc1, .slice rwo2 r.shifts.length rwc2, .slice rwo3 r.words.length rwc3] 41 (0, 0)), Thing.row1 w.heap.size (.slice o5 l1.length c5) l1.length, Thing.pm2 (base := w.heap.size) (ownK_ok _) xb (.map (some kb)) ((PM.init (ownK l1.length) l1 n ()).goes ms1), Thing.run w.heap.size (⟨.slice rao0 r.calls.length rac0, .slice rao1 r.trace.length rac1, .slice rao2 r.shifts.length rac2, .slice rao3 r.words.length rac3⟩ : RunVs) r, Thing.run w.heap.size (⟨.slice rbo0 r.calls.length rbc0, .slice rbo1 r.trace.length rbc1, .slice rbo2 r.shifts.length rbc2, .slice rbo3 r.words.length rbc3⟩ : RunVs) r, Thing.box w.heap.size ba (.cells #[.slice rao0 r.calls.length rac0, .slice rao1 r.trace.length rac1, .slice rao2 r.shifts.length rac2, .slice rao3 r.words.length rac3] 41 (0, 0)), Thing.box w.heap.size bb (.cells #[.slice rbo0 r.calls.length rbc0, .slice rbo1 r.trace.length rbc1, .slice rbo2 r.shifts.length rbc2, .slice rbo3 r.words.length rbc3] 41 (0, 0))] W10) := Lib.hid (by rw [hW, hbb, hba]; exact (HCB.out.addBox ((Only.refl _ _).alloc _) (heap_alloc_new _ _) (Nat.le_refl _)).addBox ((Only.refl _ _).alloc _) (heap_alloc_at (by simp)) (by simp))
          rw [← hbb, ← hba]
          clear hW HCA HCB HC9 hba hbb s0 s1 s2 sl
          clear wA wB
          have sb := HC10.out.box (i := 0) rfl
          have s0 : W10.cell? ⟨w.heap.size, 0, none⟩ = some (.int .i64 (n : Int)) := by simp [World.cell?, sb]
          have s1 : W10.cell? ⟨w.heap.size, 1, none⟩ = some (.slice ox l1.length cx) := by simp [World.cell?, sb]
          have s2 : W10.cell? ⟨w.heap.size, 2, none⟩ = some (.slice om ms1.length cm) := by simp [World.cell?, sb]
          have sl := (Array.getElem?_eq_some_iff.1 sb).1
          clear sb
          go_upto_region 20 with (go_at_call 21; refine (HPP.out _ HC10.out.on).mono ?_; rintro e w11 ⟨x, rfl, hx, ho3⟩; obtain ⟨rpo0, rpc0, rpo1, rpc1, rpo2, rpc2, rpo3, rpc3, rfl⟩ := hx.forms; (unfold RunVs.v); have HT := Lib.hid (HC10.out.addRun ho3 hx); clear hx ho3)
          refine gen_world ?_
          intro W11 hW
          obtain ⟨bp, hbn⟩ : ∃ bp, bp = w11.heap.size := ⟨_, rfl⟩
          have HC11 : Hid (CW w [Thing.box w.heap.size w.heap.size (.cells #[.int .i64 (n : Int), .slice ox l1.length cx, .slice om ms1.length cm] 45 (0, 0)), Thing.run w.heap.size (⟨.slice rwo0 r.calls.length rwc0, .slice rwo1 r.trace.length rwc1, .slice rwo2 r.shifts.length rwc2, .slice rwo3 r.words.length rwc3⟩ : RunVs) r, Thing.box w.heap.size bw (.cells #[.slice rwo0 r.calls.length rwc0, .slice rwo1 r.trace.length rwc1, .slice rwo2 r.shifts.length rwc2, .slice rwo3 r.words.length rwc3] 41 (0, 0)), Thing.row1 w.heap.size (.slice o5 l1.length c5) l1.length, Thing.pm2 (base := w.heap.size) (ownK_ok _) xb (.map (some kb)) ((PM.init (ownK l1.length) l1 n ()).goes ms1), Thing.run w.heap.size (⟨.slice rao0 r.calls.length rac0, .slice rao1 r.trace.length rac1, .slice rao2 r.shifts.length rac2, .slice rao3 r.words.length rac3⟩ : RunVs) r, Thing.run w.heap.size (⟨.slice rbo0 r.calls.length rbc0, .slice rbo1 r.trace.length rbc1, .slice rbo2 r.shifts.length rbc2, .slice rbo3 r.words.length rbc3⟩ : RunVs) r, Thing.box w.heap.size ba (.cells #[.slice rao0 r.calls.length rac0, .slice rao1 r.trace.length rac1, .slice rao2 r.shifts.length rac2, .slice rao3 r.words.length rac3] 41 (0, 0)), Thing.box w.heap.size bb (.cells #[.slice rbo0 r.calls.length rbc0, .slice rbo1 r.trace.length rbc1, .slice rbo2 r.shifts.length rbc2, .slice rbo3 r.words.length rbc3] 41 (0, 0)), Thing.run w.heap.size (⟨.slice rpo0 r.calls.length rpc0, .slice rpo1 r.trace.length rpc1, .slice rpo2 r.shifts.length rpc2, .slice rpo3 r.words.length rpc3⟩ : RunVs) r, Thing.box w.heap.size bp (.cells #[.slice rpo0 r.calls.length rpc0, .slice rpo1 r.trace.length rpc1, .slice rpo2 r.shifts.length rpc2, .slice rpo3 r.words.length rpc3] 41 (0, 0))] W11) := Lib.hid (by rw [hW, hbn]; exact HT.out.addBox ((Only.refl _ _).alloc _) (heap_alloc_new _ _) (Nat.le_refl _))
          rw [← hbn]
          clear hW HT HC10 s0 s1 s2 sl hbn
          clear w11
          have sb := HC11.out.box (i := 0) rfl
          have s0 : W11.cell? ⟨w.heap.size, 0, none⟩ = some (.int .i64 (n : Int)) := by simp [World.cell?, sb]
          have s1 : W11.cell? ⟨w.heap.size, 1, none⟩ = some (.slice ox l1.length cx) := by simp [World.cell?, sb]
          have s2 : W11.cell? ⟨w.heap.size, 2, none⟩ = some (.slice om ms1.length cm) := by simp [World.cell?, sb]
          have sl := (Array.getElem?_eq_some_iff.1 sb).1
          clear sb
          go_upto_region 21 with (go_at_call 21; refine (HPP.out _ HC11.out.on).mono ?_; rintro e w12 ⟨x, rfl, hx, ho3⟩; obtain ⟨rqo0, rqc0, rqo1, rqc1, rqo2, rqc2, rqo3, rqc3, rfl⟩ := hx.forms; (unfold RunVs.v); have HT := Lib.hid (HC11.out.addRun ho3 hx); clear hx ho3)
          refine gen_world ?_
          intro W12 hW
          obtain ⟨bq, hbn⟩ : ∃ bq, bq = w12.heap.size := ⟨_, rfl⟩
          have HC12 : Hid (CW w [Thing.box w.heap.size w.heap.size (.cells #[.int .i64 (n : Int), .slice ox l1.length cx, .slice om ms1.length cm] 45 (0, 0)), Thing.run w.heap.size (⟨.slice rwo0 r.calls.length rwc0, .slice rwo1 r.trace.length rwc1, .slice rwo2 r.shifts.length rwc2, .slice rwo3 r.words.length rwc3⟩ : RunVs) r, Thing.box w.heap.size bw (.cells #[.slice rwo0 r.calls.length rwc0, .slice rwo1 r.trace.length rwc1, .slice rwo2 r.shifts.length rwc2, .slice rwo3 r.words.length rwc3] 41 (0, 0)), Thing.row1 w.heap.size (.slice o5 l1.length c5) l1.length, Thing.pm2 (base := w.heap.size) (ownK_ok _) xb (.map (some kb)) ((PM.init (ownK l1.length) l1 n ()).goes ms1), Thing.run w.heap.size (⟨.slice rao0 r.calls.length rac0, .slice rao1 r.trace.length rac1, .slice rao2 r.shifts.length rac2, .slice rao3 r.words.length rac3⟩ : RunVs) r, Thing.run w.heap.size (⟨.slice rbo0 r.calls.length rbc0, .slice rbo1 r.trace.length rbc1, .slice rbo2 r.shifts.length rbc2, .slice rbo3 r.words.length rbc3⟩ : RunVs) r, Thing.box w.heap.size ba (.cells #[.slice rao0 r.calls.length rac0, .slice rao1 r.trace.length rac1, .slice rao2 r.shifts.length rac2, .slice rao3 r.words.length rac3] 41 (0, 0)), Thing.box w.heap.size bb (.cells #[.slice rbo0 r.calls.length rbc0, .slice rbo1 r.trace.length rbc1, .slice rbo2 r.shifts.length rbc2, .slice rbo3 r.words.length rbc3] 41 (0, 0)), Thing.run w.heap.size (⟨.slice rpo0 r.calls.length rpc0, .slice rpo1 r.trace.length rpc1, .slice rpo2 r.shifts.length rpc2, .slice rpo3 r.words.length rpc3⟩ : RunVs) r, Thing.box w.heap.size bp (.cells #[.slice rpo0 r.calls.length rpc0, .slice rpo1 r.trace.length rpc1, .slice rpo2 r.shifts.length rpc2, .slice rpo3 r.words.length rpc3] 41 (0, 0)), Thing.run w.heap.size (⟨.slice rqo0 r.calls.length rqc0, .slice rqo1 r.trace.length rqc1, .slice rqo2 r.shifts.length rqc2, .slice rqo3 r.words.length rqc3⟩ : RunVs) r, Thing.box w.heap.size bq (.cells #[.slice rqo0 r.calls.length rqc0, .slice rqo1 r.trace.length rqc1, .slice rqo2 r.shifts.length rqc2, .slice rqo3 r.words.length rqc3] 41 (0, 0))] W12) := Lib.hid (by rw [hW, hbn]; exact HT.out.addBox ((Only.refl _ _).alloc _) (heap_alloc_new _ _) (Nat.le_refl _))
          rw [← hbn]
          clear hW HT HC11 s0 s1 s2 sl hbn
          clear w12
          have wb := HC12.out.box (i := 2) rfl
          have w0 : W12.cell? ⟨bw, 0, none⟩ = some (.slice rwo0 r.calls.length rwc0) := by simp [World.cell?, wb]
          have w1 : W12.cell? ⟨bw, 1, none⟩ = some (.slice rwo1 r.trace.length rwc1) := by simp [World.cell?, wb]
          have w2 : W12.cell? ⟨bw, 2, none⟩ = some (.slice rwo2 r.shifts.length rwc2) := by simp [World.cell?, wb]
          have w3 : W12.cell? ⟨bw, 3, none⟩ = some (.slice rwo3 r.words.length rwc3) := by simp [World.cell?, wb]
          have wl := (Array.getElem?_eq_some_iff.1 wb).1
          clear wb
          have ab := HC12.out.box (i := 7) rfl
          have a0 : W12.cell? ⟨ba, 0, none⟩ = some (.slice rao0 r.calls.length rac0) := by simp [World.cell?, ab]
          have a1 : W12.cell? ⟨ba, 1, none⟩ = some (.slice rao1 r.trace.length rac1) := by simp [World.cell?, ab]
          have a2 : W12.cell? ⟨ba, 2, none⟩ = some (.slice rao2 r.shifts.length rac2) := by simp [World.cell?, ab]
          have a3 : W12.cell? ⟨ba, 3, none⟩ = some (.slice rao3 r.words.length rac3) := by simp [World.cell?, ab]
          have al := (Array.getElem?_eq_some_iff.1 ab).1
          clear ab
          have bb := HC12.out.box (i := 10) rfl
          have b0 : W12.cell? ⟨bp, 0, none⟩ = some (.slice rpo0 r.calls.length rpc0) := by simp [World.cell?, bb]
          have b1 : W12.cell? ⟨bp, 1, none⟩ = some (.slice rpo1 r.trace.length rpc1) := by simp [World.cell?, bb]
          have b2 : W12.cell? ⟨bp, 2, none⟩ = some (.slice rpo2 r.shifts.length rpc2) := by simp [World.cell?, bb]
          have b3 : W12.cell? ⟨bp, 3, none⟩ = some (.slice rpo3 r.words.length rpc3) := by simp [World.cell?, bb]
          have bl := (Array.getElem?_eq_some_iff.1 bb).1
          clear bb
          have HAra : Hid (∀ W, Only (fun _ => False) W12 W → Calls Try.prog 23 #[.agg #[.slice rao0 r.calls.length rac0, .slice rao1 r.trace.length rac1, .slice rao2 r.shifts.length rac2, .slice rao3 r.words.length rac3], .agg #[.slice rwo0 r.calls.length rwc0, .slice rwo1 r.trace.length rwc1, .slice rwo2 r.shifts.length rwc2, .slice rwo3 r.words.length rwc3]] W fun e w' => e = .returned (.bool true) ∧ Below W.heap.size W w') := Lib.hid (fun W ho => sameRun_yes (x := (⟨.slice rao0 r.calls.length rac0, .slice rao1 r.trace.length rac1, .slice rao2 r.shifts.length rac2, .slice rao3 r.words.length rac3⟩ : RunVs)) (y := (⟨.slice rwo0 r.calls.length rwc0, .slice rwo1 r.trace.length rwc1, .slice rwo2 r.shifts.length rwc2, .slice rwo3 r.words.length rwc3⟩ : RunVs)) ((HC12.out.runSrc (i := 5) rfl).only ho) ((HC12.out.runSrc (i := 1) rfl).only ho) HSM.out.1 HSM.out.2.1 HSM.out.2.2.1 HSM.out.2.2.2)
          have HArp : Hid (∀ W, Only (fun _ => False) W12 W → Calls Try.prog 23 #[.agg #[.slice rpo0 r.calls.length rpc0, .slice rpo1 r.trace.length rpc1, .slice rpo2 r.shifts.length rpc2, .slice rpo3 r.words.length rpc3], .agg #[.slice rwo0 r.calls.length rwc0, .slice rwo1 r.trace.length rwc1, .slice rwo2 r.shifts.length rwc2, .slice rwo3 r.words.length rwc3]] W fun e w' => e = .returned (.bool true) ∧ Below W.heap.size W w') := Lib.hid (fun W ho => sameRun_yes (x := (⟨.slice rpo0 r.calls.length rpc0, .slice rpo1 r.trace.length rpc1, .slice rpo2 r.shifts.length rpc2, .slice rpo3 r.words.length rpc3⟩ : RunVs)) (y := (⟨.slice rwo0 r.calls.length rwc0, .slice rwo1 r.trace.length rwc1, .slice rwo2 r.shifts.length rwc2, .slice rwo3 r.words.length rwc3⟩ : RunVs)) ((HC12.out.runSrc (i := 9) rfl).only ho) ((HC12.out.runSrc (i := 1) rfl).only ho) HSM.out.1 HSM.out.2.1 HSM.out.2.2.1 HSM.out.2.2.2)
          go_wp2_with fail
          refine (HAra.out _ (Only.refl _ _)).mono ?_
          rintro e wq ⟨rfl, hbq⟩
          obtain ⟨osA, dA, rfl⟩ := hbq.more
          clear hbq HAra
          go_wp2_with fail
          refine (HArp.out _ (by repeat (first | exact Only.refl _ _ | apply Only.alloc | apply Only.drew | apply Only.more))).mono ?_
          rintro e wq ⟨rfl, hbq⟩
          obtain ⟨osB, dB, rfl⟩ := hbq.more
          clear hbq HArp
          go_upto_region 23 with (fail)
          refine gen_world ?_
          intro W13 hW
          have HC13 : Hid (CW w [Thing.box w.heap.size w.heap.size (.cells #[.int .i64 (n : Int), .slice ox l1.length cx, .slice om ms1.length cm] 45 (0, 0)), Thing.run w.heap.size (⟨.slice rwo0 r.calls.length rwc0, .slice rwo1 r.trace.length rwc1, .slice rwo2 r.shifts.length rwc2, .slice rwo3 r.words.length rwc3⟩ : RunVs) r, Thing.box w.heap.size bw (.cells #[.slice rwo0 r.calls.length rwc0, .slice rwo1 r.trace.length rwc1, .slice rwo2 r.shifts.length rwc2, .slice rwo3 r.words.length rwc3] 41 (0, 0)), Thing.row1 w.heap.size (.slice o5 l1.length c5) l1.length, Thing.pm2 (base := w.heap.size) (ownK_ok _) xb (.map (some kb)) ((PM.init (ownK l1.length) l1 n ()).goes ms1), Thing.run w.heap.size (⟨.slice rao0 r.calls.length rac0, .slice rao1 r.trace.length rac1, .slice rao2 r.shifts.length rac2, .slice rao3 r.words.length rac3⟩ : RunVs) r, Thing.run w.heap.size (⟨.slice rbo0 r.calls.length rbc0, .slice rbo1 r.trace.length rbc1, .slice rbo2 r.shifts.length rbc2, .slice rbo3 r.words.length rbc3⟩ : RunVs) r, Thing.box w.heap.size ba (.cells #[.slice rao0 r.calls.length rac0, .slice rao1 r.trace.length rac1, .slice rao2 r.shifts.length rac2, .slice rao3 r.words.length rac3] 41 (0, 0)), Thing.box w.heap.size bb (.cells #[.slice rbo0 r.calls.length rbc0, .slice rbo1 r.trace.length rbc1, .slice rbo2 r.shifts.length rbc2, .slice rbo3 r.words.length rbc3] 41 (0, 0)), Thing.run w.heap.size (⟨.slice rpo0 r.calls.length rpc0, .slice rpo1 r.trace.length rpc1, .slice rpo2 r.shifts.length rpc2, .slice rpo3 r.words.length rpc3⟩ : RunVs) r, Thing.box w.heap.size bp (.cells #[.slice rpo0 r.calls.length rpc0, .slice rpo1 r.trace.length rpc1, .slice rpo2 r.shifts.length rpc2, .slice rpo3 r.words.length rpc3] 41 (0, 0)), Thing.run w.heap.size (⟨.slice rqo0 r.calls.length rqc0, .slice rqo1 r.trace.length rqc1, .slice rqo2 r.shifts.length rqc2, .slice rqo3 r.words.length rqc3⟩ : RunVs) r, Thing.box w.heap.size bq (.cells #[.slice rqo0 r.calls.length rqc0, .slice rqo1 r.trace.length rqc1, .slice rqo2 r.shifts.length rqc2, .slice rqo3 r.words.length rqc3] 41 (0, 0))] W13) := Lib.hid (HC12.out.keep (by rw [hW]; repeat (first | exact Only.refl _ _ | apply Only.alloc | apply Only.drew | apply Only.more)))
          clear hW HC12 w0 w1 w2 w3 wl a0 a1 a2 a3 al b0 b1 b2 b3 bl
          have ab := HC13.out.box (i := 7) rfl
          have a0 : W13.cell? ⟨ba, 0, none⟩ = some (.slice rao0 r.calls.length rac0) := by simp [World.cell?, ab]
          have a1 : W13.cell? ⟨ba, 1, none⟩ = some (.slice rao1 r.trace.length rac1) := by simp [World.cell?, ab]
          have a2 : W13.cell? ⟨ba, 2, none⟩ = some (.slice rao2 r.shifts.length rac2) := by simp [World.cell?, ab]
          have a3 : W13.cell? ⟨ba, 3, none⟩ = some (.slice rao3 r.words.length rac3) := by simp [World.cell?, ab]
          have al := (Array.getElem?_eq_some_iff.1 ab).1
          clear ab
          go_upto_region 24 with (go_at_call 30; refine (HC13.out.spoil (i := 5) rfl HSM.out 1000 (by decide) (by decide)).mono ?_; rintro e w14 ⟨y, rfl, hc3⟩; obtain ⟨yao0, yac0, yao1, yac1, yao2, yac2, yao3, yac3, rfl⟩ := spt_forms (hc3.spt (i := 5) rfl).2; (unfold RunVs.v); have HT : Hid (CW w [Thing.box w.heap.size w.heap.size (.cells #[.int .i64 (n : Int), .slice ox l1.length cx, .slice om ms1.length cm] 45 (0, 0)), Thing.run w.heap.size (⟨.slice rwo0 r.calls.length rwc0, .slice rwo1 r.trace.length rwc1, .slice rwo2 r.shifts.length rwc2, .slice rwo3 r.words.length rwc3⟩ : RunVs) r, Thing.box w.heap.size bw (.cells #[.slice rwo0 r.calls.length rwc0, .slice rwo1 r.trace.length rwc1, .slice rwo2 r.shifts.length rwc2, .slice rwo3 r.words.length rwc3] 41 (0, 0)), Thing.row1 w.heap.size (.slice o5 l1.length c5) l1.length, Thing.pm2 (base := w.heap.size) (ownK_ok _) xb (.map (some kb)) ((PM.init (ownK l1.length) l1 n ()).goes ms1), Thing.spt w.heap.size (⟨.slice rao0 r.calls.length rac0, .slice rao1 r.trace.length rac1, .slice rao2 r.shifts.length rac2, .slice rao3 r.words.length rac3⟩ : RunVs) (⟨.slice yao0 (r.calls.length + 70) yac0, .slice yao1 (r.trace.length + 70) yac1, .slice yao2 (r.shifts.length + 70) yac2, .slice yao3 (r.words.length + 70) yac3⟩ : RunVs) (spEnd r 1000 0 0 0 0) (spEnd r 1000 70 70 70 70), Thing.run w.heap.size (⟨.slice rbo0 r.calls.length rbc0, .slice rbo1 r.trace.length rbc1, .slice rbo2 r.shifts.length rbc2, .slice rbo3 r.words.length rbc3⟩ : RunVs) r, Thing.box w.heap.size ba (.cells #[.slice rao0 r.calls.length rac0, .slice rao1 r.trace.length rac1, .slice rao2 r.shifts.length rac2, .slice rao3 r.words.length rac3] 41 (0, 0)), Thing.box w.heap.size bb (.cells #[.slice rbo0 r.calls.length rbc0, .slice rbo1 r.trace.length rbc1, .slice rbo2 r.shifts.length rbc2, .slice rbo3 r.words.length rbc3] 41 (0, 0)), Thing.run w.heap.size (⟨.slice rpo0 r.calls.length rpc0, .slice rpo1 r.trace.length rpc1, .slice rpo2 r.shifts.length rpc2, .slice rpo3 r.words.length rpc3⟩ : RunVs) r, Thing.box w.heap.size bp (.cells #[.slice rpo0 r.calls.length rpc0, .slice rpo1 r.trace.length rpc1, .slice rpo2 r.shifts.length rpc2, .slice rpo3 r.words.length rpc3] 41 (0, 0)), Thing.run w.heap.size (⟨.slice rqo0 r.calls.length rqc0, .slice rqo1 r.trace.length rqc1, .slice rqo2 r.shifts.length rqc2, .slice rqo3 r.words.length rqc3⟩ : RunVs) r, Thing.box w.heap.size bq (.cells #[.slice rqo0 r.calls.length rqc0, .slice rqo1 r.trace.length rqc1, .slice rqo2 r.shifts.length rqc2, .slice rqo3 r.words.length rqc3] 41 (0, 0))] w14) := Lib.hid hc3; clear hc3)
          refine gen_world ?_
          intro W14 hW
          obtain ⟨da, hbn⟩ : ∃ da, da = w14.heap.size := ⟨_, rfl⟩
          have HC14 : Hid (CW w [Thing.box w.heap.size w.heap.size (.cells #[.int .i64 (n : Int), .slice ox l1.length cx, .slice om ms1.length cm] 45 (0, 0)), Thing.run w.heap.size (⟨.slice rwo0 r.calls.length rwc0, .slice rwo1 r.trace.length rwc1, .slice rwo2 r.shifts.length rwc2, .slice rwo3 r.words.length rwc3⟩ : RunVs) r, Thing.box w.heap.size bw (.cells #[.slice rwo0 r.calls.length rwc0, .slice rwo1 r.trace.length rwc1, .slice rwo2 r.shifts.length rwc2, .slice rwo3 r.words.length rwc3] 41 (0, 0)), Thing.row1 w.heap.size (.slice o5 l1.length c5) l1.length, Thing.pm2 (base := w.heap.size) (ownK_ok _) xb (.map (some kb)) ((PM.init (ownK l1.length) l1 n ()).goes ms1), Thing.spt w.heap.size (⟨.slice rao0 r.calls.length rac0, .slice rao1 r.trace.length rac1, .slice rao2 r.shifts.length rac2, .slice rao3 r.words.length rac3⟩ : RunVs) (⟨.slice yao0 (r.calls.length + 70) yac0, .slice yao1 (r.trace.length + 70) yac1, .slice yao2 (r.shifts.length + 70) yac2, .slice yao3 (r.words.length + 70) yac3⟩ : RunVs) (spEnd r 1000 0 0 0 0) (spEnd r 1000 70 70 70 70), Thing.run w.heap.size (⟨.slice rbo0 r.calls.length rbc0, .slice rbo1 r.trace.length rbc1, .slice rbo2 r.shifts.length rbc2, .slice rbo3 r.words.length rbc3⟩ : RunVs) r, Thing.box w.heap.size ba (.cells #[.slice rao0 r.calls.length rac0, .slice rao1 r.trace.length rac1, .slice rao2 r.shifts.length rac2, .slice rao3 r.words.length rac3] 41 (0, 0)), Thing.box w.heap.size bb (.cells #[.slice rbo0 r.calls.length rbc0, .slice rbo1 r.trace.length rbc1, .slice rbo2 r.shifts.length rbc2, .slice rbo3 r.words.length rbc3] 41 (0, 0)), Thing.run w.heap.size (⟨.slice rpo0 r.calls.length rpc0, .slice rpo1 r.trace.length rpc1, .slice rpo2 r.shifts.length rpc2, .slice rpo3 r.words.length rpc3⟩ : RunVs) r, Thing.box w.heap.size bp (.cells #[.slice rpo0 r.calls.length rpc0, .slice rpo1 r.trace.length rpc1, .slice rpo2 r.shifts.length rpc2, .slice rpo3 r.words.length rpc3] 41 (0, 0)), Thing.run w.heap.size (⟨.slice rqo0 r.calls.length rqc0, .slice rqo1 r.trace.length rqc1, .slice rqo2 r.shifts.length rqc2, .slice rqo3 r.words.length rqc3⟩ : RunVs) r, Thing.box w.heap.size bq (.cells #[.slice rqo0 r.calls.length rqc0, .slice rqo1 r.trace.length rqc1, .slice rqo2 r.shifts.length rqc2, .slice rqo3 r.words.length rqc3] 41 (0, 0)), Thing.box w.heap.size da (.cells #[.slice yao0 (r.calls.length + 70) yac0, .slice yao1 (r.trace.length + 70) yac1, .slice yao2 (r.shifts.length + 70) yac2, .slice yao3 (r.words.length + 70) yac3] 41 (0, 0))] W14) := Lib.hid (by rw [hW, hbn]; exact HT.out.addBox ((Only.refl _ _).alloc _) (heap_alloc_new _ _) (Nat.le_refl _))
          rw [← hbn]
          clear hW HT HC13 a0 a1 a2 a3 al hbn
          clear w14
          have ab := HC14.out.box (i := 10) rfl
          have a0 : W14.cell? ⟨bp, 0, none⟩ = some (.slice rpo0 r.calls.length rpc0) := by simp [World.cell?, ab]
          have a1 : W14.cell? ⟨bp, 1, none⟩ = some (.slice rpo1 r.trace.length rpc1) := by simp [World.cell?, ab]
          have a2 : W14.cell? ⟨bp, 2, none⟩ = some (.slice rpo2 r.shifts.length rpc2) := by simp [World.cell?, ab]
          have a3 : W14.cell? ⟨bp, 3, none⟩ = some (.slice rpo3 r.words.length rpc3) := by simp [World.cell?, ab]
          have al := (Array.getElem?_eq_some_iff.1 ab).1
          clear ab
          go_upto_region 25 with (go_at_call 30; refine (HC14.out.spoil (i := 9) rfl HSM.out 2000 (by decide) (by decide)).mono ?_; rintro e w15 ⟨y, rfl, hc3⟩; obtain ⟨ypo0, ypc0, ypo1, ypc1, ypo2, ypc2, ypo3, ypc3, rfl⟩ := spt_forms (hc3.spt (i := 9) rfl).2; (unfold RunVs.v); have HT : Hid (CW w [Thing.box w.heap.size w.heap.size (.cells #[.int .i64 (n : Int), .slice ox l1.length cx, .slice om ms1.length cm] 45 (0, 0)), Thing.run w.heap.size (⟨.slice rwo0 r.calls.length rwc0, .slice rwo1 r.trace.length rwc1, .slice rwo2 r.shifts.length rwc2, .slice rwo3 r.words.length rwc3⟩ : RunVs) r, Thing.box w.heap.size bw (.cells #[.slice rwo0 r.calls.length rwc0, .slice rwo1 r.trace.length rwc1, .slice rwo2 r.shifts.length rwc2, .slice rwo3 r.words.length rwc3] 41 (0, 0)), Thing.row1 w.heap.size (.slice o5 l1.length c5) l1.length, Thing.pm2 (base := w.heap.size) (ownK_ok _) xb (.map (some kb)) ((PM.init (ownK l1.length) l1 n ()).goes ms1), Thing.spt w.heap.size (⟨.slice rao0 r.calls.length rac0, .slice rao1 r.trace.length rac1, .slice rao2 r.shifts.length rac2, .slice rao3 r.words.length rac3⟩ : RunVs) (⟨.slice yao0 (r.calls.length + 70) yac0, .slice yao1 (r.trace.length + 70) yac1, .slice yao2 (r.shifts.length + 70) yac2, .slice yao3 (r.words.length + 70) yac3⟩ : RunVs) (spEnd r 1000 0 0 0 0) (spEnd r 1000 70 70 70 70), Thing.run w.heap.size (⟨.slice rbo0 r.calls.length rbc0, .slice rbo1 r.trace.length rbc1, .slice rbo2 r.shifts.length rbc2, .slice rbo3 r.words.length rbc3⟩ : RunVs) r, Thing.box w.heap.size ba (.cells #[.slice rao0 r.calls.length rac0, .slice rao1 r.trace.length rac1, .slice rao2 r.shifts.length rac2, .slice rao3 r.words.length rac3] 41 (0, 0)), Thing.box w.heap.size bb (.cells #[.slice rbo0 r.calls.length rbc0, .slice rbo1 r.trace.length rbc1, .slice rbo2 r.shifts.length rbc2, .slice rbo3 r.words.length rbc3] 41 (0, 0)), Thing.spt w.heap.size (⟨.slice rpo0 r.calls.length rpc0, .slice rpo1 r.trace.length rpc1, .slice rpo2 r.shifts.length rpc2, .slice rpo3 r.words.length rpc3⟩ : RunVs) (⟨.slice ypo0 (r.calls.length + 70) ypc0, .slice ypo1 (r.trace.length + 70) ypc1, .slice ypo2 (r.shifts.length + 70) ypc2, .slice ypo3 (r.words.length + 70) ypc3⟩ : RunVs) (spEnd r 2000 0 0 0 0) (spEnd r 2000 70 70 70 70), Thing.box w.heap.size bp (.cells #[.slice rpo0 r.calls.length rpc0, .slice rpo1 r.trace.length rpc1, .slice rpo2 r.shifts.length rpc2, .slice rpo3 r.words.length rpc3] 41 (0, 0)), Thing.run w.heap.size (⟨.slice rqo0 r.calls.length rqc0, .slice rqo1 r.trace.length rqc1, .slice rqo2 r.shifts.length rqc2, .slice rqo3 r.words.length rqc3⟩ : RunVs) r, Thing.box w.heap.size bq (.cells #[.slice rqo0 r.calls.length rqc0, .slice rqo1 r.trace.length rqc1, .slice rqo2 r.shifts.length rqc2, .slice rqo3 r.words.length rqc3] 41 (0, 0)), Thing.box w.heap.size da (.cells #[.slice yao0 (r.calls.length + 70) yac0, .slice yao1 (r.trace.length + 70) yac1, .slice yao2 (r.shifts.length + 70) yac2, .slice yao3 (r.words.length + 70) yac3] 41 (0, 0))] w15) := Lib.hid hc3; clear hc3)
          refine gen_world ?_
          intro W15 hW
          obtain ⟨dp, hbn⟩ : ∃ dp, dp = w15.heap.size := ⟨_, rfl⟩
          have HC15 : Hid (CW w [Thing.box w.heap.size w.heap.size (.cells #[.int .i64 (n : Int), .slice ox l1.length cx, .slice om ms1.length cm] 45 (0, 0)), Thing.run w.heap.size (⟨.slice rwo0 r.calls.length rwc0, .slice rwo1 r.trace.length rwc1, .slice rwo2 r.shifts.length rwc2, .slice rwo3 r.words.length rwc3⟩ : RunVs) r, Thing.box w.heap.size bw (.cells #[.slice rwo0 r.calls.length rwc0, .slice rwo1 r.trace.length rwc1, .slice rwo2 r.shifts.length rwc2, .slice rwo3 r.words.length rwc3] 41 (0, 0)), Thing.row1 w.heap.size (.slice o5 l1.length c5) l1.length, Thing.pm2 (base := w.heap.size) (ownK_ok _) xb (.map (some kb)) ((PM.init (ownK l1.length) l1 n ()).goes ms1), Thing.spt w.heap.size (⟨.slice rao0 r.calls.length rac0, .slice rao1 r.trace.length rac1, .slice rao2 r.shifts.length rac2, .slice rao3 r.words.length rac3⟩ : RunVs) (⟨.slice yao0 (r.calls.length + 70) yac0, .slice yao1 (r.trace.length + 70) yac1, .slice yao2 (r.shifts.length + 70) yac2, .slice yao3 (r.words.length + 70) yac3⟩ : RunVs) (spEnd r 1000 0 0 0 0) (spEnd r 1000 70 70 70 70), Thing.run w.heap.size (⟨.slice rbo0 r.calls.length rbc0, .slice rbo1 r.trace.length rbc1, .slice rbo2 r.shifts.length rbc2, .slice rbo3 r.words.length rbc3⟩ : RunVs) r, Thing.box w.heap.size ba (.cells #[.slice rao0 r.calls.length rac0, .slice rao1 r.trace.length rac1, .slice rao2 r.shifts.length rac2, .slice rao3 r.words.length rac3] 41 (0, 0)), Thing.box w.heap.size bb (.cells #[.slice rbo0 r.calls.length rbc0, .slice rbo1 r.trace.length rbc1, .slice rbo2 r.shifts.length rbc2, .slice rbo3 r.words.length rbc3] 41 (0, 0)), Thing.spt w.heap.size (⟨.slice rpo0 r.calls.length rpc0, .slice rpo1 r.trace.length rpc1, .slice rpo2 r.shifts.length rpc2, .slice rpo3 r.words.length rpc3⟩ : RunVs) (⟨.slice ypo0 (r.calls.length + 70) ypc0, .slice ypo1 (r.trace.length + 70) ypc1, .slice ypo2 (r.shifts.length + 70) ypc2, .slice ypo3 (r.words.length + 70) ypc3⟩ : RunVs) (spEnd r 2000 0 0 0 0) (spEnd r 2000 70 70 70 70), Thing.box w.heap.size bp (.cells #[.slice rpo0 r.calls.length rpc0, .slice rpo1 r.trace.length rpc1, .slice rpo2 r.shifts.length rpc2, .slice rpo3 r.words.length rpc3] 41 (0, 0)), Thing.run w.heap.size (⟨.slice rqo0 r.calls.length rqc0, .slice rqo1 r.trace.length rqc1, .slice rqo2 r.shifts.length rqc2, .slice rqo3 r.words.length rqc3⟩ : RunVs) r, Thing.box w.heap.size bq (.cells #[.slice rqo0 r.calls.length rqc0, .slice rqo1 r.trace.length rqc1, .slice rqo2 r.shifts.length rqc2, .slice rqo3 r.words.length rqc3] 41 (0, 0)), Thing.box w.heap.size da (.cells #[.slice yao0 (r.calls.length + 70) yac0, .slice yao1 (r.trace.length + 70) yac1, .slice yao2 (r.shifts.length + 70) yac2, .slice yao3 (r.words.length + 70) yac3] 41 (0, 0)), Thing.box w.heap.size dp (.cells #[.slice ypo0 (r.calls.length + 70) ypc0, .slice ypo1 (r.trace.length + 70) ypc1, .slice ypo2 (r.shifts.length + 70) ypc2, .slice ypo3 (r.words.length + 70) ypc3] 41 (0, 0))] W15) := Lib.hid (by rw [hW, hbn]; exact HT.out.addBox ((Only.refl _ _).alloc _) (heap_alloc_new _ _) (Nat.le_refl _))
          rw [← hbn]
          clear hW HT HC14 a0 a1 a2 a3 al hbn
          clear w15
          have wb := HC15.out.box (i := 2) rfl
          have w0 : W15.cell? ⟨bw, 0, none⟩ = some (.slice rwo0 r.calls.length rwc0) := by simp [World.cell?, wb]
          have w1 : W15.cell? ⟨bw, 1, none⟩ = some (.slice rwo1 r.trace.length rwc1) := by simp [World.cell?, wb]
          have w2 : W15.cell? ⟨bw, 2, none⟩ = some (.slice rwo2 r.shifts.length rwc2) := by simp [World.cell?, wb]
          have w3 : W15.cell? ⟨bw, 3, none⟩ = some (.slice rwo3 r.words.length rwc3) := by simp [World.cell?, wb]
          have wl := (Array.getElem?_eq_some_iff.1 wb).1
          clear wb
          have ab := HC15.out.box (i := 8) rfl
          have a0 : W15.cell? ⟨bb, 0, none⟩ = some (.slice rbo0 r.calls.length rbc0) := by simp [World.cell?, ab]
          have a1 : W15.cell? ⟨bb, 1, none⟩ = some (.slice rbo1 r.trace.length rbc1) := by simp [World.cell?, ab]
          have a2 : W15.cell? ⟨bb, 2, none⟩ = some (.slice rbo2 r.shifts.length rbc2) := by simp [World.cell?, ab]
          have a3 : W15.cell? ⟨bb, 3, none⟩ = some (.slice rbo3 r.words.length rbc3) := by simp [World.cell?, ab]
          have al := (Array.getElem?_eq_some_iff.1 ab).1
          clear ab
          have bb := HC15.out.box (i := 12) rfl
          have b0 : W15.cell? ⟨bq, 0, none⟩ = some (.slice rqo0 r.calls.length rqc0) := by simp [World.cell?, bb]
          have b1 : W15.cell? ⟨bq, 1, none⟩ = some (.slice rqo1 r.trace.length rqc1) := by simp [World.cell?, bb]
          have b2 : W15.cell? ⟨bq, 2, none⟩ = some (.slice rqo2 r.shifts.length rqc2) := by simp [World.cell?, bb]
          have b3 : W15.cell? ⟨bq, 3, none⟩ = some (.slice rqo3 r.words.length rqc3) := by simp [World.cell?, bb]
          have bl := (Array.getElem?_eq_some_iff.1 bb).1
          clear bb
          have HArb : Hid (∀ W, Only (fun _ => False) W15 W → Calls Try.prog 23 #[.agg #[.slice rbo0 r.calls.length rbc0, .slice rbo1 r.trace.length rbc1, .slice rbo2 r.shifts.length rbc2, .slice rbo3 r.words.length rbc3], .agg #[.slice rwo0 r.calls.length rwc0, .slice rwo1 r.trace.length rwc1, .slice rwo2 r.shifts.length rwc2, .slice rwo3 r.words.length rwc3]] W fun e w' => e = .returned (.bool true) ∧ Below W.heap.size W w') := Lib.hid (fun W ho => sameRun_yes (x := (⟨.slice rbo0 r.calls.length rbc0, .slice rbo1 r.trace.length rbc1, .slice rbo2 r.shifts.length rbc2, .slice rbo3 r.words.length rbc3⟩ : RunVs)) (y := (⟨.slice rwo0 r.calls.length rwc0, .slice rwo1 r.trace.length rwc1, .slice rwo2 r.shifts.length rwc2, .slice rwo3 r.words.length rwc3⟩ : RunVs)) ((HC15.out.runSrc (i := 6) rfl).only ho) ((HC15.out.runSrc (i := 1) rfl).only ho) HSM.out.1 HSM.out.2.1 HSM.out.2.2.1 HSM.out.2.2.2)
          have HArq : Hid (∀ W, Only (fun _ => False) W15 W → Calls Try.prog 23 #[.agg #[.slice rqo0 r.calls.length rqc0, .slice rqo1 r.trace.length rqc1, .slice rqo2 r.shifts.length rqc2, .slice rqo3 r.words.length rqc3], .agg #[.slice rwo0 r.calls.length rwc0, .slice rwo1 r.trace.length rwc1, .slice rwo2 r.shifts.length rwc2, .slice rwo3 r.words.length rwc3]] W fun e w' => e = .returned (.bool true) ∧ Below W.heap.size W w') := Lib.hid (fun W ho => sameRun_yes (x := (⟨.slice rqo0 r.calls.length rqc0, .slice rqo1 r.trace.length rqc1, .slice rqo2 r.shifts.length rqc2, .slice rqo3 r.words.length rqc3⟩ : RunVs)) (y := (⟨.slice rwo0 r.calls.length rwc0, .slice rwo1 r.trace.length rwc1, .slice rwo2 r.shifts.length rwc2, .slice rwo3 r.words.length rwc3⟩ : RunVs)) ((HC15.out.runSrc (i := 11) rfl).only ho) ((HC15.out.runSrc (i := 1) rfl).only ho) HSM.out.1 HSM.out.2.1 HSM.out.2.2.1 HSM.out.2.2.2)
          go_wp2_with fail
          refine (HArb.out _ (Only.refl _ _)).mono ?_
          rintro e wq ⟨rfl, hbq⟩
          obtain ⟨osA, dA, rfl⟩ := hbq.more
          clear hbq HArb
          go_wp2_with fail
          refine (HArq.out _ (by repeat (first | exact Only.refl _ _ | apply Only.alloc | apply Only.drew | apply Only.more))).mono ?_
          rintro e wq ⟨rfl, hbq⟩
          obtain ⟨osB, dB, rfl⟩ := hbq.more
          clear hbq HArq
          go_upto_region 27 with (fail)
          refine gen_world ?_
          intro W16 hW
          have HC16 : Hid (CW w [Thing.box w.heap.size w.heap.size (.cells #[.int .i64 (n : Int), .slice ox l1.length cx, .slice om ms1.length cm] 45 (0, 0)), Thing.run w.heap.size (⟨.slice rwo0 r.calls.length rwc0, .slice rwo1 r.trace.length rwc1, .slice rwo2 r.shifts.length rwc2, .slice rwo3 r.words.length rwc3⟩ : RunVs) r, Thing.box w.heap.size bw (.cells #[.slice rwo0 r.calls.length rwc0, .slice rwo1 r.trace.length rwc1, .slice rwo2 r.shifts.length rwc2, .slice rwo3 r.words.length rwc3] 41 (0, 0)), Thing.row1 w.heap.size (.slice o5 l1.length c5) l1.length, Thing.pm2 (base := w.heap.size) (ownK_ok _) xb (.map (some kb)) ((PM.init (ownK l1.length) l1 n ()).goes ms1), Thing.spt w.heap.size (⟨.slice rao0 r.calls.length rac0, .slice rao1 r.trace.length rac1, .slice rao2 r.shifts.length rac2, .slice rao3 r.words.length rac3⟩ : RunVs) (⟨.slice yao0 (r.calls.length + 70) yac0, .slice yao1 (r.trace.length + 70) yac1, .slice yao2 (r.shifts.length + 70) yac2, .slice yao3 (r.words.length + 70) yac3⟩ : RunVs) (spEnd r 1000 0 0 0 0) (spEnd r 1000 70 70 70 70), Thing.run w.heap.size (⟨.slice rbo0 r.calls.length rbc0, .slice rbo1 r.trace.length rbc1, .slice rbo2 r.shifts.length rbc2, .slice rbo3 r.words.length rbc3⟩ : RunVs) r, Thing.box w.heap.size ba (.cells #[.slice rao0 r.calls.length rac0, .slice rao1 r.trace.length rac1, .slice rao2 r.shifts.length rac2, .slice rao3 r.words.length rac3] 41 (0, 0)), Thing.box w.heap.size bb (.cells #[.slice rbo0 r.calls.length rbc0, .slice rbo1 r.trace.length rbc1, .slice rbo2 r.shifts.length rbc2, .slice rbo3 r.words.length rbc3] 41 (0, 0)), Thing.spt w.heap.size (⟨.slice rpo0 r.calls.length rpc0, .slice rpo1 r.trace.length rpc1, .slice rpo2 r.shifts.length rpc2, .slice rpo3 r.words.length rpc3⟩ : RunVs) (⟨.slice ypo0 (r.calls.length + 70) ypc0, .slice ypo1 (r.trace.length + 70) ypc1, .slice ypo2 (r.shifts.length + 70) ypc2, .slice ypo3 (r.words.length + 70) ypc3⟩ : RunVs) (spEnd r 2000 0 0 0 0) (spEnd r 2000 70 70 70 70), Thing.box w.heap.size bp (.cells #[.slice rpo0 r.calls.length rpc0, .slice rpo1 r.trace.length rpc1, .slice rpo2 r.shifts.length rpc2, .slice rpo3 r.words.length rpc3] 41 (0, 0)), Thing.run w.heap.size (⟨.slice rqo0 r.calls.length rqc0, .slice rqo1 r.trace.length rqc1, .slice rqo2 r.shifts.length rqc2, .slice rqo3 r.words.length rqc3⟩ : RunVs) r, Thing.box w.heap.size bq (.cells #[.slice rqo0 r.calls.length rqc0, .slice rqo1 r.trace.length rqc1, .slice rqo2 r.shifts.length rqc2, .slice rqo3 r.words.length rqc3] 41 (0, 0)), Thing.box w.heap.size da (.cells #[.slice yao0 (r.calls.length + 70) yac0, .slice yao1 (r.trace.length + 70) yac1, .slice yao2 (r.shifts.length + 70) yac2, .slice yao3 (r.words.length + 70) yac3] 41 (0, 0)), Thing.box w.heap.size dp (.cells #[.slice ypo0 (r.calls.length + 70) ypc0, .slice ypo1 (r.trace.length + 70) ypc1, .slice ypo2 (r.shifts.length + 70) ypc2, .slice ypo3 (r.words.length + 70) ypc3] 41 (0, 0))] W16) := Lib.hid (HC15.out.keep (by rw [hW]; repeat (first | exact Only.refl _ _ | apply Only.alloc | apply Only.drew | apply Only.more)))
          clear hW HC15 w0 w1 w2 w3 wl a0 a1 a2 a3 al b0 b1 b2 b3 bl
          have wb := HC16.out.box (i := 2) rfl
          have w0 : W16.cell? ⟨bw, 0, none⟩ = some (.slice rwo0 r.calls.length rwc0) := by simp [World.cell?, wb]
          have w1 : W16.cell? ⟨bw, 1, none⟩ = some (.slice rwo1 r.trace.length rwc1) := by simp [World.cell?, wb]
          have w2 : W16.cell? ⟨bw, 2, none⟩ = some (.slice rwo2 r.shifts.length rwc2) := by simp [World.cell?, wb]
          have w3 : W16.cell? ⟨bw, 3, none⟩ = some (.slice rwo3 r.words.length rwc3) := by simp [World.cell?, wb]
          have wl := (Array.getElem?_eq_some_iff.1 wb).1
          clear wb
          have q0 := fun q : LaterF (fun _ => False) W16 => q.cell w0 wl (fun x => x)
          have q1 := fun q : LaterF (fun _ => False) W16 => q.cell w1 wl (fun x => x)
          have q2 := fun q : LaterF (fun _ => False) W16 => q.cell w2 wl (fun x => x)
          have q3 := fun q : LaterF (fun _ => False) W16 => q.cell w3 wl (fun x => x)
          refine wp_region_plan (fun wz => ∃ q : LaterF (fun _ => False) W16, wz = q.W) [1, 3] [0, 2] (.fork 1 [] (.tail 3) .none) oper0 (by kernel_rfl) (by kernel_rfl) (laterF_in (Only.refl _ _).drew) ?_
          simp only [wpPlan, List.map_cons, List.map_nil, List.getD_cons_zero, List.getD_cons_succ, List.drop_succ_cons, List.drop_zero]
          repeat (first | go_big_quiet_skip | (go_big_quiet_want; go_big_quiet_op; go_big_quiet_on))
          refine wpQuiet_nil ?_
          refine ⟨?_, trivial⟩
          go_wp2_with (go_at_call 19; refine ((HC16.out.keep (Only.refl _ _).drew).mrun (ownK_ok _) (i := 4) rfl HGE.out (by rw [own_len]; omega)).mono ?_; rintro e wC ⟨x, rfl, hx, hoC⟩; rw [HRN.out] at hx; obtain ⟨rxo0, rxc0, rxo1, rxc1, rxo2, rxc2, rxo3, rxc3, rfl⟩ := hx.forms; (unfold RunVs.v); have HXS := Lib.hid hx.src; have HOC := Lib.hid ((Only.refl (fun _ => False) W16).drew.trans hoC (fun _ x => x.elim)); clear hx hoC)
          refine strict_on ?_
          refine ⟨?_, ?_⟩
          · exact laterF_in HOC.out
          repeat (first | go_big_quiet_skip | (go_big_quiet_want; go_big_quiet_op; go_big_quiet_on))
          refine wpQuiet_nil ?_
          have HCX := Lib.hid (sameRun_yes (x := (⟨.slice rxo0 r.calls.length rxc0, .slice rxo1 r.trace.length rxc1, .slice rxo2 r.shifts.length rxc2, .slice rxo3 r.words.length rxc3⟩ : RunVs)) (y := (⟨.slice rwo0 r.calls.length rwc0, .slice rwo1 r.trace.length rwc1, .slice rwo2 r.shifts.length rwc2, .slice rwo3 r.words.length rwc3⟩ : RunVs)) HXS.out ((HC16.out.runSrc (i := 1) rfl).only HOC.out) HSM.out.1 HSM.out.2.1 HSM.out.2.2.1 HSM.out.2.2.2)
          go_wp2_with fail
          refine HCX.out.mono ?_
          rintro e wq ⟨rfl, hbq⟩
          obtain ⟨osA, dA, rfl⟩ := hbq.more
          clear hbq HCX HXS
          go_upto_region 29 with (fail)
          refine gen_world ?_
          intro W17 hW
          have HC17 : Hid (CW w [Thing.box w.heap.size w.heap.size (.cells #[.int .i64 (n : Int), .slice ox l1.length cx, .slice om ms1.length cm] 45 (0, 0)), Thing.run w.heap.size (⟨.slice rwo0 r.calls.length rwc0, .slice rwo1 r.trace.length rwc1, .slice rwo2 r.shifts.length rwc2, .slice rwo3 r.words.length rwc3⟩ : RunVs) r, Thing.box w.heap.size bw (.cells #[.slice rwo0 r.calls.length rwc0, .slice rwo1 r.trace.length rwc1, .slice rwo2 r.shifts.length rwc2, .slice rwo3 r.words.length rwc3] 41 (0, 0)), Thing.row1 w.heap.size (.slice o5 l1.length c5) l1.length, Thing.pm2 (base := w.heap.size) (ownK_ok _) xb (.map (some kb)) ((PM.init (ownK l1.length) l1 n ()).goes ms1), Thing.spt w.heap.size (⟨.slice rao0 r.calls.length rac0, .slice rao1 r.trace.length rac1, .slice rao2 r.shifts.length rac2, .slice rao3 r.words.length rac3⟩ : RunVs) (⟨.slice yao0 (r.calls.length + 70) yac0, .slice yao1 (r.trace.length + 70) yac1, .slice yao2 (r.shifts.length + 70) yac2, .slice yao3 (r.words.length + 70) yac3⟩ : RunVs) (spEnd r 1000 0 0 0 0) (spEnd r 1000 70 70 70 70), Thing.run w.heap.size (⟨.slice rbo0 r.calls.length rbc0, .slice rbo1 r.trace.length rbc1, .slice rbo2 r.shifts.length rbc2, .slice rbo3 r.words.length rbc3⟩ : RunVs) r, Thing.box w.heap.size ba (.cells #[.slice rao0 r.calls.length rac0, .slice rao1 r.trace.length rac1, .slice rao2 r.shifts.length rac2, .slice rao3 r.words.length rac3] 41 (0, 0)), Thing.box w.heap.size bb (.cells #[.slice rbo0 r.calls.length rbc0, .slice rbo1 r.trace.length rbc1, .slice rbo2 r.shifts.length rbc2, .slice rbo3 r.words.length rbc3] 41 (0, 0)), Thing.spt w.heap.size (⟨.slice rpo0 r.calls.length rpc0, .slice rpo1 r.trace.length rpc1, .slice rpo2 r.shifts.length rpc2, .slice rpo3 r.words.length rpc3⟩ : RunVs) (⟨.slice ypo0 (r.calls.length + 70) ypc0, .slice ypo1 (r.trace.length + 70) ypc1, .slice ypo2 (r.shifts.length + 70) ypc2, .slice ypo3 (r.words.length + 70) ypc3⟩ : RunVs) (spEnd r 2000 0 0 0 0) (spEnd r 2000 70 70 70 70), Thing.box w.heap.size bp (.cells #[.slice rpo0 r.calls.length rpc0, .slice rpo1 r.trace.length rpc1, .slice rpo2 r.shifts.length rpc2, .slice rpo3 r.words.length rpc3] 41 (0, 0)), Thing.run w.heap.size (⟨.slice rqo0 r.calls.length rqc0, .slice rqo1 r.trace.length rqc1, .slice rqo2 r.shifts.length rqc2, .slice rqo3 r.words.length rqc3⟩ : RunVs) r, Thing.box w.heap.size bq (.cells #[.slice rqo0 r.calls.length rqc0, .slice rqo1 r.trace.length rqc1, .slice rqo2 r.shifts.length rqc2, .slice rqo3 r.words.length rqc3] 41 (0, 0)), Thing.box w.heap.size da (.cells #[.slice yao0 (r.calls.length + 70) yac0, .slice yao1 (r.trace.length + 70) yac1, .slice yao2 (r.shifts.length + 70) yac2, .slice yao3 (r.words.length + 70) yac3] 41 (0, 0)), Thing.box w.heap.size dp (.cells #[.slice ypo0 (r.calls.length + 70) ypc0, .slice ypo1 (r.trace.length + 70) ypc1, .slice ypo2 (r.shifts.length + 70) ypc2, .slice ypo3 (r.words.length + 70) ypc3] 41 (0, 0))] W17) := Lib.hid (HC16.out.keep (HOC.out.trans (show Only (fun _ => False) wC W17 by rw [hW]; repeat (first | exact Only.refl _ _ | apply Only.alloc | apply Only.drew | apply Only.more)) (fun _ x => x.elim)))
          clear hW HC16 HOC q0 q1 q2 q3 w0 w1 w2 w3 wl
          clear wC
          have ab := HC17.out.box (i := 8) rfl
          have a0 : W17.cell? ⟨bb, 0, none⟩ = some (.slice rbo0 r.calls.length rbc0) := by simp [World.cell?, ab]
          have a1 : W17.cell? ⟨bb, 1, none⟩ = some (.slice rbo1 r.trace.length rbc1) := by simp [World.cell?, ab]
          have a2 : W17.cell? ⟨bb, 2, none⟩ = some (.slice rbo2 r.shifts.length rbc2) := by simp [World.cell?, ab]
          have a3 : W17.cell? ⟨bb, 3, none⟩ = some (.slice rbo3 r.words.length rbc3) := by simp [World.cell?, ab]
          have al := (Array.getElem?_eq_some_iff.1 ab).1
          clear ab
          go_upto_region 30 with (go_at_call 30; refine (HC17.out.spoil (i := 6) rfl HSM.out 3000 (by decide) (by decide)).mono ?_; rintro e w18 ⟨y, rfl, hc3⟩; obtain ⟨ybo0, ybc0, ybo1, ybc1, ybo2, ybc2, ybo3, ybc3, rfl⟩ := spt_forms (hc3.spt (i := 6) rfl).2; (unfold RunVs.v); have HT : Hid (CW w [Thing.box w.heap.size w.heap.size (.cells #[.int .i64 (n : Int), .slice ox l1.length cx, .slice om ms1.length cm] 45 (0, 0)), Thing.run w.heap.size (⟨.slice rwo0 r.calls.length rwc0, .slice rwo1 r.trace.length rwc1, .slice rwo2 r.shifts.length rwc2, .slice rwo3 r.words.length rwc3⟩ : RunVs) r, Thing.box w.heap.size bw (.cells #[.slice rwo0 r.calls.length rwc0, .slice rwo1 r.trace.length rwc1, .slice rwo2 r.shifts.length rwc2, .slice rwo3 r.words.length rwc3] 41 (0, 0)), Thing.row1 w.heap.size (.slice o5 l1.length c5) l1.length, Thing.pm2 (base := w.heap.size) (ownK_ok _) xb (.map (some kb)) ((PM.init (ownK l1.length) l1 n ()).goes ms1), Thing.spt w.heap.size (⟨.slice rao0 r.calls.length rac0, .slice rao1 r.trace.length rac1, .slice rao2 r.shifts.length rac2, .slice rao3 r.words.length rac3⟩ : RunVs) (⟨.slice yao0 (r.calls.length + 70) yac0, .slice yao1 (r.trace.length + 70) yac1, .slice yao2 (r.shifts.length + 70) yac2, .slice yao3 (r.words.length + 70) yac3⟩ : RunVs) (spEnd r 1000 0 0 0 0) (spEnd r 1000 70 70 70 70), Thing.spt w.heap.size (⟨.slice rbo0 r.calls.length rbc0, .slice rbo1 r.trace.length rbc1, .slice rbo2 r.shifts.length rbc2, .slice rbo3 r.words.length rbc3⟩ : RunVs) (⟨.slice ybo0 (r.calls.length + 70) ybc0, .slice ybo1 (r.trace.length + 70) ybc1, .slice ybo2 (r.shifts.length + 70) ybc2, .slice ybo3 (r.words.length + 70) ybc3⟩ : RunVs) (spEnd r 3000 0 0 0 0) (spEnd r 3000 70 70 70 70), Thing.box w.heap.size ba (.cells #[.slice rao0 r.calls.length rac0, .slice rao1 r.trace.length rac1, .slice rao2 r.shifts.length rac2, .slice rao3 r.words.length rac3] 41 (0, 0)), Thing.box w.heap.size bb (.cells #[.slice rbo0 r.calls.length rbc0, .slice rbo1 r.trace.length rbc1, .slice rbo2 r.shifts.length rbc2, .slice rbo3 r.words.length rbc3] 41 (0, 0)), Thing.spt w.heap.size (⟨.slice rpo0 r.calls.length rpc0, .slice rpo1 r.trace.length rpc1, .slice rpo2 r.shifts.length rpc2, .slice rpo3 r.words.length rpc3⟩ : RunVs) (⟨.slice ypo0 (r.calls.length + 70) ypc0, .slice ypo1 (r.trace.length + 70) ypc1, .slice ypo2 (r.shifts.length + 70) ypc2, .slice ypo3 (r.words.length + 70) ypc3⟩ : RunVs) (spEnd r 2000 0 0 0 0) (spEnd r 2000 70 70 70 70), Thing.box w.heap.size bp (.cells #[.slice rpo0 r.calls.length rpc0, .slice rpo1 r.trace.length rpc1, .slice rpo2 r.shifts.length rpc2, .slice rpo3 r.words.length rpc3] 41 (0, 0)), Thing.run w.heap.size (⟨.slice rqo0 r.calls.length rqc0, .slice rqo1 r.trace.length rqc1, .slice rqo2 r.shifts.length rqc2, .slice rqo3 r.words.length rqc3⟩ : RunVs) r, Thing.box w.heap.size bq (.cells #[.slice rqo0 r.calls.length rqc0, .slice rqo1 r.trace.length rqc1, .slice rqo2 r.shifts.length rqc2, .slice rqo3 r.words.length rqc3] 41 (0, 0)), Thing.box w.heap.size da (.cells #[.slice yao0 (r.calls.length + 70) yac0, .slice yao1 (r.trace.length + 70) yac1, .slice yao2 (r.shifts.length + 70) yac2, .slice yao3 (r.words.length + 70) yac3] 41 (0, 0)), Thing.box w.heap.size dp (.cells #[.slice ypo0 (r.calls.length + 70) ypc0, .slice ypo1 (r.trace.length + 70) ypc1, .slice ypo2 (r.shifts.length + 70) ypc2, .slice ypo3 (r.words.length + 70) ypc3] 41 (0, 0))] w18) := Lib.hid hc3; clear hc3)
          refine gen_world ?_
          intro W18 hW
          obtain ⟨db, hbn⟩ : ∃ db, db = w18.heap.size := ⟨_, rfl⟩
          have HC18 : Hid (CW w [Thing.box w.heap.size w.heap.size (.cells #[.int .i64 (n : Int), .slice ox l1.length cx, .slice om ms1.length cm] 45 (0, 0)), Thing.run w.heap.size (⟨.slice rwo0 r.calls.length rwc0, .slice rwo1 r.trace.length rwc1, .slice rwo2 r.shifts.length rwc2, .slice rwo3 r.words.length rwc3⟩ : RunVs) r, Thing.box w.heap.size bw (.cells #[.slice rwo0 r.calls.length rwc0, .slice rwo1 r.trace.length rwc1, .slice rwo2 r.shifts.length rwc2, .slice rwo3 r.words.length rwc3] 41 (0, 0)), Thing.row1 w.heap.size (.slice o5 l1.length c5) l1.length, Thing.pm2 (base := w.heap.size) (ownK_ok _) xb (.map (some kb)) ((PM.init (ownK l1.length) l1 n ()).goes ms1), Thing.spt w.heap.size (⟨.slice rao0 r.calls.length rac0, .slice rao1 r.trace.length rac1, .slice rao2 r.shifts.length rac2, .slice rao3 r.words.length rac3⟩ : RunVs) (⟨.slice yao0 (r.calls.length + 70) yac0, .slice yao1 (r.trace.length + 70) yac1, .slice yao2 (r.shifts.length + 70) yac2, .slice yao3 (r.words.length + 70) yac3⟩ : RunVs) (spEnd r 1000 0 0 0 0) (spEnd r 1000 70 70 70 70), Thing.spt w.heap.size (⟨.slice rbo0 r.calls.length rbc0, .slice rbo1 r.trace.length rbc1, .slice rbo2 r.shifts.length rbc2, .slice rbo3 r.words.length rbc3⟩ : RunVs) (⟨.slice ybo0 (r.calls.length + 70) ybc0, .slice ybo1 (r.trace.length + 70) ybc1, .slice ybo2 (r.shifts.length + 70) ybc2, .slice ybo3 (r.words.length + 70) ybc3⟩ : RunVs) (spEnd r 3000 0 0 0 0) (spEnd r 3000 70 70 70 70), Thing.box w.heap.size ba (.cells #[.slice rao0 r.calls.length rac0, .slice rao1 r.trace.length rac1, .slice rao2 r.shifts.length rac2, .slice rao3 r.words.length rac3] 41 (0, 0)), Thing.box w.heap.size bb (.cells #[.slice rbo0 r.calls.length rbc0, .slice rbo1 r.trace.length rbc1, .slice rbo2 r.shifts.length rbc2, .slice rbo3 r.words.length rbc3] 41 (0, 0)), Thing.spt w.heap.size (⟨.slice rpo0 r.calls.length rpc0, .slice rpo1 r.trace.length rpc1, .slice rpo2 r.shifts.length rpc2, .slice rpo3 r.words.length rpc3⟩ : RunVs) (⟨.slice ypo0 (r.calls.length + 70) ypc0, .slice ypo1 (r.trace.length + 70) ypc1, .slice ypo2 (r.shifts.length + 70) ypc2, .slice ypo3 (r.words.length + 70) ypc3⟩ : RunVs) (spEnd r 2000 0 0 0 0) (spEnd r 2000 70 70 70 70), Thing.box w.heap.size bp (.cells #[.slice rpo0 r.calls.length rpc0, .slice rpo1 r.trace.length rpc1, .slice rpo2 r.shifts.length rpc2, .slice rpo3 r.words.length rpc3] 41 (0, 0)), Thing.run w.heap.size (⟨.slice rqo0 r.calls.length rqc0, .slice rqo1 r.trace.length rqc1, .slice rqo2 r.shifts.length rqc2, .slice rqo3 r.words.length rqc3⟩ : RunVs) r, Thing.box w.heap.size bq (.cells #[.slice rqo0 r.calls.length rqc0, .slice rqo1 r.trace.length rqc1, .slice rqo2 r.shifts.length rqc2, .slice rqo3 r.words.length rqc3] 41 (0, 0)), Thing.box w.heap.size da (.cells #[.slice yao0 (r.calls.length + 70) yac0, .slice yao1 (r.trace.length + 70) yac1, .slice yao2 (r.shifts.length + 70) yac2, .slice yao3 (r.words.length + 70) yac3] 41 (0, 0)), Thing.box w.heap.size dp (.cells #[.slice ypo0 (r.calls.length + 70) ypc0, .slice ypo1 (r.trace.length + 70) ypc1, .slice ypo2 (r.shifts.length + 70) ypc2, .slice ypo3 (r.words.length + 70) ypc3] 41 (0, 0)), Thing.box w.heap.size db (.cells #[.slice ybo0 (r.calls.length + 70) ybc0, .slice ybo1 (r.trace.length + 70) ybc1, .slice ybo2 (r.shifts.length + 70) ybc2, .slice ybo3 (r.words.length + 70) ybc3] 41 (0, 0))] W18) := Lib.hid (by rw [hW, hbn]; exact HT.out.addBox ((Only.refl _ _).alloc _) (heap_alloc_new _ _) (Nat.le_refl _))
          rw [← hbn]
          clear hW HT HC17 a0 a1 a2 a3 al hbn
          clear w18
          have ab := HC18.out.box (i := 12) rfl
          have a0 : W18.cell? ⟨bq, 0, none⟩ = some (.slice rqo0 r.calls.length rqc0) := by simp [World.cell?, ab]
          have a1 : W18.cell? ⟨bq, 1, none⟩ = some (.slice rqo1 r.trace.length rqc1) := by simp [World.cell?, ab]
          have a2 : W18.cell? ⟨bq, 2, none⟩ = some (.slice rqo2 r.shifts.length rqc2) := by simp [World.cell?, ab]
          have a3 : W18.cell? ⟨bq, 3, none⟩ = some (.slice rqo3 r.words.length rqc3) := by simp [World.cell?, ab]
          have al := (Array.getElem?_eq_some_iff.1 ab).1
          clear ab
          go_upto_region 31 with (go_at_call 30; refine (HC18.out.spoil (i := 11) rfl HSM.out 4000 (by decide) (by decide)).mono ?_; rintro e w19 ⟨y, rfl, hc3⟩; obtain ⟨yqo0, yqc0, yqo1, yqc1, yqo2, yqc2, yqo3, yqc3, rfl⟩ := spt_forms (hc3.spt (i := 11) rfl).2; (unfold RunVs.v); have HT : Hid (CW w [Thing.box w.heap.size w.heap.size (.cells #[.int .i64 (n : Int), .slice ox l1.length cx, .slice om ms1.length cm] 45 (0, 0)), Thing.run w.heap.size (⟨.slice rwo0 r.calls.length rwc0, .slice rwo1 r.trace.length rwc1, .slice rwo2 r.shifts.length rwc2, .slice rwo3 r.words.length rwc3⟩ : RunVs) r, Thing.box w.heap.size bw (.cells #[.slice rwo0 r.calls.length rwc0, .slice rwo1 r.trace.length rwc1, .slice rwo2 r.shifts.length rwc2, .slice rwo3 r.words.length rwc3] 41 (0, 0)), Thing.row1 w.heap.size (.slice o5 l1.length c5) l1.length, Thing.pm2 (base := w.heap.size) (ownK_ok _) xb (.map (some kb)) ((PM.init (ownK l1.length) l1 n ()).goes ms1), Thing.spt w.heap.size (⟨.slice rao0 r.calls.length rac0, .slice rao1 r.trace.length rac1, .slice rao2 r.shifts.length rac2, .slice rao3 r.words.length rac3⟩ : RunVs) (⟨.slice yao0 (r.calls.length + 70) yac0, .slice yao1 (r.trace.length + 70) yac1, .slice yao2 (r.shifts.length + 70) yac2, .slice yao3 (r.words.length + 70) yac3⟩ : RunVs) (spEnd r 1000 0 0 0 0) (spEnd r 1000 70 70 70 70), Thing.spt w.heap.size (⟨.slice rbo0 r.calls.length rbc0, .slice rbo1 r.trace.length rbc1, .slice rbo2 r.shifts.length rbc2, .slice rbo3 r.words.length rbc3⟩ : RunVs) (⟨.slice ybo0 (r.calls.length + 70) ybc0, .slice ybo1 (r.trace.length + 70) ybc1, .slice ybo2 (r.shifts.length + 70) ybc2, .slice ybo3 (r.words.length + 70) ybc3⟩ : RunVs) (spEnd r 3000 0 0 0 0) (spEnd r 3000 70 70 70 70), Thing.box w.heap.size ba (.cells #[.slice rao0 r.calls.length rac0, .slice rao1 r.trace.length rac1, .slice rao2 r.shifts.length rac2, .slice rao3 r.words.length rac3] 41 (0, 0)), Thing.box w.heap.size bb (.cells #[.slice rbo0 r.calls.length rbc0, .slice rbo1 r.trace.length rbc1, .slice rbo2 r.shifts.length rbc2, .slice rbo3 r.words.length rbc3] 41 (0, 0)), Thing.spt w.heap.size (⟨.slice rpo0 r.calls.length rpc0, .slice rpo1 r.trace.length rpc1, .slice rpo2 r.shifts.length rpc2, .slice rpo3 r.words.length rpc3⟩ : RunVs) (⟨.slice ypo0 (r.calls.length + 70) ypc0, .slice ypo1 (r.trace.length + 70) ypc1, .slice ypo2 (r.shifts.length + 70) ypc2, .slice ypo3 (r.words.length + 70) ypc3⟩ : RunVs) (spEnd r 2000 0 0 0 0) (spEnd r 2000 70 70 70 70), Thing.box w.heap.size bp (.cells #[.slice rpo0 r.calls.length rpc0, .slice rpo1 r.trace.length rpc1, .slice rpo2 r.shifts.length rpc2, .slice rpo3 r.words.length rpc3] 41 (0, 0)), Thing.spt w.heap.size (⟨.slice rqo0 r.calls.length rqc0, .slice rqo1 r.trace.length rqc1, .slice rqo2 r.shifts.length rqc2, .slice rqo3 r.words.length rqc3⟩ : RunVs) (⟨.slice yqo0 (r.calls.length + 70) yqc0, .slice yqo1 (r.trace.length + 70) yqc1, .slice yqo2 (r.shifts.length + 70) yqc2, .slice yqo3 (r.words.length + 70) yqc3⟩ : RunVs) (spEnd r 4000 0 0 0 0) (spEnd r 4000 70 70 70 70), Thing.box w.heap.size bq (.cells #[.slice rqo0 r.calls.length rqc0, .slice rqo1 r.trace.length rqc1, .slice rqo2 r.shifts.length rqc2, .slice rqo3 r.words.length rqc3] 41 (0, 0)), Thing.box w.heap.size da (.cells #[.slice yao0 (r.calls.length + 70) yac0, .slice yao1 (r.trace.length + 70) yac1, .slice yao2 (r.shifts.length + 70) yac2, .slice yao3 (r.words.length + 70) yac3] 41 (0, 0)), Thing.box w.heap.size dp (.cells #[.slice ypo0 (r.calls.length + 70) ypc0, .slice ypo1 (r.trace.length + 70) ypc1, .slice ypo2 (r.shifts.length + 70) ypc2, .slice ypo3 (r.words.length + 70) ypc3] 41 (0, 0)), Thing.box w.heap.size db (.cells #[.slice ybo0 (r.calls.length + 70) ybc0, .slice ybo1 (r.trace.length + 70) ybc1, .slice ybo2 (r.shifts.length + 70) ybc2, .slice ybo3 (r.words.length + 70) ybc3] 41 (0, 0))] w19) := Lib.hid hc3; clear hc3)
          refine gen_world ?_
          intro W19 hW
          obtain ⟨dq, hbn⟩ : ∃ dq, dq = w19.heap.size := ⟨_, rfl⟩
          have HC19 : Hid (CW w [Thing.box w.heap.size w.heap.size (.cells #[.int .i64 (n : Int), .slice ox l1.length cx, .slice om ms1.length cm] 45 (0, 0)), Thing.run w.heap.size (⟨.slice rwo0 r.calls.length rwc0, .slice rwo1 r.trace.length rwc1, .slice rwo2 r.shifts.length rwc2, .slice rwo3 r.words.length rwc3⟩ : RunVs) r, Thing.box w.heap.size bw (.cells #[.slice rwo0 r.calls.length rwc0, .slice rwo1 r.trace.length rwc1, .slice rwo2 r.shifts.length rwc2, .slice rwo3 r.words.length rwc3] 41 (0, 0)), Thing.row1 w.heap.size (.slice o5 l1.length c5) l1.length, Thing.pm2 (base := w.heap.size) (ownK_ok _) xb (.map (some kb)) ((PM.init (ownK l1.length) l1 n ()).goes ms1), Thing.spt w.heap.size (⟨.slice rao0 r.calls.length rac0, .slice rao1 r.trace.length rac1, .slice rao2 r.shifts.length rac2, .slice rao3 r.words.length rac3⟩ : RunVs) (⟨.slice yao0 (r.calls.length + 70) yac0, .slice yao1 (r.trace.length + 70) yac1, .slice yao2 (r.shifts.length + 70) yac2, .slice yao3 (r.words.length + 70) yac3⟩ : RunVs) (spEnd r 1000 0 0 0 0) (spEnd r 1000 70 70 70 70), Thing.spt w.heap.size (⟨.slice rbo0 r.calls.length rbc0, .slice rbo1 r.trace.length rbc1, .slice rbo2 r.shifts.length rbc2, .slice rbo3 r.words.length rbc3⟩ : RunVs) (⟨.slice ybo0 (r.calls.length + 70) ybc0, .slice ybo1 (r.trace.length + 70) ybc1, .slice ybo2 (r.shifts.length + 70) ybc2, .slice ybo3 (r.words.length + 70) ybc3⟩ : RunVs) (spEnd r 3000 0 0 0 0) (spEnd r 3000 70 70 70 70), Thing.box w.heap.size ba (.cells #[.slice rao0 r.calls.length rac0, .slice rao1 r.trace.length rac1, .slice rao2 r.shifts.length rac2, .slice rao3 r.words.length rac3] 41 (0, 0)), Thing.box w.heap.size bb (.cells #[.slice rbo0 r.calls.length rbc0, .slice rbo1 r.trace.length rbc1, .slice rbo2 r.shifts.length rbc2, .slice rbo3 r.words.length rbc3] 41 (0, 0)), Thing.spt w.heap.size (⟨.slice rpo0 r.calls.length rpc0, .slice rpo1 r.trace.length rpc1, .slice rpo2 r.shifts.length rpc2, .slice rpo3 r.words.length rpc3⟩ : RunVs) (⟨.slice ypo0 (r.calls.length + 70) ypc0, .slice ypo1 (r.trace.length + 70) ypc1, .slice ypo2 (r.shifts.length + 70) ypc2, .slice ypo3 (r.words.length + 70) ypc3⟩ : RunVs) (spEnd r 2000 0 0 0 0) (spEnd r 2000 70 70 70 70), Thing.box w.heap.size bp (.cells #[.slice rpo0 r.calls.length rpc0, .slice rpo1 r.trace.length rpc1, .slice rpo2 r.shifts.length rpc2, .slice rpo3 r.words.length rpc3] 41 (0, 0)), Thing.spt w.heap.size (⟨.slice rqo0 r.calls.length rqc0, .slice rqo1 r.trace.length rqc1, .slice rqo2 r.shifts.length rqc2, .slice rqo3 r.words.length rqc3⟩ : RunVs) (⟨.slice yqo0 (r.calls.length + 70) yqc0, .slice yqo1 (r.trace.length + 70) yqc1, .slice yqo2 (r.shifts.length + 70) yqc2, .slice yqo3 (r.words.length + 70) yqc3⟩ : RunVs) (spEnd r 4000 0 0 0 0) (spEnd r 4000 70 70 70 70), Thing.box w.heap.size bq (.cells #[.slice rqo0 r.calls.length rqc0, .slice rqo1 r.trace.length rqc1, .slice rqo2 r.shifts.length rqc2, .slice rqo3 r.words.length rqc3] 41 (0, 0)), Thing.box w.heap.size da (.cells #[.slice yao0 (r.calls.length + 70) yac0, .slice yao1 (r.trace.length + 70) yac1, .slice yao2 (r.shifts.length + 70) yac2, .slice yao3 (r.words.length + 70) yac3] 41 (0, 0)), Thing.box w.heap.size dp (.cells #[.slice ypo0 (r.calls.length + 70) ypc0, .slice ypo1 (r.trace.length + 70) ypc1, .slice ypo2 (r.shifts.length + 70) ypc2, .slice ypo3 (r.words.length + 70) ypc3] 41 (0, 0)), Thing.box w.heap.size db (.cells #[.slice ybo0 (r.calls.length + 70) ybc0, .slice ybo1 (r.trace.length + 70) ybc1, .slice ybo2 (r.shifts.length + 70) ybc2, .slice ybo3 (r.words.length + 70) ybc3] 41 (0, 0)), Thing.box w.heap.size dq (.cells #[.slice yqo0 (r.calls.length + 70) yqc0, .slice yqo1 (r.trace.length + 70) yqc1, .slice yqo2 (r.shifts.length + 70) yqc2, .slice yqo3 (r.words.length + 70) yqc3] 41 (0, 0))] W19) := Lib.hid (by rw [hW, hbn]; exact HT.out.addBox ((Only.refl _ _).alloc _) (heap_alloc_new _ _) (Nat.le_refl _))
          rw [← hbn]
          clear hW HT HC18 a0 a1 a2 a3 al hbn
          clear w19
          have wb := HC19.out.box (i := 2) rfl
          have w0 : W19.cell? ⟨bw, 0, none⟩ = some (.slice rwo0 r.calls.length rwc0) := by simp [World.cell?, wb]
          have w1 : W19.cell? ⟨bw, 1, none⟩ = some (.slice rwo1 r.trace.length rwc1) := by simp [World.cell?, wb]
          have w2 : W19.cell? ⟨bw, 2, none⟩ = some (.slice rwo2 r.shifts.length rwc2) := by simp [World.cell?, wb]
          have w3 : W19.cell? ⟨bw, 3, none⟩ = some (.slice rwo3 r.words.length rwc3) := by simp [World.cell?, wb]
          have wl := (Array.getElem?_eq_some_iff.1 wb).1
          clear wb
          have q0 := fun q : LaterF (fun _ => False) W19 => q.cell w0 wl (fun x => x)
          have q1 := fun q : LaterF (fun _ => False) W19 => q.cell w1 wl (fun x => x)
          have q2 := fun q : LaterF (fun _ => False) W19 => q.cell w2 wl (fun x => x)
          have q3 := fun q : LaterF (fun _ => False) W19 => q.cell w3 wl (fun x => x)
          refine wp_region_plan (fun wz => ∃ q : LaterF (fun _ => False) W19, wz = q.W) [1, 3] [0, 2] (.fork 1 [] (.tail 3) .none) oper0 (by kernel_rfl) (by kernel_rfl) (laterF_in (Only.refl _ _).drew) ?_
          simp only [wpPlan, List.map_cons, List.map_nil, List.getD_cons_zero, List.getD_cons_succ, List.drop_succ_cons, List.drop_zero]
          repeat (first | go_big_quiet_skip | (go_big_quiet_want; go_big_quiet_op; go_big_quiet_on))
          refine wpQuiet_nil ?_
          refine ⟨?_, trivial⟩
          go_wp2_with (go_at_call 19; refine ((HC19.out.keep (Only.refl _ _).drew).mrun (ownK_ok _) (i := 4) rfl HGE.out (by rw [own_len]; omega)).mono ?_; rintro e wC ⟨x, rfl, hx, hoC⟩; rw [HRN.out] at hx; obtain ⟨rxo0, rxc0, rxo1, rxc1, rxo2, rxc2, rxo3, rxc3, rfl⟩ := hx.forms; (unfold RunVs.v); have HXS := Lib.hid hx.src; have HOC := Lib.hid ((Only.refl (fun _ => False) W19).drew.trans hoC (fun _ x => x.elim)); clear hx hoC)
          refine strict_on ?_
          refine ⟨?_, ?_⟩
          · exact laterF_in HOC.out
          repeat (first | go_big_quiet_skip | (go_big_quiet_want; go_big_quiet_op; go_big_quiet_on))
          refine wpQuiet_nil ?_
          have HCX := Lib.hid (sameRun_yes (x := (⟨.slice rxo0 r.calls.length rxc0, .slice rxo1 r.trace.length rxc1, .slice rxo2 r.shifts.length rxc2, .slice rxo3 r.words.length rxc3⟩ : RunVs)) (y := (⟨.slice rwo0 r.calls.length rwc0, .slice rwo1 r.trace.length rwc1, .slice rwo2 r.shifts.length rwc2, .slice rwo3 r.words.length rwc3⟩ : RunVs)) HXS.out ((HC19.out.runSrc (i := 1) rfl).only HOC.out) HSM.out.1 HSM.out.2.1 HSM.out.2.2.1 HSM.out.2.2.2)
          go_wp2_with fail
          refine HCX.out.mono ?_
          rintro e wq ⟨rfl, hbq⟩
          obtain ⟨osA, dA, rfl⟩ := hbq.more
          clear hbq HCX HXS
          go_upto_region 33 with (fail)
          refine gen_world ?_
          intro W20 hW
          have HC20 : Hid (CW w [Thing.box w.heap.size w.heap.size (.cells #[.int .i64 (n : Int), .slice ox l1.length cx, .slice om ms1.length cm] 45 (0, 0)), Thing.run w.heap.size (⟨.slice rwo0 r.calls.length rwc0, .slice rwo1 r.trace.length rwc1, .slice rwo2 r.shifts.length rwc2, .slice rwo3 r.words.length rwc3⟩ : RunVs) r, Thing.box w.heap.size bw (.cells #[.slice rwo0 r.calls.length rwc0, .slice rwo1 r.trace.length rwc1, .slice rwo2 r.shifts.length rwc2, .slice rwo3 r.words.length rwc3] 41 (0, 0)), Thing.row1 w.heap.size (.slice o5 l1.length c5) l1.length, Thing.pm2 (base := w.heap.size) (ownK_ok _) xb (.map (some kb)) ((PM.init (ownK l1.length) l1 n ()).goes ms1), Thing.spt w.heap.size (⟨.slice rao0 r.calls.length rac0, .slice rao1 r.trace.length rac1, .slice rao2 r.shifts.length rac2, .slice rao3 r.words.length rac3⟩ : RunVs) (⟨.slice yao0 (r.calls.length + 70) yac0, .slice yao1 (r.trace.length + 70) yac1, .slice yao2 (r.shifts.length + 70) yac2, .slice yao3 (r.words.length + 70) yac3⟩ : RunVs) (spEnd r 1000 0 0 0 0) (spEnd r 1000 70 70 70 70), Thing.spt w.heap.size (⟨.slice rbo0 r.calls.length rbc0, .slice rbo1 r.trace.length rbc1, .slice rbo2 r.shifts.length rbc2, .slice rbo3 r.words.length rbc3⟩ : RunVs) (⟨.slice ybo0 (r.calls.length + 70) ybc0, .slice ybo1 (r.trace.length + 70) ybc1, .slice ybo2 (r.shifts.length + 70) ybc2, .slice ybo3 (r.words.length + 70) ybc3⟩ : RunVs) (spEnd r 3000 0 0 0 0) (spEnd r 3000 70 70 70 70), Thing.box w.heap.size ba (.cells #[.slice rao0 r.calls.length rac0, .slice rao1 r.trace.length rac1, .slice rao2 r.shifts.length rac2, .slice rao3 r.words.length rac3] 41 (0, 0)), Thing.box w.heap.size bb (.cells #[.slice rbo0 r.calls.length rbc0, .slice rbo1 r.trace.length rbc1, .slice rbo2 r.shifts.length rbc2, .slice rbo3 r.words.length rbc3] 41 (0, 0)), Thing.spt w.heap.size (⟨.slice rpo0 r.calls.length rpc0, .slice rpo1 r.trace.length rpc1, .slice rpo2 r.shifts.length rpc2, .slice rpo3 r.words.length rpc3⟩ : RunVs) (⟨.slice ypo0 (r.calls.length + 70) ypc0, .slice ypo1 (r.trace.length + 70) ypc1, .slice ypo2 (r.shifts.length + 70) ypc2, .slice ypo3 (r.words.length + 70) ypc3⟩ : RunVs) (spEnd r 2000 0 0 0 0) (spEnd r 2000 70 70 70 70), Thing.box w.heap.size bp (.cells #[.slice rpo0 r.calls.length rpc0, .slice rpo1 r.trace.length rpc1, .slice rpo2 r.shifts.length rpc2, .slice rpo3 r.words.length rpc3] 41 (0, 0)), Thing.spt w.heap.size (⟨.slice rqo0 r.calls.length rqc0, .slice rqo1 r.trace.length rqc1, .slice rqo2 r.shifts.length rqc2, .slice rqo3 r.words.length rqc3⟩ : RunVs) (⟨.slice yqo0 (r.calls.length + 70) yqc0, .slice yqo1 (r.trace.length + 70) yqc1, .slice yqo2 (r.shifts.length + 70) yqc2, .slice yqo3 (r.words.length + 70) yqc3⟩ : RunVs) (spEnd r 4000 0 0 0 0) (spEnd r 4000 70 70 70 70), Thing.box w.heap.size bq (.cells #[.slice rqo0 r.calls.length rqc0, .slice rqo1 r.trace.length rqc1, .slice rqo2 r.shifts.length rqc2, .slice rqo3 r.words.length rqc3] 41 (0, 0)), Thing.box w.heap.size da (.cells #[.slice yao0 (r.calls.length + 70) yac0, .slice yao1 (r.trace.length + 70) yac1, .slice yao2 (r.shifts.length + 70) yac2, .slice yao3 (r.words.length + 70) yac3] 41 (0, 0)), Thing.box w.heap.size dp (.cells #[.slice ypo0 (r.calls.length + 70) ypc0, .slice ypo1 (r.trace.length + 70) ypc1, .slice ypo2 (r.shifts.length + 70) ypc2, .slice ypo3 (r.words.length + 70) ypc3] 41 (0, 0)), Thing.box w.heap.size db (.cells #[.slice ybo0 (r.calls.length + 70) ybc0, .slice ybo1 (r.trace.length + 70) ybc1, .slice ybo2 (r.shifts.length + 70) ybc2, .slice ybo3 (r.words.length + 70) ybc3] 41 (0, 0)), Thing.box w.heap.size dq (.cells #[.slice yqo0 (r.calls.length + 70) yqc0, .slice yqo1 (r.trace.length + 70) yqc1, .slice yqo2 (r.shifts.length + 70) yqc2, .slice yqo3 (r.words.length + 70) yqc3] 41 (0, 0))] W20) := Lib.hid (HC19.out.keep (HOC.out.trans (show Only (fun _ => False) wC W20 by rw [hW]; repeat (first | exact Only.refl _ _ | apply Only.alloc | apply Only.drew | apply Only.more)) (fun _ x => x.elim)))
          clear hW HC19 HOC q0 q1 q2 q3 w0 w1 w2 w3 wl
          clear wC
          have wb := HC20.out.box (i := 2) rfl
          have w0 : W20.cell? ⟨bw, 0, none⟩ = some (.slice rwo0 r.calls.length rwc0) := by simp [World.cell?, wb]
          have w1 : W20.cell? ⟨bw, 1, none⟩ = some (.slice rwo1 r.trace.length rwc1) := by simp [World.cell?, wb]
          have w2 : W20.cell? ⟨bw, 2, none⟩ = some (.slice rwo2 r.shifts.length rwc2) := by simp [World.cell?, wb]
          have w3 : W20.cell? ⟨bw, 3, none⟩ = some (.slice rwo3 r.words.length rwc3) := by simp [World.cell?, wb]
          have wl := (Array.getElem?_eq_some_iff.1 wb).1
          clear wb
          have z0xb := HC20.out.box (i := 13) rfl
          have z0x0 : W20.cell? ⟨da, 0, none⟩ = some (.slice yao0 (r.calls.length + 70) yac0) := by simp [World.cell?, z0xb]
          have z0x1 : W20.cell? ⟨da, 1, none⟩ = some (.slice yao1 (r.trace.length + 70) yac1) := by simp [World.cell?, z0xb]
          have z0x2 : W20.cell? ⟨da, 2, none⟩ = some (.slice yao2 (r.shifts.length + 70) yac2) := by simp [World.cell?, z0xb]
          have z0x3 : W20.cell? ⟨da, 3, none⟩ = some (.slice yao3 (r.words.length + 70) yac3) := by simp [World.cell?, z0xb]
          have z0xl := (Array.getElem?_eq_some_iff.1 z0xb).1
          clear z0xb
          have HS0 : Hid (∀ W, Only (fun _ => False) W20 W → Calls Try.prog 31 #[.agg #[.slice yao0 (r.calls.length + 70) yac0, .slice yao1 (r.trace.length + 70) yac1, .slice yao2 (r.shifts.length + 70) yac2, .slice yao3 (r.words.length + 70) yac3], .agg #[.slice rwo0 r.calls.length rwc0, .slice rwo1 r.trace.length rwc1, .slice rwo2 r.shifts.length rwc2, .slice rwo3 r.words.length rwc3], .int .i64 1000] W fun e w' => e = .returned (.bool true) ∧ Below W.heap.size W w') := Lib.hid (fun W ho => spoilt_yes (x := (⟨.slice yao0 (r.calls.length + 70) yac0, .slice yao1 (r.trace.length + 70) yac1, .slice yao2 (r.shifts.length + 70) yac2, .slice yao3 (r.words.length + 70) yac3⟩ : RunVs)) (r := r) (m := 70) (mark := 1000) (fun q hq => ((HC20.out.spt (i := 5) rfl).2 q hq).only ho) HSM.out (by decide) (by decide) (by decide) _ _ _ _ _ _ _ _)
          have z1xb := HC20.out.box (i := 14) rfl
          have z1x0 : W20.cell? ⟨dp, 0, none⟩ = some (.slice ypo0 (r.calls.length + 70) ypc0) := by simp [World.cell?, z1xb]
          have z1x1 : W20.cell? ⟨dp, 1, none⟩ = some (.slice ypo1 (r.trace.length + 70) ypc1) := by simp [World.cell?, z1xb]
          have z1x2 : W20.cell? ⟨dp, 2, none⟩ = some (.slice ypo2 (r.shifts.length + 70) ypc2) := by simp [World.cell?, z1xb]
          have z1x3 : W20.cell? ⟨dp, 3, none⟩ = some (.slice ypo3 (r.words.length + 70) ypc3) := by simp [World.cell?, z1xb]
          have z1xl := (Array.getElem?_eq_some_iff.1 z1xb).1
          clear z1xb
          have HS1 : Hid (∀ W, Only (fun _ => False) W20 W → Calls Try.prog 31 #[.agg #[.slice ypo0 (r.calls.length + 70) ypc0, .slice ypo1 (r.trace.length + 70) ypc1, .slice ypo2 (r.shifts.length + 70) ypc2, .slice ypo3 (r.words.length + 70) ypc3], .agg #[.slice rwo0 r.calls.length rwc0, .slice rwo1 r.trace.length rwc1, .slice rwo2 r.shifts.length rwc2, .slice rwo3 r.words.length rwc3], .int .i64 2000] W fun e w' => e = .returned (.bool true) ∧ Below W.heap.size W w') := Lib.hid (fun W ho => spoilt_yes (x := (⟨.slice ypo0 (r.calls.length + 70) ypc0, .slice ypo1 (r.trace.length + 70) ypc1, .slice ypo2 (r.shifts.length + 70) ypc2, .slice ypo3 (r.words.length + 70) ypc3⟩ : RunVs)) (r := r) (m := 70) (mark := 2000) (fun q hq => ((HC20.out.spt (i := 9) rfl).2 q hq).only ho) HSM.out (by decide) (by decide) (by decide) _ _ _ _ _ _ _ _)
          have z2xb := HC20.out.box (i := 15) rfl
          have z2x0 : W20.cell? ⟨db, 0, none⟩ = some (.slice ybo0 (r.calls.length + 70) ybc0) := by simp [World.cell?, z2xb]
          have z2x1 : W20.cell? ⟨db, 1, none⟩ = some (.slice ybo1 (r.trace.length + 70) ybc1) := by simp [World.cell?, z2xb]
          have z2x2 : W20.cell? ⟨db, 2, none⟩ = some (.slice ybo2 (r.shifts.length + 70) ybc2) := by simp [World.cell?, z2xb]
          have z2x3 : W20.cell? ⟨db, 3, none⟩ = some (.slice ybo3 (r.words.length + 70) ybc3) := by simp [World.cell?, z2xb]
          have z2xl := (Array.getElem?_eq_some_iff.1 z2xb).1
          clear z2xb
          have HS2 : Hid (∀ W, Only (fun _ => False) W20 W → Calls Try.prog 31 #[.agg #[.slice ybo0 (r.calls.length + 70) ybc0, .slice ybo1 (r.trace.length + 70) ybc1, .slice ybo2 (r.shifts.length + 70) ybc2, .slice ybo3 (r.words.length + 70) ybc3], .agg #[.slice rwo0 r.calls.length rwc0, .slice rwo1 r.trace.length rwc1, .slice rwo2 r.shifts.length rwc2, .slice rwo3 r.words.length rwc3], .int .i64 3000] W fun e w' => e = .returned (.bool true) ∧ Below W.heap.size W w') := Lib.hid (fun W ho => spoilt_yes (x := (⟨.slice ybo0 (r.calls.length + 70) ybc0, .slice ybo1 (r.trace.length + 70) ybc1, .slice ybo2 (r.shifts.length + 70) ybc2, .slice ybo3 (r.words.length + 70) ybc3⟩ : RunVs)) (r := r) (m := 70) (mark := 3000) (fun q hq => ((HC20.out.spt (i := 6) rfl).2 q hq).only ho) HSM.out (by decide) (by decide) (by decide) _ _ _ _ _ _ _ _)
          have z3xb := HC20.out.box (i := 16) rfl
          have z3x0 : W20.cell? ⟨dq, 0, none⟩ = some (.slice yqo0 (r.calls.length + 70) yqc0) := by simp [World.cell?, z3xb]
          have z3x1 : W20.cell? ⟨dq, 1, none⟩ = some (.slice yqo1 (r.trace.length + 70) yqc1) := by simp [World.cell?, z3xb]
          have z3x2 : W20.cell? ⟨dq, 2, none⟩ = some (.slice yqo2 (r.shifts.length + 70) yqc2) := by simp [World.cell?, z3xb]
          have z3x3 : W20.cell? ⟨dq, 3, none⟩ = some (.slice yqo3 (r.words.length + 70) yqc3) := by simp [World.cell?, z3xb]
          have z3xl := (Array.getElem?_eq_some_iff.1 z3xb).1
          clear z3xb
          have HS3 : Hid (∀ W, Only (fun _ => False) W20 W → Calls Try.prog 31 #[.agg #[.slice yqo0 (r.calls.length + 70) yqc0, .slice yqo1 (r.trace.length + 70) yqc1, .slice yqo2 (r.shifts.length + 70) yqc2, .slice yqo3 (r.words.length + 70) yqc3], .agg #[.slice rwo0 r.calls.length rwc0, .slice rwo1 r.trace.length rwc1, .slice rwo2 r.shifts.length rwc2, .slice rwo3 r.words.length rwc3], .int .i64 4000] W fun e w' => e = .returned (.bool true) ∧ Below W.heap.size W w') := Lib.hid (fun W ho => spoilt_yes (x := (⟨.slice yqo0 (r.calls.length + 70) yqc0, .slice yqo1 (r.trace.length + 70) yqc1, .slice yqo2 (r.shifts.length + 70) yqc2, .slice yqo3 (r.words.length + 70) yqc3⟩ : RunVs)) (r := r) (m := 70) (mark := 4000) (fun q hq => ((HC20.out.spt (i := 11) rfl).2 q hq).only ho) HSM.out (by decide) (by decide) (by decide) _ _ _ _ _ _ _ _)
          have z4xb := HC20.out.box (i := 7) rfl
          have z4x0 : W20.cell? ⟨ba, 0, none⟩ = some (.slice rao0 r.calls.length rac0) := by simp [World.cell?, z4xb]
          have z4x1 : W20.cell? ⟨ba, 1, none⟩ = some (.slice rao1 r.trace.length rac1) := by simp [World.cell?, z4xb]
          have z4x2 : W20.cell? ⟨ba, 2, none⟩ = some (.slice rao2 r.shifts.length rac2) := by simp [World.cell?, z4xb]
          have z4x3 : W20.cell? ⟨ba, 3, none⟩ = some (.slice rao3 r.words.length rac3) := by simp [World.cell?, z4xb]
          have z4xl := (Array.getElem?_eq_some_iff.1 z4xb).1
          clear z4xb
          have HS4 : Hid (∀ W, Only (fun _ => False) W20 W → Calls Try.prog 31 #[.agg #[.slice rao0 r.calls.length rac0, .slice rao1 r.trace.length rac1, .slice rao2 r.shifts.length rac2, .slice rao3 r.words.length rac3], .agg #[.slice rwo0 r.calls.length rwc0, .slice rwo1 r.trace.length rwc1, .slice rwo2 r.shifts.length rwc2, .slice rwo3 r.words.length rwc3], .int .i64 1000] W fun e w' => e = .returned (.bool true) ∧ Below W.heap.size W w') := Lib.hid (fun W ho => spoilt_yes (x := (⟨.slice rao0 r.calls.length rac0, .slice rao1 r.trace.length rac1, .slice rao2 r.shifts.length rac2, .slice rao3 r.words.length rac3⟩ : RunVs)) (r := r) (m := 0) (mark := 1000) (fun q hq => ((HC20.out.spt (i := 5) rfl).1 q hq).only ho) HSM.out (by decide) (by decide) (by decide) _ _ _ _ _ _ _ _)
          have z5xb := HC20.out.box (i := 10) rfl
          have z5x0 : W20.cell? ⟨bp, 0, none⟩ = some (.slice rpo0 r.calls.length rpc0) := by simp [World.cell?, z5xb]
          have z5x1 : W20.cell? ⟨bp, 1, none⟩ = some (.slice rpo1 r.trace.length rpc1) := by simp [World.cell?, z5xb]
          have z5x2 : W20.cell? ⟨bp, 2, none⟩ = some (.slice rpo2 r.shifts.length rpc2) := by simp [World.cell?, z5xb]
          have z5x3 : W20.cell? ⟨bp, 3, none⟩ = some (.slice rpo3 r.words.length rpc3) := by simp [World.cell?, z5xb]
          have z5xl := (Array.getElem?_eq_some_iff.1 z5xb).1
          clear z5xb
          have HS5 : Hid (∀ W, Only (fun _ => False) W20 W → Calls Try.prog 31 #[.agg #[.slice rpo0 r.calls.length rpc0, .slice rpo1 r.trace.length rpc1, .slice rpo2 r.shifts.length rpc2, .slice rpo3 r.words.length rpc3], .agg #[.slice rwo0 r.calls.length rwc0, .slice rwo1 r.trace.length rwc1, .slice rwo2 r.shifts.length rwc2, .slice rwo3 r.words.length rwc3], .int .i64 2000] W fun e w' => e = .returned (.bool true) ∧ Below W.heap.size W w') := Lib.hid (fun W ho => spoilt_yes (x := (⟨.slice rpo0 r.calls.length rpc0, .slice rpo1 r.trace.length rpc1, .slice rpo2 r.shifts.length rpc2, .slice rpo3 r.words.length rpc3⟩ : RunVs)) (r := r) (m := 0) (mark := 2000) (fun q hq => ((HC20.out.spt (i := 9) rfl).1 q hq).only ho) HSM.out (by decide) (by decide) (by decide) _ _ _ _ _ _ _ _)
          go_wp2_with fail
          refine (HS0.out _ (by repeat (first | exact Only.refl _ _ | apply Only.alloc | apply Only.drew | apply Only.more))).mono ?_
          rintro e wq ⟨rfl, hbq⟩
          obtain ⟨osS0, dS0, rfl⟩ := hbq.more
          clear hbq HS0
          go_wp2_with fail
          refine (HS1.out _ (by repeat (first | exact Only.refl _ _ | apply Only.alloc | apply Only.drew | apply Only.more))).mono ?_
          rintro e wq ⟨rfl, hbq⟩
          obtain ⟨osS1, dS1, rfl⟩ := hbq.more
          clear hbq HS1
          go_wp2_with fail
          refine (HS2.out _ (by repeat (first | exact Only.refl _ _ | apply Only.alloc | apply Only.drew | apply Only.more))).mono ?_
          rintro e wq ⟨rfl, hbq⟩
          obtain ⟨osS2, dS2, rfl⟩ := hbq.more
          clear hbq HS2
          go_wp2_with fail
          refine (HS3.out _ (by repeat (first | exact Only.refl _ _ | apply Only.alloc | apply Only.drew | apply Only.more))).mono ?_
          rintro e wq ⟨rfl, hbq⟩
          obtain ⟨osS3, dS3, rfl⟩ := hbq.more
          clear hbq HS3
          go_wp2_with fail
          refine (HS4.out _ (by repeat (first | exact Only.refl _ _ | apply Only.alloc | apply Only.drew | apply Only.more))).mono ?_
          rintro e wq ⟨rfl, hbq⟩
          obtain ⟨osS4, dS4, rfl⟩ := hbq.more
          clear hbq HS4
          go_wp2_with fail
          refine (HS5.out _ (by repeat (first | exact Only.refl _ _ | apply Only.alloc | apply Only.drew | apply Only.more))).mono ?_
          rintro e wq ⟨rfl, hbq⟩
          obtain ⟨osS5, dS5, rfl⟩ := hbq.more
          clear hbq HS5
          go_wp2
          go_ret
          exact ⟨rfl, Only.below (HC20.out.on.trans (show Only (fun _ => False) W20 _ by repeat (first | exact Only.refl _ _ | apply Only.alloc | apply Only.drew | apply Only.more)) (fun _ x => x.elim)) (fun _ h => h.elim) (Nat.le_refl _)⟩
end Go.Proofs.Ytbhbpfpggfcpgaa
