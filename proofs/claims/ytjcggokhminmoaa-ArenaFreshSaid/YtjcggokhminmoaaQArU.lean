/-
The part that takes: Step.
The part that takes: Step, its swap; takeCall's methods.
The arena's calls as a kit of tasks (arK): where they lie, what their methods leave.
The machine in a step, and its kit's tasks: what stays from method to method (InStep).
The arena's kit in the heap (ArKAt, arK), and a task's methods (arK_ready, arK_step).
-/
import Derived.Test.YtjcggokhminmoaaQArC
import Derived.Test.YtjcggokhminmoaaQArF
import Derived.Test.YtjcggokhminmoaaQMchS
namespace Go.Proofs.Ytjcggokhminmoaa
open Go.ChangeShapes Go.WideShapes Go.ChangeAt Go.RowKit

set_option maxRecDepth 100000 in
set_option maxHeartbeats 2000000 in
theorem tstep_load {w : World} {base xb db ab tb : Nat} {st : MachS} {v : MachV} {s : ArS} {av : ArV} {t : TkTake} (H : Tr w base xb db ab tb st v s av (t.obj ab)) (hf : st.d.Fits) (hat : t.at' = 1) :
    Calls Try.prog 98 #[.pointer (some ⟨tb, 0, none⟩), .pointer (some ⟨db, 0, none⟩)] w fun e w' => e = .returned (.bool (t.step s st.d).2.2.2) ∧
      TrOut w base xb db ab tb v av { st with d := (t.step s st.d).2.2.1 } (t.step s st.d).1 ((t.step s st.d).2.1.obj ab) w' := by
  obtain ⟨a0, a1, a2, a3, a4, a5, a6, az, alt⟩ := take_cells H.t
  rw [hat] at a2
  obtain ⟨hv, hh⟩ : ∃ hv, hv = st.d.word (s.addr 1 0) := ⟨_, rfl⟩
  have e1 : t.step s st.d = (s, { t with head := hv, at' := if hIdx hv < 0 then 0 else 2 }, st.d.load (s.addr 1 0), decide (hIdx hv < 0)) := by
    unfold TkTake.step
    rw [if_pos hat, hh]
  rw [e1]
  obtain ⟨er, hu⟩ := unhead_all hv
  have HU := Lib.hid hu
  have HA := Lib.hid (aaddr_any H.a 1 0)
  have HL := Lib.hid (fun os d => dload_any (H.more os d).m (H.more os d).d H.md hf (s.addr 1 0))
  rw [← hh] at HL
  have HH := Lib.hid H
  have HAT := Lib.hid hat
  clear H hf hat e1 hu hh a1 a3 a4 a5 a6 az
  have hcase : (hIdx hv < 0 ∧ decide (hIdx hv < 0) = true) ∨ (¬ hIdx hv < 0 ∧ decide (hIdx hv < 0) = false) := by
    by_cases q : hIdx hv < 0
    · exact .inl ⟨q, by simpa using q⟩
    · exact .inr ⟨q, by simpa using q⟩
  rcases hcase with ⟨q, qd⟩ | ⟨q, qd⟩
  · go_enter Try.func98, Try.ntmps98
    go_upto_region 9 with (first
      | (go_at_call 102; refine HA.out.mono ?_; rintro e w1 ⟨rfl, hb1⟩; obtain ⟨os, d, rfl⟩ := hb1.more; clear hb1)
      | (go_at_call 101; refine (HL.out os d).mono ?_; rintro e w2 ⟨rfl, hd⟩; have HO := Lib.hid ((HH.out.more os d).desk hd); obtain ⟨v1, av1, hs1⟩ := HO.out; have HS := Lib.hid ((TrStep.keep HH.out ((Only.refl _ w).more os d)).trans hs1); obtain ⟨b0, b1, b2, b3, b4, b5, b6, bz, blt⟩ := take_cells hs1.tr.t; have z2 := bz 2; have z3 := bz 3; rw [HAT.out] at b2; clear hd HO hs1 b1 b4 b5 b6 bz)
      | (go_at_call 103; refine (HU.out _).mono ?_; rintro e w3 ⟨rfl, rfl⟩))
    refine gen_world ?_
    intro W3 hW3
    have HO := Lib.hid (show TrOut w base xb db ab tb v av { st with d := st.d.load (s.addr 1 0) } s (({ t with head := hv, at' := 2 } : TkTake).obj ab) W3 by
      rw [hW3]
      refine HS.out.then (HS.out.tr.put (only_tb (only_tb (Only.refl _ _) _) _) ?_)
      simp [World.setCell, Array.getElem?_modify, HS.out.tr.t, TkTake.obj])
    clear hW3 HS b0 b2 b3 z2 z3 blt
    obtain ⟨v2, av2, hs2⟩ := HO.out
    have HS2 := Lib.hid hs2
    obtain ⟨b0, b1, b2, b3, b4, b5, b6, bz, blt⟩ := take_cells hs2.tr.t
    have z2 := bz 2
    simp only at b2
    clear hs2 b1 b3 b4 b5 b6 bz HO
    go_wp2
    go_ret
    refine ⟨rfl, HS2.out.then (HS2.out.tr.put ?_ ?_)⟩
    · repeat (first | exact Only.refl _ _ | apply only_tb)
    · simp [World.setCell, Array.getElem?_modify, HS2.out.tr.t, TkTake.obj]
  · go_enter Try.func98, Try.ntmps98
    go_wp2_with (first
      | (go_at_call 102; refine HA.out.mono ?_; rintro e w1 ⟨rfl, hb1⟩; obtain ⟨os, d, rfl⟩ := hb1.more; clear hb1)
      | (go_at_call 101; refine (HL.out os d).mono ?_; rintro e w2 ⟨rfl, hd⟩; have HO := Lib.hid ((HH.out.more os d).desk hd); obtain ⟨v1, av1, hs1⟩ := HO.out; have HS := Lib.hid ((TrStep.keep HH.out ((Only.refl _ w).more os d)).trans hs1); obtain ⟨b0, b1, b2, b3, b4, b5, b6, bz, blt⟩ := take_cells hs1.tr.t; have z2 := bz 2; have z3 := bz 3; rw [HAT.out] at b2; clear hd HO hs1 b1 b4 b5 b6 bz)
      | (go_at_call 103; refine (HU.out _).mono ?_; rintro e w3 ⟨rfl, rfl⟩))
    go_ret
    refine ⟨rfl, HS.out.then (HS.out.tr.put ?_ ?_)⟩
    · repeat (first | exact Only.refl _ _ | apply only_tb)
    · simp [World.setCell, Array.getElem?_modify, HS.out.tr.t, TkTake.obj]

set_option maxRecDepth 100000 in
set_option maxHeartbeats 2000000 in
theorem tstep_next {w : World} {base xb db ab tb : Nat} {st : MachS} {v : MachV} {s : ArS} {av : ArV} {t : TkTake} (H : Tr w base xb db ab tb st v s av (t.obj ab)) (hf : st.d.Fits) (hat : t.at' = 2) :
    Calls Try.prog 98 #[.pointer (some ⟨tb, 0, none⟩), .pointer (some ⟨db, 0, none⟩)] w fun e w' => e = .returned (.bool (t.step s st.d).2.2.2) ∧
      TrOut w base xb db ab tb v av { st with d := (t.step s st.d).2.2.1 } (t.step s st.d).1 ((t.step s st.d).2.1.obj ab) w' := by
  obtain ⟨a0, a1, a2, a3, a4, a5, a6, az, alt⟩ := take_cells H.t
  rw [hat] at a2
  obtain ⟨hv, hh⟩ : ∃ hv, hv = st.d.word (s.addr 10 (hIdx t.head)) := ⟨_, rfl⟩
  have e1 : t.step s st.d = (s, { t with next := hv, at' := 3 }, st.d.load (s.addr 10 (hIdx t.head)), false) := by
    unfold TkTake.step
    rw [if_neg (by omega), if_pos hat, hh]
  rw [e1]
  obtain ⟨er, hu⟩ := unhead_all t.head
  have HU := Lib.hid hu
  have HA := Lib.hid (aaddr_any H.a 10 (hIdx t.head))
  have HL := Lib.hid (fun os d => dload_any (H.more os d).m (H.more os d).d H.md hf (s.addr 10 (hIdx t.head)))
  rw [← hh] at HL
  have HH := Lib.hid H
  have HAT := Lib.hid hat
  clear H hf hat e1 hu hh a1 a4 a5 a6 az
  go_enter Try.func98, Try.ntmps98
  go_wp2_with (first
    | (go_at_call 102; refine HA.out.mono ?_; rintro e w1 ⟨rfl, hb1⟩; obtain ⟨os, d, rfl⟩ := hb1.more; clear hb1)
    | (go_at_call 101; refine (HL.out os d).mono ?_; rintro e w2 ⟨rfl, hd⟩; have HO := Lib.hid ((HH.out.more os d).desk hd); obtain ⟨v1, av1, hs1⟩ := HO.out; have HS := Lib.hid ((TrStep.keep HH.out ((Only.refl _ w).more os d)).trans hs1); obtain ⟨b0, b1, b2, b3, b4, b5, b6, bz, blt⟩ := take_cells hs1.tr.t; have z2 := bz 2; have z4 := bz 4; rw [HAT.out] at b2; clear hd HO hs1 b1 b3 b5 b6 bz)
    | (go_at_call 103; refine (HU.out _).mono ?_; rintro e w3 ⟨rfl, rfl⟩))
  go_ret
  refine ⟨rfl, HS.out.then (HS.out.tr.put ?_ ?_)⟩
  · repeat (first | exact Only.refl _ _ | apply only_tb)
  · simp [World.setCell, Array.getElem?_modify, HS.out.tr.t, TkTake.obj]

theorem tstep_over {w : World} {base xb db ab tb : Nat} {st : MachS} {v : MachV} {s : ArS} {av : ArV} {t : TkTake} (H : Tr w base xb db ab tb st v s av (t.obj ab)) (h1 : t.at' ≠ 1) (h2 : t.at' ≠ 2) (h3 : t.at' ≠ 3) :
    Calls Try.prog 98 #[.pointer (some ⟨tb, 0, none⟩), .pointer (some ⟨db, 0, none⟩)] w fun e w' => e = .returned (.bool (t.step s st.d).2.2.2) ∧
      TrOut w base xb db ab tb v av { st with d := (t.step s st.d).2.2.1 } (t.step s st.d).1 ((t.step s st.d).2.1.obj ab) w' := by
  obtain ⟨a0, a1, a2, a3, a4, a5, a6, az, alt⟩ := take_cells H.t
  have e1 : t.step s st.d = (s, t, st.d, decide (t.at' = 0)) := by
    unfold TkTake.step
    rw [if_neg h1, if_neg h2, if_neg h3]
  rw [e1]
  have HT := Lib.hid (TrStep.refl H).out
  have d1 : decide (t.at' = 1) = false := by simpa using h1
  have d2 : decide (t.at' = 2) = false := by simpa using h2
  have d3 : decide (t.at' = 3) = false := by simpa using h3
  have c1 : (t.at' == 1) = false := by simpa using h1
  have c2 : (t.at' == 2) = false := by simpa using h2
  have c3 : (t.at' == 3) = false := by simpa using h3
  clear H e1 a0 a1 a3 a4 a5 a6 az
  go_enter Try.func98, Try.ntmps98
  go_wp2
  go_ret
  exact ⟨ret_bool (by rw [Bool.eq_iff_iff]; simp), HT.out⟩
end Go.Proofs.Ytjcggokhminmoaa
namespace Go.Proofs.Ytjcggokhminmoaa
open Go.ChangeShapes Go.WideShapes Go.ChangeAt Go.RowKit

set_option maxRecDepth 100000 in
set_option maxHeartbeats 400000 in
theorem tstep_swap {w : World} {base xb db ab tb : Nat} {st : MachS} {v : MachV} {s : ArS} {av : ArV} {t : TkTake} (H : Tr w base xb db ab tb st v s av (t.obj ab)) (hf : st.d.Fits) (hat : t.at' = 3) :
    Calls Try.prog 98 #[.pointer (some ⟨tb, 0, none⟩), .pointer (some ⟨db, 0, none⟩)] w fun e w' => e = .returned (.bool (t.step s st.d).2.2.2) ∧
      TrOut w base xb db ab tb v av { st with d := (t.step s st.d).2.2.1 } (t.step s st.d).1 ((t.step s st.d).2.1.obj ab) w' := by
  obtain ⟨a0, a1, a2, a3, a4, a5, a6, az, alt⟩ := take_cells H.t
  rw [hat] at a2
  obtain ⟨tg, htg⟩ : ∃ tg, tg = (hTag t.head + 1) % 4294967296 := ⟨_, rfl⟩
  obtain ⟨x, hx⟩ : ∃ x, x = mkHead tg (lIdx t.next) := ⟨_, rfl⟩
  have hbd := tagUp_bd t.head
  rw [show tagUp t.head = tg from htg.symm] at hbd
  have e1 : t.step s st.d = if st.d.swaps (s.addr 1 0) t.head then TkTake.got s t (st.d.swap (s.addr 1 0) t.head x) (hIdx t.head) else (s, { t with at' := 1 }, st.d.swap (s.addr 1 0) t.head x, false) := by
    unfold TkTake.step
    rw [if_neg (by omega), if_neg (by omega), if_pos hat, hx, htg]
    rfl
  rw [e1]
  obtain ⟨er, hu⟩ := unhead_all t.head
  obtain ⟨mk, er2, hl⟩ := unlink_all t.next
  obtain ⟨er3, hd⟩ := head_all tg (lIdx t.next) hbd.1 hbd.2
  rw [← hx] at hd
  have HU := Lib.hid hu
  have HN := Lib.hid hl
  have HD := Lib.hid hd
  have HA := Lib.hid (fun os d => aaddr_any (H.more os d).a 1 0)
  have HL := Lib.hid (fun os d => dswap_any (H.more os d).m (H.more os d).d H.md hf (s.addr 1 0) t.head x)
  have HH := Lib.hid H
  have HAT := Lib.hid hat
  have HTG := Lib.hid htg.symm
  have HF : Hid ((st.d.swap (s.addr 1 0) t.head x).shifts.length ≤ 3000000000000) := Lib.hid (by
    have h1 := (few_swap st.d (s.addr 1 0) t.head x).2.2.1
    have h2 := hf.2.2
    omega)
  clear H hf hat e1 hu hl hd a1 a5 a6 az hbd htg hx
  cases hsw : st.d.swaps (s.addr 1 0) t.head with
  | true =>
    rw [hsw] at HL
    rw [if_pos rfl]
    clear hsw
    go_enter Try.func98, Try.ntmps98
    go_upto_region 18 with (first
      | (go_at_call 103; refine (HU.out _).mono ?_; rintro e w3 ⟨rfl, rfl⟩)
      | (go_at_call 104; refine (HN.out _).mono ?_; rintro e w3 ⟨rfl, rfl⟩)
      | (go_at_call 105; rw [HTG.out]; refine (HD.out _).mono ?_; rintro e w3 ⟨rfl, rfl⟩))
    go_wp2
    refine wp_region_more_tail 11 (by kernel_rfl) (by kernel_rfl) ?_
    simp only [List.take_succ_cons, List.take_zero, List.drop_succ_cons, List.drop_zero]
    repeat (first | go_big_quiet_skip | (go_big_quiet_want; go_big_quiet_op; first | go_big_quiet_on | (apply Exists.intro; refine ⟨fun _ => ?_, ?_⟩; (focus (go_at_call 102; exact Calls.more_of (HA.out _ _))); go_big_quiet_on)))
    refine wpQuiet_nil ?_
    intro osq dq
    go_wp2_with (first
      | (go_at_call 106; refine (HL.out _ _).mono ?_; rintro e w2 ⟨rfl, hq⟩; have HO := Lib.hid ((HH.out.more _ _).desk hq); obtain ⟨v1, av1, hs1⟩ := HO.out; have HS := Lib.hid ((TrStep.keep HH.out ((Only.refl _ w).more _ _)).trans hs1); clear hq HO hs1)
      | (go_at_call 100; refine (tgot_any HS.out.tr HF.out (hIdx t.head)).mono ?_; rintro e w4 ⟨rfl, hq⟩; have HG := Lib.hid hq; clear hq))
    go_ret
    exact ⟨rfl, HS.out.then HG.out⟩
  | false =>
    rw [hsw] at HL
    rw [if_neg (by decide)]
    clear hsw
    go_enter Try.func98, Try.ntmps98
    go_upto_region 18 with (first
      | (go_at_call 103; refine (HU.out _).mono ?_; rintro e w3 ⟨rfl, rfl⟩)
      | (go_at_call 104; refine (HN.out _).mono ?_; rintro e w3 ⟨rfl, rfl⟩)
      | (go_at_call 105; rw [HTG.out]; refine (HD.out _).mono ?_; rintro e w3 ⟨rfl, rfl⟩))
    go_wp2
    refine wp_region_more_tail 11 (by kernel_rfl) (by kernel_rfl) ?_
    simp only [List.take_succ_cons, List.take_zero, List.drop_succ_cons, List.drop_zero]
    repeat (first | go_big_quiet_skip | (go_big_quiet_want; go_big_quiet_op; first | go_big_quiet_on | (apply Exists.intro; refine ⟨fun _ => ?_, ?_⟩; (focus (go_at_call 102; exact Calls.more_of (HA.out _ _))); go_big_quiet_on)))
    refine wpQuiet_nil ?_
    intro osq dq
    go_wp2_with (go_at_call 106; refine (HL.out _ _).mono ?_; rintro e w2 ⟨rfl, hq⟩; have HO := Lib.hid ((HH.out.more _ _).desk hq); obtain ⟨v1, av1, hs1⟩ := HO.out; have HS := Lib.hid ((TrStep.keep HH.out ((Only.refl _ w).more _ _)).trans hs1); obtain ⟨b0, b1, b2, b3, b4, b5, b6, bz, blt⟩ := take_cells hs1.tr.t; have z2 := bz 2; rw [HAT.out] at b2; clear hq HO hs1 b0 b1 b3 b4 b5 b6 bz)
    go_ret
    refine ⟨rfl, HS.out.then (HS.out.tr.put ?_ ?_)⟩
    · repeat (first | exact Only.refl _ _ | apply only_tb)
    · simp [World.setCell, Array.getElem?_modify, HS.out.tr.t, TkTake.obj]

/-- the call's block, beside the part's -/
structure CallBox (w : World) (xb ab tb cb : Nat) (v : MachV) (av : ArV) : Prop where
  c : w.heap[cb]? = some (.cells #[.pointer (some ⟨tb, 0, none⟩)] 158 (0, 0))
  m : ¬ v.own xb cb
  a : ¬ av.own ab cb
  t : cb ≠ tb
theorem CallBox.lt {w : World} {xb ab tb cb : Nat} {v : MachV} {av : ArV} (h : CallBox w xb ab tb cb v av) : cb < w.heap.size := (Array.getElem?_eq_some_iff.1 h.c).1
theorem CallBox.step {w w1 : World} {base xb db ab tb cb : Nat} {st1 : MachS} {v v1 : MachV} {s1 : ArS} {av av1 : ArV} {o1 : Obj} (h : CallBox w xb ab tb cb v av) (k : TrStep w base xb db ab tb v av st1 s1 o1 v1 av1 w1) : CallBox w1 xb ab tb cb v1 av1 := by
  have hl := h.lt
  refine ⟨(k.only.block cb hl (fun x => x.elim h.m (fun x => x.elim h.a h.t))).trans h.c, fun hx => ?_, fun hx => ?_, h.t⟩
  · rcases k.own cb hx with h1 | h1
    · exact h.m h1
    · omega
  · rcases k.aown cb hx with h1 | h1
    · exact h.a h1
    · omega

set_option maxRecDepth 100000 in
set_option maxHeartbeats 1000000 in
theorem ttell_any {w : World} {base xb db ab tb cb ci si : Nat} {st : MachS} {v : MachV} {s : ArS} {av : ArV} {t : TkTake} (H : Tr w base xb db ab tb st v s av (t.obj ab)) (O : st.On ci si) (hc : CallBox w xb ab tb cb v av) (ended : Bool) :
    Calls Try.prog 96 #[.pointer (some ⟨cb, 0, none⟩), .pointer (some ⟨db, 0, none⟩), .bool ended] w fun e w' => e = .returned (.bool (TkTake.tell (s, t, st.d, ended)).2.2.2) ∧
      TrOut w base xb db ab tb v av { st with d := (TkTake.tell (s, t, st.d, ended)).2.2.1 } s (t.obj ab) w' := by
  have c0 : w.cell? ⟨cb, 0, none⟩ = some (.pointer (some ⟨tb, 0, none⟩)) := by simp [World.cell?, hc.c]
  have clt := hc.lt
  cases ended with
  | false =>
    have e1 : TkTake.tell (s, t, st.d, false) = (s, t, st.d, false) := rfl
    rw [e1]
    have HT := Lib.hid (TrStep.refl H).out
    clear H O hc e1
    go_enter Try.func96, Try.ntmps96
    go_wp2
    go_ret
    exact ⟨rfl, HT.out⟩
  | true =>
    have HS := Lib.hid (fun W (ho : Only (fun _ => False) w W) => tslot_any (H.keep ho).t)
    have HA := Lib.hid (fun W (ho : Only (fun _ => False) w W) (k a : Int) => danswer_any (H.keep ho).m (H.keep ho).d O k a)
    have HH := Lib.hid H
    obtain ⟨sl, hsl⟩ : ∃ sl, sl = t.slotOf := ⟨_, rfl⟩
    rw [← hsl] at HS
    have e1 : TkTake.tell (s, t, st.d, true) = (s, t, if 0 ≤ sl then { st.d with ak := 2, av := sl } else { st.d with ak := 4, av := 0 }, true) := by rw [hsl]; rfl
    rw [e1]
    clear H O hc e1 hsl
    by_cases q : 0 ≤ sl
    · rw [if_pos q]
      have qd : decide (0 ≤ sl) = true := by simpa using q
      go_enter Try.func96, Try.ntmps96
      go_wp2_with (first
        | (go_at_call 94; refine (HS.out _ (Below.only0 (by repeat (first | exact Below.refl _ _ | apply Below.drew | apply Below.more1 | apply Below.alloc1 | (refine Below.setCell ?_ (by first | exact Nat.le_refl _ | (simp; done) | (simp; omega)) _))))).mono ?_; rintro e w3 ⟨rfl, rfl⟩)
        | (go_at_call 99; refine (HA.out _ (Below.only0 (by repeat (first | exact Below.refl _ _ | apply Below.drew | apply Below.more1 | apply Below.alloc1 | (refine Below.setCell ?_ (by first | exact Nat.le_refl _ | (simp; done) | (simp; omega)) _)))) 2 sl).mono ?_; rintro e w4 ⟨rfl, hq⟩; have HD := Lib.hid ((HH.out.keep (Below.only0 (by repeat (first | exact Below.refl _ _ | apply Below.drew | apply Below.more1 | apply Below.alloc1 | (refine Below.setCell ?_ (by first | exact Nat.le_refl _ | (simp; done) | (simp; omega)) _))))).desk hq); clear hq))
      go_ret
      exact ⟨rfl, TrOut.pre (Below.only0 (by repeat (first | exact Below.refl _ _ | apply Below.drew | apply Below.more1 | apply Below.alloc1 | (refine Below.setCell ?_ (by first | exact Nat.le_refl _ | (simp; done) | (simp; omega)) _)))) HH.out HD.out⟩
    · rw [if_neg q]
      have qd : decide (0 ≤ sl) = false := by simpa using q
      go_enter Try.func96, Try.ntmps96
      go_wp2_with (first
        | (go_at_call 94; refine (HS.out _ (Below.only0 (by repeat (first | exact Below.refl _ _ | apply Below.drew | apply Below.more1 | apply Below.alloc1 | (refine Below.setCell ?_ (by first | exact Nat.le_refl _ | (simp; done) | (simp; omega)) _))))).mono ?_; rintro e w3 ⟨rfl, rfl⟩)
        | (go_at_call 99; refine (HA.out _ (Below.only0 (by repeat (first | exact Below.refl _ _ | apply Below.drew | apply Below.more1 | apply Below.alloc1 | (refine Below.setCell ?_ (by first | exact Nat.le_refl _ | (simp; done) | (simp; omega)) _)))) 4 0).mono ?_; rintro e w4 ⟨rfl, hq⟩; have HD := Lib.hid ((HH.out.keep (Below.only0 (by repeat (first | exact Below.refl _ _ | apply Below.drew | apply Below.more1 | apply Below.alloc1 | (refine Below.setCell ?_ (by first | exact Nat.le_refl _ | (simp; done) | (simp; omega)) _))))).desk hq); clear hq))
      go_ret
      exact ⟨rfl, TrOut.pre (Below.only0 (by repeat (first | exact Below.refl _ _ | apply Below.drew | apply Below.more1 | apply Below.alloc1 | (refine Below.setCell ?_ (by first | exact Nat.le_refl _ | (simp; done) | (simp; omega)) _)))) HH.out HD.out⟩

/-- takeCall's Ready and Step -/
theorem cready_any {w : World} {base xb db ab tb cb ci si : Nat} {st : MachS} {v : MachV} {s : ArS} {av : ArV} {t : TkTake} (H : Tr w base xb db ab tb st v s av (t.obj ab)) (O : st.On ci si) (hc : CallBox w xb ab tb cb v av) (hf : st.d.Fits) {i : Nat} (hi : i < s.caches.length) (hth : t.th = (i : Int)) :
    Calls Try.prog 93 #[.pointer (some ⟨cb, 0, none⟩), .pointer (some ⟨db, 0, none⟩)] w fun e w' => e = .returned (.bool (TkTake.tell (t.ready s st.d)).2.2.2) ∧
      TrOut w base xb db ab tb v av { st with d := (TkTake.tell (t.ready s st.d)).2.2.1 } (TkTake.tell (t.ready s st.d)).1 ((TkTake.tell (t.ready s st.d)).2.1.obj ab) w' := by
  have c0 : w.cell? ⟨cb, 0, none⟩ = some (.pointer (some ⟨tb, 0, none⟩)) := by simp [World.cell?, hc.c]
  have clt := hc.lt
  have HR := Lib.hid (tready_any H hf hi hth)
  obtain ⟨s', t', d', b, hr⟩ : ∃ s' t' d' b, t.ready s st.d = (s', t', d', b) := ⟨_, _, _, _, rfl⟩
  rw [hr] at HR ⊢
  have HC := Lib.hid hc
  have HO : Hid (({ st with d := d' } : MachS).On ci si) := Lib.hid ⟨O.on, O.c, O.s⟩
  have e1 : (TkTake.tell (s', t', d', b)).1 = s' ∧ (TkTake.tell (s', t', d', b)).2.1 = t' := by cases b <;> exact ⟨rfl, rfl⟩
  rw [e1.1, e1.2]
  clear H O hc hf hi hth hr e1
  go_enter Try.func93, Try.ntmps93
  go_wp2_with (first
    | (go_at_call 97; refine HR.out.mono ?_; rintro e w2 ⟨rfl, hq⟩; obtain ⟨v1, av1, hs1⟩ := hq; have HS := Lib.hid hs1; clear hs1)
    | (go_at_call 96; refine (ttell_any HS.out.tr HO.out (HC.out.step HS.out) b).mono ?_; rintro e w3 ⟨rfl, hq⟩; have HT := Lib.hid hq; clear hq))
  go_ret
  exact ⟨rfl, HS.out.then HT.out⟩
theorem tstep_any {w : World} {base xb db ab tb : Nat} {st : MachS} {v : MachV} {s : ArS} {av : ArV} {t : TkTake} (H : Tr w base xb db ab tb st v s av (t.obj ab)) (hf : st.d.Fits) :
    Calls Try.prog 98 #[.pointer (some ⟨tb, 0, none⟩), .pointer (some ⟨db, 0, none⟩)] w fun e w' => e = .returned (.bool (t.step s st.d).2.2.2) ∧
      TrOut w base xb db ab tb v av { st with d := (t.step s st.d).2.2.1 } (t.step s st.d).1 ((t.step s st.d).2.1.obj ab) w' := by
  by_cases h1 : t.at' = 1
  · exact tstep_load H hf h1
  · by_cases h2 : t.at' = 2
    · exact tstep_next H hf h2
    · by_cases h3 : t.at' = 3
      · exact tstep_swap H hf h3
      · exact tstep_over H h1 h2 h3
theorem cstep_any {w : World} {base xb db ab tb cb ci si : Nat} {st : MachS} {v : MachV} {s : ArS} {av : ArV} {t : TkTake} (H : Tr w base xb db ab tb st v s av (t.obj ab)) (O : st.On ci si) (hc : CallBox w xb ab tb cb v av) (hf : st.d.Fits) :
    Calls Try.prog 95 #[.pointer (some ⟨cb, 0, none⟩), .pointer (some ⟨db, 0, none⟩)] w fun e w' => e = .returned (.bool (TkTake.tell (t.step s st.d)).2.2.2) ∧
      TrOut w base xb db ab tb v av { st with d := (TkTake.tell (t.step s st.d)).2.2.1 } (TkTake.tell (t.step s st.d)).1 ((TkTake.tell (t.step s st.d)).2.1.obj ab) w' := by
  have c0 : w.cell? ⟨cb, 0, none⟩ = some (.pointer (some ⟨tb, 0, none⟩)) := by simp [World.cell?, hc.c]
  have clt := hc.lt
  have HR := Lib.hid (tstep_any H hf)
  obtain ⟨s', t', d', b, hr⟩ : ∃ s' t' d' b, t.step s st.d = (s', t', d', b) := ⟨_, _, _, _, rfl⟩
  rw [hr] at HR ⊢
  have HC := Lib.hid hc
  have HO : Hid (({ st with d := d' } : MachS).On ci si) := Lib.hid ⟨O.on, O.c, O.s⟩
  have e1 : (TkTake.tell (s', t', d', b)).1 = s' ∧ (TkTake.tell (s', t', d', b)).2.1 = t' := by cases b <;> exact ⟨rfl, rfl⟩
  rw [e1.1, e1.2]
  clear H O hc hf hr e1
  go_enter Try.func95, Try.ntmps95
  go_wp2_with (first
    | (go_at_call 98; refine HR.out.mono ?_; rintro e w2 ⟨rfl, hq⟩; obtain ⟨v1, av1, hs1⟩ := hq; have HS := Lib.hid hs1; clear hs1)
    | (go_at_call 96; refine (ttell_any HS.out.tr HO.out (HC.out.step HS.out) b).mono ?_; rintro e w3 ⟨rfl, hq⟩; have HT := Lib.hid hq; clear hq))
  go_ret
  exact ⟨rfl, HS.out.then HT.out⟩
end Go.Proofs.Ytjcggokhminmoaa
namespace Go
open Go.RowKit
open Go.Proofs.Ytjcggokhminmoaa

/-- the caches of the other threads stay -/
structure Keeps (s s' : ArS) (i : Nat) : Prop where
  len : s'.caches.length = s.caches.length
  other : ∀ j : Nat, j ≠ i → s'.caches[j]? = s.caches[j]?
theorem Keeps.refl (s : ArS) (i : Nat) : Keeps s s i := ⟨rfl, fun _ _ => rfl⟩
theorem Keeps.of_eq {s s' : ArS} {i : Nat} (h : s'.caches = s.caches) : Keeps s s' i := ⟨by rw [h], fun _ _ => by rw [h]⟩
theorem shift_caches (s : ArS) (d : DeskS) (k x : Int) : (s.shift d k x).1.caches = s.caches := by unfold ArS.shift; split <;> rfl
theorem keeps_set (s : ArS) (i : Nat) (c : List Int) : Keeps s (s.setCache (i : Int) c) i := by
  refine ⟨by simp [ArS.setCache], fun j hj => ?_⟩
  show (s.caches.set (i : Int).toNat c)[j]? = _
  rw [Int.toNat_natCast, List.getElem?_set_ne (Ne.symm hj)]
theorem Keeps.shift {s s' : ArS} {i : Nat} (h : Keeps s s' i) (d : DeskS) (k x : Int) : Keeps s (s'.shift d k x).1 i := ⟨by rw [shift_caches]; exact h.len, fun j hj => by rw [shift_caches]; exact h.other j hj⟩

def ATk.isTake : ATk → Bool
  | .take _ => true
  | _ => false
def ATk.val (t : ATk) (k : Nat) : Value := match t with
  | .take _ => .iface 154 (.pointer (some ⟨k, 0, none⟩))
  | .give _ => .iface 159 (.pointer (some ⟨k, 0, none⟩))
  | .flush _ => .iface 161 (.pointer (some ⟨k, 0, none⟩))
def ATk.obj (ab : Nat) (t : ATk) : Obj := match t with
  | .take q => q.obj ab
  | .give p => p.obj ab 184
  | .flush p => p.obj ab 185
def ATk.callAt (t : ATk) (w : World) (bk sb : Nat) : Prop := match t with
  | .take _ => w.heap[bk]? = some (.cells #[.pointer (some ⟨sb, 0, none⟩)] 158 (0, 0)) ∧ bk ≠ sb
  | _ => bk = sb
/-- a flush that is on its way has something to give back -/
def ATk.flOk (s : ArS) (i : Nat) (t : ATk) : Prop := ∀ p, t = .flush p → p.at' ≠ 0 → ∃ (c : List Int) (k : Int), s.caches[i]? = some (c ++ [k])

/-- what a method keeps: the other caches, the thread, which kind of part it is, a flush's cache -/
structure AKeep (s : ArS) (i : Nat) (t : ATk) (r : ArS × ATk × DeskS × Bool) : Prop where
  k : Keeps s r.1 i
  th : r.2.1.th = t.th
  val : ∀ k, r.2.1.val k = t.val k
  fl : r.2.1.flOk r.1 i

theorem akeep_take {s : ArS} {i : Nat} {t : TkTake} {r : ArS × TkTake × DeskS × Bool} (hk : Keeps s r.1 i) (hth : r.2.1.th = t.th) : AKeep s i (.take t) ((TkTake.tell r).1, .take (TkTake.tell r).2.1, (TkTake.tell r).2.2) := by
  obtain ⟨s', t', d', b⟩ := r
  have e1 : (TkTake.tell (s', t', d', b)).1 = s' ∧ (TkTake.tell (s', t', d', b)).2.1 = t' := by cases b <;> exact ⟨rfl, rfl⟩
  refine ⟨by rw [e1.1]; exact hk, by show (TkTake.tell (s', t', d', b)).2.1.th = _; rw [e1.2]; exact hth, fun _ => rfl, fun p hp => by cases hp⟩

theorem akeep_ready {s : ArS} {t : ATk} {d : DeskS} {i : Nat} (hth : t.th = (i : Int)) (hf : t.flOk s i) : AKeep s i t (t.ready s d) := by
  cases t with
  | take q =>
    have hq : q.th = (i : Int) := hth
    refine akeep_take ?_ ?_
    · unfold TkTake.ready
      split
      · exact Keeps.refl _ _
      · split
        · exact Keeps.refl _ _
        · unfold TkTake.got
          rw [hq]
          exact (keeps_set s i _).shift _ _ _
    · unfold TkTake.ready
      split
      · rfl
      · split <;> rfl
  | give p =>
    have hq : p.th = (i : Int) := hth
    refine ⟨?_, ?_, fun _ => rfl, fun q hp => by cases hp⟩
    · show Keeps s (p.giveReady s d).1 i
      unfold TkPush.giveReady
      split
      · exact Keeps.refl _ _
      · split
        · exact Keeps.refl _ _
        · rw [hq]
          exact (keeps_set s i _).shift _ _ _
    · show (p.giveReady s d).2.1.th = p.th
      unfold TkPush.giveReady
      split
      · rfl
      · split <;> rfl
  | flush p =>
    have hq : p.th = (i : Int) := hth
    have h1 : (p.flushReady s d).1 = s ∧ (p.flushReady s d).2.1.th = p.th := by unfold TkPush.flushReady; split <;> exact ⟨rfl, rfl⟩
    refine ⟨by show Keeps s (p.flushReady s d).1 i; rw [h1.1]; exact Keeps.refl _ _, h1.2, fun _ => rfl, fun q hq1 hq2 => ?_⟩
    show ∃ c k, (p.flushReady s d).1.caches[i]? = some (c ++ [k])
    have hq1' : (p.flushReady s d).2.1 = q := by injection hq1
    rw [h1.1]
    rcases last_snoc (s.cache p.th) with he | ⟨c, k, he⟩
    · refine hf p rfl ?_
      have : (p.flushReady s d).2.1 = p := by unfold TkPush.flushReady; rw [he]; rfl
      rw [← this, hq1']
      exact hq2
    · rw [hq] at he
      refine ⟨c, k, ?_⟩
      unfold ArS.cache at he
      split at he
      · rename_i ht
        have hl : i < s.caches.length := by simp [ArS.thread] at ht; exact ht
        rw [Int.toNat_natCast, List.getD_eq_getElem?_getD, List.getElem?_eq_getElem hl] at he
        rw [List.getElem?_eq_getElem hl]
        exact congrArg some he
      · simp at he

theorem pstep_over0 (s : ArS) (p : TkPush) (d : DeskS) (h : (p.step s d).2.2.2 = true) : (p.step s d).2.1.at' = 0 := by
  revert h
  unfold TkPush.step
  split
  · intro h; cases h
  · split
    · intro h; cases h
    · split
      · simp only
        split
        · intro _; rfl
        · intro h; cases h
      · intro h; cases h

theorem akeep_step {s : ArS} {t : ATk} {d : DeskS} {i : Nat} (hth : t.th = (i : Int)) (hf : t.flOk s i) (hi : i < s.caches.length) : AKeep s i t (t.step s d) := by
  cases t with
  | take q =>
    refine akeep_take ?_ ?_
    · unfold TkTake.step
      split
      · exact Keeps.refl _ _
      · split
        · exact Keeps.refl _ _
        · split
          · simp only
            split
            · exact (Keeps.refl s i).shift _ _ _
            · exact Keeps.refl _ _
          · exact Keeps.refl _ _
    · unfold TkTake.step
      split
      · rfl
      · split
        · rfl
        · split
          · simp only
            split <;> rfl
          · rfl
  | give p =>
    have h1 := pstep_keeps s p d
    refine ⟨?_, ?_, fun _ => rfl, fun q hp => by cases hp⟩
    · show Keeps s (p.giveStep s d).1 i
      unfold TkPush.giveStep
      split
      · exact Keeps.refl _ _
      · exact Keeps.of_eq h1.1
    · show (p.giveStep s d).2.1.th = p.th
      unfold TkPush.giveStep
      split
      · rfl
      · exact h1.2
  | flush p =>
    have hq : p.th = (i : Int) := hth
    obtain ⟨h1, h2⟩ := pstep_keeps s p d
    by_cases hat : p.at' = 0
    · have e1 : p.flushStep s d = (s, p, d, true) := by unfold TkPush.flushStep; rw [if_pos hat]
      refine ⟨by show Keeps s (p.flushStep s d).1 i; rw [e1]; exact Keeps.refl _ _, by show (p.flushStep s d).2.1.th = p.th; rw [e1], fun _ => rfl, ?_⟩
      show (ATk.flush (p.flushStep s d).2.1).flOk (p.flushStep s d).1 i
      rw [e1]
      exact hf
    · obtain ⟨c, k, hc⟩ := hf p rfl hat
      obtain ⟨s', p', d', b, hr⟩ : ∃ s' p' d' b, p.step s d = (s', p', d', b) := ⟨_, _, _, _, rfl⟩
      have h0 := pstep_over0 s p d
      rw [hr] at h1 h2 h0
      simp only at h1 h2 h0
      have hc' : s'.caches[i]? = some (c ++ [k]) := by rw [h1]; exact hc
      obtain ⟨ec, eth⟩ := cache_eq hc'
      have hl' : i < s'.caches.length := by rw [h1]; exact hi
      cases b with
      | false =>
        have e1 : p.flushStep s d = (s', p', d', false) := by
          unfold TkPush.flushStep
          rw [if_neg hat, hr]
          rfl
        refine ⟨by show Keeps s (p.flushStep s d).1 i; rw [e1]; exact Keeps.of_eq h1, by show (p.flushStep s d).2.1.th = p.th; rw [e1]; exact h2, fun _ => rfl, fun q _ _ => ?_⟩
        show ∃ c k, (p.flushStep s d).1.caches[i]? = some (c ++ [k])
        rw [e1]
        exact ⟨c, k, hc'⟩
      | true =>
        have e1 : p.flushStep s d = match c.getLast? with | none => (s'.setCache (i : Int) c, p', d', true) | some q => (s'.setCache (i : Int) c, { p' with slot := q, at' := 1 }, d', false) := by
          unfold TkPush.flushStep
          rw [if_neg hat, hr]
          simp only [hq, ec, List.dropLast_concat]
          cases c.getLast? <;> rfl
        have hk : Keeps s (s'.setCache (i : Int) c) i := ⟨(keeps_set s' i c).len.trans (by rw [h1]), fun j hj => ((keeps_set s' i c).other j hj).trans (by rw [h1])⟩
        have hcq : (s'.setCache (i : Int) c).caches[i]? = some c := by
          show (s'.caches.set (i : Int).toNat c)[i]? = _
          rw [Int.toNat_natCast, List.getElem?_set_self hl']
        rcases last_snoc c with rfl | ⟨c2, q, rfl⟩
        · have e2 : p.flushStep s d = (s'.setCache (i : Int) [], p', d', true) := e1
          refine ⟨by show Keeps s (p.flushStep s d).1 i; rw [e2]; exact hk, by show (p.flushStep s d).2.1.th = p.th; rw [e2]; exact h2, fun _ => rfl, ?_⟩
          show (ATk.flush (p.flushStep s d).2.1).flOk (p.flushStep s d).1 i
          rw [e2]
          intro q hq1 hq2
          cases hq1
          exact absurd (h0 rfl) hq2
        · have e2 : p.flushStep s d = (s'.setCache (i : Int) (c2 ++ [q]), { p' with slot := q, at' := 1 }, d', false) := by rw [e1]; simp
          refine ⟨by show Keeps s (p.flushStep s d).1 i; rw [e2]; exact hk, by show (p.flushStep s d).2.1.th = p.th; rw [e2]; exact h2, fun _ => rfl, fun q' _ _ => ?_⟩
          show ∃ c k, (p.flushStep s d).1.caches[i]? = some (c ++ [k])
          rw [e2]
          exact ⟨c2, q, hcq⟩
end Go
namespace Go.Proofs.Ytjcggokhminmoaa
open Go.ChangeShapes Go.WideShapes Go.ChangeAt Go.RowKit

/-- in a step: behind w0, with the desk at db -/
def InStep (K : Kits) (w0 : World) (base xb : Nat) (v0 : MachV) (vs : List Value) (F0 : Nat → Prop) (db ci si : Nat) (st : MachS) (s : K.S) (ts : List (Option K.T)) (w : World) : Prop :=
  ∃ v F, MK K w base xb st v vs s ts F ∧ Only (fun k => v0.own xb k ∨ F0 k) w0 w ∧ (∀ k, v.own xb k → v0.own xb k ∨ w0.heap.size ≤ k) ∧ (∀ k, F k → F0 k ∨ w0.heap.size ≤ k) ∧
    v.vse = v0.vse ∧ v.vca = v0.vca ∧ v.mb = v0.mb ∧ v.kit = v0.kit ∧ DeskBox w xb db ∧ ¬ v.own xb db ∧ ¬ F db ∧ w0.heap.size ≤ db ∧ st.On ci si

section
variable {K : Kits} {w0 w w1 : World} {base xb : Nat} {v0 : MachV} {vs : List Value} {F0 : Nat → Prop} {db ci si : Nat} {st : MachS} {s : K.S} {ts : List (Option K.T)}

theorem InStep.on (h : InStep K w0 base xb v0 vs F0 db ci si st s ts w) : st.On ci si := by
  obtain ⟨v, F, h1, h2, h3, h4, e1, e2, e3, e4, hd, n1, n2, hz, O⟩ := h
  exact O
theorem InStep.facts {g g2 : Nat} (h : InStep K w0 base xb v0 vs F0 db ci si st s ts w) (hg : v0.vse.rowBlock = some g) (hg2 : v0.vca.rowBlock = some g2) {se : Seat} {ca : Cal} (hse : st.seats[si]? = some se) (hca : st.calls[ci]? = some ca) :
    (w.cell? ⟨g, si * 5, none⟩ = some se.task ∧ w.cell? ⟨g, si * 5 + 1, none⟩ = some (.bool se.ready) ∧ w.cell? ⟨g, si * 5 + 2, none⟩ = some (.int .i64 se.last) ∧
      w.cell? ⟨g, si * 5 + 3, none⟩ = some (.int .i64 st.d.ak) ∧ w.cell? ⟨g, si * 5 + 4, none⟩ = some (.int .i64 st.d.av) ∧ (∀ j, w.frozen? ⟨g, j, none⟩ = false) ∧ g < w.heap.size) ∧
    (w.cell? ⟨g2, ci * 9 + 5, none⟩ = some (.int .i64 ca.en) ∧ w.cell? ⟨g2, ci * 9 + 7, none⟩ = some (.int .i64 ca.ak) ∧ w.cell? ⟨g2, ci * 9 + 8, none⟩ = some (.int .i64 ca.av) ∧
      (∀ j, w.frozen? ⟨g2, j, none⟩ = false) ∧ g2 < w.heap.size) ∧
    (w.cell? ⟨xb, 10, none⟩ = some v0.vca ∧ w.cell? ⟨xb, 3, none⟩ = some (.pointer (some ⟨g2, ci * 9, none⟩)) ∧ w.cell? ⟨xb, 4, none⟩ = some (.pointer (some ⟨g, si * 5 + 3, none⟩)) ∧ (∀ j, w.frozen? ⟨xb, j, none⟩ = false) ∧ xb < w.heap.size) ∧
    g ≠ xb ∧ g2 ≠ xb ∧ g ≠ g2 := by
  obtain ⟨v, F, h1, h2, h3, h4, e1, e2, e3, e4, hd, n1, n2, hz, O⟩ := h
  have := h1.m.stepFacts O (by rw [e1]; exact hg) (by rw [e2]; exact hg2) hse hca
  rw [e2] at this
  exact this

/-- a task's method -/
theorem InStep.task {v : MachV} {F : Nat → Prop} {r : K.S × K.T × DeskS × Bool} {e : Ending} (_h1 : MK K w base xb st v vs s ts F) (h2 : Only (fun k => v0.own xb k ∨ F0 k) w0 w) (h3 : ∀ k, v.own xb k → v0.own xb k ∨ w0.heap.size ≤ k) (h4 : ∀ k, F k → F0 k ∨ w0.heap.size ≤ k)
    (e1 : v.vse = v0.vse) (e2 : v.vca = v0.vca) (e3 : v.mb = v0.mb) (e4 : v.kit = v0.kit) (hd : DeskBox w xb db) (n1 : ¬ v.own xb db) (n2 : ¬ F db) (hz : w0.heap.size ≤ db) (O : st.On ci si)
    (hT : TaskOut K w base xb st v vs ts F si r e w1) : e = .returned (.bool r.2.2.2) ∧ InStep K w0 base xb v0 vs F0 db ci si { st with d := r.2.2.1 } r.1 (ts.set si (some r.2.1)) w1 := by
  obtain ⟨rfl, v', F', k1, k2, k3, k4, f1, f2, f3, f4⟩ := hT
  have hdl := hd.facts.2.2
  refine ⟨rfl, v', F', k1, h2.trans k2 ?_, ?_, ?_, f1.trans e1, f2.trans e2, f3.trans e3, f4.trans e4, hd.only k2 (fun x => x.elim n1 n2), ?_, ?_, hz, ⟨O.on, O.c, O.s⟩⟩
  · rintro k (hk | hk)
    · rcases h3 k hk with h | h
      · exact .inl (.inl h)
      · exact .inr h
    · rcases h4 k hk with h | h
      · exact .inl (.inr h)
      · exact .inr h
  · intro k hk
    rcases k3 k hk with h | h
    · exact h3 k h
    · have := h2.size; exact .inr (by omega)
  · intro k hk
    rcases k4 k hk with h | h
    · exact h4 k h
    · have := h2.size; exact .inr (by omega)
  · intro hk
    rcases k3 _ hk with h | h
    · exact n1 h
    · omega
  · intro hk
    rcases k4 _ hk with h | h
    · exact n2 h
    · omega

theorem InStep.run_ready (hK : KitsOk K) (h : InStep K w0 base xb v0 vs F0 db ci si st s ts w) {t : K.T} (ht : ts[si]? = some (some t)) (hf : st.d.Fits) {se : Seat} (hse : st.seats[si]? = some se) :
    Runs Try.prog se.task "Ready" #[.pointer (some ⟨db, 0, none⟩)] w fun e w' => e = .returned (.bool (K.ready s t st.d).2.2.2) ∧
      InStep K w0 base xb v0 vs F0 db ci si { st with d := (K.ready s t st.d).2.2.1 } (K.ready s t st.d).1 (ts.set si (some (K.ready s t st.d).2.1)) w' := by
  obtain ⟨v, F, h1, h2, h3, h4, e1, e2, e3, e4, hd, n1, n2, hz, O⟩ := h
  have hy : vs[si]? = some se.task := by rw [← h1.tasks, List.getElem?_map, hse]; rfl
  exact (hK.ready_run h1 ht hy O hf hd n1 n2).mono fun e w' hT => InStep.task h1 h2 h3 h4 e1 e2 e3 e4 hd n1 n2 hz O hT
theorem InStep.run_step (hK : KitsOk K) (h : InStep K w0 base xb v0 vs F0 db ci si st s ts w) {t : K.T} (ht : ts[si]? = some (some t)) (hf : st.d.Fits) {se : Seat} (hse : st.seats[si]? = some se) :
    Runs Try.prog se.task "Step" #[.pointer (some ⟨db, 0, none⟩)] w fun e w' => e = .returned (.bool (K.step s t st.d).2.2.2) ∧
      InStep K w0 base xb v0 vs F0 db ci si { st with d := (K.step s t st.d).2.2.1 } (K.step s t st.d).1 (ts.set si (some (K.step s t st.d).2.1)) w' := by
  obtain ⟨v, F, h1, h2, h3, h4, e1, e2, e3, e4, hd, n1, n2, hz, O⟩ := h
  have hy : vs[si]? = some se.task := by rw [← h1.tasks, List.getElem?_map, hse]; rfl
  exact (hK.step_run h1 ht hy O hf hd n1 n2).mono fun e w' hT => InStep.task h1 h2 h3 h4 e1 e2 e3 e4 hd n1 n2 hz O hT

/-- a cell of the machine's is written -/
theorem InStep.put {st' : MachS} {vs' : List Value} {ts' : List (Option K.T)} {p : Addr} {u : Value} (hK : KitsOk K) (h : InStep K w0 base xb v0 vs F0 db ci si st s ts w) (hp : ∀ v : MachV, v.vse = v0.vse → v.vca = v0.vca → v.own xb p.block) (hO : st'.On ci si)
    (hM : ∀ v, MachAt w base xb st v → v.vse = v0.vse → v.vca = v0.vca → MachAt (w.setCell p u) base xb st' v) (hts : st'.seats.map Seat.task = vs') (hA : ∀ (v : MachV) F, K.At w base v.kit vs s ts F → K.At w base v.kit vs' s ts' F) (hl : ts'.length = vs'.length) :
    InStep K w0 base xb v0 vs' F0 db ci si st' s ts' (w.setCell p u) := by
  obtain ⟨v, F, h1, h2, h3, h4, e1, e2, e3, e4, hd, n1, n2, hz, O⟩ := h
  have hpo := hp v e1 e2
  have hpd : db ≠ p.block := fun e => n1 (e ▸ hpo)
  refine ⟨v, F, ⟨hM v h1.m e1 e2, hK.loc (hA v F h1.k) (fun k hk => Below.heap_setCell _ _ _ _ (fun e => h1.sep k hk (e ▸ hpo))), h1.sep, hts, hl⟩, h2.set ?_ _, h3, h4, e1, e2, e3, e4, hd.of_block (Below.heap_setCell _ _ _ _ hpd), n1, n2, hz, hO⟩
  rcases h3 _ hpo with h | h
  · exact .inl (.inl h)
  · exact .inr h
theorem InStep.drew (hK : KitsOk K) (h : InStep K w0 base xb v0 vs F0 db ci si st s ts w) : InStep K w0 base xb v0 vs F0 db ci si st s ts w.drew := by
  obtain ⟨v, F, h1, h2, h3, h4, e1, e2, e3, e4, hd, n1, n2, hz, O⟩ := h
  exact ⟨v, F, ⟨h1.m.drew, hK.loc h1.k (fun _ _ => rfl), h1.sep, h1.tasks, h1.len⟩, h2.drew, h3, h4, e1, e2, e3, e4, hd, n1, n2, hz, O⟩
end

/-- behind the memory's Now and the desk's making -/
theorem InStep.begin {K : Kits} (hK : KitsOk K) {w w5 w1 : World} {base xb ci si : Nat} {st st0 : MachS} {v : MachV} {vs : List Value} {s : K.S} {ts : List (Option K.T)} {F : Nat → Prop} (H : MK K w base xb st v vs s ts F) (now : Int)
    (h5 : MachAt w5 base xb st0 v) (ho5 : Only (v.own xb) w w5) (hm : MemAt w1 base v.mb { st0.d.mem with move := now } v.mv) (ho : Only (v.mv.own v.mb) w5 w1) (hs : st0.seats = st.seats) (O : st0.On ci si) :
    (∃ v1, MachAt w1 base xb { st0 with d := { st0.d with mem := { st0.d.mem with move := now } } } v1 ∧ v1.vse = v.vse ∧ v1.vca = v.vca) ∧
    InStep K w base xb v vs F w1.heap.size ci si { st0 with d := { st0.d with mem := { st0.d.mem with move := now } } } s ts (w1.alloc (.cells #[.pointer (some ⟨xb, 0, none⟩)] 166)) := by
  obtain ⟨v1, k1, k2, k3, f1, f2, f3, f4⟩ := h5.mem_out (ms := { st0.d.mem with move := now }) ⟨v.mv, hm, ho, fun k hk => .inl hk⟩
  have hall := ho5.trans k2 (fun _ hk => .inl hk)
  have hsz := hall.size
  have hlt := k1.lt
  have hFl := hK.lt H.k
  have hown : ∀ k, v1.own xb k → v.own xb k ∨ w.heap.size ≤ k := fun k hk => by
    rcases k3 k hk with h | h
    · exact .inl h
    · have := ho5.size; exact .inr (by omega)
  refine ⟨⟨v1, k1, f1, f2⟩, v1, F, ⟨k1.alloc _, ?_, ?_, ?_, H.len⟩, ?_, hown, fun k hk => .inl hk, f1, f2, f3, f4, ?_, ?_, ?_, hsz, ⟨O.on, O.c, O.s⟩⟩
  · rw [f4]
    exact hK.loc H.k fun k hk => by rw [Below.heap_alloc _ _ _ (by have := (hFl k hk).2; omega)]; exact hall.block k (hFl k hk).2 (H.sep k hk)
  · intro k hk h
    rcases hown k h with h | h
    · exact H.sep k hk h
    · have := (hFl k hk).2; omega
  · rw [← H.tasks]; exact congrArg _ hs
  · exact (hall.mono fun k _ hk => .inl hk).alloc _
  · exact heap_alloc_new w1 _
  · intro hk
    have := (hlt _ hk).2
    omega
  · intro hk
    have := (hFl _ hk).2
    omega

/-- what a step leaves -/
def StepDone (K : Kits) (w0 : World) (base xb : Nat) (v0 : MachV) (F0 : Nat → Prop) (st : MachS) (vs : List Value) (s : K.S) (ts : List (Option K.T)) (w : World) : Prop :=
  ∃ v F, MK K w base xb st v vs s ts F ∧ Only (fun k => v0.own xb k ∨ F0 k) w0 w ∧ (∀ k, v.own xb k → v0.own xb k ∨ w0.heap.size ≤ k) ∧ (∀ k, F k → F0 k ∨ w0.heap.size ≤ k) ∧ v.mb = v0.mb ∧ v.kit = v0.kit

section
variable {K : Kits} {w0 w w1 : World} {base xb : Nat} {v0 : MachV} {vs : List Value} {F0 : Nat → Prop} {db ci si : Nat} {st : MachS} {s : K.S} {ts : List (Option K.T)}
theorem InStep.call (hK : KitsOk K) {g2 : Nat} (hg2 : v0.vca.rowBlock = some g2) (h : InStep K w0 base xb v0 vs F0 db ci si st s ts w) {j : Nat} (hj : j < 9) (f : Cal → Cal) (u : Value)
    (hf : ∀ c p, ({ f c with pt := p } : Cal).cells = ({ c with pt := p } : Cal).cells.set j u) : InStep K w0 base xb v0 vs F0 db ci si (st.withCall ci f) s ts (w.setCell ⟨g2, ci * 9 + j, none⟩ u) :=
  h.put hK (fun v _ e2 => .inr (.inr (.inr (.inr (by rw [e2]; exact hg2))))) (h.on.withCall _) (fun v hv _ e2 => hv.call_cell h.on (by rw [e2]; exact hg2) hj f u hf)
    (by obtain ⟨v, F, h1, _⟩ := h; exact h1.tasks) (fun _ _ h => h) (by obtain ⟨v, F, h1, _⟩ := h; exact h1.len)
theorem InStep.seat (hK : KitsOk K) {g : Nat} (hg : v0.vse.rowBlock = some g) (h : InStep K w0 base xb v0 vs F0 db ci si st s ts w) {j : Nat} (hj : j < 5) (f : Seat → Seat) (u : Value)
    (hf : ∀ c p q, ({ f c with ak := p, av := q } : Seat).cells = ({ c with ak := p, av := q } : Seat).cells.set j u) (ht : ∀ c, (f c).task = c.task) : InStep K w0 base xb v0 vs F0 db ci si (st.withSeat si f) s ts (w.setCell ⟨g, si * 5 + j, none⟩ u) :=
  h.put hK (fun v e1 _ => .inr (.inr (.inr (.inl (by rw [e1]; exact hg))))) (h.on.withSeat _) (fun v hv e1 _ => hv.seat_cell h.on (by rw [e1]; exact hg) hj f u hf)
    (by
      obtain ⟨v, F, h1, _⟩ := h
      rw [← h1.tasks]
      show (st.seats.modify si f).map Seat.task = _
      apply List.ext_getElem?
      intro i
      simp only [List.getElem?_map, List.getElem?_modify]
      split
      · cases st.seats[i]? <;> simp [ht]
      · simp) (fun _ _ h => h) (by obtain ⟨v, F, h1, _⟩ := h; exact h1.len)
/-- the task is gone -/
theorem InStep.gone (hK : KitsOk K) {g : Nat} (hg : v0.vse.rowBlock = some g) (h : InStep K w0 base xb v0 vs F0 db ci si st s ts w) : InStep K w0 base xb v0 (vs.set si .nilIface) F0 db ci si (st.withSeat si fun c => { c with task := .nilIface }) s (ts.set si none) (w.setCell ⟨g, si * 5 + 0, none⟩ .nilIface) :=
  h.put hK (fun v e1 _ => .inr (.inr (.inr (.inl (by rw [e1]; exact hg))))) (h.on.withSeat _) (fun v hv e1 _ => hv.seat_cell h.on (by rw [e1]; exact hg) (by decide) _ _ (fun _ _ _ => rfl))
    (by
      obtain ⟨v, F, h1, _⟩ := h
      rw [← h1.tasks]
      show (st.seats.modify si _).map Seat.task = _
      apply List.ext_getElem?
      intro i
      simp only [List.getElem?_map, List.getElem?_modify, List.getElem?_set, List.length_map]
      by_cases e : si = i
      · subst e
        by_cases hl : si < st.seats.length
        · simp [hl]
        · simp [hl]
      · simp [e]) (fun _ _ h => hK.drop h si) (by obtain ⟨v, F, h1, _⟩ := h; simpa using h1.len)
theorem InStep.done (hK : KitsOk K) (h : InStep K w0 base xb v0 vs F0 db ci si st s ts w) : StepDone K w0 base xb v0 F0 st.rest vs s ts ((w.setCell ⟨xb, 3, none⟩ (.pointer none)).setCell ⟨xb, 4, none⟩ (.pointer none)) := by
  obtain ⟨v, F, h1, h2, h3, h4, e1, e2, e3, e4, hd, n1, n2, hz, O⟩ := h
  have hx : v0.own xb xb := .inl rfl
  refine ⟨v, F, ⟨h1.m.rest, hK.loc h1.k (fun k hk => ?_), h1.sep, ?_, h1.len⟩, (h2.set (.inl (.inl hx)) _).set (.inl (.inl hx)) _, h3, h4, e3, e4⟩
  · have : k ≠ xb := fun e => h1.sep k hk (.inl e)
    simp [World.setCell, Array.getElem?_modify, Ne.symm this]
  · rw [← h1.tasks]
    show st.seatsNow.map Seat.task = _
    rw [O.seatsE]
    apply List.ext_getElem?
    intro i
    simp only [List.getElem?_map, List.getElem?_modify]
    split
    · cases st.seats[i]? <;> simp
    · simp
theorem StepDone.drew (hK : KitsOk K) (h : StepDone K w0 base xb v0 F0 st vs s ts w) : StepDone K w0 base xb v0 F0 st vs s ts w.drew := by
  obtain ⟨v, F, h1, h2, h3, h4, e⟩ := h
  exact ⟨v, F, ⟨h1.m.drew, hK.loc h1.k (fun _ _ => rfl), h1.sep, h1.tasks, h1.len⟩, h2.drew, h3, h4, e⟩
end

end Go.Proofs.Ytjcggokhminmoaa
namespace Go
open Go.RowKit
open Go.Proofs.Ytjcggokhminmoaa

def arG (xb : Nat) (op : Int) : Option Value := if op = 10 then some (.func (.func 61) #[] #[.pointer (some ⟨xb, 0, none⟩)]) else if op = 11 then some (.func (.func 63) #[] #[.pointer (some ⟨xb, 0, none⟩)])
  else if op = 12 then some (.func (.func 65) #[] #[.pointer (some ⟨xb, 0, none⟩)]) else none
structure ArKAt (w : World) (b : Nat) (kit : Value) (vs : List Value) (s : ArS) (ts : List (Option ATk)) (F : Nat → Prop) (ab kb xb : Nat) (v : ArV) (col blk sub : Nat → Nat) : Prop where
  a : ArAt w b ab s v
  kit : kit = .map (some kb)
  map : ∃ es clk, w.heap[kb]? = some (.map es clk) ∧ Reads es (arG xb)
  box : w.heap[xb]? = some (.cells #[.pointer (some ⟨ab, 0, none⟩)] 24 (0, 0))
  lt : ∀ i, F i → b ≤ i ∧ i < w.heap.size
  fa : ∀ k, v.own ab k → F k ∧ col k = 1
  fk : F kb ∧ col kb = 0
  fx : F xb ∧ col xb = 0
  no : ∀ i : Nat, ts[i]? = some none → vs[i]? = some Value.nilIface
  yes : ∀ (i : Nat) (t : ATk), ts[i]? = some (some t) → t.th = (i : Int) ∧ vs[i]? = some (t.val (blk i)) ∧ w.heap[sub i]? = some (t.obj ab) ∧ t.callAt w (blk i) (sub i) ∧ F (blk i) ∧ F (sub i) ∧ col (blk i) = 2 + i ∧ col (sub i) = 2 + i ∧ t.flOk s i
  few : ts.length ≤ s.caches.length
def arK (ab : Nat) : Kits where
  T := ATk
  S := ArS
  At w b kit vs s ts F := ∃ kb xb v col blk sub, ArKAt w b kit vs s ts F ab kb xb v col blk sub
  make := arMake
  ready := ATk.ready
  step := ATk.step

section
variable {w w' : World} {b : Nat} {kit : Value} {vs : List Value} {s : ArS} {ts : List (Option ATk)} {F : Nat → Prop} {ab kb xb : Nat} {v : ArV} {col blk sub : Nat → Nat}
theorem ATk.callAt_of {t : ATk} {bk sb : Nat} (h : t.callAt w bk sb) (hb : w'.heap[bk]? = w.heap[bk]?) : t.callAt w' bk sb := by
  cases t with
  | take q => exact ⟨hb.trans h.1, h.2⟩
  | give p => exact h
  | flush p => exact h
theorem ArKAt.of_block (h : ArKAt w b kit vs s ts F ab kb xb v col blk sub) (hb : ∀ k, F k → w'.heap[k]? = w.heap[k]?) : ArKAt w' b kit vs s ts F ab kb xb v col blk sub := by
  refine ⟨h.a.of_block fun k hk => hb k (h.fa k hk).1, h.kit, ?_, (hb xb h.fx.1).trans h.box, fun i hi => ⟨(h.lt i hi).1, ?_⟩, h.fa, h.fk, h.fx, h.no, fun i t ht => ?_, h.few⟩
  · obtain ⟨es, clk, h1, h2⟩ := h.map
    exact ⟨es, clk, (hb kb h.fk.1).trans h1, h2⟩
  · have h1 := (h.lt i hi).2
    have h2 := hb i hi
    rw [Array.getElem?_eq_getElem h1] at h2
    exact (Array.getElem?_eq_some_iff.1 h2).1
  · obtain ⟨a1, a2, a3, a4, a5, a6, a7, a8, a9⟩ := h.yes i t ht
    exact ⟨a1, a2, (hb _ a6).trans a3, ATk.callAt_of a4 (hb _ a5), a5, a6, a7, a8, a9⟩
end
end Go
namespace Go.Proofs.Ytjcggokhminmoaa
open Go.ChangeShapes Go.WideShapes Go.ChangeAt Go.RowKit

section
variable {w w' : World} {base xb db : Nat} {st : MachS} {v : MachV} {vs : List Value} {s : ArS} {ts : List (Option ATk)} {F : Nat → Prop} {ab kb bx : Nat} {av : ArV} {col blk sub : Nat → Nat} {i : Nat} {t : ATk}
/-- a task's part, beside the machine and the arena -/
theorem to_tr (H : MK (arK ab) w base xb st v vs s ts F) (hA : ArKAt w base v.kit vs s ts F ab kb bx av col blk sub) (ht : ts[i]? = some (some t)) (D : DeskBox w xb db) (n1 : ¬ v.own xb db) (n2 : ¬ F db) : Tr w base xb db ab (sub i) st v s av (t.obj ab) := by
  obtain ⟨a1, a2, a3, a4, a5, a6, a7, a8, a9⟩ := hA.yes i t ht
  refine ⟨H.m, D, hA.a, a3, fun k hk => H.sep k (hA.fa k hk).1, n1, fun hk => n2 (hA.fa db hk).1, H.sep _ a6, fun hk => ?_, fun e => n2 (e ▸ a6)⟩
  have := (hA.fa _ hk).2
  omega

theorem of_tr (H : MK (arK ab) w base xb st v vs s ts F) (hA : ArKAt w base v.kit vs s ts F ab kb bx av col blk sub) (ht : ts[i]? = some (some t)) {r : ArS × ATk × DeskS × Bool} (hk : AKeep s i t r)
    (ho : TrOut w base xb db ab (sub i) v av { st with d := r.2.2.1 } r.1 (r.2.1.obj ab) w') : TaskOut (arK ab) w base xb st v vs ts F i r (.returned (.bool r.2.2.2)) w' := by
  obtain ⟨v1, av1, k⟩ := ho
  obtain ⟨a1, a2, a3, a4, a5, a6, a7, a8, a9⟩ := hA.yes i t ht
  have hil : i < ts.length := (List.getElem?_eq_some_iff.1 ht).1
  have hsz := k.only.size
  have hFlt := fun j hj => (hA.lt j hj).2
  have hb : ∀ j, F j → col j ≠ 1 → j ≠ sub i → w'.heap[j]? = w.heap[j]? := fun j hj hc hs => k.only.block j (hFlt j hj) (fun x => by
    rcases x with x | x | x
    · exact H.sep j hj x
    · exact hc (hA.fa j x).2
    · exact hs x)
  have hFin : ∀ j, av1.own ab j → F j ∨ w.heap.size ≤ j := fun j hj => by
    rcases k.aown j hj with h | h
    · exact .inl (hA.fa j h).1
    · exact .inr h
  refine ⟨rfl, v1, fun j => F j ∨ av1.own ab j, ⟨k.tr.m, ⟨kb, bx, av1, fun j => if j < w.heap.size then col j else 1, blk, sub, ⟨k.tr.a, by rw [k.kit]; exact hA.kit, ?_, ?_, ?_, ?_, ?_, ?_, ?_, ?_, ?_⟩⟩, ?_, H.tasks, ?_⟩, ?_, k.own, ?_, k.vse, k.vca, k.mb, k.kit⟩
  · obtain ⟨es, clk, h1, h2⟩ := hA.map
    exact ⟨es, clk, (hb kb hA.fk.1 (by rw [hA.fk.2]; omega) (fun e => by have := hA.fk.2; rw [e, a8] at this; omega)).trans h1, h2⟩
  · exact (hb bx hA.fx.1 (by rw [hA.fx.2]; omega) (fun e => by have := hA.fx.2; rw [e, a8] at this; omega)).trans hA.box
  · rintro j (hj | hj)
    · have := hA.lt j hj; exact ⟨this.1, by omega⟩
    · exact k.tr.a.lt j hj
  · intro j hj
    refine ⟨.inr hj, ?_⟩
    show (if _ then _ else _) = _
    split
    · rename_i hl
      rcases k.aown j hj with h | h
      · exact (hA.fa j h).2
      · omega
    · rfl
  · exact ⟨.inl hA.fk.1, by show (if _ then _ else _) = _; rw [if_pos (hFlt kb hA.fk.1)]; exact hA.fk.2⟩
  · exact ⟨.inl hA.fx.1, by show (if _ then _ else _) = _; rw [if_pos (hFlt bx hA.fx.1)]; exact hA.fx.2⟩
  · intro j hj
    replace hj : (List.set (α := Option ATk) ts i (some r.2.1))[j]? = some none := hj
    by_cases e : i = j
    · subst e
      rw [List.getElem?_set_self hil] at hj
      cases hj
    · rw [List.getElem?_set_ne e] at hj
      exact hA.no j hj
  · intro j t' hj
    replace hj : (List.set (α := Option ATk) ts i (some r.2.1))[j]? = some (some t') := hj
    by_cases e : i = j
    · subst e
      rw [List.getElem?_set_self hil] at hj
      have e2 : r.2.1 = t' := Option.some.inj (Option.some.inj hj)
      subst e2
      refine ⟨hk.th.trans a1, by rw [hk.val]; exact a2, k.tr.t, ?_, .inl a5, .inl a6, by show (if _ then _ else _) = _; rw [if_pos (hFlt _ a5)]; exact a7, by show (if _ then _ else _) = _; rw [if_pos (hFlt _ a6)]; exact a8, hk.fl⟩
      have hv := hk.val 0
      revert hv
      generalize r.2.1 = t2
      intro hv
      cases t with
      | take q =>
        cases t2 with
        | take q2 => exact ⟨(hb _ a5 (by rw [a7]; omega) a4.2).trans a4.1, a4.2⟩
        | give p2 => simp [ATk.val] at hv
        | flush p2 => simp [ATk.val] at hv
      | give p =>
        cases t2 with
        | take q2 => simp [ATk.val] at hv
        | give p2 => exact a4
        | flush p2 => exact a4
      | flush p =>
        cases t2 with
        | take q2 => simp [ATk.val] at hv
        | give p2 => exact a4
        | flush p2 => exact a4
    · rw [List.getElem?_set_ne e] at hj
      obtain ⟨b1, b2, b3, b4, b5, b6, b7, b8, b9⟩ := hA.yes j t' hj
      have n1 : sub j ≠ sub i := fun x => by rw [x, a8] at b8; omega
      have n2 : blk j ≠ sub i := fun x => by rw [x, a8] at b7; omega
      refine ⟨b1, b2, (hb _ b6 (by rw [b8]; omega) n1).trans b3, ATk.callAt_of b4 (hb _ b5 (by rw [b7]; omega) n2), .inl b5, .inl b6, by show (if _ then _ else _) = _; rw [if_pos (hFlt _ b5)]; exact b7, by show (if _ then _ else _) = _; rw [if_pos (hFlt _ b6)]; exact b8, fun p hp hat => ?_⟩
      obtain ⟨c, q, hc⟩ := b9 p hp hat
      exact ⟨c, q, by rw [hk.k.other j (Ne.symm e)]; exact hc⟩
  · show (List.set (α := Option ATk) ts i (some r.2.1)).length ≤ _
    rw [List.length_set, hk.k.len]; exact hA.few
  · rintro j (hj | hj) ho
    · rcases k.own j ho with h | h
      · exact H.sep j hj h
      · have := hFlt j hj; omega
    · exact k.tr.ma j hj ho
  · show (List.set (α := Option ATk) ts i (some r.2.1)).length = _
    rw [List.length_set]; exact H.len
  · refine k.only.mono fun j _ hj => ?_
    rcases hj with h | h | h
    · exact .inl h
    · exact .inr (hA.fa j h).1
    · exact .inr (by rw [h]; exact a6)
  · rintro j (hj | hj)
    · exact .inl hj
    · exact hFin j hj
/-- a task's first method in a step -/
theorem arK_ready (H : MK (arK ab) w base xb st v vs s ts F) (ht : ts[i]? = some (some t)) {y : Value} (hy : vs[i]? = some y) {ci : Nat} (O : st.On ci i) (hf : st.d.Fits) (D : DeskBox w xb db) (n1 : ¬ v.own xb db) (n2 : ¬ F db) :
    Runs Try.prog y "Ready" #[.pointer (some ⟨db, 0, none⟩)] w (TaskOut (arK ab) w base xb st v vs ts F i (ATk.ready s t st.d)) := by
  obtain ⟨kb, bx, av, col, blk, sub, hA⟩ := H.k
  obtain ⟨a1, a2, a3, a4, a5, a6, a7, a8, a9⟩ := hA.yes i t ht
  have hT := to_tr H hA ht D n1 n2
  have hi : i < s.caches.length := Nat.lt_of_lt_of_le (List.getElem?_eq_some_iff.1 ht).1 hA.few
  obtain rfl : y = t.val (blk i) := by rw [hy] at a2; exact Option.some.inj a2
  have hk := akeep_ready (d := st.d) a1 a9
  cases t with
  | take q =>
    have hc : CallBox w xb ab (sub i) (blk i) v av := ⟨a4.1, H.sep _ a5, fun x => by have := (hA.fa _ x).2; omega, a4.2⟩
    refine ⟨93, .pointer (some ⟨blk i, 0, none⟩), fun xs w0 => by kernel_rfl, (cready_any hT O hc hf hi a1).mono ?_⟩
    rintro e w1 ⟨rfl, ho⟩
    exact of_tr H hA ht hk ho
  | give p =>
    have hb : blk i = sub i := a4
    rw [hb]
    refine ⟨117, .pointer (some ⟨sub i, 0, none⟩), fun xs w0 => by kernel_rfl, (gready_any hT hf hi a1).mono ?_⟩
    rintro e w1 ⟨rfl, ho⟩
    exact of_tr H hA ht hk ho
  | flush p =>
    have hb : blk i = sub i := a4
    rw [hb]
    refine ⟨122, .pointer (some ⟨sub i, 0, none⟩), fun xs w0 => by kernel_rfl, (fready_any hT hi a1).mono ?_⟩
    rintro e w1 ⟨rfl, ho⟩
    exact of_tr H hA ht hk ho
/-- a task's access -/
theorem arK_step (H : MK (arK ab) w base xb st v vs s ts F) (ht : ts[i]? = some (some t)) {y : Value} (hy : vs[i]? = some y) {ci : Nat} (O : st.On ci i) (hf : st.d.Fits) (D : DeskBox w xb db) (n1 : ¬ v.own xb db) (n2 : ¬ F db) :
    Runs Try.prog y "Step" #[.pointer (some ⟨db, 0, none⟩)] w (TaskOut (arK ab) w base xb st v vs ts F i (ATk.step s t st.d)) := by
  obtain ⟨kb, bx, av, col, blk, sub, hA⟩ := H.k
  obtain ⟨a1, a2, a3, a4, a5, a6, a7, a8, a9⟩ := hA.yes i t ht
  have hT := to_tr H hA ht D n1 n2
  have hi : i < s.caches.length := Nat.lt_of_lt_of_le (List.getElem?_eq_some_iff.1 ht).1 hA.few
  obtain rfl : y = t.val (blk i) := by rw [hy] at a2; exact Option.some.inj a2
  have hk := akeep_step (d := st.d) a1 a9 hi
  cases t with
  | take q =>
    have hc : CallBox w xb ab (sub i) (blk i) v av := ⟨a4.1, H.sep _ a5, fun x => by have := (hA.fa _ x).2; omega, a4.2⟩
    refine ⟨95, .pointer (some ⟨blk i, 0, none⟩), fun xs w0 => by kernel_rfl, (cstep_any hT O hc hf).mono ?_⟩
    rintro e w1 ⟨rfl, ho⟩
    exact of_tr H hA ht hk ho
  | give p =>
    have hb : blk i = sub i := a4
    rw [hb]
    refine ⟨118, .pointer (some ⟨sub i, 0, none⟩), fun xs w0 => by kernel_rfl, (gstep_any hT hf).mono ?_⟩
    rintro e w1 ⟨rfl, ho⟩
    exact of_tr H hA ht hk ho
  | flush p =>
    have hb : blk i = sub i := a4
    rw [hb]
    refine ⟨123, .pointer (some ⟨sub i, 0, none⟩), fun xs w0 => by kernel_rfl, (fstep_any hT hf a1 (a9 p rfl)).mono ?_⟩
    rintro e w1 ⟨rfl, ho⟩
    exact of_tr H hA ht hk ho
end
end Go.Proofs.Ytjcggokhminmoaa
