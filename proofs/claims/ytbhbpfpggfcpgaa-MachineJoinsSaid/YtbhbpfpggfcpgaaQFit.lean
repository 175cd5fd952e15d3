/-
reclaimlaw03.fit and play.
-/
import Derived.Test.YtbhbpfpggfcpgaaQAwk
namespace Go.Proofs.Ytbhbpfpggfcpgaa
open Go.ChangeShapes Go.WideShapes Go.ChangeAt Go.RowKit Go.Shelf

theorem _root_.Go.Below.only0 {w w' : World} (h : Below w.heap.size w w') : Only (fun _ => False) w w' := ⟨h.os, h.tape, h.output, h.size, fun k hk _ => h.block k hk⟩

def fitN (th : Int) : Nat := if 1 ≤ th ∧ th ≤ 16 then th.toNat else 2
def FitRes (w : World) (th : Int) (ox : Option Addr) (nx cx : Nat) (om : Option Addr) (nm cm : Nat) (e : Ending) (w' : World) : Prop :=
  e = .returned (.agg #[.int .i64 (fitN th : Int), .slice ox (min nx 8192) cx, .slice om (min nm 65536) cm]) ∧ Only (fun _ => False) w w'

set_option maxRecDepth 100000 in
set_option maxHeartbeats 2000000 in
theorem fit_ok {w : World} (th : Int) (ox : Option Addr) (nx cx : Nat) (om : Option Addr) (nm cm : Nat) (h1 : nx ≤ cx) (h2 : nm ≤ cm) (h3 : cx ≤ maxLen) (h4 : cm ≤ maxLen) (hx : ox = none → cx = 0) (hm : om = none → cm = 0) :
    Calls Try.prog 29 #[.agg #[.int .i64 th, .slice ox nx cx, .slice om nm cm]] w (FitRes w th ox nx cx om nm cm) := by
  unfold maxLen at h3 h4
  have hth : (decide (th < 1) = true ∧ Hid (fitN th = 2)) ∨ (decide (th < 1) = false ∧ decide (16 < th) = true ∧ Hid (fitN th = 2)) ∨ (decide (th < 1) = false ∧ decide (16 < th) = false ∧ Hid ((fitN th : Int) = th)) := by
    unfold fitN
    by_cases a : th < 1
    · exact .inl ⟨by simpa using a, Lib.hid (by rw [if_neg (by omega)])⟩
    · by_cases b : 16 < th
      · exact .inr (.inl ⟨by simpa using a, by simpa using b, Lib.hid (by rw [if_neg (by omega)])⟩)
      · exact .inr (.inr ⟨by simpa using a, by simpa using b, Lib.hid (by rw [if_pos (by omega)]; omega)⟩)
  have hnx : (decide ((8192 : Int) < (nx : Int)) = true ∧ (∃ ad, ox = some ad) ∧ 8192 ≤ cx ∧ Hid (min nx 8192 = 8192)) ∨ (decide ((8192 : Int) < (nx : Int)) = false ∧ Hid (min nx 8192 = nx)) := by
    by_cases a : 8192 < nx
    · refine .inl ⟨by simp; omega, ?_, by omega, Lib.hid (by omega)⟩
      cases ox with
      | none => have := hx rfl; omega
      | some ad => exact ⟨ad, rfl⟩
    · exact .inr ⟨by simp; omega, Lib.hid (by omega)⟩
  have hnm : (decide ((65536 : Int) < (nm : Int)) = true ∧ (∃ ad, om = some ad) ∧ 65536 ≤ cm ∧ Hid (min nm 65536 = 65536)) ∨ (decide ((65536 : Int) < (nm : Int)) = false ∧ Hid (min nm 65536 = nm)) := by
    by_cases a : 65536 < nm
    · refine .inl ⟨by simp; omega, ?_, by omega, Lib.hid (by omega)⟩
      cases om with
      | none => have := hm rfl; omega
      | some ad => exact ⟨ad, rfl⟩
    · exact .inr ⟨by simp; omega, Lib.hid (by omega)⟩
  unfold FitRes
  clear hx hm
  rcases hth with ⟨t1, t2⟩ | ⟨t1, t2, t3⟩ | ⟨t1, t2, t3⟩ <;> rcases hnx with ⟨x1, ⟨ad, rfl⟩, x2, x3⟩ | ⟨x1, x3⟩ <;> rcases hnm with ⟨m1, ⟨am, rfl⟩, m2, m3⟩ | ⟨m1, m3⟩
  all_goals
    rw [x3.out, m3.out]
    first | rw [t2.out] | rw [t3.out]
    go_enter Try.func29, Try.ntmps29
    go_wp2
    refine bodyPost_ret (by simp [results, Try.results29, go_sem]) rfl ⟨rfl, ((Only.refl _ w).alloc _).alloc _⟩

/-- a script that came in -/
structure ScrIn (w : World) (v : Value) (th : Int) (l : List Int) (ms : List Mv) (ox : Option Addr) (cx : Nat) (om : Option Addr) (cm : Nat) : Prop where
  eq : v = .agg #[.int .i64 th, .slice ox l.length cx, .slice om ms.length cm]
  src : w.Src 1 (.slice ox l.length cx) l.length (u64s l)
  mvs : MvsIn w (.slice om ms.length cm) ms
  hx : l.length ≤ cx ∧ cx ≤ maxLen ∧ (ox = none → cx = 0)
  hm : ms.length ≤ cm ∧ cm ≤ maxLen ∧ (om = none → cm = 0)

theorem _root_.Go.World.Src.take {w : World} {ox : Option Addr} {cx : Nat} {l : List Int} (h : w.Src 1 (.slice ox l.length cx) l.length (u64s l)) (hn : ox = none → cx = 0) (k : Nat) : w.Src 1 (.slice ox (min l.length k) cx) (l.take k).length (u64s (l.take k)) := by
  have hl : (l.take k).length = min l.length k := by simp; omega
  rw [hl]
  refine ⟨by simp [u64s]; omega, ?_⟩
  rcases h.2 with ⟨e, h0⟩ | ⟨ad, c, e, hc, hcell⟩
  · simp only [Value.slice.injEq] at e
    obtain ⟨rfl, _, rfl⟩ := e
    exact .inl ⟨by rw [h0]; simp, by rw [h0]; simp⟩
  · cases e
    refine .inr ⟨ad, cx, rfl, by omega, fun j u hu => hcell j u ?_⟩
    simp only [u64s, List.map_take] at hu ⊢
    rw [List.getElem?_take] at hu
    split at hu
    · exact hu
    · cases hu
theorem MvsIn.take {w : World} {om : Option Addr} {cm : Nat} {ms : List Mv} (h : MvsIn w (.slice om ms.length cm) ms) (k : Nat) : MvsIn w (.slice om (min ms.length k) cm) (ms.take k) := by
  obtain ⟨o, c, e, h1, h2, h3⟩ := h
  cases e
  have hl : (ms.take k).length = min ms.length k := by simp; omega
  refine ⟨om, cm, by rw [hl], by omega, h2, fun i hi => ?_⟩
  rw [hl] at hi
  obtain ⟨b, off, e1, hb, c0, c1, c2, c3⟩ := h3 i (by omega)
  simp only [List.getElem_take]
  exact ⟨b, off, e1, hb, c0, c1, c2, c3⟩

/-- what play leaves -/
def PlayedRes (w : World) (th : Int) (l : List Int) (ms : List Mv) (ox : Option Addr) (cx : Nat) (om : Option Addr) (cm : Nat) (e : Ending) (w' : World) : Prop :=
  ∃ x : RunVs, e = .returned (.tuple #[.agg #[.int .i64 (fitN th : Int), .slice ox l.length cx, .slice om ms.length cm], x.v, .bool true]) ∧
    RunAt w' w.heap.size x (ownRun l (fitN th) ms) ∧ Only (fun _ => False) w w'
theorem fitN_ok (th : Int) : 1 ≤ fitN th ∧ fitN th ≤ 16 := by unfold fitN; split <;> omega

set_option maxRecDepth 100000 in
set_option maxHeartbeats 4000000 in
theorem played_in {w : World} {th : Int} {l l1 : List Int} {ms ms1 : List Mv} {ox : Option Addr} {cx : Nat} {om : Option Addr} {cm : Nat}
    (HF : Hid (∀ W, Calls Try.prog 29 #[.agg #[.int .i64 th, .slice ox l.length cx, .slice om ms.length cm]] W fun e w' => e = .returned (.agg #[.int .i64 (fitN th : Int), .slice ox l1.length cx, .slice om ms1.length cm]) ∧ Only (fun _ => False) W w'))
    (HP : Hid (∀ W, Only (fun _ => False) w W → Calls Try.prog 21 #[.int .i64 (fitN th : Int), .slice ox l1.length cx, .slice om ms1.length cm] W (PlayRes W l1 (fitN th) ms1))) :
    Calls Try.prog 27 #[.agg #[.int .i64 th, .slice ox l.length cx, .slice om ms.length cm]] w (PlayedRes w th l1 ms1 ox cx om cm) := by
  have HA := Lib.hid (fun W => awake_ok (w := W))
  go_enter Try.func27, Try.ntmps27
  go_wp2_with (first
    | (go_at_call 29; refine (HF.out _).mono ?_; rintro e w1 ⟨rfl, ho⟩; obtain ⟨osA, dA, rfl⟩ := (Only.below ho (fun _ h => h.elim) (Nat.le_refl _)).more; clear ho)
    | (go_at_call 21; refine (HP.out _ (Below.only0 (by repeat (first | exact Below.refl _ _ | apply Below.drew | apply Below.more1 | apply Below.alloc1 | (refine Below.setCell ?_ (by first | exact Nat.le_refl _ | (simp; done) | (simp; omega)) _))))).mono ?_; rintro e w1 ⟨⟨va, vt, vb, vc⟩, he, hra, ho⟩; obtain ⟨oa, ca, e1, _, _⟩ := hra.wa.form; obtain ⟨ot, ct, e2, _, _⟩ := hra.wt.form; obtain ⟨ob, cb, e3, _, _⟩ := hra.wb.form; obtain ⟨oc, cc, e4, _, _⟩ := hra.wc.form; simp only at e1 e2 e3 e4; subst e1; subst e2; subst e3; subst e4; (unfold RunVs.v at he); subst he; have HRA := Lib.hid hra; have HO := Lib.hid ho; clear hra; obtain ⟨os, d, rfl⟩ := (Only.below ho (fun _ h => h.elim) (Nat.le_refl _)).more; clear ho))
  obtain ⟨B5, hB5⟩ : ∃ B5, B5 = w.heap.size + 1 + 1 + 1 + osA.size + os.size := ⟨_, rfl⟩
  rw [← hB5]
  refine gen_world ?_
  intro W hW
  have hsz : W.heap.size = B5 + 1 := by rw [hW, hB5]; simp [World.size_more]
  have hB1 : w.heap.size + 1 + 1 < B5 := by omega
  have k1 : W.heap[w.heap.size]? = some (.cells #[.int .i64 (fitN th : Int), .slice ox l1.length cx, .slice om ms1.length cm] 45 (0, 0)) := by
    rw [hW, Below.heap_alloc _ _ _ (by simp [World.size_more] <;> omega), World.heap_more _ _ _ _ (by simp [World.size_more] <;> omega), World.heap_more _ _ _ _ (by simp <;> omega), Below.heap_alloc _ _ _ (by simp <;> omega), Below.heap_alloc _ _ _ (by simp <;> omega)]
    exact heap_alloc_new w _
  have k2 : W.heap[w.heap.size + 1]? = some (.cells #[.int .i64 0, .slice none 0 0, .slice none 0 0] 45 (0, 0)) := by
    rw [hW, Below.heap_alloc _ _ _ (by simp [World.size_more] <;> omega), World.heap_more _ _ _ _ (by simp [World.size_more] <;> omega), World.heap_more _ _ _ _ (by simp <;> omega), Below.heap_alloc _ _ _ (by simp <;> omega)]
    exact heap_alloc_at (by simp)
  have k3 : W.heap[w.heap.size + 1 + 1]? = some (.cells #[.slice none 0 0, .slice none 0 0, .slice none 0 0, .slice none 0 0] 41 (0, 0)) := by
    rw [hW, Below.heap_alloc _ _ _ (by simp [World.size_more] <;> omega), World.heap_more _ _ _ _ (by simp [World.size_more] <;> omega), World.heap_more _ _ _ _ (by simp <;> omega)]
    exact heap_alloc_at (by simp)
  have k5 : W.heap[B5]? = some (.cells #[.slice oa (ownRun l1 (fitN th) ms1).calls.length ca, .slice ot (ownRun l1 (fitN th) ms1).trace.length ct, .slice ob (ownRun l1 (fitN th) ms1).shifts.length cb, .slice oc (ownRun l1 (fitN th) ms1).words.length cc] 41 (0, 0)) := by
    rw [hW, hB5]
    exact heap_alloc_at (by simp [World.size_more])
  have hWo : Hid (Only (fun _ => False) w W) := Lib.hid (by rw [hW]; exact (Below.only0 (by repeat (first | exact Below.refl _ _ | apply Below.drew | apply Below.more1 | apply Below.alloc1 | (refine Below.setCell ?_ (by first | exact Nat.le_refl _ | (simp; done) | (simp; omega)) _)))))
  have hRW : Hid (RunAt W (w.heap.size + 1 + 1 + 1) ⟨.slice oa (ownRun l1 (fitN th) ms1).calls.length ca, .slice ot (ownRun l1 (fitN th) ms1).trace.length ct, .slice ob (ownRun l1 (fitN th) ms1).shifts.length cb, .slice oc (ownRun l1 (fitN th) ms1).words.length cc⟩ (ownRun l1 (fitN th) ms1)) := by
    refine Lib.hid (RunAt.base_mono (RunAt.of_block HRA.out fun k hk => ?_) ?_)
    · rw [hW]; exact Below.heap_alloc _ _ _ (HRA.out.lt k hk).2
    · simp [World.size_more]
  clear hW HRA hB5
  obtain ⟨B3, hB3⟩ : ∃ B3, B3 = w.heap.size + 1 + 1 := ⟨_, rfl⟩
  obtain ⟨B2, hB2⟩ : ∃ B2, B2 = w.heap.size + 1 := ⟨_, rfl⟩
  obtain ⟨B1, hB0⟩ : ∃ B1, B1 = w.heap.size := ⟨_, rfl⟩
  rw [← hB3, ← hB2, ← hB0]
  rw [← hB3] at k3
  rw [← hB2] at k2
  rw [← hB0] at k1
  have hne23 : B2 ≠ B3 := by omega
  have hne32 : B3 ≠ B2 := by omega
  have hne12 : B1 ≠ B2 := by omega
  have hne13 : B1 ≠ B3 := by omega
  have hbs : B1 < W.heap.size ∧ B2 < W.heap.size ∧ B3 < W.heap.size ∧ B5 < W.heap.size ∧ B5 ≠ B2 ∧ B5 ≠ B3 := by omega
  have HB := Lib.hid (show B1 = w.heap.size ∧ B2 = w.heap.size + 1 ∧ B3 = w.heap.size + 1 + 1 ∧ B3 < B5 from ⟨hB0, hB2, hB3, by omega⟩)
  obtain ⟨b1l, y2l, y3l, b5l, b52, b53⟩ := hbs
  clear hB3 hB2 hB0 hsz hB1
  have x10 : W.cell? ⟨B1, 0, none⟩ = some (.int .i64 (fitN th : Int)) := by simp [World.cell?, k1]
  have x11 : W.cell? ⟨B1, 1, none⟩ = some (.slice ox l1.length cx) := by simp [World.cell?, k1]
  have x12 : W.cell? ⟨B1, 2, none⟩ = some (.slice om ms1.length cm) := by simp [World.cell?, k1]
  have x50 : W.cell? ⟨B5, 0, none⟩ = some (.slice oa (ownRun l1 (fitN th) ms1).calls.length ca) := by simp [World.cell?, k5]
  have x51 : W.cell? ⟨B5, 1, none⟩ = some (.slice ot (ownRun l1 (fitN th) ms1).trace.length ct) := by simp [World.cell?, k5]
  have x52 : W.cell? ⟨B5, 2, none⟩ = some (.slice ob (ownRun l1 (fitN th) ms1).shifts.length cb) := by simp [World.cell?, k5]
  have x53 : W.cell? ⟨B5, 3, none⟩ = some (.slice oc (ownRun l1 (fitN th) ms1).words.length cc) := by simp [World.cell?, k5]
  have n1 : ¬ (fun k => k = B2 ∨ k = B3) B1 := by simp; omega
  have n5 : ¬ (fun k => k = B2 ∨ k = B3) B5 := by simp; omega
  have f10 := fun g : LaterF (fun k => k = B2 ∨ k = B3) W => g.cell x10 b1l n1
  have f11 := fun g : LaterF (fun k => k = B2 ∨ k = B3) W => g.cell x11 b1l n1
  have f12 := fun g : LaterF (fun k => k = B2 ∨ k = B3) W => g.cell x12 b1l n1
  have f50 := fun g : LaterF (fun k => k = B2 ∨ k = B3) W => g.cell x50 b5l n5
  have f51 := fun g : LaterF (fun k => k = B2 ∨ k = B3) W => g.cell x51 b5l n5
  have f52 := fun g : LaterF (fun k => k = B2 ∨ k = B3) W => g.cell x52 b5l n5
  have f53 := fun g : LaterF (fun k => k = B2 ∨ k = B3) W => g.cell x53 b5l n5
  have y20 : W.cell? ⟨B2, 0, none⟩ = some (.int .i64 0) := by simp [World.cell?, k2]
  have y21 : W.cell? ⟨B2, 1, none⟩ = some (.slice none 0 0) := by simp [World.cell?, k2]
  have y22 : W.cell? ⟨B2, 2, none⟩ = some (.slice none 0 0) := by simp [World.cell?, k2]
  have y2z : ∀ j, W.frozen? ⟨B2, j, none⟩ = false := fun j => by simp [World.frozen?, k2]
  have y30 : W.cell? ⟨B3, 0, none⟩ = some (.slice none 0 0) := by simp [World.cell?, k3]
  have y31 : W.cell? ⟨B3, 1, none⟩ = some (.slice none 0 0) := by simp [World.cell?, k3]
  have y32 : W.cell? ⟨B3, 2, none⟩ = some (.slice none 0 0) := by simp [World.cell?, k3]
  have y33 : W.cell? ⟨B3, 3, none⟩ = some (.slice none 0 0) := by simp [World.cell?, k3]
  have y3z : ∀ j, W.frozen? ⟨B3, j, none⟩ = false := fun j => by simp [World.frozen?, k3]
  clear x10 x11 x12 x50 x51 x52 x53 n1 n5 k1 k5
  go_wp2
  refine wp_region_steps (fun wz => ∃ g : LaterF (fun k => k = B2 ∨ k = B3) W, wz = g.W) [5, 1, 0, 0] (by kernel_rfl) (by kernel_rfl) (laterF_in ((Only.refl _ _).drew)) ?_
  simp only [cutSteps, List.take_succ_cons, List.take_zero, List.drop_succ_cons, List.drop_zero, wpSteps]
  repeat (first | go_big_quiet_skip | (go_big_quiet_want; go_big_quiet_op; go_big_quiet_on))
  refine wpQuiet_nil ?_
  go_wp2_with (go_at_call 26; refine (HA.out _).mono ?_; rintro e w1 ⟨rfl, ho⟩; obtain ⟨os, d, rfl⟩ := (Only.below ho (fun _ h => h.elim) (Nat.le_refl _)).more; clear ho)
  try unfold Strict
  refine ⟨?_, ?_⟩
  · refine laterF_in ?_
    with_reducible repeat (first | exact Only.refl _ _ | apply Only.more | apply Only.drew | refine Only.set ?_ (.inl (by simp)) _)
  repeat (first | go_big_quiet_skip | (go_big_quiet_want; go_big_quiet_op; go_big_quiet_on))
  refine wpQuiet_nil ?_
  go_wp2_with fail
  try unfold Strict
  refine ⟨?_, ?_⟩
  · refine laterF_in ?_
    with_reducible repeat (first | exact Only.refl _ _ | apply Only.more | apply Only.drew | refine Only.set ?_ (.inl (by simp)) _)
  repeat (first | go_big_quiet_skip | (go_big_quiet_want; go_big_quiet_op; go_big_quiet_on))
  refine wpQuiet_nil ?_
  go_wp2_with fail
  try unfold Strict
  refine ⟨?_, ?_⟩
  · refine laterF_in ?_
    with_reducible repeat (first | exact Only.refl _ _ | apply Only.more | apply Only.drew | refine Only.set ?_ (.inl (by simp)) _)
  repeat (first | go_big_quiet_skip | (go_big_quiet_want; go_big_quiet_op; go_big_quiet_on))
  refine wpQuiet_nil ?_
  go_wp2_with fail
  try unfold Strict
  refine ⟨?_, ?_⟩
  · refine laterF_in ?_
    with_reducible repeat (first | exact Only.refl _ _ | apply Only.more | apply Only.drew | refine Only.set ?_ (.inl (by simp)) _)
  repeat (first | go_big_quiet_skip | (go_big_quiet_want; go_big_quiet_op; go_big_quiet_on))
  refine wpQuiet_nil ?_
  go_wp2_with fail
  have HOn : Only (fun k => k = B2 ∨ k = B3) W ((((((((W.setCell ⟨B2, 0, none⟩ (.int .i64 (fitN th : Int))).setCell ⟨B2, 1, none⟩ (.slice ox l1.length cx)).setCell ⟨B2, 2, none⟩ (.slice om ms1.length cm)).setCell ⟨B3, 0, none⟩ (.slice oa (ownRun l1 (fitN th) ms1).calls.length ca)).setCell ⟨B3, 1, none⟩ (.slice ot (ownRun l1 (fitN th) ms1).trace.length ct)).setCell ⟨B3, 2, none⟩ (.slice ob (ownRun l1 (fitN th) ms1).shifts.length cb)).setCell ⟨B3, 3, none⟩ (.slice oc (ownRun l1 (fitN th) ms1).words.length cc)).drew.more os d) := by
    with_reducible repeat (first | exact Only.refl _ _ | apply Only.more | apply Only.drew | refine Only.set ?_ (.inl (by simp)) _)
  have hf2 : ((((((((W.setCell ⟨B2, 0, none⟩ (.int .i64 (fitN th : Int))).setCell ⟨B2, 1, none⟩ (.slice ox l1.length cx)).setCell ⟨B2, 2, none⟩ (.slice om ms1.length cm)).setCell ⟨B3, 0, none⟩ (.slice oa (ownRun l1 (fitN th) ms1).calls.length ca)).setCell ⟨B3, 1, none⟩ (.slice ot (ownRun l1 (fitN th) ms1).trace.length ct)).setCell ⟨B3, 2, none⟩ (.slice ob (ownRun l1 (fitN th) ms1).shifts.length cb)).setCell ⟨B3, 3, none⟩ (.slice oc (ownRun l1 (fitN th) ms1).words.length cc)).drew.more os d).heap[B2]? = some (.cells #[.int .i64 (fitN th : Int), .slice ox l1.length cx, .slice om ms1.length cm] 45 (0, 0)) := by
    rw [World.heap_more _ _ _ _ (by simp [World.setCell]; omega)]
    simp [World.setCell, World.drew, Array.getElem?_modify, k2, hne32]
  have hf3 : ((((((((W.setCell ⟨B2, 0, none⟩ (.int .i64 (fitN th : Int))).setCell ⟨B2, 1, none⟩ (.slice ox l1.length cx)).setCell ⟨B2, 2, none⟩ (.slice om ms1.length cm)).setCell ⟨B3, 0, none⟩ (.slice oa (ownRun l1 (fitN th) ms1).calls.length ca)).setCell ⟨B3, 1, none⟩ (.slice ot (ownRun l1 (fitN th) ms1).trace.length ct)).setCell ⟨B3, 2, none⟩ (.slice ob (ownRun l1 (fitN th) ms1).shifts.length cb)).setCell ⟨B3, 3, none⟩ (.slice oc (ownRun l1 (fitN th) ms1).words.length cc)).drew.more os d).heap[B3]? = some (.cells #[.slice oa (ownRun l1 (fitN th) ms1).calls.length ca, .slice ot (ownRun l1 (fitN th) ms1).trace.length ct, .slice ob (ownRun l1 (fitN th) ms1).shifts.length cb, .slice oc (ownRun l1 (fitN th) ms1).words.length cc] 41 (0, 0)) := by
    rw [World.heap_more _ _ _ _ (by simp [World.setCell]; omega)]
    simp [World.setCell, World.drew, Array.getElem?_modify, k3, hne23]
  clear f10 f11 f12 f50 f51 f52 f53
  generalize ((((((((W.setCell ⟨B2, 0, none⟩ (.int .i64 (fitN th : Int))).setCell ⟨B2, 1, none⟩ (.slice ox l1.length cx)).setCell ⟨B2, 2, none⟩ (.slice om ms1.length cm)).setCell ⟨B3, 0, none⟩ (.slice oa (ownRun l1 (fitN th) ms1).calls.length ca)).setCell ⟨B3, 1, none⟩ (.slice ot (ownRun l1 (fitN th) ms1).trace.length ct)).setCell ⟨B3, 2, none⟩ (.slice ob (ownRun l1 (fitN th) ms1).shifts.length cb)).setCell ⟨B3, 3, none⟩ (.slice oc (ownRun l1 (fitN th) ms1).words.length cc)).drew.more os d) = Wf at hf2 hf3 HOn ⊢
  refine bodyPost_ret (v := .tuple #[.agg #[.int .i64 (fitN th : Int), .slice ox l1.length cx, .slice om ms1.length cm], .agg #[.slice oa (ownRun l1 (fitN th) ms1).calls.length ca, .slice ot (ownRun l1 (fitN th) ms1).trace.length ct, .slice ob (ownRun l1 (fitN th) ms1).shifts.length cb, .slice oc (ownRun l1 (fitN th) ms1).words.length cc], .bool true]) ?_ rfl ⟨⟨.slice oa (ownRun l1 (fitN th) ms1).calls.length ca, .slice ot (ownRun l1 (fitN th) ms1).trace.length ct, .slice ob (ownRun l1 (fitN th) ms1).shifts.length cb, .slice oc (ownRun l1 (fitN th) ms1).words.length cc⟩, rfl, ?_, ?_⟩
  · have g0 : Wf.cell? ⟨B2, 0, none⟩ = some (.int .i64 (fitN th : Int)) := by simp [World.cell?, hf2]
    have g1 : Wf.cell? ⟨B2, 1, none⟩ = some (.slice ox l1.length cx) := by simp [World.cell?, hf2]
    have g2 : Wf.cell? ⟨B2, 2, none⟩ = some (.slice om ms1.length cm) := by simp [World.cell?, hf2]
    have g3 : Wf.cell? ⟨B3, 0, none⟩ = some (.slice oa (ownRun l1 (fitN th) ms1).calls.length ca) := by simp [World.cell?, hf3]
    have g4 : Wf.cell? ⟨B3, 1, none⟩ = some (.slice ot (ownRun l1 (fitN th) ms1).trace.length ct) := by simp [World.cell?, hf3]
    have g5 : Wf.cell? ⟨B3, 2, none⟩ = some (.slice ob (ownRun l1 (fitN th) ms1).shifts.length cb) := by simp [World.cell?, hf3]
    have g6 : Wf.cell? ⟨B3, 3, none⟩ = some (.slice oc (ownRun l1 (fitN th) ms1).words.length cc) := by simp [World.cell?, hf3]
    simp [results, Try.results27, go_sem, g0, g1, g2, g3, g4, g5, g6]
  · obtain ⟨q1, q2, q3, q4⟩ := HB.out
    refine (hRW.out.of_block fun k hk => ?_).base_mono (by omega)
    have := hRW.out.lt k hk
    exact HOn.block k this.2 (by rintro (e | e) <;> omega)
  · obtain ⟨q1, q2, q3, q4⟩ := HB.out
    exact hWo.out.trans HOn (by rintro i (rfl | rfl) <;> exact .inr (by omega))

theorem played_ok {w : World} {v : Value} {th : Int} {l : List Int} {ms : List Mv} {ox : Option Addr} {cx : Nat} {om : Option Addr} {cm : Nat} (h : ScrIn w v th l ms ox cx om cm) : Calls Try.prog 27 #[v] w (PlayedRes w th (l.take 8192) (ms.take 65536) ox cx om cm) := by
  obtain ⟨rfl, hs, hmv, hx, hm⟩ := h
  have hfn := fitN_ok th
  have e1 : min l.length 8192 = (l.take 8192).length := by simp; omega
  have e2 : min ms.length 65536 = (ms.take 65536).length := by simp; omega
  have HF := Lib.hid (fun W => fit_ok (w := W) th ox l.length cx om ms.length cm hx.1 hm.1 hx.2.1 hm.2.1 hx.2.2 hm.2.2)
  unfold FitRes at HF
  rw [e1, e2] at HF
  have hs' := hs.take hx.2.2 8192
  have hm' := hmv.take 65536
  rw [e1] at hs'
  rw [e2] at hm'
  exact played_in HF (Lib.hid (fun W (ho : Only (fun _ => False) w W) => play_ok (w := W) (fitN th) (hs'.only ho) (by simp; omega) (hm'.only ho) (by simp; omega) hfn.1 hfn.2))
end Go.Proofs.Ytbhbpfpggfcpgaa
