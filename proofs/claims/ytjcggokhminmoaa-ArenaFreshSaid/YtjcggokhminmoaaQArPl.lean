/-
arena.Play: a run of a script of the arena's calls.
-/
import Derived.Test.YtjcggokhminmoaaQCfg
namespace Go.Proofs.Ytjcggokhminmoaa
open Go.ChangeShapes Go.WideShapes Go.ChangeAt Go.RowKit Go.Shelf

/-- what Play answers at a script -/
def arOut (a0 a1 a2 a3 a4 a5 a6 : Int) (ms : List Mv) : RunS × Int :=
  if okCfg a0 a1 a2 a3 a4 a5 a6 = false then (⟨[], [], [], []⟩, 1) else if 65536 < ms.length then (⟨[], [], [], []⟩, 3) else (arRun a0 a1 a2 a3 a4 a5 a6 ms, 0)
def PlayA (w : World) (p : RunS × Int) (e : Ending) (w' : World) : Prop := ∃ x : RunVs, e = .returned (.tuple #[x.v, .int .i64 p.2]) ∧ RunAt w' w.heap.size x p.1 ∧ Only (fun _ => False) w w'
def nilX : RunVs := ⟨.slice none 0 0, .slice none 0 0, .slice none 0 0, .slice none 0 0⟩
theorem nil_at (w : World) (base : Nat) : RunAt w base nilX ⟨[], [], [], []⟩ :=
  ⟨World.RowV_none _ _ _ _ _, World.RowV_none _ _ _ _ _, World.RowV_none _ _ _ _ _, World.RowV_none _ _ _ _ _, fun k h => (by cases h), fun k h => (by cases h), fun k h => (by cases h), fun k h => (by cases h), fun k h => (by cases h), fun k h => (by cases h)⟩
/-- while the moves are made: a machine with an arena's kit, at ms -/
def ArI (ab : Nat) (w0 : World) (p : PM (arK ab)) (xb : Nat) (kit : Value) (wr : World) : Prop := ∃ F, PMAt (arK ab) wr w0.heap.size xb p kit F ∧ Only (fun _ => False) w0 wr
section
variable {ab xb : Nat} {w0 wr w' : World} {p : PM (arK ab)} {kit : Value}
theorem ArI.next {F : Nat → Prop} {mv : Mv} {e : Ending} (h : PMAt (arK ab) wr w0.heap.size xb p kit F) (ho : Only (fun _ => False) w0 wr) (hm : MoveOut (arK ab) wr w0.heap.size xb p kit F mv e w') : e = .returned (.bool (p.move mv).2) ∧ ArI ab w0 (p.move mv).1 xb kit w' := by
  obtain ⟨he, F', h1, h2, h3⟩ := hm
  exact ⟨he, F', h1, ho.trans h2 (fun i hi => .inr (h.lt (arK_ok ab) i hi).1)⟩
theorem ArI.only (h : ArI ab w0 p xb kit wr) (ho : Only (fun _ => False) wr w') : ArI ab w0 p xb kit w' := by
  obtain ⟨F, h1, h2⟩ := h
  exact ⟨F, h1.only (arK_ok ab) ho (fun _ _ x => x), h2.trans ho (fun _ x => x.elim)⟩
end
theorem run_fin {w W wx w' : World} {x : RunVs} {r : RunS} {rb : Nat} (h : RunAt wx W.heap.size x r) (ho : Only (fun _ => False) w W) (hlt : rb < W.heap.size) (hx : Only (fun _ => False) W wx)
    (hk : ∀ k, k ≠ rb → w'.heap[k]? = wx.heap[k]?) (hos : w'.os = wx.os) (hta : w'.tape = wx.tape) (hou : w'.output = wx.output) (hsz : wx.heap.size ≤ w'.heap.size) (hrb : w.heap.size ≤ rb := by omega) :
    RunAt w' w.heap.size x r ∧ Only (fun _ => False) w w' := by
  have h1 := ho.size
  have h2 := hx.size
  refine ⟨(h.of_block fun k hk' => hk k (by have := (h.lt k hk').1; omega)).base_mono (by omega), ⟨hos.trans (hx.os.trans ho.os), hta.trans (hx.tape.trans ho.tape), hou.trans (hx.output.trans ho.output), by omega, fun k hl _ => ?_⟩⟩
  rw [hk k (by omega), hx.block k (by omega) (fun x => x), ho.block k hl (fun x => x)]
/-- a box of seven ints -/
theorem boxI {w : World} {b : Nat} {a0 a1 a2 a3 a4 a5 a6 : Int} {t : TypeId} (h : w.heap[b]? = some (.cells #[.int .i64 a0, .int .i64 a1, .int .i64 a2, .int .i64 a3, .int .i64 a4, .int .i64 a5, .int .i64 a6] t (0, 0))) : w.cell? ⟨b, 0, none⟩ = some (.int .i64 a0) ∧ w.cell? ⟨b, 1, none⟩ = some (.int .i64 a1) ∧ w.cell? ⟨b, 2, none⟩ = some (.int .i64 a2) ∧ w.cell? ⟨b, 3, none⟩ = some (.int .i64 a3) ∧
    w.cell? ⟨b, 4, none⟩ = some (.int .i64 a4) ∧ w.cell? ⟨b, 5, none⟩ = some (.int .i64 a5) ∧ w.cell? ⟨b, 6, none⟩ = some (.int .i64 a6) ∧ b < w.heap.size :=
  ⟨by simp [World.cell?, h], by simp [World.cell?, h], by simp [World.cell?, h], by simp [World.cell?, h], by simp [World.cell?, h], by simp [World.cell?, h], by simp [World.cell?, h], (Array.getElem?_eq_some_iff.1 h).1⟩
theorem _root_.Go.Only.blockF {F : Nat → Prop} {w w' : World} (h : Only F w w') {b : Nat} {o : Obj} (hb : w.heap[b]? = some o) (hn : ¬ F b) : w'.heap[b]? = some o := (h.block b (Array.getElem?_eq_some_iff.1 hb).1 hn).trans hb

set_option maxRecDepth 100000 in
set_option maxHeartbeats 2000000 in
theorem arplay_cfg (a0 a1 a2 a3 a4 a5 a6 : Int) (om : Option Addr) (nm cm : Nat) (hok : okCfg a0 a1 a2 a3 a4 a5 a6 = false) (w : World) : Calls Try.prog 18 #[.agg #[.int .i64 a0, .int .i64 a1, .int .i64 a2, .int .i64 a3, .int .i64 a4, .int .i64 a5, .int .i64 a6], .slice om nm cm] w fun e w' => e = .returned (.tuple #[nilX.v, .int .i64 1]) ∧ Below w.heap.size w w' := by
  have HN := Lib.hid (fun w => arnew_cfg a0 a1 a2 a3 a4 a5 a6 0 hok w)
  clear hok
  go_enter Try.func18, Try.ntmps18
  go_wp2_with (go_at_call 11; refine (HN.out _).mono ?_; rintro e w1 ⟨rfl, hb1⟩; obtain ⟨os, d, rfl⟩ := hb1.more; clear hb1)
  refine bodyPost_ret (v := .tuple #[nilX.v, .int .i64 1]) (by simp [results, Try.results18, go_sem, nilX, RunVs.v]) rfl ⟨rfl, ?_⟩
  exact (by repeat (first | exact Below.refl _ _ | apply Below.drew | apply Below.more1 | apply Below.alloc1 | (refine Below.setCell ?_ (by first | exact Nat.le_refl _ | (simp; done) | (simp; omega)) _)))

set_option maxRecDepth 100000 in
set_option maxHeartbeats 2000000 in
theorem arplay_long (a0 a1 a2 a3 a4 a5 a6 : Int) (om : Option Addr) (nm cm : Nat) (hok : okCfg a0 a1 a2 a3 a4 a5 a6 = true) (hm : 65536 < nm) (hm2 : nm ≤ 9223372036854775807) (w : World) : Calls Try.prog 18 #[.agg #[.int .i64 a0, .int .i64 a1, .int .i64 a2, .int .i64 a3, .int .i64 a4, .int .i64 a5, .int .i64 a6], .slice om nm cm] w fun e w' => e = .returned (.tuple #[nilX.v, .int .i64 3]) ∧ Only (fun _ => False) w w' := by
  obtain ⟨b0, b1, b2, b3, b4, b5, b6, bm⟩ := ok_bounds hok
  have HN := Lib.hid (fun w => arnew_ok a0 a1 a2 a3 a4 a5 a6 0 a5.toNat a0.toNat hok (Lib.hid (by omega)) (Lib.hid (by omega)) (by omega) w)
  clear hok b0 b1 b2 b3 b4 b5 b6 bm
  go_enter Try.func18, Try.ntmps18
  go_upto_region 1 with (fail)
  refine gen_world ?_
  intro W0 hW0
  have HW0 : Hid (Only (fun _ => False) w W0) := Lib.hid (by rw [hW0]; exact (Below.only0 (by repeat (first | exact Below.refl _ _ | apply Below.drew | apply Below.more1 | apply Below.alloc1 | (refine Below.setCell ?_ (by first | exact Nat.le_refl _ | (simp; done) | (simp; omega)) _)))))
  have hcb : W0.heap[w.heap.size]? = some (.cells #[.int .i64 a0, .int .i64 a1, .int .i64 a2, .int .i64 a3, .int .i64 a4, .int .i64 a5, .int .i64 a6] 23 (0, 0)) := by rw [hW0]; exact (Below.heap_alloc _ _ _ (by simp)).trans (heap_alloc_new w _)
  have hrb : W0.heap[w.heap.size + 1]? = some (.cells #[.slice none 0 0, .slice none 0 0, .slice none 0 0, .slice none 0 0] 42 (0, 0)) := by rw [hW0]; exact heap_alloc_at (by simp)
  obtain ⟨k0, k1, k2, k3, k4, k5, k6, kl⟩ := boxI hcb
  have HRB := Lib.hid hrb
  clear hW0 hcb hrb
  go_upto_region 2 with (go_at_call 11; refine (HN.out _).mono ?_; rintro e w1 ⟨ab, av, rfl, hA, hO⟩; have HO := Lib.hid hO; clear hA hO)
  have hrb := HO.out.blockF HRB.out (fun x => x)
  have e0 : w1.cell? ⟨w.heap.size + 1, 0, none⟩ = some (.slice none 0 0) := by simp [World.cell?, hrb]
  have e1 : w1.cell? ⟨w.heap.size + 1, 1, none⟩ = some (.slice none 0 0) := by simp [World.cell?, hrb]
  have e2 : w1.cell? ⟨w.heap.size + 1, 2, none⟩ = some (.slice none 0 0) := by simp [World.cell?, hrb]
  have e3 : w1.cell? ⟨w.heap.size + 1, 3, none⟩ = some (.slice none 0 0) := by simp [World.cell?, hrb]
  have ez : ∀ j, w1.frozen? ⟨w.heap.size + 1, j, none⟩ = false := fun j => by simp [World.frozen?, hrb]
  have el := (Array.getElem?_eq_some_iff.1 hrb).1
  have HO1 := Lib.hid (HW0.out.trans HO.out (fun _ x => x.elim))
  clear k0 k1 k2 k3 k4 k5 k6 kl hrb HRB HN HO HW0
  go_wp2
  refine bodyPost_ret (v := .tuple #[nilX.v, .int .i64 3]) (by simp [results, Try.results18, go_sem, nilX, RunVs.v, e0, e1, e2, e3]) rfl ⟨rfl, ?_⟩
  exact (((HO1.out.set (.inr (Nat.le_succ _)) _).set (.inr (Nat.le_succ _)) _).set (.inr (Nat.le_succ _)) _).set (.inr (Nat.le_succ _)) _

set_option maxRecDepth 100000 in
set_option maxHeartbeats 4000000 in
theorem arplay_ok (a0 a1 a2 a3 a4 a5 a6 : Int) {w : World} {vm : Value} {ms : List Mv} (hok : okCfg a0 a1 a2 a3 a4 a5 a6 = true) (hm : MvsIn w vm ms) (hms : ms.length ≤ 65536) : Calls Try.prog 18 #[.agg #[.int .i64 a0, .int .i64 a1, .int .i64 a2, .int .i64 a3, .int .i64 a4, .int .i64 a5, .int .i64 a6], vm] w (PlayA w (arRun a0 a1 a2 a3 a4 a5 a6 ms, 0)) := by
  obtain ⟨b0, b1, b2, b3, b4, b5, b6, bm⟩ := ok_bounds hok
  obtain ⟨n, rfl⟩ : ∃ n : Nat, a0 = (n : Int) := ⟨a0.toNat, by omega⟩
  have HN := Lib.hid (fun w => arnew_ok (n : Int) a1 a2 a3 a4 a5 a6 0 a5.toNat n hok (Lib.hid (by omega)) (Lib.hid rfl) (by omega) w)
  have HF := Lib.hid (fun w => afirst_any (n : Int) a1 a2 a3 a4 a5 a6 0 hok (by omega) w)
  have HOK := Lib.hid hok
  have hsz := ar_size (h := hok) (u := 0)
  have h1 : 1 ≤ n := by omega
  have h16 : n ≤ 16 := by omega
  have HMI := Lib.hid hm
  obtain ⟨om, cm, rfl, hm1, hm2, hm3⟩ := hm
  have HM := Lib.hid hm3
  unfold maxLen at hm2
  have hms2 : decide ((65536 : Int) < (ms.length : Int)) = false := by simp; omega
  clear hok b0 b1 b2 b3 b4 b5 b6 bm hm3
  go_enter Try.func18, Try.ntmps18
  go_upto_region 1 with (fail)
  refine gen_world ?_
  intro W0 hW0
  have HW0 : Hid (Only (fun _ => False) w W0) := Lib.hid (by rw [hW0]; exact (Below.only0 (by repeat (first | exact Below.refl _ _ | apply Below.drew | apply Below.more1 | apply Below.alloc1 | (refine Below.setCell ?_ (by first | exact Nat.le_refl _ | (simp; done) | (simp; omega)) _)))))
  have hcb : W0.heap[w.heap.size]? = some (.cells #[.int .i64 (n : Int), .int .i64 a1, .int .i64 a2, .int .i64 a3, .int .i64 a4, .int .i64 a5, .int .i64 a6] 23 (0, 0)) := by rw [hW0]; exact (Below.heap_alloc _ _ _ (by simp)).trans (heap_alloc_new w _)
  have hrb : W0.heap[w.heap.size + 1]? = some (.cells #[.slice none 0 0, .slice none 0 0, .slice none 0 0, .slice none 0 0] 42 (0, 0)) := by rw [hW0]; exact heap_alloc_at (by simp)
  obtain ⟨k0, k1, k2, k3, k4, k5, k6, kl⟩ := boxI hcb
  have HCB := Lib.hid hcb
  have HRB := Lib.hid hrb
  clear hW0 hcb hrb
  go_upto_region 6 with (go_at_call 11; refine (HN.out _).mono ?_; rintro e w1 ⟨ab, av, rfl, hA, hO⟩; have HA := Lib.hid hA; have HO := Lib.hid hO; clear hA hO)
  have HCB1 := Lib.hid (HO.out.blockF HCB.out (fun x => x))
  have HO1 := Lib.hid (HW0.out.trans HO.out (fun _ x => x.elim))
  clear k0 k1 k2 k3 k4 k5 k6 kl HCB HN
  obtain ⟨k0, k1, k2, k3, k4, k5, k6, kl⟩ := boxI HCB1.out
  go_upto_region 7 with (go_at_call 38; refine (HF.out _).mono ?_; rintro e w2 ⟨wg, rfl, hsr, hO2⟩; have HSR := Lib.hid hsr; have HO2 := Lib.hid hO2; clear hsr hO2)
  have HCB2 := Lib.hid (HO2.out.blockF HCB1.out (fun x => x))
  have HA2 := Lib.hid (HA.out.only HO2.out (fun _ _ x => x))
  have HOW := Lib.hid (HO.out.trans HO2.out (fun _ x => x.elim))
  clear k0 k1 k2 k3 k4 k5 k6 kl HCB1 HF HA HO1 HO2 HO
  obtain ⟨k0, k1, k2, k3, k4, k5, k6, kl⟩ := boxI HCB2.out
  have q0 := fun q : LaterF (fun _ => False) w2 => q.cell k0 kl (fun x => x)
  clear k0 k1 k2 k3 k4 k5 k6
  refine wp_region_plan (fun wz => ∃ q : LaterF (fun _ => False) w2, wz = q.W) [4, 5] [0, 1, 2, 3] (.fork 4 [] (.fork 5 [6, 7, 8, 9] (.tail 10) .none) .none) oper0 (by kernel_rfl) (by kernel_rfl) (laterF_in (Only.refl _ _).drew) ?_
  simp only [wpPlan, List.map_cons, List.map_nil, List.getD_cons_zero, List.getD_cons_succ, List.drop_succ_cons, List.drop_zero]
  repeat (first | go_big_quiet_skip | (go_big_quiet_want; go_big_quiet_op; go_big_quiet_on))
  refine wpQuiet_nil ?_
  refine ⟨?_, trivial⟩
  go_wp2_with (go_at_call 40; refine (akit_any (HA2.out.of_block (w' := w2.drew) fun _ _ => rfl)).mono ?_; rintro e w3 ⟨kb, bx, rfl, hmap, hbx, hk1, hk2, hk3, ho⟩; have HMP := Lib.hid hmap; have HBX := Lib.hid hbx; have HK1 := Lib.hid hk1; have HK2 := Lib.hid hk2; have HO4 := Lib.hid ho; have HNW := Lib.hid (newm_ok (w := w3) (km := some kb) n ((HSR.out.drew).only ho) (by rw [arWords_len]; exact hsz) h1 h16); clear hmap hbx hk1 hk2 hk3 ho)
  refine strict_on ?_
  refine ⟨?_, ?_⟩
  · exact laterF_in ((Only.refl _ w2).drew.trans HO4.out (fun _ x => x.elim))
  repeat (first | go_big_quiet_skip | (go_big_quiet_want; go_big_quiet_op; go_big_quiet_on))
  refine wpQuiet_nil ?_
  try with_reducible refine ⟨?_, trivial⟩
  go_wp2_with (go_at_call 39; refine HNW.out.mono ?_; rintro e w4 ⟨xb, rfl, hna⟩; obtain ⟨Fn, hpm, hon⟩ := par_of (HA2.out.of_block (w' := w2.drew) fun _ _ => rfl) HO4.out HMP.out HBX.out HK1.out HK2.out hna (by simp [arNew]); have HPM := Lib.hid hpm; have HON := Lib.hid hon; clear hna hpm hon)
  refine strict_on ?_
  refine ⟨?_, ?_⟩
  · exact laterF_in (((Only.refl _ w2).drew.trans HO4.out (fun _ x => x.elim)).trans HON.out (fun _ x => x.elim))
  repeat (first | go_big_quiet_skip | (go_big_quiet_want; go_big_quiet_op; go_big_quiet_on))
  refine wpQuiet_nil ?_
  try with_reducible refine ⟨?_, trivial⟩
  have HI := Lib.hid (show ArI ab W0 ((arP ab (n : Int) a1 a2 a3 a4 a5 a6 0).goes (ms.take 0)) xb (.map (some kb)) w4 from ⟨Fn, HPM.out, (HOW.out.drew.trans HO4.out (fun _ x => x.elim)).trans HON.out (fun _ x => x.elim)⟩)
  clear q0 HCB2 HA2 HSR HMP HBX HK1 HK2 HNW HPM HON HO4 HOW kl
  go_wp2
  go_loopg [46] ms.length (fun g sl wr => ∃ k : Nat, k ≤ ms.length ∧ ms.length ≤ k + g ∧ sl = .int .i64 (k : Int) ∧ Hid (ArI ab W0 ((arP ab (n : Int) a1 a2 a3 a4 a5 a6 0).goes (ms.take k)) xb (.map (some kb)) wr))
  case atStart => exact ⟨0, by omega, by omega, by go_num, HI⟩
  case round =>
    obtain ⟨k, hk1, hk2, rfl, hI⟩ := hrel
    by_cases hlt : k < ms.length
    · obtain ⟨F, hA, hO⟩ := hI.out
      have hw : Only (fun _ => False) w wr := HW0.out.trans hO (fun _ x => x.elim)
      obtain ⟨b, off, rfl, hb, m0, m1, m2, m3⟩ := HM.out k hlt
      replace m0 := (hw.cellAt (p := ⟨b, off + k * 4 + 0, none⟩) hb (fun x => x)).trans m0
      replace m1 := (hw.cellAt (p := ⟨b, off + k * 4 + 1, none⟩) hb (fun x => x)).trans m1
      replace m2 := (hw.cellAt (p := ⟨b, off + k * 4 + 2, none⟩) hb (fun x => x)).trans m2
      replace m3 := (hw.cellAt (p := ⟨b, off + k * 4 + 3, none⟩) hb (fun x => x)).trans m3
      simp only [Nat.add_zero] at m0
      have hbr : b < wr.heap.size := Nat.lt_of_lt_of_le hb hw.size
      have HG := Lib.hid (arP_goodN (ab := ab) (u := 0) HOK.out (ms.take k))
      have HA := Lib.hid (hA.only (arK_ok ab) ((Only.refl _ wr).alloc (.cells #[.int .i64 ms[k].th, .int .i64 ms[k].op, .int .i64 ms[k].arg, .int .i64 ms[k].data] 64)) (fun _ _ x => x))
      have HOO := Lib.hid (hO.alloc (.cells #[.int .i64 ms[k].th, .int .i64 ms[k].op, .int .i64 ms[k].arg, .int .i64 ms[k].data] 64))
      have HT := Lib.hid (take_next ms k hlt)
      clear hA hO hI hw HI HM
      go_wp2_with (go_at_call 21; refine (pm_move (arK_ok ab) HG.out HA.out ms[k]).mono ?_; rintro e w5 hmo; obtain ⟨rfl, hnx⟩ := ArI.next HA.out HOO.out hmo; have HNX := Lib.hid hnx; clear hmo hnx)
      go_roundg (ms.length - (k + 1))
      case measure => omega
      case rel => exact ⟨k + 1, by omega, by omega, by go_num, by rw [HT.out, PM.goes_snoc]; exact HNX⟩
    · obtain rfl : k = ms.length := by omega
      obtain ⟨F, hA, hO⟩ := hI.out
      rw [List.take_length] at hA
      have hrun := pm_run (arP_goodN (ab := ab) (u := 0) HOK.out ms) hA (by rw [(arK_words HOK.out (by have := (ok_bounds HOK.out).2.2.2.2.2.1; omega) ms).1]; exact Nat.le_trans hsz (by decide))
      rw [arRun_eq] at hrun
      have HR := Lib.hid hrun
      have HOO := Lib.hid hO
      have HRC := Lib.hid (hO.blockF HRB.out (fun x => x))
      clear hA hO hI HI HM hrun
      generalize arRun (n : Int) a1 a2 a3 a4 a5 a6 ms = R at *
      go_wp2_with (go_at_call 30; refine HR.out.mono ?_; rintro e w5 ⟨x, he, hra, hro⟩; obtain ⟨xa, xt, xb', xc⟩ := x; obtain ⟨oa, ca, e1, _, _⟩ := hra.wa.form; obtain ⟨ot, ct, e2, _, _⟩ := hra.wt.form; obtain ⟨ob, cb, e3, _, _⟩ := hra.wb.form; obtain ⟨oc, cc, e4, _, _⟩ := hra.wc.form; simp only at e1 e2 e3 e4; subst e1; subst e2; subst e3; subst e4; (unfold RunVs.v at he); subst he; have hc3 := (hro.block (w.heap.size + 1) (Array.getElem?_eq_some_iff.1 HRC.out).1 (fun x => x)).trans HRC.out; have HRA := Lib.hid hra; have HRO := Lib.hid hro; have HC3 := Lib.hid hc3; have e0 : w5.cell? ⟨w.heap.size + 1, 0, none⟩ = some (.slice none 0 0) := (by simp [World.cell?, hc3]); have e1 : w5.cell? ⟨w.heap.size + 1, 1, none⟩ = some (.slice none 0 0) := (by simp [World.cell?, hc3]); have e2 : w5.cell? ⟨w.heap.size + 1, 2, none⟩ = some (.slice none 0 0) := (by simp [World.cell?, hc3]); have e3 : w5.cell? ⟨w.heap.size + 1, 3, none⟩ = some (.slice none 0 0) := (by simp [World.cell?, hc3]); have ez : ∀ j, w5.frozen? ⟨w.heap.size + 1, j, none⟩ = false := fun j => (by simp [World.frozen?, hc3]); have hrl := (Array.getElem?_eq_some_iff.1 hc3).1; clear hra hro hc3)
      have hwo : Only (fun _ => False) w wr := HW0.out.trans HOO.out (fun _ x => x.elim)
      have hwl : w.heap.size + 1 < wr.heap.size := (Array.getElem?_eq_some_iff.1 HRC.out).1
      refine bodyPost_ret (v := .tuple #[.agg #[.slice oa R.calls.length ca, .slice ot R.trace.length ct, .slice ob R.shifts.length cb, .slice oc R.words.length cc], .int .i64 0]) ?_ rfl ⟨⟨.slice oa R.calls.length ca, .slice ot R.trace.length ct, .slice ob R.shifts.length cb, .slice oc R.words.length cc⟩, rfl, run_fin HRA.out hwo hwl HRO.out (fun k g1 => (Below.heap_setCell _ _ _ _ g1).trans ((Below.heap_setCell _ _ _ _ g1).trans ((Below.heap_setCell _ _ _ _ g1).trans (Below.heap_setCell _ _ _ _ g1)))) rfl rfl rfl (by simp [World.setCell])⟩
      have hf : ((((w5.setCell ⟨w.heap.size + 1, 0, none⟩ (.slice oa R.calls.length ca)).setCell ⟨w.heap.size + 1, 1, none⟩ (.slice ot R.trace.length ct)).setCell ⟨w.heap.size + 1, 2, none⟩ (.slice ob R.shifts.length cb)).setCell ⟨w.heap.size + 1, 3, none⟩ (.slice oc R.words.length cc)).heap[w.heap.size + 1]? = some (.cells #[.slice oa R.calls.length ca, .slice ot R.trace.length ct, .slice ob R.shifts.length cb, .slice oc R.words.length cc] 42 (0, 0)) := by
        simp [World.setCell, Array.getElem?_modify, HC3.out]
      generalize ((((w5.setCell ⟨w.heap.size + 1, 0, none⟩ (.slice oa R.calls.length ca)).setCell ⟨w.heap.size + 1, 1, none⟩ (.slice ot R.trace.length ct)).setCell ⟨w.heap.size + 1, 2, none⟩ (.slice ob R.shifts.length cb)).setCell ⟨w.heap.size + 1, 3, none⟩ (.slice oc R.words.length cc)) = Wf at hf ⊢
      have g0 : Wf.cell? ⟨w.heap.size + 1, 0, none⟩ = some (.slice oa R.calls.length ca) := by simp [World.cell?, hf]
      have g1 : Wf.cell? ⟨w.heap.size + 1, 1, none⟩ = some (.slice ot R.trace.length ct) := by simp [World.cell?, hf]
      have g2 : Wf.cell? ⟨w.heap.size + 1, 2, none⟩ = some (.slice ob R.shifts.length cb) := by simp [World.cell?, hf]
      have g3 : Wf.cell? ⟨w.heap.size + 1, 3, none⟩ = some (.slice oc R.words.length cc) := by simp [World.cell?, hf]
      simp [results, Try.results18, go_sem, g0, g1, g2, g3]
theorem arplay_any (a0 a1 a2 a3 a4 a5 a6 : Int) {w : World} {vm : Value} {ms : List Mv} (hm : MvsIn w vm ms) : Calls Try.prog 18 #[.agg #[.int .i64 a0, .int .i64 a1, .int .i64 a2, .int .i64 a3, .int .i64 a4, .int .i64 a5, .int .i64 a6], vm] w (PlayA w (arOut a0 a1 a2 a3 a4 a5 a6 ms)) := by
  unfold arOut
  cases hok : okCfg a0 a1 a2 a3 a4 a5 a6 with
  | false =>
    rw [if_pos rfl]
    obtain ⟨om, cm, rfl, hm1, hm2, hm3⟩ := hm
    exact (arplay_cfg _ _ _ _ _ _ _ om _ cm hok w).mono fun e w' ⟨he, hb⟩ => ⟨nilX, he, nil_at _ _, Below.only0 hb⟩
  | true =>
    rw [if_neg (by decide)]
    by_cases hl : 65536 < ms.length
    · rw [if_pos hl]
      obtain ⟨om, cm, rfl, hm1, hm2, hm3⟩ := hm
      unfold maxLen at hm2
      exact (arplay_long _ _ _ _ _ _ _ om _ cm hok hl (by omega) w).mono fun e w' ⟨he, hb⟩ => ⟨nilX, he, nil_at _ _, hb⟩
    · rw [if_neg hl]
      exact arplay_ok _ _ _ _ _ _ _ hok hm (by omega)
end Go.Proofs.Ytjcggokhminmoaa
