/-
reclaimlaw04: rest; awake.
-/
import Derived.Test.YtjcggokhminmoaaQArAl
namespace Go.Proofs.Ytjcggokhminmoaa
open Go.ChangeShapes Go.WideShapes Go.ChangeAt Go.RowKit Go.Shelf

/-- what rest leaves -/
def RestRes (ab : Nat) (w0 : World) (xb : Nat) (kit : Value) (p : PM (arK ab)) (G : Nat → Prop) (th : Int) (m : Nat) (wr : World) (e : Ending) (w' : World) : Prop :=
  e = .returned (.tuple #[]) ∧ TabI ab w0 xb kit (restN p th m) G w' ∧ ∀ k, G k → w'.heap[k]? = wr.heap[k]?
/-- while a thread's call is stepped -/
def RestI (ab : Nat) (w0 : World) (xb : Nat) (kit : Value) (p : PM (arK ab)) (G : Nat → Prop) (wr : World) (w' : World) : Prop := TabI ab w0 xb kit p G w' ∧ ∀ k, G k → w'.heap[k]? = wr.heap[k]?
theorem restN_busy {ab : Nat} {p : PM (arK ab)} {th : Int} {m : Nat} (h : p.busyB th = true) : restN p th (m + 1) = restN (p.move (stepMv th)).1 th m := by
  show (if p.busyB th then restN (p.move (stepMv th)).1 th m else p) = _
  rw [h, if_pos rfl]

set_option maxRecDepth 100000 in
set_option maxHeartbeats 2000000 in
theorem rest_any {ab xb : Nat} {w0 wz : World} {kit : Value} {p : PM (arK ab)} {G : Nat → Prop} {tb : Nat} {a0 a1 a2 a3 a4 a5 a6 : Int} (h : TabI ab w0 xb kit p G wz) (hG : p.Good) (ht : wz.heap[tb]? = some (tabO a0 a1 a2 a3 a4 a5 a6 ab xb)) (htb : G tb) (th : Int) :
    Calls Try.prog 27 #[.pointer (some ⟨tb, 0, none⟩), .int .i64 th] wz (RestRes ab w0 xb kit p G th 400 wz) := by
  have HT := Lib.hid ht
  have HTB := Lib.hid htb
  have HI := Lib.hid (show RestI ab w0 xb kit p G wz wz from ⟨h, fun _ _ => rfl⟩)
  have HGG := Lib.hid hG
  clear h hG ht htb
  go_enter Try.func27, Try.ntmps27
  go_wp2
  go_loopg [4] 400 (fun gh s4 wr => ∃ (k : Nat) (q : PM (arK ab)), k ≤ 400 ∧ 400 ≤ k + gh ∧ s4 = .int .i64 (k : Int) ∧ Hid (restN p th 400 = restN q th (400 - k)) ∧ Hid q.Good ∧ Hid (RestI ab w0 xb kit q G wz wr))
  case atStart => exact ⟨0, p, by omega, by omega, by go_num, Lib.hid rfl, HGG, HI⟩
  case round =>
    obtain ⟨k, q, hk1, hk2, rfl, hE, hQ, hI⟩ := hrel
    have ht' := (hI.out.2 tb HTB.out).trans HT.out
    obtain ⟨k0, k1, k2, k3, k4, k5, k6, k7, k8, kl⟩ := boxT ht'
    clear k0 k1 k2 k3 k4 k5 k6 k7 ht' HI
    have HB := Lib.hid (tab_busy hI.out.1 hQ.out th)
    by_cases hlt : k < 400
    · have hd : decide ((k : Int) < 400) = true := by simp; omega
      obtain ⟨b, hb⟩ : ∃ b, b = q.busyB th := ⟨_, rfl⟩
      rw [← hb] at HB
      cases b with
      | true =>
        have HM := Lib.hid (fun w1 (h1 : Below wr.heap.size wr w1) => tab_move (hI.out.1.only (Below.only0 h1)) hQ.out (stepMv th))
        have HNX : Hid (restN p th 400 = restN (q.move (stepMv th)).1 th (400 - (k + 1))) := Lib.hid (by rw [hE.out, show 400 - k = (400 - (k + 1)) + 1 by omega]; exact restN_busy hb.symm)
        have HQ2 := Lib.hid (PM.Good.move (arK_ok ab) hQ.out (stepMv th))
        have HK := Lib.hid (fun j (hj : G j) => hI.out.1.lt hj)
        clear hb hE
        go_wp2_with (first
          | (go_at_call 25; refine HB.out.mono ?_; rintro e w1 ⟨rfl, hb1⟩; have HB1 := Lib.hid hb1; obtain ⟨os, d, rfl⟩ := hb1.more; clear hb1)
          | (go_at_call 21; refine (HM.out _ HB1.out).mono ?_; rintro e w2 ⟨rfl, h2, h3⟩; have HI2 : Hid (RestI ab w0 xb kit (q.move (stepMv th)).1 G wz w2) := Lib.hid ⟨h2, fun j hj => ((h3 j hj).trans (HB1.out.block j (HK.out j hj))).trans (hI.out.2 j hj)⟩; clear h2 h3))
        go_roundg (400 - (k + 1))
        case measure => omega
        case rel => exact ⟨k + 1, _, by omega, by omega, by go_num, HNX, HQ2, HI2⟩
      | false =>
        have HE : Hid (restN p th 400 = q) := Lib.hid (by rw [hE.out, restN_idle q th _ hb.symm])
        have HI3 := Lib.hid (fun w1 (h1 : Below wr.heap.size wr w1) => (show RestI ab w0 xb kit q G wz w1 from ⟨hI.out.1.only (Below.only0 h1), fun j hj => (h1.block j (hI.out.1.lt hj)).trans (hI.out.2 j hj)⟩))
        clear hb hE
        go_wp2_with (go_at_call 25; refine HB.out.mono ?_; rintro e w1 ⟨rfl, hb1⟩; have HJ := Lib.hid (HI3.out _ hb1); clear hb1)
        go_end0
        exact ⟨rfl, by rw [HE.out]; exact HJ.out.1, HJ.out.2⟩
    · have hd : decide ((k : Int) < 400) = false := by simp; omega
      have HE : Hid (restN p th 400 = q) := Lib.hid (by rw [hE.out, show 400 - k = 0 by omega]; rfl)
      clear HB hE
      go_wp2
      go_end0
      exact ⟨rfl, by rw [HE.out]; exact hI.out.1, hI.out.2⟩

/-- a script in a block of its own -/
theorem mvs_block {w : World} {b : Nat} {ms : List Mv} {t : TypeId} (h : w.heap[b]? = some (.cells (mvsC ms).toArray t (0, 0))) (hn : ms.length ≤ maxLen) : MvsIn w (.slice (some ⟨b, 0, none⟩) ms.length ms.length) ms := by
  have hl := (Array.getElem?_eq_some_iff.1 h).1
  refine ⟨_, _, rfl, Nat.le_refl _, hn, fun i hi => ⟨b, 0, rfl, hl, ?_⟩⟩
  have hc : ∀ j u, (mvsC ms)[j]? = some u → w.cell? ⟨b, j, none⟩ = some u := fun j u hu => by simp [World.cell?, h, hu]
  have hg : ∀ j, j < 4 → (mvsC ms)[i * 4 + j]? = ms[i].cells[j]? := fun j hj => flat_get (f := Mv.cells) (k := 4) (fun _ => rfl) ms i j hi hj
  refine ⟨?_, ?_, ?_, ?_⟩
  · rw [Nat.zero_add]; exact hc _ _ (hg 0 (by omega))
  · rw [Nat.zero_add]; exact hc _ _ (hg 1 (by omega))
  · rw [Nat.zero_add]; exact hc _ _ (hg 2 (by omega))
  · rw [Nat.zero_add]; exact hc _ _ (hg 3 (by omega))
def awkMs : List Mv := [⟨0, 10, 0, 0⟩, ⟨0, 0, 0, 0⟩, ⟨0, 0, 0, 0⟩, ⟨0, 0, 0, 0⟩, ⟨0, 11, 0, 0⟩, ⟨0, 0, 0, 0⟩, ⟨0, 0, 0, 0⟩, ⟨0, 0, 0, 0⟩]
theorem awk_run : (arRun 1 1 3 1 0 2 1 awkMs).calls = [⟨0, 10, 0, 0, 0, 3, -1, 2, 0⟩, ⟨0, 11, 0, 0, 4, 7, -1, 1, 0⟩] ∧ (arRun 1 1 3 1 0 2 1 awkMs).shifts.length = 2 := by
  decide
theorem awk_cells : (mvsC awkMs).toArray = #[.int .i64 0, .int .i64 10, .int .i64 0, .int .i64 0, .int .i64 0, .int .i64 0, .int .i64 0, .int .i64 0, .int .i64 0, .int .i64 0, .int .i64 0, .int .i64 0, .int .i64 0, .int .i64 0, .int .i64 0, .int .i64 0,
    .int .i64 0, .int .i64 11, .int .i64 0, .int .i64 0, .int .i64 0, .int .i64 0, .int .i64 0, .int .i64 0, .int .i64 0, .int .i64 0, .int .i64 0, .int .i64 0, .int .i64 0, .int .i64 0, .int .i64 0, .int .i64 0] := rfl
set_option maxRecDepth 100000 in
set_option maxHeartbeats 2000000 in
theorem awake_any (w : World) : Calls Try.prog 17 #[] w fun e w' => e = .returned (.bool true) ∧ Only (fun _ => False) w w' := by
  have HP : Hid (∀ (W : World) (b : Nat), W.heap[b]? = some (.cells (mvsC awkMs).toArray 64 (0, 0)) → Calls Try.prog 18 #[.agg #[.int .i64 1, .int .i64 1, .int .i64 3, .int .i64 1, .int .i64 0, .int .i64 2, .int .i64 1], .slice (some ⟨b, 0, none⟩) 8 8] W (PlayA W (arRun 1 1 3 1 0 2 1 awkMs, 0))) :=
    Lib.hid (fun W b hb => arplay_ok 1 1 3 1 0 2 1 (by decide) (mvs_block hb (by unfold maxLen; decide)) (by decide))
  obtain ⟨hr1, hr2⟩ := awk_run
  generalize arRun 1 1 3 1 0 2 1 awkMs = R at *
  obtain ⟨rc, rt, rs, rw'⟩ := R
  simp only at hr1 hr2
  subst hr1
  go_enter Try.func17, Try.ntmps17
  go_upto_region 3 with (fail)
  go_upto_region 4 with (go_at_call 18; refine (HP.out _ _ (by rw [awk_cells]; exact heap_alloc_at (by simp))).mono ?_; rintro e w1 ⟨x, he, hra, hro⟩; obtain ⟨xa, xt, xb', xc⟩ := x; obtain ⟨oa, ca, e1, _, _⟩ := hra.wa.form; obtain ⟨ot, ct, e2, _, _⟩ := hra.wt.form; obtain ⟨ob, cb, e3, _, _⟩ := hra.wb.form; obtain ⟨oc, cc, e4, _, _⟩ := hra.wc.form; simp only at e1 e2 e3 e4; subst e1; subst e2; subst e3; subst e4; (unfold RunVs.v at he); subst he; have HRA := Lib.hid hra; have HRO := Lib.hid hro; clear hra hro)
  refine gen_world ?_
  intro W hW
  have hrb : W.heap[w1.heap.size]? = some (.cells #[.slice oa 2 ca, .slice ot rt.length ct, .slice ob 2 cb, .slice oc rw'.length cc] 42 (0, 0)) := by rw [hW]; exact heap_alloc_new _ _
  have oW : Only (fun _ => False) w1 W := by rw [hW]; exact (Only.refl _ _).alloc _
  have HOW : Hid (Only (fun _ => False) w W) := Lib.hid ((show Only (fun _ => False) w w1 from Only.trans (by first | exact (Below.only0 (by repeat (first | exact Below.refl _ _ | apply Below.drew | apply Below.more1 | apply Below.alloc1 | (refine Below.setCell ?_ (by first | exact Nat.le_refl _ | (simp; done) | (simp; omega)) _)))) | skip) HRO.out (fun _ x => x.elim)).trans oW (fun _ x => x.elim))
  have hwa := HRA.out.wa.of_block (fun k hk => oW.block k (HRA.out.wa.lt k hk).2 (fun x => x))
  obtain ⟨g, cap, e, f1, f2, f3, f4, f5, f6⟩ := hwa.some_form (Nat.succ_pos 1)
  cases e
  have c5 : W.cell? ⟨g, 5, none⟩ = some (.int .i64 3) := f6 5 _ rfl
  have c7 : W.cell? ⟨g, 7, none⟩ = some (.int .i64 2) := f6 7 _ rfl
  have c8 : W.cell? ⟨g, 8, none⟩ = some (.int .i64 0) := f6 8 _ rfl
  have c14 : W.cell? ⟨g, 14, none⟩ = some (.int .i64 7) := f6 14 _ rfl
  have r0 : W.cell? ⟨w1.heap.size, 0, none⟩ = some (.slice (some ⟨g, 0, none⟩) 2 ca) := by simp [World.cell?, hrb]
  have r2 : W.cell? ⟨w1.heap.size, 2, none⟩ = some (.slice ob 2 cb) := by simp [World.cell?, hrb]
  clear hW hrb oW hwa f1 f2 f4 f5 f6 HRA HRO HP
  generalize w1.heap.size = rb at *
  go_wp2_with (go_at_call 13; refine (num4_any _ _).mono ?_; rintro e wn ⟨rfl, rfl⟩)
  go_ret
  exact ⟨rfl, HOW.out⟩
end Go.Proofs.Ytjcggokhminmoaa
