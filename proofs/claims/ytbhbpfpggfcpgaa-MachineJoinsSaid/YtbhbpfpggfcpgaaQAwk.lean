/-
reclaimlaw03.awake: chapter 3's first example.
-/
import Derived.Test.YtbhbpfpggfcpgaaQOwnK
namespace Go.Proofs.Ytbhbpfpggfcpgaa
open Go.ChangeShapes Go.WideShapes Go.ChangeAt Go.RowKit Go.Shelf

def awakeMs : List Mv := [⟨0, 2, 0, 0⟩, ⟨1, 2, 0, 0⟩, ⟨0, 0, 0, 0⟩, ⟨1, 0, 0, 0⟩, ⟨0, 0, 0, 0⟩, ⟨1, 0, 0, 0⟩, ⟨1, 0, 0, 0⟩, ⟨1, 0, 0, 0⟩]
theorem awake_run : ownRun [5, 0] 2 awakeMs = ⟨[⟨0, 2, 0, 0, 0, 4, 4, 2, 5⟩, ⟨1, 2, 0, 0, 1, 7, 7, 2, 6⟩],
    [⟨2, 0, 1, 0, 0, 0, 5⟩, ⟨3, 1, 1, 0, 0, 0, 5⟩, ⟨4, 0, 3, 0, 5, 6, 5⟩, ⟨5, 1, 3, 0, 5, 6, 6⟩, ⟨6, 1, 1, 0, 0, 0, 6⟩, ⟨7, 1, 3, 0, 6, 7, 6⟩], [], [7, 0]⟩ := by kernel_rfl

def AwakeRes (w : World) (e : Ending) (w' : World) : Prop := e = .returned (.bool true) ∧ Only (fun _ => False) w w'

theorem mvs_lit {w : World} {H : Nat} (h : w.heap[H]? = some (.cells #[.int .i64 0, .int .i64 2, .int .i64 0, .int .i64 0, .int .i64 1, .int .i64 2, .int .i64 0, .int .i64 0, .int .i64 0, .int .i64 0, .int .i64 0, .int .i64 0, .int .i64 1, .int .i64 0, .int .i64 0, .int .i64 0, .int .i64 0, .int .i64 0, .int .i64 0, .int .i64 0, .int .i64 1, .int .i64 0, .int .i64 0, .int .i64 0, .int .i64 1, .int .i64 0, .int .i64 0, .int .i64 0, .int .i64 1, .int .i64 0, .int .i64 0, .int .i64 0] 34 (0, 0))) :
    MvsIn w (.slice (some ⟨H, 0, none⟩) 8 8) awakeMs := by
  refine ⟨some ⟨H, 0, none⟩, 8, rfl, by simp [awakeMs], by decide, fun i hi => ⟨H, 0, rfl, (Array.getElem?_eq_some_iff.1 h).1, ?_⟩⟩
  have hi8 : i < 8 := hi
  have : i = 0 ∨ i = 1 ∨ i = 2 ∨ i = 3 ∨ i = 4 ∨ i = 5 ∨ i = 6 ∨ i = 7 := by omega
  rcases this with rfl | rfl | rfl | rfl | rfl | rfl | rfl | rfl <;> simp [World.cell?, h, awakeMs]

theorem src_lit {w : World} {H : Nat} (h : w.heap[H]? = some (.cells #[.int .u64 5, .int .u64 0] 27 (0, 0))) : w.Src 1 (.slice (some ⟨H, 0, none⟩) 2 2) 2 (u64s [5, 0]) := by
  refine ⟨by simp [u64s], .inr ⟨⟨H, 0, none⟩, 2, rfl, Nat.le_refl _, fun j u hu => ?_⟩⟩
  rcases j with _ | _ | j
  · cases hu; exact show w.cell? ⟨H, 0, none⟩ = _ by simp [World.cell?, h]
  · cases hu; exact show w.cell? ⟨H, 1, none⟩ = _ by simp [World.cell?, h]
  · simp [u64s] at hu

/-- the run, as it lies -/
theorem awake_cells {B : Nat} {w' : World} {x : RunVs} (h : RunAt w' B x (ownRun [5, 0] 2 awakeMs)) : ∃ (a t c ca ct cb cc : Nat) (ob : Option Addr), x = ⟨.slice (some ⟨a, 0, none⟩) 2 ca, .slice (some ⟨t, 0, none⟩) 6 ct, .slice ob 0 cb, .slice (some ⟨c, 0, none⟩) 2 cc⟩ ∧ a < w'.heap.size ∧ c < w'.heap.size ∧ 2 ≤ ca ∧ 6 ≤ ct ∧ 2 ≤ cc ∧ ca ≤ maxLen ∧ ct ≤ maxLen ∧ cc ≤ maxLen ∧ cb ≤ maxLen ∧
    w'.cell? ⟨c, 0, none⟩ = some (.int .u64 7) ∧ w'.cell? ⟨a, 9, none⟩ = some (.int .i64 1) ∧ w'.cell? ⟨a, 10, none⟩ = some (.int .i64 2) ∧ w'.cell? ⟨a, 11, none⟩ = some (.int .i64 0) ∧ w'.cell? ⟨a, 12, none⟩ = some (.int .i64 0) ∧ w'.cell? ⟨a, 13, none⟩ = some (.int .i64 1) ∧
    w'.cell? ⟨a, 14, none⟩ = some (.int .i64 7) ∧ w'.cell? ⟨a, 15, none⟩ = some (.int .i64 7) ∧ w'.cell? ⟨a, 16, none⟩ = some (.int .i64 2) ∧ w'.cell? ⟨a, 17, none⟩ = some (.int .i64 6) := by
  rw [awake_run] at h
  obtain ⟨a, ca, e1, h1, h2, h3, h4, h5, h6⟩ := h.wa.some_form (by decide)
  obtain ⟨t, ct, e2, k1, k2, k3, k4, k5, k6⟩ := h.wt.some_form (by decide)
  obtain ⟨c, cc, e3, l1, l2, l3, l4, l5, l6⟩ := h.wc.some_form (by decide)
  obtain ⟨ob, cb, e4, m1, m2⟩ := h.wb.form
  have h2' : ca ≤ maxLen := by obtain ⟨_, _, f1, _, f2⟩ := h.wa.form; rw [e1] at f1; cases f1; exact f2
  have k2' : ct ≤ maxLen := by obtain ⟨_, _, f1, _, f2⟩ := h.wt.form; rw [e2] at f1; cases f1; exact f2
  have l2' : cc ≤ maxLen := by obtain ⟨_, _, f1, _, f2⟩ := h.wc.form; rw [e3] at f1; cases f1; exact f2
  obtain ⟨x1, x2, x3, x4⟩ := x
  simp only at e1 e2 e3 e4
  subst e1 e2 e3 e4
  exact ⟨a, t, c, ca, ct, cb, cc, ob, rfl, h3, l3, h1, k1, l1, h2', k2', l2', m2, l6 0 _ rfl, h6 9 _ rfl, h6 10 _ rfl, h6 11 _ rfl, h6 12 _ rfl, h6 13 _ rfl, h6 14 _ rfl, h6 15 _ rfl, h6 16 _ rfl, h6 17 _ rfl⟩

set_option maxRecDepth 100000 in
set_option maxHeartbeats 4000000 in
theorem awake_ok {w : World} : Calls Try.prog 26 #[] w (AwakeRes w) := by
  have HP := Lib.hid (fun (W : World) (vx vm : Value) (hx : W.Src 1 vx 2 (u64s [5, 0])) (hv : MvsIn W vm awakeMs) => play_ok (w := W) (l := [5, 0]) (ms := awakeMs) 2 hx (by decide) hv (by decide) (by decide) (by decide))
  go_enter Try.func26, Try.ntmps26
  go_wp2_with (go_at_call 21; refine (HP.out _ _ _ (src_lit (heap_alloc_at (by simp))) (mvs_lit (by rw [Below.heap_alloc _ _ _ (by simp)]; exact heap_alloc_new w _))).mono ?_; rintro e w1 ⟨x, he, hra, ho⟩; obtain ⟨a, t, c, ca, ct, cb, cc, ob, rfl, la, lc, h1, h2, h3, h4, h5, h6, h7, c0, d0, d1, d2, d3, d4, d5, d6, d7, d8⟩ := awake_cells hra; (unfold RunVs.v at he); subst he; have HO := Lib.hid ho; (unfold maxLen at h4 h5 h6 h7); clear hra ho)
  go_ret
  exact ⟨rfl, (((Only.refl _ w).alloc _).alloc _).trans (HO.out.alloc _) (fun _ x => x.elim)⟩
end Go.Proofs.Ytbhbpfpggfcpgaa
