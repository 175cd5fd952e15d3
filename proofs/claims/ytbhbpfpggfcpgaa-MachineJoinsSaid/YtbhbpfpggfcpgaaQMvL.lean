/-
reclaimlaw03's last: a thread's last call, at the document's machine.
-/
import Derived.Test.YtbhbpfpggfcpgaaQRmL
import Derived.Test.YtbhbpfpggfcpgaaQPln
namespace Go
open Go.RowKit
open Go.Proofs.Ytbhbpfpggfcpgaa
def Cal.none : Cal := ⟨0, 0, 0, 0, -1, 0, 0, 0, 0⟩
def lastAux (calls : List Cal) (t : Int) : Nat → Cal × Bool
  | 0 => (Cal.none, false)
  | k + 1 => if (calls.getD k Cal.zero).th = t then (calls.getD k Cal.zero, decide ((calls.getD k Cal.zero).en < 0)) else lastAux calls t k
def lastR (calls : List Cal) (t : Int) : Cal × Bool := lastAux calls t calls.length
end Go
namespace Go.Proofs.Ytbhbpfpggfcpgaa
open Go.ChangeShapes Go.WideShapes Go.ChangeAt Go.RowKit Go.Shelf

theorem setNine {a w : World} {rb : Nat} (u0 u1 u2 u3 u4 u5 u6 u7 u8 : Value) (h : Only (fun k => k = rb) a w) : Only (fun k => k = rb) a (((((((((w.setCell ⟨rb, 0, none⟩ u0).setCell ⟨rb, 1, none⟩ u1).setCell ⟨rb, 2, none⟩ u2).setCell ⟨rb, 3, none⟩ u3).setCell ⟨rb, 4, none⟩ u4).setCell ⟨rb, 5, none⟩ u5).setCell ⟨rb, 6, none⟩ u6).setCell ⟨rb, 7, none⟩ u7).setCell ⟨rb, 8, none⟩ u8) := by
  have h0 : Only (fun k => k = rb) a _ := h.set (p := ⟨rb, 0, none⟩) (.inl rfl) u0
  have h1 : Only (fun k => k = rb) a _ := h0.set (p := ⟨rb, 1, none⟩) (.inl rfl) u1
  have h2 : Only (fun k => k = rb) a _ := h1.set (p := ⟨rb, 2, none⟩) (.inl rfl) u2
  have h3 : Only (fun k => k = rb) a _ := h2.set (p := ⟨rb, 3, none⟩) (.inl rfl) u3
  have h4 : Only (fun k => k = rb) a _ := h3.set (p := ⟨rb, 4, none⟩) (.inl rfl) u4
  have h5 : Only (fun k => k = rb) a _ := h4.set (p := ⟨rb, 5, none⟩) (.inl rfl) u5
  have h6 : Only (fun k => k = rb) a _ := h5.set (p := ⟨rb, 6, none⟩) (.inl rfl) u6
  have h7 : Only (fun k => k = rb) a _ := h6.set (p := ⟨rb, 7, none⟩) (.inl rfl) u7
  have h8 : Only (fun k => k = rb) a _ := h7.set (p := ⟨rb, 8, none⟩) (.inl rfl) u8
  exact h8

set_option maxRecDepth 100000 in
set_option maxHeartbeats 400000 in
theorem last_any {w : World} {base mb : Nat} {m : RM} {v : RMV} (H : RMAt w base mb m v) (hn : m.calls.length ≤ 1000000) (t : Int) :
    Calls Try.prog 38 #[.pointer (some ⟨mb, 0, none⟩), .int .i64 t] w fun e w' => e = .returned (.tuple #[(lastR m.calls t).1.v, .bool (lastR m.calls t).2]) ∧ Below w.heap.size w w' := by
  have HH := Lib.hid H
  obtain ⟨o8, c8, e8, y1, y2⟩ := (H.rows 8 (by omega)).form
  change v.row 8 = .slice o8 m.calls.length c8 at e8
  have b24 := H.b24
  rw [e8] at b24
  have E8 := Lib.hid e8
  have lb := (H.lt mb (.inl rfl)).2
  clear H e8 y1 y2
  go_enter Try.func38, Try.ntmps38
  go_wp2
  go_loopg [6] (m.calls.length + 1) (fun g sl wr => ∃ k : Nat, k ≤ m.calls.length ∧ k < g ∧ sl = .int .i64 ((k : Int) - 1) ∧ lastAux m.calls t k = lastR m.calls t ∧ Hid (Only (fun _ => False) w wr ∧ wr.heap[w.heap.size]? = some (.cells #[.int .i64 0, .int .i64 0, .int .i64 0, .int .i64 0, .int .i64 0, .int .i64 0, .int .i64 0, .int .i64 0, .int .i64 0] 63 (0, 0))))
  case atStart => exact ⟨m.calls.length, by omega, by omega, by go_num, rfl, Lib.hid ⟨(Only.refl _ w).alloc _, heap_alloc_new w _⟩⟩
  case round =>
    obtain ⟨k, hk, hg, rfl, hla, hI⟩ := hrel
    have HA : RMAt wr base mb m v := HH.out.only hI.out.1 (fun _ _ x => x)
    have HON := Lib.hid hI.out.1
    have hbx := hI.out.2
    have x0 : wr.cell? ⟨w.heap.size, 0, none⟩ = some (.int .i64 0) := by simp [World.cell?, hbx]
    have x1 : wr.cell? ⟨w.heap.size, 1, none⟩ = some (.int .i64 0) := by simp [World.cell?, hbx]
    have x2 : wr.cell? ⟨w.heap.size, 2, none⟩ = some (.int .i64 0) := by simp [World.cell?, hbx]
    have x3 : wr.cell? ⟨w.heap.size, 3, none⟩ = some (.int .i64 0) := by simp [World.cell?, hbx]
    have x4 : wr.cell? ⟨w.heap.size, 4, none⟩ = some (.int .i64 0) := by simp [World.cell?, hbx]
    have x5 : wr.cell? ⟨w.heap.size, 5, none⟩ = some (.int .i64 0) := by simp [World.cell?, hbx]
    have x6 : wr.cell? ⟨w.heap.size, 6, none⟩ = some (.int .i64 0) := by simp [World.cell?, hbx]
    have x7 : wr.cell? ⟨w.heap.size, 7, none⟩ = some (.int .i64 0) := by simp [World.cell?, hbx]
    have x8 : wr.cell? ⟨w.heap.size, 8, none⟩ = some (.int .i64 0) := by simp [World.cell?, hbx]
    have xz : ∀ j, wr.frozen? ⟨w.heap.size, j, none⟩ = false := fun j => by simp [World.frozen?, hbx]
    have xl := (Array.getElem?_eq_some_iff.1 hbx).1
    cases k with
    | zero =>
      have HLA := Lib.hid hla
      clear hla HA hI hbx
      go_wp2
      refine bodyPost_ret (v := .tuple #[.agg #[.int .i64 0, .int .i64 0, .int .i64 0, .int .i64 0, .int .i64 (-1), .int .i64 0, .int .i64 0, .int .i64 0, .int .i64 0], .bool false]) (by simp [results, Try.results38, go_sem, x0, x1, x2, x3, x4, x5, x6, x7, x8]) rfl ⟨by rw [← HLA.out]; rfl, ?_⟩
      exact Only.below (HON.out.trans (setNine _ _ _ _ _ _ _ _ _ (Only.refl _ _)) (fun k hk => .inr (Nat.le_of_eq hk.symm))) (fun _ h => h.elim) (Nat.le_refl _)
    | succ k =>
      have hkl : k < m.calls.length := by omega
      have hpe : ((k + 1 : Nat) : Int) - 1 = (k : Int) := by omega
      rw [hpe]
      obtain ⟨g, cap, e, h1, h1', h2, h3, h4, h5, h6, h7⟩ := HA.row (i := 8) (by omega) (show 0 < m.calls.length by omega)
      change v.row 8 = .slice (some ⟨g, 0, none⟩) m.calls.length cap at e
      change m.calls.length ≤ cap at h1
      obtain ⟨rfl, rfl⟩ : o8 = some ⟨g, 0, none⟩ ∧ c8 = cap := by have := E8.out; rw [e] at this; cases this; exact ⟨rfl, rfl⟩
      have hgw : g < w.heap.size := (HH.out.lt g (own_row (i := 8) (by omega) h4)).2
      have gcc : ∀ j u, m.calls[k].cells[j]? = some u → j < 9 → wr.cell? ⟨g, k * 9 + j, none⟩ = some u := fun j u hu hj => h6 _ u (by show (cals m.calls)[k * 9 + j]? = _; rw [cals_get m.calls k j hkl hj]; exact hu)
      have hcg : m.calls.getD k Cal.zero = m.calls[k] := by rw [List.getD_eq_getElem?_getD, List.getElem?_eq_getElem hkl]; rfl
      have hla1 : lastAux m.calls t (k + 1) = if m.calls[k].th = t then (m.calls[k], decide (m.calls[k].en < 0)) else lastAux m.calls t k := by show (if (m.calls.getD k Cal.zero).th = t then (m.calls.getD k Cal.zero, decide ((m.calls.getD k Cal.zero).en < 0)) else lastAux m.calls t k) = _; rw [hcg]
      rw [hla1] at hla
      have b24r := HA.b24
      rw [e] at b24r
      have lbr := (HA.lt mb (.inl rfl)).2
      have HI := Lib.hid hI.out
      clear hla1 hcg HA h6 e h4 h2 h5 hI hbx
      generalize m.calls[k] = cl at hla gcc
      obtain ⟨z0, z1, z2, z3, z4, z5, z6, z7, z8⟩ := cl
      have y0 := gcc 0 _ rfl (by omega)
      have y1 := gcc 1 _ rfl (by omega)
      have y2 := gcc 2 _ rfl (by omega)
      have y3 := gcc 3 _ rfl (by omega)
      have y4 := gcc 4 _ rfl (by omega)
      have y5 := gcc 5 _ rfl (by omega)
      have y6 := gcc 6 _ rfl (by omega)
      have y7 := gcc 7 _ rfl (by omega)
      have y8 := gcc 8 _ rfl (by omega)
      simp only [Nat.add_zero] at y0
      simp only at y0 y1 y2 y3 y4 y5 y6 y7 y8
      have hgr : g < wr.heap.size := h3
      have n1 : mb ≠ w.heap.size := by omega
      have n2 : g ≠ w.heap.size := by omega
      by_cases hth : z0 = t
      · subst hth
        rw [if_pos rfl] at hla
        have HLA := Lib.hid hla
        clear hla gcc
        have q24 := fun q : LaterF (fun k => k = w.heap.size) wr => q.cell b24r lbr n1
        have q0 := fun q : LaterF (fun k => k = w.heap.size) wr => q.cell y0 hgr n2
        have q1 := fun q : LaterF (fun k => k = w.heap.size) wr => q.cell y1 hgr n2
        have q2 := fun q : LaterF (fun k => k = w.heap.size) wr => q.cell y2 hgr n2
        have q3 := fun q : LaterF (fun k => k = w.heap.size) wr => q.cell y3 hgr n2
        have q4 := fun q : LaterF (fun k => k = w.heap.size) wr => q.cell y4 hgr n2
        have q5 := fun q : LaterF (fun k => k = w.heap.size) wr => q.cell y5 hgr n2
        have q6 := fun q : LaterF (fun k => k = w.heap.size) wr => q.cell y6 hgr n2
        have q7 := fun q : LaterF (fun k => k = w.heap.size) wr => q.cell y7 hgr n2
        have q8 := fun q : LaterF (fun k => k = w.heap.size) wr => q.cell y8 hgr n2
        go_upto_region 5 with (fail)
        refine wp_region_plan (fun wz => ∃ q : LaterF (fun k => k = w.heap.size) wr, wz = q.W) [16] [0, 1, 2, 3, 4, 5, 6, 7, 8, 9, 10, 11, 12, 13, 14, 15] (.fork 16 [] (.tail 17) .none) oper0 (by kernel_rfl) (by kernel_rfl) (laterF_in (Only.refl _ _).drew) ?_
        simp only [wpPlan, List.map_cons, List.map_nil, List.getD_cons_zero, List.getD_cons_succ, List.drop_succ_cons, List.drop_zero]
        repeat (first | go_big_quiet_skip | (go_big_quiet_want; go_big_quiet_op; go_big_quiet_on))
        refine wpQuiet_nil ?_
        refine ⟨?_, trivial⟩
        go_wp2_with fail
        refine strict_on ?_
        refine ⟨?_, ?_⟩
        · exact laterF_in (setNine _ _ _ _ _ _ _ _ _ (Only.refl _ _)).drew
        repeat (first | go_big_quiet_skip | (go_big_quiet_want; go_big_quiet_op; go_big_quiet_on))
        refine wpQuiet_nil ?_
        go_wp2
        refine bodyPost_ret (v := .tuple #[.agg #[.int .i64 z0, .int .i64 z1, .int .i64 z2, .int .i64 z3, .int .i64 z4, .int .i64 z5, .int .i64 z6, .int .i64 z7, .int .i64 z8], .bool (decide (z5 < 0))]) (by simp [results, Try.results38, go_sem, x0, x1, x2, x3, x4, x5, x6, x7, x8]) rfl ⟨by rw [← HLA.out]; rfl, ?_⟩
        exact Only.below (HON.out.trans (setNine _ _ _ _ _ _ _ _ _ (Only.refl _ _)).drew (fun k hk => .inr (Nat.le_of_eq hk.symm))) (fun _ h => h.elim) (Nat.le_refl _)
      · have q1 : (z0 == t) = false := by simpa using hth
        have q2 : decide (z0 = t) = false := by simpa using hth
        rw [if_neg hth] at hla
        clear hth gcc
        go_wp2
        go_roundg (k + 1)
        case measure => omega
        case rel => exact ⟨k, by omega, by omega, by go_num, hla, HI⟩
end Go.Proofs.Ytbhbpfpggfcpgaa
