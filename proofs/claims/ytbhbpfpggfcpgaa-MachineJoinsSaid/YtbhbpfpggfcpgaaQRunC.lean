/-
slices.Clone at []api.Call and []api.Shift.
machine.Machine: Run: what is made on the way (RunAcc), and what holds while the log is ranged over (RunI). Plain.
machine.Machine: Run: what holds while the log is ranged over (RunI). Plain.
A region that draws its order and holds reads, steps that write (in one order), an operation that floats (it waits for none of them, and none of them for it), and a last one that waits for all.
-/
import Derived.Test.YtbhbpfpggfcpgaaQMove
import Derived.Maps.OwnIn
import Derived.Test.YtbhbpfpggfcpgaaQMchM
namespace Go.Proofs.Ytbhbpfpggfcpgaa
open Go.ChangeShapes Go.WideShapes Go.ChangeAt Go.RowKit

set_option maxRecDepth 100000 in
theorem clone_cal {w : World} {vx : Value} {l : List Cal} (hs : w.Src 9 vx l.length (cals l)) (hn : l.length ≤ 3000000000000) : Calls Try.prog 54 #[vx] w (Cloned w 63 9 l.length (cals l)) := by
  obtain ⟨i0, hi, hz0, hz1, hz2⟩ := info_parts infoCall
  have HI := Lib.hid hi
  have HZ0 := Lib.hid hz0
  have HZ1 := Lib.hid hz1
  have HZ2 := Lib.hid hz2
  clear hi hz0 hz1 hz2
  have HS := Lib.hid hs
  rcases hs.2 with ⟨rfl, h0⟩ | ⟨ad, c, rfl, hc, _⟩
  · obtain rfl : l = [] := List.eq_nil_of_length_eq_zero h0
    have hq := fun w => Lib.run_eql_slice_nil (P := Try.prog) w 37 63 none 0 0 0 0 Try.underlying37
    clear hs HS
    go_enter Try.func54, Try.ntmps54
    go_wp2
    go_ret
    exact ⟨none, 0, rfl, Nat.le_refl _, by omega, World.RowV_none _ _ _ _ _, Only.refl _ _⟩
  · have hq := fun w => Lib.run_eql_slice_nil (P := Try.prog) w 37 63 (some ad) l.length c 0 0 Try.underlying37
    have S1 := Lib.hid (cals_one l)
    have S2 := Lib.hid (show 0 + l.length ≤ maxLen by unfold maxLen; omega)
    have S3 := Lib.hid (show ((0 + l.length) + (0 + l.length) / 4 + 192) * 72 ≤ 281474976710656 by omega)
    clear hs
    go_enter Try.func54, Try.ntmps54
    go_wp2_with (at_builtin; refine wpList_append_row _ rfl _ _ 37 rfl w.heap.size 63 i0 _ 9 72 Try.underlying37 HI.out HZ0.out HZ1.out HZ2.out rfl (.slice (some ⟨w.heap.size, 0, none⟩) 0 0) 0 [] rfl (World.RowV_none _ _ _ _ _) _ l.length (cals l) rfl (HS.out.alloc _) S1.out S2.out S3.out (by simp) ?_; intro v' w1 hown hout; obtain ⟨o', c', rfl, hn', hm'⟩ := hown.form; have H1 := Lib.hid hown; have H2 := Lib.hid hout; clear hown hout; unfold maxLen at hm')
    go_ret
    exact ⟨o', c', rfl, by omega, by omega, by simpa using H1.out, Only.trans ((Only.refl _ _).alloc _) (Only.out (F := fun _ => False) H2.out (by simp [Value.rowBlock])) (fun _ h => h.elim)⟩


set_option maxRecDepth 100000 in
theorem clone_shf {w : World} {vx : Value} {l : List Shf} (hs : w.Src 5 vx l.length (shfs l)) (hn : l.length ≤ 3000000000000) : Calls Try.prog 55 #[vx] w (Cloned w 132 5 l.length (shfs l)) := by
  obtain ⟨i0, hi, hz0, hz1, hz2⟩ := info_parts infoShift
  have HI := Lib.hid hi
  have HZ0 := Lib.hid hz0
  have HZ1 := Lib.hid hz1
  have HZ2 := Lib.hid hz2
  clear hi hz0 hz1 hz2
  have HS := Lib.hid hs
  rcases hs.2 with ⟨rfl, h0⟩ | ⟨ad, c, rfl, hc, _⟩
  · obtain rfl : l = [] := List.eq_nil_of_length_eq_zero h0
    have hq := fun w => Lib.run_eql_slice_nil (P := Try.prog) w 39 132 none 0 0 0 0 Try.underlying39
    clear hs HS
    go_enter Try.func55, Try.ntmps55
    go_wp2
    go_ret
    exact ⟨none, 0, rfl, Nat.le_refl _, by omega, World.RowV_none _ _ _ _ _, Only.refl _ _⟩
  · have hq := fun w => Lib.run_eql_slice_nil (P := Try.prog) w 39 132 (some ad) l.length c 0 0 Try.underlying39
    have S1 := Lib.hid (shfs_one l)
    have S2 := Lib.hid (show 0 + l.length ≤ maxLen by unfold maxLen; omega)
    have S3 := Lib.hid (show ((0 + l.length) + (0 + l.length) / 4 + 192) * 40 ≤ 281474976710656 by omega)
    clear hs
    go_enter Try.func55, Try.ntmps55
    go_wp2_with (at_builtin; refine wpList_append_row _ rfl _ _ 39 rfl w.heap.size 132 i0 _ 5 40 Try.underlying39 HI.out HZ0.out HZ1.out HZ2.out rfl (.slice (some ⟨w.heap.size, 0, none⟩) 0 0) 0 [] rfl (World.RowV_none _ _ _ _ _) _ l.length (shfs l) rfl (HS.out.alloc _) S1.out S2.out S3.out (by simp) ?_; intro v' w1 hown hout; obtain ⟨o', c', rfl, hn', hm'⟩ := hown.form; have H1 := Lib.hid hown; have H2 := Lib.hid hout; clear hown hout; unfold maxLen at hm')
    go_ret
    exact ⟨o', c', rfl, by omega, by omega, by simpa using H1.out, Only.trans ((Only.refl _ _).alloc _) (Only.out (F := fun _ => False) H2.out (by simp [Value.rowBlock])) (fun _ h => h.elim)⟩

end Go.Proofs.Ytbhbpfpggfcpgaa
namespace Go.Proofs.Ytbhbpfpggfcpgaa
open Go.ChangeShapes Go.WideShapes Go.ChangeAt Go.RowKit Go.Shelf

def apart (a b : Option Value) : Prop := ∀ u v k, a = some u → b = some v → u.rowBlock = some k → v.rowBlock ≠ some k
/-- the clones made so far, and the run's own block -/
structure RunAcc (w : World) (cl : List Cal) (sl : List Shf) (wl : List Int) (W : World) (a b c : Option Value) (d : Option Nat) : Prop where
  on : Only (fun _ => False) w W
  ra : ∀ v, a = some v → W.RowV w.heap.size 63 9 v cl.length (cals cl)
  rb : ∀ v, b = some v → W.RowV w.heap.size 132 5 v sl.length (shfs sl)
  rc : ∀ v, c = some v → W.RowV w.heap.size 27 1 v wl.length (u64s wl)
  ab : apart a b
  ac : apart a c
  bc : apart b c
  bx : ∀ k, d = some k → W.heap[k]? = some (.cells #[.slice none 0 0, .slice none 0 0, .slice none 0 0, .slice none 0 0] 41) ∧ w.heap.size ≤ k ∧ (∀ v, a = some v → v.rowBlock ≠ some k) ∧ (∀ v, b = some v → v.rowBlock ≠ some k) ∧ (∀ v, c = some v → v.rowBlock ≠ some k)

section
variable {w W W' : World} {cl : List Cal} {sl : List Shf} {wl : List Int} {a b c : Option Value} {d : Option Nat}
theorem RunAcc.of (ho : Only (fun _ => False) w W) : RunAcc w cl sl wl W none none none none :=
  ⟨ho, fun _ h => (by cases h), fun _ h => (by cases h), fun _ h => (by cases h), fun _ _ _ h => (by cases h), fun _ _ _ h => (by cases h), fun _ _ _ h => (by cases h), fun _ h => (by cases h)⟩
theorem RunAcc.keep (h : RunAcc w cl sl wl W a b c d) (ho : Only (fun _ => False) W W') : RunAcc w cl sl wl W' a b c d := by
  have hk : ∀ k, k < W.heap.size → W'.heap[k]? = W.heap[k]? := fun k hl => ho.block k hl (fun x => x)
  refine ⟨h.on.trans ho (fun _ x => x.elim), fun v hv => (h.ra v hv).of_block fun k e => hk k ((h.ra v hv).lt k e).2, fun v hv => (h.rb v hv).of_block fun k e => hk k ((h.rb v hv).lt k e).2, fun v hv => (h.rc v hv).of_block fun k e => hk k ((h.rc v hv).lt k e).2, h.ab, h.ac, h.bc, fun k hd => ?_⟩
  obtain ⟨h1, h2⟩ := h.bx k hd
  exact ⟨by rw [hk k (Array.getElem?_eq_some_iff.1 h1).1]; exact h1, h2⟩
theorem RunAcc.drew (h : RunAcc w cl sl wl W a b c d) : RunAcc w cl sl wl W.drew a b c d := h.keep ((Only.refl _ _).drew)
theorem RunAcc.allocRun (h : RunAcc w cl sl wl W a b c none) : RunAcc w cl sl wl (W.alloc (.cells #[.slice none 0 0, .slice none 0 0, .slice none 0 0, .slice none 0 0] 41)) a b c (some W.heap.size) := by
  obtain ⟨h1, h2, h3, h4, h5, h6, h7, _⟩ := h.keep ((Only.refl _ W).alloc (.cells #[.slice none 0 0, .slice none 0 0, .slice none 0 0, .slice none 0 0] 41))
  refine ⟨h1, h2, h3, h4, h5, h6, h7, fun k hk => ?_⟩
  cases hk
  exact ⟨heap_alloc_new W _, h.on.size, fun v hv e => by have := ((h.ra v hv).lt _ e).2; omega, fun v hv e => by have := ((h.rb v hv).lt _ e).2; omega, fun v hv e => by have := ((h.rc v hv).lt _ e).2; omega⟩
theorem RunAcc.setA (h : RunAcc w cl sl wl W none b c d) {v : Value} (hr : W'.RowV W.heap.size 63 9 v cl.length (cals cl)) (ho : Only (fun _ => False) W W') : RunAcc w cl sl wl W' (some v) b c d := by
  obtain ⟨h1, h2, h3, h4, h5, h6, h7, h8⟩ := h.keep ho
  refine ⟨h1, fun u hu => by cases hu; exact hr.base_mono h.on.size, h3, h4, fun u u' k hu hu' e e' => ?_, fun u u' k hu hu' e e' => ?_, h7, fun k hk => ⟨(h8 k hk).1, (h8 k hk).2.1, fun u hu e => ?_, (h8 k hk).2.2.2.1, (h8 k hk).2.2.2.2⟩⟩
  · cases hu; have := (hr.lt k e).1; have := ((h.rb u' hu').lt k e').2; omega
  · cases hu; have := (hr.lt k e).1; have := ((h.rc u' hu').lt k e').2; omega
  · cases hu; have := (hr.lt k e).1; have := (Array.getElem?_eq_some_iff.1 (h.bx k hk).1).1; omega
theorem RunAcc.setB (h : RunAcc w cl sl wl W a none c d) {v : Value} (hr : W'.RowV W.heap.size 132 5 v sl.length (shfs sl)) (ho : Only (fun _ => False) W W') : RunAcc w cl sl wl W' a (some v) c d := by
  obtain ⟨h1, h2, h3, h4, h5, h6, h7, h8⟩ := h.keep ho
  refine ⟨h1, h2, fun u hu => by cases hu; exact hr.base_mono h.on.size, h4, fun u u' k hu hu' e e' => ?_, h6, fun u u' k hu hu' e e' => ?_, fun k hk => ⟨(h8 k hk).1, (h8 k hk).2.1, (h8 k hk).2.2.1, fun u hu e => ?_, (h8 k hk).2.2.2.2⟩⟩
  · cases hu'; have := (hr.lt k e').1; have := ((h.ra u hu).lt k e).2; omega
  · cases hu; have := (hr.lt k e).1; have := ((h.rc u' hu').lt k e').2; omega
  · cases hu; have := (hr.lt k e).1; have := (Array.getElem?_eq_some_iff.1 (h.bx k hk).1).1; omega
theorem RunAcc.setC (h : RunAcc w cl sl wl W a b none d) {v : Value} (hr : W'.RowV W.heap.size 27 1 v wl.length (u64s wl)) (ho : Only (fun _ => False) W W') : RunAcc w cl sl wl W' a b (some v) d := by
  obtain ⟨h1, h2, h3, h4, h5, h6, h7, h8⟩ := h.keep ho
  refine ⟨h1, h2, h3, fun u hu => by cases hu; exact hr.base_mono h.on.size, h5, fun u u' k hu hu' e e' => ?_, fun u u' k hu hu' e e' => ?_, fun k hk => ⟨(h8 k hk).1, (h8 k hk).2.1, (h8 k hk).2.2.1, (h8 k hk).2.2.2.1, fun u hu e => ?_⟩⟩
  · cases hu'; have := (hr.lt k e').1; have := ((h.ra u hu).lt k e).2; omega
  · cases hu'; have := (hr.lt k e').1; have := ((h.rb u hu).lt k e).2; omega
  · cases hu; have := (hr.lt k e).1; have := (Array.getElem?_eq_some_iff.1 (h.bx k hk).1).1; omega
end

/-- the run's block with its clones, ahead of the loop -/
structure RunSet (w : World) (cl : List Cal) (sl : List Shf) (wl : List Int) (W : World) (rb : Nat) (va vb vc vt : Value) : Prop where
  on : Only (fun _ => False) w W
  bx : W.heap[rb]? = some (.cells #[va, vt, vb, vc] 41)
  ge : w.heap.size ≤ rb
  wa : W.RowV w.heap.size 63 9 va cl.length (cals cl)
  wb : W.RowV w.heap.size 132 5 vb sl.length (shfs sl)
  wc : W.RowV w.heap.size 27 1 vc wl.length (u64s wl)
  xa : va.rowBlock ≠ some rb
  xb : vb.rowBlock ≠ some rb
  xc : vc.rowBlock ≠ some rb
  ab : ∀ k, va.rowBlock = some k → vb.rowBlock ≠ some k
  ac : ∀ k, va.rowBlock = some k → vc.rowBlock ≠ some k
  bc : ∀ k, vb.rowBlock = some k → vc.rowBlock ≠ some k

section
variable {w W : World} {cl : List Cal} {sl : List Shf} {wl : List Int} {va vb vc : Value}
theorem RunAcc.last (h : RunAcc w cl sl wl W (some va) (some vb) (some vc) none) : RunSet w cl sl wl (W.alloc (.cells #[va, .slice none 0 0, vb, vc] 41)) W.heap.size va vb vc (.slice none 0 0) :=
  ⟨h.on.alloc _, heap_alloc_new W _, h.on.size, (h.ra _ rfl).alloc _, (h.rb _ rfl).alloc _, (h.rc _ rfl).alloc _, fun e => by have := ((h.ra _ rfl).lt _ e).2; omega, fun e => by have := ((h.rb _ rfl).lt _ e).2; omega, fun e => by have := ((h.rc _ rfl).lt _ e).2; omega,
    fun k e => h.ab _ _ k rfl rfl e, fun k e => h.ac _ _ k rfl rfl e, fun k e => h.bc _ _ k rfl rfl e⟩
theorem RunAcc.store {k : Nat} (h : RunAcc w cl sl wl W (some va) (some vb) (some vc) (some k)) :
    RunSet w cl sl wl ((((W.setCell ⟨k, 0, none⟩ va).setCell ⟨k, 1, none⟩ (.slice none 0 0)).setCell ⟨k, 2, none⟩ vb).setCell ⟨k, 3, none⟩ vc) k va vb vc (.slice none 0 0) := by
  obtain ⟨h1, h2, h3, h4, h5⟩ := h.bx k rfl
  have hr : ∀ {e s n : Nat} {u : Value} {xs : List Value}, W.RowV w.heap.size e s u n xs → u.rowBlock ≠ some k → ((((W.setCell ⟨k, 0, none⟩ va).setCell ⟨k, 1, none⟩ (.slice none 0 0)).setCell ⟨k, 2, none⟩ vb).setCell ⟨k, 3, none⟩ vc).RowV w.heap.size e s u n xs := by
    intro e s n u xs hu hn
    have hne : ∀ j, u.rowBlock = some j → j ≠ k := fun j hj e => hn (by rw [hj, e])
    exact (((hu.set hne _).set hne _).set hne _).set hne _
  refine ⟨(((h.on.set (.inr h2) _).set (.inr h2) _).set (.inr h2) _).set (.inr h2) _, ?_, h2, hr (h.ra _ rfl) (h3 _ rfl), hr (h.rb _ rfl) (h4 _ rfl), hr (h.rc _ rfl) (h5 _ rfl), h3 _ rfl, h4 _ rfl, h5 _ rfl, fun j e => h.ab _ _ j rfl rfl e, fun j e => h.ac _ _ j rfl rfl e, fun j e => h.bc _ _ j rfl rfl e⟩
  simp [World.setCell, Array.getElem?_modify, h1]
theorem RunAcc.facts {k : Nat} {a b c : Option Value} {d : Option Nat} (h : RunAcc w cl sl wl W a b c d) (hd : d = some k) : W.cell? ⟨k, 0, none⟩ = some (.slice none 0 0) ∧ W.cell? ⟨k, 1, none⟩ = some (.slice none 0 0) ∧ W.cell? ⟨k, 2, none⟩ = some (.slice none 0 0) ∧ W.cell? ⟨k, 3, none⟩ = some (.slice none 0 0) ∧ (∀ j, W.frozen? ⟨k, j, none⟩ = false) ∧ k < W.heap.size := by
  have h1 := (h.bx k hd).1
  exact ⟨by simp [World.cell?, h1], by simp [World.cell?, h1], by simp [World.cell?, h1], by simp [World.cell?, h1], fun j => by simp [World.frozen?, h1], (Array.getElem?_eq_some_iff.1 h1).1⟩
end
end Go.Proofs.Ytbhbpfpggfcpgaa
namespace Go.Proofs.Ytbhbpfpggfcpgaa
open Go.ChangeShapes Go.WideShapes Go.ChangeAt Go.RowKit Go.Shelf

/-- the run's block and the row in it -/
def RunFoot (rb : Nat) (W : World) (k : Nat) : Prop := k = rb ∨ ∃ v, W.cell? ⟨rb, 1, none⟩ = some v ∧ v.rowBlock = some k
def ents (pre : List (Nat × Acc)) : List Value := accs (pre.map (·.2))
theorem ents_snoc (pre : List (Nat × Acc)) (x : Nat × Acc) : ents (pre ++ [x]) = ents pre ++ x.2.cells := by simp [ents, accs]

structure RunIV (W0 : World) (rb : Nat) (va vb vc : Value) (pre : List (Nat × Acc)) (vt : Value) (W : World) : Prop where
  bx : W.heap[rb]? = some (.cells #[va, vt, vb, vc] 41 (0, 0))
  rt : W.RowV W0.heap.size 66 7 vt pre.length (ents pre)
  on : Only (fun k => k = rb) W0 W
  lt : rb < W0.heap.size
def RunI (W0 : World) (rb : Nat) (va vb vc : Value) (pre : List (Nat × Acc)) (W : World) : Prop := ∃ vt, RunIV W0 rb va vb vc pre vt W

section
variable {W0 W : World} {rb : Nat} {va vb vc vt : Value} {pre : List (Nat × Acc)}
theorem rowCells {w : World} {H e s n : Nat} {v : Value} {xs : List Value} (hv : w.RowV H e s v n xs) {k : Nat} {o : Obj} (ho : w.heap[k]? = some o) (hc : o.isCells = false) : v.rowBlock ≠ some k := by
  intro hvk
  rcases hv.2 with ⟨oo, rfl, _⟩ | ⟨g, cap, cur, rfl, _, hgg, _, hcap, _⟩
  · cases oo <;> simp [Value.rowBlock] at hvk
  · simp [Value.rowBlock, Nat.ne_of_gt hcap] at hvk
    subst hvk
    rw [hgg] at ho
    cases ho
    cases hc
theorem RunIV.of_grown {W' : World} {row : Option Nat} (h : RunIV W0 rb va vb vc pre vt W) (hg : W.grownBy W' row) (hr : ∀ r, row = some r → W0.heap.size ≤ r ∧ ∃ o : Obj, W.heap[r]? = some o ∧ o.isCells = false) : RunIV W0 rb va vb vc pre vt W' := by
  have hlt := h.lt
  have hs := h.on.size
  refine ⟨?_, ?_, ⟨hg.os.trans h.on.os, hg.tape.trans h.on.tape, hg.output.trans h.on.output, Nat.le_trans hs hg.size, fun k hk hn => ?_⟩, h.lt⟩
  · rw [hg.block rb (by omega) (fun e => by have := (hr rb e.symm).1; omega)]
    exact h.bx
  · refine h.rt.of_block fun k hk => hg.block k (h.rt.lt k hk).2 (fun he => ?_)
    obtain ⟨_, o, ho, hc⟩ := hr k he.symm
    exact rowCells h.rt ho hc hk
  · rw [hg.block k (by omega) (fun e => by have := (hr k e.symm).1; omega)]
    exact h.on.block k hk hn
theorem RunI.ownFrom : OwnFrom W0.heap.size (RunI W0 rb va vb vc) := fun _pre _W _W' _row ⟨vt, h⟩ hg hr => ⟨vt, h.of_grown hg hr⟩

theorem RunIV.cell (h : RunIV W0 rb va vb vc pre vt W) : W.cell? ⟨rb, 1, none⟩ = some vt := by simp [World.cell?, h.bx]
theorem RunIV.facts (h : RunIV W0 rb va vb vc pre vt W) : W.cell? ⟨rb, 0, none⟩ = some va ∧ W.cell? ⟨rb, 1, none⟩ = some vt ∧ W.cell? ⟨rb, 2, none⟩ = some vb ∧ W.cell? ⟨rb, 3, none⟩ = some vc ∧ (∀ j, W.frozen? ⟨rb, j, none⟩ = false) ∧ rb < W.heap.size :=
  ⟨by simp [World.cell?, h.bx], h.cell, by simp [World.cell?, h.bx], by simp [World.cell?, h.bx], fun j => by simp [World.frozen?, h.bx], (Array.getElem?_eq_some_iff.1 h.bx).1⟩

theorem RunIV.step (h : RunIV W0 rb va vb vc pre vt W) (x : Nat × Acc) {w1 : World} {vt' : Value} {o1 : Obj}
    (hown : w1.RowV W0.heap.size 66 7 vt' (pre.length + 1) (ents pre ++ x.2.cells)) (ho : RowOut (W.alloc o1) w1 vt vt' pre.length 1) :
    RunIV W0 rb va vb vc (pre ++ [x]) vt' (w1.setCell ⟨rb, 1, none⟩ vt') ∧ LogKp (RunFoot rb) W (w1.setCell ⟨rb, 1, none⟩ vt') ∧ KeepsFrom W0.heap.size W (w1.setCell ⟨rb, 1, none⟩ vt') := by
  have hlt := h.lt
  have hs := h.on.size
  have s1 := ho.size
  have e1 : (W.alloc o1).heap.size = W.heap.size + 1 := by simp
  rw [e1] at s1
  have hvt := h.rt.lt
  have nn : ∀ k, vt'.rowBlock = some k → vt.rowBlock = some k ∨ k = W.heap.size + 1 := fun k hk => by have := ho.news hk; rwa [e1] at this
  have hfar : ∀ k, k < W.heap.size → k ≠ rb → vt.rowBlock ≠ some k → (w1.setCell ⟨rb, 1, none⟩ vt').heap[k]? = W.heap[k]? := by
    intro k hk k1 k2
    rw [Below.heap_setCell _ _ _ _ k1, ho.block (by rw [e1]; omega) k2, Below.heap_alloc _ _ _ hk]
  have hb1 : w1.heap[rb]? = some (.cells #[va, vt, vb, vc] 41 (0, 0)) := by
    rw [ho.block (by rw [e1]; omega) (fun e => by have := (hvt rb e).1; omega), Below.heap_alloc _ _ _ (by omega)]
    exact h.bx
  have hbE : (w1.setCell ⟨rb, 1, none⟩ vt').heap[rb]? = some (.cells #[va, vt', vb, vc] 41 (0, 0)) := by
    simp [World.setCell, Array.getElem?_modify, hb1]
  have hos : w1.os = W.os ∧ w1.tape = W.tape ∧ w1.output = W.output := by
    rcases ho with ⟨_, _, _, hg⟩ | ⟨_, _, hg⟩ <;> exact ⟨hg.os, hg.tape, hg.output⟩
  refine ⟨⟨hbE, ?_, ⟨hos.1.trans h.on.os, hos.2.1.trans h.on.tape, hos.2.2.trans h.on.output, by simp [World.setCell]; omega, fun k hk hn => ?_⟩, h.lt⟩, ⟨?_, ?_, ?_⟩, ⟨?_, ?_⟩⟩
  · rw [ents_snoc, List.length_append]
    exact hown.set (fun k hk e => by have := (hown.lt k hk).1; have e' : k = rb := e; omega) _
  · rw [hfar k (by omega) hn (fun e => by have := (hvt k e).1; omega)]
    exact h.on.block k hk hn
  · simp [World.setCell]; omega
  · intro k o ho' hc hn
    have hk := (Array.getElem?_eq_some_iff.1 ho').1
    rw [hfar k hk (fun e => hn (.inl e)) (fun e => hn (.inr ⟨vt, h.cell, e⟩))]
    exact ho'
  · rintro k (hk | ⟨u, hu, hk⟩)
    · exact .inl (.inl hk)
    · have : (w1.setCell ⟨rb, 1, none⟩ vt').cell? ⟨rb, 1, none⟩ = some vt' := by simp [World.cell?, hbE]
      rw [this] at hu
      cases hu
      rcases nn k hk with h3 | h3
      · exact .inl (.inr ⟨vt, h.cell, h3⟩)
      · exact .inr (by omega)
  · simp [World.setCell]; omega
  · intro k o hk ho' hc
    have hl := (Array.getElem?_eq_some_iff.1 ho').1
    rw [hfar k hl (by omega) (rowCells h.rt ho' hc)]
    exact ho'
end

theorem LogKp.alloc1 {rb : Nat} {W : World} (hn : rb < W.heap.size) (o : Obj) : LogKp (RunFoot rb) W (W.alloc o) := by
  have c : (W.alloc o).cell? ⟨rb, 1, none⟩ = W.cell? ⟨rb, 1, none⟩ := World.cell?_of_block (Below.heap_alloc _ _ _ hn)
  refine ⟨by simp, fun k o' ho _ _ => by rw [Below.heap_alloc _ _ _ (Array.getElem?_eq_some_iff.1 ho).1]; exact ho, fun k hk => .inl ?_⟩
  rcases hk with hk | ⟨v, hv, hk⟩
  · exact .inl hk
  · exact .inr ⟨v, by rw [← c]; exact hv, hk⟩
theorem LogKp.putObj1 {rb l : Nat} {W : World} (hn : rb ≠ l) (o o' : Obj) (ho : W.heap[l]? = some o) (hc : o.isCells = false) : LogKp (RunFoot rb) W (W.putObj l o') := by
  have c : (W.putObj l o').cell? ⟨rb, 1, none⟩ = W.cell? ⟨rb, 1, none⟩ := World.cell?_of_block (World.putObj_heap_other hn)
  refine ⟨by simp, fun k o2 h2 h3 _ => ?_, fun k hk => .inl ?_⟩
  · have hk : k ≠ l := fun e => by subst e; rw [ho] at h2; cases h2; rw [hc] at h3; cases h3
    rw [World.putObj_heap_other hk]
    exact h2
  · rcases hk with hk | ⟨v, hv, hk⟩
    · exact .inl hk
    · exact .inr ⟨v, by rw [← c]; exact hv, hk⟩
theorem grown_drew_put (W : World) (D : Nat) (o : Obj) : W.grownBy (W.drew.putObj D o) (some D) := by
  have h := grownBy_putObj' W.drew D o
  exact ⟨h.os, h.tape, h.output, h.size, h.block⟩
theorem boxA {w : World} {b : Nat} {a0 a1 a2 a3 a4 a5 a6 : Value} {t : TypeId} (h : w.heap[b]? = some (.cells #[a0, a1, a2, a3, a4, a5, a6] t (0, 0))) : w.cell? ⟨b, 0, none⟩ = some a0 ∧ w.cell? ⟨b, 1, none⟩ = some a1 ∧ w.cell? ⟨b, 2, none⟩ = some a2 ∧ w.cell? ⟨b, 3, none⟩ = some a3 ∧
    w.cell? ⟨b, 4, none⟩ = some a4 ∧ w.cell? ⟨b, 5, none⟩ = some a5 ∧ w.cell? ⟨b, 6, none⟩ = some a6 :=
  ⟨by simp [World.cell?, h], by simp [World.cell?, h], by simp [World.cell?, h], by simp [World.cell?, h], by simp [World.cell?, h], by simp [World.cell?, h], by simp [World.cell?, h]⟩

/-- the entries of a whole log -/
theorem items_all (log : List Acc) : (items log 0 log.length).map (·.2) = log := by
  unfold items
  simp only [Nat.sub_zero, List.map_map]
  apply List.ext_getElem?
  intro i
  simp only [List.getElem?_map]
  by_cases h : i < log.length
  · simp [h, List.getD]
  · simp [h]

/-- a run as data -/
structure RunS where
  calls : List Cal
  trace : List Acc
  shifts : List Shf
  words : List Int
structure RunVs where
  va : Value
  vt : Value
  vb : Value
  vc : Value
def RunVs.v (x : RunVs) : Value := .agg #[x.va, x.vt, x.vb, x.vc]
def RunVs.own (x : RunVs) (k : Nat) : Prop := x.va.rowBlock = some k ∨ x.vt.rowBlock = some k ∨ x.vb.rowBlock = some k ∨ x.vc.rowBlock = some k
/-- the rows of a run, each for itself -/
structure RunAt (w : World) (base : Nat) (x : RunVs) (r : RunS) : Prop where
  wa : w.RowV base 63 9 x.va r.calls.length (cals r.calls)
  wt : w.RowV base 66 7 x.vt r.trace.length (accs r.trace)
  wb : w.RowV base 132 5 x.vb r.shifts.length (shfs r.shifts)
  wc : w.RowV base 27 1 x.vc r.words.length (u64s r.words)
  at' : ∀ k, x.va.rowBlock = some k → x.vt.rowBlock ≠ some k
  ab : ∀ k, x.va.rowBlock = some k → x.vb.rowBlock ≠ some k
  ac : ∀ k, x.va.rowBlock = some k → x.vc.rowBlock ≠ some k
  tb : ∀ k, x.vt.rowBlock = some k → x.vb.rowBlock ≠ some k
  tc : ∀ k, x.vt.rowBlock = some k → x.vc.rowBlock ≠ some k
  bc : ∀ k, x.vb.rowBlock = some k → x.vc.rowBlock ≠ some k
theorem RunAt.lt {w : World} {base : Nat} {x : RunVs} {r : RunS} (h : RunAt w base x r) : ∀ k, x.own k → base ≤ k ∧ k < w.heap.size := by
  rintro k (e | e | e | e)
  · exact h.wa.lt k e
  · exact h.wt.lt k e
  · exact h.wb.lt k e
  · exact h.wc.lt k e
theorem RunAt.of_block {w w' : World} {base : Nat} {x : RunVs} {r : RunS} (h : RunAt w base x r) (hb : ∀ k, x.own k → w'.heap[k]? = w.heap[k]?) : RunAt w' base x r :=
  ⟨h.wa.of_block fun k hk => hb k (.inl hk), h.wt.of_block fun k hk => hb k (.inr (.inl hk)), h.wb.of_block fun k hk => hb k (.inr (.inr (.inl hk))), h.wc.of_block fun k hk => hb k (.inr (.inr (.inr hk))), h.at', h.ab, h.ac, h.tb, h.tc, h.bc⟩
theorem RunAt.base_mono {w : World} {base b' : Nat} {x : RunVs} {r : RunS} (h : RunAt w base x r) (hb : b' ≤ base) : RunAt w b' x r :=
  ⟨h.wa.base_mono hb, h.wt.base_mono hb, h.wb.base_mono hb, h.wc.base_mono hb, h.at', h.ab, h.ac, h.tb, h.tc, h.bc⟩
theorem RunAt.ne_row {W : World} {base : Nat} {x : RunVs} {r : RunS} (h : RunAt W base x r) {D : Nat} {o : Obj} (ho : W.heap[D]? = some o) (hc : o.isCells = false) : ¬ x.own D := by
  rintro (e | e | e | e)
  · exact rowCells h.wa ho hc e
  · exact rowCells h.wt ho hc e
  · exact rowCells h.wb ho hc e
  · exact rowCells h.wc ho hc e
theorem RunAt.left {w W W' : World} {base : Nat} {x : RunVs} {r : RunS} (h : RunAt W base x r) (hb : w.heap.size < base) (ho : Only (fun _ => False) w W) {D : Nat} (hD : W.heap[D]? = some (.deferred (some []))) (hDw : w.heap.size ≤ D)
    (hk : ∀ k, k ≠ w.heap.size → k ≠ D → W'.heap[k]? = W.heap[k]?) (hos : W'.os = W.os) (hta : W'.tape = W.tape) (hou : W'.output = W.output) (hsz : W.heap.size ≤ W'.heap.size) :
    RunAt W' w.heap.size x r ∧ Only (fun _ => False) w W' := by
  have hs := ho.size
  refine ⟨(h.of_block fun k hk' => hk k (by have := (h.lt k hk').1; omega) (fun e => by subst e; exact h.ne_row hD rfl hk')).base_mono (by omega), ⟨hos.trans ho.os, hta.trans ho.tape, hou.trans ho.output, by omega, fun k hl _ => ?_⟩⟩
  rw [hk k (by omega) (by omega), ho.block k hl (fun x => x)]
/-- what a call answers that makes a run -/
def RunRes (w : World) (r : RunS) (e : Ending) (w' : World) : Prop := ∃ x : RunVs, e = .returned x.v ∧ RunAt w' w.heap.size x r ∧ Only (fun _ => False) w w'

theorem RunSet.run {w W0 W : World} {cl : List Cal} {sl : List Shf} {wl : List Int} {rb : Nat} {va vb vc vt v0 : Value} {log : List Acc} {xs : List (Nat × Acc)} (hs : RunSet w cl sl wl W0 rb va vb vc v0) {W1 : World} (h1 : Below W0.heap.size W0 W1) (h : RunIV W1 rb va vb vc xs vt W) (hx : xs = items log 0 log.length) :
    RunAt W w.heap.size ⟨va, vt, vb, vc⟩ ⟨cl, log, sl, wl⟩ ∧ Only (fun _ => False) w W := by
  have hk : ∀ k, k < W0.heap.size → k ≠ rb → W.heap[k]? = W0.heap[k]? := fun k hk hn => by
    rw [h.on.block k (by have := h1.size; omega) hn, h1.block k hk]
  have hrow : ∀ {e s n : Nat} {v : Value} {xs : List Value}, W0.RowV w.heap.size e s v n xs → v.rowBlock ≠ some rb → W.RowV w.heap.size e s v n xs := fun hv hn =>
    hv.of_block fun k hk' => hk k (hv.lt k hk').2 (fun e => hn (by rw [hk', e]))
  have hne : ∀ {e s n : Nat} {v : Value} {xs : List Value}, W0.RowV w.heap.size e s v n xs → ∀ k, v.rowBlock = some k → vt.rowBlock ≠ some k := fun hv k hk' e => by
    have := (hv.lt k hk').2; have := (h.rt.lt k e).1; have := h1.size; omega
  have hlen : xs.length = log.length := by rw [hx, items_len]; omega
  refine ⟨⟨hrow hs.wa hs.xa, ?_, hrow hs.wb hs.xb, hrow hs.wc hs.xc, hne hs.wa, hs.ab, hs.ac, fun k e1 e2 => hne hs.wb k e2 e1, fun k e1 e2 => hne hs.wc k e2 e1, hs.bc⟩, ?_⟩
  · have := h.rt
    rw [hlen] at this
    unfold ents at this
    rw [hx, items_all] at this
    exact this.base_mono (by have := hs.on.size; have := h1.size; omega)
  · exact (hs.on.trans (⟨h1.os, h1.tape, h1.output, h1.size, fun k hk _ => h1.block k hk⟩ : Only (fun _ => False) W0 W1) (fun _ x => False.elim x)).trans h.on (fun i hi => .inr (by subst hi; exact hs.ge))

theorem wpListIn_append_row {F : Fence} {nF : Nat} {P : Program} (w : World) {ops : Array Oper} {rest : List Oper} {o : Oper} {a : Act} {Q : Exit → Act → World → Prop} (hgd : o.guard = none) (s x : Operand) (t : TypeId)
    (ho : o.op = .call { callee := .builtin .append, args := #[s, x], argTypes := #[t, t] })
    (base : Nat) (e : TypeId) (i : TypeInfo) (z : Value) (size bytes : Nat) (ht : P.underlying t = some (.slice e)) (hi : P.info? e = some i) (hz : i.zero = some z)
    (hsize : i.size = size) (hby : i.bytes = bytes) (hzs : z.cells.size = size)
    (v : Value) (n : Nat) (xs : List Value) (hs : a.eval s = v) (hown : w.RowV base e size v n xs)
    (vx : Value) (m : Nat) (news : List Value) (hx : a.eval x = vx) (hsrc : w.Src size vx m news) (h1 : ∀ u ∈ news, u.oneCell' = true)
    (h63 : n + m ≤ maxLen) (hbytes : ((n + m) + (n + m) / 4 + 192) * bytes ≤ 281474976710656) (hbase : base ≤ w.heap.size)
    (h : ∀ v' w', w'.RowV base e size v' (n + m) (xs ++ news) → RowOut w w' v v' n m → wpListIn F nF P ops Q rest (a.put o.dst v') w') :
    wpListIn F nF P ops Q (o :: rest) a w := by
  refine wpListIn_plain hgd fun K hK => ?_
  obtain ⟨v', w', hr, h2, h3⟩ := run_append_src (P := P) w base t o.type e i z size bytes ht hi hz hsize hby hzs v n xs hown vx m news hsrc h1 h63 hbytes hbase
  unfold Oper.wpIn
  refine ⟨by simp [Oper.about, ho, resolve, Target.leads, Sem.run_pure], ?_⟩
  rw [Oper.semAt_plain F _ _ (by rw [ho]; intro c hc'; cases hc')]
  simp [execOp, ho, resolve, invoke, builtin, hs, hx, hr, Result.andThen]
  exact hK _ _ (h v' w' h2 h3)

end Go.Proofs.Ytbhbpfpggfcpgaa
namespace Go
open Go.RowKit

section
variable {P : Program} {ops : Array Oper} {md : Region.Mode} {C : World → Prop} {ns : List Nat}

theorem wpOp_leaveNot {Q : Exit → Act → World → Prop} {i : Nat} {oi : Oper} (hoi : ops[i]? = some oi) {K : Act → World → Prop} {a : Act} {w : World} (h1 : wpOp P ops NoExit i K a w) : wpOp P ops Q i K a w := by
  unfold wpOp at h1 ⊢
  simp only [hoi] at h1 ⊢
  by_cases hwt : Region.wanted oi (yielded ops a.tmps) = true
  · simp only [hwt, if_true, not_letsOut_noExit, and_false, or_false] at h1 ⊢
    refine .inl ?_
    unfold Oper.wp at *
    generalize (execOp a.eval oi).run P w = r at *
    cases r with
    | ok n w' =>
      cases n <;> simp only [Oper.upon] at h1 ⊢
      case enter f args =>
        refine Calls.mono h1 (fun e w'' he => ?_)
        cases e with
        | returned v => exact he
        | panicked c => exact False.elim he
        | outgrown => exact absurd he not_letsOut_noExit
      all_goals exact h1
    | halt x w' => cases x <;> simp only [Oper.upon] at h1; exact False.elim h1
  · simp only [hwt] at h1 ⊢
    exact h1

theorem mixStep_mono {i : Nat} {K K' : Act → World → Prop} {a : Act} {w : World} (hw : C w) (hk : ∀ a' w', C w' → K a' w' → K' a' w') (h : mixStep P ops C ns i K a w) : mixStep P ops C ns i K' a w := by
  by_cases hm : ns.contains i = true
  · exact (mixStep_move hm).2 (wpOp_mono (fun a' w' hh => ⟨hh.1, hk _ _ hh.1 hh.2⟩) ((mixStep_move hm).1 h))
  · obtain ⟨o, v, h1, h2, h3⟩ := (mixStep_read hm).1 h
    exact (mixStep_read hm).2 ⟨o, v, h1, h2, hk _ _ hw h3⟩

/-- the one that floats -/
def fStep (P : Program) (ops : Array Oper) (C : World → Prop) (f : Nat) (K : Act → World → Prop) (a : Act) (w : World) : Prop := wpOp P ops NoExit f (fun a' w' => C w' ∧ K a' w') a w

def wpFl (P : Program) (ops : Array Oper) (C : World → Prop) (ns : List Nat) (f : Nat) (K : Act → World → Prop) : List Nat → Act → World → Prop
  | [], a, w => fStep P ops C f K a w
  | i :: l, a, w => (ns.contains i = true → fStep P ops C f (wpMix P ops C ns K (i :: l)) a w) ∧ mixStep P ops C ns i (wpFl P ops C ns f K l) a w

def pairApart (ops : Array Oper) (j i : Nat) : Prop := ∃ oj oi, ops[j]? = some oj ∧ ops[i]? = some oi ∧ oj.apart ops oi = true ∧ oi.apart ops oj = true

theorem mixStep_ns {ns' : List Nat} {i : Nat} {K : Act → World → Prop} {a : Act} {w : World} (h : ns.contains i = ns'.contains i) : mixStep P ops C ns i K a w ↔ mixStep P ops C ns' i K a w := by
  unfold mixStep; rw [h]

/-- a read ahead of the one that floats: behind it as well -/
theorem read_float {f j : Nat} (hsel : ∀ (j : Nat) (o : Oper) cs b, ops[j]? = some o → o.op ≠ .select cs b) {K : Act → World → Prop} {a : Act} {w : World} (hw : C w) (hj : ¬ ns.contains j = true) (hne : j ≠ f) (hp : pairApart ops j f)
    (h : mixStep P ops C ns j (fStep P ops C f K) a w) : fStep P ops C f (mixStep P ops C ns j K) a w := by
  obtain ⟨oj, oi, e1, e2, e3, e4⟩ := hp
  have hjf : ¬ [f].contains j = true := by simpa using hne
  have hff : [f].contains f = true := by simp
  have hnj : ns.contains j = [f].contains j := by rw [Bool.eq_false_iff.2 hj, Bool.eq_false_iff.2 hjf]
  have h1 : wpMix P ops C [f] K ([j] ++ f :: []) a w := by
    simp only [List.cons_append, List.nil_append, wpMix]
    refine (mixStep_ns hnj).1 (mixStep_mono hw (fun a' w' _ hh => ?_) h)
    exact (mixStep_move hff).2 hh
  have h2 := wpMix_swap hsel [j] a w (fun k hk => by
    rw [List.mem_singleton.1 hk]
    exact ⟨oj, oi, e1, e2, e3, e4, fun hx => hjf hx.2⟩) hw h1
  have h3 := (mixStep_move hff).1 h2
  refine wpOp_mono (fun a' w' hh => ⟨hh.1, (mixStep_ns hnj).2 ?_⟩) h3
  simpa only [List.append_nil, wpMix] using hh.2

theorem float_read {f i : Nat} (hsel : ∀ (j : Nat) (o : Oper) cs b, ops[j]? = some o → o.op ≠ .select cs b) {K : Act → World → Prop} {a : Act} {w : World} (hw : C w) (hi : ¬ ns.contains i = true) (hne : i ≠ f) (hp : pairApart ops i f)
    (h : fStep P ops C f (mixStep P ops C ns i K) a w) : mixStep P ops C ns i (fStep P ops C f K) a w := by
  obtain ⟨oj, oi, e1, e2, e3, e4⟩ := hp
  have hif : ¬ [f].contains i = true := by simpa using hne
  have hff : [f].contains f = true := by simp
  have hni : ns.contains i = [f].contains i := by rw [Bool.eq_false_iff.2 hi, Bool.eq_false_iff.2 hif]
  have h1 : wpMix P ops C [f] K ([f] ++ i :: []) a w := by
    simp only [List.cons_append, List.nil_append, wpMix]
    exact (mixStep_move hff).2 (wpOp_mono (fun a' w' hh => ⟨hh.1, (mixStep_ns hni).1 hh.2⟩) h)
  have h2 := wpMix_swap hsel [f] a w (fun k hk => by
    rw [List.mem_singleton.1 hk]
    exact ⟨oi, oj, e2, e1, e4, e3, fun hx => hif hx.1⟩) hw h1
  refine (mixStep_ns hni).2 (mixStep_mono hw (fun a' w' _ hh => ?_) h2)
  simp only [List.append_nil, wpMix] at hh
  exact (mixStep_move hff).1 hh

theorem wpFl_float {f : Nat} (hsel : ∀ (j : Nat) (o : Oper) cs b, ops[j]? = some o → o.op ≠ .select cs b) {K : Act → World → Prop} :
    ∀ (l : List Nat) (a : Act) (w : World), (∀ j ∈ l, j ≠ f ∧ pairApart ops j f) → C w → wpFl P ops C ns f K l a w → fStep P ops C f (wpMix P ops C ns K l) a w := by
  intro l
  induction l with
  | nil => intro a w _ _ h; exact h
  | cons j l ih =>
    intro a w hp hw h
    by_cases hm : ns.contains j = true
    · exact h.1 hm
    · have hj := hp j (by simp)
      have := read_float hsel hw hm hj.1 hj.2 (mixStep_mono hw (fun a' w' hc hh => ih a' w' (fun k hk => hp k (by simp [hk])) hc hh) h.2)
      exact this

theorem wpFl_swap {f i : Nat} (hsel : ∀ (j : Nat) (o : Oper) cs b, ops[j]? = some o → o.op ≠ .select cs b) {K : Act → World → Prop} {l2 : List Nat} (hif : i ≠ f ∧ pairApart ops i f) :
    ∀ (l1 : List Nat) (a : Act) (w : World), (∀ j ∈ l1, pairOk ops ns j i) → C w → wpFl P ops C ns f K (l1 ++ i :: l2) a w → mixStep P ops C ns i (wpFl P ops C ns f K (l1 ++ l2)) a w := by
  intro l1
  induction l1 with
  | nil => intro a w _ _ h; exact h.2
  | cons j l1 ih =>
    intro a w hp hw h
    have ih := fun a w => ih a w (fun k hk => hp k (by simp [hk]))
    have hpj := hp j (by simp)
    simp only [List.cons_append] at h
    obtain ⟨g1, g2⟩ := h
    have s1 : wpMix P ops C ns (wpFl P ops C ns f K (l1 ++ l2)) ([j] ++ i :: []) a w := by
      simp only [List.cons_append, List.nil_append, wpMix]
      exact mixStep_mono hw (fun a' w' hc hh => ih a' w' hc hh) g2
    have s2 := wpMix_swap hsel [j] a w (fun k hk => by rw [List.mem_singleton.1 hk]; exact hpj) hw s1
    simp only [List.append_nil] at s2
    by_cases hm : ns.contains j = true
    · have hmi : ¬ ns.contains i = true := by
        obtain ⟨_, _, _, _, _, _, hno⟩ := hpj
        exact fun hx => hno ⟨hx, hm⟩
      have r1 : fStep P ops C f (mixStep P ops C ns i (wpMix P ops C ns K ((j :: l1) ++ l2))) a w :=
        wpOp_mono (fun a' w' hh => ⟨hh.1, wpMix_swap hsel (j :: l1) a' w' hp hh.1 hh.2⟩) (g1 hm)
      have r2 := float_read hsel hw hmi hif.1 hif.2 r1
      obtain ⟨o, v, ho, hy, hk⟩ := (mixStep_read hmi).1 s2
      obtain ⟨o', u, ho', hu, hk'⟩ := (mixStep_read hmi).1 r2
      rw [ho] at ho'
      cases ho'
      obtain rfl := ReadsIn.unique hw hy hu
      exact (mixStep_read hmi).2 ⟨o, v, ho, hy, fun _ => hk', hk⟩
    · exact mixStep_mono hw (fun a' w' _ hh => ⟨fun hx => absurd hx hm, hh⟩) s2

/-- the look at the one that floats (the last but one): apart from all ahead of it -/
def Region.floatB (ops : Array Oper) : Bool :=
  decide (2 ≤ ops.size) && (List.range (ops.size - 2)).all fun j => match ops[j]?, ops[ops.size - 2]? with | some oj, some oi => oj.apart ops oi && oi.apart ops oj | _, _ => false

theorem wpAny_of_float {Q : Exit → Act → World → Prop} {K : Act → World → Prop} (hB : Region.mixB md ops ns = true) (hL : Region.lastB md ops = true) (hF : Region.floatB ops = true)
    (hQ : ∀ a w, C w → K a w → wpOp P ops Q (ops.size - 1) (fun a' w' => Q .normal a' w') a w) :
    ∀ (l : List Nat) (listed : Array Bool) (a : Act) (w : World), l.Pairwise (· < ·) → (∀ i, i ∈ l ↔ i < ops.size - 2 ∧ listed.getD i true = false) → listed.getD (ops.size - 2) true = false → listed.getD (ops.size - 1) true = false → MixInv md ops listed → C w →
      wpFl P ops C ns (ops.size - 2) K l a w → wpAny P md ops Q (l.length + 2) listed a w := by
  have hB0 := hB
  have hL0 := hL
  simp only [Region.lastB, Bool.and_eq_true, decide_eq_true_eq, List.all_eq_true, List.mem_range] at hL
  obtain ⟨hpos, hL⟩ := hL
  simp only [Region.mixB, Bool.and_eq_true, List.all_eq_true, List.mem_range] at hB
  obtain ⟨hsel, hB⟩ := hB
  have hsel := Region.noSelect_spec hsel
  simp only [Region.floatB, Bool.and_eq_true, decide_eq_true_eq, List.all_eq_true, List.mem_range] at hF
  obtain ⟨htwo, hF⟩ := hF
  have hfl : ∀ j, j < ops.size - 2 → j ≠ ops.size - 2 ∧ pairApart ops j (ops.size - 2) := by
    intro j hj
    have := hF j hj
    refine ⟨by omega, ?_⟩
    obtain ⟨oj, hoj⟩ : ∃ o, ops[j]? = some o := ⟨ops[j], by simp [show j < ops.size by omega]⟩
    obtain ⟨oi, hoi⟩ : ∃ o, ops[ops.size - 2]? = some o := ⟨ops[ops.size - 2], by simp [show ops.size - 2 < ops.size by omega]⟩
    rw [hoj, hoi] at this
    simp only [Bool.and_eq_true] at this
    exact ⟨oj, oi, hoj, hoi, this.1, this.2⟩
  have main : ∀ (n : Nat) (l : List Nat), l.length = n → ∀ (listed : Array Bool) (a : Act) (w : World), l.Pairwise (· < ·) → (∀ i, i ∈ l ↔ i < ops.size - 2 ∧ listed.getD i true = false) → listed.getD (ops.size - 2) true = false → listed.getD (ops.size - 1) true = false → MixInv md ops listed → C w →
      wpFl P ops C ns (ops.size - 2) K l a w → wpAny P md ops Q (n + 2) listed a w := by
    intro n
    induction n with
    | zero =>
      intro l hl listed a w hs hm hfloat hlast inv hw h
      obtain rfl : l = [] := List.eq_nil_of_length_eq_zero hl
      have hall : ∀ j, j < ops.size - 2 → listed.getD j false = true := by
        intro j hj
        rcases hc : listed.getD j false with _ | _
        · have := (hm j).2 ⟨hj, getD_in (by rw [inv.size]; omega) hc⟩
          cases this
        · rfl
      obtain ⟨o, ho⟩ : ∃ o, ops[ops.size - 2]? = some o := ⟨ops[ops.size - 2], by simp [show ops.size - 2 < ops.size by omega]⟩
      have hr : ops.size - 2 ∈ Region.ready md ops listed := by
        refine mem_ready.2 ⟨hfloat, o, ho, fun e he hb => ?_⟩
        have h1 := (hB (ops.size - 2) (by omega)).2
        rw [ho] at h1
        have h2 := Array.all_eq_true'.1 h1 e he
        simp only [hb, Bool.not_true, Bool.false_or, decide_eq_true_eq] at h2
        exact hall _ h2
      refine ⟨fun he => (by rw [he] at hr; cases hr), fun i hi => ?_⟩
      have hi' : i = ops.size - 2 := by
        obtain ⟨hiun, oi, hoi, _⟩ := mem_ready.1 hi
        have := (Array.getElem?_eq_some_iff.1 hoi).1
        by_cases hlt : i < ops.size - 2
        · have := hall i hlt
          rw [getD_both hiun] at this
          cases this
        · by_cases hlt' : i = ops.size - 2
          · exact hlt'
          · exfalso
            obtain rfl : i = ops.size - 1 := by omega
            have := inv.reach_ready hi _ _ (hL (ops.size - 2) (by omega))
            rw [getD_both hfloat] at this
            cases this
      subst hi'
      refine wpOp_leaveNot ho (wpOp_mono (fun a' w' hh => ?_) (show fStep P ops C (ops.size - 2) K a w from h))
      refine wpAny_of_mix_last (ns := ns) (K := K) hB0 hL0 hQ [] _ a' w' List.Pairwise.nil (fun j => ?_) (by rw [getD_set_ne true (by omega)]; exact hlast) (inv.set hi) hh.1 hh.2
      constructor
      · intro hx; cases hx
      · rintro ⟨hx, hy⟩
        exfalso
        by_cases hj : ops.size - 2 = j
        · subst hj
          rw [Array.getD_eq_getD_getElem?, Array.getElem?_setIfInBounds_self_of_lt (by rw [inv.size]; omega)] at hy
          cases hy
        · rw [getD_set_ne true hj] at hy
          have := (hm j).2 ⟨by omega, hy⟩
          cases this
    | succ n ih =>
      intro l hl listed a w hs hm hfloat hlast inv hw h
      refine ⟨fun hr => ?_, fun i hi => ?_⟩
      · cases l with
        | nil => cases hl
        | cons i l =>
          exfalso
          have hi := (hm i).1 (by simp)
          have : i ∈ Region.ready md ops listed := by
            obtain ⟨o, ho⟩ : ∃ o, ops[i]? = some o := ⟨ops[i]'(by omega), Array.getElem?_eq_getElem (by omega)⟩
            refine mem_ready.2 ⟨hi.2, o, ho, fun e he hb => ?_⟩
            have h1 := (hB i (by omega)).2
            rw [ho] at h1
            have h2 := Array.all_eq_true'.1 h1 e he
            simp only [hb, Bool.not_true, Bool.false_or, decide_eq_true_eq] at h2
            rcases hc : listed.getD e.on false with _ | _
            · exfalso
              have h3 := (hm e.on).2 ⟨by omega, getD_in (by rw [inv.size]; omega) hc⟩
              have h4 := List.pairwise_cons.1 hs
              rcases List.mem_cons.1 h3 with h5 | h5
              · omega
              · have := h4.1 _ h5
                omega
            · rfl
          rw [hr] at this
          cases this
      · obtain ⟨hiun, oi, hoi, _⟩ := mem_ready.1 hi
        have hil : i < ops.size := (Array.getElem?_eq_some_iff.1 hoi).1
        have hne1 : i ≠ ops.size - 1 := by
          rintro rfl
          have := inv.reach_ready hi _ _ (hL (ops.size - 2) (by omega))
          rw [getD_both hfloat] at this
          cases this
        by_cases hif : i = ops.size - 2
        · subst hif
          refine wpOp_leaveNot hoi (wpOp_mono (fun a' w' hh => ?_) (wpFl_float hsel l a w (fun j hj => hfl j ((hm j).1 hj).1) hw h))
          have := wpAny_of_mix_last (ns := ns) (K := K) hB0 hL0 hQ l (listed.setIfInBounds (ops.size - 2) true) a' w' hs (fun j => by
            constructor
            · intro hx
              obtain ⟨e1, e2⟩ := (hm j).1 hx
              exact ⟨by omega, by rw [getD_set_ne true (by omega)]; exact e2⟩
            · rintro ⟨hx, hy⟩
              by_cases hj : ops.size - 2 = j
              · subst hj
                rw [Array.getD_eq_getD_getElem?, Array.getElem?_setIfInBounds_self_of_lt (by rw [inv.size]; omega)] at hy
                cases hy
              · rw [getD_set_ne true hj] at hy
                exact (hm j).2 ⟨by omega, hy⟩) (by rw [getD_set_ne true (by omega)]; exact hlast) (inv.set hi) hh.1 hh.2
          rw [hl] at this
          exact this
        have hil' : i < ops.size - 2 := by omega
        obtain ⟨l1, l2, rfl⟩ := List.append_of_mem ((hm i).2 ⟨hil', hiun⟩)
        obtain ⟨p1, p2, p3⟩ := List.pairwise_append.1 hs
        have hpair : ∀ j ∈ l1, pairOk ops ns j i := by
          intro j hj
          have hji : j < i := p3 j hj i (by simp)
          have hjun := ((hm j).1 (by simp [hj])).2
          rcases Bool.or_eq_true _ _ ▸ (hB i hil).1 j hji with h1 | h1
          · have := inv.reach_ready hi _ _ h1
            rw [getD_both hjun] at this
            cases this
          · obtain ⟨oj, hoj⟩ : ∃ o, ops[j]? = some o := ⟨ops[j], by simp [Nat.lt_trans hji hil]⟩
            rw [hoj, hoi] at h1
            simp only [Bool.and_eq_true, Bool.not_eq_true', Bool.and_eq_false_iff] at h1
            refine ⟨oj, oi, hoj, hoi, h1.1.1, h1.1.2, fun hx => ?_⟩
            rcases h1.2 with h2 | h2
            · rw [hx.1] at h2; cases h2
            · rw [hx.2] at h2; cases h2
        have hst := wpFl_swap hsel (hfl i hil') l1 a w hpair hw h
        have hrest : ∀ a' w', C w' → wpFl P ops C ns (ops.size - 2) K (l1 ++ l2) a' w' → wpAny P md ops Q (n + 2) (listed.setIfInBounds i true) a' w' := by
          intro a' w' hc hk
          refine ih (l1 ++ l2) (by simp at hl ⊢; omega) _ a' w' ?_ (fun j => ?_) (by rw [getD_set_ne true (by omega)]; exact hfloat) (by rw [getD_set_ne true (by omega)]; exact hlast) (inv.set hi) hc hk
          · exact List.pairwise_append.2 ⟨p1, (List.pairwise_cons.1 p2).2, fun x hx y hy => p3 x hx y (by simp [hy])⟩
          · have hm' := hm j
            by_cases hji : i = j
            · subst hji
              constructor
              · intro hx
                rcases List.mem_append.1 hx with hx | hx
                · have := p3 i hx i (by simp); omega
                · have := (List.pairwise_cons.1 p2).1 i hx; omega
              · rintro ⟨_, hx⟩
                rw [Array.getD_eq_getD_getElem?, Array.getElem?_setIfInBounds_self_of_lt (by rw [inv.size]; exact hil)] at hx
                cases hx
            · rw [getD_set_ne true hji]
              constructor
              · intro hx
                refine hm'.1 ?_
                rcases List.mem_append.1 hx with hx | hx
                · simp [hx]
                · simp [hx]
              · intro hx
                rcases List.mem_append.1 (hm'.2 hx) with hx | hx
                · simp [hx]
                · rcases List.mem_cons.1 hx with hx | hx
                  · exact absurd hx.symm hji
                  · simp [hx]
        by_cases hmi : ns.contains i = true
        · exact wpOp_leaveNot hoi (wpOp_mono (fun a' w' hh => hrest a' w' hh.1 hh.2) ((mixStep_move hmi).1 hst))
        · obtain ⟨o, v, ho, hy, hk⟩ := (mixStep_read hmi).1 hst
          rw [hoi] at ho
          cases ho
          have hk := hrest _ w hw hk
          unfold wpOp
          simp only [hoi]
          rcases hy with ⟨h1, h2⟩ | ⟨h1, rfl⟩
          · simp only [h1, if_true]
            refine .inl ?_
            unfold Oper.wp
            rcases h2 w hw with h3 | ⟨h3, e3⟩
            · rw [h3]; exact hk
            · rw [h3]; subst e3; exact hk
          · simp only [h1, Bool.false_eq_true, if_false]
            exact hk
  intro l listed a w
  exact main l.length l rfl listed a w

/-! ### the walk -/

theorem wpQuiet_mono' : ∀ (l : List Oper) (a : Act) {Q Q' : Act → Prop}, (∀ a, Q a → Q' a) → wpQuiet P ops C Q l a → wpQuiet P ops C Q' l a := by
  intro l
  induction l with
  | nil => intro a Q Q' hq h; exact hq _ h
  | cons x l ih' =>
    intro a Q Q' hq h
    simp only [wpQuiet] at h ⊢
    split
    · rename_i hw
      rw [if_pos hw] at h
      exact Oper.quiet_mono (fun a' ha => ih' a' hq ha) h
    · rename_i hw
      rw [if_neg hw] at h
      exact ih' _ hq h

theorem strict_mono {K K' : Act → World → Prop} {o : Oper} {a : Act} {w : World} (hk : ∀ a w, K a w → K' a w) (ha : wpList P ops (Strict K) [o] a w) : wpList P ops (Strict K') [o] a w := by
  simp only [wpList, not_letsOut_strict, and_false, or_false] at ha ⊢
  split
  · rename_i hw
    rw [if_pos hw] at ha
    unfold Oper.wp at *
    generalize (execOp a.eval o).run P w = r at *
    cases r with
    | ok n w' =>
      cases n <;> simp only [Oper.upon, Strict] at ha ⊢
      case enter f args =>
        refine Calls.mono ha (fun e w'' he => ?_)
        cases e with
        | returned v => exact hk _ _ he
        | panicked c => exact False.elim he
        | outgrown => exact absurd he (not_letsOut_strict _)
      case row row args => exact Rows.mono ha (fun v w'' he => hk _ _ he)
      all_goals first | exact hk _ _ ha | exact ha
    | halt x w' => cases x <;> simp only [Oper.upon, Strict] at ha
  · rename_i hw
    rw [if_neg hw] at ha
    exact hk _ _ ha

theorem wpOp_of_strict {i : Nat} {o : Oper} (h0 : ops[i]? = some o) {K : Act → World → Prop} {a : Act} {w : World} (h : wpList P ops (Strict K) [o] a w) : wpOp P ops NoExit i K a w := by
  simp only [wpList, not_letsOut_strict, and_false, or_false] at h
  unfold wpOp
  simp only [h0]
  by_cases hw : Region.wanted o (yielded ops a.tmps) = true
  · simp only [hw, if_true] at h ⊢
    refine .inl ?_
    unfold Oper.wp at *
    generalize (execOp a.eval o).run P w = r at *
    cases r with
    | ok n w' =>
      cases n <;> simp only [Oper.upon] at h ⊢
      case enter f args =>
        refine Calls.mono h (fun e w'' he => ?_)
        cases e with
        | returned v => exact he
        | panicked c => exact False.elim he
        | outgrown => exact absurd he (not_letsOut_strict _)
      all_goals exact h
    | halt x w' => cases x <;> simp only [Oper.upon] at h; exact False.elim h
  · simp only [hw] at h ⊢
    exact h

/-- the steps in their order; ahead of each, and behind the last one, the one that floats -/
def wpFloat (P : Program) (ops : Array Oper) (C : World → Prop) (K : Act → World → Prop) (f : Oper) (last : List Oper) : List (List Oper × Oper) → Act → World → Prop
  | [], a, w => wpQuiet P ops C (fun a' => wpList P ops (Strict fun a'' w'' => C w'' ∧ K a'' w'') [f] a' w) last a
  | (l, o) :: ss, a, w => wpQuiet P ops C (fun a' => wpList P ops (Strict fun a'' w'' => C w'' ∧ wpSteps P ops C K last (([], o) :: ss) a'' w'') [f] a' w ∧
      wpList P ops (Strict fun a'' w'' => C w'' ∧ wpFloat P ops C K f last ss a'' w'') [o] a' w) l a

theorem wpFl_reads (hsel : ∀ (j : Nat) (o : Oper) cs b, ops[j]? = some o → o.op ≠ .select cs b) {f : Nat} {K : Act → World → Prop} {w : World} {rest : List Nat} :
    ∀ (l : List Oper) (k : Nat) (a : Act), (∀ j, j < l.length → l[j]? = ops[k + j]?) → (∀ o ∈ l, o.callsNot = true) → (∀ j, j < l.length → ns.contains (k + j) = false) →
      wpQuiet P ops C (fun a' => wpFl P ops C ns f K rest a' w) l a → wpFl P ops C ns f K (List.range' k l.length ++ rest) a w := by
  intro l
  induction l with
  | nil => intro k a _ _ _ h; exact h
  | cons o l ih =>
    intro k a hl hcn hns h
    have h0 : ops[k]? = some o := by simpa using (hl 0 (by simp)).symm
    have hk : ¬ ns.contains k = true := by rw [show ns.contains k = false by simpa using hns 0 (by simp)]; exact Bool.false_ne_true
    obtain ⟨v, hy, hK⟩ := readsIn_of_quiet (hcn o (by simp)) (fun cs b => hsel k o cs b h0) h
    simp only [List.length_cons, List.range'_succ, List.cons_append, wpFl]
    refine ⟨fun hx => absurd hx hk, (mixStep_read hk).2 ⟨o, v, h0, hy, ih (k + 1) _ (fun j hj => ?_) (fun o ho => hcn o (by simp [ho])) (fun j hj => ?_) hK⟩⟩
    · have := hl (j + 1) (by simp; omega)
      simpa [Nat.add_assoc, Nat.add_comm 1 j] using this
    · have := hns (j + 1) (by simp; omega)
      rw [show k + 1 + j = k + (j + 1) by omega]; exact this

theorem wpFl_of_float (hsel : ∀ (j : Nat) (o : Oper) cs b, ops[j]? = some o → o.op ≠ .select cs b) {K : Act → World → Prop} {f : Nat} {fo : Oper} (hf : ops[f]? = some fo) {last : List Oper} :
    ∀ (ss : List (List Oper × Oper)) (k : Nat) (a : Act) (w : World), (∀ j, j < (flatSteps ss last).length → (flatSteps ss last)[j]? = ops[k + j]?) →
      (∀ i, k ≤ i → (ns.contains i = true ↔ i ∈ stepsAt k ss)) → (∀ s ∈ ss, ∀ o ∈ s.1, o.callsNot = true) → (∀ o ∈ last, o.callsNot = true) →
      wpFloat P ops C K fo last ss a w → wpFl P ops C ns f K (List.range' k (flatSteps ss last).length) a w := by
  intro ss
  induction ss with
  | nil =>
    intro k a w hl hns _ hcl h
    have := wpFl_reads (K := K) (ns := ns) (f := f) (rest := []) hsel last k a hl hcl (fun j _ => by
      rcases hc : ns.contains (k + j) with _ | _
      · rfl
      · have := (hns (k + j) (by omega)).1 hc
        cases this) (wpQuiet_mono' _ _ (fun a' ha => (show fStep P ops C f K a' w from wpOp_of_strict hf ha)) h)
    rw [List.append_nil] at this
    exact this
  | cons s ss ih =>
    intro k a w hl hns hcs hcl h
    obtain ⟨l, o⟩ := s
    have hlen : (flatSteps ((l, o) :: ss) last).length = l.length + (1 + (flatSteps ss last).length) := by simp [flatSteps]; omega
    have hl1 : ∀ j, j < l.length → l[j]? = ops[k + j]? := fun j hj => by
      rw [← hl j (by omega)]; simp only [flatSteps]; rw [List.getElem?_append_left hj]
    have ho : ops[k + l.length]? = some o := by
      rw [← hl l.length (by omega)]; simp [flatSteps]
    have hl2 : ∀ j, j < (flatSteps ss last).length → (flatSteps ss last)[j]? = ops[k + l.length + 1 + j]? := fun j hj => by
      have := hl (l.length + 1 + j) (by omega)
      rw [show k + l.length + 1 + j = k + (l.length + 1 + j) by omega, ← this]
      simp only [flatSteps]
      rw [List.getElem?_append_right (by omega), show l.length + 1 + j - l.length = j + 1 by omega, List.getElem?_cons_succ]
    rw [hlen, ← List.range'_append_1, show 1 + (flatSteps ss last).length = (flatSteps ss last).length + 1 by omega]
    have hin : ns.contains (k + l.length) = true := (hns _ (by omega)).2 (by simp [stepsAt])
    have hns2 : ∀ i, k + l.length + 1 ≤ i → (ns.contains i = true ↔ i ∈ stepsAt (k + l.length + 1) ss) := fun i hi => by
      rw [hns i (by omega)]
      constructor
      · intro h1
        rcases List.mem_cons.1 h1 with h1 | h1
        · omega
        · exact h1
      · intro h1; exact List.mem_cons_of_mem _ h1
    refine wpFl_reads hsel l k a hl1 (hcs (l, o) (by simp)) (fun j hj => ?_) ?_
    · rcases hc : ns.contains (k + j) with _ | _
      · rfl
      · rcases List.mem_cons.1 ((hns (k + j) (by omega)).1 hc) with h1 | h1
        · omega
        · have := stepsAt_ge _ _ _ h1; omega
    · refine wpQuiet_mono' l a (fun a' ha => ?_) h
      obtain ⟨q1, q2⟩ := ha
      rw [List.range'_succ]
      refine ⟨fun _ => ?_, (mixStep_move hin).2 (wpOp_of_strict ho (strict_mono (fun a'' w'' hh => ⟨hh.1, ih (k + l.length + 1) a'' w'' hl2 hns2 (fun s hs => hcs s (by simp [hs])) hcl hh.2⟩) q2))⟩
      refine wpOp_of_strict hf (strict_mono (fun a'' w'' hh => ⟨hh.1, ?_⟩) q1)
      have := wpMix_of_steps (ns := ns) (K := K) hsel (([], o) :: ss) (k + l.length) a'' w'' (fun j hj => by
        simp only [flatSteps, List.nil_append] at hj ⊢
        cases j with
        | zero => simpa using ho.symm
        | succ j =>
          rw [List.getElem?_cons_succ, hl2 j (by simpa using hj)]
          congr 1; omega) (fun i hi => by
        rw [show stepsAt (k + l.length) (([], o) :: ss) = (k + l.length) :: stepsAt (k + l.length + 1) ss by simp [stepsAt]]
        rw [hns i (by omega)]
        simp [stepsAt]) (fun s hs => by
        rcases List.mem_cons.1 hs with rfl | hs
        · intro o ho; cases ho
        · exact hcs s (by simp [hs])) hcl hh.2
      rw [show (flatSteps (([], o) :: ss) last).length = (flatSteps ss last).length + 1 by simp [flatSteps], List.range'_succ] at this
      exact this

theorem wp_region_float {id : Nat} {Q : Exit → Act → World → Prop} {a : Act} {w : World} {l : List Oper} (C : World → Prop) (gs : List Nat) (n : Nat) (fo : Oper) (hfo : l[n]? = some fo) (hm : P.follows .mixedOrders = true)
    (hB : (Region.mixB .any l.toArray (stepsAt 0 (cutSteps gs (l.take n)).1) && stepsB (cutSteps gs (l.take n)).1 (cutSteps gs (l.take n)).2 && Region.lastB .any l.toArray && Region.floatB l.toArray && decide (l.length = n + 2)) = true)
    (hc : C w.drew) (h : wpFloat P l.toArray C (fun a' w' => wpList P l.toArray Q (l.drop (n + 1)) a' w') fo (cutSteps gs (l.take n)).2 (cutSteps gs (l.take n)).1 a w.drew) : (Code.region id l.toArray true).wp P Q a w := by
  simp only [Bool.and_eq_true, decide_eq_true_eq] at hB
  obtain ⟨⟨⟨⟨hB, hS⟩, hLast⟩, hFl⟩, hL⟩ := hB
  have hflat : ∀ (gs : List Nat) (l : List Oper), flatSteps (cutSteps gs l).1 (cutSteps gs l).2 = l := by
    intro gs
    induction gs with
    | nil => intro l; rfl
    | cons g gs ih =>
      intro l
      simp only [cutSteps]
      cases hd : l.drop g with
      | nil => rfl
      | cons o rest =>
        simp only [flatSteps, ih rest]
        rw [← hd]
        exact List.take_append_drop g l
  have hsel := hB
  simp only [Region.mixB, Bool.and_eq_true] at hsel
  have hsel := Region.noSelect_spec hsel.1
  simp only [stepsB, Bool.and_eq_true, List.all_eq_true] at hS
  refine wp_region_any hm ?_
  have hlen : (l.take n).length = n := by simp; omega
  have hsz2 : l.toArray.size - 2 = n := by simp; omega
  have hsz : l.toArray.size - 1 = n + 1 := by simp; omega
  have h1 := wpFl_of_float (ns := stepsAt 0 (cutSteps gs (l.take n)).1) (f := n) (fo := fo) hsel (by simpa using hfo) (cutSteps gs (l.take n)).1 0 a w.drew (fun j hj => by
    rw [hflat gs (l.take n)] at hj ⊢
    rw [hlen] at hj
    simp [hj]) (fun i _ => by simp) (fun s hs o ho => hS.1 s hs o ho) hS.2 h
  rw [hflat, hlen] at h1
  obtain ⟨o, ho⟩ : ∃ o, l.drop (n + 1) = [o] := by
    have : (l.drop (n + 1)).length = 1 := by simp; omega
    exact List.length_eq_one_iff.1 this
  have hon : l.toArray[n + 1]? = some o := by
    have : l[n + 1]? = (l.drop (n + 1))[0]? := by simp
    rw [List.getElem?_toArray, this, ho]; rfl
  have h2 := wpAny_of_float (md := .any) (Q := Q) (K := fun a' w' => wpList P l.toArray Q (l.drop (n + 1)) a' w') hB hLast hFl (fun a w _ hk => by
      rw [hsz]
      rw [ho] at hk
      exact wpOp_of_list_one hon hk) (List.range' 0 n) (Array.replicate l.toArray.size false) a w.drew List.pairwise_lt_range' (fun i => by
      rw [hsz2]
      simp only [List.mem_range']
      constructor
      · rintro ⟨j, hj, rfl⟩
        refine ⟨by omega, getD_in (by simp; omega) (getD_replicate_false _ _)⟩
      · rintro ⟨hi, _⟩
        exact ⟨i, hi, by omega⟩) (by rw [hsz2]; exact getD_in (by simp; omega) (getD_replicate_false _ _)) (by rw [hsz]; exact getD_in (by simp; omega) (getD_replicate_false _ _)) ⟨by simp, fun j oj _ hl => (by rw [getD_replicate_false] at hl; cases hl)⟩ hc (by rw [hsz2]; exact h1)
  rw [List.length_range', show n + 2 = l.toArray.size by simp; omega] at h2
  exact h2
end
end Go
