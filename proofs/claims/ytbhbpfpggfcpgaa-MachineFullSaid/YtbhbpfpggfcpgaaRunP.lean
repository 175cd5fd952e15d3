/-
machine.Machine: Run: what is made on the way (RunAcc), and what holds while the log is ranged over (RunI). Plain.
-/
import Derived.Test.YtbhbpfpggfcpgaaRunC
namespace Go.Proofs.Ytbhbpfpggfcpgaa
open Go.ChangeShapes Go.WideShapes Go.ChangeAt Go.RowKit Go.Shelf

def apart (a b : Option Value) : Prop := ∀ u v k, a = some u → b = some v → u.rowBlock = some k → v.rowBlock ≠ some k
/-- the clones made so far, and the run's own block -/
structure RunAcc (w : World) (cl : List Cal) (sl : List Shf) (wl : List Int) (W : World) (a b c : Option Value) (d : Option Nat) : Prop where
  on : Only (fun _ => False) w W
  ra : ∀ v, a = some v → W.RowV w.heap.size 63 9 v cl.length (cals cl)
  rb : ∀ v, b = some v → W.RowV w.heap.size 132 5 v sl.length (shfs sl)
  rc : ∀ v, c = some v → W.RowV w.heap.size 27 1 v wl.length (u64s wl)
  ab : apart a b
  ac : apart a c
  bc : apart b c
  bx : ∀ k, d = some k → W.heap[k]? = some (.cells #[.slice none 0 0, .slice none 0 0, .slice none 0 0, .slice none 0 0] 41) ∧ w.heap.size ≤ k ∧ (∀ v, a = some v → v.rowBlock ≠ some k) ∧ (∀ v, b = some v → v.rowBlock ≠ some k) ∧ (∀ v, c = some v → v.rowBlock ≠ some k)

section
variable {w W W' : World} {cl : List Cal} {sl : List Shf} {wl : List Int} {a b c : Option Value} {d : Option Nat}
theorem RunAcc.of (ho : Only (fun _ => False) w W) : RunAcc w cl sl wl W none none none none :=
  ⟨ho, fun _ h => (by cases h), fun _ h => (by cases h), fun _ h => (by cases h), fun _ _ _ h => (by cases h), fun _ _ _ h => (by cases h), fun _ _ _ h => (by cases h), fun _ h => (by cases h)⟩
theorem RunAcc.keep (h : RunAcc w cl sl wl W a b c d) (ho : Only (fun _ => False) W W') : RunAcc w cl sl wl W' a b c d := by
  have hk : ∀ k, k < W.heap.size → W'.heap[k]? = W.heap[k]? := fun k hl => ho.block k hl (fun x => x)
  refine ⟨h.on.trans ho (fun _ x => x.elim), fun v hv => (h.ra v hv).of_block fun k e => hk k ((h.ra v hv).lt k e).2, fun v hv => (h.rb v hv).of_block fun k e => hk k ((h.rb v hv).lt k e).2, fun v hv => (h.rc v hv).of_block fun k e => hk k ((h.rc v hv).lt k e).2, h.ab, h.ac, h.bc, fun k hd => ?_⟩
  obtain ⟨h1, h2⟩ := h.bx k hd
  exact ⟨by rw [hk k (Array.getElem?_eq_some_iff.1 h1).1]; exact h1, h2⟩
theorem RunAcc.drew (h : RunAcc w cl sl wl W a b c d) : RunAcc w cl sl wl W.drew a b c d := h.keep ((Only.refl _ _).drew)
theorem RunAcc.allocRun (h : RunAcc w cl sl wl W a b c none) : RunAcc w cl sl wl (W.alloc (.cells #[.slice none 0 0, .slice none 0 0, .slice none 0 0, .slice none 0 0] 41)) a b c (some W.heap.size) := by
  obtain ⟨h1, h2, h3, h4, h5, h6, h7, _⟩ := h.keep ((Only.refl _ W).alloc (.cells #[.slice none 0 0, .slice none 0 0, .slice none 0 0, .slice none 0 0] 41))
  refine ⟨h1, h2, h3, h4, h5, h6, h7, fun k hk => ?_⟩
  cases hk
  exact ⟨heap_alloc_new W _, h.on.size, fun v hv e => by have := ((h.ra v hv).lt _ e).2; omega, fun v hv e => by have := ((h.rb v hv).lt _ e).2; omega, fun v hv e => by have := ((h.rc v hv).lt _ e).2; omega⟩
theorem RunAcc.setA (h : RunAcc w cl sl wl W none b c d) {v : Value} (hr : W'.RowV W.heap.size 63 9 v cl.length (cals cl)) (ho : Only (fun _ => False) W W') : RunAcc w cl sl wl W' (some v) b c d := by
  obtain ⟨h1, h2, h3, h4, h5, h6, h7, h8⟩ := h.keep ho
  refine ⟨h1, fun u hu => by cases hu; exact hr.base_mono h.on.size, h3, h4, fun u u' k hu hu' e e' => ?_, fun u u' k hu hu' e e' => ?_, h7, fun k hk => ⟨(h8 k hk).1, (h8 k hk).2.1, fun u hu e => ?_, (h8 k hk).2.2.2.1, (h8 k hk).2.2.2.2⟩⟩
  · cases hu; have := (hr.lt k e).1; have := ((h.rb u' hu').lt k e').2; omega
  · cases hu; have := (hr.lt k e).1; have := ((h.rc u' hu').lt k e').2; omega
  · cases hu; have := (hr.lt k e).1; have := (Array.getElem?_eq_some_iff.1 (h.bx k hk).1).1; omega
theorem RunAcc.setB (h : RunAcc w cl sl wl W a none c d) {v : Value} (hr : W'.RowV W.heap.size 132 5 v sl.length (shfs sl)) (ho : Only (fun _ => False) W W') : RunAcc w cl sl wl W' a (some v) c d := by
  obtain ⟨h1, h2, h3, h4, h5, h6, h7, h8⟩ := h.keep ho
  refine ⟨h1, h2, fun u hu => by cases hu; exact hr.base_mono h.on.size, h4, fun u u' k hu hu' e e' => ?_, h6, fun u u' k hu hu' e e' => ?_, fun k hk => ⟨(h8 k hk).1, (h8 k hk).2.1, (h8 k hk).2.2.1, fun u hu e => ?_, (h8 k hk).2.2.2.2⟩⟩
  · cases hu'; have := (hr.lt k e').1; have := ((h.ra u hu).lt k e).2; omega
  · cases hu; have := (hr.lt k e).1; have := ((h.rc u' hu').lt k e').2; omega
  · cases hu; have := (hr.lt k e).1; have := (Array.getElem?_eq_some_iff.1 (h.bx k hk).1).1; omega
theorem RunAcc.setC (h : RunAcc w cl sl wl W a b none d) {v : Value} (hr : W'.RowV W.heap.size 27 1 v wl.length (u64s wl)) (ho : Only (fun _ => False) W W') : RunAcc w cl sl wl W' a b (some v) d := by
  obtain ⟨h1, h2, h3, h4, h5, h6, h7, h8⟩ := h.keep ho
  refine ⟨h1, h2, h3, fun u hu => by cases hu; exact hr.base_mono h.on.size, h5, fun u u' k hu hu' e e' => ?_, fun u u' k hu hu' e e' => ?_, fun k hk => ⟨(h8 k hk).1, (h8 k hk).2.1, (h8 k hk).2.2.1, (h8 k hk).2.2.2.1, fun u hu e => ?_⟩⟩
  · cases hu'; have := (hr.lt k e').1; have := ((h.ra u hu).lt k e).2; omega
  · cases hu'; have := (hr.lt k e').1; have := ((h.rb u hu).lt k e).2; omega
  · cases hu; have := (hr.lt k e).1; have := (Array.getElem?_eq_some_iff.1 (h.bx k hk).1).1; omega
end

/-- the run's block with its clones, ahead of the loop -/
structure RunSet (w : World) (cl : List Cal) (sl : List Shf) (wl : List Int) (W : World) (rb : Nat) (va vb vc vt : Value) : Prop where
  on : Only (fun _ => False) w W
  bx : W.heap[rb]? = some (.cells #[va, vt, vb, vc] 41)
  ge : w.heap.size ≤ rb
  wa : W.RowV w.heap.size 63 9 va cl.length (cals cl)
  wb : W.RowV w.heap.size 132 5 vb sl.length (shfs sl)
  wc : W.RowV w.heap.size 27 1 vc wl.length (u64s wl)
  xa : va.rowBlock ≠ some rb
  xb : vb.rowBlock ≠ some rb
  xc : vc.rowBlock ≠ some rb
  ab : ∀ k, va.rowBlock = some k → vb.rowBlock ≠ some k
  ac : ∀ k, va.rowBlock = some k → vc.rowBlock ≠ some k
  bc : ∀ k, vb.rowBlock = some k → vc.rowBlock ≠ some k

section
variable {w W : World} {cl : List Cal} {sl : List Shf} {wl : List Int} {va vb vc : Value}
theorem RunAcc.last (h : RunAcc w cl sl wl W (some va) (some vb) (some vc) none) : RunSet w cl sl wl (W.alloc (.cells #[va, .slice none 0 0, vb, vc] 41)) W.heap.size va vb vc (.slice none 0 0) :=
  ⟨h.on.alloc _, heap_alloc_new W _, h.on.size, (h.ra _ rfl).alloc _, (h.rb _ rfl).alloc _, (h.rc _ rfl).alloc _, fun e => by have := ((h.ra _ rfl).lt _ e).2; omega, fun e => by have := ((h.rb _ rfl).lt _ e).2; omega, fun e => by have := ((h.rc _ rfl).lt _ e).2; omega,
    fun k e => h.ab _ _ k rfl rfl e, fun k e => h.ac _ _ k rfl rfl e, fun k e => h.bc _ _ k rfl rfl e⟩
theorem RunAcc.store {k : Nat} (h : RunAcc w cl sl wl W (some va) (some vb) (some vc) (some k)) :
    RunSet w cl sl wl ((((W.setCell ⟨k, 0, none⟩ va).setCell ⟨k, 1, none⟩ (.slice none 0 0)).setCell ⟨k, 2, none⟩ vb).setCell ⟨k, 3, none⟩ vc) k va vb vc (.slice none 0 0) := by
  obtain ⟨h1, h2, h3, h4, h5⟩ := h.bx k rfl
  have hr : ∀ {e s n : Nat} {u : Value} {xs : List Value}, W.RowV w.heap.size e s u n xs → u.rowBlock ≠ some k → ((((W.setCell ⟨k, 0, none⟩ va).setCell ⟨k, 1, none⟩ (.slice none 0 0)).setCell ⟨k, 2, none⟩ vb).setCell ⟨k, 3, none⟩ vc).RowV w.heap.size e s u n xs := by
    intro e s n u xs hu hn
    have hne : ∀ j, u.rowBlock = some j → j ≠ k := fun j hj e => hn (by rw [hj, e])
    exact (((hu.set hne _).set hne _).set hne _).set hne _
  refine ⟨(((h.on.set (.inr h2) _).set (.inr h2) _).set (.inr h2) _).set (.inr h2) _, ?_, h2, hr (h.ra _ rfl) (h3 _ rfl), hr (h.rb _ rfl) (h4 _ rfl), hr (h.rc _ rfl) (h5 _ rfl), h3 _ rfl, h4 _ rfl, h5 _ rfl, fun j e => h.ab _ _ j rfl rfl e, fun j e => h.ac _ _ j rfl rfl e, fun j e => h.bc _ _ j rfl rfl e⟩
  simp [World.setCell, Array.getElem?_modify, h1]
theorem RunAcc.facts {k : Nat} {a b c : Option Value} {d : Option Nat} (h : RunAcc w cl sl wl W a b c d) (hd : d = some k) : W.cell? ⟨k, 0, none⟩ = some (.slice none 0 0) ∧ W.cell? ⟨k, 1, none⟩ = some (.slice none 0 0) ∧ W.cell? ⟨k, 2, none⟩ = some (.slice none 0 0) ∧ W.cell? ⟨k, 3, none⟩ = some (.slice none 0 0) ∧ (∀ j, W.frozen? ⟨k, j, none⟩ = false) ∧ k < W.heap.size := by
  have h1 := (h.bx k hd).1
  exact ⟨by simp [World.cell?, h1], by simp [World.cell?, h1], by simp [World.cell?, h1], by simp [World.cell?, h1], fun j => by simp [World.frozen?, h1], (Array.getElem?_eq_some_iff.1 h1).1⟩
end
end Go.Proofs.Ytbhbpfpggfcpgaa
