/-
The machine in a step, and its kit's tasks: what stays from method to method (InStep).
-/
import Derived.Test.YtbhbpfpggfcpgaaSys
import Derived.Test.YtbhbpfpggfcpgaaMchS
namespace Go.Proofs.Ytbhbpfpggfcpgaa
open Go.ChangeShapes Go.WideShapes Go.ChangeAt Go.RowKit

/-- in a step: behind w0, with the desk at db -/
def InStep (K : Kits) (w0 : World) (base xb : Nat) (v0 : MachV) (vs : List Value) (F0 : Nat → Prop) (db ci si : Nat) (st : MachS) (s : K.S) (ts : List (Option K.T)) (w : World) : Prop :=
  ∃ v F, MK K w base xb st v vs s ts F ∧ Only (fun k => v0.own xb k ∨ F0 k) w0 w ∧ (∀ k, v.own xb k → v0.own xb k ∨ w0.heap.size ≤ k) ∧ (∀ k, F k → F0 k ∨ w0.heap.size ≤ k) ∧
    v.vse = v0.vse ∧ v.vca = v0.vca ∧ v.mb = v0.mb ∧ v.kit = v0.kit ∧ DeskBox w xb db ∧ ¬ v.own xb db ∧ ¬ F db ∧ w0.heap.size ≤ db ∧ st.On ci si

section
variable {K : Kits} {w0 w w1 : World} {base xb : Nat} {v0 : MachV} {vs : List Value} {F0 : Nat → Prop} {db ci si : Nat} {st : MachS} {s : K.S} {ts : List (Option K.T)}

theorem InStep.on (h : InStep K w0 base xb v0 vs F0 db ci si st s ts w) : st.On ci si := by
  obtain ⟨v, F, h1, h2, h3, h4, e1, e2, e3, e4, hd, n1, n2, hz, O⟩ := h
  exact O
theorem InStep.facts {g g2 : Nat} (h : InStep K w0 base xb v0 vs F0 db ci si st s ts w) (hg : v0.vse.rowBlock = some g) (hg2 : v0.vca.rowBlock = some g2) {se : Seat} {ca : Cal} (hse : st.seats[si]? = some se) (hca : st.calls[ci]? = some ca) :
    (w.cell? ⟨g, si * 5, none⟩ = some se.task ∧ w.cell? ⟨g, si * 5 + 1, none⟩ = some (.bool se.ready) ∧ w.cell? ⟨g, si * 5 + 2, none⟩ = some (.int .i64 se.last) ∧
      w.cell? ⟨g, si * 5 + 3, none⟩ = some (.int .i64 st.d.ak) ∧ w.cell? ⟨g, si * 5 + 4, none⟩ = some (.int .i64 st.d.av) ∧ (∀ j, w.frozen? ⟨g, j, none⟩ = false) ∧ g < w.heap.size) ∧
    (w.cell? ⟨g2, ci * 9 + 5, none⟩ = some (.int .i64 ca.en) ∧ w.cell? ⟨g2, ci * 9 + 7, none⟩ = some (.int .i64 ca.ak) ∧ w.cell? ⟨g2, ci * 9 + 8, none⟩ = some (.int .i64 ca.av) ∧
      (∀ j, w.frozen? ⟨g2, j, none⟩ = false) ∧ g2 < w.heap.size) ∧
    (w.cell? ⟨xb, 10, none⟩ = some v0.vca ∧ w.cell? ⟨xb, 3, none⟩ = some (.pointer (some ⟨g2, ci * 9, none⟩)) ∧ w.cell? ⟨xb, 4, none⟩ = some (.pointer (some ⟨g, si * 5 + 3, none⟩)) ∧ (∀ j, w.frozen? ⟨xb, j, none⟩ = false) ∧ xb < w.heap.size) ∧
    g ≠ xb ∧ g2 ≠ xb ∧ g ≠ g2 := by
  obtain ⟨v, F, h1, h2, h3, h4, e1, e2, e3, e4, hd, n1, n2, hz, O⟩ := h
  have := h1.m.stepFacts O (by rw [e1]; exact hg) (by rw [e2]; exact hg2) hse hca
  rw [e2] at this
  exact this

/-- a task's method -/
theorem InStep.task {v : MachV} {F : Nat → Prop} {r : K.S × K.T × DeskS × Bool} {e : Ending} (_h1 : MK K w base xb st v vs s ts F) (h2 : Only (fun k => v0.own xb k ∨ F0 k) w0 w) (h3 : ∀ k, v.own xb k → v0.own xb k ∨ w0.heap.size ≤ k) (h4 : ∀ k, F k → F0 k ∨ w0.heap.size ≤ k)
    (e1 : v.vse = v0.vse) (e2 : v.vca = v0.vca) (e3 : v.mb = v0.mb) (e4 : v.kit = v0.kit) (hd : DeskBox w xb db) (n1 : ¬ v.own xb db) (n2 : ¬ F db) (hz : w0.heap.size ≤ db) (O : st.On ci si)
    (hT : TaskOut K w base xb st v vs ts F si r e w1) : e = .returned (.bool r.2.2.2) ∧ InStep K w0 base xb v0 vs F0 db ci si { st with d := r.2.2.1 } r.1 (ts.set si (some r.2.1)) w1 := by
  obtain ⟨rfl, v', F', k1, k2, k3, k4, f1, f2, f3, f4⟩ := hT
  have hdl := hd.facts.2.2
  refine ⟨rfl, v', F', k1, h2.trans k2 ?_, ?_, ?_, f1.trans e1, f2.trans e2, f3.trans e3, f4.trans e4, hd.only k2 (fun x => x.elim n1 n2), ?_, ?_, hz, ⟨O.on, O.c, O.s⟩⟩
  · rintro k (hk | hk)
    · rcases h3 k hk with h | h
      · exact .inl (.inl h)
      · exact .inr h
    · rcases h4 k hk with h | h
      · exact .inl (.inr h)
      · exact .inr h
  · intro k hk
    rcases k3 k hk with h | h
    · exact h3 k h
    · have := h2.size; exact .inr (by omega)
  · intro k hk
    rcases k4 k hk with h | h
    · exact h4 k h
    · have := h2.size; exact .inr (by omega)
  · intro hk
    rcases k3 _ hk with h | h
    · exact n1 h
    · omega
  · intro hk
    rcases k4 _ hk with h | h
    · exact n2 h
    · omega

theorem InStep.run_ready (hK : KitsOk K) (h : InStep K w0 base xb v0 vs F0 db ci si st s ts w) {t : K.T} (ht : ts[si]? = some (some t)) (hf : st.d.Fits) {se : Seat} (hse : st.seats[si]? = some se) :
    Runs Try.prog se.task "Ready" #[.pointer (some ⟨db, 0, none⟩)] w fun e w' => e = .returned (.bool (K.ready s t st.d).2.2.2) ∧
      InStep K w0 base xb v0 vs F0 db ci si { st with d := (K.ready s t st.d).2.2.1 } (K.ready s t st.d).1 (ts.set si (some (K.ready s t st.d).2.1)) w' := by
  obtain ⟨v, F, h1, h2, h3, h4, e1, e2, e3, e4, hd, n1, n2, hz, O⟩ := h
  have hy : vs[si]? = some se.task := by rw [← h1.tasks, List.getElem?_map, hse]; rfl
  exact (hK.ready_run h1 ht hy O hf hd n1 n2).mono fun e w' hT => InStep.task h1 h2 h3 h4 e1 e2 e3 e4 hd n1 n2 hz O hT
theorem InStep.run_step (hK : KitsOk K) (h : InStep K w0 base xb v0 vs F0 db ci si st s ts w) {t : K.T} (ht : ts[si]? = some (some t)) (hf : st.d.Fits) {se : Seat} (hse : st.seats[si]? = some se) :
    Runs Try.prog se.task "Step" #[.pointer (some ⟨db, 0, none⟩)] w fun e w' => e = .returned (.bool (K.step s t st.d).2.2.2) ∧
      InStep K w0 base xb v0 vs F0 db ci si { st with d := (K.step s t st.d).2.2.1 } (K.step s t st.d).1 (ts.set si (some (K.step s t st.d).2.1)) w' := by
  obtain ⟨v, F, h1, h2, h3, h4, e1, e2, e3, e4, hd, n1, n2, hz, O⟩ := h
  have hy : vs[si]? = some se.task := by rw [← h1.tasks, List.getElem?_map, hse]; rfl
  exact (hK.step_run h1 ht hy O hf hd n1 n2).mono fun e w' hT => InStep.task h1 h2 h3 h4 e1 e2 e3 e4 hd n1 n2 hz O hT

/-- a cell of the machine's is written -/
theorem InStep.put {st' : MachS} {vs' : List Value} {ts' : List (Option K.T)} {p : Addr} {u : Value} (hK : KitsOk K) (h : InStep K w0 base xb v0 vs F0 db ci si st s ts w) (hp : ∀ v : MachV, v.vse = v0.vse → v.vca = v0.vca → v.own xb p.block) (hO : st'.On ci si)
    (hM : ∀ v, MachAt w base xb st v → v.vse = v0.vse → v.vca = v0.vca → MachAt (w.setCell p u) base xb st' v) (hts : st'.seats.map Seat.task = vs') (hA : ∀ (v : MachV) F, K.At w base v.kit vs s ts F → K.At w base v.kit vs' s ts' F) (hl : ts'.length = vs'.length) :
    InStep K w0 base xb v0 vs' F0 db ci si st' s ts' (w.setCell p u) := by
  obtain ⟨v, F, h1, h2, h3, h4, e1, e2, e3, e4, hd, n1, n2, hz, O⟩ := h
  have hpo := hp v e1 e2
  have hpd : db ≠ p.block := fun e => n1 (e ▸ hpo)
  refine ⟨v, F, ⟨hM v h1.m e1 e2, hK.loc (hA v F h1.k) (fun k hk => Below.heap_setCell _ _ _ _ (fun e => h1.sep k hk (e ▸ hpo))), h1.sep, hts, hl⟩, h2.set ?_ _, h3, h4, e1, e2, e3, e4, hd.of_block (Below.heap_setCell _ _ _ _ hpd), n1, n2, hz, hO⟩
  rcases h3 _ hpo with h | h
  · exact .inl (.inl h)
  · exact .inr h
theorem InStep.drew (hK : KitsOk K) (h : InStep K w0 base xb v0 vs F0 db ci si st s ts w) : InStep K w0 base xb v0 vs F0 db ci si st s ts w.drew := by
  obtain ⟨v, F, h1, h2, h3, h4, e1, e2, e3, e4, hd, n1, n2, hz, O⟩ := h
  exact ⟨v, F, ⟨h1.m.drew, hK.loc h1.k (fun _ _ => rfl), h1.sep, h1.tasks, h1.len⟩, h2.drew, h3, h4, e1, e2, e3, e4, hd, n1, n2, hz, O⟩
end

/-- behind the memory's Now and the desk's making -/
theorem InStep.begin {K : Kits} (hK : KitsOk K) {w w5 w1 : World} {base xb ci si : Nat} {st st0 : MachS} {v : MachV} {vs : List Value} {s : K.S} {ts : List (Option K.T)} {F : Nat → Prop} (H : MK K w base xb st v vs s ts F) (now : Int)
    (h5 : MachAt w5 base xb st0 v) (ho5 : Only (v.own xb) w w5) (hm : MemAt w1 base v.mb { st0.d.mem with move := now } v.mv) (ho : Only (v.mv.own v.mb) w5 w1) (hs : st0.seats = st.seats) (O : st0.On ci si) :
    (∃ v1, MachAt w1 base xb { st0 with d := { st0.d with mem := { st0.d.mem with move := now } } } v1 ∧ v1.vse = v.vse ∧ v1.vca = v.vca) ∧
    InStep K w base xb v vs F w1.heap.size ci si { st0 with d := { st0.d with mem := { st0.d.mem with move := now } } } s ts (w1.alloc (.cells #[.pointer (some ⟨xb, 0, none⟩)] 104)) := by
  obtain ⟨v1, k1, k2, k3, f1, f2, f3, f4⟩ := h5.mem_out (ms := { st0.d.mem with move := now }) ⟨v.mv, hm, ho, fun k hk => .inl hk⟩
  have hall := ho5.trans k2 (fun _ hk => .inl hk)
  have hsz := hall.size
  have hlt := k1.lt
  have hFl := hK.lt H.k
  have hown : ∀ k, v1.own xb k → v.own xb k ∨ w.heap.size ≤ k := fun k hk => by
    rcases k3 k hk with h | h
    · exact .inl h
    · have := ho5.size; exact .inr (by omega)
  refine ⟨⟨v1, k1, f1, f2⟩, v1, F, ⟨k1.alloc _, ?_, ?_, ?_, H.len⟩, ?_, hown, fun k hk => .inl hk, f1, f2, f3, f4, ?_, ?_, ?_, hsz, ⟨O.on, O.c, O.s⟩⟩
  · rw [f4]
    exact hK.loc H.k fun k hk => by rw [Below.heap_alloc _ _ _ (by have := (hFl k hk).2; omega)]; exact hall.block k (hFl k hk).2 (H.sep k hk)
  · intro k hk h
    rcases hown k h with h | h
    · exact H.sep k hk h
    · have := (hFl k hk).2; omega
  · rw [← H.tasks]; exact congrArg _ hs
  · exact (hall.mono fun k _ hk => .inl hk).alloc _
  · exact heap_alloc_new w1 _
  · intro hk
    have := (hlt _ hk).2
    omega
  · intro hk
    have := (hFl _ hk).2
    omega

/-- what a step leaves -/
def StepDone (K : Kits) (w0 : World) (base xb : Nat) (v0 : MachV) (F0 : Nat → Prop) (st : MachS) (vs : List Value) (s : K.S) (ts : List (Option K.T)) (w : World) : Prop :=
  ∃ v F, MK K w base xb st v vs s ts F ∧ Only (fun k => v0.own xb k ∨ F0 k) w0 w ∧ (∀ k, v.own xb k → v0.own xb k ∨ w0.heap.size ≤ k) ∧ (∀ k, F k → F0 k ∨ w0.heap.size ≤ k) ∧ v.mb = v0.mb ∧ v.kit = v0.kit

section
variable {K : Kits} {w0 w w1 : World} {base xb : Nat} {v0 : MachV} {vs : List Value} {F0 : Nat → Prop} {db ci si : Nat} {st : MachS} {s : K.S} {ts : List (Option K.T)}
theorem InStep.call (hK : KitsOk K) {g2 : Nat} (hg2 : v0.vca.rowBlock = some g2) (h : InStep K w0 base xb v0 vs F0 db ci si st s ts w) {j : Nat} (hj : j < 9) (f : Cal → Cal) (u : Value)
    (hf : ∀ c p, ({ f c with pt := p } : Cal).cells = ({ c with pt := p } : Cal).cells.set j u) : InStep K w0 base xb v0 vs F0 db ci si (st.withCall ci f) s ts (w.setCell ⟨g2, ci * 9 + j, none⟩ u) :=
  h.put hK (fun v _ e2 => .inr (.inr (.inr (.inr (by rw [e2]; exact hg2))))) (h.on.withCall _) (fun v hv _ e2 => hv.call_cell h.on (by rw [e2]; exact hg2) hj f u hf)
    (by obtain ⟨v, F, h1, _⟩ := h; exact h1.tasks) (fun _ _ h => h) (by obtain ⟨v, F, h1, _⟩ := h; exact h1.len)
theorem InStep.seat (hK : KitsOk K) {g : Nat} (hg : v0.vse.rowBlock = some g) (h : InStep K w0 base xb v0 vs F0 db ci si st s ts w) {j : Nat} (hj : j < 5) (f : Seat → Seat) (u : Value)
    (hf : ∀ c p q, ({ f c with ak := p, av := q } : Seat).cells = ({ c with ak := p, av := q } : Seat).cells.set j u) (ht : ∀ c, (f c).task = c.task) : InStep K w0 base xb v0 vs F0 db ci si (st.withSeat si f) s ts (w.setCell ⟨g, si * 5 + j, none⟩ u) :=
  h.put hK (fun v e1 _ => .inr (.inr (.inr (.inl (by rw [e1]; exact hg))))) (h.on.withSeat _) (fun v hv e1 _ => hv.seat_cell h.on (by rw [e1]; exact hg) hj f u hf)
    (by
      obtain ⟨v, F, h1, _⟩ := h
      rw [← h1.tasks]
      show (st.seats.modify si f).map Seat.task = _
      apply List.ext_getElem?
      intro i
      simp only [List.getElem?_map, List.getElem?_modify]
      split
      · cases st.seats[i]? <;> simp [ht]
      · simp) (fun _ _ h => h) (by obtain ⟨v, F, h1, _⟩ := h; exact h1.len)
/-- the task is gone -/
theorem InStep.gone (hK : KitsOk K) {g : Nat} (hg : v0.vse.rowBlock = some g) (h : InStep K w0 base xb v0 vs F0 db ci si st s ts w) : InStep K w0 base xb v0 (vs.set si .nilIface) F0 db ci si (st.withSeat si fun c => { c with task := .nilIface }) s (ts.set si none) (w.setCell ⟨g, si * 5 + 0, none⟩ .nilIface) :=
  h.put hK (fun v e1 _ => .inr (.inr (.inr (.inl (by rw [e1]; exact hg))))) (h.on.withSeat _) (fun v hv e1 _ => hv.seat_cell h.on (by rw [e1]; exact hg) (by decide) _ _ (fun _ _ _ => rfl))
    (by
      obtain ⟨v, F, h1, _⟩ := h
      rw [← h1.tasks]
      show (st.seats.modify si _).map Seat.task = _
      apply List.ext_getElem?
      intro i
      simp only [List.getElem?_map, List.getElem?_modify, List.getElem?_set, List.length_map]
      by_cases e : si = i
      · subst e
        by_cases hl : si < st.seats.length
        · simp [hl]
        · simp [hl]
      · simp [e]) (fun _ _ h => hK.drop h si) (by obtain ⟨v, F, h1, _⟩ := h; simpa using h1.len)
theorem InStep.done (hK : KitsOk K) (h : InStep K w0 base xb v0 vs F0 db ci si st s ts w) : StepDone K w0 base xb v0 F0 st.rest vs s ts ((w.setCell ⟨xb, 3, none⟩ (.pointer none)).setCell ⟨xb, 4, none⟩ (.pointer none)) := by
  obtain ⟨v, F, h1, h2, h3, h4, e1, e2, e3, e4, hd, n1, n2, hz, O⟩ := h
  have hx : v0.own xb xb := .inl rfl
  refine ⟨v, F, ⟨h1.m.rest, hK.loc h1.k (fun k hk => ?_), h1.sep, ?_, h1.len⟩, (h2.set (.inl (.inl hx)) _).set (.inl (.inl hx)) _, h3, h4, e3, e4⟩
  · have : k ≠ xb := fun e => h1.sep k hk (.inl e)
    simp [World.setCell, Array.getElem?_modify, Ne.symm this]
  · rw [← h1.tasks]
    show st.seatsNow.map Seat.task = _
    rw [O.seatsE]
    apply List.ext_getElem?
    intro i
    simp only [List.getElem?_map, List.getElem?_modify]
    split
    · cases st.seats[i]? <;> simp
    · simp
theorem StepDone.drew (hK : KitsOk K) (h : StepDone K w0 base xb v0 F0 st vs s ts w) : StepDone K w0 base xb v0 F0 st vs s ts w.drew := by
  obtain ⟨v, F, h1, h2, h3, h4, e⟩ := h
  exact ⟨v, F, ⟨h1.m.drew, hK.loc h1.k (fun _ _ => rfl), h1.sep, h1.tasks, h1.len⟩, h2.drew, h3, h4, e⟩
end

end Go.Proofs.Ytbhbpfpggfcpgaa
