/-
Arguments that come in: a script of a machine (threads, words, moves).
machine.Join: two kits put together (the last one's calls count), and none.
machine.Join: the walk.
The machine with its own calls as plain data (OS); a PM of the own kit behaves as one. Plain.
-/
import Derived.Test.YtbhbpfpggfcpgaaQFit
import Derived.Test.YtbhbpfpggfcpgaaQClose
import Derived.ChangeSlices
import Derived.Deep.Slices
import Derived.Deep.Fields
import Derived.ChangeSame
import Derived.Test.YtbhbpfpggfcpgaaQOwnK
namespace Go.Proofs.Ytbhbpfpggfcpgaa
open Go.ChangeShapes Go.WideShapes Go.ChangeAt Go.RowKit Go.Deep

section
variable {H : Type} {enc : TypeId × Value → H} {W : World} {base : Nat} {sp : Nat → Bool} {held : Bool}

theorem words_cells {cs : List Value} {fuel : Nat} {x : DataW H × List MemPlace} (hf : DataW.trod enc Try.prog W base sp held fuel 28 cs = some x) :
    ∃ (l : List Int) (ox : Option Addr) (cx : Nat), cs = [.slice ox l.length cx] ∧ W.Src 1 (.slice ox l.length cx) l.length (u64s l) ∧ l.length ≤ cx ∧ cx ≤ maxLen ∧ (ox = none → cx = 0) := by
  have hc : Try.prog.cellsOf 27 = 1 := by kernel_rfl
  rcases open_ints Try.underlying28 Try.underlying27 hc hf with ⟨hcs, _⟩ | ⟨a, len, cap, zs, hcs, _, hl, hm, hz, hx, hcell, hwz⟩
  · exact ⟨[], none, 0, hcs, ⟨by simp [u64s], .inl ⟨rfl, rfl⟩⟩, by simp, by simp, fun _ => rfl⟩
  · have hle : len ≤ zs.length := by rw [hz]; split <;> omega
    have hlen : (zs.take len).length = len := by simp; omega
    refine ⟨zs.take len, some a, cap, by rw [hlen]; exact hcs, ?_, by rw [hlen]; exact hl, hm, fun h => by cases h⟩
    rw [hlen]
    refine ⟨by simp [u64s]; omega, .inr ⟨a, cap, rfl, hl, fun j u hu => ?_⟩⟩
    have hj : j < len := by
      rcases Nat.lt_or_ge j len with h | h
      · exact h
      · rw [List.getElem?_eq_none (by simp [u64s]; omega)] at hu; cases hu
    rw [hcell j (by omega)]
    have : (u64s (zs.take len))[j]? = some (.int .u64 (zs.getD j 0)) := by
      simp [u64s, hj, show j < zs.length by omega]
    rw [this] at hu
    exact hu

theorem int_part {k : IntKind} {t : TypeId} {fuel i : Nat} {cs : List Value} {y : Option (DataW H × List MemPlace)} (ht : Try.prog.underlying t = some (.int k)) (hi : i < cs.length) (hy : y.isSome = true) (h : DataW.trod enc Try.prog W base sp held fuel t ((cs.drop i).take 1) = y) : ∃ z, cs[i]? = some (.int k z) := by
  obtain ⟨x, hx⟩ := Option.isSome_iff_exists.1 hy
  rw [hx] at h
  obtain ⟨n, hn, _, _⟩ := DataW.trod_int ht h
  refine ⟨n, ?_⟩
  have ht1 : (cs.drop i).take 1 = [cs[i]] := by rw [List.drop_eq_getElem_cons hi]; rfl
  rw [ht1] at hn
  rw [List.getElem?_eq_getElem hi, (List.cons.inj hn).1]

set_option maxRecDepth 100000 in
theorem in_move {cs : List Value} {fuel : Nat} {x : DataW H × List MemPlace} (h : DataW.trod enc Try.prog W base sp held fuel 34 cs = some x) (hl : cs.length = 4) :
    ∃ o : Mv, cs = [.int .i64 o.th, .int .i64 o.op, .int .i64 o.arg, .int .i64 o.data] := by
  obtain ⟨ys, n, _, _, _, hyl, hf⟩ := DataW.trod_struct Try.underlying34 h
  have c3 : Try.prog.cellsOf 3 = 1 := by kernel_rfl
  have c23 : Try.prog.cellsOf 32 = 1 := by kernel_rfl
  have hys : ∀ i, i < 4 → (ys[i]?).isSome = true := fun i hi => by
    have : ys.length = 4 := hyl
    rw [List.getElem?_eq_getElem (by omega)]
    rfl
  have f0 : DataW.trod enc Try.prog W base sp held n 3 ((cs.drop 0).take (Try.prog.cellsOf 3)) = ys[0]? := hf 0 _ rfl
  have f1 : DataW.trod enc Try.prog W base sp held n 32 ((cs.drop 1).take (Try.prog.cellsOf 32)) = ys[1]? := hf 1 _ rfl
  have f2 : DataW.trod enc Try.prog W base sp held n 3 ((cs.drop 2).take (Try.prog.cellsOf 3)) = ys[2]? := hf 2 _ rfl
  have f3 : DataW.trod enc Try.prog W base sp held n 3 ((cs.drop 3).take (Try.prog.cellsOf 3)) = ys[3]? := hf 3 _ rfl
  rw [c3] at f0 f2 f3
  rw [c23] at f1
  obtain ⟨z0, g0⟩ := int_part Try.underlying3 (by omega) (hys 0 (by omega)) f0
  obtain ⟨z1, g1⟩ := int_part Try.underlying32 (by omega) (hys 1 (by omega)) f1
  obtain ⟨z2, g2⟩ := int_part Try.underlying3 (by omega) (hys 2 (by omega)) f2
  obtain ⟨z3, g3⟩ := int_part Try.underlying3 (by omega) (hys 3 (by omega)) f3
  refine ⟨⟨z0, z1, z2, z3⟩, ?_⟩
  match cs, hl with
  | [x0, x1, x2, x3], _ =>
    simp at g0 g1 g2 g3
    simp [g0, g1, g2, g3]

theorem add_at (b off i : Nat) : (⟨b, off, none⟩ : Addr).add i = ⟨b, off + i, none⟩ := by unfold Addr.add; split <;> simp_all

set_option maxRecDepth 100000 in
theorem moves_cells {cs : List Value} {fuel : Nat} {x : DataW H × List MemPlace} (hf : DataW.trod enc Try.prog W base sp held fuel 22 cs = some x) :
    ∃ (ms : List Mv) (om : Option Addr) (cm : Nat), cs = [.slice om ms.length cm] ∧ MvsIn W (.slice om ms.length cm) ms ∧ ms.length ≤ cm ∧ cm ≤ maxLen ∧ (om = none → cm = 0) := by
  have hc : Try.prog.cellsOf 34 = 4 := by kernel_rfl
  rcases open_slice Try.underlying22 hf with ⟨hcs, hx⟩ | ⟨a, len, cap, m, n, D, Pl, hcs, hb, hl, hm, hmm, hx, hi⟩
  · exact ⟨[], none, 0, hcs, ⟨none, 0, rfl, by simp, by simp, fun i h => by simp at h⟩, by simp, by simp, fun _ => rfl⟩
  · have hlm : len ≤ m := by rw [hmm]; split <;> omega
    have hop : ∀ i, ∃ o : Mv, i < len → ∀ j u, [Value.int .i64 o.th, .int .i64 o.op, .int .i64 o.arg, .int .i64 o.data][j]? = some u → W.cell? ((a.add (i * 4)).add j) = some u := by
      intro i
      by_cases hil : i < len
      · obtain ⟨cs', h1, h2⟩ := hi i (by omega)
        rw [hc] at h1
        obtain ⟨_, h3, h4⟩ := World.cells?_some h1
        obtain ⟨o, rfl⟩ := in_move h2 h3
        refine ⟨o, fun _ j u hu => ?_⟩
        have hj : j < 4 := by
          rcases Nat.lt_or_ge j 4 with h | h
          · exact h
          · rw [List.getElem?_eq_none (by simp; omega)] at hu; cases hu
        rw [h4 j hj, hu]
      · exact ⟨⟨0, 0, 0, 0⟩, fun h => absurd h hil⟩
    obtain ⟨f, hfc⟩ := Classical.axiomOfChoice hop
    have hlen : ((List.range len).map f).length = len := by simp
    refine ⟨(List.range len).map f, some a, cap, by rw [hlen]; exact hcs, ⟨some a, cap, by rw [hlen], by rw [hlen]; exact hl, hm, fun i hi' => ?_⟩, by rw [hlen]; exact hl, hm, fun h => by cases h⟩
    have hil : i < len := by simpa using hi'
    have e : ((List.range len).map f)[i] = f i := by simp
    rw [e]
    obtain ⟨b, off, spot⟩ := a
    have hs : spot = none := by
      have := World.cell?_spot (hfc 0 (by omega) 0 _ rfl)
      simpa [Addr.add] using this
    subst hs
    have hq := hfc i hil
    simp only [add_at] at hq
    exact ⟨b, off, rfl, World.block_lt_of_cell? W _ (hq 0 _ rfl), hq 0 _ rfl, hq 1 _ rfl, hq 2 _ rfl, hq 3 _ rfl⟩

set_option maxRecDepth 100000 in
theorem in_script {v : Value} {d : DataW H} {p : List MemPlace} {r : Reach} {b0 : Nat} (hv : Value.okWide Try.prog W r b0 45 v) (h : DataW.Trod enc Try.prog W base sp held 45 v d p) :
    ∃ th l ms ox cx om cm, ScrIn W v th l ms ox cx om cm := by
  obtain ⟨cs, rfl, hsz⟩ := okWide_struct Try.underlying45 hv
  obtain ⟨fuel, hf⟩ := h
  obtain ⟨ys, n, _, _, hl, hyl, hfs⟩ := DataW.trod_struct Try.underlying45 hf
  have c0 : Try.prog.cellsOf 3 = 1 := by kernel_rfl
  have c1 : Try.prog.cellsOf 28 = 1 := by kernel_rfl
  have c2 : Try.prog.cellsOf 22 = 1 := by kernel_rfl
  have cS : Try.prog.cellsOf 45 = 3 := by kernel_rfl
  rw [cS] at hl
  have hcs : (Value.agg cs).cells.toList = cs.toList := rfl
  simp only [hcs] at hl hfs
  obtain ⟨x0, x1, x2, hx⟩ : ∃ x0 x1 x2, cs.toList = [x0, x1, x2] := by
    match hh : cs.toList, hl with
    | [a, b, c], _ => exact ⟨a, b, c, rfl⟩
  have hys : ∀ i, i < 3 → ∃ y, ys[i]? = some y := fun i hi => by
    have : ys.length = 3 := hyl
    exact ⟨_, List.getElem?_eq_getElem (by omega)⟩
  obtain ⟨y0, q0⟩ := hys 0 (by omega)
  obtain ⟨y1, q1⟩ := hys 1 (by omega)
  obtain ⟨y2, q2⟩ := hys 2 (by omega)
  have f0 : DataW.trod enc Try.prog W base sp held n 3 ((cs.toList.drop 0).take (Try.prog.cellsOf 3)) = ys[0]? := hfs 0 _ rfl
  have f1 : DataW.trod enc Try.prog W base sp held n 28 ((cs.toList.drop 1).take (Try.prog.cellsOf 28)) = ys[1]? := hfs 1 _ rfl
  have f2 : DataW.trod enc Try.prog W base sp held n 22 ((cs.toList.drop 2).take (Try.prog.cellsOf 22)) = ys[2]? := hfs 2 _ rfl
  rw [c0, hx, q0] at f0
  rw [c1, hx, q1] at f1
  rw [c2, hx, q2] at f2
  obtain ⟨th, e0, _, _⟩ := DataW.trod_int Try.underlying3 f0
  obtain ⟨l, ox, cx, e1, k1, k2, k3, k4⟩ := words_cells f1
  obtain ⟨ms, om, cm, e2, j1, j2, j3, j4⟩ := moves_cells f2
  simp at e0 e1 e2
  subst e0 e1 e2
  refine ⟨th, l, ms, ox, cx, om, cm, ⟨?_, k1, j1, ⟨k2, k3, k4⟩, ⟨j2, j3, j4⟩⟩⟩
  have : cs = #[.int .i64 th, .slice ox l.length cx, .slice om ms.length cm] := by
    apply Array.ext'
    rw [hx]
  rw [this]
end
end Go.Proofs.Ytbhbpfpggfcpgaa
namespace Go
open Go.RowKit Go.ChangeMaps
abbrev vLook (tb : Nat) : Value := .func (.func 51) #[] #[.pointer (some ⟨tb, 0, none⟩)]
abbrev vBump (tb : Nat) : Value := .func (.func 52) #[] #[.pointer (some ⟨tb, 0, none⟩)]
/-- while one kit's entries are laid into the new map -/
structure InI (w0 wr : World) (ob rb kb tb : Nat) (g0 : Int → Option Value) (n : Nat) (seen : Array Nat) (es : Array MapEntry) (clk : Nat) : Prop where
  on : Only (fun _ => False) w0 wr
  out : wr.heap[ob]? = some (.map es clk)
  it : wr.heap[rb]? = some (.mapIter (some kb) 2 seen 2)
  kit : wr.heap[kb]? = some (.map (ownEs tb) 2)
  o0 : w0.heap.size ≤ ob
  r0 : w0.heap.size ≤ rb
  k0 : kb < w0.heap.size
  ne : ob ≠ rb
  st : (n = 0 ∧ seen = #[] ∧ Reads es g0) ∨ (n = 1 ∧ seen = #[0] ∧ Reads es (upd g0 1 (vLook tb))) ∨ (n = 1 ∧ seen = #[1] ∧ Reads es (upd g0 2 (vBump tb))) ∨ (n = 2 ∧ (seen = #[0, 1] ∨ seen = #[1, 0]) ∧ Reads es (kitG tb))
def InK (w0 wr : World) (ob rb kb tb : Nat) (g0 : Int → Option Value) (n : Nat) : Prop := ∃ seen es clk, InI w0 wr ob rb kb tb g0 n seen es clk
/-- behind 'next', ahead of the store -/
def MidK (w0 w1 : World) (ob rb kb tb : Nat) (g0 : Int → Option Value) (n : Nat) (op : Int) (v : Value) : Prop :=
  ∃ es clk g, w1.heap[ob]? = some (.map es clk) ∧ Reads es g ∧ ∀ es' clk', Reads es' (upd g op v) → InK w0 (setBlock w1 ob (.map es' clk')) ob rb kb tb g0 (n + 1)

theorem InI.mid {w0 wr w1 : World} {ob rb kb tb : Nat} {g0 g : Int → Option Value} {n : Nat} {seen : Array Nat} {es : Array MapEntry} {clk : Nat} (h : InI w0 wr ob rb kb tb g0 n seen es clk) (hal : w1 = wr ∨ w1 = wr.drew) (b : Nat) {op : Int} {v : Value} (hg : Reads es g)
    (hs : ∀ es', Reads es' (upd g op v) → (n + 1 = 0 ∧ seen.push b = #[] ∧ Reads es' g0) ∨ (n + 1 = 1 ∧ seen.push b = #[0] ∧ Reads es' (upd g0 1 (vLook tb))) ∨ (n + 1 = 1 ∧ seen.push b = #[1] ∧ Reads es' (upd g0 2 (vBump tb))) ∨ (n + 1 = 2 ∧ (seen.push b = #[0, 1] ∨ seen.push b = #[1, 0]) ∧ Reads es' (kitG tb))) :
    MidK w0 (setBlock w1 rb (.mapIter (some kb) 2 (seen.push b) 2)) ob rb kb tb g0 n op v := by
  have ho1 : Only (fun _ => False) w0 w1 := hal.elim (fun e => by rw [e]; exact h.on) (fun e => by rw [e]; exact h.on.drew)
  have hh : w1.heap = wr.heap := by rcases hal with rfl | rfl <;> rfl
  have hi1 : w1.heap[rb]? = some (.mapIter (some kb) 2 seen 2) := by rw [hh]; exact h.it
  have hk1 : w1.heap[kb]? = some (.map (ownEs tb) 2) := by rw [hh]; exact h.kit
  have hu1 : w1.heap[ob]? = some (.map es clk) := by rw [hh]; exact h.out
  have n1 := h.k0
  have n2 := h.r0
  have n3 := h.o0
  have hu2 := (setBlock_ne (w := w1) (o' := .mapIter (some kb) 2 (seen.push b) 2) h.ne).trans hu1
  refine ⟨es, clk, g, hu2, hg, fun es' clk' hr => ⟨seen.push b, es', clk', ⟨(ho1.setBlock (.inr n2) _).setBlock (.inr n3) _, setBlock_at hu2, ?_, ?_, n3, n2, n1, h.ne, hs es' hr⟩⟩⟩
  · exact (setBlock_ne (Ne.symm h.ne)).trans (setBlock_at hi1)
  · exact (setBlock_ne (by omega)).trans ((setBlock_ne (by omega)).trans hk1)

theorem upd_two {g0 : Int → Option Value} {tb : Nat} (h0 : ∀ op, op ≠ 1 → op ≠ 2 → g0 op = none) : upd (upd g0 1 (vLook tb)) 2 (vBump tb) = kitG tb ∧ upd (upd g0 2 (vBump tb)) 1 (vLook tb) = kitG tb := by
  constructor <;> funext op <;> unfold upd kitG <;> by_cases h1 : op = 1 <;> by_cases h2 : op = 2 <;> simp_all

theorem next_kit {P : Program} {w0 wr : World} {ob rb kb tb : Nat} {g0 : Int → Option Value} {n : Nat} (h0 : ∀ op, op ≠ 1 → op ≠ 2 → g0 op = none) (h : InK w0 wr ob rb kb tb g0 n) (ty : TypeId) :
    (n = 2 ∧ (Instr.next (.pointer (some ⟨rb, 0, none⟩)) false ty).run P wr = .ok (.tuple #[.bool false]) wr) ∨
    ∃ op v w1, n < 2 ∧ (Instr.next (.pointer (some ⟨rb, 0, none⟩)) false ty).run P wr = .ok (.tuple #[.bool true, .int .i64 op, v]) w1 ∧ (Instr.entry (.pointer (some ⟨rb, 0, none⟩))).run P w1 = .ok (.tuple #[.int .i64 op, v]) w1 ∧ MidK w0 w1 ob rb kb tb g0 n op v := by
  obtain ⟨seen, es, clk, h⟩ := h
  have key : ∀ (op : Int) (v : Value) (b : Nat) (w1 : World) (g : Int → Option Value), (w1 = wr ∨ w1 = wr.drew) → (⟨.int .i64 op, v, b⟩ : MapEntry) ∈ (ownEs tb).toList → (Instr.next (.pointer (some ⟨rb, 0, none⟩)) false ty).run P wr = .ok (.tuple #[.bool true, .int .i64 op, v]) (setBlock w1 rb (.mapIter (some kb) 2 (seen.push b) 2)) → n < 2 → Reads es g →
      (∀ es', Reads es' (upd g op v) → (n + 1 = 0 ∧ seen.push b = #[] ∧ Reads es' g0) ∨ (n + 1 = 1 ∧ seen.push b = #[0] ∧ Reads es' (upd g0 1 (vLook tb))) ∨ (n + 1 = 1 ∧ seen.push b = #[1] ∧ Reads es' (upd g0 2 (vBump tb))) ∨ (n + 1 = 2 ∧ (seen.push b = #[0, 1] ∨ seen.push b = #[1, 0]) ∧ Reads es' (kitG tb))) →
      ∃ op v w1, n < 2 ∧ (Instr.next (.pointer (some ⟨rb, 0, none⟩)) false ty).run P wr = .ok (.tuple #[.bool true, .int .i64 op, v]) w1 ∧ (Instr.entry (.pointer (some ⟨rb, 0, none⟩))).run P w1 = .ok (.tuple #[.int .i64 op, v]) w1 ∧ MidK w0 w1 ob rb kb tb g0 n op v := by
    intro op v b w1 g hal he hrun hn hg hs
    have hh : w1.heap = wr.heap := by rcases hal with rfl | rfl <;> rfl
    have n1 := h.k0
    have n2 := h.r0
    refine ⟨op, v, _, hn, hrun, ?_, h.mid hal b hg hs⟩
    exact run_entry_at _ rb kb 2 seen (ownEs tb) 2 ⟨.int .i64 op, v, b⟩ (setBlock_at (by rw [hh]; exact h.it)) ((setBlock_ne (by omega)).trans (by rw [hh]; exact h.kit)) he (by simp [ownEs])
  have hu := upd_two (tb := tb) h0
  rcases run_next_at (P := P) wr ty rb kb 2 2 seen (ownEs tb) 2 h.it h.kit (by intro x hx; simp [ownEs] at hx; rcases hx with rfl | rfl <;> simp) (Nat.le_refl _) with ⟨hz, hr⟩ | ⟨e, he, w1, hal, hr⟩
  · rcases h.st with ⟨rfl, rfl, hg⟩ | ⟨rfl, rfl, hg⟩ | ⟨rfl, rfl, hg⟩ | ⟨rfl, hs, hg⟩
    · simp [leftOf, ownEs] at hz
    · simp [leftOf, ownEs] at hz
    · simp [leftOf, ownEs] at hz
    · exact .inl ⟨rfl, hr⟩
  · right
    rcases h.st with ⟨rfl, rfl, hg⟩ | ⟨rfl, rfl, hg⟩ | ⟨rfl, rfl, hg⟩ | ⟨rfl, hs, hg⟩
    · simp [leftOf, ownEs] at he
      rcases he with rfl | rfl
      · exact key 1 _ 0 w1 _ hal (by simp [ownEs]) hr (by omega) hg fun es' h' => .inr (.inl ⟨rfl, rfl, h'⟩)
      · exact key 2 _ 1 w1 _ hal (by simp [ownEs]) hr (by omega) hg fun es' h' => .inr (.inr (.inl ⟨rfl, rfl, h'⟩))
    · simp [leftOf, ownEs] at he
      subst he
      exact key 2 _ 1 w1 _ hal (by simp [ownEs]) hr (by omega) hg fun es' h' => .inr (.inr (.inr ⟨rfl, .inl rfl, by rw [← hu.1]; exact h'⟩))
    · simp [leftOf, ownEs] at he
      subst he
      exact key 1 _ 0 w1 _ hal (by simp [ownEs]) hr (by omega) hg fun es' h' => .inr (.inr (.inr ⟨rfl, .inr rfl, by rw [← hu.2]; exact h'⟩))
    · rcases hs with rfl | rfl <;> simp [leftOf, ownEs] at he

theorem wpList_next_kit {P : Program} {ops : Array Oper} {rest : List Oper} {o : Oper} {a : Act} {Q : Exit → Act → World → Prop} (hgd : o.guard = none) (it : Operand) (hop : o.op = Op.next it false) {w0 wr : World} {ob rb kb tb : Nat} {g0 : Int → Option Value} {n : Nat}
    (hit : a.eval it = .pointer (some ⟨rb, 0, none⟩)) (h0 : ∀ op, op ≠ 1 → op ≠ 2 → g0 op = none) (h : InK w0 wr ob rb kb tb g0 n) (hDone : n = 2 → wpList P ops Q rest (a.put o.dst (.tuple #[.bool false])) wr)
    (hMore : ∀ op v w1, n < 2 → (Instr.entry (.pointer (some ⟨rb, 0, none⟩))).run P w1 = .ok (.tuple #[.int .i64 op, v]) w1 → MidK w0 w1 ob rb kb tb g0 n op v → wpList P ops Q rest (a.put o.dst (.tuple #[.bool true, .int .i64 op, v])) w1) : wpList P ops Q (o :: rest) a wr := by
  refine wpList_plain hgd fun K hK => ?_
  unfold Oper.wp
  rcases next_kit (P := P) h0 h o.type with ⟨h2, hr⟩ | ⟨op, v, w1, h2, hr, he, hm⟩
  · simp [execOp, hop, hit, hr, Result.andThen]
    exact hK _ _ (hDone h2)
  · simp [execOp, hop, hit, hr, Result.andThen]
    exact hK _ _ (hMore op v w1 h2 he hm)
end Go
namespace Go.Proofs.Ytbhbpfpggfcpgaa
open Go.ChangeShapes Go.WideShapes Go.ChangeAt Go.RowKit Go.ChangeMaps
theorem update_any {w : World} {kb : Nat} {es : Array MapEntry} {clk : Nat} {g : Int → Option Value} (hb : w.heap[kb]? = some (.map es clk)) (hr : Reads es g) (op : Int) (v : Value) :
    ∃ es' clk', (Instr.mapUpdate 30 (.map (some kb)) (.int .i64 op) v).run Try.prog w = .ok () (setBlock w kb (.map es' clk')) ∧ Reads es' (upd g op v) := by
  obtain ⟨r, hf, _⟩ := hr.now op
  cases r with
  | none =>
    refine ⟨_, clk + 1, ?_, hr.push v clk hf⟩
    simp only [Instr.mapUpdate, Sem.run_bind, run_underlying Try.underlying30, Result.andThen_ok, getMap hb, checkOp, findOp hf, run_setObj_any hb]
  | some x =>
    obtain ⟨i, y⟩ := x
    refine ⟨_, clk, ?_, hr.set v hf⟩
    have hk : (es[i]?.map (·.key)).getD (.int .i64 op) = .int .i64 op := by
      have h1 := hf
      rw [findNow_int hr.1] at h1
      obtain ⟨_, _, e, he, hke⟩ := intAt_some (Option.some.inj h1)
      rw [Nat.sub_zero, Array.getElem?_toList] at he
      rw [he]
      exact hke
    simp only [Instr.mapUpdate, Sem.run_bind, run_underlying Try.underlying30, Result.andThen_ok, getMap hb, checkOp, findOp hf, hk, Instr.keyThatStays, Instr.sameBits, beq_self_eq_true, Bool.and_self, if_true, Sem.run_pure, run_setObj_any hb]
theorem wpList_update_kit {ops : Array Oper} {rest : List Oper} {o : Oper} {a : Act} {Q : Exit → Act → World → Prop} (hgd : o.guard = none) (m k x : Operand) (ho : o.op = .mapUpdate 30 m k x) {w0 w1 : World} {ob rb kb tb : Nat} {g0 : Int → Option Value} {n : Nat} {op : Int} {v : Value}
    (h : MidK w0 w1 ob rb kb tb g0 n op v) (hm : a.eval m = .map (some ob)) (hk : a.eval k = .int .i64 op) (hx : a.eval x = v) (hK : ∀ w2, InK w0 w2 ob rb kb tb g0 (n + 1) → wpList Try.prog ops Q rest (a.put o.dst undef) w2) : wpList Try.prog ops Q (o :: rest) a w1 := by
  obtain ⟨es, clk, g, h1, h2, h3⟩ := h
  obtain ⟨es', clk', hr, hrd⟩ := update_any h1 h2 op v
  refine wpList_plain hgd fun K hK' => ?_
  unfold Oper.wp execOp
  simp only [ho, hm, hk, hx, Sem.run_bind, hr, Result.andThen_ok, Sem.run_pure]
  exact hK' _ _ (hK _ (h3 es' clk' hrd))
end Go.Proofs.Ytbhbpfpggfcpgaa
namespace Go.Proofs.Ytbhbpfpggfcpgaa
open Go.ChangeShapes Go.WideShapes Go.ChangeAt Go.RowKit Go.ChangeMaps

def gOf (tbs : Nat → Nat) (j : Nat) : Int → Option Value := if j = 0 then fun _ => none else kitG (tbs (j - 1))
theorem gOf_none (tbs : Nat → Nat) (j : Nat) (op : Int) (h1 : op ≠ 1) (h2 : op ≠ 2) : gOf tbs j op = none := by
  unfold gOf
  split
  · rfl
  · unfold kitG
    rw [if_neg h1, if_neg h2]
/-- while the kits are laid one by one -/
def JoinI (w0 : World) (tbs : Nat → Nat) (j : Nat) (wr : World) : Prop := Only (fun _ => False) w0 wr ∧ ∃ es clk, wr.heap[w0.heap.size]? = some (.map es clk) ∧ Reads es (gOf tbs j)
theorem JoinI.start (w0 : World) (tbs : Nat → Nat) : JoinI w0 tbs 0 (w0.alloc (.map #[] 0)) := ⟨(Only.refl _ _).alloc _, #[], 0, heap_alloc_new _ _, Reads.empty⟩
theorem JoinI.enter {w0 wr : World} {tbs : Nat → Nat} {j kb : Nat} (h : JoinI w0 tbs j wr) (hk : w0.heap[kb]? = some (.map (ownEs (tbs j)) 2)) : InK w0 (wr.alloc (.mapIter (some kb) 2 #[] 2)) w0.heap.size wr.heap.size kb (tbs j) (gOf tbs j) 0 := by
  obtain ⟨ho, es, clk, h1, h2⟩ := h
  have l0 := (Array.getElem?_eq_some_iff.1 hk).1
  have l1 := (Array.getElem?_eq_some_iff.1 h1).1
  have l2 := ho.size
  exact ⟨#[], es, clk, ho.alloc _, by rw [Below.heap_alloc _ _ _ l1]; exact h1, heap_alloc_new _ _, by rw [Below.heap_alloc _ _ _ (by omega), ho.block kb l0 (fun x => x)]; exact hk, Nat.le_refl _, l2, l0, by omega, .inl ⟨rfl, rfl, h2⟩⟩
theorem JoinI.leave {w0 wr : World} {tbs : Nat → Nat} {j kb rb : Nat} {g0 : Int → Option Value} (h : InK w0 wr w0.heap.size rb kb (tbs j) g0 2) : JoinI w0 tbs (j + 1) wr := by
  obtain ⟨seen, es, clk, h⟩ := h
  refine ⟨h.on, es, clk, h.out, ?_⟩
  have : gOf tbs (j + 1) = kitG (tbs j) := by unfold gOf; rw [if_neg (by omega), Nat.add_sub_cancel]
  rw [this]
  rcases h.st with ⟨h0, _⟩ | ⟨h0, _⟩ | ⟨h0, _⟩ | ⟨_, _, h3⟩
  · omega
  · omega
  · omega
  · exact h3

/-- what Join leaves: a new map that reads so -/
def JoinRes (w : World) (g : Int → Option Value) (e : Ending) (w' : World) : Prop := e = .returned (.map (some w.heap.size)) ∧ Only (fun _ => False) w w' ∧ ∃ es clk, w'.heap[w.heap.size]? = some (.map es clk) ∧ Reads es g

set_option maxRecDepth 100000 in
set_option maxHeartbeats 4000000 in
theorem join_none (w : World) : Calls Try.prog 32 #[.slice none 0 0] w (JoinRes w fun _ => none) := by
  have hmm := @run_makeMap Try.prog
  go_enter Try.func32, Try.ntmps32
  go_wp2
  refine wp_loop_rounds 1 ?_
  rw [rounds_succ]
  go_wp2
  go_ret
  exact ⟨rfl, (Only.refl _ _).alloc _, #[], 0, heap_alloc_new _ _, Reads.empty⟩

set_option maxRecDepth 100000 in
set_option maxHeartbeats 4000000 in
theorem join_two {w : World} {ab : Nat} {kbs tbs : Nat → Nat} (hlt : ab < w.heap.size) (hc : ∀ j, j < 2 → w.cell? ⟨ab, j, none⟩ = some (.map (some (kbs j)))) (hk : ∀ j, j < 2 → w.heap[kbs j]? = some (.map (ownEs (tbs j)) 2)) :
    Calls Try.prog 32 #[.slice (some ⟨ab, 0, none⟩) 2 2] w (JoinRes w (kitG (tbs 1))) := by
  have hmm := @run_makeMap Try.prog
  have HC := Lib.hid hc
  have HK := Lib.hid hk
  clear hc hk
  go_enter Try.func32, Try.ntmps32
  go_wp2
  go_loopg [11] 2 (fun g sl wr => ∃ j : Nat, j ≤ 2 ∧ 2 ≤ j + g ∧ sl = .int .i64 (j : Int) ∧ Hid (JoinI w tbs j wr))
  case atStart => exact ⟨0, by omega, by omega, by go_num, Lib.hid (JoinI.start w tbs)⟩
  case round =>
    obtain ⟨j, hj1, hj2, rfl, hI⟩ := hrel
    by_cases hlt2 : j < 2
    · have hd : decide ((j : Int) < 2) = true := by simp; omega
      have hcj : wr.cell? ⟨ab, j, none⟩ = some (.map (some (kbs j))) := by rw [World.cell?_of_block (hI.out.1.block ab hlt (fun x => x))]; exact HC.out j hlt2
      have hkj : wr.heap[kbs j]? = some (.map (ownEs (tbs j)) 2) := by rw [hI.out.1.block _ (Array.getElem?_eq_some_iff.1 (HK.out j hlt2)).1 (fun x => x)]; exact HK.out j hlt2
      have hrun := run_range_map (P := Try.prog) wr 30 32 128 (kbs j) _ _ Try.underlying30 hkj
      have HE := Lib.hid (hI.out.enter (HK.out j hlt2))
      go_wp2
      go_loopg [17] 2 (fun g _ wx => ∃ n : Nat, n ≤ 2 ∧ 2 ≤ n + g ∧ Hid (InK w wx w.heap.size wr.heap.size (kbs j) (tbs j) (gOf tbs j) n))
      case atStart => exact ⟨0, by omega, by omega, HE⟩
      case round =>
        obtain ⟨n, hn1, hn2, hJ⟩ := hrel
        go_wp2_with (first
          | (at_next; refine wpList_next_kit rfl _ rfl rfl (gOf_none tbs j) hJ.out ?_ ?_)
          | go_in)
        · intro hn
          subst hn
          go_wp2
          go_roundg (2 - (j + 1))
          case measure => omega
          case rel => exact ⟨j + 1, by omega, by omega, by go_num, Lib.hid (JoinI.leave hJ.out)⟩
        · intro op v w1 hn he hm
          go_wp2_with (first
            | (at_mapUpdate; refine wpList_update_kit rfl _ _ _ rfl hm rfl rfl rfl ?_; intro w2 hM2; have HM2 := Lib.hid hM2; clear hM2 hm he; go_frame)
            | go_in)
          go_roundg (2 - (n + 1))
          case measure => omega
          case rel => exact ⟨n + 1, by omega, by omega, HM2⟩
    · have hj : j = 2 := by omega
      subst hj
      go_wp2
      go_ret
      exact ⟨rfl, hI.out.1, hI.out.2⟩
end Go.Proofs.Ytbhbpfpggfcpgaa
namespace Go
open Go.RowKit
open Go.Proofs.Ytbhbpfpggfcpgaa

structure OSeat where
  task : Option Tk
  last : Int
deriving DecidableEq
structure OS where
  words : List Int
  log : List Acc
  seats : List OSeat
  moves : Nat
  calls : List Cal
def OS.at (o : OS) (a : Int) : Int := o.words.getD a.toNat 0
def OS.skip (o : OS) : OS := { o with moves := o.moves + 1 }
def OS.ends (o : OS) (last : Int) (x : Int) : List Cal := o.calls.modify last.toNat fun c => { c with en := o.moves, pt := o.moves, ak := 2, av := wrap64 x }
def OS.step (o : OS) (i : Nat) (se : OSeat) (t : Tk) : OS := match t with
  | .look a => { o with moves := o.moves + 1, log := o.log ++ [⟨o.moves, i, 1, a, 0, 0, o.at a⟩], seats := o.seats.set i ⟨none, se.last⟩, calls := o.ends se.last (o.at a) }
  | .bump a _ false => { o with moves := o.moves + 1, log := o.log ++ [⟨o.moves, i, 1, a, 0, 0, o.at a⟩], seats := o.seats.set i ⟨some (.bump a (o.at a) true), se.last⟩ }
  | .bump a saw true => if o.at a = saw
    then { o with moves := o.moves + 1, words := o.words.set a.toNat (IntKind.u64.wrap (saw + 1)), log := o.log ++ [⟨o.moves, i, 3, a, saw, IntKind.u64.wrap (saw + 1), o.at a⟩], seats := o.seats.set i ⟨none, se.last⟩, calls := o.ends se.last saw }
    else { o with moves := o.moves + 1, log := o.log ++ [⟨o.moves, i, 3, a, saw, IntKind.u64.wrap (saw + 1), o.at a⟩], seats := o.seats.set i ⟨some (.bump a saw false), se.last⟩ }
def OS.begin (o : OS) (i : Nat) (mv : Mv) (t : Tk) : OS :=
  { o with moves := o.moves + 1, seats := o.seats.set i ⟨some t, o.calls.length⟩, calls := o.calls ++ [⟨mv.th, mv.op, mv.arg, mv.data, o.moves, -1, -1, 0, 0⟩] }
def OS.move (size : Int) (o : OS) (mv : Mv) : OS × Bool :=
  if 65536 ≤ o.moves then (o, false)
  else if mv.th < 0 then (o.skip, false)
  else match o.seats[mv.th.toNat]? with
    | none => (o.skip, false)
    | some se => match se.task with
      | some t => if mv.op = 0 then (o.step mv.th.toNat se t, true) else (o.skip, false)
      | none => if mv.op = 0 then (o.skip, false) else match ownMake size mv with
        | none => (o.skip, false)
        | some t => (o.begin mv.th.toNat mv t, true)
def OS.init (l : List Int) (n : Nat) : OS := ⟨l, [], List.replicate n ⟨none, -1⟩, 0, []⟩
def OS.goes (size : Int) (o : OS) (ms : List Mv) : OS := ms.foldl (fun o m => (o.move size m).1) o
def Tk.addr : Tk → Int
  | .look a => a
  | .bump a _ _ => a
/-- the addresses are there -/
structure OS.Ok (o : OS) : Prop where
  addr : ∀ (i : Nat) (se : OSeat) (t : Tk), o.seats[i]? = some se → se.task = some t → 0 ≤ t.addr ∧ t.addr < (o.words.length : Int)
  last : ∀ (i : Nat) (se : OSeat) (t : Tk), o.seats[i]? = some se → se.task = some t → 0 ≤ se.last ∧ se.last < (o.calls.length : Int)

def PM.os {size : Int} (p : PM (ownK size)) : OS := ⟨p.words, p.log, p.seats.map fun se => ⟨se.task, se.last⟩, p.moves, p.calls⟩

theorem OS.move_cases (size : Int) (o : OS) (mv : Mv) :
    (65536 ≤ o.moves ∧ o.move size mv = (o, false)) ∨ (o.moves < 65536 ∧ o.move size mv = (o.skip, false)) ∨
    (o.moves < 65536 ∧ ∃ (i : Nat) (se : OSeat) (t : Tk), mv.th = (i : Int) ∧ o.seats[i]? = some se ∧ se.task = some t ∧ mv.op = 0 ∧ o.move size mv = (o.step i se t, true)) ∨
    (o.moves < 65536 ∧ ∃ (i : Nat) (se : OSeat) (t : Tk), mv.th = (i : Int) ∧ o.seats[i]? = some se ∧ se.task = none ∧ mv.op ≠ 0 ∧ ownMake size mv = some t ∧ o.move size mv = (o.begin i mv t, true)) := by
  unfold OS.move
  by_cases hf : 65536 ≤ o.moves
  · exact .inl ⟨hf, by rw [if_pos hf]⟩
  refine .inr ?_
  simp only [if_neg hf]
  by_cases h0 : mv.th < 0
  · exact .inl ⟨by omega, by rw [if_pos h0]⟩
  simp only [if_neg h0]
  cases hse : o.seats[mv.th.toNat]? with
  | none => exact .inl ⟨by omega, rfl⟩
  | some se =>
    cases hta : se.task with
    | some t =>
      by_cases hop : mv.op = 0
      · exact .inr (.inl ⟨by omega, mv.th.toNat, se, t, by omega, hse, hta, hop, by simp only [hta, if_pos hop]⟩)
      · exact .inl ⟨by omega, by simp only [hta, if_neg hop]⟩
    | none =>
      by_cases hop : mv.op = 0
      · exact .inl ⟨by omega, by simp only [hta, if_pos hop]⟩
      · cases hmk : ownMake size mv with
        | none => exact .inl ⟨by omega, by simp only [hta, if_neg hop]⟩
        | some t => exact .inr (.inr ⟨by omega, mv.th.toNat, se, t, by omega, hse, hta, hop, rfl, by simp only [hta, if_neg hop]⟩)

theorem modify_id {α : Type} (l : List α) (i : Nat) (f : α → α) (x : α) (h : l[i]? = some x) (hf : f x = x) : l.modify i f = l := by
  apply List.ext_getElem?
  intro j
  rw [List.getElem?_modify]
  by_cases e : i = j
  · subst e; rw [h]; simp [hf]
  · simp [e]
theorem set_self {α : Type} (l : List α) (i : Nat) (x : α) (h : l[i]? = some x) : l.set i x = l := by
  apply List.ext_getElem?
  intro j
  rw [List.getElem?_set]
  by_cases e : i = j
  · subst e; obtain ⟨h1, rfl⟩ := List.getElem?_eq_some_iff.1 h; simp [h1]
  · simp [e]
theorem set_modify {α : Type} (l : List α) (i : Nat) (f : α → α) (x : α) (h : l[i]? = some x) : l.set i (f x) = l.modify i f := by
  apply List.ext_getElem?
  intro j
  rw [List.getElem?_set, List.getElem?_modify]
  by_cases e : i = j
  · subst e; obtain ⟨h1, rfl⟩ := List.getElem?_eq_some_iff.1 h; simp [h1]
  · simp [e]

section
variable (ws : List Int) (lg : List Acc) (ah : List Int) (mv : Int) (sh : List Shf) (th now pt ak av : Int) (a : Nat) (h : a < ws.length)
include h
theorem tk_look : Tk.step (.look a) ⟨⟨ws, lg, ah, mv⟩, sh, false, th, now, pt, ak, av⟩ = (.look a, ⟨⟨ws, lg ++ [⟨mv, th, 1, a, 0, 0, ws.getD a 0⟩], ah ++ [ws.getD a 0], mv⟩, sh, true, th, now, now, 2, wrap64 (ws.getD a 0)⟩, true) := by
  simp [Tk.step, DeskS.load, DeskS.word, DeskS.can, h, DeskS.tell, MemS.load, MemS.note, MemS.at]
theorem tk_first (saw : Int) : Tk.step (.bump a saw false) ⟨⟨ws, lg, ah, mv⟩, sh, false, th, now, pt, ak, av⟩ = (.bump a (ws.getD a 0) true, ⟨⟨ws, lg ++ [⟨mv, th, 1, a, 0, 0, ws.getD a 0⟩], ah ++ [ws.getD a 0], mv⟩, sh, true, th, now, pt, ak, av⟩, false) := by
  simp [Tk.step, DeskS.load, DeskS.word, DeskS.can, h, MemS.load, MemS.note, MemS.at]
theorem tk_yes (saw : Int) (he : ws.getD a 0 = saw) : Tk.step (.bump a saw true) ⟨⟨ws, lg, ah, mv⟩, sh, false, th, now, pt, ak, av⟩ =
    (.bump a saw true, ⟨⟨ws.set a (IntKind.u64.wrap (saw + 1)), lg ++ [⟨mv, th, 3, a, saw, IntKind.u64.wrap (saw + 1), ws.getD a 0⟩], ah ++ [ws.getD a 0], mv⟩, sh, true, th, now, now, 2, wrap64 saw⟩, true) := by
  subst he
  simp [Tk.step, DeskS.swaps, DeskS.swap, DeskS.can, h, DeskS.tell, MemS.swap, MemS.note, MemS.at]
theorem tk_no (saw : Int) (he : ws.getD a 0 ≠ saw) : Tk.step (.bump a saw true) ⟨⟨ws, lg, ah, mv⟩, sh, false, th, now, pt, ak, av⟩ =
    (.bump a saw false, ⟨⟨ws, lg ++ [⟨mv, th, 3, a, saw, IntKind.u64.wrap (saw + 1), ws.getD a 0⟩], ah ++ [ws.getD a 0], mv⟩, sh, true, th, now, pt, ak, av⟩, false) := by
  have he' : ¬ ws[a]?.getD 0 = saw := by simpa [List.getD] using he
  have he2 : ¬ ws[a] = saw := by simpa [h] using he'
  simp [Tk.step, DeskS.swaps, DeskS.swap, DeskS.can, h, MemS.swap, MemS.note, MemS.at, he2]
end

theorem PM.os_step {size : Int} {p : PM (ownK size)} {i : Nat} {se : PSeat (ownK size).T} {t : Tk} (_hs : p.seats[i]? = some se) (_ht : se.task = some t) (ha : 0 ≤ t.addr ∧ t.addr < (p.words.length : Int)) (hl : 0 ≤ se.last ∧ se.last < (p.calls.length : Int)) :
    (p.step i se t).os = p.os.step i ⟨se.task, se.last⟩ t := by
  obtain ⟨ca, hca⟩ : ∃ ca, p.calls[se.last.toNat]? = some ca := ⟨_, List.getElem?_eq_getElem (by omega)⟩
  have hcg : p.calls.getD se.last.toNat default = ca := getD_of hca
  have hr : p.res i se ca t = ((), (t.step ⟨⟨p.words, p.log, p.ahead, p.moves⟩, p.shifts, false, i, p.moves, ca.pt, se.ak, se.av⟩).1, (t.step ⟨⟨p.words, p.log, p.ahead, p.moves⟩, p.shifts, false, i, p.moves, ca.pt, se.ak, se.av⟩).2.1, (t.step ⟨⟨p.words, p.log, p.ahead, p.moves⟩, p.shifts, false, i, p.moves, ca.pt, se.ak, se.av⟩).2.2) := by
    unfold PM.res
    cases se.ready <;> rfl
  have hmap : ∀ x : PSeat (ownK size).T, List.map (fun se => (⟨se.task, se.last⟩ : OSeat)) (p.seats.set i x) = (p.seats.map fun se => (⟨se.task, se.last⟩ : OSeat)).set i ⟨x.task, x.last⟩ := fun x => List.map_set ..
  obtain ⟨an, han⟩ : ∃ n : Nat, t.addr = n := ⟨t.addr.toNat, by omega⟩
  have hlt : an < p.words.length := by omega
  unfold PM.step PM.os
  simp only [hcg, hr, hmap]
  cases t with
  | look a =>
    have ha' : a = an := han
    subst ha'
    rw [tk_look _ _ _ _ _ _ _ _ _ _ _ hlt]
    refine congr (congr (congr (congr (congrArg OS.mk rfl) rfl) rfl) rfl) ?_
    exact set_modify p.calls se.last.toNat (fun c => { c with en := p.moves, pt := p.moves, ak := 2, av := wrap64 (p.words.getD an 0) }) ca hca
  | bump a saw ld =>
    have ha' : a = an := han
    subst ha'
    cases ld with
    | false =>
      rw [tk_first _ _ _ _ _ _ _ _ _ _ _ hlt]
      refine congr (congr (congr (congr (congrArg OS.mk rfl) rfl) rfl) rfl) ?_
      exact set_self _ _ _ hca
    | true =>
      have hat : OS.at ⟨p.words, p.log, p.seats.map fun se => ⟨se.task, se.last⟩, p.moves, p.calls⟩ (an : Int) = p.words.getD an 0 := rfl
      by_cases he : p.words.getD an 0 = saw
      · rw [tk_yes _ _ _ _ _ _ _ _ _ _ _ hlt _ he]
        simp only [OS.step, hat, if_pos he]
        refine congr (congr (congr (congr (congrArg OS.mk rfl) rfl) rfl) rfl) ?_
        exact set_modify p.calls se.last.toNat (fun c => { c with en := p.moves, pt := p.moves, ak := 2, av := wrap64 saw }) ca hca
      · rw [tk_no _ _ _ _ _ _ _ _ _ _ _ hlt _ he]
        simp only [OS.step, hat, if_neg he]
        refine congr (congr (congr (congr (congrArg OS.mk rfl) rfl) rfl) rfl) ?_
        exact set_self _ _ _ hca

theorem PM.os_move {size : Int} {p : PM (ownK size)} (hok : p.os.Ok) (mv : Mv) : (p.move mv).1.os = (p.os.move size mv).1 ∧ (p.move mv).2 = (p.os.move size mv).2 := by
  unfold PM.move OS.move
  have e0 : p.os.moves = p.moves := rfl
  rw [e0]
  split
  · exact ⟨rfl, rfl⟩
  split
  · exact ⟨rfl, rfl⟩
  have e1 : p.os.seats[mv.th.toNat]? = (p.seats[mv.th.toNat]?).map fun se => (⟨se.task, se.last⟩ : OSeat) := List.getElem?_map ..
  rw [e1]
  cases hse : p.seats[mv.th.toNat]? with
  | none => exact ⟨rfl, rfl⟩
  | some se =>
    simp only [Option.map_some]
    cases hta : se.task with
    | some t =>
      simp only
      split
      · have hs : p.os.seats[mv.th.toNat]? = some ⟨se.task, se.last⟩ := by rw [e1, hse]; rfl
        have h1 := PM.os_step (p := p) hse hta (hok.addr _ _ _ hs hta) (hok.last _ _ _ hs hta)
        rw [hta] at h1
        exact ⟨h1, rfl⟩
      · exact ⟨rfl, rfl⟩
    | none =>
      simp only
      split
      · exact ⟨rfl, rfl⟩
      · have e2 : (ownK size).make p.s mv = ownMake size mv := rfl
        rw [e2]
        cases ownMake size mv with
        | none => exact ⟨rfl, rfl⟩
        | some t =>
          refine ⟨?_, rfl⟩
          show OS.mk _ _ _ _ _ = OS.mk _ _ _ _ _
          refine congr (congr (congr (congr (congrArg OS.mk rfl) rfl) ?_) rfl) rfl
          show (p.seats.set _ _).map _ = _
          exact List.map_set ..

theorem ownMake_some {size : Int} {mv : Mv} {t : Tk} (h : ownMake size mv = some t) : 0 ≤ mv.arg ∧ mv.arg < size ∧ ((mv.op = 1 ∧ t = .look mv.arg) ∨ (mv.op = 2 ∧ t = .bump mv.arg 0 false)) := by
  unfold ownMake at h
  split at h
  · rename_i h1
    simp only [Bool.and_eq_true, decide_eq_true_eq] at h1
    refine ⟨h1.1, h1.2, ?_⟩
    split at h
    · rename_i h2; cases h; exact .inl ⟨h2, rfl⟩
    · split at h
      · rename_i h2; cases h; exact .inr ⟨h2, rfl⟩
      · cases h
  · cases h

theorem OS.words_len (o : OS) (size : Int) (mv : Mv) : (o.move size mv).1.words.length = o.words.length := by
  rcases o.move_cases size mv with ⟨_, e⟩ | ⟨_, e⟩ | ⟨_, i, se, t, _, _, _, _, e⟩ | ⟨_, i, se, t, _, _, _, _, _, e⟩
  · rw [e]
  · rw [e]; rfl
  · rw [e]
    unfold OS.step
    split
    · rfl
    · rfl
    · split
      · exact List.length_set ..
      · rfl
  · rw [e]; rfl

theorem OS.Ok.move {o : OS} (h : o.Ok) {size : Int} (hsz : size = (o.words.length : Int)) (mv : Mv) : (o.move size mv).1.Ok := by
  have hw := o.words_len size mv
  rcases o.move_cases size mv with ⟨_, e⟩ | ⟨_, e⟩ | ⟨_, i, se, t, hi, hs, hta, hop, e⟩ | ⟨_, i, se, t, hi, hs, hta, hop, hm, e⟩
  · rw [e]; exact h
  · rw [e]; exact ⟨h.addr, h.last⟩
  · rw [e] at hw ⊢
    have ha := h.addr i se t hs hta
    have hl := h.last i se t hs hta
    have key : ∃ x, (o.step i se t).seats = o.seats.set i x ∧ x.last = se.last ∧ (∀ t', x.task = some t' → t'.addr = t.addr) ∧ (o.step i se t).calls.length = o.calls.length := by
      unfold OS.step
      split
      · exact ⟨_, rfl, rfl, fun t' h' => (by cases h'), by simp [OS.ends]⟩
      · exact ⟨_, rfl, rfl, fun t' h' => (by cases h'; rfl), rfl⟩
      · split
        · exact ⟨_, rfl, rfl, fun t' h' => (by cases h'), by simp [OS.ends]⟩
        · exact ⟨_, rfl, rfl, fun t' h' => (by cases h'; rfl), rfl⟩
    obtain ⟨x, k1, k2, k3, k4⟩ := key
    refine ⟨fun j sj tj hj htj => ?_, fun j sj tj hj htj => ?_⟩
    · rw [k1] at hj
      rw [hw]
      rcases set_cases hj with ⟨_, rfl⟩ | h2
      · rw [k3 tj htj]; exact ha
      · exact h.addr j sj tj h2 htj
    · rw [k1] at hj
      rw [k4]
      rcases set_cases hj with ⟨_, rfl⟩ | h2
      · rw [k2]; exact hl
      · exact h.last j sj tj h2 htj
  · rw [e] at hw ⊢
    obtain ⟨m1, m2, m3⟩ := ownMake_some hm
    refine ⟨fun j sj tj hj htj => ?_, fun j sj tj hj htj => ?_⟩
    · rcases set_cases hj with ⟨_, rfl⟩ | h2
      · cases htj
        rw [hw, ← hsz]
        rcases m3 with ⟨_, rfl⟩ | ⟨_, rfl⟩ <;> exact ⟨m1, m2⟩
      · rw [hw]; exact h.addr j sj tj h2 htj
    · show _ ∧ _ < ((o.calls ++ [_]).length : Int)
      rw [List.length_append, List.length_singleton]
      rcases set_cases hj with ⟨_, rfl⟩ | h2
      · exact ⟨by show (0 : Int) ≤ o.calls.length; omega, by show (o.calls.length : Int) < _; omega⟩
      · have := h.last j sj tj h2 htj; omega

theorem OS.goes_snoc (size : Int) (o : OS) (ms : List Mv) (m : Mv) : o.goes size (ms ++ [m]) = ((o.goes size ms).move size m).1 := by simp [OS.goes, List.foldl_append]
theorem OS.goes_append (size : Int) (o : OS) (a b : List Mv) : o.goes size (a ++ b) = (o.goes size a).goes size b := by simp [OS.goes, List.foldl_append]
theorem OS.goes_len (size : Int) (o : OS) (ms : List Mv) : (o.goes size ms).words.length = o.words.length := by
  induction ms generalizing o with
  | nil => rfl
  | cons m ms ih => exact (ih _).trans (o.words_len size m)
theorem OS.Ok.goes {o : OS} (h : o.Ok) {size : Int} (hsz : size = (o.words.length : Int)) (ms : List Mv) : (o.goes size ms).Ok := by
  induction ms generalizing o with
  | nil => exact h
  | cons m ms ih => exact ih (h.move hsz m) (by rw [OS.words_len]; exact hsz)
theorem OS.Ok.init (l : List Int) (n : Nat) : (OS.init l n).Ok := by
  refine ⟨fun i se t h ht => ?_, fun i se t h ht => ?_⟩ <;>
  · simp only [OS.init, List.getElem?_replicate] at h
    split at h
    · cases h; cases ht
    · cases h
theorem PM.os_goes {size : Int} {p : PM (ownK size)} (hok : p.os.Ok) (hsz : size = (p.words.length : Int)) (ms : List Mv) : (p.goes ms).os = p.os.goes size ms := by
  induction ms generalizing p with
  | nil => rfl
  | cons m ms ih =>
    have h1 := PM.os_move hok m
    have h2 := hok.move (size := size) hsz m
    show (PM.goes (p.move m).1 ms).os = OS.goes size (p.os.move size m).1 ms
    rw [← h1.1] at h2 ⊢
    exact ih h2 (by rw [PM.words_len (own_words _)]; exact hsz)
theorem PM.os_init (l : List Int) (n : Nat) : (PM.init (ownK l.length) l n ()).os = OS.init l n := by
  unfold PM.os PM.init OS.init
  simp only
  refine congr (congr (congr (congr (congrArg OS.mk rfl) rfl) ?_) rfl) rfl
  exact List.map_replicate ..

theorem PM.shifts_move {size : Int} (p : PM (ownK size)) (mv : Mv) : (p.move mv).1.shifts = p.shifts := by
  rcases p.move_cases mv with ⟨_, e⟩ | ⟨ht, e⟩ | ⟨ht, i, se, t, hi, hs, hta, hop, e⟩ | ⟨ht, i, se, t, hi, hs, hta, hop, hm, e⟩
  · rw [e]
  · rw [e]; rfl
  · rw [e]
    show (p.res i se (p.calls.getD se.last.toNat default) t).2.2.1.shifts = p.shifts
    have h1 : (p.res i se (p.calls.getD se.last.toNat default) t).2.2.1 = (Tk.step t (p.desk i se (p.calls.getD se.last.toNat default))).2.1 := by
      unfold PM.res
      cases se.ready <;> rfl
    rw [h1]
    exact (tstep_few t _).2.2.1
  · rw [e]; rfl
theorem PM.shifts_goes {size : Int} (p : PM (ownK size)) (ms : List Mv) : (p.goes ms).shifts = p.shifts := by
  induction ms generalizing p with
  | nil => rfl
  | cons m ms ih => exact (ih (p.move m).1).trans (p.shifts_move m)

def osOf (l : List Int) (n : Nat) (ms : List Mv) : OS := (OS.init l n).goes l.length ms
theorem own_os (l : List Int) (n : Nat) (ms : List Mv) : ownRun l n ms = ⟨(osOf l n ms).calls, (osOf l n ms).log, [], (osOf l n ms).words⟩ := by
  have h := PM.os_goes (p := PM.init (ownK l.length) l n ()) (by rw [PM.os_init]; exact OS.Ok.init l n) rfl ms
  rw [PM.os_init] at h
  unfold ownRun PM.run osOf
  rw [← h]
  show (⟨_, _, _, _⟩ : RunS) = ⟨_, _, _, _⟩
  rw [PM.shifts_goes]
  rfl
/-- did a move do something -/
theorem own_did (l : List Int) (n : Nat) (ms : List Mv) (mv : Mv) : (((PM.init (ownK l.length) l n ()).goes ms).move mv).2 = ((osOf l n ms).move l.length mv).2 := by
  have h := PM.os_goes (p := PM.init (ownK l.length) l n ()) (by rw [PM.os_init]; exact OS.Ok.init l n) rfl ms
  rw [PM.os_init] at h
  have hok : ((PM.init (ownK l.length) l n ()).goes ms).os.Ok := by rw [h]; exact (OS.Ok.init l n).goes rfl ms
  rw [(PM.os_move hok mv).2, h]
  rfl
end Go
