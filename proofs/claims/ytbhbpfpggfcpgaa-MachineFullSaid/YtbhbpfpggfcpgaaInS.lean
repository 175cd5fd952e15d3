/-
Arguments that come in: a script of a machine (threads, words, moves).
-/
import Derived.Test.YtbhbpfpggfcpgaaFit
import Derived.Test.YtbhbpfpggfcpgaaClose
import Derived.ChangeSlices
import Derived.Deep.Slices
import Derived.Deep.Fields
import Derived.ChangeSame
namespace Go.Proofs.Ytbhbpfpggfcpgaa
open Go.ChangeShapes Go.WideShapes Go.ChangeAt Go.RowKit Go.Deep

section
variable {H : Type} {enc : TypeId × Value → H} {W : World} {base : Nat} {sp : Nat → Bool} {held : Bool}

theorem words_cells {cs : List Value} {fuel : Nat} {x : DataW H × List MemPlace} (hf : DataW.trod enc Try.prog W base sp held fuel 28 cs = some x) :
    ∃ (l : List Int) (ox : Option Addr) (cx : Nat), cs = [.slice ox l.length cx] ∧ W.Src 1 (.slice ox l.length cx) l.length (u64s l) ∧ l.length ≤ cx ∧ cx ≤ maxLen ∧ (ox = none → cx = 0) := by
  have hc : Try.prog.cellsOf 27 = 1 := by kernel_rfl
  rcases open_ints Try.underlying28 Try.underlying27 hc hf with ⟨hcs, _⟩ | ⟨a, len, cap, zs, hcs, _, hl, hm, hz, hx, hcell, hwz⟩
  · exact ⟨[], none, 0, hcs, ⟨by simp [u64s], .inl ⟨rfl, rfl⟩⟩, by simp, by simp, fun _ => rfl⟩
  · have hle : len ≤ zs.length := by rw [hz]; split <;> omega
    have hlen : (zs.take len).length = len := by simp; omega
    refine ⟨zs.take len, some a, cap, by rw [hlen]; exact hcs, ?_, by rw [hlen]; exact hl, hm, fun h => by cases h⟩
    rw [hlen]
    refine ⟨by simp [u64s]; omega, .inr ⟨a, cap, rfl, hl, fun j u hu => ?_⟩⟩
    have hj : j < len := by
      rcases Nat.lt_or_ge j len with h | h
      · exact h
      · rw [List.getElem?_eq_none (by simp [u64s]; omega)] at hu; cases hu
    rw [hcell j (by omega)]
    have : (u64s (zs.take len))[j]? = some (.int .u64 (zs.getD j 0)) := by
      simp [u64s, hj, show j < zs.length by omega]
    rw [this] at hu
    exact hu

theorem int_part {k : IntKind} {t : TypeId} {fuel i : Nat} {cs : List Value} {y : Option (DataW H × List MemPlace)} (ht : Try.prog.underlying t = some (.int k)) (hi : i < cs.length) (hy : y.isSome = true) (h : DataW.trod enc Try.prog W base sp held fuel t ((cs.drop i).take 1) = y) : ∃ z, cs[i]? = some (.int k z) := by
  obtain ⟨x, hx⟩ := Option.isSome_iff_exists.1 hy
  rw [hx] at h
  obtain ⟨n, hn, _, _⟩ := DataW.trod_int ht h
  refine ⟨n, ?_⟩
  have ht1 : (cs.drop i).take 1 = [cs[i]] := by rw [List.drop_eq_getElem_cons hi]; rfl
  rw [ht1] at hn
  rw [List.getElem?_eq_getElem hi, (List.cons.inj hn).1]

set_option maxRecDepth 100000 in
theorem in_move {cs : List Value} {fuel : Nat} {x : DataW H × List MemPlace} (h : DataW.trod enc Try.prog W base sp held fuel 34 cs = some x) (hl : cs.length = 4) :
    ∃ o : Mv, cs = [.int .i64 o.th, .int .i64 o.op, .int .i64 o.arg, .int .i64 o.data] := by
  obtain ⟨ys, n, _, _, _, hyl, hf⟩ := DataW.trod_struct Try.underlying34 h
  have c3 : Try.prog.cellsOf 3 = 1 := by kernel_rfl
  have c23 : Try.prog.cellsOf 32 = 1 := by kernel_rfl
  have hys : ∀ i, i < 4 → (ys[i]?).isSome = true := fun i hi => by
    have : ys.length = 4 := hyl
    rw [List.getElem?_eq_getElem (by omega)]
    rfl
  have f0 : DataW.trod enc Try.prog W base sp held n 3 ((cs.drop 0).take (Try.prog.cellsOf 3)) = ys[0]? := hf 0 _ rfl
  have f1 : DataW.trod enc Try.prog W base sp held n 32 ((cs.drop 1).take (Try.prog.cellsOf 32)) = ys[1]? := hf 1 _ rfl
  have f2 : DataW.trod enc Try.prog W base sp held n 3 ((cs.drop 2).take (Try.prog.cellsOf 3)) = ys[2]? := hf 2 _ rfl
  have f3 : DataW.trod enc Try.prog W base sp held n 3 ((cs.drop 3).take (Try.prog.cellsOf 3)) = ys[3]? := hf 3 _ rfl
  rw [c3] at f0 f2 f3
  rw [c23] at f1
  obtain ⟨z0, g0⟩ := int_part Try.underlying3 (by omega) (hys 0 (by omega)) f0
  obtain ⟨z1, g1⟩ := int_part Try.underlying32 (by omega) (hys 1 (by omega)) f1
  obtain ⟨z2, g2⟩ := int_part Try.underlying3 (by omega) (hys 2 (by omega)) f2
  obtain ⟨z3, g3⟩ := int_part Try.underlying3 (by omega) (hys 3 (by omega)) f3
  refine ⟨⟨z0, z1, z2, z3⟩, ?_⟩
  match cs, hl with
  | [x0, x1, x2, x3], _ =>
    simp at g0 g1 g2 g3
    simp [g0, g1, g2, g3]

theorem add_at (b off i : Nat) : (⟨b, off, none⟩ : Addr).add i = ⟨b, off + i, none⟩ := by unfold Addr.add; split <;> simp_all

set_option maxRecDepth 100000 in
theorem moves_cells {cs : List Value} {fuel : Nat} {x : DataW H × List MemPlace} (hf : DataW.trod enc Try.prog W base sp held fuel 22 cs = some x) :
    ∃ (ms : List Mv) (om : Option Addr) (cm : Nat), cs = [.slice om ms.length cm] ∧ MvsIn W (.slice om ms.length cm) ms ∧ ms.length ≤ cm ∧ cm ≤ maxLen ∧ (om = none → cm = 0) := by
  have hc : Try.prog.cellsOf 34 = 4 := by kernel_rfl
  rcases open_slice Try.underlying22 hf with ⟨hcs, hx⟩ | ⟨a, len, cap, m, n, D, Pl, hcs, hb, hl, hm, hmm, hx, hi⟩
  · exact ⟨[], none, 0, hcs, ⟨none, 0, rfl, by simp, by simp, fun i h => by simp at h⟩, by simp, by simp, fun _ => rfl⟩
  · have hlm : len ≤ m := by rw [hmm]; split <;> omega
    have hop : ∀ i, ∃ o : Mv, i < len → ∀ j u, [Value.int .i64 o.th, .int .i64 o.op, .int .i64 o.arg, .int .i64 o.data][j]? = some u → W.cell? ((a.add (i * 4)).add j) = some u := by
      intro i
      by_cases hil : i < len
      · obtain ⟨cs', h1, h2⟩ := hi i (by omega)
        rw [hc] at h1
        obtain ⟨_, h3, h4⟩ := World.cells?_some h1
        obtain ⟨o, rfl⟩ := in_move h2 h3
        refine ⟨o, fun _ j u hu => ?_⟩
        have hj : j < 4 := by
          rcases Nat.lt_or_ge j 4 with h | h
          · exact h
          · rw [List.getElem?_eq_none (by simp; omega)] at hu; cases hu
        rw [h4 j hj, hu]
      · exact ⟨⟨0, 0, 0, 0⟩, fun h => absurd h hil⟩
    obtain ⟨f, hfc⟩ := Classical.axiomOfChoice hop
    have hlen : ((List.range len).map f).length = len := by simp
    refine ⟨(List.range len).map f, some a, cap, by rw [hlen]; exact hcs, ⟨some a, cap, by rw [hlen], by rw [hlen]; exact hl, hm, fun i hi' => ?_⟩, by rw [hlen]; exact hl, hm, fun h => by cases h⟩
    have hil : i < len := by simpa using hi'
    have e : ((List.range len).map f)[i] = f i := by simp
    rw [e]
    obtain ⟨b, off, spot⟩ := a
    have hs : spot = none := by
      have := World.cell?_spot (hfc 0 (by omega) 0 _ rfl)
      simpa [Addr.add] using this
    subst hs
    have hq := hfc i hil
    simp only [add_at] at hq
    exact ⟨b, off, rfl, World.block_lt_of_cell? W _ (hq 0 _ rfl), hq 0 _ rfl, hq 1 _ rfl, hq 2 _ rfl, hq 3 _ rfl⟩

set_option maxRecDepth 100000 in
theorem in_script {v : Value} {d : DataW H} {p : List MemPlace} {r : Reach} {b0 : Nat} (hv : Value.okWide Try.prog W r b0 45 v) (h : DataW.Trod enc Try.prog W base sp held 45 v d p) :
    ∃ th l ms ox cx om cm, ScrIn W v th l ms ox cx om cm := by
  obtain ⟨cs, rfl, hsz⟩ := okWide_struct Try.underlying45 hv
  obtain ⟨fuel, hf⟩ := h
  obtain ⟨ys, n, _, _, hl, hyl, hfs⟩ := DataW.trod_struct Try.underlying45 hf
  have c0 : Try.prog.cellsOf 3 = 1 := by kernel_rfl
  have c1 : Try.prog.cellsOf 28 = 1 := by kernel_rfl
  have c2 : Try.prog.cellsOf 22 = 1 := by kernel_rfl
  have cS : Try.prog.cellsOf 45 = 3 := by kernel_rfl
  rw [cS] at hl
  have hcs : (Value.agg cs).cells.toList = cs.toList := rfl
  simp only [hcs] at hl hfs
  obtain ⟨x0, x1, x2, hx⟩ : ∃ x0 x1 x2, cs.toList = [x0, x1, x2] := by
    match hh : cs.toList, hl with
    | [a, b, c], _ => exact ⟨a, b, c, rfl⟩
  have hys : ∀ i, i < 3 → ∃ y, ys[i]? = some y := fun i hi => by
    have : ys.length = 3 := hyl
    exact ⟨_, List.getElem?_eq_getElem (by omega)⟩
  obtain ⟨y0, q0⟩ := hys 0 (by omega)
  obtain ⟨y1, q1⟩ := hys 1 (by omega)
  obtain ⟨y2, q2⟩ := hys 2 (by omega)
  have f0 : DataW.trod enc Try.prog W base sp held n 3 ((cs.toList.drop 0).take (Try.prog.cellsOf 3)) = ys[0]? := hfs 0 _ rfl
  have f1 : DataW.trod enc Try.prog W base sp held n 28 ((cs.toList.drop 1).take (Try.prog.cellsOf 28)) = ys[1]? := hfs 1 _ rfl
  have f2 : DataW.trod enc Try.prog W base sp held n 22 ((cs.toList.drop 2).take (Try.prog.cellsOf 22)) = ys[2]? := hfs 2 _ rfl
  rw [c0, hx, q0] at f0
  rw [c1, hx, q1] at f1
  rw [c2, hx, q2] at f2
  obtain ⟨th, e0, _, _⟩ := DataW.trod_int Try.underlying3 f0
  obtain ⟨l, ox, cx, e1, k1, k2, k3, k4⟩ := words_cells f1
  obtain ⟨ms, om, cm, e2, j1, j2, j3, j4⟩ := moves_cells f2
  simp at e0 e1 e2
  subst e0 e1 e2
  refine ⟨th, l, ms, ox, cx, om, cm, ⟨?_, k1, j1, ⟨k2, k3, k4⟩, ⟨j2, j3, j4⟩⟩⟩
  have : cs = #[.int .i64 th, .slice ox l.length cx, .slice om ms.length cm] := by
    apply Array.ext'
    rw [hx]
  rw [this]
end
end Go.Proofs.Ytbhbpfpggfcpgaa
