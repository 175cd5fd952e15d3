/-
Arguments that come in: a slice of words, a script.
-/
import Derived.Test.YtpmadfokpimjcaaRep
import Derived.Test.YtpmadfokpimjcaaClose
import Derived.ChangeSlices
import Derived.Deep.Slices
import Derived.Deep.Fields
import Derived.ChangeSame
namespace Go.Proofs.Ytpmadfokpimjcaa
open Go.ChangeShapes Go.WideShapes Go.ChangeAt Go.RowKit Go.Deep

section
variable {H : Type} {enc : TypeId × Value → H} {W : World} {base : Nat} {sp : Nat → Bool} {held : Bool}

theorem in_words {v : Value} {d : DataW H} {p : List MemPlace} {r : Reach} {b0 : Nat} (hv : Value.okWide Try.prog W r b0 22 v) (h : DataW.Trod enc Try.prog W base sp held 22 v d p) :
    ∃ l : List Int, W.Src 1 v l.length (u64s l) ∧ (∀ x ∈ l, 0 ≤ x ∧ x ≤ 18446744073709551615) ∧ l.length ≤ maxLen := by
  have hc : Try.prog.cellsOf 23 = 1 := by kernel_rfl
  obtain ⟨a0, len, cap, rfl⟩ := okWide_slice Try.underlying22 hv
  obtain ⟨fuel, hf⟩ := h
  rcases open_ints Try.underlying22 Try.underlying23 hc hf with ⟨hcs, _⟩ | ⟨a, len', cap', zs, hcs, _, hl, hm, hz, hx, hcell, hwz⟩
  · simp [Value.cells] at hcs
    obtain ⟨rfl, rfl, rfl⟩ := hcs
    exact ⟨[], ⟨by simp [u64s], .inl ⟨rfl, rfl⟩⟩, by simp, by simp⟩
  · simp [Value.cells] at hcs
    obtain ⟨rfl, rfl, rfl⟩ := hcs
    have hle : len ≤ zs.length := by rw [hz]; split <;> omega
    have hlen : (zs.take len).length = len := by simp; omega
    refine ⟨zs.take len, ?_, ?_, by omega⟩
    · rw [hlen]
      refine ⟨by simp [u64s]; omega, .inr ⟨a, cap, rfl, hl, fun j u hu => ?_⟩⟩
      have hj : j < len := by
        rcases Nat.lt_or_ge j len with h | h
        · exact h
        · rw [List.getElem?_eq_none (by simp [u64s]; omega)] at hu; cases hu
      rw [hcell j (by omega)]
      have : (u64s (zs.take len))[j]? = some (.int .u64 (zs.getD j 0)) := by
        simp [u64s, hj, show j < zs.length by omega]
      rw [this] at hu
      exact hu
    · intro x hx'
      have := hwz x (List.mem_of_mem_take hx')
      simp [Lit.wf, IntKind.min, IntKind.max, IntKind.signed, IntKind.bits] at this
      omega

theorem int_part {k : IntKind} {t : TypeId} {fuel i : Nat} {cs : List Value} {y : Option (DataW H × List MemPlace)} (ht : Try.prog.underlying t = some (.int k)) (hi : i < cs.length) (hy : y.isSome = true) (h : DataW.trod enc Try.prog W base sp held fuel t ((cs.drop i).take 1) = y) : ∃ z, cs[i]? = some (.int k z) := by
  obtain ⟨x, hx⟩ := Option.isSome_iff_exists.1 hy
  rw [hx] at h
  obtain ⟨n, hn, _, _⟩ := DataW.trod_int ht h
  refine ⟨n, ?_⟩
  have ht1 : (cs.drop i).take 1 = [cs[i]] := by rw [List.drop_eq_getElem_cons hi]; rfl
  rw [ht1] at hn
  rw [List.getElem?_eq_getElem hi, (List.cons.inj hn).1]

theorem in_op {cs : List Value} {fuel : Nat} {x : DataW H × List MemPlace} (h : DataW.trod enc Try.prog W base sp held fuel 38 cs = some x) (hl : cs.length = 6) :
    ∃ o : OpS, cs = [.int .i64 o.kd, .int .i64 o.th, .int .i64 o.ad, .int .i64 o.n, .int .u64 o.old, .int .u64 o.w] := by
  obtain ⟨ys, n, _, _, _, hyl, hf⟩ := DataW.trod_struct Try.underlying38 h
  have c3 : Try.prog.cellsOf 3 = 1 := by kernel_rfl
  have c23 : Try.prog.cellsOf 23 = 1 := by kernel_rfl
  have hys : ∀ i, i < 6 → (ys[i]?).isSome = true := fun i hi => by
    have : ys.length = 6 := hyl
    rw [List.getElem?_eq_getElem (by omega)]
    rfl
  have f0 : DataW.trod enc Try.prog W base sp held n 3 ((cs.drop 0).take (Try.prog.cellsOf 3)) = ys[0]? := hf 0 _ rfl
  have f1 : DataW.trod enc Try.prog W base sp held n 3 ((cs.drop 1).take (Try.prog.cellsOf 3)) = ys[1]? := hf 1 _ rfl
  have f2 : DataW.trod enc Try.prog W base sp held n 3 ((cs.drop 2).take (Try.prog.cellsOf 3)) = ys[2]? := hf 2 _ rfl
  have f3 : DataW.trod enc Try.prog W base sp held n 3 ((cs.drop 3).take (Try.prog.cellsOf 3)) = ys[3]? := hf 3 _ rfl
  have f4 : DataW.trod enc Try.prog W base sp held n 23 ((cs.drop 4).take (Try.prog.cellsOf 23)) = ys[4]? := hf 4 _ rfl
  have f5 : DataW.trod enc Try.prog W base sp held n 23 ((cs.drop 5).take (Try.prog.cellsOf 23)) = ys[5]? := hf 5 _ rfl
  rw [c3] at f0 f1 f2 f3
  rw [c23] at f4 f5
  obtain ⟨z0, g0⟩ := int_part Try.underlying3 (by omega) (hys 0 (by omega)) f0
  obtain ⟨z1, g1⟩ := int_part Try.underlying3 (by omega) (hys 1 (by omega)) f1
  obtain ⟨z2, g2⟩ := int_part Try.underlying3 (by omega) (hys 2 (by omega)) f2
  obtain ⟨z3, g3⟩ := int_part Try.underlying3 (by omega) (hys 3 (by omega)) f3
  obtain ⟨z4, g4⟩ := int_part Try.underlying23 (by omega) (hys 4 (by omega)) f4
  obtain ⟨z5, g5⟩ := int_part Try.underlying23 (by omega) (hys 5 (by omega)) f5
  refine ⟨⟨z0, z1, z2, z3, z4, z5⟩, ?_⟩
  match cs, hl with
  | [x0, x1, x2, x3, x4, x5], _ =>
    simp at g0 g1 g2 g3 g4 g5
    simp [g0, g1, g2, g3, g4, g5]

theorem add_at (b off i : Nat) : (⟨b, off, none⟩ : Addr).add i = ⟨b, off + i, none⟩ := by unfold Addr.add; split <;> simp_all

theorem in_ops {v : Value} {d : DataW H} {p : List MemPlace} {r : Reach} {b0 : Nat} (hv : Value.okWide Try.prog W r b0 33 v) (h : DataW.Trod enc Try.prog W base sp held 33 v d p) :
    ∃ ops : List OpS, OpsIn W v ops ∧ ops.length ≤ maxLen ∧ (d = .nil ∧ ops = [] ∨ ∃ es rest, d = .slice es rest ∧ es.length = ops.length) := by
  have hc : Try.prog.cellsOf 38 = 6 := by kernel_rfl
  obtain ⟨a0, len, cap, rfl⟩ := okWide_slice Try.underlying33 hv
  obtain ⟨fuel, hf⟩ := h
  rcases open_slice Try.underlying33 hf with ⟨hcs, hx⟩ | ⟨a, len', cap', m, n, D, Pl, hcs, hb, hl, hm, hmm, hx, hi⟩
  · simp [Value.cells] at hcs
    obtain ⟨rfl, rfl, rfl⟩ := hcs
    simp only [Prod.mk.injEq] at hx
    exact ⟨[], ⟨none, 0, rfl, fun i h => by simp at h⟩, by simp, .inl ⟨hx.1, rfl⟩⟩
  · simp [Value.cells] at hcs
    obtain ⟨rfl, rfl, rfl⟩ := hcs
    simp only [Prod.mk.injEq] at hx
    have hlm : len ≤ m := by rw [hmm]; split <;> omega
    have hop : ∀ i, ∃ o : OpS, i < len → ∀ j u, [Value.int .i64 o.kd, .int .i64 o.th, .int .i64 o.ad, .int .i64 o.n, .int .u64 o.old, .int .u64 o.w][j]? = some u → W.cell? ((a.add (i * 6)).add j) = some u := by
      intro i
      by_cases hil : i < len
      · obtain ⟨cs', h1, h2⟩ := hi i (by omega)
        rw [hc] at h1
        obtain ⟨_, h3, h4⟩ := World.cells?_some h1
        obtain ⟨o, rfl⟩ := in_op h2 h3
        refine ⟨o, fun _ j u hu => ?_⟩
        have hj : j < 6 := by
          rcases Nat.lt_or_ge j 6 with h | h
          · exact h
          · rw [List.getElem?_eq_none (by simp; omega)] at hu; cases hu
        rw [h4 j hj, hu]
      · exact ⟨⟨0, 0, 0, 0, 0, 0⟩, fun h => absurd h hil⟩
    obtain ⟨f, hfc⟩ := Classical.axiomOfChoice hop
    refine ⟨(List.range len).map f, ⟨some a, cap, by simp, fun i hi' => ?_⟩, by simp; omega, .inr ⟨_, _, hx.1, by simp⟩⟩
    have hil : i < len := by simpa using hi'
    have e : ((List.range len).map f)[i] = f i := by simp
    rw [e]
    obtain ⟨b, off, spot⟩ := a
    have hs : spot = none := by
      have := World.cell?_spot (hfc 0 (by omega) 0 _ rfl)
      simpa [Addr.add] using this
    subst hs
    have hq := hfc i hil
    simp only [add_at] at hq
    exact ⟨b, off, rfl, World.block_lt_of_cell? W _ (hq 0 _ rfl), hq 0 _ rfl, hq 1 _ rfl, hq 2 _ rfl, hq 3 _ rfl, hq 4 _ rfl, hq 5 _ rfl⟩

theorem weights_at {P : Program} {p : Nat → Bool} : ∀ {ts : List TypeId} {ds : List (DataW H)}, (DataW.weightsEach P ts ds).all p = true → ∀ (i : Nat) {t : TypeId} {d : DataW H}, ts[i]? = some t → ds[i]? = some d → (d.weights P t).all p = true := by
  intro ts
  induction ts with
  | nil => intro ds _ i t d h; simp at h
  | cons t0 ts ih =>
    intro ds hw i t d ht hd
    cases ds with
    | nil => simp at hd
    | cons d0 ds =>
      have e : DataW.weightsEach P (t0 :: ts) (d0 :: ds) = d0.weights P t0 ++ DataW.weightsEach P ts ds := by conv => lhs; unfold DataW.weightsEach
      rw [e, List.all_append, Bool.and_eq_true] at hw
      cases i with
      | zero =>
        obtain rfl : t0 = t := by simpa using ht
        obtain rfl : d0 = d := by simpa using hd
        exact hw.1
      | succ i => exact ih hw.2 i (by simpa using ht) (by simpa using hd)

theorem ops_weight {d : DataW H} {ops : List OpS} (h : d = .nil ∧ ops = [] ∨ ∃ es rest, d = .slice es rest ∧ es.length = ops.length) (hw : (d.weights Try.prog 33).all (· ≤ reachBytes) = true) : ops.length ≤ 2999999999999 := by
  rcases h with ⟨_, rfl⟩ | ⟨es, rest, rfl, he⟩
  · simp
  · have hb : Try.prog.bytesOf 38 = 48 := by kernel_rfl
    have h1 : (es.length + rest.length) * Try.prog.bytesOf 38 ≤ reachBytes := by
      refine of_decide_eq_true (List.all_eq_true.1 hw _ ?_)
      unfold DataW.weights
      rw [Try.underlying33]
      exact List.mem_cons_self ..
    rw [hb] at h1
    have h2 : reachBytes ≤ 140737488351232 := by decide
    omega
end
end Go.Proofs.Ytpmadfokpimjcaa
