/-
reclaimlaw03.awake: chapter 3's first example.
reclaimlaw03.fit and play.
A law's frame, once for all: a function of one bool result, whose call returns true and leaves all older blocks as they were, meets 'for every input true, and each argument reads as it read'. Over any program.
Arguments that come in: a script of a machine (threads, words, moves).
Arguments that come in: a list of moves.
Openers: a struct of integer fields, as a value and at its cells. Written by wip/genopen.py. Over any program.
-/
import Derived.Test.YtjcggokhminmoaaQArKn
import Derived.WalkKit
import Derived.ProofKit
import Derived.OpenShut
import Derived.Carry
import Derived.SizedLaws
import Derived.ChangeSlices
import Derived.Deep.Slices
import Derived.Deep.Fields
import Derived.ChangeSame
namespace Go.Proofs.Ytjcggokhminmoaa
open Go.ChangeShapes Go.WideShapes Go.ChangeAt Go.RowKit Go.Shelf

def awakeMs : List Mv := [⟨0, 2, 0, 0⟩, ⟨1, 2, 0, 0⟩, ⟨0, 0, 0, 0⟩, ⟨1, 0, 0, 0⟩, ⟨0, 0, 0, 0⟩, ⟨1, 0, 0, 0⟩, ⟨1, 0, 0, 0⟩, ⟨1, 0, 0, 0⟩]
def AwakeRes (w : World) (e : Ending) (w' : World) : Prop := e = .returned (.bool true) ∧ Only (fun _ => False) w w'

theorem mvs_lit {w : World} {H : Nat} (h : w.heap[H]? = some (.cells #[.int .i64 0, .int .i64 2, .int .i64 0, .int .i64 0, .int .i64 1, .int .i64 2, .int .i64 0, .int .i64 0, .int .i64 0, .int .i64 0, .int .i64 0, .int .i64 0, .int .i64 1, .int .i64 0, .int .i64 0, .int .i64 0, .int .i64 0, .int .i64 0, .int .i64 0, .int .i64 0, .int .i64 1, .int .i64 0, .int .i64 0, .int .i64 0, .int .i64 1, .int .i64 0, .int .i64 0, .int .i64 0, .int .i64 1, .int .i64 0, .int .i64 0, .int .i64 0] 64 (0, 0))) :
    MvsIn w (.slice (some ⟨H, 0, none⟩) 8 8) awakeMs := by
  refine ⟨some ⟨H, 0, none⟩, 8, rfl, by simp [awakeMs], by decide, fun i hi => ⟨H, 0, rfl, (Array.getElem?_eq_some_iff.1 h).1, ?_⟩⟩
  have hi8 : i < 8 := hi
  have : i = 0 ∨ i = 1 ∨ i = 2 ∨ i = 3 ∨ i = 4 ∨ i = 5 ∨ i = 6 ∨ i = 7 := by omega
  rcases this with rfl | rfl | rfl | rfl | rfl | rfl | rfl | rfl <;> simp [World.cell?, h, awakeMs]

theorem src_lit {w : World} {H : Nat} (h : w.heap[H]? = some (.cells #[.int .u64 5, .int .u64 0] 52 (0, 0))) : w.Src 1 (.slice (some ⟨H, 0, none⟩) 2 2) 2 (u64s [5, 0]) := by
  refine ⟨by simp [u64s], .inr ⟨⟨H, 0, none⟩, 2, rfl, Nat.le_refl _, fun j u hu => ?_⟩⟩
  rcases j with _ | _ | j
  · cases hu; exact show w.cell? ⟨H, 0, none⟩ = _ by simp [World.cell?, h]
  · cases hu; exact show w.cell? ⟨H, 1, none⟩ = _ by simp [World.cell?, h]
  · simp [u64s] at hu

end Go.Proofs.Ytjcggokhminmoaa
namespace Go.Proofs.Ytjcggokhminmoaa
open Go.ChangeShapes Go.WideShapes Go.ChangeAt Go.RowKit Go.Shelf


def fitN (th : Int) : Nat := if 1 ≤ th ∧ th ≤ 16 then th.toNat else 2
def FitRes (w : World) (th : Int) (ox : Option Addr) (nx cx : Nat) (om : Option Addr) (nm cm : Nat) (e : Ending) (w' : World) : Prop :=
  e = .returned (.agg #[.int .i64 (fitN th : Int), .slice ox (min nx 8192) cx, .slice om (min nm 65536) cm]) ∧ Only (fun _ => False) w w'

/-- a script that came in -/
structure ScrIn (w : World) (v : Value) (th : Int) (l : List Int) (ms : List Mv) (ox : Option Addr) (cx : Nat) (om : Option Addr) (cm : Nat) : Prop where
  eq : v = .agg #[.int .i64 th, .slice ox l.length cx, .slice om ms.length cm]
  src : w.Src 1 (.slice ox l.length cx) l.length (u64s l)
  mvs : MvsIn w (.slice om ms.length cm) ms
  hx : l.length ≤ cx ∧ cx ≤ maxLen ∧ (ox = none → cx = 0)
  hm : ms.length ≤ cm ∧ cm ≤ maxLen ∧ (om = none → cm = 0)

theorem _root_.Go.World.Src.take {w : World} {ox : Option Addr} {cx : Nat} {l : List Int} (h : w.Src 1 (.slice ox l.length cx) l.length (u64s l)) (hn : ox = none → cx = 0) (k : Nat) : w.Src 1 (.slice ox (min l.length k) cx) (l.take k).length (u64s (l.take k)) := by
  have hl : (l.take k).length = min l.length k := by simp; omega
  rw [hl]
  refine ⟨by simp [u64s]; omega, ?_⟩
  rcases h.2 with ⟨e, h0⟩ | ⟨ad, c, e, hc, hcell⟩
  · simp only [Value.slice.injEq] at e
    obtain ⟨rfl, _, rfl⟩ := e
    exact .inl ⟨by rw [h0]; simp, by rw [h0]; simp⟩
  · cases e
    refine .inr ⟨ad, cx, rfl, by omega, fun j u hu => hcell j u ?_⟩
    simp only [u64s, List.map_take] at hu ⊢
    rw [List.getElem?_take] at hu
    split at hu
    · exact hu
    · cases hu
theorem MvsIn.take {w : World} {om : Option Addr} {cm : Nat} {ms : List Mv} (h : MvsIn w (.slice om ms.length cm) ms) (k : Nat) : MvsIn w (.slice om (min ms.length k) cm) (ms.take k) := by
  obtain ⟨o, c, e, h1, h2, h3⟩ := h
  cases e
  have hl : (ms.take k).length = min ms.length k := by simp; omega
  refine ⟨om, cm, by rw [hl], by omega, h2, fun i hi => ?_⟩
  rw [hl] at hi
  obtain ⟨b, off, e1, hb, c0, c1, c2, c3⟩ := h3 i (by omega)
  simp only [List.getElem_take]
  exact ⟨b, off, e1, hb, c0, c1, c2, c3⟩

theorem fitN_ok (th : Int) : 1 ≤ fitN th ∧ fitN th ≤ 16 := by unfold fitN; split <;> omega

end Go.Proofs.Ytjcggokhminmoaa
namespace Go.Proofs.Ytjcggokhminmoaa
open Go.ChangeShapes Go.WideShapes Go.ChangeAt Go.RowKit

section
variable {H : Type} {enc : TypeId × Value → H} {P : Program}

theorem below_trodAll (hl : laidOutB P = true) {W W' : World} (hb : Below W.heap.size W W') :
    ∀ {ts : List TypeId} {vs : List Value} {ds : List (DataW H)} {ps : List MemPlace}, (∀ t ∈ ts, P.readableRec t = true ∧ t < P.types.size) →
      DataW.TrodAll enc P W 0 (fun _ => true) true ts vs ds ps → (∀ x ∈ ps, x.block < W.heap.size) →
      DataW.TrodAll enc P W' 0 (fun b => decide (b < W.heap.size)) true ts vs ds ps := by
  intro ts
  induction ts with
  | nil =>
    intro vs ds ps _ h _
    cases vs <;> cases ds <;> simp_all [DataW.TrodAll]
  | cons t ts ih =>
    intro vs ds ps hr h hp
    cases vs with
    | nil => cases ds <;> simp [DataW.TrodAll] at h
    | cons v vs =>
      cases ds with
      | nil => simp [DataW.TrodAll] at h
      | cons d ds =>
        obtain ⟨p, q, h1, h2, rfl⟩ := h
        have hrt := hr t (by simp)
        exact ⟨p, q, Below.trod hl hrt.1 hrt.2 h1 hb (fun x hx => hp x (by simp [hx])), ih (fun t' ht' => hr t' (by simp [ht'])) h2 (fun x hx => hp x (by simp [hx])), rfl⟩

theorem trodAll_len {w : World} {base : Nat} {spare : Nat → Bool} {held : Bool} : ∀ {ts : List TypeId} {vs : List Value} {ds : List (DataW H)} {ps : List MemPlace},
    DataW.TrodAll enc P w base spare held ts vs ds ps → ds.length = ts.length := by
  intro ts
  induction ts with
  | nil => intro vs ds ps h; cases vs <;> cases ds <;> simp_all [DataW.TrodAll]
  | cons t ts ih =>
    intro vs ds ps h
    cases vs with
    | nil => cases ds <;> simp [DataW.TrodAll] at h
    | cons v vs =>
      cases ds with
      | nil => simp [DataW.TrodAll] at h
      | cons d ds =>
        obtain ⟨p, q, h1, h2, rfl⟩ := h
        simp [ih h2]

/-- The frame of a law. -/
theorem lift_law {C : Checked} {os : Os} {f : FuncId} {fn : Func} {s : ChangeSpec} {T : TypeId}
    (own : ownKnob C.prog.godebug = none) (started : os.Started) (noInit : C.prog.inits.idxOf? f = none) (hfn : C.prog.funcs[f]? = some fn)
    (witness : ∃ (w : World) (tape : Tape) (i : Input), w.os = os ∧ (w.forCall tape i).Shaped C.prog ∧ i.vars = [] ∧ Input.okWide C.prog (w.forCall tape i) .any w.heap.size f i ∧
      s.pre6 enc C.prog fn [] false (w.forCall tape i).memory i.args ∧ Assume.holds {} C.prog (lone (Frame.enter C.prog f i.args .normal) [] (w.forCall tape i)))
    (hv : s.vars = []) (hrt : fn.resultTypes = #[T]) (hT : C.prog.underlying T = some .bool) (hl : laidOutB C.prog = true)
    (hread : ∀ t ∈ fn.params.toList, C.prog.readableRec t = true ∧ t < C.prog.types.size)
    (hspec : ∀ ds : List (DataW H), ds.length = fn.params.size → s.fn H ds = { results := [.lit (.bool true)], args := ds })
    (contract : ∀ (W : World) (base : Nat) (args : Array Value) (ds : List (DataW H)) (ps : List MemPlace),
      (∀ (j : Nat) t v, fn.params[j]? = some t → args[j]? = some v → Value.okWide C.prog W .any base t v) →
      DataW.TrodAll enc C.prog W 0 (fun _ => true) true fn.params.toList args.toList ds ps →
      (DataW.weightsEach C.prog fn.params.toList ds).all (· ≤ reachBytes) = true →
      Calls C.prog f args W fun e W' => e = .returned (.bool true) ∧ Below W.heap.size W W') :
    ReturnsInHanded {} C os f .any (s.pre6 enc C.prog fn [] false) (s.post enc C.prog fn false true false false) := by
  refine returnsInHanded_of_change_sized own started noInit hfn witness ?_
  intro W base args ds gs before hval hW _ hwt _
  have hW' := hW
  obtain ⟨p, q, hA, hV, hpq, hfz, hnd⟩ := hW
  rw [hv] at hV
  obtain ⟨hgs, hq⟩ := trodVars_none hV
  subst hgs; subst hq
  simp only [List.append_nil] at hpq
  subst hpq
  have hlt : ∀ x ∈ before, x.block < W.heap.size := fun x hx => hW'.lt x hx
  have hlen : ds.length = fn.params.size := by rw [trodAll_len hA]; simp
  have hvt : s.plain.varTypes C.prog = [] := by simp [DataSpec.varTypes, ChangeSpec.plain, hv]
  rw [hvt] at hwt
  simp only [List.append_nil] at hwt
  refine (contract W base args ds before hval hA hwt).mono fun e W' ⟨he, hb⟩ => ?_
  refine ⟨.bool true, he, ds, [], before, [], before, [], hW', ?_, ?_, ?_, hb.frame _, fun h => by cases h⟩
  · rw [List.append_nil, hspec ds hlen, hrt]
    exact trodAll_mk1 (shut_bool hT true)
  · rw [List.append_nil, hspec ds hlen]
    exact below_trodAll hl hb hread hA hlt
  · rw [List.append_nil, hspec ds hlen, hv]
    rfl
end
end Go.Proofs.Ytjcggokhminmoaa
namespace Go.Proofs.Ytjcggokhminmoaa
open Go.ChangeShapes Go.WideShapes Go.ChangeAt Go.RowKit Go.Deep

section
variable {H : Type} {enc : TypeId × Value → H} {W : World} {base : Nat} {sp : Nat → Bool} {held : Bool}

theorem words_cells {cs : List Value} {fuel : Nat} {x : DataW H × List MemPlace} (hf : DataW.trod enc Try.prog W base sp held fuel 40 cs = some x) :
    ∃ (l : List Int) (ox : Option Addr) (cx : Nat), cs = [.slice ox l.length cx] ∧ W.Src 1 (.slice ox l.length cx) l.length (u64s l) ∧ l.length ≤ cx ∧ cx ≤ maxLen ∧ (ox = none → cx = 0) := by
  have hc : Try.prog.cellsOf 52 = 1 := by kernel_rfl
  rcases open_ints Try.underlying40 Try.underlying52 hc hf with ⟨hcs, _⟩ | ⟨a, len, cap, zs, hcs, _, hl, hm, hz, hx, hcell, hwz⟩
  · exact ⟨[], none, 0, hcs, ⟨by simp [u64s], .inl ⟨rfl, rfl⟩⟩, by simp, by simp, fun _ => rfl⟩
  · have hle : len ≤ zs.length := by rw [hz]; split <;> omega
    have hlen : (zs.take len).length = len := by simp; omega
    refine ⟨zs.take len, some a, cap, by rw [hlen]; exact hcs, ?_, by rw [hlen]; exact hl, hm, fun h => by cases h⟩
    rw [hlen]
    refine ⟨by simp [u64s]; omega, .inr ⟨a, cap, rfl, hl, fun j u hu => ?_⟩⟩
    have hj : j < len := by
      rcases Nat.lt_or_ge j len with h | h
      · exact h
      · rw [List.getElem?_eq_none (by simp [u64s]; omega)] at hu; cases hu
    rw [hcell j (by omega)]
    have : (u64s (zs.take len))[j]? = some (.int .u64 (zs.getD j 0)) := by
      simp [u64s, hj, show j < zs.length by omega]
    rw [this] at hu
    exact hu

theorem int_part {k : IntKind} {t : TypeId} {fuel i : Nat} {cs : List Value} {y : Option (DataW H × List MemPlace)} (ht : Try.prog.underlying t = some (.int k)) (hi : i < cs.length) (hy : y.isSome = true) (h : DataW.trod enc Try.prog W base sp held fuel t ((cs.drop i).take 1) = y) : ∃ z, cs[i]? = some (.int k z) := by
  obtain ⟨x, hx⟩ := Option.isSome_iff_exists.1 hy
  rw [hx] at h
  obtain ⟨n, hn, _, _⟩ := DataW.trod_int ht h
  refine ⟨n, ?_⟩
  have ht1 : (cs.drop i).take 1 = [cs[i]] := by rw [List.drop_eq_getElem_cons hi]; rfl
  rw [ht1] at hn
  rw [List.getElem?_eq_getElem hi, (List.cons.inj hn).1]

set_option maxRecDepth 100000 in
theorem in_move {cs : List Value} {fuel : Nat} {x : DataW H × List MemPlace} (h : DataW.trod enc Try.prog W base sp held fuel 64 cs = some x) (hl : cs.length = 4) :
    ∃ o : Mv, cs = [.int .i64 o.th, .int .i64 o.op, .int .i64 o.arg, .int .i64 o.data] := by
  obtain ⟨ys, n, _, _, _, hyl, hf⟩ := DataW.trod_struct Try.underlying64 h
  have c3 : Try.prog.cellsOf 3 = 1 := by kernel_rfl
  have c23 : Try.prog.cellsOf 45 = 1 := by kernel_rfl
  have hys : ∀ i, i < 4 → (ys[i]?).isSome = true := fun i hi => by
    have : ys.length = 4 := hyl
    rw [List.getElem?_eq_getElem (by omega)]
    rfl
  have f0 : DataW.trod enc Try.prog W base sp held n 3 ((cs.drop 0).take (Try.prog.cellsOf 3)) = ys[0]? := hf 0 _ rfl
  have f1 : DataW.trod enc Try.prog W base sp held n 45 ((cs.drop 1).take (Try.prog.cellsOf 45)) = ys[1]? := hf 1 _ rfl
  have f2 : DataW.trod enc Try.prog W base sp held n 3 ((cs.drop 2).take (Try.prog.cellsOf 3)) = ys[2]? := hf 2 _ rfl
  have f3 : DataW.trod enc Try.prog W base sp held n 3 ((cs.drop 3).take (Try.prog.cellsOf 3)) = ys[3]? := hf 3 _ rfl
  rw [c3] at f0 f2 f3
  rw [c23] at f1
  obtain ⟨z0, g0⟩ := int_part Try.underlying3 (by omega) (hys 0 (by omega)) f0
  obtain ⟨z1, g1⟩ := int_part Try.underlying45 (by omega) (hys 1 (by omega)) f1
  obtain ⟨z2, g2⟩ := int_part Try.underlying3 (by omega) (hys 2 (by omega)) f2
  obtain ⟨z3, g3⟩ := int_part Try.underlying3 (by omega) (hys 3 (by omega)) f3
  refine ⟨⟨z0, z1, z2, z3⟩, ?_⟩
  match cs, hl with
  | [x0, x1, x2, x3], _ =>
    simp at g0 g1 g2 g3
    simp [g0, g1, g2, g3]

theorem add_at (b off i : Nat) : (⟨b, off, none⟩ : Addr).add i = ⟨b, off + i, none⟩ := by unfold Addr.add; split <;> simp_all

set_option maxRecDepth 100000 in
theorem moves_cells {cs : List Value} {fuel : Nat} {x : DataW H × List MemPlace} (hf : DataW.trod enc Try.prog W base sp held fuel 35 cs = some x) :
    ∃ (ms : List Mv) (om : Option Addr) (cm : Nat), cs = [.slice om ms.length cm] ∧ MvsIn W (.slice om ms.length cm) ms ∧ ms.length ≤ cm ∧ cm ≤ maxLen ∧ (om = none → cm = 0) := by
  have hc : Try.prog.cellsOf 64 = 4 := by kernel_rfl
  rcases open_slice Try.underlying35 hf with ⟨hcs, hx⟩ | ⟨a, len, cap, m, n, D, Pl, hcs, hb, hl, hm, hmm, hx, hi⟩
  · exact ⟨[], none, 0, hcs, ⟨none, 0, rfl, by simp, by simp, fun i h => by simp at h⟩, by simp, by simp, fun _ => rfl⟩
  · have hlm : len ≤ m := by rw [hmm]; split <;> omega
    have hop : ∀ i, ∃ o : Mv, i < len → ∀ j u, [Value.int .i64 o.th, .int .i64 o.op, .int .i64 o.arg, .int .i64 o.data][j]? = some u → W.cell? ((a.add (i * 4)).add j) = some u := by
      intro i
      by_cases hil : i < len
      · obtain ⟨cs', h1, h2⟩ := hi i (by omega)
        rw [hc] at h1
        obtain ⟨_, h3, h4⟩ := World.cells?_some h1
        obtain ⟨o, rfl⟩ := in_move h2 h3
        refine ⟨o, fun _ j u hu => ?_⟩
        have hj : j < 4 := by
          rcases Nat.lt_or_ge j 4 with h | h
          · exact h
          · rw [List.getElem?_eq_none (by simp; omega)] at hu; cases hu
        rw [h4 j hj, hu]
      · exact ⟨⟨0, 0, 0, 0⟩, fun h => absurd h hil⟩
    obtain ⟨f, hfc⟩ := Classical.axiomOfChoice hop
    have hlen : ((List.range len).map f).length = len := by simp
    refine ⟨(List.range len).map f, some a, cap, by rw [hlen]; exact hcs, ⟨some a, cap, by rw [hlen], by rw [hlen]; exact hl, hm, fun i hi' => ?_⟩, by rw [hlen]; exact hl, hm, fun h => by cases h⟩
    have hil : i < len := by simpa using hi'
    have e : ((List.range len).map f)[i] = f i := by simp
    rw [e]
    obtain ⟨b, off, spot⟩ := a
    have hs : spot = none := by
      have := World.cell?_spot (hfc 0 (by omega) 0 _ rfl)
      simpa [Addr.add] using this
    subst hs
    have hq := hfc i hil
    simp only [add_at] at hq
    exact ⟨b, off, rfl, World.block_lt_of_cell? W _ (hq 0 _ rfl), hq 0 _ rfl, hq 1 _ rfl, hq 2 _ rfl, hq 3 _ rfl⟩

end
end Go.Proofs.Ytjcggokhminmoaa
namespace Go.Proofs.Ytjcggokhminmoaa
open Go.ChangeShapes Go.WideShapes Go.ChangeAt Go.RowKit Go.Deep

section
variable {H : Type} {enc : TypeId × Value → H} {W : World} {base : Nat} {sp : Nat → Bool} {held : Bool}
set_option maxRecDepth 100000 in
theorem in_moves {v : Value} {d : DataW H} {p : List MemPlace} {r : Reach} {b0 : Nat} (hv : Value.okWide Try.prog W r b0 35 v) (h : DataW.Trod enc Try.prog W base sp held 35 v d p) :
    ∃ (ms : List Mv) (om : Option Addr) (cm : Nat), v = .slice om ms.length cm ∧ MvsIn W (.slice om ms.length cm) ms ∧ (ms.length ≤ cm ∧ cm ≤ maxLen ∧ (om = none → cm = 0)) := by
  obtain ⟨a0, len, cap, rfl⟩ := okWide_slice Try.underlying35 hv
  obtain ⟨fuel, hf⟩ := h
  obtain ⟨ms, om, cm, e, h1, h2, h3, h4⟩ := moves_cells hf
  simp [Value.cells] at e
  obtain ⟨rfl, rfl, rfl⟩ := e
  exact ⟨ms, _, _, rfl, h1, h2, h3, h4⟩
end
end Go.Proofs.Ytjcggokhminmoaa
namespace Go.Proofs.Ytjcggokhminmoaa
open Go.ChangeShapes Go.WideShapes Go.ChangeAt Go.RowKit
section
variable {H : Type} {enc : TypeId × Value → H} {P : Program} {w : World} {base : Nat} {spare : Nat → Bool} {held : Bool}

theorem trod_ints3 {t : TypeId} {k0 k1 k2 : IntKind} {f0 f1 f2 : Field} {fuel : Nat} {cs : List Value} {x : DataW H × List MemPlace} (ht : P.underlying t = some (.struct #[f0, f1, f2])) (hC : P.cellsOf t = 3) (h0 : P.underlying f0.type = some (.int k0)) (c0 : P.cellsOf f0.type = 1) (o0 : f0.offset = 0) (h1 : P.underlying f1.type = some (.int k1)) (c1 : P.cellsOf f1.type = 1) (o1 : f1.offset = 1) (h2 : P.underlying f2.type = some (.int k2)) (c2 : P.cellsOf f2.type = 1) (o2 : f2.offset = 2)
    (h : DataW.trod enc P w base spare held fuel t cs = some x) : ∃ a0 a1 a2 : Int, cs = [.int k0 a0, .int k1 a1, .int k2 a2] ∧ (Lit.int k0 a0).wf = true ∧ (Lit.int k1 a1).wf = true ∧ (Lit.int k2 a2).wf = true := by
  obtain ⟨xs, n, _, _, hl, hlen, hf⟩ := DataW.trod_struct ht h
  rw [hC] at hl
  obtain ⟨v0, v1, v2, rfl⟩ : ∃ v0 v1 v2, cs = [v0, v1, v2] := by
    match cs, hl with
    | [v0, v1, v2], _ => exact ⟨v0, v1, v2, rfl⟩
  simp only [List.size_toArray, List.length_cons, List.length_nil] at hlen
  have g0 := hf 0 f0 rfl
  rw [c0, o0, List.getElem?_eq_getElem (by omega)] at g0
  obtain ⟨a0, e0, _, w0⟩ := DataW.trod_int h0 g0
  simp at e0
  subst e0
  have g1 := hf 1 f1 rfl
  rw [c1, o1, List.getElem?_eq_getElem (by omega)] at g1
  obtain ⟨a1, e1, _, w1⟩ := DataW.trod_int h1 g1
  simp at e1
  subst e1
  have g2 := hf 2 f2 rfl
  rw [c2, o2, List.getElem?_eq_getElem (by omega)] at g2
  obtain ⟨a2, e2, _, w2⟩ := DataW.trod_int h2 g2
  simp at e2
  subst e2
  exact ⟨a0, a1, a2, rfl, w0, w1, w2⟩

theorem open_ints3 {r : Reach} {b0 : Nat} {t : TypeId} {k0 k1 k2 : IntKind} {f0 f1 f2 : Field} {v : Value} {d : DataW H} {ps : List MemPlace} (ht : P.underlying t = some (.struct #[f0, f1, f2])) (hC : P.cellsOf t = 3) (h0 : P.underlying f0.type = some (.int k0)) (c0 : P.cellsOf f0.type = 1) (o0 : f0.offset = 0) (h1 : P.underlying f1.type = some (.int k1)) (c1 : P.cellsOf f1.type = 1) (o1 : f1.offset = 1) (h2 : P.underlying f2.type = some (.int k2)) (c2 : P.cellsOf f2.type = 1) (o2 : f2.offset = 2)
    (hval : Value.okWide P w r b0 t v) (hd : DataW.Trod enc P w base spare held t v d ps) : ∃ a0 a1 a2 : Int, v = .agg #[.int k0 a0, .int k1 a1, .int k2 a2] ∧ (Lit.int k0 a0).wf = true ∧ (Lit.int k1 a1).wf = true ∧ (Lit.int k2 a2).wf = true := by
  obtain ⟨cs, rfl, _⟩ := okWide_struct ht hval
  obtain ⟨fuel, hf⟩ := hd
  obtain ⟨a0, a1, a2, e, hw⟩ := trod_ints3 ht hC h0 c0 o0 h1 c1 o1 h2 c2 o2 hf
  refine ⟨a0, a1, a2, ?_, hw⟩
  simp only [Value.cells] at e
  rw [← e]


theorem trod_ints7 {t : TypeId} {k0 k1 k2 k3 k4 k5 k6 : IntKind} {f0 f1 f2 f3 f4 f5 f6 : Field} {fuel : Nat} {cs : List Value} {x : DataW H × List MemPlace} (ht : P.underlying t = some (.struct #[f0, f1, f2, f3, f4, f5, f6])) (hC : P.cellsOf t = 7) (h0 : P.underlying f0.type = some (.int k0)) (c0 : P.cellsOf f0.type = 1) (o0 : f0.offset = 0) (h1 : P.underlying f1.type = some (.int k1)) (c1 : P.cellsOf f1.type = 1) (o1 : f1.offset = 1) (h2 : P.underlying f2.type = some (.int k2)) (c2 : P.cellsOf f2.type = 1) (o2 : f2.offset = 2) (h3 : P.underlying f3.type = some (.int k3)) (c3 : P.cellsOf f3.type = 1) (o3 : f3.offset = 3) (h4 : P.underlying f4.type = some (.int k4)) (c4 : P.cellsOf f4.type = 1) (o4 : f4.offset = 4) (h5 : P.underlying f5.type = some (.int k5)) (c5 : P.cellsOf f5.type = 1) (o5 : f5.offset = 5) (h6 : P.underlying f6.type = some (.int k6)) (c6 : P.cellsOf f6.type = 1) (o6 : f6.offset = 6)
    (h : DataW.trod enc P w base spare held fuel t cs = some x) : ∃ a0 a1 a2 a3 a4 a5 a6 : Int, cs = [.int k0 a0, .int k1 a1, .int k2 a2, .int k3 a3, .int k4 a4, .int k5 a5, .int k6 a6] ∧ (Lit.int k0 a0).wf = true ∧ (Lit.int k1 a1).wf = true ∧ (Lit.int k2 a2).wf = true ∧ (Lit.int k3 a3).wf = true ∧ (Lit.int k4 a4).wf = true ∧ (Lit.int k5 a5).wf = true ∧ (Lit.int k6 a6).wf = true := by
  obtain ⟨xs, n, _, _, hl, hlen, hf⟩ := DataW.trod_struct ht h
  rw [hC] at hl
  obtain ⟨v0, v1, v2, v3, v4, v5, v6, rfl⟩ : ∃ v0 v1 v2 v3 v4 v5 v6, cs = [v0, v1, v2, v3, v4, v5, v6] := by
    match cs, hl with
    | [v0, v1, v2, v3, v4, v5, v6], _ => exact ⟨v0, v1, v2, v3, v4, v5, v6, rfl⟩
  simp only [List.size_toArray, List.length_cons, List.length_nil] at hlen
  have g0 := hf 0 f0 rfl
  rw [c0, o0, List.getElem?_eq_getElem (by omega)] at g0
  obtain ⟨a0, e0, _, w0⟩ := DataW.trod_int h0 g0
  simp at e0
  subst e0
  have g1 := hf 1 f1 rfl
  rw [c1, o1, List.getElem?_eq_getElem (by omega)] at g1
  obtain ⟨a1, e1, _, w1⟩ := DataW.trod_int h1 g1
  simp at e1
  subst e1
  have g2 := hf 2 f2 rfl
  rw [c2, o2, List.getElem?_eq_getElem (by omega)] at g2
  obtain ⟨a2, e2, _, w2⟩ := DataW.trod_int h2 g2
  simp at e2
  subst e2
  have g3 := hf 3 f3 rfl
  rw [c3, o3, List.getElem?_eq_getElem (by omega)] at g3
  obtain ⟨a3, e3, _, w3⟩ := DataW.trod_int h3 g3
  simp at e3
  subst e3
  have g4 := hf 4 f4 rfl
  rw [c4, o4, List.getElem?_eq_getElem (by omega)] at g4
  obtain ⟨a4, e4, _, w4⟩ := DataW.trod_int h4 g4
  simp at e4
  subst e4
  have g5 := hf 5 f5 rfl
  rw [c5, o5, List.getElem?_eq_getElem (by omega)] at g5
  obtain ⟨a5, e5, _, w5⟩ := DataW.trod_int h5 g5
  simp at e5
  subst e5
  have g6 := hf 6 f6 rfl
  rw [c6, o6, List.getElem?_eq_getElem (by omega)] at g6
  obtain ⟨a6, e6, _, w6⟩ := DataW.trod_int h6 g6
  simp at e6
  subst e6
  exact ⟨a0, a1, a2, a3, a4, a5, a6, rfl, w0, w1, w2, w3, w4, w5, w6⟩

theorem open_ints7 {r : Reach} {b0 : Nat} {t : TypeId} {k0 k1 k2 k3 k4 k5 k6 : IntKind} {f0 f1 f2 f3 f4 f5 f6 : Field} {v : Value} {d : DataW H} {ps : List MemPlace} (ht : P.underlying t = some (.struct #[f0, f1, f2, f3, f4, f5, f6])) (hC : P.cellsOf t = 7) (h0 : P.underlying f0.type = some (.int k0)) (c0 : P.cellsOf f0.type = 1) (o0 : f0.offset = 0) (h1 : P.underlying f1.type = some (.int k1)) (c1 : P.cellsOf f1.type = 1) (o1 : f1.offset = 1) (h2 : P.underlying f2.type = some (.int k2)) (c2 : P.cellsOf f2.type = 1) (o2 : f2.offset = 2) (h3 : P.underlying f3.type = some (.int k3)) (c3 : P.cellsOf f3.type = 1) (o3 : f3.offset = 3) (h4 : P.underlying f4.type = some (.int k4)) (c4 : P.cellsOf f4.type = 1) (o4 : f4.offset = 4) (h5 : P.underlying f5.type = some (.int k5)) (c5 : P.cellsOf f5.type = 1) (o5 : f5.offset = 5) (h6 : P.underlying f6.type = some (.int k6)) (c6 : P.cellsOf f6.type = 1) (o6 : f6.offset = 6)
    (hval : Value.okWide P w r b0 t v) (hd : DataW.Trod enc P w base spare held t v d ps) : ∃ a0 a1 a2 a3 a4 a5 a6 : Int, v = .agg #[.int k0 a0, .int k1 a1, .int k2 a2, .int k3 a3, .int k4 a4, .int k5 a5, .int k6 a6] ∧ (Lit.int k0 a0).wf = true ∧ (Lit.int k1 a1).wf = true ∧ (Lit.int k2 a2).wf = true ∧ (Lit.int k3 a3).wf = true ∧ (Lit.int k4 a4).wf = true ∧ (Lit.int k5 a5).wf = true ∧ (Lit.int k6 a6).wf = true := by
  obtain ⟨cs, rfl, _⟩ := okWide_struct ht hval
  obtain ⟨fuel, hf⟩ := hd
  obtain ⟨a0, a1, a2, a3, a4, a5, a6, e, hw⟩ := trod_ints7 ht hC h0 c0 o0 h1 c1 o1 h2 c2 o2 h3 c3 o3 h4 c4 o4 h5 c5 o5 h6 c6 o6 hf
  refine ⟨a0, a1, a2, a3, a4, a5, a6, ?_, hw⟩
  simp only [Value.cells] at e
  rw [← e]


theorem trod_ints4 {t : TypeId} {k0 k1 k2 k3 : IntKind} {f0 f1 f2 f3 : Field} {fuel : Nat} {cs : List Value} {x : DataW H × List MemPlace} (ht : P.underlying t = some (.struct #[f0, f1, f2, f3])) (hC : P.cellsOf t = 4) (h0 : P.underlying f0.type = some (.int k0)) (c0 : P.cellsOf f0.type = 1) (o0 : f0.offset = 0) (h1 : P.underlying f1.type = some (.int k1)) (c1 : P.cellsOf f1.type = 1) (o1 : f1.offset = 1) (h2 : P.underlying f2.type = some (.int k2)) (c2 : P.cellsOf f2.type = 1) (o2 : f2.offset = 2) (h3 : P.underlying f3.type = some (.int k3)) (c3 : P.cellsOf f3.type = 1) (o3 : f3.offset = 3)
    (h : DataW.trod enc P w base spare held fuel t cs = some x) : ∃ a0 a1 a2 a3 : Int, cs = [.int k0 a0, .int k1 a1, .int k2 a2, .int k3 a3] ∧ (Lit.int k0 a0).wf = true ∧ (Lit.int k1 a1).wf = true ∧ (Lit.int k2 a2).wf = true ∧ (Lit.int k3 a3).wf = true := by
  obtain ⟨xs, n, _, _, hl, hlen, hf⟩ := DataW.trod_struct ht h
  rw [hC] at hl
  obtain ⟨v0, v1, v2, v3, rfl⟩ : ∃ v0 v1 v2 v3, cs = [v0, v1, v2, v3] := by
    match cs, hl with
    | [v0, v1, v2, v3], _ => exact ⟨v0, v1, v2, v3, rfl⟩
  simp only [List.size_toArray, List.length_cons, List.length_nil] at hlen
  have g0 := hf 0 f0 rfl
  rw [c0, o0, List.getElem?_eq_getElem (by omega)] at g0
  obtain ⟨a0, e0, _, w0⟩ := DataW.trod_int h0 g0
  simp at e0
  subst e0
  have g1 := hf 1 f1 rfl
  rw [c1, o1, List.getElem?_eq_getElem (by omega)] at g1
  obtain ⟨a1, e1, _, w1⟩ := DataW.trod_int h1 g1
  simp at e1
  subst e1
  have g2 := hf 2 f2 rfl
  rw [c2, o2, List.getElem?_eq_getElem (by omega)] at g2
  obtain ⟨a2, e2, _, w2⟩ := DataW.trod_int h2 g2
  simp at e2
  subst e2
  have g3 := hf 3 f3 rfl
  rw [c3, o3, List.getElem?_eq_getElem (by omega)] at g3
  obtain ⟨a3, e3, _, w3⟩ := DataW.trod_int h3 g3
  simp at e3
  subst e3
  exact ⟨a0, a1, a2, a3, rfl, w0, w1, w2, w3⟩

theorem open_ints4 {r : Reach} {b0 : Nat} {t : TypeId} {k0 k1 k2 k3 : IntKind} {f0 f1 f2 f3 : Field} {v : Value} {d : DataW H} {ps : List MemPlace} (ht : P.underlying t = some (.struct #[f0, f1, f2, f3])) (hC : P.cellsOf t = 4) (h0 : P.underlying f0.type = some (.int k0)) (c0 : P.cellsOf f0.type = 1) (o0 : f0.offset = 0) (h1 : P.underlying f1.type = some (.int k1)) (c1 : P.cellsOf f1.type = 1) (o1 : f1.offset = 1) (h2 : P.underlying f2.type = some (.int k2)) (c2 : P.cellsOf f2.type = 1) (o2 : f2.offset = 2) (h3 : P.underlying f3.type = some (.int k3)) (c3 : P.cellsOf f3.type = 1) (o3 : f3.offset = 3)
    (hval : Value.okWide P w r b0 t v) (hd : DataW.Trod enc P w base spare held t v d ps) : ∃ a0 a1 a2 a3 : Int, v = .agg #[.int k0 a0, .int k1 a1, .int k2 a2, .int k3 a3] ∧ (Lit.int k0 a0).wf = true ∧ (Lit.int k1 a1).wf = true ∧ (Lit.int k2 a2).wf = true ∧ (Lit.int k3 a3).wf = true := by
  obtain ⟨cs, rfl, _⟩ := okWide_struct ht hval
  obtain ⟨fuel, hf⟩ := hd
  obtain ⟨a0, a1, a2, a3, e, hw⟩ := trod_ints4 ht hC h0 c0 o0 h1 c1 o1 h2 c2 o2 h3 c3 o3 hf
  refine ⟨a0, a1, a2, a3, ?_, hw⟩
  simp only [Value.cells] at e
  rw [← e]



end
end Go.Proofs.Ytjcggokhminmoaa
