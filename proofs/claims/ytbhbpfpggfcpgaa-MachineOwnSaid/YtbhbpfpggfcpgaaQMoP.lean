/-
Several runs, a machine and boxes in the heap side by side (CW): what each call leaves.
-/
import Derived.Test.YtbhbpfpggfcpgaaQPlE
import Derived.Test.YtbhbpfpggfcpgaaQSpt
import Derived.Test.YtbhbpfpggfcpgaaQPlA
namespace Go
open Go.RowKit
open Go.Proofs.Ytbhbpfpggfcpgaa
def Thing.pm2 {base : Nat} {K : Kits} (hK : KitsOk K) (xb : Nat) (kit : Value) (p : PM K) : Thing base :=
  ⟨fun w F => ∃ b, base ≤ b ∧ PMAt K w b xb p kit F, fun ⟨b, h0, h⟩ hb => ⟨b, h0, h.of_block hK hb⟩, fun ⟨b, h0, h⟩ k hk => by have := h.lt hK k hk; omega⟩
def Thing.row1 (base : Nat) (v : Value) (n : Nat) : Thing base :=
  ⟨fun w F => ∃ b xs, base ≤ b ∧ w.RowV b 27 1 v n xs ∧ F = fun k => v.rowBlock = some k, fun ⟨b, xs, h0, h1, h2⟩ hb => ⟨b, xs, h0, h1.of_block (by subst h2; exact hb), h2⟩, fun ⟨b, xs, h0, h1, h2⟩ k hk => by subst h2; have := h1.lt k hk; omega⟩
def Thing.spt (base : Nat) (x y : RunVs) (r s : RunS) : Thing base :=
  ⟨fun w F => ∃ b, base ≤ b ∧ SpoilAt w b x y r s ∧ F = RunVs.has x y, fun ⟨b, h0, h1, h2⟩ hb => ⟨b, h0, ⟨fun i hi => (h1.two i hi).of_block fun k hk => by subst h2; exact hb k ⟨i, hi, hk⟩⟩, h2⟩, fun ⟨b, h0, h1, h2⟩ k hk => by subst h2; obtain ⟨i, hi, hk⟩ := hk; have := (h1.two i hi).lt k hk; omega⟩
/-- the crew, and what was there before is as it was -/
structure CW (wa : World) (ts : List (Thing wa.heap.size)) (W : World) : Prop where
  crew : Crew ts W
  on : Only (fun _ => False) wa W
section
variable {wa W W' : World} {ts : List (Thing wa.heap.size)} {i : Nat}
theorem CW.keep (h : CW wa ts W) (ho : Only (fun _ => False) W W') : CW wa ts W' := ⟨h.crew.only ho, h.on.trans ho (fun _ x => x.elim)⟩
theorem CW.box {bi : Nat} {o : Obj} (h : CW wa ts W) (hi : ts[i]? = some (Thing.box wa.heap.size bi o)) : W.heap[bi]? = some o := by
  obtain ⟨F, _, h1, _⟩ := h.crew.get hi
  exact h1
theorem CW.runSrc {x : RunVs} {r : RunS} (h : CW wa ts W) (hi : ts[i]? = some (Thing.run wa.heap.size x r)) : RunSrc W x r := by
  obtain ⟨F, b, h0, h1, _⟩ := h.crew.get hi
  exact h1.src
theorem CW.addRun {x : RunVs} {r : RunS} (h : CW wa ts W) (ho : Only (fun _ => False) W W') (hr : RunAt W' W.heap.size x r) : CW wa (ts ++ [Thing.run _ x r]) W' :=
  ⟨h.crew.add ho (F' := x.own) ⟨W.heap.size, h.on.size, hr, rfl⟩ (fun k hk => (hr.lt k hk).1), h.on.trans ho (fun _ x => x.elim)⟩
theorem CW.addBox {bi : Nat} {o : Obj} (h : CW wa ts W) (ho : Only (fun _ => False) W W') (hb : W'.heap[bi]? = some o) (hge : W.heap.size ≤ bi) : CW wa (ts ++ [Thing.box _ bi o]) W' :=
  ⟨h.crew.add ho (F' := fun k => k = bi) ⟨Nat.le_trans h.on.size hge, hb, rfl⟩ (fun k hk => by rw [hk]; exact hge), h.on.trans ho (fun _ x => x.elim)⟩
theorem CW.addRow {v : Value} {n : Nat} {xs : List Value} (h : CW wa ts W) (ho : Only (fun _ => False) W W') (hr : W'.RowV W.heap.size 27 1 v n xs) : CW wa (ts ++ [Thing.row1 _ v n]) W' :=
  ⟨h.crew.add ho (F' := fun k => v.rowBlock = some k) ⟨W.heap.size, xs, h.on.size, hr, rfl⟩ (fun k hk => (hr.lt k hk).1), h.on.trans ho (fun _ x => x.elim)⟩
theorem CW.addPm {K : Kits} (hK : KitsOk K) {xb : Nat} {kit : Value} {p : PM K} {F : Nat → Prop} {b : Nat} (h : CW wa ts W) (ho : Only (fun _ => False) W W') (hb : W.heap.size ≤ b) (hp : PMAt K W' b xb p kit F) : CW wa (ts ++ [Thing.pm2 hK xb kit p]) W' :=
  ⟨h.crew.add ho (F' := F) ⟨b, Nat.le_trans h.on.size hb, hp⟩ (fun k hk => Nat.le_trans hb (hp.lt hK k hk).1), h.on.trans ho (fun _ x => x.elim)⟩
/-- a word of the row is written -/
theorem CW.put {v : Value} {n g j : Nat} (h : CW wa ts W) (hi : ts[i]? = some (Thing.row1 wa.heap.size v n)) (hg : v.rowBlock = some g) (hj : j < n) (u : Value) : CW wa ts (W.setCell ⟨g, j, none⟩ u) := by
  obtain ⟨F, ⟨b, xs, h0, h1, rfl⟩, _, h3⟩ := h.crew.turn hi
  have ho : Only (fun k => v.rowBlock = some k) W (W.setCell ⟨g, j, none⟩ u) := (Only.refl _ W).set (.inl hg) u
  have := h3 (Thing.row1 _ v n) _ (fun k => v.rowBlock = some k) ⟨b, _, h0, h1.put hg j (by omega) u, rfl⟩ ho (fun k hk => .inl hk)
  refine ⟨by rwa [set_self ts i _ hi] at this, h.on.trans ho (fun k hk => .inr (by have := (h1.lt k hk).1; omega))⟩
theorem CW.row {v : Value} {n : Nat} (h : CW wa ts W) (hi : ts[i]? = some (Thing.row1 wa.heap.size v n)) : ∃ b xs, W.RowV b 27 1 v n xs := by
  obtain ⟨F, b, xs, h0, h1, _⟩ := h.crew.get hi
  exact ⟨b, xs, h1⟩
end
end Go
namespace Go.Proofs.Ytbhbpfpggfcpgaa
open Go.ChangeShapes Go.WideShapes Go.ChangeAt Go.RowKit Go.Shelf
section
variable {wa W : World} {ts : List (Thing wa.heap.size)} {i : Nat}
theorem _root_.Go.CW.move {K : Kits} (hK : KitsOk K) {xb : Nat} {kit : Value} {p : PM K} (h : CW wa ts W) (hi : ts[i]? = some (Thing.pm2 hK xb kit p)) (hG : p.Good) (mv : Mv) :
    Calls Try.prog 17 #[.pointer (some ⟨xb, 0, none⟩), mv.v] W fun e w' => e = .returned (.bool (p.move mv).2) ∧ CW wa (ts.set i (Thing.pm2 hK xb kit (p.move mv).1)) w' := by
  obtain ⟨F, ⟨b, h0, h1⟩, h2, h3⟩ := h.crew.turn hi
  refine (pm_move hK hG h1 mv).mono ?_
  rintro e w' ⟨he, F', a1, a2, a3⟩
  exact ⟨he, h3 _ w' F' ⟨b, h0, a1⟩ a2 a3, h.on.trans a2 (fun k hk => .inr (by have := (h1.lt hK k hk).1; omega))⟩
theorem _root_.Go.CW.mrun {K : Kits} (hK : KitsOk K) {xb : Nat} {kit : Value} {p : PM K} (h : CW wa ts W) (hi : ts[i]? = some (Thing.pm2 hK xb kit p)) (hG : p.Good) (hw : p.words.length ≤ 1000000) :
    Calls Try.prog 19 #[.pointer (some ⟨xb, 0, none⟩)] W (RunRes W p.run) := by
  obtain ⟨F, b, h0, h1⟩ := h.crew.get hi
  exact pm_run hG h1 hw
theorem _root_.Go.CW.spoil {x : RunVs} {r : RunS} (h : CW wa ts W) (hi : ts[i]? = some (Thing.run wa.heap.size x r)) (hsm : RunS.small r) (mark : Int) (hm1 : 0 ≤ mark) (hm2 : mark ≤ 10000) :
    Calls Try.prog 30 #[x.v, .int .i64 mark] W fun e w' => ∃ y : RunVs, e = .returned y.v ∧ CW wa (ts.set i (Thing.spt _ x y (spEnd r mark 0 0 0 0) (spEnd r mark 70 70 70 70))) w' := by
  obtain ⟨F, ⟨b, h0, h1, rfl⟩, _, h3⟩ := h.crew.turn hi
  have hb : wa.heap.size ≤ W.heap.size := h.on.size
  refine (spoil_any (h1.base_mono h0) hsm mark hm1 hm2 hb).mono ?_
  rintro e w' ⟨y, he, ha, ho, hk⟩
  exact ⟨y, he, h3 _ w' (RunVs.has x y) ⟨_, Nat.le_refl _, ha, rfl⟩ ho hk, h.on.trans ho (fun k hk => .inr (by have := (h1.lt k hk).1; omega))⟩
/-- both views of a spoilt run -/
theorem _root_.Go.CW.spt {x y : RunVs} {r : RunS} {mark : Int} (h : CW wa ts W) (hi : ts[i]? = some (Thing.spt wa.heap.size x y (spEnd r mark 0 0 0 0) (spEnd r mark 70 70 70 70))) :
    (∀ q, q < 4 → W.Src (runSz q) (x.row q) (r.len q + 0) ((spEnd r mark 0 0 0 0).xs q)) ∧ ∀ q, q < 4 → W.Src (runSz q) (y.row q) (r.len q + 70) ((spEnd r mark 70 70 70 70).xs q) := by
  obtain ⟨F, b, h0, h1, _⟩ := h.crew.get hi
  refine ⟨fun q hq => ?_, fun q hq => ?_⟩
  · have := (h1.two q hq).old.src
    match q, hq with
    | 0, _ => rwa [spLen0] at this
    | 1, _ => rwa [spLen1] at this
    | 2, _ => rwa [spLen2] at this
    | 3, _ => rwa [spLen3] at this
  · have := (h1.two q hq).now.src
    match q, hq with
    | 0, _ => rwa [spLen0] at this
    | 1, _ => rwa [spLen1] at this
    | 2, _ => rwa [spLen2] at this
    | 3, _ => rwa [spLen3] at this
end
end Go.Proofs.Ytbhbpfpggfcpgaa
