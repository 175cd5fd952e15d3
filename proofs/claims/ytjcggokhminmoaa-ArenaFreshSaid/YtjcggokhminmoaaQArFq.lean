/-
ArenaFresh: what stands while the rows of a run are written (FrK, FrR); sameInts of reclaimlaw04.
-/
import Derived.Test.YtjcggokhminmoaaQArLw
import Derived.Test.YtjcggokhminmoaaQArSm
namespace Go.Proofs.Ytjcggokhminmoaa
open Go.ChangeShapes Go.WideShapes Go.ChangeAt Go.RowKit Go.Shelf

theorem heap_moreG (w : World) (os : Array Obj) (d k : Nat) (h : w.heap.size ≤ k) : (w.more os d).heap[k]? = os[k - w.heap.size]? := by
  unfold World.more
  exact Array.getElem?_append_right h
theorem mvs_take {w : World} {om : Option Addr} {cm : Nat} {ms : List Mv} (h : MvsIn w (.slice om ms.length cm) ms) (k : Nat) : MvsIn w (.slice om (min ms.length k) cm) (ms.take k) := by
  obtain ⟨o, c, e, h1, h2, h3⟩ := h
  cases e
  have hl : (ms.take k).length = min ms.length k := by simp; omega
  refine ⟨om, cm, by rw [hl], by omega, h2, fun i hi => ?_⟩
  rw [hl] at hi
  obtain ⟨b, off, e1, hb, c0, c1, c2, c3⟩ := h3 i (by omega)
  simp only [List.getElem_take]
  exact ⟨b, off, e1, hb, c0, c1, c2, c3⟩
/-- a run in its box, made since W -/
structure PlayB (W w : World) (b : Nat) (x : RunVs) (r : RunS) : Prop where
  box : w.heap[b]? = some (.cells #[x.va, x.vt, x.vb, x.vc] 42 (0, 0))
  run : RunAt w W.heap.size x r
  on : Only (fun _ => False) W w
  no : ¬ x.own b
  ge : W.heap.size ≤ b
theorem PlayB.ofA {W : World} {Z0 : Obj} {os : Array Obj} {d : Nat} {x : RunVs} {r : RunS} (h : RunAt ((W.alloc Z0).drew.more os d) (W.alloc Z0).drew.heap.size x r) :
    PlayB W ((W.alloc (.cells #[x.va, x.vt, x.vb, x.vc] 42)).drew.more os d) W.heap.size x r := by
  have hs : (W.alloc Z0).drew.heap.size = W.heap.size + 1 := World.size_alloc _ _
  have hs2 : (W.alloc (.cells #[x.va, x.vt, x.vb, x.vc] 42)).drew.heap.size = W.heap.size + 1 := World.size_alloc _ _
  refine ⟨?_, ?_, by repeat (first | exact Only.refl _ _ | apply Only.alloc | apply Only.drew | apply Only.more), fun e => by have := (h.lt _ e).1; omega, Nat.le_refl _⟩
  · rw [World.heap_more _ _ _ _ (by omega)]
    exact heap_alloc_new W _
  · refine (h.of_block fun k hk => ?_).base_mono (by omega)
    have := (h.lt k hk).1
    rw [heap_moreG _ _ _ _ (by omega), heap_moreG _ _ _ _ (by omega), hs, hs2]
theorem PlayB.ofB {W : World} {os : Array Obj} {d : Nat} {x : RunVs} {r : RunS} (h : RunAt (W.drew.more os d) W.drew.heap.size x r) :
    PlayB W ((W.drew.more os d).alloc (.cells #[x.va, x.vt, x.vb, x.vc] 42)) (W.heap.size + os.size) x r := by
  have hs : (W.drew.more os d).heap.size = W.heap.size + os.size := by rw [World.size_more]; rfl
  refine ⟨?_, h.of_block fun k hk => Below.heap_alloc _ _ _ (h.lt k hk).2, by repeat (first | exact Only.refl _ _ | apply Only.alloc | apply Only.drew | apply Only.more), fun e => by have := (h.lt _ e).2; omega, by omega⟩
  exact heap_alloc_at (by rw [World.size_more]; rfl)

def m77 : Mv := ⟨77, 0, 0, 0⟩
/-- what stays: the configuration's box, the moves handed in, both runs' boxes, the second run -/
structure FrK (w : World) (C : Obj) (g cg : Nat) (ms : List Mv) (rb qb b2 : Nat) (x y : RunVs) (R : RunS) (wr : World) : Prop where
  cfg : wr.heap[w.heap.size]? = some C
  giv : wr.RowV w.heap.size 64 4 (.slice (some ⟨g, 0, none⟩) (ms.length + 1) cg) (ms.length + 1) (mvsC (ms ++ [m77]))
  rbx : wr.heap[rb]? = some (.cells #[x.va, x.vt, x.vb, x.vc] 42 (0, 0))
  qbx : wr.heap[qb]? = some (.cells #[y.va, y.vt, y.vb, y.vc] 42 (0, 0))
  qrow : RunAt wr b2 y R
  on : Only (fun _ => False) w wr
  apart : ∀ k, x.own k → k ≠ w.heap.size ∧ k ≠ g ∧ k ≠ rb ∧ k ≠ qb ∧ ¬ y.own k ∧ w.heap.size ≤ k
section
variable {w : World} {C : Obj} {g cg : Nat} {ms : List Mv} {rb qb b2 : Nat} {x y : RunVs} {R : RunS} {wr w' : World}
theorem FrK.keep (h : FrK w C g cg ms rb qb b2 x y R wr) {F : Nat → Prop} (hF : ∀ k, F k → x.own k) (ho : Only F wr w') : FrK w C g cg ms rb qb b2 x y R w' := by
  have hg : (Value.slice (some ⟨g, 0, none⟩) (ms.length + 1) cg).rowBlock = some g := by
    obtain ⟨g', c, e, _, _, _, h4, _, _⟩ := h.giv.some_form (by omega)
    cases e
    exact h4
  refine ⟨ho.blockF h.cfg (fun e => (h.apart _ (hF _ e)).1 rfl), h.giv.of_block (fun k hk => ho.block k (h.giv.lt k hk).2 (fun e => ?_)), ho.blockF h.rbx (fun e => (h.apart _ (hF _ e)).2.2.1 rfl), ho.blockF h.qbx (fun e => (h.apart _ (hF _ e)).2.2.2.1 rfl), h.qrow.of_block (fun k hk => ho.block k (h.qrow.lt k hk).2 (fun e => (h.apart _ (hF _ e)).2.2.2.2.1 hk)), h.on.trans ho (fun k hk => .inr (h.apart _ (hF _ hk)).2.2.2.2.2), h.apart⟩
  rw [hg] at hk
  cases hk
  exact (h.apart _ (hF _ e)).2.1 rfl
theorem FrK.only (h : FrK w C g cg ms rb qb b2 x y R wr) (ho : Only (fun _ => False) wr w') : FrK w C g cg ms rb qb b2 x y R w' := h.keep (F := fun _ => False) (fun _ e => e.elim) ho
theorem FrK.mvs (h : FrK w C g cg ms rb qb b2 x y R wr) : MvsIn wr (.slice (some ⟨g, 0, none⟩) ms.length cg) ms := by
  have h1 : MvsIn wr (.slice (some ⟨g, 0, none⟩) (ms ++ [m77]).length cg) (ms ++ [m77]) := MvsIn.of_row (by
    have := h.giv
    rw [show ms.length + 1 = (ms ++ [m77]).length by simp] at this
    exact this)
  have h2 := mvs_take h1 ms.length
  rw [show min (ms ++ [m77]).length ms.length = ms.length by simp, List.take_left' rfl] at h2
  exact h2
theorem fr_mvs {w : World} (h : wr.RowV w.heap.size 64 4 (.slice (some ⟨g, 0, none⟩) (ms.length + 1) cg) (ms.length + 1) (mvsC (ms ++ [m77]))) : MvsIn wr (.slice (some ⟨g, 0, none⟩) ms.length cg) ms := by
  have h1 : MvsIn wr (.slice (some ⟨g, 0, none⟩) (ms ++ [m77]).length cg) (ms ++ [m77]) := MvsIn.of_row (by
    rw [show ms.length + 1 = (ms ++ [m77]).length by simp] at h
    exact h)
  have h2 := mvs_take h1 ms.length
  rw [show min (ms ++ [m77]).length ms.length = ms.length by simp, List.take_left' rfl] at h2
  exact h2
theorem frget (ms : List Mv) {i j : Nat} (hi : i < ms.length) (hj : j < 4) : (mvsC (ms ++ [m77]))[i * 4 + j]? = some (ms[i].cells[j]'hj) := by
  rw [mvs_get3 (ms ++ [m77]) i j (by simp; omega) hj, List.getElem_append_left hi]
  exact List.getElem?_eq_getElem hj
theorem fr77 (ms : List Mv) : (mvsC (ms ++ [m77]))[ms.length * 4]? = some (.int .i64 77) := by
  have := mvs_get3 (ms ++ [m77]) ms.length 0 (by simp) (by omega)
  rw [Nat.add_zero] at this
  rw [this, List.getElem_append_right (Nat.le_refl _)]
  simp [m77, Mv.cells]
/-- the rows of the first run, with whatever is in them -/
def frRow (x : RunVs) : Nat → Value
  | 0 => x.va
  | 1 => x.vt
  | 2 => x.vb
  | _ => x.vc
def frTy : Nat → TypeId
  | 0 => 50
  | 1 => 56
  | 2 => 68
  | _ => 52
def frSz : Nat → Nat
  | 0 => 9
  | 1 => 7
  | 2 => 5
  | _ => 1
def frLen (R : RunS) : Nat → Nat
  | 0 => R.calls.length
  | 1 => R.trace.length
  | 2 => R.shifts.length
  | _ => R.words.length
structure FrR (b1 : Nat) (x : RunVs) (R : RunS) (wr : World) : Prop where
  row : ∀ i, i < 4 → ∃ xs, wr.RowV b1 (frTy i) (frSz i) (frRow x i) (frLen R i) xs
  apart : ∀ i j k, i < 4 → j < 4 → (frRow x i).rowBlock = some k → (frRow x j).rowBlock = some k → i = j
theorem fr_own {x : RunVs} {i k : Nat} (hi : i < 4) (h : (frRow x i).rowBlock = some k) : x.own k := by
  match i, hi with
  | 0, _ => exact .inl h
  | 1, _ => exact .inr (.inl h)
  | 2, _ => exact .inr (.inr (.inl h))
  | 3, _ => exact .inr (.inr (.inr h))
theorem FrR.ofRun {b1 : Nat} (h : RunAt wr b1 x R) : FrR b1 x R wr := by
  refine ⟨fun i hi => ?_, fun i j k hi hj h1 h2 => ?_⟩
  · match i, hi with
    | 0, _ => exact ⟨_, h.wa⟩
    | 1, _ => exact ⟨_, h.wt⟩
    | 2, _ => exact ⟨_, h.wb⟩
    | 3, _ => exact ⟨_, h.wc⟩
  · match i, j, hi, hj with
    | 0, 0, _, _ | 1, 1, _, _ | 2, 2, _, _ | 3, 3, _, _ => rfl
    | 0, 1, _, _ => exact absurd h2 (h.at' k h1)
    | 0, 2, _, _ => exact absurd h2 (h.ab k h1)
    | 0, 3, _, _ => exact absurd h2 (h.ac k h1)
    | 1, 0, _, _ => exact absurd h1 (h.at' k h2)
    | 1, 2, _, _ => exact absurd h2 (h.tb k h1)
    | 1, 3, _, _ => exact absurd h2 (h.tc k h1)
    | 2, 0, _, _ => exact absurd h1 (h.ab k h2)
    | 2, 1, _, _ => exact absurd h1 (h.tb k h2)
    | 2, 3, _, _ => exact absurd h2 (h.bc k h1)
    | 3, 0, _, _ => exact absurd h1 (h.ac k h2)
    | 3, 1, _, _ => exact absurd h1 (h.tc k h2)
    | 3, 2, _, _ => exact absurd h1 (h.bc k h2)
theorem FrR.only {b1 : Nat} (h : FrR b1 x R wr) (ho : Only (fun _ => False) wr w') : FrR b1 x R w' :=
  ⟨fun i hi => (by obtain ⟨xs, hx⟩ := h.row i hi; exact ⟨xs, hx.of_block fun k hk => ho.block k (hx.lt k hk).2 (fun e => e)⟩), h.apart⟩
theorem FrR.put {b1 : Nat} (h : FrR b1 x R wr) {i g j : Nat} (hi : i < 4) (hg : (frRow x i).rowBlock = some g) (hj : j < frLen R i * frSz i) (u : Value) : FrR b1 x R (wr.setCell ⟨g, j, none⟩ u) := by
  refine ⟨fun i' hi' => ?_, h.apart⟩
  obtain ⟨xs, hx⟩ := h.row i' hi'
  by_cases e : i' = i
  · subst e
    exact ⟨_, hx.put hg j hj u⟩
  · exact ⟨xs, hx.set (fun k hk e2 => e (by have e3 : k = g := e2; subst e3; exact h.apart i' i k hi' hi hk hg)) u⟩
/-- both, while the rows are written -/
def FrW (w : World) (C : Obj) (g cg : Nat) (ms : List Mv) (rb qb b1 b2 : Nat) (x y : RunVs) (R : RunS) (wr : World) : Prop := FrK w C g cg ms rb qb b2 x y R wr ∧ FrR b1 x R wr
theorem FrW.put {b1 : Nat} (h : FrW w C g cg ms rb qb b1 b2 x y R wr) {i r j : Nat} (hi : i < 4) (hg : (frRow x i).rowBlock = some r) (hj : j < frLen R i * frSz i) (u : Value) : FrW w C g cg ms rb qb b1 b2 x y R (wr.setCell ⟨r, j, none⟩ u) :=
  ⟨h.1.keep (F := fun k => k = r) (fun k e => by rw [e]; exact fr_own hi hg) (Only.set (F := fun k => k = r) (Only.refl _ wr) (p := ⟨r, j, none⟩) (.inl rfl) u), h.2.put hi hg hj u⟩
theorem FrW.only {b1 : Nat} (h : FrW w C g cg ms rb qb b1 b2 x y R wr) (ho : Only (fun _ => False) wr w') : FrW w C g cg ms rb qb b1 b2 x y R w' := ⟨h.1.only ho, h.2.only ho⟩
end

theorem cache_small {ab : Nat} {p : PM (arK ab)} (hA : PA p) (t : Int) : (p.s.cache t).length ≤ 1000000 := by
  unfold ArS.cache
  split
  · rw [List.getD_eq_getElem?_getD]
    cases h : p.s.caches[t.toNat]? with
    | none => simp
    | some c =>
      have h3 := (hA.inv.cache _ _ h).2.1
      have h4 := (ok_small hA.inv.ok).2.2.2.2.2.2.2.2.2.2
      simp only [Option.getD_some]
      omega
  · simp
set_option maxRecDepth 100000 in
theorem sameInts4_yes {w : World} {v1 v2 : Value} {l : List Int} (h1 : w.Src 1 v1 l.length (intsC l)) (h2 : w.Src 1 v2 l.length (intsC l)) (hn : l.length ≤ 4611686018427387904) : Calls Try.prog 24 #[v1, v2] w fun e w' =>
    e = .returned (.bool true) ∧ Below w.heap.size w w' := by
  obtain ⟨o1, c1, rfl⟩ := h1.form
  obtain ⟨o2, c2, rfl⟩ := h2.form
  have H1 := Lib.hid h1
  have H2 := Lib.hid h2
  clear h1 h2
  have hne : ((l.length : Int) != (l.length : Int)) = false := by simp
  go_enter Try.func24, Try.ntmps24
  go_wp2
  go_loopg [5] l.length (fun g sl wr => ∃ k : Nat, k ≤ l.length ∧ l.length ≤ k + g ∧ sl = .int .i64 (k : Int) ∧ ∃ os d, wr = w.more os d)
  case atStart => exact ⟨0, by omega, by omega, rfl, #[], w.drawn, by simp [World.more]⟩
  case round =>
    obtain ⟨k, hk, hg, rfl, os, d, rfl⟩ := hrel
    by_cases hlk : k < l.length
    · obtain ⟨g1, f1, d1, e1, s1, x1⟩ := H1.out.some_form (by omega) (by omega)
      obtain ⟨g2, f2, d2, e2, s2, x2⟩ := H2.out.some_form (by omega) (by omega)
      cases e1
      cases e2
      have y1 := x1 k (.int .i64 l[k]) (by simp [intsC, hlk])
      have y2 := x2 k (.int .i64 l[k]) (by simp [intsC, hlk])
      clear x1 x2
      generalize l[k] = z at y1 y2
      go_wp2
      refine wp_region_more_lit (by kernel_rfl) (by kernel_rfl) ?_
      repeat (first | go_big_quiet_skip | (go_big_quiet_want; go_big_quiet_op; first | go_big_quiet_on | (apply Exists.intro; refine ⟨fun _ => ?_, ?_⟩; (focus (fail)); go_big_quiet_on)))
      refine wpQuiet_nil ?_
      intro osq dq
      go_wp2
      go_roundg (l.length - (k + 1))
      case measure => omega
      case rel => exact ⟨k + 1, by omega, by omega, by go_num, RowKit.Below.more (by repeat (first | exact Below.refl _ _ | apply Below.drew | apply Below.more1 | apply Below.alloc1))⟩
    · go_wp2
      go_ret
      exact ⟨rfl, (by repeat (first | exact Below.refl _ _ | apply Below.drew | apply Below.more1 | apply Below.alloc1))⟩
end Go.Proofs.Ytjcggokhminmoaa
