/-
reclaimref03: Spoil.
-/
import Derived.Test.YtbhbpfpggfcpgaaQPlE
import Derived.Test.YtbhbpfpggfcpgaaQPlA
namespace Go.Proofs.Ytbhbpfpggfcpgaa
open Go.ChangeShapes Go.WideShapes Go.ChangeAt Go.RowKit Go.Shelf

def spPh (r : RunS) (mark : Int) (i0 i1 i2 i3 : Nat) : RunS := ⟨over (mkC mark) r.calls i0, over (mkT mark) r.trace i1, over (mkS mark) r.shifts i2, over (mkW mark) r.words i3⟩
/-- marked, and so many behind each row -/
def spEnd (r : RunS) (mark : Int) (k0 k1 k2 k3 : Nat) : RunS := ⟨(List.range r.calls.length).map (mkC mark) ++ (List.range k0).map (tlC mark), (List.range r.trace.length).map (mkT mark) ++ (List.range k1).map (tlT mark), (List.range r.shifts.length).map (mkS mark) ++ (List.range k2).map (tlS mark), (List.range r.words.length).map (mkW mark) ++ (List.range k3).map (tlW mark)⟩
theorem spPh_zero (r : RunS) (mark : Int) : spPh r mark 0 0 0 0 = r := by simp [spPh, over_zero]
theorem spPh_end (r : RunS) (mark : Int) : spPh r mark r.calls.length r.trace.length r.shifts.length r.words.length = spEnd r mark 0 0 0 0 := by simp [spPh, spEnd, over_all]
theorem spPh_len (r : RunS) (mark : Int) {i0 i1 i2 i3 : Nat} (h0 : i0 ≤ r.calls.length) (h1 : i1 ≤ r.trace.length) (h2 : i2 ≤ r.shifts.length) (h3 : i3 ≤ r.words.length) : ∀ k, k < 4 → (spPh r mark i0 i1 i2 i3).len k = r.len k := by
  intro k hk
  match k, hk with
  | 0, _ => exact over_len _ _ _ h0
  | 1, _ => exact over_len _ _ _ h1
  | 2, _ => exact over_len _ _ _ h2
  | 3, _ => exact over_len _ _ _ h3
def resBox : Obj := .cells #[.slice none 0 0, .slice none 0 0, .slice none 0 0, .slice none 0 0] 41 (0, 0)
structure SpSt (W1 : World) (base bx rb : Nat) (x y : RunVs) (r s : RunS) (wr : World) : Prop where
  at' : ∃ col, SpAt wr base bx x y r s col
  on : Only (fun k => x.own k ∨ k = bx) W1 wr
  rbx : wr.heap[rb]? = some resBox
  rno : ¬ RunVs.has x y rb
  has : ∀ k, RunVs.has x y k → x.own k ∨ W1.heap.size ≤ k
theorem own_has {x : RunVs} {i k : Nat} (hi : i < 4) (h : (x.row i).rowBlock = some k) : x.own k := by
  match i, hi with
  | 0, _ => exact .inl h
  | 1, _ => exact .inr (.inl h)
  | 2, _ => exact .inr (.inr (.inl h))
  | 3, _ => exact .inr (.inr (.inr h))
theorem has_own {x : RunVs} {k : Nat} (h : x.own k) : ∃ i, i < 4 ∧ (x.row i).rowBlock = some k := by
  rcases h with h | h | h | h
  · exact ⟨0, by omega, h⟩
  · exact ⟨1, by omega, h⟩
  · exact ⟨2, by omega, h⟩
  · exact ⟨3, by omega, h⟩
section
variable {W1 wr w' : World} {base bx rb : Nat} {x y : RunVs} {r s r' s' : RunS}
theorem SpSt.only (h : SpSt W1 base bx rb x y r s wr) (ho : Only (fun _ => False) wr w') : SpSt W1 base bx rb x y r s w' := by
  obtain ⟨col, hA⟩ := h.at'
  exact ⟨⟨col, hA.only ho⟩, h.on.trans ho (fun _ x => x.elim), (ho.block _ (Array.getElem?_eq_some_iff.1 h.rbx).1 (fun x => x)).trans h.rbx, h.rno, h.has⟩
theorem SpSt.put (h : SpSt W1 base bx rb x x r r wr) {i g j : Nat} (hi : i < 4) (hg : (x.row i).rowBlock = some g) (hj : j < r.len i) (ys : List Value) (hys : ys.length = runSz i) (hx : r'.xs i = setMany (r.xs i) (j * runSz i) ys) (hl : ∀ k, k < 4 → r'.len k = r.len k) (ho : ∀ k, k < 4 → k ≠ i → r'.xs k = r.xs k) : SpSt W1 base bx rb x x r' r' (wr.setCells g (j * runSz i) ys) := by
  obtain ⟨col, hA⟩ := h.at'
  refine ⟨⟨col, hA.put hi hg hj ys hys hx hl ho⟩, setCells_only (F := fun k => x.own k ∨ k = bx) (.inl (own_has hi hg)) ys _ _ _ h.on, ?_, h.rno, h.has⟩
  rw [setCells_other g ys _ wr rb (fun e => h.rno ⟨i, hi, .inl (e ▸ hg)⟩)]
  exact h.rbx
theorem SpSt.app (h : SpSt W1 base bx rb x y r s wr) {w1 : World} (ha : Only (fun _ => False) wr w1) {i : Nat} (hi : i < 4) {m : Nat} (hm : s.len i = m) {u : Value} {ys : List Value} (hr : w'.RowV base (runTy i) (runSz i) u (m + 1) (s.xs i ++ ys)) (ho : RowOut w1 w' (y.row i) u m 1)
    (hx : s'.xs i = s.xs i ++ ys) (hl : s'.len i = s.len i + 1) (hx2 : ∀ k, k < 4 → k ≠ i → s'.xs k = s.xs k) (hl2 : ∀ k, k < 4 → k ≠ i → s'.len k = s.len k) (hrb : rb ≠ bx) : SpSt W1 base bx rb x (y.put i u) r s' (w'.setCell ⟨bx, i, none⟩ u) := by
  subst hm
  obtain ⟨col, hA⟩ := (h.only ha).at'
  obtain ⟨col', h1, h2⟩ := hA.app hi hr ho hx hl hx2 hl2
  have hs := h.on.size
  have hs2 := ha.size
  have hrl := (Array.getElem?_eq_some_iff.1 h.rbx).1
  refine ⟨⟨col', h1⟩, ?_, ?_, fun e => ?_, fun k hk => ?_⟩
  · refine ((h.on.trans ha (fun _ x => x.elim)).trans (Only.out ho (F := fun k => (y.row i).rowBlock = some k) (fun _ hk => hk)) (fun k hk => ?_)).set (.inl (.inr rfl)) u
    rcases h.has k ⟨i, hi, .inl hk⟩ with h3 | h3
    · exact .inl (.inl h3)
    · exact .inr h3
  · rw [Below.heap_setCell _ _ _ _ hrb, ho.block (by omega) (fun e => h.rno ⟨i, hi, .inl e⟩)]
    exact (h.only ha).rbx
  · rcases h2 rb e with h3 | h3
    · exact h.rno h3
    · omega
  · rcases h2 k hk with h3 | h3
    · exact h.has k h3
    · exact .inr (by omega)
end
/-- what Spoil leaves: two views of each row -/
structure SpoilAt (w : World) (base : Nat) (x y : RunVs) (r s : RunS) : Prop where
  two : ∀ i, i < 4 → Two w base (runTy i) (runSz i) (x.row i) (y.row i) (r.len i) (s.len i) (r.xs i) (s.xs i)
theorem RunAt.sp {w : World} {base bx : Nat} {x : RunVs} {r : RunS} (h : RunAt w base x r) (hb : w.heap[bx]? = some (.cells #[x.va, x.vt, x.vb, x.vc] 41 (0, 0))) (hn : ¬ x.own bx) : ∃ col, SpAt w base bx x x r r col := by
  refine ⟨fun k => if x.va.rowBlock = some k then 1 else if x.vt.rowBlock = some k then 2 else if x.vb.rowBlock = some k then 3 else if x.vc.rowBlock = some k then 4 else 0, hb, fun i hi => ?_, ?_, fun i hi k hk => ?_⟩
  · match i, hi with
    | 0, _ => exact Two.refl h.wa
    | 1, _ => exact Two.refl h.wt
    | 2, _ => exact Two.refl h.wb
    | 3, _ => exact Two.refl h.wc
  · show (if _ then _ else _) = _
    rw [if_neg (fun e => hn (.inl e)), if_neg (fun e => hn (.inr (.inl e))), if_neg (fun e => hn (.inr (.inr (.inl e)))), if_neg (fun e => hn (.inr (.inr (.inr e))))]
  · have hk' : (x.row i).rowBlock = some k := by rcases hk with h | h <;> exact h
    show (if _ then _ else _) = _
    match i, hi with
    | 0, _ => rw [if_pos (show x.va.rowBlock = some k from hk')]
    | 1, _ => rw [if_neg (fun e => h.at' k e hk'), if_pos (show x.vt.rowBlock = some k from hk')]
    | 2, _ => rw [if_neg (fun e => h.ab k e hk'), if_neg (fun e => h.tb k e hk'), if_pos (show x.vb.rowBlock = some k from hk')]
    | 3, _ => rw [if_neg (fun e => h.ac k e hk'), if_neg (fun e => h.tc k e hk'), if_neg (fun e => h.bc k e hk'), if_pos (show x.vc.rowBlock = some k from hk')]

theorem spPut0 (r : RunS) (mark : Int) {j : Nat} (hj : j < r.calls.length) : (spPh r mark (j + 1) 0 0 0).xs 0 = setMany ((spPh r mark j 0 0 0).xs 0) (j * 9) (mkC mark j).cells := by
  show cals (over (mkC mark) r.calls (j + 1)) = setMany (cals (over (mkC mark) r.calls j)) (j * 9) (mkC mark j).cells
  rw [← over_set _ _ _ hj]
  exact (flat_many (f := Cal.cells) (k := 9) _ (fun _ _ => rfl) j (by rw [over_len _ _ _ (by omega)]; exact hj) _ rfl).symm
theorem spPut1 (r : RunS) (mark : Int) {j : Nat} (hj : j < r.trace.length) : (spPh r mark r.calls.length (j + 1) 0 0).xs 1 = setMany ((spPh r mark r.calls.length j 0 0).xs 1) (j * 7) (mkT mark j).cells := by
  show accs (over (mkT mark) r.trace (j + 1)) = setMany (accs (over (mkT mark) r.trace j)) (j * 7) (mkT mark j).cells
  rw [← over_set _ _ _ hj]
  exact (flat_many (f := Acc.cells) (k := 7) _ (fun _ _ => rfl) j (by rw [over_len _ _ _ (by omega)]; exact hj) _ rfl).symm
theorem spPut2 (r : RunS) (mark : Int) {j : Nat} (hj : j < r.shifts.length) : (spPh r mark r.calls.length r.trace.length (j + 1) 0).xs 2 = setMany ((spPh r mark r.calls.length r.trace.length j 0).xs 2) (j * 5) (mkS mark j).cells := by
  show shfs (over (mkS mark) r.shifts (j + 1)) = setMany (shfs (over (mkS mark) r.shifts j)) (j * 5) (mkS mark j).cells
  rw [← over_set _ _ _ hj]
  exact (flat_many (f := Shf.cells) (k := 5) _ (fun _ _ => rfl) j (by rw [over_len _ _ _ (by omega)]; exact hj) _ rfl).symm
theorem spPut3 (r : RunS) (mark : Int) {j : Nat} (hj : j < r.words.length) : (spPh r mark r.calls.length r.trace.length r.shifts.length (j + 1)).xs 3 = setMany ((spPh r mark r.calls.length r.trace.length r.shifts.length j).xs 3) (j * 1) [.int .u64 (mark + j)] := by
  show u64s (over (mkW mark) r.words (j + 1)) = (u64s (over (mkW mark) r.words j)).set (j * 1) (.int .u64 (mark + j))
  rw [← over_set _ _ _ hj, Nat.mul_one]
  simp [u64s, List.map_set, mkW]
theorem spApp0 (r : RunS) (mark : Int) (k0 a1 a2 a3 : Nat) : (spEnd r mark (k0 + 1) a1 a2 a3).xs 0 = (spEnd r mark k0 a1 a2 a3).xs 0 ++ (tlC mark k0).cells := by
  show cals (_ ++ (List.range (k0 + 1)).map (tlC mark)) = cals (_ ++ (List.range k0).map (tlC mark)) ++ (tlC mark k0).cells
  rw [List.range_succ, List.map_append, ← List.append_assoc]
  simp [cals, tlC]
theorem spLen0 (r : RunS) (mark : Int) (a0 a1 a2 a3 : Nat) : (spEnd r mark a0 a1 a2 a3).len 0 = r.calls.length + a0 := by
  show (_ ++ _ : List _).length = _
  simp
theorem spApp1 (r : RunS) (mark : Int) (k0 a0 a2 a3 : Nat) : (spEnd r mark a0 (k0 + 1) a2 a3).xs 1 = (spEnd r mark a0 k0 a2 a3).xs 1 ++ (tlT mark k0).cells := by
  show accs (_ ++ (List.range (k0 + 1)).map (tlT mark)) = accs (_ ++ (List.range k0).map (tlT mark)) ++ (tlT mark k0).cells
  rw [List.range_succ, List.map_append, ← List.append_assoc]
  simp [accs, tlT]
theorem spLen1 (r : RunS) (mark : Int) (a0 a1 a2 a3 : Nat) : (spEnd r mark a0 a1 a2 a3).len 1 = r.trace.length + a1 := by
  show (_ ++ _ : List _).length = _
  simp
theorem spApp2 (r : RunS) (mark : Int) (k0 a0 a1 a3 : Nat) : (spEnd r mark a0 a1 (k0 + 1) a3).xs 2 = (spEnd r mark a0 a1 k0 a3).xs 2 ++ (tlS mark k0).cells := by
  show shfs (_ ++ (List.range (k0 + 1)).map (tlS mark)) = shfs (_ ++ (List.range k0).map (tlS mark)) ++ (tlS mark k0).cells
  rw [List.range_succ, List.map_append, ← List.append_assoc]
  simp [shfs, tlS]
theorem spLen2 (r : RunS) (mark : Int) (a0 a1 a2 a3 : Nat) : (spEnd r mark a0 a1 a2 a3).len 2 = r.shifts.length + a2 := by
  show (_ ++ _ : List _).length = _
  simp
theorem spApp3 (r : RunS) (mark : Int) (k0 a0 a1 a2 : Nat) : (spEnd r mark a0 a1 a2 (k0 + 1)).xs 3 = (spEnd r mark a0 a1 a2 k0).xs 3 ++ [.int .u64 (mark + 1000000)] := by
  show u64s (_ ++ (List.range (k0 + 1)).map (tlW mark)) = u64s (_ ++ (List.range k0).map (tlW mark)) ++ [.int .u64 (mark + 1000000)]
  rw [List.range_succ, List.map_append, ← List.append_assoc]
  simp [u64s, tlW]
theorem spLen3 (r : RunS) (mark : Int) (a0 a1 a2 a3 : Nat) : (spEnd r mark a0 a1 a2 a3).len 3 = r.words.length + a3 := by
  show (_ ++ _ : List _).length = _
  simp

set_option maxRecDepth 100000 in
set_option maxHeartbeats 4000000 in
theorem spoil_any {w : World} {base : Nat} {x : RunVs} {r : RunS} (h : RunAt w base x r) (hsm : RunS.small r) (mark : Int) (hm1 : 0 ≤ mark) (hm2 : mark ≤ 10000) (hbs : base ≤ w.heap.size) :
    Calls Try.prog 30 #[x.v, .int .i64 mark] w fun e w' => ∃ y : RunVs, e = .returned y.v ∧ SpoilAt w' base x y (spEnd r mark 0 0 0 0) (spEnd r mark 70 70 70 70) ∧ Only x.own w w' ∧ ∀ k, RunVs.has x y k → x.own k ∨ w.heap.size ≤ k := by
  obtain ⟨s1, s2, s3, s4⟩ := hsm
  have HR := Lib.hid h
  have HBASE := Lib.hid hbs
  obtain ⟨oa, ca, ot, ct, ob, cb, oc, cc, rfl⟩ := h.src.forms
  unfold RunVs.v
  clear h
  go_enter Try.func30, Try.ntmps30
  go_upto_region 1 with (fail)
  refine gen_world ?_
  intro W1 hW1
  obtain ⟨bx, hbe⟩ : ∃ bx, bx = w.heap.size := ⟨_, rfl⟩
  obtain ⟨rb, hre⟩ : ∃ rb, rb = w.heap.size + 1 := ⟨_, rfl⟩
  have o1 : Only (fun _ => False) w W1 := by rw [hW1]; exact ((Only.refl _ w).alloc _).alloc _
  have hb1 : W1.heap[bx]? = some (.cells #[.slice oa r.calls.length ca, .slice ot r.trace.length ct, .slice ob r.shifts.length cb, .slice oc r.words.length cc] 41 (0, 0)) := by rw [hW1, hbe, Below.heap_alloc _ _ _ (by simp)]; exact heap_alloc_new w _
  have hb2 : W1.heap[rb]? = some resBox := by rw [hW1, hre]; exact heap_alloc_at (by simp)
  have hne : rb ≠ bx := by omega
  have HR1 := HR.out.of_block (fun k hk => o1.block k (HR.out.lt k hk).2 (fun x => x))
  have HST : Hid (SpSt W1 base bx rb (⟨.slice oa r.calls.length ca, .slice ot r.trace.length ct, .slice ob r.shifts.length cb, .slice oc r.words.length cc⟩ : RunVs) (⟨.slice oa r.calls.length ca, .slice ot r.trace.length ct, .slice ob r.shifts.length cb, .slice oc r.words.length cc⟩ : RunVs) r r W1) := Lib.hid ⟨RunAt.sp HR1 hb1 (fun e => by have := (HR.out.lt _ e).2; omega), Only.refl _ _, hb2, fun ⟨i, hi, e⟩ => by have := (HR.out.lt rb (own_has hi (by rcases e with e | e <;> exact e))).2; omega, fun k ⟨i, hi, e⟩ => .inl (own_has hi (by rcases e with e | e <;> exact e))⟩
  have HO1 := Lib.hid o1
  have HBE := Lib.hid hbe
  have HRE := Lib.hid hre
  rw [show w.heap.size + 1 = rb from hre.symm, show w.heap.size = bx from hbe.symm]
  have HB0 := Lib.hid (show base ≤ W1.heap.size from by have := HR.out; have := o1.size; have := HBASE.out; omega)
  clear hW1 o1 hb1 hb2 HR1 hbe hre
  go_wp2
  go_loopg [5] r.calls.length (fun g sl wr => ∃ j : Nat, j ≤ r.calls.length ∧ r.calls.length ≤ j + g ∧ sl = .int .i64 (j : Int) ∧ Hid (SpSt W1 base bx rb (⟨.slice oa r.calls.length ca, .slice ot r.trace.length ct, .slice ob r.shifts.length cb, .slice oc r.words.length cc⟩ : RunVs) (⟨.slice oa r.calls.length ca, .slice ot r.trace.length ct, .slice ob r.shifts.length cb, .slice oc r.words.length cc⟩ : RunVs) (spPh r mark j 0 0 0) (spPh r mark j 0 0 0) wr))
  case atStart => exact ⟨0, by omega, by omega, by go_num, by rw [spPh_zero]; exact HST⟩
  case round =>
    obtain ⟨j, hj1, hj2, rfl, hI⟩ := hrel
    obtain ⟨col, hA⟩ := hI.out.at'
    have hbx := hA.box
    have b0 : wr.cell? ⟨bx, 0, none⟩ = some (.slice oa r.calls.length ca) := by simp [World.cell?, hbx]
    have lbx := (Array.getElem?_eq_some_iff.1 hbx).1
    by_cases hlt : j < r.calls.length
    · have hle : j * 9 + 9 ≤ r.calls.length * 9 := by rw [← Nat.succ_mul]; exact Nat.mul_le_mul_right 9 hlt
      have hn : wr.RowV base 63 9 (.slice oa r.calls.length ca) r.calls.length ((spPh r mark j 0 0 0).xs 0) := by
        have := (hA.two 0 (by omega)).now
        rw [spPh_len r mark (by omega) (Nat.zero_le _) (Nat.zero_le _) (Nat.zero_le _) 0 (by omega)] at this
        exact this
      obtain ⟨g, cap, e, h1, h2, h3, h4, h5, h6⟩ := hn.some_form (by omega)
      have HN := Lib.hid (hI.out.put (r' := (spPh r mark (j + 1) 0 0 0)) (i := 0) (by omega) h4 (j := j) (by rw [spPh_len r mark (by omega) (Nat.zero_le _) (Nat.zero_le _) (Nat.zero_le _) 0 (by omega)]; exact hlt) (mkC mark j).cells rfl (spPut0 r mark hlt) (fun k hk => (spPh_len r mark (by omega) (Nat.zero_le _) (Nat.zero_le _) (Nat.zero_le _) k hk).symm ▸ (spPh_len r mark (by omega) (Nat.zero_le _) (Nat.zero_le _) (Nat.zero_le _) k hk)) (fun k hk hne => by match k, hk with | 0, _ => exact absurd rfl hne | 1, _ | 2, _ | 3, _ => rfl))
      have hgb := hA.nbx ⟨0, by omega, .inl h4⟩
      cases e
      have hd : decide ((j : Int) < (r.calls.length : Int)) = true := by simp; omega
      obtain ⟨u0, hu0⟩ : ∃ u, wr.cell? ⟨g, j * 9, none⟩ = some u := ⟨_, h6 (j * 9) _ (List.getElem?_eq_getElem (by rw [hn.1]; omega))⟩
      obtain ⟨u1, hu1⟩ : ∃ u, wr.cell? ⟨g, j * 9 + 1, none⟩ = some u := ⟨_, h6 (j * 9 + 1) _ (List.getElem?_eq_getElem (by rw [hn.1]; omega))⟩
      obtain ⟨u2, hu2⟩ : ∃ u, wr.cell? ⟨g, j * 9 + 2, none⟩ = some u := ⟨_, h6 (j * 9 + 2) _ (List.getElem?_eq_getElem (by rw [hn.1]; omega))⟩
      obtain ⟨u3, hu3⟩ : ∃ u, wr.cell? ⟨g, j * 9 + 3, none⟩ = some u := ⟨_, h6 (j * 9 + 3) _ (List.getElem?_eq_getElem (by rw [hn.1]; omega))⟩
      obtain ⟨u4, hu4⟩ : ∃ u, wr.cell? ⟨g, j * 9 + 4, none⟩ = some u := ⟨_, h6 (j * 9 + 4) _ (List.getElem?_eq_getElem (by rw [hn.1]; omega))⟩
      obtain ⟨u5, hu5⟩ : ∃ u, wr.cell? ⟨g, j * 9 + 5, none⟩ = some u := ⟨_, h6 (j * 9 + 5) _ (List.getElem?_eq_getElem (by rw [hn.1]; omega))⟩
      obtain ⟨u6, hu6⟩ : ∃ u, wr.cell? ⟨g, j * 9 + 6, none⟩ = some u := ⟨_, h6 (j * 9 + 6) _ (List.getElem?_eq_getElem (by rw [hn.1]; omega))⟩
      obtain ⟨u7, hu7⟩ : ∃ u, wr.cell? ⟨g, j * 9 + 7, none⟩ = some u := ⟨_, h6 (j * 9 + 7) _ (List.getElem?_eq_getElem (by rw [hn.1]; omega))⟩
      obtain ⟨u8, hu8⟩ : ∃ u, wr.cell? ⟨g, j * 9 + 8, none⟩ = some u := ⟨_, h6 (j * 9 + 8) _ (List.getElem?_eq_getElem (by rw [hn.1]; omega))⟩
      have hz := h5
      clear h6 hn hbx hA hI
      go_wp2
      go_roundg (r.calls.length - (j + 1))
      case measure => omega
      case rel => exact ⟨j + 1, by omega, by omega, by go_num, HN⟩
    · obtain rfl : j = r.calls.length := by omega
      have HI1 := Lib.hid hI.out
      clear hI hbx hA hj1 hj2 hlt
      go_wp2
      go_loopg [6] r.trace.length (fun g sl wr => ∃ j : Nat, j ≤ r.trace.length ∧ r.trace.length ≤ j + g ∧ sl = .int .i64 (j : Int) ∧ Hid (SpSt W1 base bx rb (⟨.slice oa r.calls.length ca, .slice ot r.trace.length ct, .slice ob r.shifts.length cb, .slice oc r.words.length cc⟩ : RunVs) (⟨.slice oa r.calls.length ca, .slice ot r.trace.length ct, .slice ob r.shifts.length cb, .slice oc r.words.length cc⟩ : RunVs) (spPh r mark r.calls.length j 0 0) (spPh r mark r.calls.length j 0 0) wr))
      case atStart => exact ⟨0, by omega, by omega, by go_num, HI1⟩
      case round =>
        obtain ⟨j, hj1, hj2, rfl, hI⟩ := hrel
        obtain ⟨col, hA⟩ := hI.out.at'
        have hbx := hA.box
        have b1 : wr.cell? ⟨bx, 1, none⟩ = some (.slice ot r.trace.length ct) := by simp [World.cell?, hbx]
        have lbx := (Array.getElem?_eq_some_iff.1 hbx).1
        by_cases hlt : j < r.trace.length
        · have hle : j * 7 + 7 ≤ r.trace.length * 7 := by rw [← Nat.succ_mul]; exact Nat.mul_le_mul_right 7 hlt
          have hn : wr.RowV base 66 7 (.slice ot r.trace.length ct) r.trace.length ((spPh r mark r.calls.length j 0 0).xs 1) := by
            have := (hA.two 1 (by omega)).now
            rw [spPh_len r mark (Nat.le_refl _) (by omega) (Nat.zero_le _) (Nat.zero_le _) 1 (by omega)] at this
            exact this
          obtain ⟨g, cap, e, h1, h2, h3, h4, h5, h6⟩ := hn.some_form (by omega)
          have HN := Lib.hid (hI.out.put (r' := (spPh r mark r.calls.length (j + 1) 0 0)) (i := 1) (by omega) h4 (j := j) (by rw [spPh_len r mark (Nat.le_refl _) (by omega) (Nat.zero_le _) (Nat.zero_le _) 1 (by omega)]; exact hlt) (mkT mark j).cells rfl (spPut1 r mark hlt) (fun k hk => (spPh_len r mark (Nat.le_refl _) (by omega) (Nat.zero_le _) (Nat.zero_le _) k hk).symm ▸ (spPh_len r mark (Nat.le_refl _) (by omega) (Nat.zero_le _) (Nat.zero_le _) k hk)) (fun k hk hne => by match k, hk with | 1, _ => exact absurd rfl hne | 0, _ | 2, _ | 3, _ => rfl))
          have hgb := hA.nbx ⟨1, by omega, .inl h4⟩
          cases e
          have hd : decide ((j : Int) < (r.trace.length : Int)) = true := by simp; omega
          obtain ⟨u0, hu0⟩ : ∃ u, wr.cell? ⟨g, j * 7, none⟩ = some u := ⟨_, h6 (j * 7) _ (List.getElem?_eq_getElem (by rw [hn.1]; omega))⟩
          obtain ⟨u1, hu1⟩ : ∃ u, wr.cell? ⟨g, j * 7 + 1, none⟩ = some u := ⟨_, h6 (j * 7 + 1) _ (List.getElem?_eq_getElem (by rw [hn.1]; omega))⟩
          obtain ⟨u2, hu2⟩ : ∃ u, wr.cell? ⟨g, j * 7 + 2, none⟩ = some u := ⟨_, h6 (j * 7 + 2) _ (List.getElem?_eq_getElem (by rw [hn.1]; omega))⟩
          obtain ⟨u3, hu3⟩ : ∃ u, wr.cell? ⟨g, j * 7 + 3, none⟩ = some u := ⟨_, h6 (j * 7 + 3) _ (List.getElem?_eq_getElem (by rw [hn.1]; omega))⟩
          obtain ⟨u4, hu4⟩ : ∃ u, wr.cell? ⟨g, j * 7 + 4, none⟩ = some u := ⟨_, h6 (j * 7 + 4) _ (List.getElem?_eq_getElem (by rw [hn.1]; omega))⟩
          obtain ⟨u5, hu5⟩ : ∃ u, wr.cell? ⟨g, j * 7 + 5, none⟩ = some u := ⟨_, h6 (j * 7 + 5) _ (List.getElem?_eq_getElem (by rw [hn.1]; omega))⟩
          obtain ⟨u6, hu6⟩ : ∃ u, wr.cell? ⟨g, j * 7 + 6, none⟩ = some u := ⟨_, h6 (j * 7 + 6) _ (List.getElem?_eq_getElem (by rw [hn.1]; omega))⟩
          have hz := h5
          clear h6 hn hbx hA hI
          go_wp2
          go_roundg (r.trace.length - (j + 1))
          case measure => omega
          case rel => exact ⟨j + 1, by omega, by omega, by go_num, HN⟩
        · obtain rfl : j = r.trace.length := by omega
          have HI2 := Lib.hid hI.out
          clear hI hbx hA hj1 hj2 hlt
          go_wp2
          go_loopg [7] r.shifts.length (fun g sl wr => ∃ j : Nat, j ≤ r.shifts.length ∧ r.shifts.length ≤ j + g ∧ sl = .int .i64 (j : Int) ∧ Hid (SpSt W1 base bx rb (⟨.slice oa r.calls.length ca, .slice ot r.trace.length ct, .slice ob r.shifts.length cb, .slice oc r.words.length cc⟩ : RunVs) (⟨.slice oa r.calls.length ca, .slice ot r.trace.length ct, .slice ob r.shifts.length cb, .slice oc r.words.length cc⟩ : RunVs) (spPh r mark r.calls.length r.trace.length j 0) (spPh r mark r.calls.length r.trace.length j 0) wr))
          case atStart => exact ⟨0, by omega, by omega, by go_num, HI2⟩
          case round =>
            obtain ⟨j, hj1, hj2, rfl, hI⟩ := hrel
            obtain ⟨col, hA⟩ := hI.out.at'
            have hbx := hA.box
            have b2 : wr.cell? ⟨bx, 2, none⟩ = some (.slice ob r.shifts.length cb) := by simp [World.cell?, hbx]
            have lbx := (Array.getElem?_eq_some_iff.1 hbx).1
            by_cases hlt : j < r.shifts.length
            · have hle : j * 5 + 5 ≤ r.shifts.length * 5 := by rw [← Nat.succ_mul]; exact Nat.mul_le_mul_right 5 hlt
              have hn : wr.RowV base 132 5 (.slice ob r.shifts.length cb) r.shifts.length ((spPh r mark r.calls.length r.trace.length j 0).xs 2) := by
                have := (hA.two 2 (by omega)).now
                rw [spPh_len r mark (Nat.le_refl _) (Nat.le_refl _) (by omega) (Nat.zero_le _) 2 (by omega)] at this
                exact this
              obtain ⟨g, cap, e, h1, h2, h3, h4, h5, h6⟩ := hn.some_form (by omega)
              have HN := Lib.hid (hI.out.put (r' := (spPh r mark r.calls.length r.trace.length (j + 1) 0)) (i := 2) (by omega) h4 (j := j) (by rw [spPh_len r mark (Nat.le_refl _) (Nat.le_refl _) (by omega) (Nat.zero_le _) 2 (by omega)]; exact hlt) (mkS mark j).cells rfl (spPut2 r mark hlt) (fun k hk => (spPh_len r mark (Nat.le_refl _) (Nat.le_refl _) (by omega) (Nat.zero_le _) k hk).symm ▸ (spPh_len r mark (Nat.le_refl _) (Nat.le_refl _) (by omega) (Nat.zero_le _) k hk)) (fun k hk hne => by match k, hk with | 2, _ => exact absurd rfl hne | 0, _ | 1, _ | 3, _ => rfl))
              have hgb := hA.nbx ⟨2, by omega, .inl h4⟩
              cases e
              have hd : decide ((j : Int) < (r.shifts.length : Int)) = true := by simp; omega
              obtain ⟨u0, hu0⟩ : ∃ u, wr.cell? ⟨g, j * 5, none⟩ = some u := ⟨_, h6 (j * 5) _ (List.getElem?_eq_getElem (by rw [hn.1]; omega))⟩
              obtain ⟨u1, hu1⟩ : ∃ u, wr.cell? ⟨g, j * 5 + 1, none⟩ = some u := ⟨_, h6 (j * 5 + 1) _ (List.getElem?_eq_getElem (by rw [hn.1]; omega))⟩
              obtain ⟨u2, hu2⟩ : ∃ u, wr.cell? ⟨g, j * 5 + 2, none⟩ = some u := ⟨_, h6 (j * 5 + 2) _ (List.getElem?_eq_getElem (by rw [hn.1]; omega))⟩
              obtain ⟨u3, hu3⟩ : ∃ u, wr.cell? ⟨g, j * 5 + 3, none⟩ = some u := ⟨_, h6 (j * 5 + 3) _ (List.getElem?_eq_getElem (by rw [hn.1]; omega))⟩
              obtain ⟨u4, hu4⟩ : ∃ u, wr.cell? ⟨g, j * 5 + 4, none⟩ = some u := ⟨_, h6 (j * 5 + 4) _ (List.getElem?_eq_getElem (by rw [hn.1]; omega))⟩
              have hz := h5
              clear h6 hn hbx hA hI
              go_wp2
              go_roundg (r.shifts.length - (j + 1))
              case measure => omega
              case rel => exact ⟨j + 1, by omega, by omega, by go_num, HN⟩
            · obtain rfl : j = r.shifts.length := by omega
              have HI3 := Lib.hid hI.out
              clear hI hbx hA hj1 hj2 hlt
              go_wp2
              go_loopg [8] r.words.length (fun g sl wr => ∃ j : Nat, j ≤ r.words.length ∧ r.words.length ≤ j + g ∧ sl = .int .i64 (j : Int) ∧ Hid (SpSt W1 base bx rb (⟨.slice oa r.calls.length ca, .slice ot r.trace.length ct, .slice ob r.shifts.length cb, .slice oc r.words.length cc⟩ : RunVs) (⟨.slice oa r.calls.length ca, .slice ot r.trace.length ct, .slice ob r.shifts.length cb, .slice oc r.words.length cc⟩ : RunVs) (spPh r mark r.calls.length r.trace.length r.shifts.length j) (spPh r mark r.calls.length r.trace.length r.shifts.length j) wr))
              case atStart => exact ⟨0, by omega, by omega, by go_num, HI3⟩
              case round =>
                obtain ⟨j, hj1, hj2, rfl, hI⟩ := hrel
                obtain ⟨col, hA⟩ := hI.out.at'
                have hbx := hA.box
                have b3 : wr.cell? ⟨bx, 3, none⟩ = some (.slice oc r.words.length cc) := by simp [World.cell?, hbx]
                have lbx := (Array.getElem?_eq_some_iff.1 hbx).1
                by_cases hlt : j < r.words.length
                · have hle : j * 1 + 1 ≤ r.words.length * 1 := by rw [← Nat.succ_mul]; exact Nat.mul_le_mul_right 1 hlt
                  have hn : wr.RowV base 27 1 (.slice oc r.words.length cc) r.words.length ((spPh r mark r.calls.length r.trace.length r.shifts.length j).xs 3) := by
                    have := (hA.two 3 (by omega)).now
                    rw [spPh_len r mark (Nat.le_refl _) (Nat.le_refl _) (Nat.le_refl _) (by omega) 3 (by omega)] at this
                    exact this
                  obtain ⟨g, cap, e, h1, h2, h3, h4, h5, h6⟩ := hn.some_form (by omega)
                  have HN := Lib.hid (hI.out.put (r' := (spPh r mark r.calls.length r.trace.length r.shifts.length (j + 1))) (i := 3) (by omega) h4 (j := j) (by rw [spPh_len r mark (Nat.le_refl _) (Nat.le_refl _) (Nat.le_refl _) (by omega) 3 (by omega)]; exact hlt) [.int .u64 (mark + (j : Int))] rfl (spPut3 r mark hlt) (fun k hk => (spPh_len r mark (Nat.le_refl _) (Nat.le_refl _) (Nat.le_refl _) (by omega) k hk).symm ▸ (spPh_len r mark (Nat.le_refl _) (Nat.le_refl _) (Nat.le_refl _) (by omega) k hk)) (fun k hk hne => by match k, hk with | 3, _ => exact absurd rfl hne | 0, _ | 1, _ | 2, _ => rfl))
                  rw [show j * runSz 3 = j from Nat.mul_one j] at HN
                  have hgb := hA.nbx ⟨3, by omega, .inl h4⟩
                  cases e
                  have hd : decide ((j : Int) < (r.words.length : Int)) = true := by simp; omega
                  obtain ⟨u0, hu0⟩ : ∃ u, wr.cell? ⟨g, j, none⟩ = some u := ⟨_, h6 j _ (List.getElem?_eq_getElem (by rw [hn.1]; omega))⟩
                  have hmc : decide (0 ≤ mark) = true := by simpa using hm1
                  have hz := h5
                  clear h6 hn hbx hA hI
                  go_wp2
                  go_roundg (r.words.length - (j + 1))
                  case measure => omega
                  case rel => exact ⟨j + 1, by omega, by omega, by go_num, HN⟩
                · obtain rfl : j = r.words.length := by omega
                  have HI4 := Lib.hid hI.out
                  clear hI hbx hA hj1 hj2 hlt
                  have HE0 : Hid (SpSt W1 base bx rb (⟨.slice oa r.calls.length ca, .slice ot r.trace.length ct, .slice ob r.shifts.length cb, .slice oc r.words.length cc⟩ : RunVs) (⟨.slice oa r.calls.length ca, .slice ot r.trace.length ct, .slice ob r.shifts.length cb, .slice oc r.words.length cc⟩ : RunVs) (spEnd r mark 0 0 0 0) (spEnd r mark 0 0 0 0) wr) := Lib.hid (by rw [← spPh_end]; exact HI4.out)
                  clear HI4
                  obtain ⟨t0, tt0, tz00, tz01, tz02⟩ := info_parts infoCall
                  have TT0 := Lib.hid tt0
                  have TA0 := Lib.hid tz00
                  have TB0 := Lib.hid tz01
                  have TC0 := Lib.hid tz02
                  clear tt0 tz00 tz01 tz02
                  obtain ⟨t1, tt1, tz10, tz11, tz12⟩ := info_parts infoAcc
                  have TT1 := Lib.hid tt1
                  have TA1 := Lib.hid tz10
                  have TB1 := Lib.hid tz11
                  have TC1 := Lib.hid tz12
                  clear tt1 tz10 tz11 tz12
                  obtain ⟨t2, tt2, tz20, tz21, tz22⟩ := info_parts infoShift
                  have TT2 := Lib.hid tt2
                  have TA2 := Lib.hid tz20
                  have TB2 := Lib.hid tz21
                  have TC2 := Lib.hid tz22
                  clear tt2 tz20 tz21 tz22
                  obtain ⟨t3, tt3, tz30, tz31, tz32⟩ := info_parts infoU64
                  have TT3 := Lib.hid tt3
                  have TA3 := Lib.hid tz30
                  have TB3 := Lib.hid tz31
                  have TC3 := Lib.hid tz32
                  clear tt3 tz30 tz31 tz32
                  go_wp2
                  go_loopg [9] 70 (fun g sl wr => ∃ (k : Nat) (v0 : Option Addr) (d0 : Nat) (v1 : Option Addr) (d1 : Nat) (v2 : Option Addr) (d2 : Nat) (v3 : Option Addr) (d3 : Nat), k ≤ 70 ∧ 70 ≤ k + g ∧ sl = .int .i64 (k : Int) ∧ Hid (SpSt W1 base bx rb (⟨.slice oa r.calls.length ca, .slice ot r.trace.length ct, .slice ob r.shifts.length cb, .slice oc r.words.length cc⟩ : RunVs) (⟨.slice v0 (r.calls.length + k) d0, .slice v1 (r.trace.length + k) d1, .slice v2 (r.shifts.length + k) d2, .slice v3 (r.words.length + k) d3⟩ : RunVs) (spEnd r mark 0 0 0 0) (spEnd r mark k k k k) wr))
                  case atStart => exact ⟨0, _, _, _, _, _, _, _, _, by omega, by omega, by go_num, HE0⟩
                  case round =>
                    obtain ⟨k, v0, d0, v1, d1, v2, d2, v3, d3, hk1, hk2, rfl, hJ⟩ := hrel
                    by_cases hlt : k < 70
                    · have HJ0 := Lib.hid hJ.out
                      have hd70 : decide ((k : Int) < 70) = true := by simp; omega
                      clear hJ
                      obtain ⟨col, hA⟩ := HJ0.out.at'
                      have hbx := hA.box
                      have b0 : wr.cell? ⟨bx, 0, none⟩ = some (.slice v0 (r.calls.length + k) d0) := by simp [World.cell?, hbx]
                      have lbx := (Array.getElem?_eq_some_iff.1 hbx).1
                      have HBX := Lib.hid hbx
                      have hn : wr.RowV base 63 9 (.slice v0 (r.calls.length + k) d0) (r.calls.length + k) ((spEnd r mark k k k k).xs 0) := by
                        have := (hA.two 0 (by omega)).now
                        rw [spLen0] at this
                        exact this
                      have hnb : (Value.slice v0 (r.calls.length + k) d0).rowBlock ≠ some bx := fun e => hA.nbx ⟨0, by omega, .inl e⟩ rfl
                      have hbase : base ≤ wr.heap.size := by have := HB0.out; have := HJ0.out.on.size; omega
                      have HQ := Lib.hid hn
                      have P1 := Lib.hid (cals_one [tlC mark k])
                      have P2 := Lib.hid (show (r.calls.length + k) + 1 ≤ maxLen by unfold maxLen; omega)
                      have P3 := Lib.hid (show (((r.calls.length + k) + 1) + ((r.calls.length + k) + 1) / 4 + 192) * 72 ≤ 281474976710656 by omega)
                      clear hA hbx hn
                      go_upto_region 21 with (at_builtin; refine wpList_append_row _ rfl _ _ 37 rfl base 63 t0 _ 9 72 Try.underlying37 TT0.out TA0.out TB0.out TC0.out rfl (.slice v0 (r.calls.length + k) d0) (r.calls.length + k) ((spEnd r mark k k k k).xs 0) rfl (by repeat (first | exact HQ.out | apply World.RowV.alloc | apply World.RowV.drew)) _ 1 _ rfl (by repeat (first | apply World.Src.drew | exact World.Src.one rfl rfl)) P1.out P2.out P3.out (by simp; omega) ?_; intro u0 x0 hown hout; obtain ⟨e0, f0, rfl, _, _⟩ := hown.form; have HF0 := Lib.hid (HJ0.out.app (s' := spEnd r mark (k + 1) k k k) (by repeat (first | exact Only.refl _ _ | apply Only.alloc | apply Only.drew)) (i := 0) (by omega) (spLen0 ..) hown hout (spApp0 ..) (by rw [spLen0, spLen0]; rfl) (fun q hq hne => by match q, hq with | 0, _ => exact absurd rfl hne | 1, _ | 2, _ | 3, _ => rfl) (fun q hq hne => by match q, hq with | 0, _ => exact absurd rfl hne | 1, _ | 2, _ | 3, _ => rfl) hne); have hbn := (hout.block (k := bx) (by simp; omega) hnb).trans (Below.heap_alloc _ _ _ lbx); have hbq := hbn.trans HBX.out; clear hbn; have bq : x0.cell? ⟨bx, 0, none⟩ = some (.slice v0 (r.calls.length + k) d0) := (by simp [World.cell?, hbq]); have bzq : x0.frozen? ⟨bx, 0, none⟩ = false := (by simp [World.frozen?, hbq]); have lbq := (Array.getElem?_eq_some_iff.1 hbq).1; clear hbq hown hout)
                      refine gen_world ?_
                      intro X1 hX
                      have HJ1 : Hid (SpSt W1 base bx rb (⟨.slice oa r.calls.length ca, .slice ot r.trace.length ct, .slice ob r.shifts.length cb, .slice oc r.words.length cc⟩ : RunVs) (⟨.slice e0 (r.calls.length + (k + 1)) f0, .slice v1 (r.trace.length + k) d1, .slice v2 (r.shifts.length + k) d2, .slice v3 (r.words.length + k) d3⟩ : RunVs) (spEnd r mark 0 0 0 0) (spEnd r mark (k + 1) k k k) X1) := Lib.hid (by rw [hX]; exact HF0.out)
                      clear hX HF0 HJ0 HQ P1 P2 P3
                      obtain ⟨col, hA⟩ := HJ1.out.at'
                      have hbx := hA.box
                      have b1 : X1.cell? ⟨bx, 1, none⟩ = some (.slice v1 (r.trace.length + k) d1) := by simp [World.cell?, hbx]
                      have lbx := (Array.getElem?_eq_some_iff.1 hbx).1
                      have HBX := Lib.hid hbx
                      have hn : X1.RowV base 66 7 (.slice v1 (r.trace.length + k) d1) (r.trace.length + k) ((spEnd r mark (k + 1) k k k).xs 1) := by
                        have := (hA.two 1 (by omega)).now
                        rw [spLen1] at this
                        exact this
                      have hnb : (Value.slice v1 (r.trace.length + k) d1).rowBlock ≠ some bx := fun e => hA.nbx ⟨1, by omega, .inl e⟩ rfl
                      have hbase : base ≤ X1.heap.size := by have := HB0.out; have := HJ1.out.on.size; omega
                      have HQ := Lib.hid hn
                      have P1 := Lib.hid (accs_one [tlT mark k])
                      have P2 := Lib.hid (show (r.trace.length + k) + 1 ≤ maxLen by unfold maxLen; omega)
                      have P3 := Lib.hid (show (((r.trace.length + k) + 1) + ((r.trace.length + k) + 1) / 4 + 192) * 56 ≤ 281474976710656 by omega)
                      clear hA hbx hn
                      go_upto_region 22 with (at_builtin; refine wpList_append_row _ rfl _ _ 38 rfl base 66 t1 _ 7 56 Try.underlying38 TT1.out TA1.out TB1.out TC1.out rfl (.slice v1 (r.trace.length + k) d1) (r.trace.length + k) ((spEnd r mark (k + 1) k k k).xs 1) rfl (by repeat (first | exact HQ.out | apply World.RowV.alloc | apply World.RowV.drew)) _ 1 _ rfl (by repeat (first | apply World.Src.drew | exact World.Src.one rfl rfl)) P1.out P2.out P3.out (by simp; omega) ?_; intro u1 x1 hown hout; obtain ⟨e1, f1, rfl, _, _⟩ := hown.form; have HF1 := Lib.hid (HJ1.out.app (s' := spEnd r mark (k + 1) (k + 1) k k) (by repeat (first | exact Only.refl _ _ | apply Only.alloc | apply Only.drew)) (i := 1) (by omega) (spLen1 ..) hown hout (spApp1 ..) (by rw [spLen1, spLen1]; rfl) (fun q hq hne => by match q, hq with | 1, _ => exact absurd rfl hne | 0, _ | 2, _ | 3, _ => rfl) (fun q hq hne => by match q, hq with | 1, _ => exact absurd rfl hne | 0, _ | 2, _ | 3, _ => rfl) hne); have hbn := (hout.block (k := bx) (by simp; omega) hnb).trans (Below.heap_alloc _ _ _ lbx); have hbq := hbn.trans HBX.out; clear hbn; have bq : x1.cell? ⟨bx, 1, none⟩ = some (.slice v1 (r.trace.length + k) d1) := (by simp [World.cell?, hbq]); have bzq : x1.frozen? ⟨bx, 1, none⟩ = false := (by simp [World.frozen?, hbq]); have lbq := (Array.getElem?_eq_some_iff.1 hbq).1; clear hbq hown hout)
                      refine gen_world ?_
                      intro X2 hX
                      have HJ2 : Hid (SpSt W1 base bx rb (⟨.slice oa r.calls.length ca, .slice ot r.trace.length ct, .slice ob r.shifts.length cb, .slice oc r.words.length cc⟩ : RunVs) (⟨.slice e0 (r.calls.length + (k + 1)) f0, .slice e1 (r.trace.length + (k + 1)) f1, .slice v2 (r.shifts.length + k) d2, .slice v3 (r.words.length + k) d3⟩ : RunVs) (spEnd r mark 0 0 0 0) (spEnd r mark (k + 1) (k + 1) k k) X2) := Lib.hid (by rw [hX]; exact HF1.out)
                      clear hX HF1 HJ1 HQ P1 P2 P3
                      obtain ⟨col, hA⟩ := HJ2.out.at'
                      have hbx := hA.box
                      have b2 : X2.cell? ⟨bx, 2, none⟩ = some (.slice v2 (r.shifts.length + k) d2) := by simp [World.cell?, hbx]
                      have lbx := (Array.getElem?_eq_some_iff.1 hbx).1
                      have HBX := Lib.hid hbx
                      have hn : X2.RowV base 132 5 (.slice v2 (r.shifts.length + k) d2) (r.shifts.length + k) ((spEnd r mark (k + 1) (k + 1) k k).xs 2) := by
                        have := (hA.two 2 (by omega)).now
                        rw [spLen2] at this
                        exact this
                      have hnb : (Value.slice v2 (r.shifts.length + k) d2).rowBlock ≠ some bx := fun e => hA.nbx ⟨2, by omega, .inl e⟩ rfl
                      have hbase : base ≤ X2.heap.size := by have := HB0.out; have := HJ2.out.on.size; omega
                      have HQ := Lib.hid hn
                      have P1 := Lib.hid (shfs_one [tlS mark k])
                      have P2 := Lib.hid (show (r.shifts.length + k) + 1 ≤ maxLen by unfold maxLen; omega)
                      have P3 := Lib.hid (show (((r.shifts.length + k) + 1) + ((r.shifts.length + k) + 1) / 4 + 192) * 40 ≤ 281474976710656 by omega)
                      clear hA hbx hn
                      go_upto_region 23 with (at_builtin; refine wpList_append_row _ rfl _ _ 39 rfl base 132 t2 _ 5 40 Try.underlying39 TT2.out TA2.out TB2.out TC2.out rfl (.slice v2 (r.shifts.length + k) d2) (r.shifts.length + k) ((spEnd r mark (k + 1) (k + 1) k k).xs 2) rfl (by repeat (first | exact HQ.out | apply World.RowV.alloc | apply World.RowV.drew)) _ 1 _ rfl (by repeat (first | apply World.Src.drew | exact World.Src.one rfl rfl)) P1.out P2.out P3.out (by simp; omega) ?_; intro u2 x2 hown hout; obtain ⟨e2, f2, rfl, _, _⟩ := hown.form; have HF2 := Lib.hid (HJ2.out.app (s' := spEnd r mark (k + 1) (k + 1) (k + 1) k) (by repeat (first | exact Only.refl _ _ | apply Only.alloc | apply Only.drew)) (i := 2) (by omega) (spLen2 ..) hown hout (spApp2 ..) (by rw [spLen2, spLen2]; rfl) (fun q hq hne => by match q, hq with | 2, _ => exact absurd rfl hne | 0, _ | 1, _ | 3, _ => rfl) (fun q hq hne => by match q, hq with | 2, _ => exact absurd rfl hne | 0, _ | 1, _ | 3, _ => rfl) hne); have hbn := (hout.block (k := bx) (by simp; omega) hnb).trans (Below.heap_alloc _ _ _ lbx); have hbq := hbn.trans HBX.out; clear hbn; have bq : x2.cell? ⟨bx, 2, none⟩ = some (.slice v2 (r.shifts.length + k) d2) := (by simp [World.cell?, hbq]); have bzq : x2.frozen? ⟨bx, 2, none⟩ = false := (by simp [World.frozen?, hbq]); have lbq := (Array.getElem?_eq_some_iff.1 hbq).1; clear hbq hown hout)
                      refine gen_world ?_
                      intro X3 hX
                      have HJ3 : Hid (SpSt W1 base bx rb (⟨.slice oa r.calls.length ca, .slice ot r.trace.length ct, .slice ob r.shifts.length cb, .slice oc r.words.length cc⟩ : RunVs) (⟨.slice e0 (r.calls.length + (k + 1)) f0, .slice e1 (r.trace.length + (k + 1)) f1, .slice e2 (r.shifts.length + (k + 1)) f2, .slice v3 (r.words.length + k) d3⟩ : RunVs) (spEnd r mark 0 0 0 0) (spEnd r mark (k + 1) (k + 1) (k + 1) k) X3) := Lib.hid (by rw [hX]; exact HF2.out)
                      clear hX HF2 HJ2 HQ P1 P2 P3
                      obtain ⟨col, hA⟩ := HJ3.out.at'
                      have hbx := hA.box
                      have b3 : X3.cell? ⟨bx, 3, none⟩ = some (.slice v3 (r.words.length + k) d3) := by simp [World.cell?, hbx]
                      have lbx := (Array.getElem?_eq_some_iff.1 hbx).1
                      have HBX := Lib.hid hbx
                      have hn : X3.RowV base 27 1 (.slice v3 (r.words.length + k) d3) (r.words.length + k) ((spEnd r mark (k + 1) (k + 1) (k + 1) k).xs 3) := by
                        have := (hA.two 3 (by omega)).now
                        rw [spLen3] at this
                        exact this
                      have hnb : (Value.slice v3 (r.words.length + k) d3).rowBlock ≠ some bx := fun e => hA.nbx ⟨3, by omega, .inl e⟩ rfl
                      have hbase : base ≤ X3.heap.size := by have := HB0.out; have := HJ3.out.on.size; omega
                      have HQ := Lib.hid hn
                      have P1 := Lib.hid (show ∀ u ∈ [Value.int .u64 (mark + 1000000)], u.oneCell' = true by simp [Value.oneCell'])
                      have P2 := Lib.hid (show (r.words.length + k) + 1 ≤ maxLen by unfold maxLen; omega)
                      have P3 := Lib.hid (show (((r.words.length + k) + 1) + ((r.words.length + k) + 1) / 4 + 192) * 8 ≤ 281474976710656 by omega)
                      clear hA hbx hn
                      go_wp2_with (at_builtin; refine wpList_append_row _ rfl _ _ 28 rfl base 27 t3 _ 1 8 Try.underlying28 TT3.out TA3.out TB3.out TC3.out rfl (.slice v3 (r.words.length + k) d3) (r.words.length + k) ((spEnd r mark (k + 1) (k + 1) (k + 1) k).xs 3) rfl (by repeat (first | exact HQ.out | apply World.RowV.alloc | apply World.RowV.drew)) _ 1 _ rfl (by repeat (first | apply World.Src.drew | exact World.Src.one rfl rfl)) P1.out P2.out P3.out (by simp; omega) ?_; intro u3 x3 hown hout; obtain ⟨e3, f3, rfl, _, _⟩ := hown.form; have HF3 := Lib.hid (HJ3.out.app (s' := spEnd r mark (k + 1) (k + 1) (k + 1) (k + 1)) (by repeat (first | exact Only.refl _ _ | apply Only.alloc | apply Only.drew)) (i := 3) (by omega) (spLen3 ..) hown hout (spApp3 ..) (by rw [spLen3, spLen3]; rfl) (fun q hq hne => by match q, hq with | 3, _ => exact absurd rfl hne | 0, _ | 1, _ | 2, _ => rfl) (fun q hq hne => by match q, hq with | 3, _ => exact absurd rfl hne | 0, _ | 1, _ | 2, _ => rfl) hne); have hbn := (hout.block (k := bx) (by simp; omega) hnb).trans (Below.heap_alloc _ _ _ lbx); have hbq := hbn.trans HBX.out; clear hbn; have bq : x3.cell? ⟨bx, 3, none⟩ = some (.slice v3 (r.words.length + k) d3) := (by simp [World.cell?, hbq]); have bzq : x3.frozen? ⟨bx, 3, none⟩ = false := (by simp [World.frozen?, hbq]); have lbq := (Array.getElem?_eq_some_iff.1 hbq).1; clear hbq hown hout)
                      have HJ4 := HF3
                      go_wp2
                      go_roundg (70 - (k + 1))
                      case measure => omega
                      case rel => exact ⟨k + 1, e0, f0, e1, f1, e2, f2, e3, f3, by omega, by omega, by go_num, HJ4⟩
                    · obtain rfl : k = 70 := by omega
                      obtain ⟨col, hA⟩ := hJ.out.at'
                      have hbx := hA.box
                      have b0 : wr.cell? ⟨bx, 0, none⟩ = some (.slice v0 (r.calls.length + 70) d0) := by simp [World.cell?, hbx]
                      have b1 : wr.cell? ⟨bx, 1, none⟩ = some (.slice v1 (r.trace.length + 70) d1) := by simp [World.cell?, hbx]
                      have b2 : wr.cell? ⟨bx, 2, none⟩ = some (.slice v2 (r.shifts.length + 70) d2) := by simp [World.cell?, hbx]
                      have b3 : wr.cell? ⟨bx, 3, none⟩ = some (.slice v3 (r.words.length + 70) d3) := by simp [World.cell?, hbx]
                      have hrb := hJ.out.rbx
                      unfold resBox at hrb
                      have c0 : wr.cell? ⟨rb, 0, none⟩ = some (.slice none 0 0) := by simp [World.cell?, hrb]
                      have c1 : wr.cell? ⟨rb, 1, none⟩ = some (.slice none 0 0) := by simp [World.cell?, hrb]
                      have c2 : wr.cell? ⟨rb, 2, none⟩ = some (.slice none 0 0) := by simp [World.cell?, hrb]
                      have c3 : wr.cell? ⟨rb, 3, none⟩ = some (.slice none 0 0) := by simp [World.cell?, hrb]
                      have cz : ∀ j, wr.frozen? ⟨rb, j, none⟩ = false := fun j => by simp [World.frozen?, hrb]
                      have lrb := (Array.getElem?_eq_some_iff.1 hrb).1
                      have HJJ := Lib.hid hJ.out
                      have HAA := Lib.hid hA
                      clear hJ hA hbx hrb
                      go_wp2
                      refine bodyPost_ret (v := .agg #[.slice v0 (r.calls.length + 70) d0, .slice v1 (r.trace.length + 70) d1, .slice v2 (r.shifts.length + 70) d2, .slice v3 (r.words.length + 70) d3]) (by simp [results, Try.results30, go_sem, c0, c1, c2, c3]) rfl ⟨(⟨.slice v0 (r.calls.length + 70) d0, .slice v1 (r.trace.length + 70) d1, .slice v2 (r.shifts.length + 70) d2, .slice v3 (r.words.length + 70) d3⟩ : RunVs), rfl, ⟨fun i hi => ?_⟩, ?_, fun k hk => ?_⟩
                      · refine (HAA.out.two i hi).of_block fun b hb => ?_
                        have hnb : b ≠ rb := fun e => HJJ.out.rno ⟨i, hi, e ▸ hb⟩
                        exact (Below.heap_setCell _ ⟨rb, 3, none⟩ _ _ hnb).trans ((Below.heap_setCell _ ⟨rb, 2, none⟩ _ _ hnb).trans ((Below.heap_setCell _ ⟨rb, 1, none⟩ _ _ hnb).trans (Below.heap_setCell _ ⟨rb, 0, none⟩ _ _ hnb)))
                      · have hbw : w.heap.size ≤ bx := Nat.le_of_eq HBE.out.symm
                        have hrw : w.heap.size ≤ rb := by have := HRE.out; omega
                        refine Only.trans (F := RunVs.own (⟨.slice oa r.calls.length ca, .slice ot r.trace.length ct, .slice ob r.shifts.length cb, .slice oc r.words.length cc⟩ : RunVs)) ((HO1.out.mono (fun _ _ x => x.elim)).trans HJJ.out.on (fun k hk => ?_)) (((((Only.refl (fun k => k = rb) wr).set (p := ⟨rb, 0, none⟩) (.inl rfl) _).set (p := ⟨rb, 1, none⟩) (.inl rfl) _).set (p := ⟨rb, 2, none⟩) (.inl rfl) _).set (p := ⟨rb, 3, none⟩) (.inl rfl) _) (fun k hk => .inr (by rw [hk]; exact hrw))
                        rcases hk with hk | hk
                        · exact .inl hk
                        · exact .inr (by rw [hk]; exact hbw)
                      · rcases HJJ.out.has k hk with h1 | h1
                        · exact .inl h1
                        · exact .inr (Nat.le_trans HO1.out.size h1)
end Go.Proofs.Ytbhbpfpggfcpgaa
