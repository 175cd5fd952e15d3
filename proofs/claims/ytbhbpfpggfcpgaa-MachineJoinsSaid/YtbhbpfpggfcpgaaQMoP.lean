/-
Several runs, a machine and boxes in the heap side by side (CW): what each call leaves.
MachineJoins: a kit of no calls (noneK); joined kits; the smaller kit beside the document's machine. Plain.
Two of the document's machines that read the same code (Thing.rm2): a move of one leaves the other.
A region whose steps come in one order, looked at fast: who waits for whom is told by bit masks, one row after the other (Region.reaches walks every path).
-/
import Derived.Test.YtbhbpfpggfcpgaaQPlE
import Derived.Test.YtbhbpfpggfcpgaaQSpt
import Derived.Test.YtbhbpfpggfcpgaaQPlA
import Derived.Test.YtbhbpfpggfcpgaaQInS
import Derived.Test.YtbhbpfpggfcpgaaQMix
namespace Go
open Go.RowKit
open Go.Proofs.Ytbhbpfpggfcpgaa
def Thing.pm2 {base : Nat} {K : Kits} (hK : KitsOk K) (xb : Nat) (kit : Value) (p : PM K) : Thing base :=
  ⟨fun w F => ∃ b, base ≤ b ∧ PMAt K w b xb p kit F, fun ⟨b, h0, h⟩ hb => ⟨b, h0, h.of_block hK hb⟩, fun ⟨b, h0, h⟩ k hk => by have := h.lt hK k hk; omega⟩
def Thing.row1 (base : Nat) (v : Value) (n : Nat) : Thing base :=
  ⟨fun w F => ∃ b xs, base ≤ b ∧ w.RowV b 27 1 v n xs ∧ F = fun k => v.rowBlock = some k, fun ⟨b, xs, h0, h1, h2⟩ hb => ⟨b, xs, h0, h1.of_block (by subst h2; exact hb), h2⟩, fun ⟨b, xs, h0, h1, h2⟩ k hk => by subst h2; have := h1.lt k hk; omega⟩
def Thing.spt (base : Nat) (x y : RunVs) (r s : RunS) : Thing base :=
  ⟨fun w F => ∃ b, base ≤ b ∧ SpoilAt w b x y r s ∧ F = RunVs.has x y, fun ⟨b, h0, h1, h2⟩ hb => ⟨b, h0, ⟨fun i hi => (h1.two i hi).of_block fun k hk => by subst h2; exact hb k ⟨i, hi, hk⟩⟩, h2⟩, fun ⟨b, h0, h1, h2⟩ k hk => by subst h2; obtain ⟨i, hi, hk⟩ := hk; have := (h1.two i hi).lt k hk; omega⟩
/-- the crew, and what was there before is as it was -/
structure CW (wa : World) (ts : List (Thing wa.heap.size)) (W : World) : Prop where
  crew : Crew ts W
  on : Only (fun _ => False) wa W
section
variable {wa W W' : World} {ts : List (Thing wa.heap.size)} {i : Nat}
theorem CW.keep (h : CW wa ts W) (ho : Only (fun _ => False) W W') : CW wa ts W' := ⟨h.crew.only ho, h.on.trans ho (fun _ x => x.elim)⟩
theorem CW.box {bi : Nat} {o : Obj} (h : CW wa ts W) (hi : ts[i]? = some (Thing.box wa.heap.size bi o)) : W.heap[bi]? = some o := by
  obtain ⟨F, _, h1, _⟩ := h.crew.get hi
  exact h1
theorem CW.runSrc {x : RunVs} {r : RunS} (h : CW wa ts W) (hi : ts[i]? = some (Thing.run wa.heap.size x r)) : RunSrc W x r := by
  obtain ⟨F, b, h0, h1, _⟩ := h.crew.get hi
  exact h1.src
theorem CW.addRun {x : RunVs} {r : RunS} (h : CW wa ts W) (ho : Only (fun _ => False) W W') (hr : RunAt W' W.heap.size x r) : CW wa (ts ++ [Thing.run _ x r]) W' :=
  ⟨h.crew.add ho (F' := x.own) ⟨W.heap.size, h.on.size, hr, rfl⟩ (fun k hk => (hr.lt k hk).1), h.on.trans ho (fun _ x => x.elim)⟩
theorem CW.addBox {bi : Nat} {o : Obj} (h : CW wa ts W) (ho : Only (fun _ => False) W W') (hb : W'.heap[bi]? = some o) (hge : W.heap.size ≤ bi) : CW wa (ts ++ [Thing.box _ bi o]) W' :=
  ⟨h.crew.add ho (F' := fun k => k = bi) ⟨Nat.le_trans h.on.size hge, hb, rfl⟩ (fun k hk => by rw [hk]; exact hge), h.on.trans ho (fun _ x => x.elim)⟩
theorem CW.addRow {v : Value} {n : Nat} {xs : List Value} (h : CW wa ts W) (ho : Only (fun _ => False) W W') (hr : W'.RowV W.heap.size 27 1 v n xs) : CW wa (ts ++ [Thing.row1 _ v n]) W' :=
  ⟨h.crew.add ho (F' := fun k => v.rowBlock = some k) ⟨W.heap.size, xs, h.on.size, hr, rfl⟩ (fun k hk => (hr.lt k hk).1), h.on.trans ho (fun _ x => x.elim)⟩
theorem CW.addPm {K : Kits} (hK : KitsOk K) {xb : Nat} {kit : Value} {p : PM K} {F : Nat → Prop} {b : Nat} (h : CW wa ts W) (ho : Only (fun _ => False) W W') (hb : W.heap.size ≤ b) (hp : PMAt K W' b xb p kit F) : CW wa (ts ++ [Thing.pm2 hK xb kit p]) W' :=
  ⟨h.crew.add ho (F' := F) ⟨b, Nat.le_trans h.on.size hb, hp⟩ (fun k hk => Nat.le_trans hb (hp.lt hK k hk).1), h.on.trans ho (fun _ x => x.elim)⟩
/-- a word of the row is written -/
theorem CW.put {v : Value} {n g j : Nat} (h : CW wa ts W) (hi : ts[i]? = some (Thing.row1 wa.heap.size v n)) (hg : v.rowBlock = some g) (hj : j < n) (u : Value) : CW wa ts (W.setCell ⟨g, j, none⟩ u) := by
  obtain ⟨F, ⟨b, xs, h0, h1, rfl⟩, _, h3⟩ := h.crew.turn hi
  have ho : Only (fun k => v.rowBlock = some k) W (W.setCell ⟨g, j, none⟩ u) := (Only.refl _ W).set (.inl hg) u
  have := h3 (Thing.row1 _ v n) _ (fun k => v.rowBlock = some k) ⟨b, _, h0, h1.put hg j (by omega) u, rfl⟩ ho (fun k hk => .inl hk)
  refine ⟨by rwa [set_self ts i _ hi] at this, h.on.trans ho (fun k hk => .inr (by have := (h1.lt k hk).1; omega))⟩
theorem CW.row {v : Value} {n : Nat} (h : CW wa ts W) (hi : ts[i]? = some (Thing.row1 wa.heap.size v n)) : ∃ b xs, W.RowV b 27 1 v n xs := by
  obtain ⟨F, b, xs, h0, h1, _⟩ := h.crew.get hi
  exact ⟨b, xs, h1⟩
end
end Go
namespace Go.Proofs.Ytbhbpfpggfcpgaa
open Go.ChangeShapes Go.WideShapes Go.ChangeAt Go.RowKit Go.Shelf
section
variable {wa W : World} {ts : List (Thing wa.heap.size)} {i : Nat}
theorem _root_.Go.CW.move {K : Kits} (hK : KitsOk K) {xb : Nat} {kit : Value} {p : PM K} (h : CW wa ts W) (hi : ts[i]? = some (Thing.pm2 hK xb kit p)) (hG : p.Good) (mv : Mv) :
    Calls Try.prog 17 #[.pointer (some ⟨xb, 0, none⟩), mv.v] W fun e w' => e = .returned (.bool (p.move mv).2) ∧ CW wa (ts.set i (Thing.pm2 hK xb kit (p.move mv).1)) w' := by
  obtain ⟨F, ⟨b, h0, h1⟩, h2, h3⟩ := h.crew.turn hi
  refine (pm_move hK hG h1 mv).mono ?_
  rintro e w' ⟨he, F', a1, a2, a3⟩
  exact ⟨he, h3 _ w' F' ⟨b, h0, a1⟩ a2 a3, h.on.trans a2 (fun k hk => .inr (by have := (h1.lt hK k hk).1; omega))⟩
theorem _root_.Go.CW.mrun {K : Kits} (hK : KitsOk K) {xb : Nat} {kit : Value} {p : PM K} (h : CW wa ts W) (hi : ts[i]? = some (Thing.pm2 hK xb kit p)) (hG : p.Good) (hw : p.words.length ≤ 1000000) :
    Calls Try.prog 19 #[.pointer (some ⟨xb, 0, none⟩)] W (RunRes W p.run) := by
  obtain ⟨F, b, h0, h1⟩ := h.crew.get hi
  exact pm_run hG h1 hw
theorem _root_.Go.CW.spoil {x : RunVs} {r : RunS} (h : CW wa ts W) (hi : ts[i]? = some (Thing.run wa.heap.size x r)) (hsm : RunS.small r) (mark : Int) (hm1 : 0 ≤ mark) (hm2 : mark ≤ 10000) :
    Calls Try.prog 30 #[x.v, .int .i64 mark] W fun e w' => ∃ y : RunVs, e = .returned y.v ∧ CW wa (ts.set i (Thing.spt _ x y (spEnd r mark 0 0 0 0) (spEnd r mark 70 70 70 70))) w' := by
  obtain ⟨F, ⟨b, h0, h1, rfl⟩, _, h3⟩ := h.crew.turn hi
  have hb : wa.heap.size ≤ W.heap.size := h.on.size
  refine (spoil_any (h1.base_mono h0) hsm mark hm1 hm2 hb).mono ?_
  rintro e w' ⟨y, he, ha, ho, hk⟩
  exact ⟨y, he, h3 _ w' (RunVs.has x y) ⟨_, Nat.le_refl _, ha, rfl⟩ ho hk, h.on.trans ho (fun k hk => .inr (by have := (h1.lt k hk).1; omega))⟩
/-- both views of a spoilt run -/
theorem _root_.Go.CW.spt {x y : RunVs} {r : RunS} {mark : Int} (h : CW wa ts W) (hi : ts[i]? = some (Thing.spt wa.heap.size x y (spEnd r mark 0 0 0 0) (spEnd r mark 70 70 70 70))) :
    (∀ q, q < 4 → W.Src (runSz q) (x.row q) (r.len q + 0) ((spEnd r mark 0 0 0 0).xs q)) ∧ ∀ q, q < 4 → W.Src (runSz q) (y.row q) (r.len q + 70) ((spEnd r mark 70 70 70 70).xs q) := by
  obtain ⟨F, b, h0, h1, _⟩ := h.crew.get hi
  refine ⟨fun q hq => ?_, fun q hq => ?_⟩
  · have := (h1.two q hq).old.src
    match q, hq with
    | 0, _ => rwa [spLen0] at this
    | 1, _ => rwa [spLen1] at this
    | 2, _ => rwa [spLen2] at this
    | 3, _ => rwa [spLen3] at this
  · have := (h1.two q hq).now.src
    match q, hq with
    | 0, _ => rwa [spLen0] at this
    | 1, _ => rwa [spLen1] at this
    | 2, _ => rwa [spLen2] at this
    | 3, _ => rwa [spLen3] at this
end
end Go.Proofs.Ytbhbpfpggfcpgaa
namespace Go
open Go.RowKit
open Go.Proofs.Ytbhbpfpggfcpgaa

/-! no calls -/
structure NoneAt (w : World) (b : Nat) (kit : Value) (vs : List Value) (ts : List (Option Empty)) (F : Nat → Prop) (kb : Nat) (es : Array MapEntry) (clk : Nat) : Prop where
  kit : kit = .map (some kb)
  map : w.heap[kb]? = some (.map es clk)
  rd : Reads es fun _ => none
  k0 : b ≤ kb
  f : F = fun k => k = kb
  no : ∀ i : Nat, ts[i]? = some none → vs[i]? = some Value.nilIface
def noneK : Kits where
  T := Empty
  S := Unit
  At w b kit vs _ ts F := ∃ kb es clk, NoneAt w b kit vs ts F kb es clk
  make _ _ := none
  ready _ t _ := t.elim
  step _ t _ := t.elim
theorem NoneAt.lt {w : World} {b : Nat} {kit : Value} {vs : List Value} {ts : List (Option Empty)} {F : Nat → Prop} {kb : Nat} {es : Array MapEntry} {clk : Nat} (h : NoneAt w b kit vs ts F kb es clk) : ∀ k, F k → b ≤ k ∧ k < w.heap.size := by
  intro k hk
  rw [h.f] at hk
  obtain rfl : k = kb := hk
  exact ⟨h.k0, (Array.getElem?_eq_some_iff.1 h.map).1⟩

theorem NoneAt.drop {w : World} {b : Nat} {kit : Value} {vs : List Value} {ts : List (Option Empty)} {F : Nat → Prop} {kb : Nat} {es : Array MapEntry} {clk : Nat} (h : NoneAt w b kit vs ts F kb es clk) (i : Nat) : NoneAt w b kit (vs.set i .nilIface) (ts.set i none) F kb es clk := by
  refine ⟨h.kit, h.map, h.rd, h.k0, h.f, fun j hj => ?_⟩
  by_cases e : i = j
  · subst e
    have hl := (List.getElem?_eq_some_iff.1 hj).1
    rw [List.length_set] at hl
    have : ts[i]? = some none := by
      rw [List.getElem?_eq_getElem hl]
      cases ht : ts[i] with
      | none => rfl
      | some t => exact t.elim
    have h1 := (List.getElem?_eq_some_iff.1 (h.no i this)).1
    simp [h1]
  · rw [List.getElem?_set_ne e] at hj ⊢
    exact h.no j hj

theorem none_move (p : PM noneK) (mv : Mv) : (p.move mv).2 = false ∧ (p.move mv).1.words = p.words ∧ (p.move mv).1.calls = p.calls := by
  unfold PM.move
  split
  · exact ⟨rfl, rfl, rfl⟩
  split
  · exact ⟨rfl, rfl, rfl⟩
  split
  · exact ⟨rfl, rfl, rfl⟩
  · split
    · rename_i t _
      exact t.elim
    · split
      · exact ⟨rfl, rfl, rfl⟩
      · exact ⟨rfl, rfl, rfl⟩
theorem none_goes (p : PM noneK) (ms : List Mv) : (p.goes ms).words = p.words ∧ (p.goes ms).calls = p.calls := by
  induction ms generalizing p with
  | nil => exact ⟨rfl, rfl⟩
  | cons m ms ih =>
    have h1 := ih (p.move m).1
    have h2 := none_move p m
    exact ⟨h1.1.trans h2.2.1, h1.2.trans h2.2.2⟩

/-! the smaller kit -/
/-- the move as the document's machine gets it -/
def refused (small : Int) (mv : Mv) : Bool := (decide (mv.op = 1) || decide (mv.op = 2)) && decide (small ≤ mv.arg)
def partMv (small : Int) (mv : Mv) : Mv := if refused small mv = true then ⟨-1, 0, 0, 0⟩ else mv
theorem OS.move_past (size : Int) (o : OS) : (o.move size ⟨-1, 0, 0, 0⟩) = (if 65536 ≤ o.moves then o else o.skip, false) := by
  unfold OS.move
  split
  · rfl
  · rw [if_pos (by decide)]
theorem OS.move_part {small len : Int} (hle : small ≤ len) (o : OS) (mv : Mv) : o.move small mv = o.move len (partMv small mv) := by
  unfold partMv
  split
  · rename_i hr
    rw [OS.move_past]
    unfold refused at hr
    simp only [Bool.and_eq_true, Bool.or_eq_true, decide_eq_true_eq] at hr
    have hmk : ownMake small mv = none := by
      unfold ownMake
      rw [if_neg (by simp only [Bool.and_eq_true, decide_eq_true_eq]; omega)]
    have hop : ¬ mv.op = 0 := by omega
    unfold OS.move
    split
    · rfl
    split
    · rfl
    split
    · rfl
    · split
      · rfl
      · rw [hmk]
  · rename_i hr
    have hmk : ownMake small mv = ownMake len mv := by
      unfold ownMake
      by_cases h1 : mv.op = 1 ∨ mv.op = 2
      · have h2 : mv.arg < small := by
          rcases Int.lt_or_le mv.arg small with h | h
          · exact h
          · exact absurd (by unfold refused; simp only [Bool.and_eq_true, Bool.or_eq_true, decide_eq_true_eq]; exact ⟨h1, h⟩) hr
        by_cases h3 : 0 ≤ mv.arg
        · have c1 : (decide (0 ≤ mv.arg) && decide (mv.arg < small)) = true := by simp only [Bool.and_eq_true, decide_eq_true_eq]; omega
          have c2 : (decide (0 ≤ mv.arg) && decide (mv.arg < len)) = true := by simp only [Bool.and_eq_true, decide_eq_true_eq]; omega
          rw [c1, c2]
        · have c1 : ∀ z : Int, (decide (0 ≤ mv.arg) && decide (mv.arg < z)) = false := fun z => by simp only [Bool.and_eq_false_iff, decide_eq_false_iff_not]; exact .inl h3
          rw [c1, c1]
      · rw [if_neg (fun h => h1 (.inl h)), if_neg (fun h => h1 (.inr h))]
        simp
    unfold OS.move
    rw [hmk]
theorem PM.os_goes_part {small len : Int} {p : PM (ownK small)} (hle : small ≤ len) (hok : p.os.Ok) (hsz : len = (p.words.length : Int)) (ms : List Mv) : (p.goes ms).os = p.os.goes len (ms.map (partMv small)) ∧ (p.goes ms).os.Ok := by
  induction ms generalizing p with
  | nil => exact ⟨rfl, hok⟩
  | cons m ms ih =>
    have h1 := PM.os_move hok m
    have h2 := hok.move (size := len) hsz (partMv small m)
    rw [OS.move_part hle] at h1
    rw [← h1.1] at h2
    have := ih h2 (by rw [PM.words_len (own_words _)]; exact hsz)
    rw [h1.1] at this
    exact this
theorem PM.os_init2 (size : Int) (l : List Int) (n : Nat) : (PM.init (ownK size) l n ()).os = OS.init l n := by
  unfold PM.os PM.init OS.init
  simp only
  refine congr (congr (congr (congr (congrArg OS.mk rfl) rfl) ?_) rfl) rfl
  exact List.map_replicate ..
section
variable {small : Int} (l : List Int) (n : Nat) (hle : small ≤ (l.length : Int)) (ms : List Mv)
include hle
theorem part_os : ((PM.init (ownK small) l n ()).goes ms).os = osOf l n (ms.map (partMv small)) := by
  have h := (PM.os_goes_part (p := PM.init (ownK small) l n ()) hle (by rw [PM.os_init2]; exact OS.Ok.init l n) rfl ms).1
  rw [PM.os_init2] at h
  exact h
theorem part_did (mv : Mv) : (((PM.init (ownK small) l n ()).goes ms).move mv).2 = ((osOf l n (ms.map (partMv small))).move l.length (partMv small mv)).2 := by
  have h := (PM.os_goes_part (p := PM.init (ownK small) l n ()) hle (by rw [PM.os_init2]; exact OS.Ok.init l n) rfl ms).2
  rw [(PM.os_move h mv).2, part_os l n hle, OS.move_part hle]
theorem part_no (mv : Mv) (hr : refused small mv = true) : (((PM.init (ownK small) l n ()).goes ms).move mv).2 = false := by
  rw [part_did l n hle]
  unfold partMv
  rw [if_pos hr, OS.move_past]
theorem part_run : ((PM.init (ownK small) l n ()).goes ms).run = ⟨(osOf l n (ms.map (partMv small))).calls, (osOf l n (ms.map (partMv small))).log, [], (osOf l n (ms.map (partMv small))).words⟩ := by
  have h := part_os l n hle ms
  unfold PM.run
  rw [← h]
  show (⟨_, _, _, _⟩ : RunS) = ⟨_, _, _, _⟩
  rw [PM.shifts_goes]
  rfl
end
theorem part_good (small : Int) (l : List Int) (n : Nat) (ms : List Mv) (h1 : 1 ≤ n) (h16 : n ≤ 16) : ((PM.init (ownK small) l n ()).goes ms).Good := PM.Good.goes (ownK_ok _) (PM.Good.init _ _ _ _ h1 (by omega)) ms
theorem part_len (small : Int) (l : List Int) (n : Nat) (ms : List Mv) : ((PM.init (ownK small) l n ()).goes ms).words.length = l.length := PM.words_lens (own_words _) _ ms

/-- a joined kit -/
theorem KitAt.joined {w1 w' : World} {b : Nat} {size : Int} {kit : Value} {kb sb tb jb : Nat} (h : KitAt w1 b size kit kb sb tb) (ho : Only (fun _ => False) w1 w') {es : Array MapEntry} {clk : Nat} (hm : w'.heap[jb]? = some (.map es clk)) (hr : Reads es (kitG tb)) {b' : Nat} (hb : b' ≤ jb) (hb2 : b' ≤ b) : KitAt w' b' size (.map (some jb)) jb sb tb :=
  ⟨rfl, ⟨es, clk, hm, hr⟩, by rw [ho.block _ (Array.getElem?_eq_some_iff.1 h.sz).1 (fun x => x)]; exact h.sz, by rw [ho.block _ (Array.getElem?_eq_some_iff.1 h.fn).1 (fun x => x)]; exact h.fn, hb, Nat.le_trans hb2 h.s0, Nat.le_trans hb2 h.t0⟩
end Go
namespace Go.Proofs.Ytbhbpfpggfcpgaa
open Go.ChangeShapes Go.WideShapes Go.ChangeAt Go.RowKit Go.Shelf
theorem noneK_ok : KitsOk noneK where
  loc := by
    rintro w w' b kit vs s ts F ⟨kb, es, clk, h⟩ hb
    exact ⟨kb, es, clk, h.kit, by rw [hb kb (by rw [h.f])]; exact h.map, h.rd, h.k0, h.f, h.no⟩
  lt := by
    rintro w b kit vs s ts F ⟨kb, es, clk, h⟩
    exact h.lt
  idle := by
    rintro w b kit vs s ts F ⟨kb, es, clk, h⟩
    exact h.no
  busy := fun _ _ t _ => t.elim
  drop := by
    rintro w b kit vs s ts F ⟨kb, es, clk, h⟩ i
    exact ⟨kb, es, clk, h.drop i⟩
  few := fun _ t _ => t.elim
  keep := fun _ t _ => t.elim
  look := by
    rintro w b kit vs s ts F ⟨kb, es, clk, h⟩ op
    obtain rfl : kit = .map (some kb) := h.kit
    obtain ⟨r, hf, hr⟩ := h.rd.now op
    refine ⟨_, own_lookup h.map op hf, .inl ⟨by rw [hr]; rfl, fun _ _ => rfl⟩⟩
  ready_run := fun {_ _ _ _ _ _ _ _ _ _ _ _ t _} => t.elim
  step_run := fun {_ _ _ _ _ _ _ _ _ _ _ _ t _} => t.elim

/-- what Join() and then New leave -/
theorem newAt_none {w w1 w2 : World} {l : List Int} {n : Nat} {kb xb : Nat} {es : Array MapEntry} {clk : Nat} (hm : w1.heap[kb]? = some (.map es clk)) (hr : Reads es fun _ => none) (hk : w.heap.size ≤ kb) (ho : Only (fun _ => False) w w1) (h : NewAt w1 (.map (some kb)) l n xb w2) :
    ∃ F, PMAt noneK w2 w.heap.size xb (PM.init noneK l n ()) (.map (some kb)) F ∧ Only (fun _ => False) w w2 := by
  obtain ⟨v, hA, hO, hKi⟩ := h
  have hl := (Array.getElem?_eq_some_iff.1 hm).1
  have hs := hO.size
  refine ⟨_, ⟨newS l n, v, List.replicate n .nilIface, fun k => k = kb, ⟨hA.base_mono ho.size, ?_, ?_, ?_, ?_⟩, ?_, hKi, rfl⟩, ho.trans hO (fun _ x => x.elim)⟩
  · rw [hKi]
    refine ⟨kb, es, clk, rfl, (hO.block kb hl (fun x => x)).trans hm, hr, hk, rfl, fun i hi => ?_⟩
    simp only [PM.init, List.map_replicate] at hi
    change (List.replicate n (none : Option Empty))[i]? = _ at hi
    rw [List.getElem?_replicate] at hi
    split at hi
    · rename_i hlt; rw [List.getElem?_replicate, if_pos hlt]
    · cases hi
  · intro k hk' ho'
    obtain rfl : k = kb := hk'
    have := (hA.lt k ho').1
    omega
  · simp [newS]
  · simp [PM.init]
  · exact ⟨rfl, rfl, rfl, rfl, rfl, rfl, rfl, by simp [newS, PM.init]⟩
/-- what Join of two and then New leave -/
theorem joined_pm {W w9 w11 w12 : World} {size : Int} {l : List Int} {n b9 kb sb tb jb xb : Nat} {kit : Value} {es : Array MapEntry} {clk : Nat} (h9 : KitAt w9 b9 size kit kb sb tb) (hb9 : W.heap.size ≤ b9) (h1 : Only (fun _ => False) W w9) (h2 : Only (fun _ => False) w9 w11) (hjb : W.heap.size ≤ jb)
    (hm : w11.heap[jb]? = some (.map es clk)) (hr : Reads es (kitG tb)) (hN : NewAt w11 (.map (some jb)) l n xb w12) : ∃ F, PMAt (ownK size) w12 W.heap.size xb (PM.init (ownK size) l n ()) (.map (some jb)) F ∧ Only (fun _ => False) W w12 :=
  newAt_pm (h9.joined h2 hm hr hjb hb9) (h1.trans h2 (fun _ x => x.elim)) hN
theorem join_pair {w : World} {ab ka kb ta tb : Nat} {ty : TypeId} {z : Nat × Nat} (hA : w.heap[ab]? = some (.cells #[.map (some ka), .map (some kb)] ty z)) (ha : w.heap[ka]? = some (.map (ownEs ta) 2)) (hb : w.heap[kb]? = some (.map (ownEs tb) 2)) :
    Calls Try.prog 32 #[.slice (some ⟨ab, 0, none⟩) 2 2] w fun e w' => ∃ jb, e = .returned (.map (some jb)) ∧ w.heap.size ≤ jb ∧ Only (fun _ => False) w w' ∧ ∃ es clk, w'.heap[jb]? = some (.map es clk) ∧ Reads es (kitG tb) := by
  refine (join_two (w := w) (ab := ab) (kbs := fun j => if j = 0 then ka else kb) (tbs := fun j => if j = 0 then ta else tb) (Array.getElem?_eq_some_iff.1 hA).1 ?_ ?_).mono ?_
  · intro j hj
    match j, hj with
    | 0, _ => simp [World.cell?, hA]
    | 1, _ => simp [World.cell?, hA]
  · intro j hj
    match j, hj with
    | 0, _ => simpa using ha
    | 1, _ => simpa using hb
  · rintro e w' ⟨he, ho, es, clk, h1, h2⟩
    exact ⟨_, he, Nat.le_refl _, ho, es, clk, h1, h2⟩
theorem join_nil (w : World) : Calls Try.prog 32 #[.slice none 0 0] w fun e w' => ∃ jb, e = .returned (.map (some jb)) ∧ w.heap.size ≤ jb ∧ Only (fun _ => False) w w' ∧ ∃ es clk, w'.heap[jb]? = some (.map es clk) ∧ Reads es fun _ => none :=
  (join_none w).mono fun e w' ⟨he, ho, es, clk, h1, h2⟩ => ⟨_, he, Nat.le_refl _, ho, es, clk, h1, h2⟩
theorem none_good (l : List Int) (n : Nat) (ms : List Mv) (h1 : 1 ≤ n) (h16 : n ≤ 16) : ((PM.init noneK l n ()).goes ms).Good := PM.Good.goes noneK_ok (PM.Good.init _ _ _ _ h1 (by omega)) ms
end Go.Proofs.Ytbhbpfpggfcpgaa
namespace Go
open Go.RowKit
open Go.Proofs.Ytbhbpfpggfcpgaa

structure TwoRM (w : World) (b mb1 : Nat) (m1 : RM) (v1 : RMV) (mb2 : Nat) (m2 : RM) (v2 : RMV) : Prop where
  a1 : RMAt w b mb1 m1 v1
  a2 : RMAt w b mb2 m2 v2
  r1 : v1.row 1 = v2.row 1
  r3 : v1.row 3 = v2.row 3
  ap : ∀ k, v1.own mb1 k → v2.own mb2 k → (v1.row 1).rowBlock = some k ∨ (v1.row 3).rowBlock = some k
section
variable {w w' : World} {b mb1 mb2 : Nat} {m1 m2 m' : RM} {v1 v2 : RMV}
theorem TwoRM.symm (h : TwoRM w b mb1 m1 v1 mb2 m2 v2) : TwoRM w b mb2 m2 v2 mb1 m1 v1 :=
  ⟨h.a2, h.a1, h.r1.symm, h.r3.symm, fun k h1 h2 => by rw [← h.r1, ← h.r3]; exact h.ap k h2 h1⟩
theorem TwoRM.of_block (h : TwoRM w b mb1 m1 v1 mb2 m2 v2) (hb : ∀ k, v1.own mb1 k ∨ v2.own mb2 k → w'.heap[k]? = w.heap[k]?) : TwoRM w' b mb1 m1 v1 mb2 m2 v2 :=
  ⟨h.a1.of_block fun k hk => hb k (.inl hk), h.a2.of_block fun k hk => hb k (.inr hk), h.r1, h.r3, h.ap⟩
theorem TwoRM.step {o1 o2 o' : OS} (h : TwoRM w b mb1 m1 v1 mb2 m2 v2) (_k1 : ORel o1 m1) (k2 : ORel o2 m2) (ho : ROut w b mb1 v1 m' w') (k' : ORel o' m') :
    ∃ v', TwoRM w' b mb1 m' v' mb2 m2 v2 ∧ Only (v1.own mb1) w w' ∧ ∀ k, v'.own mb1 k → v1.own mb1 k ∨ w.heap.size ≤ k := by
  obtain ⟨v', g1, g2, g3, g4⟩ := ho
  have hf : ∀ k, v2.own mb2 k → (v2.row 1).rowBlock ≠ some k → (v2.row 3).rowBlock ≠ some k → w'.heap[k]? = w.heap[k]? := fun k hk n1 n3 =>
    g2.block k (h.a2.lt k hk).2 (fun hx => (h.ap k hx hk).elim (fun e => n1 (by rw [← h.r1]; exact e)) (fun e => n3 (by rw [← h.r3]; exact e)))
  have e1 : v'.row 1 = v2.row 1 := (g4 1 (by omega)).trans h.r1
  have e3 : v'.row 3 = v2.row 3 := (g4 3 (by omega)).trans h.r3
  refine ⟨v', ⟨g1, ⟨?_, h.a2.ge, fun i hi => ?_, h.a2.cm, h.a2.cr, h.a2.tok⟩, e1, e3, fun k hk1 hk2 => ?_⟩, g2, g3⟩
  · rw [hf mb2 (.inl rfl) (fun e => h.a2.apart (by omega) e rfl) (fun e => h.a2.apart (by omega) e rfl)]
    exact h.a2.blk
  · by_cases i1 : i = 1
    · subst i1
      have := g1.rows 1 (by omega)
      rw [e1] at this
      change w'.RowV b (rmTy 1) (rmSz 1) (v2.row 1) m'.code.length (m'.code.flatMap Ins.cells) at this
      show w'.RowV b (rmTy 1) (rmSz 1) (v2.row 1) m2.code.length (m2.code.flatMap Ins.cells)
      rw [k2.code, ← k'.code]
      exact this
    · by_cases i3 : i = 3
      · subst i3
        have := g1.rows 3 (by omega)
        rw [e3] at this
        change w'.RowV b (rmTy 3) (rmSz 3) (v2.row 3) m'.ents.length (m'.ents.flatMap Ent.cells) at this
        show w'.RowV b (rmTy 3) (rmSz 3) (v2.row 3) m2.ents.length (m2.ents.flatMap Ent.cells)
        rw [k2.ents, ← k'.ents]
        exact this
      · exact (h.a2.rows i hi).of_block fun k hk => hf k (.inr ⟨i, hi, hk⟩) (fun e => h.a2.apart2 hi (by omega) i1 hk e rfl) (fun e => h.a2.apart2 hi (by omega) i3 hk e rfl)
  · rw [e1, e3, ← h.r1, ← h.r3]
    rcases g3 k hk1 with h1 | h1
    · exact h.ap k h1 hk2
    · have := (h.a2.lt k hk2).2
      omega
end

def Thing.rm2 (base mb1 : Nat) (o1 : OS) (mb2 : Nat) (o2 : OS) : Thing base :=
  ⟨fun w F => ∃ b m1 v1 m2 v2, base ≤ b ∧ TwoRM w b mb1 m1 v1 mb2 m2 v2 ∧ ORel o1 m1 ∧ ORel o2 m2 ∧ F = fun k => v1.own mb1 k ∨ v2.own mb2 k,
    fun ⟨b, m1, v1, m2, v2, h0, h1, h2, h3, h4⟩ hb => ⟨b, m1, v1, m2, v2, h0, h1.of_block (by subst h4; exact hb), h2, h3, h4⟩,
    fun ⟨b, m1, v1, m2, v2, h0, h1, h2, h3, h4⟩ k hk => by
      subst h4
      rcases hk with hk | hk
      · have := h1.a1.lt k hk; omega
      · have := h1.a2.lt k hk; omega⟩
end Go
namespace Go.Proofs.Ytbhbpfpggfcpgaa
open Go.ChangeShapes Go.WideShapes Go.ChangeAt Go.RowKit Go.Shelf
section
variable {wa W W' : World} {ts : List (Thing wa.heap.size)} {i : Nat}
/-- what a thing's call leaves: the crew, and every other box -/
def CWOut (wa : World) (ts : List (Thing wa.heap.size)) (i : Nat) (t' : Thing wa.heap.size) (w w' : World) : Prop :=
  CW wa (ts.set i t') w' ∧ ∀ (j bi : Nat) (o : Obj), i ≠ j → ts[j]? = some (Thing.box wa.heap.size bi o) → Only (fun k => wa.heap.size ≤ k ∧ k ≠ bi) w w'
theorem _root_.Go.CW.moveO {K : Kits} (hK : KitsOk K) {xb : Nat} {kit : Value} {p : PM K} (h : CW wa ts W) (hi : ts[i]? = some (Thing.pm2 hK xb kit p)) (hG : p.Good) (mv : Mv) :
    Calls Try.prog 17 #[.pointer (some ⟨xb, 0, none⟩), mv.v] W fun e w' => e = .returned (.bool (p.move mv).2) ∧ CWOut wa ts i (Thing.pm2 hK xb kit (p.move mv).1) W w' := by
  obtain ⟨F, ⟨b, h0, h1⟩, h2, h3⟩ := h.crew.turn hi
  refine (pm_move hK hG h1 mv).mono ?_
  rintro e w' ⟨he, F', a1, a2, a3⟩
  refine ⟨he, ⟨h3 _ w' F' ⟨b, h0, a1⟩ a2 a3, h.on.trans a2 (fun k hk => .inr (by have := (h1.lt hK k hk).1; omega))⟩, fun j bi o hne hj => a2.mono fun k _ hk => ⟨by have := (h1.lt hK k hk).1; omega, fun e => ?_⟩⟩
  subst e
  obtain ⟨G, g1, g2⟩ := h2 j _ hne hj
  obtain ⟨_, _, rfl⟩ := g1
  exact g2 k hk rfl
theorem _root_.Go.CW.rmove1 {l : List Int} {n mb1 mb2 : Nat} {pre : List Mv} {o2 : OS} (h : CW wa ts W) (hi : ts[i]? = some (Thing.rm2 wa.heap.size mb1 (osOf l n pre) mb2 o2)) (hl : l.length ≤ 8192) (mv : Mv) :
    Calls Try.prog 35 #[.pointer (some ⟨mb1, 0, none⟩), mv.v] W fun e w' => e = .returned (.bool ((osOf l n pre).move l.length mv).2) ∧ CWOut wa ts i (Thing.rm2 _ mb1 (osOf l n (pre ++ [mv])) mb2 o2) W w' := by
  obtain ⟨F, h1, h4, h3⟩ := h.crew.turn hi
  obtain ⟨b, m1, v1, m2, v2, g0, g1, g2, g3, rfl⟩ := h1
  obtain ⟨q, q1, q2, q3⟩ := osOf_inv l n pre
  have hs := (osOf_small l n pre).1
  refine (rMove_any g1.a1 q3 g2 q1 hl (by omega) (by omega) mv).mono ?_
  rintro e w' ⟨m', he, ho, hr⟩
  obtain ⟨v', a1, a2, a3⟩ := g1.step g2 g3 ho hr
  have hon : Only (fun k => v1.own mb1 k ∨ v2.own mb2 k) W w' := a2.mono fun k _ hk => .inl hk
  refine ⟨he, ⟨h3 _ w' (fun k => v'.own mb1 k ∨ v2.own mb2 k) ⟨b, m', v', m2, v2, g0, a1, by rw [osOf_snoc]; exact hr, g3, rfl⟩ hon (fun k hk => ?_), h.on.trans a2 (fun k hk => .inr (by have := (g1.a1.lt k hk).1; omega))⟩, fun j bi o hne hj => a2.mono fun k _ hk => ⟨by have := (g1.a1.lt k hk).1; omega, fun e => ?_⟩⟩
  · rcases hk with hk | hk
    · exact (a3 k hk).elim (fun x => .inl (.inl x)) .inr
    · exact .inl (.inr hk)
  · subst e
    obtain ⟨G, c1, c2⟩ := h4 j _ hne hj
    obtain ⟨_, _, rfl⟩ := c1
    exact c2 k (.inl hk) rfl
theorem _root_.Go.CW.rmove2 {l : List Int} {n mb1 mb2 : Nat} {pre : List Mv} {o1 : OS} (h : CW wa ts W) (hi : ts[i]? = some (Thing.rm2 wa.heap.size mb1 o1 mb2 (osOf l n pre))) (hl : l.length ≤ 8192) (mv : Mv) :
    Calls Try.prog 35 #[.pointer (some ⟨mb2, 0, none⟩), mv.v] W fun e w' => e = .returned (.bool ((osOf l n pre).move l.length mv).2) ∧ CWOut wa ts i (Thing.rm2 _ mb1 o1 mb2 (osOf l n (pre ++ [mv]))) W w' := by
  obtain ⟨F, h1, h4, h3⟩ := h.crew.turn hi
  obtain ⟨b, m1, v1, m2, v2, g0, g1, g2, g3, rfl⟩ := h1
  obtain ⟨q, q1, q2, q3⟩ := osOf_inv l n pre
  have hs := (osOf_small l n pre).1
  refine (rMove_any g1.a2 q3 g3 q1 hl (by omega) (by omega) mv).mono ?_
  rintro e w' ⟨m', he, ho, hr⟩
  obtain ⟨v', a1, a2, a3⟩ := g1.symm.step g3 g2 ho hr
  have hon : Only (fun k => v1.own mb1 k ∨ v2.own mb2 k) W w' := a2.mono fun k _ hk => .inr hk
  refine ⟨he, ⟨h3 _ w' (fun k => v1.own mb1 k ∨ v'.own mb2 k) ⟨b, m1, v1, m', v', g0, a1.symm, g2, by rw [osOf_snoc]; exact hr, rfl⟩ hon (fun k hk => ?_), h.on.trans a2 (fun k hk => .inr (by have := (g1.a2.lt k hk).1; omega))⟩, fun j bi o hne hj => a2.mono fun k _ hk => ⟨by have := (g1.a2.lt k hk).1; omega, fun e => ?_⟩⟩
  · rcases hk with hk | hk
    · exact .inl (.inl hk)
    · exact (a3 k hk).elim (fun x => .inl (.inr x)) .inr
  · subst e
    obtain ⟨G, c1, c2⟩ := h4 j _ hne hj
    obtain ⟨_, _, rfl⟩ := c1
    exact c2 k (.inr hk) rfl
/-- the run of a document's machine's state -/
def osRun (o : OS) : RunS := ⟨o.calls, o.log, [], o.words⟩
theorem osRun_small (l : List Int) (n : Nat) (pre : List Mv) (hl : l.length ≤ 8192) : (osRun (osOf l n pre)).calls.length ≤ 1000000 ∧ (osRun (osOf l n pre)).trace.length ≤ 1000000 ∧ (osRun (osOf l n pre)).shifts.length ≤ 1000000 ∧ (osRun (osOf l n pre)).words.length ≤ 1000000 := by
  obtain ⟨h1, h2⟩ := osOf_small l n pre
  exact ⟨by show (osOf l n pre).calls.length ≤ _; omega, by show (osOf l n pre).log.length ≤ _; omega, by show 0 ≤ _; omega, by show (osOf l n pre).words.length ≤ _; omega⟩
theorem told_os {w : World} {base mb : Nat} {m : RM} {v : RMV} {o : OS} (H : RMAt w base mb m v) (R : ORel o m) (hs : (osRun o).calls.length ≤ 1000000 ∧ (osRun o).trace.length ≤ 1000000 ∧ (osRun o).shifts.length ≤ 1000000 ∧ (osRun o).words.length ≤ 1000000) :
    Calls Try.prog 36 #[.pointer (some ⟨mb, 0, none⟩)] w (RunRes w (osRun o)) := by
  have := told_any H (by rw [R.calls]; exact hs.1) (by rw [R.trace]; exact hs.2.1) (by rw [R.shifts]; exact hs.2.2.1) (by rw [R.words]; exact hs.2.2.2)
  rw [R.calls, R.trace, R.shifts, R.words] at this
  exact this
theorem _root_.Go.CW.told1 {l : List Int} {n mb1 mb2 : Nat} {pre : List Mv} {o2 : OS} (h : CW wa ts W) (hi : ts[i]? = some (Thing.rm2 wa.heap.size mb1 (osOf l n pre) mb2 o2)) (hl : l.length ≤ 8192) :
    Calls Try.prog 36 #[.pointer (some ⟨mb1, 0, none⟩)] W (RunRes W (osRun (osOf l n pre))) := by
  obtain ⟨F, b, m1, v1, m2, v2, g0, g1, g2, g3, _⟩ := h.crew.get hi
  exact told_os g1.a1 g2 (osRun_small l n pre hl)
theorem _root_.Go.CW.told2 {l : List Int} {n mb1 mb2 : Nat} {pre : List Mv} {o1 : OS} (h : CW wa ts W) (hi : ts[i]? = some (Thing.rm2 wa.heap.size mb1 o1 mb2 (osOf l n pre))) (hl : l.length ≤ 8192) :
    Calls Try.prog 36 #[.pointer (some ⟨mb2, 0, none⟩)] W (RunRes W (osRun (osOf l n pre))) := by
  obtain ⟨F, b, m1, v1, m2, v2, g0, g1, g2, g3, _⟩ := h.crew.get hi
  exact told_os g1.a2 g3 (osRun_small l n pre hl)
/-- two new ones from one code -/
theorem _root_.Go.CW.addRm2 {w6 w7 : World} {vc ve : Value} {n mb1 mb2 : Nat} {l : List Int} {w5 : World} (h : CW wa ts W) (ho : Only (fun _ => False) W w5) (h1 : NewI W w5 vc ve n l mb1 ownLabels (List.replicate n RT.new) w6) (h2 : NewI W w6 vc ve n l mb2 ownLabels (List.replicate n RT.new) w7) :
    CW wa (ts ++ [Thing.rm2 _ mb1 (osOf l n []) mb2 (osOf l n [])]) w7 := by
  obtain ⟨v1, h1⟩ := h1
  obtain ⟨v2, h2⟩ := h2
  have o7 : Only (fun _ => False) W w7 := (ho.trans h1.only (fun _ x => x.elim)).trans h2.only (fun _ x => x.elim)
  have k1 := h1.keep h2.only
  refine ⟨h.crew.add o7 (F' := fun k => v1.own mb1 k ∨ v2.own mb2 k) ⟨W.heap.size, _, v1, _, v2, h.on.size, ⟨k1.at', h2.at', h1.r1.trans h2.r1.symm, h1.r3.trans h2.r3.symm, fun k hk1 hk2 => ?_⟩, orel_new l n, orel_new l n, rfl⟩ (fun k hk => ?_), h.on.trans o7 (fun _ x => x.elim)⟩
  · have hlt := (h1.at'.lt k hk1).2
    rcases hk2 with rfl | ⟨i, hi, hk⟩
    · have := h2.mb'; omega
    · by_cases i1 : i = 1
      · subst i1
        rw [h2.r1] at hk
        left
        rw [h1.r1]
        exact hk
      · by_cases i3 : i = 3
        · subst i3
          rw [h2.r3] at hk
          right
          rw [h1.r3]
          exact hk
        · have := h2.rn i hi i1 i3 k hk
          omega
  · rcases hk with hk | hk
    · exact (h1.at'.lt k hk).1
    · exact (h2.at'.lt k hk).1
end
end Go.Proofs.Ytbhbpfpggfcpgaa
namespace Go
variable {P : Program}

def Region.mask1 (md : Region.Mode) (ms : List Nat) (o : Oper) : Nat := o.after.toList.foldl (fun acc e => if Region.binds md e = true then acc ||| (2 ^ e.on ||| ms.getD e.on 0) else acc) 0
def Region.masks (md : Region.Mode) : List Oper → List Nat → List Nat
  | [], ms => ms
  | o :: rest, ms => Region.masks md rest (ms ++ [Region.mask1 md ms o])
theorem Region.fold_bit {md : Region.Mode} {ms : List Nat} {j : Nat} : ∀ (es : List Edge) (a : Nat), (es.foldl (fun acc e => if Region.binds md e = true then acc ||| (2 ^ e.on ||| ms.getD e.on 0) else acc) a).testBit j = true →
    a.testBit j = true ∨ ∃ e ∈ es, Region.binds md e = true ∧ (e.on = j ∨ (ms.getD e.on 0).testBit j = true)
  | [], a, h => .inl h
  | e :: es, a, h => by
    rcases Region.fold_bit es _ h with h1 | ⟨e', h1, h2⟩
    · replace h1 : (if Region.binds md e = true then a ||| (2 ^ e.on ||| ms.getD e.on 0) else a).testBit j = true := h1
      by_cases hb : Region.binds md e = true
      · rw [if_pos hb, Nat.testBit_or, Nat.testBit_or, Nat.testBit_two_pow] at h1
        simp only [Bool.or_eq_true, decide_eq_true_eq] at h1
        rcases h1 with h1 | h1 | h1
        · exact .inl h1
        · exact .inr ⟨e, List.mem_cons_self .., hb, .inl h1⟩
        · exact .inr ⟨e, List.mem_cons_self .., hb, .inr h1⟩
      · rw [if_neg hb] at h1
        exact .inl h1
    · exact .inr ⟨e', List.mem_cons_of_mem _ h1, h2⟩
def MaskOk (md : Region.Mode) (ops : Array Oper) (ms : List Nat) : Prop := ∀ (k m : Nat), ms[k]? = some m → ∀ j, m.testBit j = true → ∀ f, k < f → Region.reaches md ops f k j = true
theorem MaskOk.next {md : Region.Mode} {ops : Array Oper} {ms : List Nat} (h : MaskOk md ops ms) {o : Oper} (ho : ops[ms.length]? = some o) : MaskOk md ops (ms ++ [Region.mask1 md ms o]) := by
  intro k m hk j hj f hf
  rcases Nat.lt_or_ge k ms.length with hl | hl
  · rw [List.getElem?_append_left hl] at hk
    exact h k m hk j hj f hf
  · have hkl := (List.getElem?_eq_some_iff.1 hk).1
    simp only [List.length_append, List.length_singleton] at hkl
    obtain rfl : k = ms.length := by omega
    rw [List.getElem?_append_right (Nat.le_refl _)] at hk
    simp only [Nat.sub_self, List.getElem?_cons_zero, Option.some.injEq] at hk
    subst hk
    obtain ⟨g, rfl⟩ : ∃ g, f = g + 1 := ⟨f - 1, by omega⟩
    unfold Region.reaches
    rw [ho]
    rcases Region.fold_bit o.after.toList 0 hj with h1 | ⟨e, he, hb, h1⟩
    · simp at h1
    · refine Array.any_eq_true'.2 ⟨e, by simpa using he, ?_⟩
      simp only [hb, Bool.true_and, Bool.or_eq_true, beq_iff_eq]
      rcases h1 with h1 | h1
      · exact .inl h1
      · right
        cases hm : ms[e.on]? with
        | none => simp [List.getD, hm] at h1
        | some m =>
          have hlt := (List.getElem?_eq_some_iff.1 hm).1
          exact h e.on m hm j (by simpa [List.getD, hm] using h1) g (by omega)
theorem Region.masks_ok {md : Region.Mode} (all : List Oper) : ∀ (rest : List Oper) (ms : List Nat), MaskOk md all.toArray ms → (∀ i o, rest[i]? = some o → all[ms.length + i]? = some o) → MaskOk md all.toArray (Region.masks md rest ms)
  | [], _, h, _ => h
  | o :: rest, ms, h, hr => by
    refine Region.masks_ok all rest _ (h.next (o := o) ?_) fun i o' hi => ?_
    · have := hr 0 o rfl
      simpa using this
    · rw [List.length_append, List.length_singleton, show ms.length + 1 + i = ms.length + (i + 1) by omega]
      exact hr (i + 1) o' (by simpa using hi)

/-- the look at the region, fast -/
def Region.mixQ (md : Region.Mode) (l : List Oper) (ms : List Nat) (ns : List Nat) : Bool :=
  Region.noSelect l.toArray && (List.range l.toArray.size).all fun i => (List.range i).all (fun j => (ms.getD i 0).testBit j ||
      (match l.toArray[j]?, l.toArray[i]? with | some oj, some oi => oj.apart l.toArray oi && oi.apart l.toArray oj && !(ns.contains i && ns.contains j) | _, _ => false)) &&
    (match l.toArray[i]? with | some oi => oi.after.all fun e => !Region.binds md e || decide (e.on < i) | none => false)
theorem Region.mixB_of_Q {md : Region.Mode} {l : List Oper} {ns : List Nat} (h : Region.mixQ md l (Region.masks md l []) ns = true) : Region.mixB md l.toArray ns = true := by
  have hok : MaskOk md l.toArray (Region.masks md l []) := Region.masks_ok l l [] (fun k m hk => by simp at hk) (fun i o hi => by simpa using hi)
  unfold Region.mixQ at h
  unfold Region.mixB
  simp only [Bool.and_eq_true, List.all_eq_true, List.mem_range] at h ⊢
  refine ⟨h.1, fun i hi => ⟨fun j hj => ?_, (h.2 i hi).2⟩⟩
  have h1 := (h.2 i hi).1 j hj
  rw [Bool.or_eq_true] at h1 ⊢
  rcases h1 with h1 | h1
  · left
    cases hm : (Region.masks md l [])[i]? with
    | none => simp [List.getD, hm] at h1
    | some m => exact hok i m hm j (by simpa [List.getD, hm] using h1) _ hi
  · exact .inr h1

theorem wp_region_steps_q {id : Nat} {Q : Exit → Act → World → Prop} {a : Act} {w : World} {l : List Oper} (C : World → Prop) (gs : List Nat) (hm : P.follows .mixedOrders = true)
    (hB : (Region.mixQ .any l (Region.masks .any l []) (stepsAt 0 (cutSteps gs l).1) && stepsB (cutSteps gs l).1 (cutSteps gs l).2 && decide ((flatSteps (cutSteps gs l).1 (cutSteps gs l).2).length = l.length)) = true)
    (hc : C w.drew) (h : wpSteps P l.toArray C (fun a' w' => Q .normal a' w') (cutSteps gs l).2 (cutSteps gs l).1 a w.drew) : (Code.region id l.toArray true).wp P Q a w := by
  refine wp_region_steps C gs hm ?_ hc h
  simp only [Bool.and_eq_true] at hB ⊢
  exact ⟨⟨Region.mixB_of_Q hB.1.1, hB.1.2⟩, hB.2⟩
end Go
