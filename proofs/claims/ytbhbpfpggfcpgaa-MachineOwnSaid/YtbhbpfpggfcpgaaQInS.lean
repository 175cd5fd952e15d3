/-
Arguments that come in: a script of a machine (threads, words, moves).
The machine with its own calls as plain data (OS); a PM of the own kit behaves as one. Plain.
What always holds of a machine with its own calls (OS.Inv), and how a later one goes on from an earlier one (OS.Later). Plain.
What the laws about runs begin with: the script and its run, as they lie (LawW). inCall.
-/
import Derived.Test.YtbhbpfpggfcpgaaQFit
import Derived.Test.YtbhbpfpggfcpgaaQClose
import Derived.ChangeSlices
import Derived.Deep.Slices
import Derived.Deep.Fields
import Derived.ChangeSame
import Derived.Test.YtbhbpfpggfcpgaaQOwnOk
namespace Go.Proofs.Ytbhbpfpggfcpgaa
open Go.ChangeShapes Go.WideShapes Go.ChangeAt Go.RowKit Go.Deep

section
variable {H : Type} {enc : TypeId × Value → H} {W : World} {base : Nat} {sp : Nat → Bool} {held : Bool}

theorem words_cells {cs : List Value} {fuel : Nat} {x : DataW H × List MemPlace} (hf : DataW.trod enc Try.prog W base sp held fuel 28 cs = some x) :
    ∃ (l : List Int) (ox : Option Addr) (cx : Nat), cs = [.slice ox l.length cx] ∧ W.Src 1 (.slice ox l.length cx) l.length (u64s l) ∧ l.length ≤ cx ∧ cx ≤ maxLen ∧ (ox = none → cx = 0) := by
  have hc : Try.prog.cellsOf 27 = 1 := by kernel_rfl
  rcases open_ints Try.underlying28 Try.underlying27 hc hf with ⟨hcs, _⟩ | ⟨a, len, cap, zs, hcs, _, hl, hm, hz, hx, hcell, hwz⟩
  · exact ⟨[], none, 0, hcs, ⟨by simp [u64s], .inl ⟨rfl, rfl⟩⟩, by simp, by simp, fun _ => rfl⟩
  · have hle : len ≤ zs.length := by rw [hz]; split <;> omega
    have hlen : (zs.take len).length = len := by simp; omega
    refine ⟨zs.take len, some a, cap, by rw [hlen]; exact hcs, ?_, by rw [hlen]; exact hl, hm, fun h => by cases h⟩
    rw [hlen]
    refine ⟨by simp [u64s]; omega, .inr ⟨a, cap, rfl, hl, fun j u hu => ?_⟩⟩
    have hj : j < len := by
      rcases Nat.lt_or_ge j len with h | h
      · exact h
      · rw [List.getElem?_eq_none (by simp [u64s]; omega)] at hu; cases hu
    rw [hcell j (by omega)]
    have : (u64s (zs.take len))[j]? = some (.int .u64 (zs.getD j 0)) := by
      simp [u64s, hj, show j < zs.length by omega]
    rw [this] at hu
    exact hu

theorem int_part {k : IntKind} {t : TypeId} {fuel i : Nat} {cs : List Value} {y : Option (DataW H × List MemPlace)} (ht : Try.prog.underlying t = some (.int k)) (hi : i < cs.length) (hy : y.isSome = true) (h : DataW.trod enc Try.prog W base sp held fuel t ((cs.drop i).take 1) = y) : ∃ z, cs[i]? = some (.int k z) := by
  obtain ⟨x, hx⟩ := Option.isSome_iff_exists.1 hy
  rw [hx] at h
  obtain ⟨n, hn, _, _⟩ := DataW.trod_int ht h
  refine ⟨n, ?_⟩
  have ht1 : (cs.drop i).take 1 = [cs[i]] := by rw [List.drop_eq_getElem_cons hi]; rfl
  rw [ht1] at hn
  rw [List.getElem?_eq_getElem hi, (List.cons.inj hn).1]

set_option maxRecDepth 100000 in
theorem in_move {cs : List Value} {fuel : Nat} {x : DataW H × List MemPlace} (h : DataW.trod enc Try.prog W base sp held fuel 34 cs = some x) (hl : cs.length = 4) :
    ∃ o : Mv, cs = [.int .i64 o.th, .int .i64 o.op, .int .i64 o.arg, .int .i64 o.data] := by
  obtain ⟨ys, n, _, _, _, hyl, hf⟩ := DataW.trod_struct Try.underlying34 h
  have c3 : Try.prog.cellsOf 3 = 1 := by kernel_rfl
  have c23 : Try.prog.cellsOf 32 = 1 := by kernel_rfl
  have hys : ∀ i, i < 4 → (ys[i]?).isSome = true := fun i hi => by
    have : ys.length = 4 := hyl
    rw [List.getElem?_eq_getElem (by omega)]
    rfl
  have f0 : DataW.trod enc Try.prog W base sp held n 3 ((cs.drop 0).take (Try.prog.cellsOf 3)) = ys[0]? := hf 0 _ rfl
  have f1 : DataW.trod enc Try.prog W base sp held n 32 ((cs.drop 1).take (Try.prog.cellsOf 32)) = ys[1]? := hf 1 _ rfl
  have f2 : DataW.trod enc Try.prog W base sp held n 3 ((cs.drop 2).take (Try.prog.cellsOf 3)) = ys[2]? := hf 2 _ rfl
  have f3 : DataW.trod enc Try.prog W base sp held n 3 ((cs.drop 3).take (Try.prog.cellsOf 3)) = ys[3]? := hf 3 _ rfl
  rw [c3] at f0 f2 f3
  rw [c23] at f1
  obtain ⟨z0, g0⟩ := int_part Try.underlying3 (by omega) (hys 0 (by omega)) f0
  obtain ⟨z1, g1⟩ := int_part Try.underlying32 (by omega) (hys 1 (by omega)) f1
  obtain ⟨z2, g2⟩ := int_part Try.underlying3 (by omega) (hys 2 (by omega)) f2
  obtain ⟨z3, g3⟩ := int_part Try.underlying3 (by omega) (hys 3 (by omega)) f3
  refine ⟨⟨z0, z1, z2, z3⟩, ?_⟩
  match cs, hl with
  | [x0, x1, x2, x3], _ =>
    simp at g0 g1 g2 g3
    simp [g0, g1, g2, g3]

theorem add_at (b off i : Nat) : (⟨b, off, none⟩ : Addr).add i = ⟨b, off + i, none⟩ := by unfold Addr.add; split <;> simp_all

set_option maxRecDepth 100000 in
theorem moves_cells {cs : List Value} {fuel : Nat} {x : DataW H × List MemPlace} (hf : DataW.trod enc Try.prog W base sp held fuel 22 cs = some x) :
    ∃ (ms : List Mv) (om : Option Addr) (cm : Nat), cs = [.slice om ms.length cm] ∧ MvsIn W (.slice om ms.length cm) ms ∧ ms.length ≤ cm ∧ cm ≤ maxLen ∧ (om = none → cm = 0) := by
  have hc : Try.prog.cellsOf 34 = 4 := by kernel_rfl
  rcases open_slice Try.underlying22 hf with ⟨hcs, hx⟩ | ⟨a, len, cap, m, n, D, Pl, hcs, hb, hl, hm, hmm, hx, hi⟩
  · exact ⟨[], none, 0, hcs, ⟨none, 0, rfl, by simp, by simp, fun i h => by simp at h⟩, by simp, by simp, fun _ => rfl⟩
  · have hlm : len ≤ m := by rw [hmm]; split <;> omega
    have hop : ∀ i, ∃ o : Mv, i < len → ∀ j u, [Value.int .i64 o.th, .int .i64 o.op, .int .i64 o.arg, .int .i64 o.data][j]? = some u → W.cell? ((a.add (i * 4)).add j) = some u := by
      intro i
      by_cases hil : i < len
      · obtain ⟨cs', h1, h2⟩ := hi i (by omega)
        rw [hc] at h1
        obtain ⟨_, h3, h4⟩ := World.cells?_some h1
        obtain ⟨o, rfl⟩ := in_move h2 h3
        refine ⟨o, fun _ j u hu => ?_⟩
        have hj : j < 4 := by
          rcases Nat.lt_or_ge j 4 with h | h
          · exact h
          · rw [List.getElem?_eq_none (by simp; omega)] at hu; cases hu
        rw [h4 j hj, hu]
      · exact ⟨⟨0, 0, 0, 0⟩, fun h => absurd h hil⟩
    obtain ⟨f, hfc⟩ := Classical.axiomOfChoice hop
    have hlen : ((List.range len).map f).length = len := by simp
    refine ⟨(List.range len).map f, some a, cap, by rw [hlen]; exact hcs, ⟨some a, cap, by rw [hlen], by rw [hlen]; exact hl, hm, fun i hi' => ?_⟩, by rw [hlen]; exact hl, hm, fun h => by cases h⟩
    have hil : i < len := by simpa using hi'
    have e : ((List.range len).map f)[i] = f i := by simp
    rw [e]
    obtain ⟨b, off, spot⟩ := a
    have hs : spot = none := by
      have := World.cell?_spot (hfc 0 (by omega) 0 _ rfl)
      simpa [Addr.add] using this
    subst hs
    have hq := hfc i hil
    simp only [add_at] at hq
    exact ⟨b, off, rfl, World.block_lt_of_cell? W _ (hq 0 _ rfl), hq 0 _ rfl, hq 1 _ rfl, hq 2 _ rfl, hq 3 _ rfl⟩

set_option maxRecDepth 100000 in
theorem in_script {v : Value} {d : DataW H} {p : List MemPlace} {r : Reach} {b0 : Nat} (hv : Value.okWide Try.prog W r b0 45 v) (h : DataW.Trod enc Try.prog W base sp held 45 v d p) :
    ∃ th l ms ox cx om cm, ScrIn W v th l ms ox cx om cm := by
  obtain ⟨cs, rfl, hsz⟩ := okWide_struct Try.underlying45 hv
  obtain ⟨fuel, hf⟩ := h
  obtain ⟨ys, n, _, _, hl, hyl, hfs⟩ := DataW.trod_struct Try.underlying45 hf
  have c0 : Try.prog.cellsOf 3 = 1 := by kernel_rfl
  have c1 : Try.prog.cellsOf 28 = 1 := by kernel_rfl
  have c2 : Try.prog.cellsOf 22 = 1 := by kernel_rfl
  have cS : Try.prog.cellsOf 45 = 3 := by kernel_rfl
  rw [cS] at hl
  have hcs : (Value.agg cs).cells.toList = cs.toList := rfl
  simp only [hcs] at hl hfs
  obtain ⟨x0, x1, x2, hx⟩ : ∃ x0 x1 x2, cs.toList = [x0, x1, x2] := by
    match hh : cs.toList, hl with
    | [a, b, c], _ => exact ⟨a, b, c, rfl⟩
  have hys : ∀ i, i < 3 → ∃ y, ys[i]? = some y := fun i hi => by
    have : ys.length = 3 := hyl
    exact ⟨_, List.getElem?_eq_getElem (by omega)⟩
  obtain ⟨y0, q0⟩ := hys 0 (by omega)
  obtain ⟨y1, q1⟩ := hys 1 (by omega)
  obtain ⟨y2, q2⟩ := hys 2 (by omega)
  have f0 : DataW.trod enc Try.prog W base sp held n 3 ((cs.toList.drop 0).take (Try.prog.cellsOf 3)) = ys[0]? := hfs 0 _ rfl
  have f1 : DataW.trod enc Try.prog W base sp held n 28 ((cs.toList.drop 1).take (Try.prog.cellsOf 28)) = ys[1]? := hfs 1 _ rfl
  have f2 : DataW.trod enc Try.prog W base sp held n 22 ((cs.toList.drop 2).take (Try.prog.cellsOf 22)) = ys[2]? := hfs 2 _ rfl
  rw [c0, hx, q0] at f0
  rw [c1, hx, q1] at f1
  rw [c2, hx, q2] at f2
  obtain ⟨th, e0, _, _⟩ := DataW.trod_int Try.underlying3 f0
  obtain ⟨l, ox, cx, e1, k1, k2, k3, k4⟩ := words_cells f1
  obtain ⟨ms, om, cm, e2, j1, j2, j3, j4⟩ := moves_cells f2
  simp at e0 e1 e2
  subst e0 e1 e2
  refine ⟨th, l, ms, ox, cx, om, cm, ⟨?_, k1, j1, ⟨k2, k3, k4⟩, ⟨j2, j3, j4⟩⟩⟩
  have : cs = #[.int .i64 th, .slice ox l.length cx, .slice om ms.length cm] := by
    apply Array.ext'
    rw [hx]
  rw [this]
end
end Go.Proofs.Ytbhbpfpggfcpgaa
namespace Go
open Go.RowKit
open Go.Proofs.Ytbhbpfpggfcpgaa

structure OSeat where
  task : Option Tk
  last : Int
deriving DecidableEq
structure OS where
  words : List Int
  log : List Acc
  seats : List OSeat
  moves : Nat
  calls : List Cal
def OS.at (o : OS) (a : Int) : Int := o.words.getD a.toNat 0
def OS.skip (o : OS) : OS := { o with moves := o.moves + 1 }
def OS.ends (o : OS) (last : Int) (x : Int) : List Cal := o.calls.modify last.toNat fun c => { c with en := o.moves, pt := o.moves, ak := 2, av := wrap64 x }
def OS.step (o : OS) (i : Nat) (se : OSeat) (t : Tk) : OS := match t with
  | .look a => { o with moves := o.moves + 1, log := o.log ++ [⟨o.moves, i, 1, a, 0, 0, o.at a⟩], seats := o.seats.set i ⟨none, se.last⟩, calls := o.ends se.last (o.at a) }
  | .bump a _ false => { o with moves := o.moves + 1, log := o.log ++ [⟨o.moves, i, 1, a, 0, 0, o.at a⟩], seats := o.seats.set i ⟨some (.bump a (o.at a) true), se.last⟩ }
  | .bump a saw true => if o.at a = saw
    then { o with moves := o.moves + 1, words := o.words.set a.toNat (IntKind.u64.wrap (saw + 1)), log := o.log ++ [⟨o.moves, i, 3, a, saw, IntKind.u64.wrap (saw + 1), o.at a⟩], seats := o.seats.set i ⟨none, se.last⟩, calls := o.ends se.last saw }
    else { o with moves := o.moves + 1, log := o.log ++ [⟨o.moves, i, 3, a, saw, IntKind.u64.wrap (saw + 1), o.at a⟩], seats := o.seats.set i ⟨some (.bump a saw false), se.last⟩ }
def OS.begin (o : OS) (i : Nat) (mv : Mv) (t : Tk) : OS :=
  { o with moves := o.moves + 1, seats := o.seats.set i ⟨some t, o.calls.length⟩, calls := o.calls ++ [⟨mv.th, mv.op, mv.arg, mv.data, o.moves, -1, -1, 0, 0⟩] }
def OS.move (size : Int) (o : OS) (mv : Mv) : OS × Bool :=
  if 65536 ≤ o.moves then (o, false)
  else if mv.th < 0 then (o.skip, false)
  else match o.seats[mv.th.toNat]? with
    | none => (o.skip, false)
    | some se => match se.task with
      | some t => if mv.op = 0 then (o.step mv.th.toNat se t, true) else (o.skip, false)
      | none => if mv.op = 0 then (o.skip, false) else match ownMake size mv with
        | none => (o.skip, false)
        | some t => (o.begin mv.th.toNat mv t, true)
def OS.init (l : List Int) (n : Nat) : OS := ⟨l, [], List.replicate n ⟨none, -1⟩, 0, []⟩
def OS.goes (size : Int) (o : OS) (ms : List Mv) : OS := ms.foldl (fun o m => (o.move size m).1) o
def Tk.addr : Tk → Int
  | .look a => a
  | .bump a _ _ => a
/-- the addresses are there -/
structure OS.Ok (o : OS) : Prop where
  addr : ∀ (i : Nat) (se : OSeat) (t : Tk), o.seats[i]? = some se → se.task = some t → 0 ≤ t.addr ∧ t.addr < (o.words.length : Int)
  last : ∀ (i : Nat) (se : OSeat) (t : Tk), o.seats[i]? = some se → se.task = some t → 0 ≤ se.last ∧ se.last < (o.calls.length : Int)

def PM.os {size : Int} (p : PM (ownK size)) : OS := ⟨p.words, p.log, p.seats.map fun se => ⟨se.task, se.last⟩, p.moves, p.calls⟩

theorem OS.move_cases (size : Int) (o : OS) (mv : Mv) :
    (65536 ≤ o.moves ∧ o.move size mv = (o, false)) ∨ (o.moves < 65536 ∧ o.move size mv = (o.skip, false)) ∨
    (o.moves < 65536 ∧ ∃ (i : Nat) (se : OSeat) (t : Tk), mv.th = (i : Int) ∧ o.seats[i]? = some se ∧ se.task = some t ∧ mv.op = 0 ∧ o.move size mv = (o.step i se t, true)) ∨
    (o.moves < 65536 ∧ ∃ (i : Nat) (se : OSeat) (t : Tk), mv.th = (i : Int) ∧ o.seats[i]? = some se ∧ se.task = none ∧ mv.op ≠ 0 ∧ ownMake size mv = some t ∧ o.move size mv = (o.begin i mv t, true)) := by
  unfold OS.move
  by_cases hf : 65536 ≤ o.moves
  · exact .inl ⟨hf, by rw [if_pos hf]⟩
  refine .inr ?_
  simp only [if_neg hf]
  by_cases h0 : mv.th < 0
  · exact .inl ⟨by omega, by rw [if_pos h0]⟩
  simp only [if_neg h0]
  cases hse : o.seats[mv.th.toNat]? with
  | none => exact .inl ⟨by omega, rfl⟩
  | some se =>
    cases hta : se.task with
    | some t =>
      by_cases hop : mv.op = 0
      · exact .inr (.inl ⟨by omega, mv.th.toNat, se, t, by omega, hse, hta, hop, by simp only [hta, if_pos hop]⟩)
      · exact .inl ⟨by omega, by simp only [hta, if_neg hop]⟩
    | none =>
      by_cases hop : mv.op = 0
      · exact .inl ⟨by omega, by simp only [hta, if_pos hop]⟩
      · cases hmk : ownMake size mv with
        | none => exact .inl ⟨by omega, by simp only [hta, if_neg hop]⟩
        | some t => exact .inr (.inr ⟨by omega, mv.th.toNat, se, t, by omega, hse, hta, hop, rfl, by simp only [hta, if_neg hop]⟩)

theorem modify_id {α : Type} (l : List α) (i : Nat) (f : α → α) (x : α) (h : l[i]? = some x) (hf : f x = x) : l.modify i f = l := by
  apply List.ext_getElem?
  intro j
  rw [List.getElem?_modify]
  by_cases e : i = j
  · subst e; rw [h]; simp [hf]
  · simp [e]
theorem set_self {α : Type} (l : List α) (i : Nat) (x : α) (h : l[i]? = some x) : l.set i x = l := by
  apply List.ext_getElem?
  intro j
  rw [List.getElem?_set]
  by_cases e : i = j
  · subst e; obtain ⟨h1, rfl⟩ := List.getElem?_eq_some_iff.1 h; simp [h1]
  · simp [e]
theorem set_modify {α : Type} (l : List α) (i : Nat) (f : α → α) (x : α) (h : l[i]? = some x) : l.set i (f x) = l.modify i f := by
  apply List.ext_getElem?
  intro j
  rw [List.getElem?_set, List.getElem?_modify]
  by_cases e : i = j
  · subst e; obtain ⟨h1, rfl⟩ := List.getElem?_eq_some_iff.1 h; simp [h1]
  · simp [e]

section
variable (ws : List Int) (lg : List Acc) (ah : List Int) (mv : Int) (sh : List Shf) (th now pt ak av : Int) (a : Nat) (h : a < ws.length)
include h
theorem tk_look : Tk.step (.look a) ⟨⟨ws, lg, ah, mv⟩, sh, false, th, now, pt, ak, av⟩ = (.look a, ⟨⟨ws, lg ++ [⟨mv, th, 1, a, 0, 0, ws.getD a 0⟩], ah ++ [ws.getD a 0], mv⟩, sh, true, th, now, now, 2, wrap64 (ws.getD a 0)⟩, true) := by
  simp [Tk.step, DeskS.load, DeskS.word, DeskS.can, h, DeskS.tell, MemS.load, MemS.note, MemS.at]
theorem tk_first (saw : Int) : Tk.step (.bump a saw false) ⟨⟨ws, lg, ah, mv⟩, sh, false, th, now, pt, ak, av⟩ = (.bump a (ws.getD a 0) true, ⟨⟨ws, lg ++ [⟨mv, th, 1, a, 0, 0, ws.getD a 0⟩], ah ++ [ws.getD a 0], mv⟩, sh, true, th, now, pt, ak, av⟩, false) := by
  simp [Tk.step, DeskS.load, DeskS.word, DeskS.can, h, MemS.load, MemS.note, MemS.at]
theorem tk_yes (saw : Int) (he : ws.getD a 0 = saw) : Tk.step (.bump a saw true) ⟨⟨ws, lg, ah, mv⟩, sh, false, th, now, pt, ak, av⟩ =
    (.bump a saw true, ⟨⟨ws.set a (IntKind.u64.wrap (saw + 1)), lg ++ [⟨mv, th, 3, a, saw, IntKind.u64.wrap (saw + 1), ws.getD a 0⟩], ah ++ [ws.getD a 0], mv⟩, sh, true, th, now, now, 2, wrap64 saw⟩, true) := by
  subst he
  simp [Tk.step, DeskS.swaps, DeskS.swap, DeskS.can, h, DeskS.tell, MemS.swap, MemS.note, MemS.at]
theorem tk_no (saw : Int) (he : ws.getD a 0 ≠ saw) : Tk.step (.bump a saw true) ⟨⟨ws, lg, ah, mv⟩, sh, false, th, now, pt, ak, av⟩ =
    (.bump a saw false, ⟨⟨ws, lg ++ [⟨mv, th, 3, a, saw, IntKind.u64.wrap (saw + 1), ws.getD a 0⟩], ah ++ [ws.getD a 0], mv⟩, sh, true, th, now, pt, ak, av⟩, false) := by
  have he' : ¬ ws[a]?.getD 0 = saw := by simpa [List.getD] using he
  have he2 : ¬ ws[a] = saw := by simpa [h] using he'
  simp [Tk.step, DeskS.swaps, DeskS.swap, DeskS.can, h, MemS.swap, MemS.note, MemS.at, he2]
end

theorem PM.os_step {size : Int} {p : PM (ownK size)} {i : Nat} {se : PSeat (ownK size).T} {t : Tk} (_hs : p.seats[i]? = some se) (_ht : se.task = some t) (ha : 0 ≤ t.addr ∧ t.addr < (p.words.length : Int)) (hl : 0 ≤ se.last ∧ se.last < (p.calls.length : Int)) :
    (p.step i se t).os = p.os.step i ⟨se.task, se.last⟩ t := by
  obtain ⟨ca, hca⟩ : ∃ ca, p.calls[se.last.toNat]? = some ca := ⟨_, List.getElem?_eq_getElem (by omega)⟩
  have hcg : p.calls.getD se.last.toNat default = ca := getD_of hca
  have hr : p.res i se ca t = ((), (t.step ⟨⟨p.words, p.log, p.ahead, p.moves⟩, p.shifts, false, i, p.moves, ca.pt, se.ak, se.av⟩).1, (t.step ⟨⟨p.words, p.log, p.ahead, p.moves⟩, p.shifts, false, i, p.moves, ca.pt, se.ak, se.av⟩).2.1, (t.step ⟨⟨p.words, p.log, p.ahead, p.moves⟩, p.shifts, false, i, p.moves, ca.pt, se.ak, se.av⟩).2.2) := by
    unfold PM.res
    cases se.ready <;> rfl
  have hmap : ∀ x : PSeat (ownK size).T, List.map (fun se => (⟨se.task, se.last⟩ : OSeat)) (p.seats.set i x) = (p.seats.map fun se => (⟨se.task, se.last⟩ : OSeat)).set i ⟨x.task, x.last⟩ := fun x => List.map_set ..
  obtain ⟨an, han⟩ : ∃ n : Nat, t.addr = n := ⟨t.addr.toNat, by omega⟩
  have hlt : an < p.words.length := by omega
  unfold PM.step PM.os
  simp only [hcg, hr, hmap]
  cases t with
  | look a =>
    have ha' : a = an := han
    subst ha'
    rw [tk_look _ _ _ _ _ _ _ _ _ _ _ hlt]
    refine congr (congr (congr (congr (congrArg OS.mk rfl) rfl) rfl) rfl) ?_
    exact set_modify p.calls se.last.toNat (fun c => { c with en := p.moves, pt := p.moves, ak := 2, av := wrap64 (p.words.getD an 0) }) ca hca
  | bump a saw ld =>
    have ha' : a = an := han
    subst ha'
    cases ld with
    | false =>
      rw [tk_first _ _ _ _ _ _ _ _ _ _ _ hlt]
      refine congr (congr (congr (congr (congrArg OS.mk rfl) rfl) rfl) rfl) ?_
      exact set_self _ _ _ hca
    | true =>
      have hat : OS.at ⟨p.words, p.log, p.seats.map fun se => ⟨se.task, se.last⟩, p.moves, p.calls⟩ (an : Int) = p.words.getD an 0 := rfl
      by_cases he : p.words.getD an 0 = saw
      · rw [tk_yes _ _ _ _ _ _ _ _ _ _ _ hlt _ he]
        simp only [OS.step, hat, if_pos he]
        refine congr (congr (congr (congr (congrArg OS.mk rfl) rfl) rfl) rfl) ?_
        exact set_modify p.calls se.last.toNat (fun c => { c with en := p.moves, pt := p.moves, ak := 2, av := wrap64 saw }) ca hca
      · rw [tk_no _ _ _ _ _ _ _ _ _ _ _ hlt _ he]
        simp only [OS.step, hat, if_neg he]
        refine congr (congr (congr (congr (congrArg OS.mk rfl) rfl) rfl) rfl) ?_
        exact set_self _ _ _ hca

theorem PM.os_move {size : Int} {p : PM (ownK size)} (hok : p.os.Ok) (mv : Mv) : (p.move mv).1.os = (p.os.move size mv).1 ∧ (p.move mv).2 = (p.os.move size mv).2 := by
  unfold PM.move OS.move
  have e0 : p.os.moves = p.moves := rfl
  rw [e0]
  split
  · exact ⟨rfl, rfl⟩
  split
  · exact ⟨rfl, rfl⟩
  have e1 : p.os.seats[mv.th.toNat]? = (p.seats[mv.th.toNat]?).map fun se => (⟨se.task, se.last⟩ : OSeat) := List.getElem?_map ..
  rw [e1]
  cases hse : p.seats[mv.th.toNat]? with
  | none => exact ⟨rfl, rfl⟩
  | some se =>
    simp only [Option.map_some]
    cases hta : se.task with
    | some t =>
      simp only
      split
      · have hs : p.os.seats[mv.th.toNat]? = some ⟨se.task, se.last⟩ := by rw [e1, hse]; rfl
        have h1 := PM.os_step (p := p) hse hta (hok.addr _ _ _ hs hta) (hok.last _ _ _ hs hta)
        rw [hta] at h1
        exact ⟨h1, rfl⟩
      · exact ⟨rfl, rfl⟩
    | none =>
      simp only
      split
      · exact ⟨rfl, rfl⟩
      · have e2 : (ownK size).make p.s mv = ownMake size mv := rfl
        rw [e2]
        cases ownMake size mv with
        | none => exact ⟨rfl, rfl⟩
        | some t =>
          refine ⟨?_, rfl⟩
          show OS.mk _ _ _ _ _ = OS.mk _ _ _ _ _
          refine congr (congr (congr (congr (congrArg OS.mk rfl) rfl) ?_) rfl) rfl
          show (p.seats.set _ _).map _ = _
          exact List.map_set ..

theorem ownMake_some {size : Int} {mv : Mv} {t : Tk} (h : ownMake size mv = some t) : 0 ≤ mv.arg ∧ mv.arg < size ∧ ((mv.op = 1 ∧ t = .look mv.arg) ∨ (mv.op = 2 ∧ t = .bump mv.arg 0 false)) := by
  unfold ownMake at h
  split at h
  · rename_i h1
    simp only [Bool.and_eq_true, decide_eq_true_eq] at h1
    refine ⟨h1.1, h1.2, ?_⟩
    split at h
    · rename_i h2; cases h; exact .inl ⟨h2, rfl⟩
    · split at h
      · rename_i h2; cases h; exact .inr ⟨h2, rfl⟩
      · cases h
  · cases h

theorem OS.words_len (o : OS) (size : Int) (mv : Mv) : (o.move size mv).1.words.length = o.words.length := by
  rcases o.move_cases size mv with ⟨_, e⟩ | ⟨_, e⟩ | ⟨_, i, se, t, _, _, _, _, e⟩ | ⟨_, i, se, t, _, _, _, _, _, e⟩
  · rw [e]
  · rw [e]; rfl
  · rw [e]
    unfold OS.step
    split
    · rfl
    · rfl
    · split
      · exact List.length_set ..
      · rfl
  · rw [e]; rfl

theorem OS.Ok.move {o : OS} (h : o.Ok) {size : Int} (hsz : size = (o.words.length : Int)) (mv : Mv) : (o.move size mv).1.Ok := by
  have hw := o.words_len size mv
  rcases o.move_cases size mv with ⟨_, e⟩ | ⟨_, e⟩ | ⟨_, i, se, t, hi, hs, hta, hop, e⟩ | ⟨_, i, se, t, hi, hs, hta, hop, hm, e⟩
  · rw [e]; exact h
  · rw [e]; exact ⟨h.addr, h.last⟩
  · rw [e] at hw ⊢
    have ha := h.addr i se t hs hta
    have hl := h.last i se t hs hta
    have key : ∃ x, (o.step i se t).seats = o.seats.set i x ∧ x.last = se.last ∧ (∀ t', x.task = some t' → t'.addr = t.addr) ∧ (o.step i se t).calls.length = o.calls.length := by
      unfold OS.step
      split
      · exact ⟨_, rfl, rfl, fun t' h' => (by cases h'), by simp [OS.ends]⟩
      · exact ⟨_, rfl, rfl, fun t' h' => (by cases h'; rfl), rfl⟩
      · split
        · exact ⟨_, rfl, rfl, fun t' h' => (by cases h'), by simp [OS.ends]⟩
        · exact ⟨_, rfl, rfl, fun t' h' => (by cases h'; rfl), rfl⟩
    obtain ⟨x, k1, k2, k3, k4⟩ := key
    refine ⟨fun j sj tj hj htj => ?_, fun j sj tj hj htj => ?_⟩
    · rw [k1] at hj
      rw [hw]
      rcases set_cases hj with ⟨_, rfl⟩ | h2
      · rw [k3 tj htj]; exact ha
      · exact h.addr j sj tj h2 htj
    · rw [k1] at hj
      rw [k4]
      rcases set_cases hj with ⟨_, rfl⟩ | h2
      · rw [k2]; exact hl
      · exact h.last j sj tj h2 htj
  · rw [e] at hw ⊢
    obtain ⟨m1, m2, m3⟩ := ownMake_some hm
    refine ⟨fun j sj tj hj htj => ?_, fun j sj tj hj htj => ?_⟩
    · rcases set_cases hj with ⟨_, rfl⟩ | h2
      · cases htj
        rw [hw, ← hsz]
        rcases m3 with ⟨_, rfl⟩ | ⟨_, rfl⟩ <;> exact ⟨m1, m2⟩
      · rw [hw]; exact h.addr j sj tj h2 htj
    · show _ ∧ _ < ((o.calls ++ [_]).length : Int)
      rw [List.length_append, List.length_singleton]
      rcases set_cases hj with ⟨_, rfl⟩ | h2
      · exact ⟨by show (0 : Int) ≤ o.calls.length; omega, by show (o.calls.length : Int) < _; omega⟩
      · have := h.last j sj tj h2 htj; omega

theorem OS.goes_snoc (size : Int) (o : OS) (ms : List Mv) (m : Mv) : o.goes size (ms ++ [m]) = ((o.goes size ms).move size m).1 := by simp [OS.goes, List.foldl_append]
theorem OS.goes_append (size : Int) (o : OS) (a b : List Mv) : o.goes size (a ++ b) = (o.goes size a).goes size b := by simp [OS.goes, List.foldl_append]
theorem OS.goes_len (size : Int) (o : OS) (ms : List Mv) : (o.goes size ms).words.length = o.words.length := by
  induction ms generalizing o with
  | nil => rfl
  | cons m ms ih => exact (ih _).trans (o.words_len size m)
theorem OS.Ok.goes {o : OS} (h : o.Ok) {size : Int} (hsz : size = (o.words.length : Int)) (ms : List Mv) : (o.goes size ms).Ok := by
  induction ms generalizing o with
  | nil => exact h
  | cons m ms ih => exact ih (h.move hsz m) (by rw [OS.words_len]; exact hsz)
theorem OS.Ok.init (l : List Int) (n : Nat) : (OS.init l n).Ok := by
  refine ⟨fun i se t h ht => ?_, fun i se t h ht => ?_⟩ <;>
  · simp only [OS.init, List.getElem?_replicate] at h
    split at h
    · cases h; cases ht
    · cases h
theorem PM.os_goes {size : Int} {p : PM (ownK size)} (hok : p.os.Ok) (hsz : size = (p.words.length : Int)) (ms : List Mv) : (p.goes ms).os = p.os.goes size ms := by
  induction ms generalizing p with
  | nil => rfl
  | cons m ms ih =>
    have h1 := PM.os_move hok m
    have h2 := hok.move (size := size) hsz m
    show (PM.goes (p.move m).1 ms).os = OS.goes size (p.os.move size m).1 ms
    rw [← h1.1] at h2 ⊢
    exact ih h2 (by rw [PM.words_len (own_words _)]; exact hsz)
theorem PM.os_init (l : List Int) (n : Nat) : (PM.init (ownK l.length) l n ()).os = OS.init l n := by
  unfold PM.os PM.init OS.init
  simp only
  refine congr (congr (congr (congr (congrArg OS.mk rfl) rfl) ?_) rfl) rfl
  exact List.map_replicate ..

theorem PM.shifts_move {size : Int} (p : PM (ownK size)) (mv : Mv) : (p.move mv).1.shifts = p.shifts := by
  rcases p.move_cases mv with ⟨_, e⟩ | ⟨ht, e⟩ | ⟨ht, i, se, t, hi, hs, hta, hop, e⟩ | ⟨ht, i, se, t, hi, hs, hta, hop, hm, e⟩
  · rw [e]
  · rw [e]; rfl
  · rw [e]
    show (p.res i se (p.calls.getD se.last.toNat default) t).2.2.1.shifts = p.shifts
    have h1 : (p.res i se (p.calls.getD se.last.toNat default) t).2.2.1 = (Tk.step t (p.desk i se (p.calls.getD se.last.toNat default))).2.1 := by
      unfold PM.res
      cases se.ready <;> rfl
    rw [h1]
    exact (tstep_few t _).2.2.1
  · rw [e]; rfl
theorem PM.shifts_goes {size : Int} (p : PM (ownK size)) (ms : List Mv) : (p.goes ms).shifts = p.shifts := by
  induction ms generalizing p with
  | nil => rfl
  | cons m ms ih => exact (ih (p.move m).1).trans (p.shifts_move m)

def osOf (l : List Int) (n : Nat) (ms : List Mv) : OS := (OS.init l n).goes l.length ms
theorem own_os (l : List Int) (n : Nat) (ms : List Mv) : ownRun l n ms = ⟨(osOf l n ms).calls, (osOf l n ms).log, [], (osOf l n ms).words⟩ := by
  have h := PM.os_goes (p := PM.init (ownK l.length) l n ()) (by rw [PM.os_init]; exact OS.Ok.init l n) rfl ms
  rw [PM.os_init] at h
  unfold ownRun PM.run osOf
  rw [← h]
  show (⟨_, _, _, _⟩ : RunS) = ⟨_, _, _, _⟩
  rw [PM.shifts_goes]
  rfl
/-- did a move do something -/
theorem own_did (l : List Int) (n : Nat) (ms : List Mv) (mv : Mv) : (((PM.init (ownK l.length) l n ()).goes ms).move mv).2 = ((osOf l n ms).move l.length mv).2 := by
  have h := PM.os_goes (p := PM.init (ownK l.length) l n ()) (by rw [PM.os_init]; exact OS.Ok.init l n) rfl ms
  rw [PM.os_init] at h
  have hok : ((PM.init (ownK l.length) l n ()).goes ms).os.Ok := by rw [h]; exact (OS.Ok.init l n).goes rfl ms
  rw [(PM.os_move hok mv).2, h]
  rfl
end Go
namespace Go
open Go.RowKit
open Go.Proofs.Ytbhbpfpggfcpgaa

def wrA (ws : List Int) (a : Acc) : List Int := if a.kd = 3 ∧ a.old = a.saw then ws.set a.ad.toNat a.nw else ws
theorem wrA_len (ws : List Int) (a : Acc) : (wrA ws a).length = ws.length := by unfold wrA; split <;> simp
theorem foldl_wrA_len (log : List Acc) : ∀ ws : List Int, (log.foldl wrA ws).length = ws.length := by
  induction log with
  | nil => intro ws; rfl
  | cons a log ih => intro ws; exact (ih _).trans (wrA_len ws a)
def Tk.opn : Tk → Int
  | .look _ => 1
  | .bump _ _ _ => 2
/-- a call that runs: its seat is busy with it; or that has ended -/
def callOk (l : List Int) (n : Nat) (pre : List Mv) (o : OS) (ci : Nat) (c : Cal) : Prop :=
  ∃ i : Nat, c.th = (i : Int) ∧ i < n ∧ (c.op = 1 ∨ c.op = 2) ∧ 0 ≤ c.arg ∧ c.arg < (l.length : Int) ∧ 0 ≤ c.beg ∧ c.beg < (o.moves : Int) ∧ pre[c.beg.toNat]? = some ⟨c.th, c.op, c.arg, c.data⟩ ∧
    ((c.en = -1 ∧ c.pt = -1 ∧ c.ak = 0 ∧ c.av = 0 ∧ ∃ se t, o.seats[i]? = some se ∧ se.task = some t ∧ se.last = (ci : Int)) ∨ (c.beg < c.en ∧ c.en < (o.moves : Int) ∧ c.pt = c.en ∧ c.ak = 2))
def inCall (calls : List Cal) (th mv : Int) : Prop := ∃ (ci : Nat) (c : Cal), calls[ci]? = some c ∧ c.th = th ∧ c.beg < mv ∧ (c.en < 0 ∨ mv ≤ c.en)
structure AccOk (l : List Int) (n : Nat) (pre : List Mv) (o : OS) (k : Nat) (a : Acc) : Prop where
  mv : 0 ≤ a.mv ∧ a.mv < (o.moves : Int)
  th : 0 ≤ a.th ∧ a.th < (n : Int)
  pre : ∃ m, pre[a.mv.toNat]? = some m ∧ m.th = a.th ∧ m.op = 0
  ad : 0 ≤ a.ad ∧ a.ad < (l.length : Int)
  kd : (a.kd = 1 ∧ a.old = 0 ∧ a.nw = 0) ∨ a.kd = 3
  saw : a.saw = ((o.log.take k).foldl wrA l).getD a.ad.toNat 0
  call : inCall o.calls a.th a.mv
structure OS.Inv (l : List Int) (n : Nat) (pre : List Mv) (o : OS) : Prop where
  moves : o.moves = pre.length
  wlen : o.words.length = l.length
  slen : o.seats.length = n
  words : o.words = o.log.foldl wrA l
  seat : ∀ (i : Nat) (se : OSeat) (t : Tk), o.seats[i]? = some se → se.task = some t → ∃ (ci : Nat) (c : Cal), se.last = (ci : Int) ∧ o.calls[ci]? = some c ∧ c.th = (i : Int) ∧ c.en = -1 ∧ c.arg = t.addr ∧ c.op = t.opn ∧ 0 ≤ t.addr ∧ t.addr < (l.length : Int)
  call : ∀ (ci : Nat) (c : Cal), o.calls[ci]? = some c → callOk l n pre o ci c
  begs : ∀ (ci cj : Nat) (c c' : Cal), ci < cj → o.calls[ci]? = some c → o.calls[cj]? = some c' → c.beg < c'.beg
  log : ∀ (k : Nat) (a : Acc), o.log[k]? = some a → AccOk l n pre o k a
  mono : ∀ (k k' : Nat) (a a' : Acc), k < k' → o.log[k]? = some a → o.log[k']? = some a' → a.mv < a'.mv

theorem OS.Inv.init (l : List Int) (n : Nat) : OS.Inv l n [] (OS.init l n) := by
  refine ⟨rfl, rfl, by simp [OS.init], rfl, fun i se t h ht => ?_, fun ci c h => (by simp [OS.init] at h), fun ci cj c c' _ h => (by simp [OS.init] at h), fun k a h => (by simp [OS.init] at h), fun k k' a a' _ h => (by simp [OS.init] at h)⟩
  simp only [OS.init, List.getElem?_replicate] at h
  split at h
  · cases h; cases ht
  · cases h

section
variable {l : List Int} {n : Nat} {pre : List Mv} {o : OS}
theorem pre_app {i : Int} {m x : Mv} (h : pre[i.toNat]? = some m) : (pre ++ [x])[i.toNat]? = some m := by
  have := (List.getElem?_eq_some_iff.1 h).1
  rw [List.getElem?_append_left this]; exact h
theorem pre_last {x : Mv} : (pre ++ [x])[(pre.length : Int).toNat]? = some x := by
  rw [Int.toNat_natCast, List.getElem?_append_right (Nat.le_refl _)]; simp
theorem take_app {k : Nat} {x : Acc} (h : k ≤ o.log.length) : (o.log ++ [x]).take k = o.log.take k := List.take_append_of_le_length h

theorem OS.Inv.skip (h : OS.Inv l n pre o) (mv : Mv) : OS.Inv l n (pre ++ [mv]) o.skip := by
  refine ⟨?_, h.wlen, h.slen, h.words, h.seat, fun ci c hc => ?_, h.begs, fun k a ha => ?_, h.mono⟩
  · show o.moves + 1 = _
    rw [h.moves]; simp
  · obtain ⟨i, e1, e2, e3, e4, e5, e6, e7, e8, e9⟩ := h.call ci c hc
    refine ⟨i, e1, e2, e3, e4, e5, e6, by show _ < ((o.moves + 1 : Nat) : Int); omega, pre_app e8, ?_⟩
    rcases e9 with e9 | ⟨f1, f2, f3, f4⟩
    · exact .inl e9
    · exact .inr ⟨f1, by show _ < ((o.moves + 1 : Nat) : Int); omega, f3, f4⟩
  · obtain ⟨g1, g2, ⟨m, g3, g4⟩, g5, g6, g7, g8⟩ := h.log k a ha
    exact ⟨⟨g1.1, by show _ < ((o.moves + 1 : Nat) : Int); omega⟩, g2, ⟨m, pre_app g3, g4⟩, g5, g6, g7, g8⟩

theorem OS.Inv.begin (h : OS.Inv l n pre o) {mv : Mv} {i : Nat} {se : OSeat} {t : Tk} (hi : mv.th = (i : Int)) (hs : o.seats[i]? = some se) (hta : se.task = none) (hm : ownMake l.length mv = some t) : OS.Inv l n (pre ++ [mv]) (o.begin i mv t) := by
  obtain ⟨m1, m2, m3⟩ := ownMake_some hm
  have hil := (List.getElem?_eq_some_iff.1 hs).1
  have hmv := h.moves
  have hta' : t.addr = mv.arg ∧ t.opn = mv.op ∧ (mv.op = 1 ∨ mv.op = 2) := by
    rcases m3 with ⟨e, rfl⟩ | ⟨e, rfl⟩
    · exact ⟨rfl, e.symm, .inl e⟩
    · exact ⟨rfl, e.symm, .inr e⟩
  have hmo : (o.begin i mv t).moves = o.moves + 1 := rfl
  refine ⟨by rw [hmo, hmv]; simp, h.wlen, by show (o.seats.set _ _).length = n; rw [List.length_set]; exact h.slen, h.words, ?_, ?_, ?_, ?_, h.mono⟩
  · intro j sj tj hj htj
    rcases set_cases hj with ⟨rfl, rfl⟩ | h2
    · cases htj
      refine ⟨o.calls.length, ⟨mv.th, mv.op, mv.arg, mv.data, o.moves, -1, -1, 0, 0⟩, rfl, ?_, hi, rfl, hta'.1.symm, hta'.2.1.symm, by rw [hta'.1]; exact m1, by rw [hta'.1]; exact m2⟩
      show (o.calls ++ [_])[o.calls.length]? = _
      simp
    · obtain ⟨ci, c, q1, q2, q3⟩ := h.seat j sj tj h2 htj
      exact ⟨ci, c, q1, by show (o.calls ++ [_])[ci]? = _; rw [List.getElem?_append_left (List.getElem?_eq_some_iff.1 q2).1]; exact q2, q3⟩
  · intro ci c hc
    have hc' : (o.calls ++ [⟨mv.th, mv.op, mv.arg, mv.data, (o.moves : Int), -1, -1, 0, 0⟩])[ci]? = some c := hc
    by_cases hlt : ci < o.calls.length
    · rw [List.getElem?_append_left hlt] at hc'
      obtain ⟨i', e1, e2, e3, e4, e5, e6, e7, e8, e9⟩ := h.call ci c hc'
      refine ⟨i', e1, e2, e3, e4, e5, e6, by rw [hmo]; omega, pre_app e8, ?_⟩
      rcases e9 with ⟨f1, f2, f3, f4, se', t', f5, f6, f7⟩ | ⟨f1, f2, f3, f4⟩
      · refine .inl ⟨f1, f2, f3, f4, se', t', ?_, f6, f7⟩
        show (o.seats.set i _)[i']? = _
        rw [List.getElem?_set]
        split
        · rename_i e
          subst e
          rw [hs] at f5
          cases f5
          rw [hta] at f6
          cases f6
        · exact f5
      · exact .inr ⟨f1, by rw [hmo]; omega, f3, f4⟩
    · have hcl : ci = o.calls.length := by
        have := (List.getElem?_eq_some_iff.1 hc').1
        simp at this; omega
      subst hcl
      simp at hc'
      subst hc'
      refine ⟨i, hi, by rw [← h.slen]; exact hil, hta'.2.2, m1, m2, Int.natCast_nonneg _, by rw [hmo]; show (o.moves : Int) < _; omega, ?_, .inl ⟨rfl, rfl, rfl, rfl, ⟨some t, (o.calls.length : Int)⟩, t, ?_, rfl, rfl⟩⟩
      · show (pre ++ [mv])[(o.moves : Int).toNat]? = _
        rw [hmv, pre_last]
      · show (o.seats.set i _)[i]? = _
        rw [List.getElem?_set]; simp [hil]
  · intro ci cj c c' hlt hc hc'
    have k1 : (o.calls ++ [⟨mv.th, mv.op, mv.arg, mv.data, (o.moves : Int), -1, -1, 0, 0⟩])[ci]? = some c := hc
    have k2 : (o.calls ++ [⟨mv.th, mv.op, mv.arg, mv.data, (o.moves : Int), -1, -1, 0, 0⟩])[cj]? = some c' := hc'
    have hj := (List.getElem?_eq_some_iff.1 k2).1
    rw [List.length_append, List.length_singleton] at hj
    rw [List.getElem?_append_left (by omega)] at k1
    by_cases hcj : cj < o.calls.length
    · rw [List.getElem?_append_left hcj] at k2
      exact h.begs ci cj c c' hlt k1 k2
    · have : cj = o.calls.length := by omega
      subst this
      simp at k2
      subst k2
      obtain ⟨_, _, _, _, _, _, _, e7, _⟩ := h.call ci c k1
      exact e7
  · intro k a ha
    obtain ⟨g1, g2, ⟨m, g3, g4⟩, g5, g6, g7, ⟨ci, c, g8, g9⟩⟩ := h.log k a ha
    refine ⟨⟨g1.1, by rw [hmo]; omega⟩, g2, ⟨m, pre_app g3, g4⟩, g5, g6, g7, ⟨ci, c, ?_, g9⟩⟩
    show (o.calls ++ [_])[ci]? = _
    rw [List.getElem?_append_left (List.getElem?_eq_some_iff.1 g8).1]; exact g8

/-- what a step makes: an entry, and an end or not -/
structure Stp (o : OS) (i ci : Nat) (se : OSeat) (t : Tk) (c : Cal) (e : Acc) (x : OSeat) (over : Bool) (o' : OS) : Prop where
  moves : o'.moves = o.moves + 1
  words : o'.words = wrA o.words e
  log : o'.log = o.log ++ [e]
  seats : o'.seats = o.seats.set i x
  calls : o'.calls = if over = true then o.calls.modify ci (fun c => { c with en := o.moves, pt := o.moves, ak := 2, av := wrap64 (o.at t.addr) }) else o.calls
  emv : e.mv = o.moves ∧ e.th = (i : Int) ∧ e.ad = t.addr ∧ e.saw = o.at t.addr ∧ ((e.kd = 1 ∧ e.old = 0 ∧ e.nw = 0) ∨ e.kd = 3)
  ends : over = true → x.task = none ∧ o'.words = if c.op = 2 then o.words.set t.addr.toNat (IntKind.u64.wrap (o.at t.addr + 1)) else o.words
  goes : over = false → (∃ t', x.task = some t' ∧ t'.addr = t.addr ∧ t'.opn = t.opn) ∧ o'.words = o.words
  last : x.last = se.last

theorem OS.step_stp (o : OS) (i ci : Nat) (se : OSeat) (t : Tk) (c : Cal) (hl : se.last = (ci : Int)) (hop : c.op = t.opn) : ∃ e x over, Stp o i ci se t c e x over (o.step i se t) := by
  have hci : se.last.toNat = ci := by omega
  cases t with
  | look a =>
    refine ⟨⟨o.moves, i, 1, a, 0, 0, o.at a⟩, ⟨none, se.last⟩, true, ⟨rfl, ?_, rfl, rfl, ?_, ⟨rfl, rfl, rfl, rfl, .inl ⟨rfl, rfl, rfl⟩⟩, fun _ => ⟨rfl, ?_⟩, fun h => (by cases h), rfl⟩⟩
    · simp [OS.step, wrA]
    · simp [OS.step, OS.ends, hci, Tk.addr]
    · have : c.op ≠ 2 := by rw [hop]; exact show (1 : Int) ≠ 2 by decide
      rw [if_neg this]; rfl
  | bump a saw ld =>
    cases ld with
    | false =>
      refine ⟨⟨o.moves, i, 1, a, 0, 0, o.at a⟩, ⟨some (.bump a (o.at a) true), se.last⟩, false, ⟨rfl, ?_, rfl, rfl, rfl, ⟨rfl, rfl, rfl, rfl, .inl ⟨rfl, rfl, rfl⟩⟩, fun h => (by cases h), fun _ => ⟨⟨_, rfl, rfl, rfl⟩, rfl⟩, rfl⟩⟩
      simp [OS.step, wrA]
    | true =>
      by_cases he : o.at a = saw
      · refine ⟨⟨o.moves, i, 3, a, saw, IntKind.u64.wrap (saw + 1), o.at a⟩, ⟨none, se.last⟩, true, ⟨?_, ?_, ?_, ?_, ?_, ⟨rfl, rfl, rfl, rfl, .inr rfl⟩, fun _ => ⟨rfl, ?_⟩, fun h => (by cases h), rfl⟩⟩
        · simp [OS.step, he]
        · simp [OS.step, wrA, he]
        · simp [OS.step, he]
        · simp [OS.step, he]
        · simp [OS.step, OS.ends, hci, Tk.addr, he]
        · have : c.op = 2 := by rw [hop]; rfl
          rw [if_pos this]
          simp [OS.step, he, Tk.addr]
      · refine ⟨⟨o.moves, i, 3, a, saw, IntKind.u64.wrap (saw + 1), o.at a⟩, ⟨some (.bump a saw false), se.last⟩, false, ⟨?_, ?_, ?_, ?_, ?_, ⟨rfl, rfl, rfl, rfl, .inr rfl⟩, fun h => (by cases h), fun _ => ⟨⟨_, rfl, rfl, rfl⟩, ?_⟩, rfl⟩⟩
        · simp [OS.step, he]
        · simp [OS.step, wrA, he]; intro h1; exact absurd h1.symm he
        · simp [OS.step, he]
        · simp [OS.step, he]
        · simp [OS.step, he]
        · simp [OS.step, he]

theorem modify_get {α : Type} {ls : List α} {ci cj : Nat} {f : α → α} {c : α} (h : (ls.modify ci f)[cj]? = some c) : (cj = ci ∧ ∃ d, ls[ci]? = some d ∧ c = f d) ∨ (cj ≠ ci ∧ ls[cj]? = some c) := by
  rw [List.getElem?_modify] at h
  by_cases e : ci = cj
  · subst e
    cases hd : ls[ci]? with
    | none => rw [hd] at h; cases h
    | some d => rw [hd] at h; simp at h; exact .inl ⟨rfl, d, rfl, h.symm⟩
  · simp [e] at h; exact .inr ⟨Ne.symm e, h⟩
theorem modify_at {α : Type} {ls : List α} {ci cj : Nat} {f : α → α} {c : α} (h : ls[cj]? = some c) : (ls.modify ci f)[cj]? = some (if ci = cj then f c else c) := by
  rw [List.getElem?_modify, h]
  by_cases e : ci = cj <;> simp [e]

theorem OS.Inv.stp (h : OS.Inv l n pre o) {mv : Mv} {i ci : Nat} {se : OSeat} {t : Tk} {c : Cal} {e : Acc} {x : OSeat} {over : Bool} {o' : OS} (S : Stp o i ci se t c e x over o')
    (hi : mv.th = (i : Int)) (hop : mv.op = 0) (hs : o.seats[i]? = some se) (_hta : se.task = some t) (hl : se.last = (ci : Int)) (hc : o.calls[ci]? = some c) (hth : c.th = (i : Int)) (hen : c.en = -1) (harg : c.arg = t.addr) (hcop : c.op = t.opn)
    (had : 0 ≤ t.addr ∧ t.addr < (l.length : Int)) : OS.Inv l n (pre ++ [mv]) o' := by
  have hil := (List.getElem?_eq_some_iff.1 hs).1
  have hmv := h.moves
  have hmo := S.moves
  have hcb : 0 ≤ c.beg ∧ c.beg < (o.moves : Int) := by obtain ⟨_, _, _, _, _, _, e6, e7, _⟩ := h.call ci c hc; exact ⟨e6, e7⟩
  obtain ⟨v1, v2, v3, v4, v5⟩ := S.emv
  -- a call of o in o'
  have hcall : ∀ (cj : Nat) (d' : Cal), o'.calls[cj]? = some d' → ∃ d, o.calls[cj]? = some d ∧ d'.th = d.th ∧ d'.op = d.op ∧ d'.arg = d.arg ∧ d'.data = d.data ∧ d'.beg = d.beg ∧ ((d' = d ∧ (over = true → cj ≠ ci)) ∨ (cj = ci ∧ over = true ∧ d'.en = o.moves ∧ d'.pt = o.moves ∧ d'.ak = 2)) := by
    intro cj d' hd'
    rw [S.calls] at hd'
    cases over with
    | false => exact ⟨d', by simpa using hd', rfl, rfl, rfl, rfl, rfl, .inl ⟨rfl, fun h => (by cases h)⟩⟩
    | true =>
      simp only [if_true] at hd'
      rcases modify_get hd' with ⟨rfl, d, hd, rfl⟩ | ⟨hne, hd⟩
      · exact ⟨d, hd, rfl, rfl, rfl, rfl, rfl, .inr ⟨rfl, rfl, rfl, rfl, rfl⟩⟩
      · exact ⟨d', hd, rfl, rfl, rfl, rfl, rfl, .inl ⟨rfl, fun _ => hne⟩⟩
  have hback : ∀ (cj : Nat) (d : Cal), o.calls[cj]? = some d → ∃ d', o'.calls[cj]? = some d' ∧ d'.th = d.th ∧ d'.op = d.op ∧ d'.arg = d.arg ∧ d'.beg = d.beg ∧ (d' = d ∨ (cj = ci ∧ over = true ∧ d'.en = o.moves)) := by
    intro cj d hd
    rw [S.calls]
    cases over with
    | false => exact ⟨d, by simpa using hd, rfl, rfl, rfl, rfl, .inl rfl⟩
    | true =>
      simp only [if_true]
      have := modify_at (ci := ci) (f := fun c => { c with en := o.moves, pt := o.moves, ak := 2, av := wrap64 (o.at t.addr) }) hd
      by_cases e : ci = cj
      · rw [if_pos e] at this
        exact ⟨_, this, rfl, rfl, rfl, rfl, .inr ⟨e.symm, trivial, rfl⟩⟩
      · rw [if_neg e] at this
        exact ⟨_, this, rfl, rfl, rfl, rfl, .inl rfl⟩
  refine ⟨by rw [hmo, hmv]; simp, ?_, by rw [S.seats, List.length_set]; exact h.slen, ?_, ?_, ?_, ?_, ?_, ?_⟩
  · rw [S.words, wrA_len]; exact h.wlen
  · rw [S.words, S.log, List.foldl_append, ← h.words]; rfl
  · intro j sj tj hj htj
    rw [S.seats] at hj
    rcases set_cases hj with ⟨rfl, rfl⟩ | h2
    · cases over with
      | true => rw [(S.ends rfl).1] at htj; cases htj
      | false =>
        obtain ⟨⟨t', q1, q2, q3⟩, _⟩ := S.goes rfl
        rw [q1] at htj
        cases htj
        refine ⟨ci, c, S.last.trans hl, ?_, hth, hen, by rw [q2]; exact harg, by rw [q3]; exact hcop, by rw [q2]; exact had.1, by rw [q2]; exact had.2⟩
        rw [S.calls]; simpa using hc
    · by_cases hji : j = i
      · subst hji
        rw [List.getElem?_set] at hj
        simp [hil] at hj
        subst hj
        cases over with
        | true => rw [(S.ends rfl).1] at htj; cases htj
        | false =>
          obtain ⟨⟨t', q1, q2, q3⟩, _⟩ := S.goes rfl
          rw [q1] at htj
          cases htj
          refine ⟨ci, c, S.last.trans hl, ?_, hth, hen, by rw [q2]; exact harg, by rw [q3]; exact hcop, by rw [q2]; exact had.1, by rw [q2]; exact had.2⟩
          rw [S.calls]; simpa using hc
      · obtain ⟨cj, d, q1, q2, q3, q4, q5, q6, q7⟩ := h.seat j sj tj h2 htj
        obtain ⟨d', p1, p2, p3, p4, p5, p6⟩ := hback cj d q2
        have hne : d' = d := by
          rcases p6 with p6 | ⟨rfl, _⟩
          · exact p6
          · rw [hc] at q2
            cases q2
            rw [hth] at q3
            omega
        subst hne
        exact ⟨cj, d', q1, p1, q3, q4, q5, q6, q7⟩
  · intro cj d' hd'
    obtain ⟨d, hd, t1, t2, t3, t4, t5, t6⟩ := hcall cj d' hd'
    obtain ⟨i', e1, e2, e3, e4, e5, e6, e7, e8, e9⟩ := h.call cj d hd
    refine ⟨i', t1.trans e1, e2, by rw [t2]; exact e3, by rw [t3]; exact e4, by rw [t3]; exact e5, by rw [t5]; exact e6, by rw [t5, hmo]; omega, by rw [t5, t1, t2, t3, t4]; exact pre_app e8, ?_⟩
    rcases t6 with ⟨rfl, t7⟩ | ⟨rfl, hov, t7, t8, t9⟩
    · rcases e9 with ⟨f1, f2, f3, f4, se', t', f5, f6, f7⟩ | ⟨f1, f2, f3, f4⟩
      · refine .inl ⟨f1, f2, f3, f4, ?_⟩
        rw [S.seats]
        by_cases hii : i = i'
        · subst hii
          rw [hs] at f5
          cases f5
          rw [hl] at f7
          have hcc : cj = ci := by omega
          cases over with
          | true => exact absurd hcc (t7 rfl)
          | false =>
            obtain ⟨⟨t', q1, _⟩, _⟩ := S.goes rfl
            exact ⟨x, t', by rw [List.getElem?_set]; simp [hil], q1, by rw [S.last, hl, hcc]⟩
        · exact ⟨se', t', by rw [List.getElem?_set]; simp [hii]; exact f5, f6, f7⟩
      · exact .inr ⟨f1, by rw [hmo]; omega, f3, f4⟩
    · exact .inr ⟨by rw [t5, t7]; exact e7, by rw [t7, hmo]; omega, by rw [t8, t7], t9⟩
  · intro c1 c2 d1 d2 hlt h1 h2
    obtain ⟨a1, g1, _, _, _, _, q1, _⟩ := hcall c1 d1 h1
    obtain ⟨a2, g2, _, _, _, _, q2, _⟩ := hcall c2 d2 h2
    rw [q1, q2]
    exact h.begs c1 c2 a1 a2 hlt g1 g2
  · intro k a ha
    rw [S.log] at ha
    by_cases hk : k < o.log.length
    · rw [List.getElem?_append_left hk] at ha
      obtain ⟨g1, g2, ⟨m, g3, g4⟩, g5, g6, g7, ⟨cj, d, g8, g9, g10, g11⟩⟩ := h.log k a ha
      obtain ⟨d', p1, p2, p3, p4, p5, p6⟩ := hback cj d g8
      refine ⟨⟨g1.1, by rw [hmo]; omega⟩, g2, ⟨m, pre_app g3, g4⟩, g5, g6, ?_, ⟨cj, d', p1, by rw [p2]; exact g9, by rw [p5]; exact g10, ?_⟩⟩
      · rw [S.log, List.take_append_of_le_length (by omega)]; exact g7
      · rcases p6 with rfl | ⟨_, _, p7⟩
        · exact g11
        · exact .inr (by rw [p7]; omega)
    · have hkl : k = o.log.length := by
        have := (List.getElem?_eq_some_iff.1 ha).1
        simp at this; omega
      subst hkl
      simp at ha
      subst ha
      obtain ⟨d', p1, p2, p3, p4, p5, p6⟩ := hback ci c hc
      refine ⟨⟨by rw [v1]; omega, by rw [v1, hmo]; omega⟩, ⟨by rw [v2]; omega, by rw [v2, ← h.slen]; omega⟩, ⟨mv, by rw [v1, hmv]; exact pre_last, by rw [v2]; exact hi, hop⟩, by rw [v3]; exact had, v5, ?_, ⟨ci, d', p1, by rw [p2, v2]; exact hth, by rw [p5, v1]; exact hcb.2, ?_⟩⟩
      · rw [S.log, List.take_left' rfl, ← h.words, v3, v4]; rfl
      · rcases p6 with rfl | ⟨_, _, p7⟩
        · exact .inl (by rw [hen]; decide)
        · exact .inr (by rw [p7, v1]; exact Int.le_refl _)
  · intro k k' a a' hlt h1 h2
    rw [S.log] at h1 h2
    have hk' := (List.getElem?_eq_some_iff.1 h2).1
    rw [List.length_append, List.length_singleton] at hk'
    rw [List.getElem?_append_left (by omega)] at h1
    by_cases hk : k' < o.log.length
    · rw [List.getElem?_append_left hk] at h2
      exact h.mono k k' a a' hlt h1 h2
    · have : k' = o.log.length := by omega
      subst this
      simp at h2
      subst h2
      rw [v1]
      exact (h.log k a h1).mv.2

/-- a move, one of three ways -/
theorem OS.Inv.way (h : OS.Inv l n pre o) (hlt : pre.length < 65536) (mv : Mv) :
    ((o.move l.length mv) = (o.skip, false)) ∨
    (∃ (i ci : Nat) (se : OSeat) (t : Tk) (c : Cal) (e : Acc) (x : OSeat) (over : Bool), (o.move l.length mv) = (o.step i se t, true) ∧ Stp o i ci se t c e x over (o.step i se t) ∧ mv.th = (i : Int) ∧ mv.op = 0 ∧ o.seats[i]? = some se ∧ se.task = some t ∧ se.last = (ci : Int) ∧ o.calls[ci]? = some c ∧ c.th = (i : Int) ∧ c.en = -1 ∧ c.arg = t.addr ∧ c.op = t.opn ∧ 0 ≤ t.addr ∧ t.addr < (l.length : Int)) ∨
    (∃ (i : Nat) (se : OSeat) (t : Tk), (o.move l.length mv) = (o.begin i mv t, true) ∧ mv.th = (i : Int) ∧ o.seats[i]? = some se ∧ se.task = none ∧ mv.op ≠ 0 ∧ ownMake l.length mv = some t) := by
  have hm := h.moves
  rcases o.move_cases l.length mv with ⟨h0, _⟩ | ⟨_, e⟩ | ⟨_, i, se, t, hi, hs, hta, hop, e⟩ | ⟨_, i, se, t, hi, hs, hta, hop, hmk, e⟩
  · omega
  · exact .inl e
  · obtain ⟨ci, c, q1, q2, q3, q4, q5, q6, q7, q8⟩ := h.seat i se t hs hta
    obtain ⟨ae, x, over, S⟩ := OS.step_stp o i ci se t c q1 q6
    exact .inr (.inl ⟨i, ci, se, t, c, ae, x, over, e, S, hi, hop, hs, hta, q1, q2, q3, q4, q5, q6, q7, q8⟩)
  · exact .inr (.inr ⟨i, se, t, e, hi, hs, hta, hop, hmk⟩)
theorem OS.Inv.move (h : OS.Inv l n pre o) (hlt : pre.length < 65536) (mv : Mv) : OS.Inv l n (pre ++ [mv]) (o.move l.length mv).1 := by
  rcases h.way hlt mv with e | ⟨i, ci, se, t, c, ae, x, over, e, S, hi, hop, hs, hta, q1, q2, q3, q4, q5, q6, q7, q8⟩ | ⟨i, se, t, e, hi, hs, hta, hop, hmk⟩
  · rw [e]; exact h.skip mv
  · rw [e]; exact h.stp S hi hop hs hta q1 q2 q3 q4 q5 q6 ⟨q7, q8⟩
  · rw [e]; exact h.begin hi hs hta hmk
end

theorem osOf_snoc (l : List Int) (n : Nat) (pre : List Mv) (mv : Mv) : osOf l n (pre ++ [mv]) = ((osOf l n pre).move l.length mv).1 := OS.goes_snoc ..
theorem inv_of (l : List Int) (n : Nat) (ms : List Mv) (hm : ms.length ≤ 65536) : OS.Inv l n ms (osOf l n ms) := by
  have : ∀ k, k ≤ ms.length → OS.Inv l n (ms.take k) (osOf l n (ms.take k)) := by
    intro k
    induction k with
    | zero => intro _; rw [List.take_zero]; exact OS.Inv.init l n
    | succ k ih =>
      intro hk
      rw [take_next ms k (by omega), osOf_snoc]
      exact (ih (by omega)).move (by simp; omega) _
  have h := this ms.length (Nat.le_refl _)
  rwa [List.take_length] at h
theorem os_few (size : Int) (o : OS) (mv : Mv) (h : o.calls.length ≤ o.moves ∧ o.log.length ≤ o.moves) : (o.move size mv).1.calls.length ≤ (o.move size mv).1.moves ∧ (o.move size mv).1.log.length ≤ (o.move size mv).1.moves := by
  rcases o.move_cases size mv with ⟨_, e⟩ | ⟨_, e⟩ | ⟨_, i, se, t, _, _, _, _, e⟩ | ⟨_, i, se, t, _, _, _, _, _, e⟩
  · rw [e]; exact h
  · rw [e]; exact ⟨Nat.le_succ_of_le h.1, Nat.le_succ_of_le h.2⟩
  · rw [e]
    unfold OS.step
    split
    · simp [OS.ends]; omega
    · simp; omega
    · split
      · simp [OS.ends]; omega
      · simp; omega
  · rw [e]
    simp [OS.begin]; omega
theorem os_fews (size : Int) (ms : List Mv) : ∀ o : OS, (o.calls.length ≤ o.moves ∧ o.log.length ≤ o.moves) → (o.goes size ms).calls.length ≤ (o.goes size ms).moves ∧ (o.goes size ms).log.length ≤ (o.goes size ms).moves := by
  induction ms with
  | nil => intro o h; exact h
  | cons m ms ih => intro o h; exact ih _ (os_few size o m h)
theorem calls_le (l : List Int) (n : Nat) (ms : List Mv) (hm : ms.length ≤ 65536) : (osOf l n ms).calls.length ≤ 65536 := by
  have h := (os_fews l.length ms (OS.init l n) ⟨Nat.le_refl _, Nat.le_refl _⟩).1
  have := (inv_of l n ms hm).moves
  unfold osOf at this ⊢
  omega
theorem log_le (l : List Int) (n : Nat) (ms : List Mv) (hm : ms.length ≤ 65536) : (osOf l n ms).log.length ≤ 65536 := by
  have h := (os_fews l.length ms (OS.init l n) ⟨Nat.le_refl _, Nat.le_refl _⟩).2
  have := (inv_of l n ms hm).moves
  unfold osOf at this ⊢
  omega
end Go
namespace Go.Proofs.Ytbhbpfpggfcpgaa
open Go.ChangeShapes Go.WideShapes Go.ChangeAt Go.RowKit Go.Shelf

/-- the script's box and the run's box, and what they hold; W is what all that follows keeps -/
structure LawW (w W : World) (Bs Br : Nat) (n : Nat) (l : List Int) (ms : List Mv) (ox : Option Addr) (cx : Nat) (om : Option Addr) (cm : Nat) (x : RunVs) (r : RunS) : Prop where
  scr : W.heap[Bs]? = some (.cells #[.int .i64 (n : Int), .slice ox l.length cx, .slice om ms.length cm] 45 (0, 0))
  rbx : W.heap[Br]? = some (.cells #[x.va, x.vt, x.vb, x.vc] 41 (0, 0))
  run : RunAt W w.heap.size x r
  src : W.Src 1 (.slice ox l.length cx) l.length (u64s l)
  mvs : MvsIn W (.slice om ms.length cm) ms
  be : Below w.heap.size w W

theorem _root_.Go.World.heap_more_ge (w : World) (os : Array Obj) (d k : Nat) (h : w.heap.size ≤ k) : (w.more os d).heap[k]? = os[k - w.heap.size]? := by
  unfold World.more
  exact Array.getElem?_append_right h

theorem LawW.of {w : World} {n : Nat} {l : List Int} {ms : List Mv} {ox : Option Addr} {cx : Nat} {om : Option Addr} {cm : Nat} {x : RunVs} {r : RunS} {S0 : Obj} {os : Array Obj} {d : Nat}
    (hr : RunAt ((w.alloc S0).more os d) (w.alloc S0).heap.size x r) (hs : w.Src 1 (.slice ox l.length cx) l.length (u64s l)) (hm : MvsIn w (.slice om ms.length cm) ms) :
    LawW w (((w.alloc (.cells #[.int .i64 (n : Int), .slice ox l.length cx, .slice om ms.length cm] 45)).more os d).alloc (.cells #[x.va, x.vt, x.vb, x.vc] 41)) w.heap.size (w.heap.size + 1 + os.size) n l ms ox cx om cm x r := by
  have hb : Below w.heap.size w (((w.alloc (.cells #[.int .i64 (n : Int), .slice ox l.length cx, .slice om ms.length cm] 45)).more os d).alloc (.cells #[x.va, x.vt, x.vb, x.vc] 41)) := (by repeat (first | exact Below.refl _ _ | apply Below.drew | apply Below.more1 | apply Below.alloc1))
  refine ⟨?_, ?_, ?_, hs.below hb, hm.of_block hb.block hb.size, hb⟩
  · rw [Below.heap_alloc _ _ _ (by simp [World.size_more]; omega), World.heap_more _ _ _ _ (by simp)]
    exact heap_alloc_new w _
  · exact heap_alloc_at (by simp [World.size_more])
  · refine (hr.of_block fun k hk => ?_).base_mono (by simp)
    have := hr.lt k hk
    simp only [World.size_alloc] at this
    rw [Below.heap_alloc _ _ _ (by simp [World.size_more] at this ⊢; omega)]
    rw [World.heap_more_ge _ _ _ _ (by simp; omega), World.heap_more_ge _ _ _ _ (by simp; omega)]
    simp

section
variable {w W : World} {Bs Br n : Nat} {l : List Int} {ms : List Mv} {ox : Option Addr} {cx : Nat} {om : Option Addr} {cm : Nat} {x : RunVs} {r : RunS}
theorem LawW.scells (h : LawW w W Bs Br n l ms ox cx om cm x r) : W.cell? ⟨Bs, 0, none⟩ = some (.int .i64 (n : Int)) ∧ W.cell? ⟨Bs, 1, none⟩ = some (.slice ox l.length cx) ∧ W.cell? ⟨Bs, 2, none⟩ = some (.slice om ms.length cm) ∧ Bs < W.heap.size :=
  ⟨by simp [World.cell?, h.scr], by simp [World.cell?, h.scr], by simp [World.cell?, h.scr], (Array.getElem?_eq_some_iff.1 h.scr).1⟩
theorem LawW.rcells (h : LawW w W Bs Br n l ms ox cx om cm x r) : W.cell? ⟨Br, 0, none⟩ = some x.va ∧ W.cell? ⟨Br, 1, none⟩ = some x.vt ∧ W.cell? ⟨Br, 2, none⟩ = some x.vb ∧ W.cell? ⟨Br, 3, none⟩ = some x.vc ∧ Br < W.heap.size :=
  ⟨by simp [World.cell?, h.rbx], by simp [World.cell?, h.rbx], by simp [World.cell?, h.rbx], by simp [World.cell?, h.rbx], (Array.getElem?_eq_some_iff.1 h.rbx).1⟩
end

theorem accs_get' (l : List Acc) (i j : Nat) (hi : i < l.length) (hj : j < 7) : (accs l)[i * 7 + j]? = l[i].cells[j]? := flat_get (f := Acc.cells) (k := 7) (fun _ => rfl) l i j hi hj

set_option maxRecDepth 100000 in
set_option maxHeartbeats 2000000 in
theorem incall_ok {w : World} {va : Value} {base : Nat} {cs : List Cal} (hs : w.RowV base 63 9 va cs.length (cals cs)) (hn : cs.length ≤ 1000000) (th mv : Int) (hin : inCall cs th mv) :
    Calls Try.prog 28 #[va, .int .i64 th, .int .i64 mv] w fun e w' => e = .returned (.bool true) ∧ Below w.heap.size w w' := by
  obtain ⟨ci, c, hc, q1, q2, q3⟩ := hin
  have hlt := (List.getElem?_eq_some_iff.1 hc).1
  obtain ⟨g, cap, rfl, f1, f2, f3, f4, f5, f6⟩ := hs.some_form (by omega)
  have HS := Lib.hid f6
  have HC := Lib.hid hc
  have HQ := Lib.hid (And.intro q1 (And.intro q2 q3))
  clear hs f4 f6 hc q1 q2 q3
  go_enter Try.func28, Try.ntmps28
  go_wp2
  go_loopg [11] ci (fun gh sl wr => ∃ k : Nat, k ≤ ci ∧ ci ≤ k + gh ∧ sl = .int .i64 (k : Int) ∧ ∃ os d, wr = w.more os d)
  case atStart => exact ⟨0, by omega, by omega, by go_num, RowKit.Below.more (Below.refl _ _)⟩
  case round =>
    obtain ⟨k, hk1, hk2, rfl, os, d, rfl⟩ := hrel
    have hkl : k < cs.length := by omega
    have c0 := HS.out (k * 9 + 0) _ (cals_get cs k 0 hkl (by omega))
    have c1 := HS.out (k * 9 + 1) _ (cals_get cs k 1 hkl (by omega))
    have c2 := HS.out (k * 9 + 2) _ (cals_get cs k 2 hkl (by omega))
    have c3 := HS.out (k * 9 + 3) _ (cals_get cs k 3 hkl (by omega))
    have c4 := HS.out (k * 9 + 4) _ (cals_get cs k 4 hkl (by omega))
    have c5 := HS.out (k * 9 + 5) _ (cals_get cs k 5 hkl (by omega))
    have c6 := HS.out (k * 9 + 6) _ (cals_get cs k 6 hkl (by omega))
    have c7 := HS.out (k * 9 + 7) _ (cals_get cs k 7 hkl (by omega))
    have c8 := HS.out (k * 9 + 8) _ (cals_get cs k 8 hkl (by omega))
    have HK := Lib.hid (show k = ci → cs[k] = c from fun e => by subst e; have := HC.out; rw [List.getElem?_eq_getElem hkl] at this; exact Option.some.inj this)
    generalize cs[k] = ck at *
    simp only [Nat.add_zero] at c0
    have hb : ((ck.th == th) = false ∧ Hid (k ≠ ci)) ∨ ((ck.th == th) = true ∧ decide (ck.beg < mv) = false ∧ Hid (k ≠ ci)) ∨ ((ck.th == th) = true ∧ decide (ck.beg < mv) = true ∧ decide (ck.en < 0) = true) ∨
        ((ck.th == th) = true ∧ decide (ck.beg < mv) = true ∧ decide (ck.en < 0) = false ∧ decide (mv ≤ ck.en) = true) ∨ ((ck.th == th) = true ∧ decide (ck.beg < mv) = true ∧ decide (ck.en < 0) = false ∧ decide (mv ≤ ck.en) = false ∧ Hid (k ≠ ci)) := by
      obtain ⟨q1, q2, q3⟩ := HQ.out
      by_cases a1 : ck.th = th
      · by_cases a2 : ck.beg < mv
        · by_cases a3 : ck.en < 0
          · exact .inr (.inr (.inl ⟨by simpa using a1, by simpa using a2, by simpa using a3⟩))
          · by_cases a4 : mv ≤ ck.en
            · exact .inr (.inr (.inr (.inl ⟨by simpa using a1, by simpa using a2, by simpa using a3, by simpa using a4⟩)))
            · exact .inr (.inr (.inr (.inr ⟨by simpa using a1, by simpa using a2, by simpa using a3, by simpa using a4, Lib.hid (fun e => by have := HK.out e; subst this; omega)⟩)))
        · exact .inr (.inl ⟨by simpa using a1, by simpa using a2, Lib.hid (fun e => by have := HK.out e; subst this; exact a2 q2)⟩)
      · exact .inl ⟨by simpa using a1, Lib.hid (fun e => by have := HK.out e; subst this; exact a1 q1)⟩
    rcases hb with ⟨b1, b2⟩ | ⟨b1, b2, b3⟩ | ⟨b1, b2, b3⟩ | ⟨b1, b2, b3, b4⟩ | ⟨b1, b2, b3, b4, b5⟩
    · have hne := b2.out
      go_wp2
      go_roundg (ci - (k + 1))
      case measure => omega
      case rel => exact ⟨k + 1, by omega, by omega, by go_num, RowKit.Below.more (by repeat (first | exact Below.refl _ _ | apply Below.drew | apply Below.more1 | apply Below.alloc1))⟩
    · have hne := b3.out
      go_wp2
      go_roundg (ci - (k + 1))
      case measure => omega
      case rel => exact ⟨k + 1, by omega, by omega, by go_num, RowKit.Below.more (by repeat (first | exact Below.refl _ _ | apply Below.drew | apply Below.more1 | apply Below.alloc1))⟩
    · go_wp2
      go_ret
      exact ⟨rfl, (by repeat (first | exact Below.refl _ _ | apply Below.drew | apply Below.more1 | apply Below.alloc1))⟩
    · go_wp2
      go_ret
      exact ⟨rfl, (by repeat (first | exact Below.refl _ _ | apply Below.drew | apply Below.more1 | apply Below.alloc1))⟩
    · have hne := b5.out
      go_wp2
      go_roundg (ci - (k + 1))
      case measure => omega
      case rel => exact ⟨k + 1, by omega, by omega, by go_num, RowKit.Below.more (by repeat (first | exact Below.refl _ _ | apply Below.drew | apply Below.more1 | apply Below.alloc1))⟩
end Go.Proofs.Ytbhbpfpggfcpgaa
