/-
The machine with its own calls as plain data (OS); a PM of the own kit behaves as one. Plain.
-/
import Derived.Test.YtjcggokhminmoaaQArKn
namespace Go
open Go.RowKit
open Go.Proofs.Ytjcggokhminmoaa

structure OSeat where
  task : Option Tk
  last : Int
deriving DecidableEq
structure OS where
  words : List Int
  log : List Acc
  seats : List OSeat
  moves : Nat
  calls : List Cal
def OS.at (o : OS) (a : Int) : Int := o.words.getD a.toNat 0
def OS.skip (o : OS) : OS := { o with moves := o.moves + 1 }
def OS.ends (o : OS) (last : Int) (x : Int) : List Cal := o.calls.modify last.toNat fun c => { c with en := o.moves, pt := o.moves, ak := 2, av := wrap64 x }
def OS.step (o : OS) (i : Nat) (se : OSeat) (t : Tk) : OS := match t with
  | .look a => { o with moves := o.moves + 1, log := o.log ++ [⟨o.moves, i, 1, a, 0, 0, o.at a⟩], seats := o.seats.set i ⟨none, se.last⟩, calls := o.ends se.last (o.at a) }
  | .bump a _ false => { o with moves := o.moves + 1, log := o.log ++ [⟨o.moves, i, 1, a, 0, 0, o.at a⟩], seats := o.seats.set i ⟨some (.bump a (o.at a) true), se.last⟩ }
  | .bump a saw true => if o.at a = saw
    then { o with moves := o.moves + 1, words := o.words.set a.toNat (IntKind.u64.wrap (saw + 1)), log := o.log ++ [⟨o.moves, i, 3, a, saw, IntKind.u64.wrap (saw + 1), o.at a⟩], seats := o.seats.set i ⟨none, se.last⟩, calls := o.ends se.last saw }
    else { o with moves := o.moves + 1, log := o.log ++ [⟨o.moves, i, 3, a, saw, IntKind.u64.wrap (saw + 1), o.at a⟩], seats := o.seats.set i ⟨some (.bump a saw false), se.last⟩ }
def OS.begin (o : OS) (i : Nat) (mv : Mv) (t : Tk) : OS :=
  { o with moves := o.moves + 1, seats := o.seats.set i ⟨some t, o.calls.length⟩, calls := o.calls ++ [⟨mv.th, mv.op, mv.arg, mv.data, o.moves, -1, -1, 0, 0⟩] }
def OS.move (size : Int) (o : OS) (mv : Mv) : OS × Bool :=
  if 65536 ≤ o.moves then (o, false)
  else if mv.th < 0 then (o.skip, false)
  else match o.seats[mv.th.toNat]? with
    | none => (o.skip, false)
    | some se => match se.task with
      | some t => if mv.op = 0 then (o.step mv.th.toNat se t, true) else (o.skip, false)
      | none => if mv.op = 0 then (o.skip, false) else match ownMake size mv with
        | none => (o.skip, false)
        | some t => (o.begin mv.th.toNat mv t, true)
def OS.init (l : List Int) (n : Nat) : OS := ⟨l, [], List.replicate n ⟨none, -1⟩, 0, []⟩
def OS.goes (size : Int) (o : OS) (ms : List Mv) : OS := ms.foldl (fun o m => (o.move size m).1) o
def Tk.addr : Tk → Int
  | .look a => a
  | .bump a _ _ => a
/-- the addresses are there -/
structure OS.Ok (o : OS) : Prop where
  addr : ∀ (i : Nat) (se : OSeat) (t : Tk), o.seats[i]? = some se → se.task = some t → 0 ≤ t.addr ∧ t.addr < (o.words.length : Int)
  last : ∀ (i : Nat) (se : OSeat) (t : Tk), o.seats[i]? = some se → se.task = some t → 0 ≤ se.last ∧ se.last < (o.calls.length : Int)

theorem OS.move_cases (size : Int) (o : OS) (mv : Mv) :
    (65536 ≤ o.moves ∧ o.move size mv = (o, false)) ∨ (o.moves < 65536 ∧ o.move size mv = (o.skip, false)) ∨
    (o.moves < 65536 ∧ ∃ (i : Nat) (se : OSeat) (t : Tk), mv.th = (i : Int) ∧ o.seats[i]? = some se ∧ se.task = some t ∧ mv.op = 0 ∧ o.move size mv = (o.step i se t, true)) ∨
    (o.moves < 65536 ∧ ∃ (i : Nat) (se : OSeat) (t : Tk), mv.th = (i : Int) ∧ o.seats[i]? = some se ∧ se.task = none ∧ mv.op ≠ 0 ∧ ownMake size mv = some t ∧ o.move size mv = (o.begin i mv t, true)) := by
  unfold OS.move
  by_cases hf : 65536 ≤ o.moves
  · exact .inl ⟨hf, by rw [if_pos hf]⟩
  refine .inr ?_
  simp only [if_neg hf]
  by_cases h0 : mv.th < 0
  · exact .inl ⟨by omega, by rw [if_pos h0]⟩
  simp only [if_neg h0]
  cases hse : o.seats[mv.th.toNat]? with
  | none => exact .inl ⟨by omega, rfl⟩
  | some se =>
    cases hta : se.task with
    | some t =>
      by_cases hop : mv.op = 0
      · exact .inr (.inl ⟨by omega, mv.th.toNat, se, t, by omega, hse, hta, hop, by simp only [hta, if_pos hop]⟩)
      · exact .inl ⟨by omega, by simp only [hta, if_neg hop]⟩
    | none =>
      by_cases hop : mv.op = 0
      · exact .inl ⟨by omega, by simp only [hta, if_pos hop]⟩
      · cases hmk : ownMake size mv with
        | none => exact .inl ⟨by omega, by simp only [hta, if_neg hop]⟩
        | some t => exact .inr (.inr ⟨by omega, mv.th.toNat, se, t, by omega, hse, hta, hop, rfl, by simp only [hta, if_neg hop]⟩)

theorem modify_id {α : Type} (l : List α) (i : Nat) (f : α → α) (x : α) (h : l[i]? = some x) (hf : f x = x) : l.modify i f = l := by
  apply List.ext_getElem?
  intro j
  rw [List.getElem?_modify]
  by_cases e : i = j
  · subst e; rw [h]; simp [hf]
  · simp [e]
theorem set_self {α : Type} (l : List α) (i : Nat) (x : α) (h : l[i]? = some x) : l.set i x = l := by
  apply List.ext_getElem?
  intro j
  rw [List.getElem?_set]
  by_cases e : i = j
  · subst e; obtain ⟨h1, rfl⟩ := List.getElem?_eq_some_iff.1 h; simp [h1]
  · simp [e]
theorem set_modify {α : Type} (l : List α) (i : Nat) (f : α → α) (x : α) (h : l[i]? = some x) : l.set i (f x) = l.modify i f := by
  apply List.ext_getElem?
  intro j
  rw [List.getElem?_set, List.getElem?_modify]
  by_cases e : i = j
  · subst e; obtain ⟨h1, rfl⟩ := List.getElem?_eq_some_iff.1 h; simp [h1]
  · simp [e]

section
variable (ws : List Int) (lg : List Acc) (ah : List Int) (mv : Int) (sh : List Shf) (th now pt ak av : Int) (a : Nat) (h : a < ws.length)
include h
theorem tk_look : Tk.step (.look a) ⟨⟨ws, lg, ah, mv⟩, sh, false, th, now, pt, ak, av⟩ = (.look a, ⟨⟨ws, lg ++ [⟨mv, th, 1, a, 0, 0, ws.getD a 0⟩], ah ++ [ws.getD a 0], mv⟩, sh, true, th, now, now, 2, wrap64 (ws.getD a 0)⟩, true) := by
  simp [Tk.step, DeskS.load, DeskS.word, DeskS.can, h, DeskS.tell, MemS.load, MemS.note, MemS.at]
theorem tk_first (saw : Int) : Tk.step (.bump a saw false) ⟨⟨ws, lg, ah, mv⟩, sh, false, th, now, pt, ak, av⟩ = (.bump a (ws.getD a 0) true, ⟨⟨ws, lg ++ [⟨mv, th, 1, a, 0, 0, ws.getD a 0⟩], ah ++ [ws.getD a 0], mv⟩, sh, true, th, now, pt, ak, av⟩, false) := by
  simp [Tk.step, DeskS.load, DeskS.word, DeskS.can, h, MemS.load, MemS.note, MemS.at]
theorem tk_yes (saw : Int) (he : ws.getD a 0 = saw) : Tk.step (.bump a saw true) ⟨⟨ws, lg, ah, mv⟩, sh, false, th, now, pt, ak, av⟩ =
    (.bump a saw true, ⟨⟨ws.set a (IntKind.u64.wrap (saw + 1)), lg ++ [⟨mv, th, 3, a, saw, IntKind.u64.wrap (saw + 1), ws.getD a 0⟩], ah ++ [ws.getD a 0], mv⟩, sh, true, th, now, now, 2, wrap64 saw⟩, true) := by
  subst he
  simp [Tk.step, DeskS.swaps, DeskS.swap, DeskS.can, h, DeskS.tell, MemS.swap, MemS.note, MemS.at]
theorem tk_no (saw : Int) (he : ws.getD a 0 ≠ saw) : Tk.step (.bump a saw true) ⟨⟨ws, lg, ah, mv⟩, sh, false, th, now, pt, ak, av⟩ =
    (.bump a saw false, ⟨⟨ws, lg ++ [⟨mv, th, 3, a, saw, IntKind.u64.wrap (saw + 1), ws.getD a 0⟩], ah ++ [ws.getD a 0], mv⟩, sh, true, th, now, pt, ak, av⟩, false) := by
  have he' : ¬ ws[a]?.getD 0 = saw := by simpa [List.getD] using he
  have he2 : ¬ ws[a] = saw := by simpa [h] using he'
  simp [Tk.step, DeskS.swaps, DeskS.swap, DeskS.can, h, MemS.swap, MemS.note, MemS.at, he2]
end

theorem ownMake_some {size : Int} {mv : Mv} {t : Tk} (h : ownMake size mv = some t) : 0 ≤ mv.arg ∧ mv.arg < size ∧ ((mv.op = 1 ∧ t = .look mv.arg) ∨ (mv.op = 2 ∧ t = .bump mv.arg 0 false)) := by
  unfold ownMake at h
  split at h
  · rename_i h1
    simp only [Bool.and_eq_true, decide_eq_true_eq] at h1
    refine ⟨h1.1, h1.2, ?_⟩
    split at h
    · rename_i h2; cases h; exact .inl ⟨h2, rfl⟩
    · split at h
      · rename_i h2; cases h; exact .inr ⟨h2, rfl⟩
      · cases h
  · cases h

theorem OS.words_len (o : OS) (size : Int) (mv : Mv) : (o.move size mv).1.words.length = o.words.length := by
  rcases o.move_cases size mv with ⟨_, e⟩ | ⟨_, e⟩ | ⟨_, i, se, t, _, _, _, _, e⟩ | ⟨_, i, se, t, _, _, _, _, _, e⟩
  · rw [e]
  · rw [e]; rfl
  · rw [e]
    unfold OS.step
    split
    · rfl
    · rfl
    · split
      · exact List.length_set ..
      · rfl
  · rw [e]; rfl

theorem OS.Ok.move {o : OS} (h : o.Ok) {size : Int} (hsz : size = (o.words.length : Int)) (mv : Mv) : (o.move size mv).1.Ok := by
  have hw := o.words_len size mv
  rcases o.move_cases size mv with ⟨_, e⟩ | ⟨_, e⟩ | ⟨_, i, se, t, hi, hs, hta, hop, e⟩ | ⟨_, i, se, t, hi, hs, hta, hop, hm, e⟩
  · rw [e]; exact h
  · rw [e]; exact ⟨h.addr, h.last⟩
  · rw [e] at hw ⊢
    have ha := h.addr i se t hs hta
    have hl := h.last i se t hs hta
    have key : ∃ x, (o.step i se t).seats = o.seats.set i x ∧ x.last = se.last ∧ (∀ t', x.task = some t' → t'.addr = t.addr) ∧ (o.step i se t).calls.length = o.calls.length := by
      unfold OS.step
      split
      · exact ⟨_, rfl, rfl, fun t' h' => (by cases h'), by simp [OS.ends]⟩
      · exact ⟨_, rfl, rfl, fun t' h' => (by cases h'; rfl), rfl⟩
      · split
        · exact ⟨_, rfl, rfl, fun t' h' => (by cases h'), by simp [OS.ends]⟩
        · exact ⟨_, rfl, rfl, fun t' h' => (by cases h'; rfl), rfl⟩
    obtain ⟨x, k1, k2, k3, k4⟩ := key
    refine ⟨fun j sj tj hj htj => ?_, fun j sj tj hj htj => ?_⟩
    · rw [k1] at hj
      rw [hw]
      rcases set_cases hj with ⟨_, rfl⟩ | h2
      · rw [k3 tj htj]; exact ha
      · exact h.addr j sj tj h2 htj
    · rw [k1] at hj
      rw [k4]
      rcases set_cases hj with ⟨_, rfl⟩ | h2
      · rw [k2]; exact hl
      · exact h.last j sj tj h2 htj
  · rw [e] at hw ⊢
    obtain ⟨m1, m2, m3⟩ := ownMake_some hm
    refine ⟨fun j sj tj hj htj => ?_, fun j sj tj hj htj => ?_⟩
    · rcases set_cases hj with ⟨_, rfl⟩ | h2
      · cases htj
        rw [hw, ← hsz]
        rcases m3 with ⟨_, rfl⟩ | ⟨_, rfl⟩ <;> exact ⟨m1, m2⟩
      · rw [hw]; exact h.addr j sj tj h2 htj
    · show _ ∧ _ < ((o.calls ++ [_]).length : Int)
      rw [List.length_append, List.length_singleton]
      rcases set_cases hj with ⟨_, rfl⟩ | h2
      · exact ⟨by show (0 : Int) ≤ o.calls.length; omega, by show (o.calls.length : Int) < _; omega⟩
      · have := h.last j sj tj h2 htj; omega

theorem OS.goes_snoc (size : Int) (o : OS) (ms : List Mv) (m : Mv) : o.goes size (ms ++ [m]) = ((o.goes size ms).move size m).1 := by simp [OS.goes, List.foldl_append]
theorem OS.goes_append (size : Int) (o : OS) (a b : List Mv) : o.goes size (a ++ b) = (o.goes size a).goes size b := by simp [OS.goes, List.foldl_append]
theorem OS.goes_len (size : Int) (o : OS) (ms : List Mv) : (o.goes size ms).words.length = o.words.length := by
  induction ms generalizing o with
  | nil => rfl
  | cons m ms ih => exact (ih _).trans (o.words_len size m)
theorem OS.Ok.goes {o : OS} (h : o.Ok) {size : Int} (hsz : size = (o.words.length : Int)) (ms : List Mv) : (o.goes size ms).Ok := by
  induction ms generalizing o with
  | nil => exact h
  | cons m ms ih => exact ih (h.move hsz m) (by rw [OS.words_len]; exact hsz)
theorem OS.Ok.init (l : List Int) (n : Nat) : (OS.init l n).Ok := by
  refine ⟨fun i se t h ht => ?_, fun i se t h ht => ?_⟩ <;>
  · simp only [OS.init, List.getElem?_replicate] at h
    split at h
    · cases h; cases ht
    · cases h
def osOf (l : List Int) (n : Nat) (ms : List Mv) : OS := (OS.init l n).goes l.length ms
end Go
