/-
What always holds of a machine with its own calls (OS.Inv), and how a later one goes on from an earlier one (OS.Later). Plain.
What the laws about runs begin with: the script and its run, as they lie (LawW). inCall.
Lists of moves that are laid anew (mvsC): as a source, as a row.
The document's machine (reclaimref03.Machine) as data, and where it lies in the heap (RMAt).
-/
import Derived.Test.YtbhbpfpggfcpgaaQInS
import Derived.Test.YtbhbpfpggfcpgaaQFit
namespace Go
open Go.RowKit
open Go.Proofs.Ytbhbpfpggfcpgaa

def wrA (ws : List Int) (a : Acc) : List Int := if a.kd = 3 ∧ a.old = a.saw then ws.set a.ad.toNat a.nw else ws
theorem wrA_len (ws : List Int) (a : Acc) : (wrA ws a).length = ws.length := by unfold wrA; split <;> simp
theorem foldl_wrA_len (log : List Acc) : ∀ ws : List Int, (log.foldl wrA ws).length = ws.length := by
  induction log with
  | nil => intro ws; rfl
  | cons a log ih => intro ws; exact (ih _).trans (wrA_len ws a)
def Tk.opn : Tk → Int
  | .look _ => 1
  | .bump _ _ _ => 2
/-- a call that runs: its seat is busy with it; or that has ended -/
def callOk (l : List Int) (n : Nat) (pre : List Mv) (o : OS) (ci : Nat) (c : Cal) : Prop :=
  ∃ i : Nat, c.th = (i : Int) ∧ i < n ∧ (c.op = 1 ∨ c.op = 2) ∧ 0 ≤ c.arg ∧ c.arg < (l.length : Int) ∧ 0 ≤ c.beg ∧ c.beg < (o.moves : Int) ∧ pre[c.beg.toNat]? = some ⟨c.th, c.op, c.arg, c.data⟩ ∧
    ((c.en = -1 ∧ c.pt = -1 ∧ c.ak = 0 ∧ c.av = 0 ∧ ∃ se t, o.seats[i]? = some se ∧ se.task = some t ∧ se.last = (ci : Int)) ∨ (c.beg < c.en ∧ c.en < (o.moves : Int) ∧ c.pt = c.en ∧ c.ak = 2))
def inCall (calls : List Cal) (th mv : Int) : Prop := ∃ (ci : Nat) (c : Cal), calls[ci]? = some c ∧ c.th = th ∧ c.beg < mv ∧ (c.en < 0 ∨ mv ≤ c.en)
structure AccOk (l : List Int) (n : Nat) (pre : List Mv) (o : OS) (k : Nat) (a : Acc) : Prop where
  mv : 0 ≤ a.mv ∧ a.mv < (o.moves : Int)
  th : 0 ≤ a.th ∧ a.th < (n : Int)
  pre : ∃ m, pre[a.mv.toNat]? = some m ∧ m.th = a.th ∧ m.op = 0
  ad : 0 ≤ a.ad ∧ a.ad < (l.length : Int)
  kd : (a.kd = 1 ∧ a.old = 0 ∧ a.nw = 0) ∨ a.kd = 3
  saw : a.saw = ((o.log.take k).foldl wrA l).getD a.ad.toNat 0
  call : inCall o.calls a.th a.mv
structure OS.Inv (l : List Int) (n : Nat) (pre : List Mv) (o : OS) : Prop where
  moves : o.moves = pre.length
  wlen : o.words.length = l.length
  slen : o.seats.length = n
  words : o.words = o.log.foldl wrA l
  seat : ∀ (i : Nat) (se : OSeat) (t : Tk), o.seats[i]? = some se → se.task = some t → ∃ (ci : Nat) (c : Cal), se.last = (ci : Int) ∧ o.calls[ci]? = some c ∧ c.th = (i : Int) ∧ c.en = -1 ∧ c.arg = t.addr ∧ c.op = t.opn ∧ 0 ≤ t.addr ∧ t.addr < (l.length : Int)
  call : ∀ (ci : Nat) (c : Cal), o.calls[ci]? = some c → callOk l n pre o ci c
  begs : ∀ (ci cj : Nat) (c c' : Cal), ci < cj → o.calls[ci]? = some c → o.calls[cj]? = some c' → c.beg < c'.beg
  log : ∀ (k : Nat) (a : Acc), o.log[k]? = some a → AccOk l n pre o k a
  mono : ∀ (k k' : Nat) (a a' : Acc), k < k' → o.log[k]? = some a → o.log[k']? = some a' → a.mv < a'.mv

theorem OS.Inv.init (l : List Int) (n : Nat) : OS.Inv l n [] (OS.init l n) := by
  refine ⟨rfl, rfl, by simp [OS.init], rfl, fun i se t h ht => ?_, fun ci c h => (by simp [OS.init] at h), fun ci cj c c' _ h => (by simp [OS.init] at h), fun k a h => (by simp [OS.init] at h), fun k k' a a' _ h => (by simp [OS.init] at h)⟩
  simp only [OS.init, List.getElem?_replicate] at h
  split at h
  · cases h; cases ht
  · cases h

section
variable {l : List Int} {n : Nat} {pre : List Mv} {o : OS}
theorem pre_app {i : Int} {m x : Mv} (h : pre[i.toNat]? = some m) : (pre ++ [x])[i.toNat]? = some m := by
  have := (List.getElem?_eq_some_iff.1 h).1
  rw [List.getElem?_append_left this]; exact h
theorem pre_last {x : Mv} : (pre ++ [x])[(pre.length : Int).toNat]? = some x := by
  rw [Int.toNat_natCast, List.getElem?_append_right (Nat.le_refl _)]; simp
theorem take_app {k : Nat} {x : Acc} (h : k ≤ o.log.length) : (o.log ++ [x]).take k = o.log.take k := List.take_append_of_le_length h

theorem OS.Inv.skip (h : OS.Inv l n pre o) (mv : Mv) : OS.Inv l n (pre ++ [mv]) o.skip := by
  refine ⟨?_, h.wlen, h.slen, h.words, h.seat, fun ci c hc => ?_, h.begs, fun k a ha => ?_, h.mono⟩
  · show o.moves + 1 = _
    rw [h.moves]; simp
  · obtain ⟨i, e1, e2, e3, e4, e5, e6, e7, e8, e9⟩ := h.call ci c hc
    refine ⟨i, e1, e2, e3, e4, e5, e6, by show _ < ((o.moves + 1 : Nat) : Int); omega, pre_app e8, ?_⟩
    rcases e9 with e9 | ⟨f1, f2, f3, f4⟩
    · exact .inl e9
    · exact .inr ⟨f1, by show _ < ((o.moves + 1 : Nat) : Int); omega, f3, f4⟩
  · obtain ⟨g1, g2, ⟨m, g3, g4⟩, g5, g6, g7, g8⟩ := h.log k a ha
    exact ⟨⟨g1.1, by show _ < ((o.moves + 1 : Nat) : Int); omega⟩, g2, ⟨m, pre_app g3, g4⟩, g5, g6, g7, g8⟩

theorem OS.Inv.begin (h : OS.Inv l n pre o) {mv : Mv} {i : Nat} {se : OSeat} {t : Tk} (hi : mv.th = (i : Int)) (hs : o.seats[i]? = some se) (hta : se.task = none) (hm : ownMake l.length mv = some t) : OS.Inv l n (pre ++ [mv]) (o.begin i mv t) := by
  obtain ⟨m1, m2, m3⟩ := ownMake_some hm
  have hil := (List.getElem?_eq_some_iff.1 hs).1
  have hmv := h.moves
  have hta' : t.addr = mv.arg ∧ t.opn = mv.op ∧ (mv.op = 1 ∨ mv.op = 2) := by
    rcases m3 with ⟨e, rfl⟩ | ⟨e, rfl⟩
    · exact ⟨rfl, e.symm, .inl e⟩
    · exact ⟨rfl, e.symm, .inr e⟩
  have hmo : (o.begin i mv t).moves = o.moves + 1 := rfl
  refine ⟨by rw [hmo, hmv]; simp, h.wlen, by show (o.seats.set _ _).length = n; rw [List.length_set]; exact h.slen, h.words, ?_, ?_, ?_, ?_, h.mono⟩
  · intro j sj tj hj htj
    rcases set_cases hj with ⟨rfl, rfl⟩ | h2
    · cases htj
      refine ⟨o.calls.length, ⟨mv.th, mv.op, mv.arg, mv.data, o.moves, -1, -1, 0, 0⟩, rfl, ?_, hi, rfl, hta'.1.symm, hta'.2.1.symm, by rw [hta'.1]; exact m1, by rw [hta'.1]; exact m2⟩
      show (o.calls ++ [_])[o.calls.length]? = _
      simp
    · obtain ⟨ci, c, q1, q2, q3⟩ := h.seat j sj tj h2 htj
      exact ⟨ci, c, q1, by show (o.calls ++ [_])[ci]? = _; rw [List.getElem?_append_left (List.getElem?_eq_some_iff.1 q2).1]; exact q2, q3⟩
  · intro ci c hc
    have hc' : (o.calls ++ [⟨mv.th, mv.op, mv.arg, mv.data, (o.moves : Int), -1, -1, 0, 0⟩])[ci]? = some c := hc
    by_cases hlt : ci < o.calls.length
    · rw [List.getElem?_append_left hlt] at hc'
      obtain ⟨i', e1, e2, e3, e4, e5, e6, e7, e8, e9⟩ := h.call ci c hc'
      refine ⟨i', e1, e2, e3, e4, e5, e6, by rw [hmo]; omega, pre_app e8, ?_⟩
      rcases e9 with ⟨f1, f2, f3, f4, se', t', f5, f6, f7⟩ | ⟨f1, f2, f3, f4⟩
      · refine .inl ⟨f1, f2, f3, f4, se', t', ?_, f6, f7⟩
        show (o.seats.set i _)[i']? = _
        rw [List.getElem?_set]
        split
        · rename_i e
          subst e
          rw [hs] at f5
          cases f5
          rw [hta] at f6
          cases f6
        · exact f5
      · exact .inr ⟨f1, by rw [hmo]; omega, f3, f4⟩
    · have hcl : ci = o.calls.length := by
        have := (List.getElem?_eq_some_iff.1 hc').1
        simp at this; omega
      subst hcl
      simp at hc'
      subst hc'
      refine ⟨i, hi, by rw [← h.slen]; exact hil, hta'.2.2, m1, m2, Int.natCast_nonneg _, by rw [hmo]; show (o.moves : Int) < _; omega, ?_, .inl ⟨rfl, rfl, rfl, rfl, ⟨some t, (o.calls.length : Int)⟩, t, ?_, rfl, rfl⟩⟩
      · show (pre ++ [mv])[(o.moves : Int).toNat]? = _
        rw [hmv, pre_last]
      · show (o.seats.set i _)[i]? = _
        rw [List.getElem?_set]; simp [hil]
  · intro ci cj c c' hlt hc hc'
    have k1 : (o.calls ++ [⟨mv.th, mv.op, mv.arg, mv.data, (o.moves : Int), -1, -1, 0, 0⟩])[ci]? = some c := hc
    have k2 : (o.calls ++ [⟨mv.th, mv.op, mv.arg, mv.data, (o.moves : Int), -1, -1, 0, 0⟩])[cj]? = some c' := hc'
    have hj := (List.getElem?_eq_some_iff.1 k2).1
    rw [List.length_append, List.length_singleton] at hj
    rw [List.getElem?_append_left (by omega)] at k1
    by_cases hcj : cj < o.calls.length
    · rw [List.getElem?_append_left hcj] at k2
      exact h.begs ci cj c c' hlt k1 k2
    · have : cj = o.calls.length := by omega
      subst this
      simp at k2
      subst k2
      obtain ⟨_, _, _, _, _, _, _, e7, _⟩ := h.call ci c k1
      exact e7
  · intro k a ha
    obtain ⟨g1, g2, ⟨m, g3, g4⟩, g5, g6, g7, ⟨ci, c, g8, g9⟩⟩ := h.log k a ha
    refine ⟨⟨g1.1, by rw [hmo]; omega⟩, g2, ⟨m, pre_app g3, g4⟩, g5, g6, g7, ⟨ci, c, ?_, g9⟩⟩
    show (o.calls ++ [_])[ci]? = _
    rw [List.getElem?_append_left (List.getElem?_eq_some_iff.1 g8).1]; exact g8

/-- what a step makes: an entry, and an end or not -/
structure Stp (o : OS) (i ci : Nat) (se : OSeat) (t : Tk) (c : Cal) (e : Acc) (x : OSeat) (over : Bool) (o' : OS) : Prop where
  moves : o'.moves = o.moves + 1
  words : o'.words = wrA o.words e
  log : o'.log = o.log ++ [e]
  seats : o'.seats = o.seats.set i x
  calls : o'.calls = if over = true then o.calls.modify ci (fun c => { c with en := o.moves, pt := o.moves, ak := 2, av := wrap64 (o.at t.addr) }) else o.calls
  emv : e.mv = o.moves ∧ e.th = (i : Int) ∧ e.ad = t.addr ∧ e.saw = o.at t.addr ∧ ((e.kd = 1 ∧ e.old = 0 ∧ e.nw = 0) ∨ e.kd = 3)
  ends : over = true → x.task = none ∧ o'.words = if c.op = 2 then o.words.set t.addr.toNat (IntKind.u64.wrap (o.at t.addr + 1)) else o.words
  goes : over = false → (∃ t', x.task = some t' ∧ t'.addr = t.addr ∧ t'.opn = t.opn) ∧ o'.words = o.words
  last : x.last = se.last

theorem OS.step_stp (o : OS) (i ci : Nat) (se : OSeat) (t : Tk) (c : Cal) (hl : se.last = (ci : Int)) (hop : c.op = t.opn) : ∃ e x over, Stp o i ci se t c e x over (o.step i se t) := by
  have hci : se.last.toNat = ci := by omega
  cases t with
  | look a =>
    refine ⟨⟨o.moves, i, 1, a, 0, 0, o.at a⟩, ⟨none, se.last⟩, true, ⟨rfl, ?_, rfl, rfl, ?_, ⟨rfl, rfl, rfl, rfl, .inl ⟨rfl, rfl, rfl⟩⟩, fun _ => ⟨rfl, ?_⟩, fun h => (by cases h), rfl⟩⟩
    · simp [OS.step, wrA]
    · simp [OS.step, OS.ends, hci, Tk.addr]
    · have : c.op ≠ 2 := by rw [hop]; exact show (1 : Int) ≠ 2 by decide
      rw [if_neg this]; rfl
  | bump a saw ld =>
    cases ld with
    | false =>
      refine ⟨⟨o.moves, i, 1, a, 0, 0, o.at a⟩, ⟨some (.bump a (o.at a) true), se.last⟩, false, ⟨rfl, ?_, rfl, rfl, rfl, ⟨rfl, rfl, rfl, rfl, .inl ⟨rfl, rfl, rfl⟩⟩, fun h => (by cases h), fun _ => ⟨⟨_, rfl, rfl, rfl⟩, rfl⟩, rfl⟩⟩
      simp [OS.step, wrA]
    | true =>
      by_cases he : o.at a = saw
      · refine ⟨⟨o.moves, i, 3, a, saw, IntKind.u64.wrap (saw + 1), o.at a⟩, ⟨none, se.last⟩, true, ⟨?_, ?_, ?_, ?_, ?_, ⟨rfl, rfl, rfl, rfl, .inr rfl⟩, fun _ => ⟨rfl, ?_⟩, fun h => (by cases h), rfl⟩⟩
        · simp [OS.step, he]
        · simp [OS.step, wrA, he]
        · simp [OS.step, he]
        · simp [OS.step, he]
        · simp [OS.step, OS.ends, hci, Tk.addr, he]
        · have : c.op = 2 := by rw [hop]; rfl
          rw [if_pos this]
          simp [OS.step, he, Tk.addr]
      · refine ⟨⟨o.moves, i, 3, a, saw, IntKind.u64.wrap (saw + 1), o.at a⟩, ⟨some (.bump a saw false), se.last⟩, false, ⟨?_, ?_, ?_, ?_, ?_, ⟨rfl, rfl, rfl, rfl, .inr rfl⟩, fun h => (by cases h), fun _ => ⟨⟨_, rfl, rfl, rfl⟩, ?_⟩, rfl⟩⟩
        · simp [OS.step, he]
        · simp [OS.step, wrA, he]; intro h1; exact absurd h1.symm he
        · simp [OS.step, he]
        · simp [OS.step, he]
        · simp [OS.step, he]
        · simp [OS.step, he]

theorem modify_get {α : Type} {ls : List α} {ci cj : Nat} {f : α → α} {c : α} (h : (ls.modify ci f)[cj]? = some c) : (cj = ci ∧ ∃ d, ls[ci]? = some d ∧ c = f d) ∨ (cj ≠ ci ∧ ls[cj]? = some c) := by
  rw [List.getElem?_modify] at h
  by_cases e : ci = cj
  · subst e
    cases hd : ls[ci]? with
    | none => rw [hd] at h; cases h
    | some d => rw [hd] at h; simp at h; exact .inl ⟨rfl, d, rfl, h.symm⟩
  · simp [e] at h; exact .inr ⟨Ne.symm e, h⟩
theorem modify_at {α : Type} {ls : List α} {ci cj : Nat} {f : α → α} {c : α} (h : ls[cj]? = some c) : (ls.modify ci f)[cj]? = some (if ci = cj then f c else c) := by
  rw [List.getElem?_modify, h]
  by_cases e : ci = cj <;> simp [e]

theorem OS.Inv.stp (h : OS.Inv l n pre o) {mv : Mv} {i ci : Nat} {se : OSeat} {t : Tk} {c : Cal} {e : Acc} {x : OSeat} {over : Bool} {o' : OS} (S : Stp o i ci se t c e x over o')
    (hi : mv.th = (i : Int)) (hop : mv.op = 0) (hs : o.seats[i]? = some se) (_hta : se.task = some t) (hl : se.last = (ci : Int)) (hc : o.calls[ci]? = some c) (hth : c.th = (i : Int)) (hen : c.en = -1) (harg : c.arg = t.addr) (hcop : c.op = t.opn)
    (had : 0 ≤ t.addr ∧ t.addr < (l.length : Int)) : OS.Inv l n (pre ++ [mv]) o' := by
  have hil := (List.getElem?_eq_some_iff.1 hs).1
  have hmv := h.moves
  have hmo := S.moves
  have hcb : 0 ≤ c.beg ∧ c.beg < (o.moves : Int) := by obtain ⟨_, _, _, _, _, _, e6, e7, _⟩ := h.call ci c hc; exact ⟨e6, e7⟩
  obtain ⟨v1, v2, v3, v4, v5⟩ := S.emv
  -- a call of o in o'
  have hcall : ∀ (cj : Nat) (d' : Cal), o'.calls[cj]? = some d' → ∃ d, o.calls[cj]? = some d ∧ d'.th = d.th ∧ d'.op = d.op ∧ d'.arg = d.arg ∧ d'.data = d.data ∧ d'.beg = d.beg ∧ ((d' = d ∧ (over = true → cj ≠ ci)) ∨ (cj = ci ∧ over = true ∧ d'.en = o.moves ∧ d'.pt = o.moves ∧ d'.ak = 2)) := by
    intro cj d' hd'
    rw [S.calls] at hd'
    cases over with
    | false => exact ⟨d', by simpa using hd', rfl, rfl, rfl, rfl, rfl, .inl ⟨rfl, fun h => (by cases h)⟩⟩
    | true =>
      simp only [if_true] at hd'
      rcases modify_get hd' with ⟨rfl, d, hd, rfl⟩ | ⟨hne, hd⟩
      · exact ⟨d, hd, rfl, rfl, rfl, rfl, rfl, .inr ⟨rfl, rfl, rfl, rfl, rfl⟩⟩
      · exact ⟨d', hd, rfl, rfl, rfl, rfl, rfl, .inl ⟨rfl, fun _ => hne⟩⟩
  have hback : ∀ (cj : Nat) (d : Cal), o.calls[cj]? = some d → ∃ d', o'.calls[cj]? = some d' ∧ d'.th = d.th ∧ d'.op = d.op ∧ d'.arg = d.arg ∧ d'.beg = d.beg ∧ (d' = d ∨ (cj = ci ∧ over = true ∧ d'.en = o.moves)) := by
    intro cj d hd
    rw [S.calls]
    cases over with
    | false => exact ⟨d, by simpa using hd, rfl, rfl, rfl, rfl, .inl rfl⟩
    | true =>
      simp only [if_true]
      have := modify_at (ci := ci) (f := fun c => { c with en := o.moves, pt := o.moves, ak := 2, av := wrap64 (o.at t.addr) }) hd
      by_cases e : ci = cj
      · rw [if_pos e] at this
        exact ⟨_, this, rfl, rfl, rfl, rfl, .inr ⟨e.symm, trivial, rfl⟩⟩
      · rw [if_neg e] at this
        exact ⟨_, this, rfl, rfl, rfl, rfl, .inl rfl⟩
  refine ⟨by rw [hmo, hmv]; simp, ?_, by rw [S.seats, List.length_set]; exact h.slen, ?_, ?_, ?_, ?_, ?_, ?_⟩
  · rw [S.words, wrA_len]; exact h.wlen
  · rw [S.words, S.log, List.foldl_append, ← h.words]; rfl
  · intro j sj tj hj htj
    rw [S.seats] at hj
    rcases set_cases hj with ⟨rfl, rfl⟩ | h2
    · cases over with
      | true => rw [(S.ends rfl).1] at htj; cases htj
      | false =>
        obtain ⟨⟨t', q1, q2, q3⟩, _⟩ := S.goes rfl
        rw [q1] at htj
        cases htj
        refine ⟨ci, c, S.last.trans hl, ?_, hth, hen, by rw [q2]; exact harg, by rw [q3]; exact hcop, by rw [q2]; exact had.1, by rw [q2]; exact had.2⟩
        rw [S.calls]; simpa using hc
    · by_cases hji : j = i
      · subst hji
        rw [List.getElem?_set] at hj
        simp [hil] at hj
        subst hj
        cases over with
        | true => rw [(S.ends rfl).1] at htj; cases htj
        | false =>
          obtain ⟨⟨t', q1, q2, q3⟩, _⟩ := S.goes rfl
          rw [q1] at htj
          cases htj
          refine ⟨ci, c, S.last.trans hl, ?_, hth, hen, by rw [q2]; exact harg, by rw [q3]; exact hcop, by rw [q2]; exact had.1, by rw [q2]; exact had.2⟩
          rw [S.calls]; simpa using hc
      · obtain ⟨cj, d, q1, q2, q3, q4, q5, q6, q7⟩ := h.seat j sj tj h2 htj
        obtain ⟨d', p1, p2, p3, p4, p5, p6⟩ := hback cj d q2
        have hne : d' = d := by
          rcases p6 with p6 | ⟨rfl, _⟩
          · exact p6
          · rw [hc] at q2
            cases q2
            rw [hth] at q3
            omega
        subst hne
        exact ⟨cj, d', q1, p1, q3, q4, q5, q6, q7⟩
  · intro cj d' hd'
    obtain ⟨d, hd, t1, t2, t3, t4, t5, t6⟩ := hcall cj d' hd'
    obtain ⟨i', e1, e2, e3, e4, e5, e6, e7, e8, e9⟩ := h.call cj d hd
    refine ⟨i', t1.trans e1, e2, by rw [t2]; exact e3, by rw [t3]; exact e4, by rw [t3]; exact e5, by rw [t5]; exact e6, by rw [t5, hmo]; omega, by rw [t5, t1, t2, t3, t4]; exact pre_app e8, ?_⟩
    rcases t6 with ⟨rfl, t7⟩ | ⟨rfl, hov, t7, t8, t9⟩
    · rcases e9 with ⟨f1, f2, f3, f4, se', t', f5, f6, f7⟩ | ⟨f1, f2, f3, f4⟩
      · refine .inl ⟨f1, f2, f3, f4, ?_⟩
        rw [S.seats]
        by_cases hii : i = i'
        · subst hii
          rw [hs] at f5
          cases f5
          rw [hl] at f7
          have hcc : cj = ci := by omega
          cases over with
          | true => exact absurd hcc (t7 rfl)
          | false =>
            obtain ⟨⟨t', q1, _⟩, _⟩ := S.goes rfl
            exact ⟨x, t', by rw [List.getElem?_set]; simp [hil], q1, by rw [S.last, hl, hcc]⟩
        · exact ⟨se', t', by rw [List.getElem?_set]; simp [hii]; exact f5, f6, f7⟩
      · exact .inr ⟨f1, by rw [hmo]; omega, f3, f4⟩
    · exact .inr ⟨by rw [t5, t7]; exact e7, by rw [t7, hmo]; omega, by rw [t8, t7], t9⟩
  · intro c1 c2 d1 d2 hlt h1 h2
    obtain ⟨a1, g1, _, _, _, _, q1, _⟩ := hcall c1 d1 h1
    obtain ⟨a2, g2, _, _, _, _, q2, _⟩ := hcall c2 d2 h2
    rw [q1, q2]
    exact h.begs c1 c2 a1 a2 hlt g1 g2
  · intro k a ha
    rw [S.log] at ha
    by_cases hk : k < o.log.length
    · rw [List.getElem?_append_left hk] at ha
      obtain ⟨g1, g2, ⟨m, g3, g4⟩, g5, g6, g7, ⟨cj, d, g8, g9, g10, g11⟩⟩ := h.log k a ha
      obtain ⟨d', p1, p2, p3, p4, p5, p6⟩ := hback cj d g8
      refine ⟨⟨g1.1, by rw [hmo]; omega⟩, g2, ⟨m, pre_app g3, g4⟩, g5, g6, ?_, ⟨cj, d', p1, by rw [p2]; exact g9, by rw [p5]; exact g10, ?_⟩⟩
      · rw [S.log, List.take_append_of_le_length (by omega)]; exact g7
      · rcases p6 with rfl | ⟨_, _, p7⟩
        · exact g11
        · exact .inr (by rw [p7]; omega)
    · have hkl : k = o.log.length := by
        have := (List.getElem?_eq_some_iff.1 ha).1
        simp at this; omega
      subst hkl
      simp at ha
      subst ha
      obtain ⟨d', p1, p2, p3, p4, p5, p6⟩ := hback ci c hc
      refine ⟨⟨by rw [v1]; omega, by rw [v1, hmo]; omega⟩, ⟨by rw [v2]; omega, by rw [v2, ← h.slen]; omega⟩, ⟨mv, by rw [v1, hmv]; exact pre_last, by rw [v2]; exact hi, hop⟩, by rw [v3]; exact had, v5, ?_, ⟨ci, d', p1, by rw [p2, v2]; exact hth, by rw [p5, v1]; exact hcb.2, ?_⟩⟩
      · rw [S.log, List.take_left' rfl, ← h.words, v3, v4]; rfl
      · rcases p6 with rfl | ⟨_, _, p7⟩
        · exact .inl (by rw [hen]; decide)
        · exact .inr (by rw [p7, v1]; exact Int.le_refl _)
  · intro k k' a a' hlt h1 h2
    rw [S.log] at h1 h2
    have hk' := (List.getElem?_eq_some_iff.1 h2).1
    rw [List.length_append, List.length_singleton] at hk'
    rw [List.getElem?_append_left (by omega)] at h1
    by_cases hk : k' < o.log.length
    · rw [List.getElem?_append_left hk] at h2
      exact h.mono k k' a a' hlt h1 h2
    · have : k' = o.log.length := by omega
      subst this
      simp at h2
      subst h2
      rw [v1]
      exact (h.log k a h1).mv.2

/-- a move, one of three ways -/
theorem OS.Inv.way (h : OS.Inv l n pre o) (hlt : pre.length < 65536) (mv : Mv) :
    ((o.move l.length mv) = (o.skip, false)) ∨
    (∃ (i ci : Nat) (se : OSeat) (t : Tk) (c : Cal) (e : Acc) (x : OSeat) (over : Bool), (o.move l.length mv) = (o.step i se t, true) ∧ Stp o i ci se t c e x over (o.step i se t) ∧ mv.th = (i : Int) ∧ mv.op = 0 ∧ o.seats[i]? = some se ∧ se.task = some t ∧ se.last = (ci : Int) ∧ o.calls[ci]? = some c ∧ c.th = (i : Int) ∧ c.en = -1 ∧ c.arg = t.addr ∧ c.op = t.opn ∧ 0 ≤ t.addr ∧ t.addr < (l.length : Int)) ∨
    (∃ (i : Nat) (se : OSeat) (t : Tk), (o.move l.length mv) = (o.begin i mv t, true) ∧ mv.th = (i : Int) ∧ o.seats[i]? = some se ∧ se.task = none ∧ mv.op ≠ 0 ∧ ownMake l.length mv = some t) := by
  have hm := h.moves
  rcases o.move_cases l.length mv with ⟨h0, _⟩ | ⟨_, e⟩ | ⟨_, i, se, t, hi, hs, hta, hop, e⟩ | ⟨_, i, se, t, hi, hs, hta, hop, hmk, e⟩
  · omega
  · exact .inl e
  · obtain ⟨ci, c, q1, q2, q3, q4, q5, q6, q7, q8⟩ := h.seat i se t hs hta
    obtain ⟨ae, x, over, S⟩ := OS.step_stp o i ci se t c q1 q6
    exact .inr (.inl ⟨i, ci, se, t, c, ae, x, over, e, S, hi, hop, hs, hta, q1, q2, q3, q4, q5, q6, q7, q8⟩)
  · exact .inr (.inr ⟨i, se, t, e, hi, hs, hta, hop, hmk⟩)
theorem OS.Inv.move (h : OS.Inv l n pre o) (hlt : pre.length < 65536) (mv : Mv) : OS.Inv l n (pre ++ [mv]) (o.move l.length mv).1 := by
  rcases h.way hlt mv with e | ⟨i, ci, se, t, c, ae, x, over, e, S, hi, hop, hs, hta, q1, q2, q3, q4, q5, q6, q7, q8⟩ | ⟨i, se, t, e, hi, hs, hta, hop, hmk⟩
  · rw [e]; exact h.skip mv
  · rw [e]; exact h.stp S hi hop hs hta q1 q2 q3 q4 q5 q6 ⟨q7, q8⟩
  · rw [e]; exact h.begin hi hs hta hmk
end

theorem osOf_snoc (l : List Int) (n : Nat) (pre : List Mv) (mv : Mv) : osOf l n (pre ++ [mv]) = ((osOf l n pre).move l.length mv).1 := OS.goes_snoc ..
theorem inv_of (l : List Int) (n : Nat) (ms : List Mv) (hm : ms.length ≤ 65536) : OS.Inv l n ms (osOf l n ms) := by
  have : ∀ k, k ≤ ms.length → OS.Inv l n (ms.take k) (osOf l n (ms.take k)) := by
    intro k
    induction k with
    | zero => intro _; rw [List.take_zero]; exact OS.Inv.init l n
    | succ k ih =>
      intro hk
      rw [take_next ms k (by omega), osOf_snoc]
      exact (ih (by omega)).move (by simp; omega) _
  have h := this ms.length (Nat.le_refl _)
  rwa [List.take_length] at h
theorem os_few (size : Int) (o : OS) (mv : Mv) (h : o.calls.length ≤ o.moves ∧ o.log.length ≤ o.moves) : (o.move size mv).1.calls.length ≤ (o.move size mv).1.moves ∧ (o.move size mv).1.log.length ≤ (o.move size mv).1.moves := by
  rcases o.move_cases size mv with ⟨_, e⟩ | ⟨_, e⟩ | ⟨_, i, se, t, _, _, _, _, e⟩ | ⟨_, i, se, t, _, _, _, _, _, e⟩
  · rw [e]; exact h
  · rw [e]; exact ⟨Nat.le_succ_of_le h.1, Nat.le_succ_of_le h.2⟩
  · rw [e]
    unfold OS.step
    split
    · simp [OS.ends]; omega
    · simp; omega
    · split
      · simp [OS.ends]; omega
      · simp; omega
  · rw [e]
    simp [OS.begin]; omega
theorem os_fews (size : Int) (ms : List Mv) : ∀ o : OS, (o.calls.length ≤ o.moves ∧ o.log.length ≤ o.moves) → (o.goes size ms).calls.length ≤ (o.goes size ms).moves ∧ (o.goes size ms).log.length ≤ (o.goes size ms).moves := by
  induction ms with
  | nil => intro o h; exact h
  | cons m ms ih => intro o h; exact ih _ (os_few size o m h)
theorem calls_le (l : List Int) (n : Nat) (ms : List Mv) (hm : ms.length ≤ 65536) : (osOf l n ms).calls.length ≤ 65536 := by
  have h := (os_fews l.length ms (OS.init l n) ⟨Nat.le_refl _, Nat.le_refl _⟩).1
  have := (inv_of l n ms hm).moves
  unfold osOf at this ⊢
  omega
theorem log_le (l : List Int) (n : Nat) (ms : List Mv) (hm : ms.length ≤ 65536) : (osOf l n ms).log.length ≤ 65536 := by
  have h := (os_fews l.length ms (OS.init l n) ⟨Nat.le_refl _, Nat.le_refl _⟩).2
  have := (inv_of l n ms hm).moves
  unfold osOf at this ⊢
  omega
end Go
namespace Go.Proofs.Ytbhbpfpggfcpgaa
open Go.ChangeShapes Go.WideShapes Go.ChangeAt Go.RowKit Go.Shelf

/-- the script's box and the run's box, and what they hold; W is what all that follows keeps -/
structure LawW (w W : World) (Bs Br : Nat) (n : Nat) (l : List Int) (ms : List Mv) (ox : Option Addr) (cx : Nat) (om : Option Addr) (cm : Nat) (x : RunVs) (r : RunS) : Prop where
  scr : W.heap[Bs]? = some (.cells #[.int .i64 (n : Int), .slice ox l.length cx, .slice om ms.length cm] 45 (0, 0))
  rbx : W.heap[Br]? = some (.cells #[x.va, x.vt, x.vb, x.vc] 41 (0, 0))
  run : RunAt W w.heap.size x r
  src : W.Src 1 (.slice ox l.length cx) l.length (u64s l)
  mvs : MvsIn W (.slice om ms.length cm) ms
  be : Below w.heap.size w W

theorem _root_.Go.World.heap_more_ge (w : World) (os : Array Obj) (d k : Nat) (h : w.heap.size ≤ k) : (w.more os d).heap[k]? = os[k - w.heap.size]? := by
  unfold World.more
  exact Array.getElem?_append_right h

theorem LawW.of {w : World} {n : Nat} {l : List Int} {ms : List Mv} {ox : Option Addr} {cx : Nat} {om : Option Addr} {cm : Nat} {x : RunVs} {r : RunS} {S0 : Obj} {os : Array Obj} {d : Nat}
    (hr : RunAt ((w.alloc S0).more os d) (w.alloc S0).heap.size x r) (hs : w.Src 1 (.slice ox l.length cx) l.length (u64s l)) (hm : MvsIn w (.slice om ms.length cm) ms) :
    LawW w (((w.alloc (.cells #[.int .i64 (n : Int), .slice ox l.length cx, .slice om ms.length cm] 45)).more os d).alloc (.cells #[x.va, x.vt, x.vb, x.vc] 41)) w.heap.size (w.heap.size + 1 + os.size) n l ms ox cx om cm x r := by
  have hb : Below w.heap.size w (((w.alloc (.cells #[.int .i64 (n : Int), .slice ox l.length cx, .slice om ms.length cm] 45)).more os d).alloc (.cells #[x.va, x.vt, x.vb, x.vc] 41)) := (by repeat (first | exact Below.refl _ _ | apply Below.drew | apply Below.more1 | apply Below.alloc1))
  refine ⟨?_, ?_, ?_, hs.below hb, hm.of_block hb.block hb.size, hb⟩
  · rw [Below.heap_alloc _ _ _ (by simp [World.size_more]; omega), World.heap_more _ _ _ _ (by simp)]
    exact heap_alloc_new w _
  · exact heap_alloc_at (by simp [World.size_more])
  · refine (hr.of_block fun k hk => ?_).base_mono (by simp)
    have := hr.lt k hk
    simp only [World.size_alloc] at this
    rw [Below.heap_alloc _ _ _ (by simp [World.size_more] at this ⊢; omega)]
    rw [World.heap_more_ge _ _ _ _ (by simp; omega), World.heap_more_ge _ _ _ _ (by simp; omega)]
    simp

section
variable {w W : World} {Bs Br n : Nat} {l : List Int} {ms : List Mv} {ox : Option Addr} {cx : Nat} {om : Option Addr} {cm : Nat} {x : RunVs} {r : RunS}
theorem LawW.scells (h : LawW w W Bs Br n l ms ox cx om cm x r) : W.cell? ⟨Bs, 0, none⟩ = some (.int .i64 (n : Int)) ∧ W.cell? ⟨Bs, 1, none⟩ = some (.slice ox l.length cx) ∧ W.cell? ⟨Bs, 2, none⟩ = some (.slice om ms.length cm) ∧ Bs < W.heap.size :=
  ⟨by simp [World.cell?, h.scr], by simp [World.cell?, h.scr], by simp [World.cell?, h.scr], (Array.getElem?_eq_some_iff.1 h.scr).1⟩
theorem LawW.rcells (h : LawW w W Bs Br n l ms ox cx om cm x r) : W.cell? ⟨Br, 0, none⟩ = some x.va ∧ W.cell? ⟨Br, 1, none⟩ = some x.vt ∧ W.cell? ⟨Br, 2, none⟩ = some x.vb ∧ W.cell? ⟨Br, 3, none⟩ = some x.vc ∧ Br < W.heap.size :=
  ⟨by simp [World.cell?, h.rbx], by simp [World.cell?, h.rbx], by simp [World.cell?, h.rbx], by simp [World.cell?, h.rbx], (Array.getElem?_eq_some_iff.1 h.rbx).1⟩
end

theorem accs_get' (l : List Acc) (i j : Nat) (hi : i < l.length) (hj : j < 7) : (accs l)[i * 7 + j]? = l[i].cells[j]? := flat_get (f := Acc.cells) (k := 7) (fun _ => rfl) l i j hi hj

set_option maxRecDepth 100000 in
set_option maxHeartbeats 2000000 in
theorem incall_ok {w : World} {va : Value} {base : Nat} {cs : List Cal} (hs : w.RowV base 63 9 va cs.length (cals cs)) (hn : cs.length ≤ 1000000) (th mv : Int) (hin : inCall cs th mv) :
    Calls Try.prog 28 #[va, .int .i64 th, .int .i64 mv] w fun e w' => e = .returned (.bool true) ∧ Below w.heap.size w w' := by
  obtain ⟨ci, c, hc, q1, q2, q3⟩ := hin
  have hlt := (List.getElem?_eq_some_iff.1 hc).1
  obtain ⟨g, cap, rfl, f1, f2, f3, f4, f5, f6⟩ := hs.some_form (by omega)
  have HS := Lib.hid f6
  have HC := Lib.hid hc
  have HQ := Lib.hid (And.intro q1 (And.intro q2 q3))
  clear hs f4 f6 hc q1 q2 q3
  go_enter Try.func28, Try.ntmps28
  go_wp2
  go_loopg [11] ci (fun gh sl wr => ∃ k : Nat, k ≤ ci ∧ ci ≤ k + gh ∧ sl = .int .i64 (k : Int) ∧ ∃ os d, wr = w.more os d)
  case atStart => exact ⟨0, by omega, by omega, by go_num, RowKit.Below.more (Below.refl _ _)⟩
  case round =>
    obtain ⟨k, hk1, hk2, rfl, os, d, rfl⟩ := hrel
    have hkl : k < cs.length := by omega
    have c0 := HS.out (k * 9 + 0) _ (cals_get cs k 0 hkl (by omega))
    have c1 := HS.out (k * 9 + 1) _ (cals_get cs k 1 hkl (by omega))
    have c2 := HS.out (k * 9 + 2) _ (cals_get cs k 2 hkl (by omega))
    have c3 := HS.out (k * 9 + 3) _ (cals_get cs k 3 hkl (by omega))
    have c4 := HS.out (k * 9 + 4) _ (cals_get cs k 4 hkl (by omega))
    have c5 := HS.out (k * 9 + 5) _ (cals_get cs k 5 hkl (by omega))
    have c6 := HS.out (k * 9 + 6) _ (cals_get cs k 6 hkl (by omega))
    have c7 := HS.out (k * 9 + 7) _ (cals_get cs k 7 hkl (by omega))
    have c8 := HS.out (k * 9 + 8) _ (cals_get cs k 8 hkl (by omega))
    have HK := Lib.hid (show k = ci → cs[k] = c from fun e => by subst e; have := HC.out; rw [List.getElem?_eq_getElem hkl] at this; exact Option.some.inj this)
    generalize cs[k] = ck at *
    simp only [Nat.add_zero] at c0
    have hb : ((ck.th == th) = false ∧ Hid (k ≠ ci)) ∨ ((ck.th == th) = true ∧ decide (ck.beg < mv) = false ∧ Hid (k ≠ ci)) ∨ ((ck.th == th) = true ∧ decide (ck.beg < mv) = true ∧ decide (ck.en < 0) = true) ∨
        ((ck.th == th) = true ∧ decide (ck.beg < mv) = true ∧ decide (ck.en < 0) = false ∧ decide (mv ≤ ck.en) = true) ∨ ((ck.th == th) = true ∧ decide (ck.beg < mv) = true ∧ decide (ck.en < 0) = false ∧ decide (mv ≤ ck.en) = false ∧ Hid (k ≠ ci)) := by
      obtain ⟨q1, q2, q3⟩ := HQ.out
      by_cases a1 : ck.th = th
      · by_cases a2 : ck.beg < mv
        · by_cases a3 : ck.en < 0
          · exact .inr (.inr (.inl ⟨by simpa using a1, by simpa using a2, by simpa using a3⟩))
          · by_cases a4 : mv ≤ ck.en
            · exact .inr (.inr (.inr (.inl ⟨by simpa using a1, by simpa using a2, by simpa using a3, by simpa using a4⟩)))
            · exact .inr (.inr (.inr (.inr ⟨by simpa using a1, by simpa using a2, by simpa using a3, by simpa using a4, Lib.hid (fun e => by have := HK.out e; subst this; omega)⟩)))
        · exact .inr (.inl ⟨by simpa using a1, by simpa using a2, Lib.hid (fun e => by have := HK.out e; subst this; exact a2 q2)⟩)
      · exact .inl ⟨by simpa using a1, Lib.hid (fun e => by have := HK.out e; subst this; exact a1 q1)⟩
    rcases hb with ⟨b1, b2⟩ | ⟨b1, b2, b3⟩ | ⟨b1, b2, b3⟩ | ⟨b1, b2, b3, b4⟩ | ⟨b1, b2, b3, b4, b5⟩
    · have hne := b2.out
      go_wp2
      go_roundg (ci - (k + 1))
      case measure => omega
      case rel => exact ⟨k + 1, by omega, by omega, by go_num, RowKit.Below.more (by repeat (first | exact Below.refl _ _ | apply Below.drew | apply Below.more1 | apply Below.alloc1))⟩
    · have hne := b3.out
      go_wp2
      go_roundg (ci - (k + 1))
      case measure => omega
      case rel => exact ⟨k + 1, by omega, by omega, by go_num, RowKit.Below.more (by repeat (first | exact Below.refl _ _ | apply Below.drew | apply Below.more1 | apply Below.alloc1))⟩
    · go_wp2
      go_ret
      exact ⟨rfl, (by repeat (first | exact Below.refl _ _ | apply Below.drew | apply Below.more1 | apply Below.alloc1))⟩
    · go_wp2
      go_ret
      exact ⟨rfl, (by repeat (first | exact Below.refl _ _ | apply Below.drew | apply Below.more1 | apply Below.alloc1))⟩
    · have hne := b5.out
      go_wp2
      go_roundg (ci - (k + 1))
      case measure => omega
      case rel => exact ⟨k + 1, by omega, by omega, by go_num, RowKit.Below.more (by repeat (first | exact Below.refl _ _ | apply Below.drew | apply Below.more1 | apply Below.alloc1))⟩
end Go.Proofs.Ytbhbpfpggfcpgaa
namespace Go
open Go.RowKit
open Go.Proofs.Ytbhbpfpggfcpgaa

def mvsC (l : List Mv) : List Value := l.flatMap Mv.cells
theorem mvsC_len (l : List Mv) : (mvsC l).length = l.length * 4 := by
  induction l with
  | nil => rfl
  | cons m l ih => simp only [mvsC, List.flatMap_cons, List.length_append, List.length_cons] at ih ⊢; rw [ih]; simp [Mv.cells]; omega
theorem mvsC_get (l : List Mv) (i j : Nat) (hi : i < l.length) (hj : j < 4) : (mvsC l)[i * 4 + j]? = l[i].cells[j]? := flat_get (f := Mv.cells) (k := 4) (fun _ => rfl) l i j hi hj
theorem mvsC_app (a b : List Mv) : mvsC (a ++ b) = mvsC a ++ mvsC b := by simp [mvsC]
theorem mvsC_one (l : List Mv) : ∀ u ∈ mvsC l, u.oneCell' = true := by
  intro u hu
  simp only [mvsC, List.mem_flatMap, Mv.cells] at hu
  obtain ⟨x, _, hx⟩ := hu
  simp at hx
  rcases hx with rfl | rfl | rfl | rfl <;> rfl
theorem addr_add (b off j : Nat) : (⟨b, off, none⟩ : Addr).add j = ⟨b, off + j, none⟩ := by unfold Addr.add; split <;> simp_all
end Go
namespace Go.Proofs.Ytbhbpfpggfcpgaa
open Go.ChangeShapes Go.WideShapes Go.ChangeAt Go.RowKit Go.Shelf
theorem infoMove : (Try.prog.info? 34).map (fun i => (i.zero, i.size, i.bytes)) = some (some (.agg #[.int .i64 0, .int .i64 0, .int .i64 0, .int .i64 0]), 4, 32) := by kernel_rfl
theorem MvsIn.src {w : World} {om : Option Addr} {cm : Nat} {ms : List Mv} (h : MvsIn w (.slice om ms.length cm) ms) (hn : om = none → cm = 0) : w.Src 4 (.slice om ms.length cm) ms.length (mvsC ms) := by
  obtain ⟨o, c, e, h1, h2, h3⟩ := h
  cases e
  refine ⟨mvsC_len ms, ?_⟩
  cases om with
  | none =>
    have := hn rfl
    subst this
    have h0 : ms.length = 0 := by omega
    exact .inl ⟨by rw [h0], h0⟩
  | some ad =>
    refine .inr ⟨ad, cm, rfl, h1, fun j u hu => ?_⟩
    have hj := (List.getElem?_eq_some_iff.1 hu).1
    rw [mvsC_len] at hj
    have hi : j / 4 < ms.length := by omega
    obtain ⟨b, off, e1, hb, c0, c1, c2, c3⟩ := h3 (j / 4) hi
    cases e1
    have hjj : j = j / 4 * 4 + j % 4 := by omega
    have hr : j % 4 < 4 := Nat.mod_lt _ (by omega)
    rw [addr_add]
    rw [hjj, mvsC_get ms _ _ hi hr] at hu
    rw [hjj]
    generalize j % 4 = r at *
    generalize hq : j / 4 = q at *
    rw [← Nat.add_assoc]
    rcases (by omega : r = 0 ∨ r = 1 ∨ r = 2 ∨ r = 3) with rfl | rfl | rfl | rfl
    · cases hu; exact c0
    · cases hu; exact c1
    · cases hu; exact c2
    · cases hu; exact c3
theorem MvsIn.of_row {w : World} {base : Nat} {v : Value} {ms : List Mv} (h : w.RowV base 34 4 v ms.length (mvsC ms)) : MvsIn w v ms := by
  obtain ⟨o, c, rfl, h1, h2⟩ := h.form
  refine ⟨o, c, rfl, h1, h2, fun i hi => ?_⟩
  obtain ⟨g, cap, e, f1, f2, f3, f4, f5, f6⟩ := h.some_form (by omega)
  simp only [Value.slice.injEq] at e
  obtain ⟨rfl, _, rfl⟩ := e
  refine ⟨g, 0, rfl, f3, ?_, ?_, ?_, ?_⟩
  · rw [Nat.zero_add]; exact f6 (i * 4 + 0) _ (mvsC_get ms i 0 hi (by omega))
  · rw [Nat.zero_add]; exact f6 (i * 4 + 1) _ (mvsC_get ms i 1 hi (by omega))
  · rw [Nat.zero_add]; exact f6 (i * 4 + 2) _ (mvsC_get ms i 2 hi (by omega))
  · rw [Nat.zero_add]; exact f6 (i * 4 + 3) _ (mvsC_get ms i 3 hi (by omega))
end Go.Proofs.Ytbhbpfpggfcpgaa
namespace Go
open Go.RowKit
open Go.Proofs.Ytbhbpfpggfcpgaa

/-! lists of cells, k for each entry of these -/
theorem flat_len' {α β : Type} {f : α → List β} {k : Nat} : ∀ (l : List α), (∀ x ∈ l, (f x).length = k) → (l.flatMap f).length = l.length * k := by
  intro l
  induction l with
  | nil => intro _; simp
  | cons x l ih => intro hk; rw [List.flatMap_cons, List.length_append, hk x (by simp), ih (fun y hy => hk y (by simp [hy])), List.length_cons, Nat.add_mul]; omega
theorem flat_get' {α β : Type} {f : α → List β} {k : Nat} : ∀ (l : List α), (∀ x ∈ l, (f x).length = k) → ∀ (i j : Nat) (hi : i < l.length), j < k → (l.flatMap f)[i * k + j]? = (f l[i])[j]? := by
  intro l
  induction l with
  | nil => intro _ i j hi; simp at hi
  | cons x l ih =>
    intro hk i j hi hj
    have hx := hk x (by simp)
    rw [List.flatMap_cons]
    cases i with
    | zero => rw [List.getElem?_append_left (by rw [hx]; omega)]; simp
    | succ i =>
      rw [List.getElem?_append_right (by rw [hx, Nat.add_mul]; omega), hx, show (i + 1) * k + j - k = i * k + j by rw [Nat.add_mul]; omega, ih (fun y hy => hk y (by simp [hy])) i j (by simpa using hi) hj]
      simp
theorem flat_set' {α β : Type} {f : α → List β} {k : Nat} (y : α) (u : β) : ∀ (l : List α), (∀ x ∈ l, (f x).length = k) → ∀ (i j : Nat) (hi : i < l.length), j < k → f y = (f l[i]).set j u → (l.flatMap f).set (i * k + j) u = (l.set i y).flatMap f := by
  intro l
  induction l with
  | nil => intro _ i j hi; simp at hi
  | cons x l ih =>
    intro hk i j hi hj hy
    have hx := hk x (by simp)
    rw [List.flatMap_cons]
    cases i with
    | zero =>
      rw [List.set_append_left _ _ (by rw [hx]; omega)]
      simp only [List.getElem_cons_zero, Nat.zero_mul, Nat.zero_add, List.set_cons_zero, List.flatMap_cons] at hy ⊢
      rw [hy]
    | succ i =>
      rw [List.set_append_right _ _ (by rw [hx, Nat.add_mul]; omega), hx, show (i + 1) * k + j - k = i * k + j by rw [Nat.add_mul]; omega, ih (fun y hy => hk y (by simp [hy])) i j (by simpa using hi) hj (by simpa using hy)]
      simp

structure Ins where
  kd : Int
  a : Int
  b : Int
  c : Int
  d : Int
  tgt : Int
deriving DecidableEq, Inhabited
def Ins.cells (i : Ins) : List Value := [.int .i64 i.kd, .int .i64 i.a, .int .i64 i.b, .int .i64 i.c, .int .i64 i.d, .int .i64 i.tgt]
def Ins.v (i : Ins) : Value := .agg #[.int .i64 i.kd, .int .i64 i.a, .int .i64 i.b, .int .i64 i.c, .int .i64 i.d, .int .i64 i.tgt]
structure Ent where
  op : Int
  lb : Int
  nd : Int
deriving DecidableEq, Inhabited
def Ent.cells (i : Ent) : List Value := [.int .i64 i.op, .int .i64 i.lb, .int .i64 i.nd]

/-- a thread -/
structure RT where
  busy : Bool
  call : Int
  pos : Int
  r : List Int
  vback : Value
  vcache : Value
  rc : Int
  vnames : Value
  vpend : Value
  kept : List Int
  vbag : Value
  vsince : Value
def RT.cells (t : RT) : List Value := .bool t.busy :: .int .i64 t.call :: .int .i64 t.pos :: (u64s t.r ++ (t.vback :: t.vcache :: .int .i64 t.rc :: t.vnames :: t.vpend :: (u64s t.kept ++ [t.vbag, t.vsince])))
def RT.ok (t : RT) : Prop := t.r.length = 48 ∧ t.kept.length = 600
theorem RT.len {t : RT} (h : t.ok) : t.cells.length = 658 := by simp [RT.cells, u64s, h.1, h.2]
theorem RT.c0 (t : RT) : t.cells[0]? = some (.bool t.busy) := rfl
theorem RT.c1 (t : RT) : t.cells[1]? = some (.int .i64 t.call) := rfl
theorem RT.c2 (t : RT) : t.cells[2]? = some (.int .i64 t.pos) := rfl
theorem RT.cr {t : RT} (h : t.ok) (i : Nat) (hi : i < 48) : t.cells[3 + i]? = some (.int .u64 (t.r.getD i 0)) := by
  have hl : i < t.r.length := by rw [h.1]; exact hi
  unfold RT.cells
  rw [show 3 + i = i + 1 + 1 + 1 by omega]
  simp only [List.getElem?_cons_succ]
  rw [List.getElem?_append_left (by simp [u64s]; exact hl)]
  simp [u64s, hl]
theorem RT.set0 (t : RT) (b : Bool) : { t with busy := b }.cells = t.cells.set 0 (.bool b) := rfl
theorem RT.set1 (t : RT) (x : Int) : { t with call := x }.cells = t.cells.set 1 (.int .i64 x) := rfl
theorem RT.set2 (t : RT) (x : Int) : { t with pos := x }.cells = t.cells.set 2 (.int .i64 x) := rfl
theorem RT.setr {t : RT} (h : t.ok) (i : Nat) (hi : i < 48) (x : Int) : { t with r := t.r.set i x }.cells = t.cells.set (3 + i) (.int .u64 x) := by
  have hl : i < t.r.length := by rw [h.1]; exact hi
  unfold RT.cells
  rw [show 3 + i = i + 1 + 1 + 1 by omega]
  simp only [List.set_cons_succ]
  rw [List.set_append_left _ _ (by simp [u64s]; exact hl)]
  simp [u64s, List.map_set]
theorem RT.setback {t : RT} (h : t.ok) (x : Value) : { t with vback := x }.cells = t.cells.set 51 x := by
  unfold RT.cells
  rw [show 51 = 48 + 1 + 1 + 1 by omega]
  simp only [List.set_cons_succ]
  rw [List.set_append_right _ _ (by simp [u64s, h.1])]
  simp [u64s, h.1]
def rts (l : List RT) : List Value := l.flatMap RT.cells

structure RM where
  c0 : Int
  c1 : Int
  c2 : Int
  c3 : Int
  c4 : Int
  c5 : Int
  c6 : Int
  words : List Int
  code : List Ins
  labels : List Int
  ents : List Ent
  T : List RT
  states : List Int
  holders : List Int
  lists : List Value
  moves : Int
  calls : List Cal
  trace : List Acc
  shifts : List Shf
def ints (l : List Int) : List Value := l.map (Value.int .i64)
/-- the rows: words, code, labels, entries, threads, states, holders, lists, calls, trace, shifts -/
def RM.xs (m : RM) : Nat → List Value
  | 0 => u64s m.words
  | 1 => m.code.flatMap Ins.cells
  | 2 => ints m.labels
  | 3 => m.ents.flatMap Ent.cells
  | 4 => rts m.T
  | 5 => ints m.states
  | 6 => ints m.holders
  | 7 => m.lists
  | 8 => cals m.calls
  | 9 => accs m.trace
  | _ => shfs m.shifts
def RM.len (m : RM) : Nat → Nat
  | 0 => m.words.length
  | 1 => m.code.length
  | 2 => m.labels.length
  | 3 => m.ents.length
  | 4 => m.T.length
  | 5 => m.states.length
  | 6 => m.holders.length
  | 7 => m.lists.length
  | 8 => m.calls.length
  | 9 => m.trace.length
  | _ => m.shifts.length
def rmTy : Nat → TypeId
  | 0 => 27
  | 1 => 143
  | 2 => 3
  | 3 => 145
  | 4 => 149
  | 5 => 107
  | 6 => 3
  | 7 => 70
  | 8 => 63
  | 9 => 66
  | _ => 132
def rmSz : Nat → Nat
  | 1 => 6
  | 3 => 3
  | 4 => 658
  | 8 => 9
  | 9 => 7
  | 10 => 5
  | _ => 1
structure RMV where
  row : Nat → Value
  col : Nat → Nat
def RM.blk (m : RM) (r : Nat → Value) : Array Value :=
  #[.int .i64 m.c0, .int .i64 m.c1, .int .i64 m.c2, .int .i64 m.c3, .int .i64 m.c4, .int .i64 m.c5, .int .i64 m.c6, r 0, r 1, r 2, r 3, r 4, r 5, r 6, r 7,
    .int .u64 0, .int .u64 0, .int .u64 0, .int .u64 0, .int .u64 0, .int .u64 0, .int .u64 0, .int .u64 0, .int .i64 m.moves, r 8, r 9, r 10]
def RMV.own (v : RMV) (mb k : Nat) : Prop := k = mb ∨ ∃ i, i < 11 ∧ (v.row i).rowBlock = some k

structure RMAt (w : World) (base mb : Nat) (m : RM) (v : RMV) : Prop where
  blk : w.heap[mb]? = some (.cells (m.blk v.row) 88 (0, 0))
  ge : base ≤ mb
  rows : ∀ i, i < 11 → w.RowV base (rmTy i) (rmSz i) (v.row i) (m.len i) (m.xs i)
  cm : v.col mb = 0
  cr : ∀ i, i < 11 → ∀ k, (v.row i).rowBlock = some k → v.col k = i + 1
  tok : ∀ t ∈ m.T, t.ok

section
variable {w w' : World} {base mb : Nat} {m m' : RM} {v : RMV}
theorem RMAt.lt (h : RMAt w base mb m v) : ∀ k, v.own mb k → base ≤ k ∧ k < w.heap.size := by
  rintro k (rfl | ⟨i, hi, hk⟩)
  · exact ⟨h.ge, (Array.getElem?_eq_some_iff.1 h.blk).1⟩
  · exact (h.rows i hi).lt k hk
theorem RMAt.of_block (h : RMAt w base mb m v) (hb : ∀ k, v.own mb k → w'.heap[k]? = w.heap[k]?) : RMAt w' base mb m v :=
  ⟨by rw [hb mb (.inl rfl)]; exact h.blk, h.ge, fun i hi => (h.rows i hi).of_block fun k hk => hb k (.inr ⟨i, hi, hk⟩), h.cm, h.cr, h.tok⟩
theorem RMAt.more (h : RMAt w base mb m v) (os : Array Obj) (d : Nat) : RMAt (w.more os d) base mb m v := h.of_block fun k hk => World.heap_more _ _ _ _ (h.lt k hk).2
theorem RMAt.alloc (h : RMAt w base mb m v) (o : Obj) : RMAt (w.alloc o) base mb m v := h.of_block fun k hk => Below.heap_alloc _ _ _ (h.lt k hk).2
theorem RMAt.drew (h : RMAt w base mb m v) : RMAt w.drew base mb m v := h.of_block fun _ _ => rfl
theorem RMAt.set_other (h : RMAt w base mb m v) {p : Addr} (hp : ¬ v.own mb p.block) (u : Value) : RMAt (w.setCell p u) base mb m v :=
  h.of_block fun _k hk => Below.heap_setCell _ _ _ _ (fun e => hp (e ▸ hk))
theorem RMAt.only {F : Nat → Prop} (h : RMAt w base mb m v) (ho : Only F w w') (hF : ∀ k, v.own mb k → ¬ F k) : RMAt w' base mb m v :=
  h.of_block fun k hk => ho.block k (h.lt k hk).2 (hF k hk)
/-- the machine's own block is no row's -/
theorem RMAt.apart (h : RMAt w base mb m v) {i : Nat} (hi : i < 11) {k : Nat} (hk : (v.row i).rowBlock = some k) : k ≠ mb := fun e => by
  have := h.cr i hi k hk; rw [e, h.cm] at this; omega
theorem RMAt.apart2 (h : RMAt w base mb m v) {i j : Nat} (hi : i < 11) (hj : j < 11) (hij : i ≠ j) {k k' : Nat} (hk : (v.row i).rowBlock = some k) (hk' : (v.row j).rowBlock = some k') : k ≠ k' := fun e => by
  subst e
  have h1 := h.cr i hi k hk
  have h2 := h.cr j hj k hk'
  omega
/-- a cell of a row -/
theorem RMAt.putRow (h : RMAt w base mb m v) {i g : Nat} (hi : i < 11) (hg : (v.row i).rowBlock = some g) (j : Nat) (hj : j < m.len i * rmSz i) (u : Value) (hb : m'.blk v.row = m.blk v.row)
    (hlen : ∀ k, k < 11 → m'.len k = m.len k) (hx : m'.xs i = (m.xs i).set j u) (ho : ∀ k, k < 11 → k ≠ i → m'.xs k = m.xs k) (ht : ∀ t ∈ m'.T, t.ok) : RMAt (w.setCell ⟨g, j, none⟩ u) base mb m' v := by
  refine ⟨?_, h.ge, fun k hk => ?_, h.cm, h.cr, ht⟩
  · rw [Below.heap_setCell _ _ _ _ (Ne.symm (h.apart hi hg)), hb]; exact h.blk
  · rw [hlen k hk]
    by_cases e : k = i
    · subst e
      rw [hx]
      exact (h.rows k hk).put hg j hj u
    · rw [ho k hk e]
      exact (h.rows k hk).set (fun b hb' e2 => h.apart2 hk hi e hb' hg e2) u
/-- a cell of the machine's own -/
theorem RMAt.putBlk {v' : RMV} (h : RMAt w base mb m v) {j : Nat} {u : Value} (hb : (m.blk v.row).setIfInBounds j u = m'.blk v'.row)
    (hr : ∀ i, i < 11 → (w.setCell ⟨mb, j, none⟩ u).RowV base (rmTy i) (rmSz i) (v'.row i) (m'.len i) (m'.xs i)) (cm : v'.col mb = 0) (cr : ∀ i, i < 11 → ∀ k, (v'.row i).rowBlock = some k → v'.col k = i + 1) (ht : ∀ t ∈ m'.T, t.ok) :
    RMAt (w.setCell ⟨mb, j, none⟩ u) base mb m' v' :=
  ⟨by simp [World.setCell, Array.getElem?_modify, h.blk, hb], h.ge, hr, cm, cr, ht⟩
theorem RMAt.head (h : RMAt w base mb m v) (j : Nat) (u : Value) (hj : (m.blk v.row)[j]? = some u) : w.cell? ⟨mb, j, none⟩ = some u := by
  simp [World.cell?, h.blk, hj]
theorem RMAt.frozen (h : RMAt w base mb m v) (j : Nat) : w.frozen? ⟨mb, j, none⟩ = false := by simp [World.frozen?, h.blk]
end

/-- what a method leaves: the rows up to the lists stay where they are -/
def ROut (w : World) (base mb : Nat) (v : RMV) (m' : RM) (w' : World) : Prop :=
  ∃ v', RMAt w' base mb m' v' ∧ Only (v.own mb) w w' ∧ (∀ k, v'.own mb k → v.own mb k ∨ w.heap.size ≤ k) ∧ ∀ j, j < 8 → v'.row j = v.row j
section
variable {w w1 w2 : World} {base mb : Nat} {m m1 m2 : RM} {v v1 : RMV}
theorem ROut.refl (h : RMAt w base mb m v) : ROut w base mb v m w := ⟨v, h, Only.refl _ _, fun _ hk => .inl hk, fun _ _ => rfl⟩
theorem ROut.trans (h : ROut w base mb v m1 w1) (k : ∀ v1, RMAt w1 base mb m1 v1 → (∀ j, j < 8 → v1.row j = v.row j) → ROut w1 base mb v1 m2 w2) : ROut w base mb v m2 w2 := by
  obtain ⟨v1, h1, h2, h3, h4⟩ := h
  obtain ⟨v2, k1, k2, k3, k4⟩ := k v1 h1 h4
  refine ⟨v2, k1, h2.trans k2 h3, fun i hi => ?_, fun j hj => (k4 j hj).trans (h4 j hj)⟩
  rcases k3 i hi with h4 | h4
  · exact h3 i h4
  · have := h2.size; exact .inr (by omega)
theorem ROut.post (h : ROut w base mb v m1 w1) (hb : Only (fun _ => False) w1 w2) : ROut w base mb v m1 w2 := by
  obtain ⟨v1, h1, h2, h3, h4⟩ := h
  exact ⟨v1, h1.only hb (fun _ _ x => x), h2.trans hb (fun _ x => x.elim), h3, h4⟩
theorem ROut.pre {w0 : World} (hb : Only (fun _ => False) w0 w) (h : ROut w base mb v m1 w1) : ROut w0 base mb v m1 w1 := by
  obtain ⟨v1, h1, h2, h3, h5⟩ := h
  refine ⟨v1, h1, ?_, fun i hi => ?_, h5⟩
  · exact ⟨h2.os.trans hb.os, h2.tape.trans hb.tape, h2.output.trans hb.output, Nat.le_trans hb.size h2.size, fun k hk hn => (h2.block k (Nat.lt_of_lt_of_le hk hb.size) hn).trans (hb.block k hk (fun x => x))⟩
  · rcases h3 i hi with h4 | h4
    · exact .inl h4
    · have := hb.size; exact .inr (by omega)
end

/-! the rows' cells -/
section
variable {w : World} {base mb : Nat} {m : RM} {v : RMV}
theorem RMAt.b7 (h : RMAt w base mb m v) : w.cell? ⟨mb, 7, none⟩ = some (v.row 0) := h.head 7 _ rfl
theorem RMAt.b8 (h : RMAt w base mb m v) : w.cell? ⟨mb, 8, none⟩ = some (v.row 1) := h.head 8 _ rfl
theorem RMAt.b9 (h : RMAt w base mb m v) : w.cell? ⟨mb, 9, none⟩ = some (v.row 2) := h.head 9 _ rfl
theorem RMAt.b10 (h : RMAt w base mb m v) : w.cell? ⟨mb, 10, none⟩ = some (v.row 3) := h.head 10 _ rfl
theorem RMAt.b11 (h : RMAt w base mb m v) : w.cell? ⟨mb, 11, none⟩ = some (v.row 4) := h.head 11 _ rfl
theorem RMAt.b12 (h : RMAt w base mb m v) : w.cell? ⟨mb, 12, none⟩ = some (v.row 5) := h.head 12 _ rfl
theorem RMAt.b13 (h : RMAt w base mb m v) : w.cell? ⟨mb, 13, none⟩ = some (v.row 6) := h.head 13 _ rfl
theorem RMAt.b14 (h : RMAt w base mb m v) : w.cell? ⟨mb, 14, none⟩ = some (v.row 7) := h.head 14 _ rfl
theorem RMAt.b24 (h : RMAt w base mb m v) : w.cell? ⟨mb, 24, none⟩ = some (v.row 8) := h.head 24 _ rfl
theorem RMAt.b25 (h : RMAt w base mb m v) : w.cell? ⟨mb, 25, none⟩ = some (v.row 9) := h.head 25 _ rfl
theorem RMAt.b26 (h : RMAt w base mb m v) : w.cell? ⟨mb, 26, none⟩ = some (v.row 10) := h.head 26 _ rfl
theorem RMAt.b23 (h : RMAt w base mb m v) : w.cell? ⟨mb, 23, none⟩ = some (.int .i64 m.moves) := h.head 23 _ rfl
theorem RMAt.b0 (h : RMAt w base mb m v) : w.cell? ⟨mb, 0, none⟩ = some (.int .i64 m.c0) := h.head 0 _ rfl
theorem RMAt.b1 (h : RMAt w base mb m v) : w.cell? ⟨mb, 1, none⟩ = some (.int .i64 m.c1) := h.head 1 _ rfl
theorem RMAt.b2 (h : RMAt w base mb m v) : w.cell? ⟨mb, 2, none⟩ = some (.int .i64 m.c2) := h.head 2 _ rfl
theorem RMAt.b3 (h : RMAt w base mb m v) : w.cell? ⟨mb, 3, none⟩ = some (.int .i64 m.c3) := h.head 3 _ rfl
theorem RMAt.b4 (h : RMAt w base mb m v) : w.cell? ⟨mb, 4, none⟩ = some (.int .i64 m.c4) := h.head 4 _ rfl
theorem RMAt.b5 (h : RMAt w base mb m v) : w.cell? ⟨mb, 5, none⟩ = some (.int .i64 m.c5) := h.head 5 _ rfl
theorem RMAt.b6 (h : RMAt w base mb m v) : w.cell? ⟨mb, 6, none⟩ = some (.int .i64 m.c6) := h.head 6 _ rfl
theorem RMAt.row (h : RMAt w base mb m v) {i : Nat} (hi : i < 11) (hn : 0 < m.len i) : ∃ g cap, v.row i = .slice (some ⟨g, 0, none⟩) (m.len i) cap ∧ m.len i ≤ cap ∧ cap ≤ maxLen ∧ base ≤ g ∧ g < w.heap.size ∧ (v.row i).rowBlock = some g ∧ (∀ j, w.frozen? ⟨g, j, none⟩ = false) ∧ (∀ j u, (m.xs i)[j]? = some u → w.cell? ⟨g, j, none⟩ = some u) ∧ g ≠ mb := by
  obtain ⟨g, cap, e, f1, f2, f3, f4, f5, f6⟩ := (h.rows i hi).some_form hn
  obtain ⟨o, c, e2, _, h2⟩ := (h.rows i hi).form
  have hc : c = cap := by rw [e] at e2; cases e2; rfl
  subst hc
  exact ⟨g, c, e, f1, h2, f2, f3, f4, f5, f6, h.apart hi f4⟩
theorem rts_get {l : List RT} (hok : ∀ t ∈ l, t.ok) (i j : Nat) (hi : i < l.length) (hj : j < 658) : (rts l)[i * 658 + j]? = l[i].cells[j]? := flat_get' l (fun t ht => RT.len (hok t ht)) i j hi hj
theorem rts_set {l : List RT} (hok : ∀ t ∈ l, t.ok) (i j : Nat) (hi : i < l.length) (hj : j < 658) (y : RT) (u : Value) (h : y.cells = l[i].cells.set j u) : (rts l).set (i * 658 + j) u = rts (l.set i y) := flat_set' y u l (fun t ht => RT.len (hok t ht)) i j hi hj h
theorem code_get (l : List Ins) (i j : Nat) (hi : i < l.length) (hj : j < 6) : (l.flatMap Ins.cells)[i * 6 + j]? = l[i].cells[j]? := flat_get (f := Ins.cells) (k := 6) (fun _ => rfl) l i j hi hj
theorem ents_get (l : List Ent) (i j : Nat) (hi : i < l.length) (hj : j < 3) : (l.flatMap Ent.cells)[i * 3 + j]? = l[i].cells[j]? := flat_get (f := Ent.cells) (k := 3) (fun _ => rfl) l i j hi hj
/-- where a thread lies -/
theorem RMAt.thr (h : RMAt w base mb m v) {i : Nat} (hi : i < m.T.length) : ∃ g cap, v.row 4 = .slice (some ⟨g, 0, none⟩) m.T.length cap ∧ m.T.length ≤ cap ∧ cap ≤ maxLen ∧ base ≤ g ∧ g < w.heap.size ∧ (v.row 4).rowBlock = some g ∧ (∀ j, w.frozen? ⟨g, j, none⟩ = false) ∧ (∀ j u, j < 658 → m.T[i].cells[j]? = some u → w.cell? ⟨g, i * 658 + j, none⟩ = some u) ∧ g ≠ mb := by
  obtain ⟨g, cap, e, f1, f2, f3, f4, f5, f6, f7, f8⟩ := h.row (i := 4) (by omega) (show 0 < m.T.length by omega)
  refine ⟨g, cap, e, f1, f2, f3, f4, f5, f6, fun j u hj hu => f7 _ u ?_, f8⟩
  exact (rts_get h.tok i j hi hj).trans hu
theorem ok_set {l : List RT} (hok : ∀ t ∈ l, t.ok) (i : Nat) {y : RT} (hy : y.ok) : ∀ t ∈ l.set i y, t.ok := by
  intro t ht
  rcases List.mem_or_eq_of_mem_set ht with h | rfl
  · exact hok t h
  · exact hy
/-- a thread's cell is written -/
theorem RMAt.putT (h : RMAt w base mb m v) {g i j : Nat} (hg : (v.row 4).rowBlock = some g) (hi : i < m.T.length) (hj : j < 658) (y : RT) (hy : y.ok) (u : Value) (hc : y.cells = m.T[i].cells.set j u) :
    RMAt (w.setCell ⟨g, i * 658 + j, none⟩ u) base mb { m with T := m.T.set i y } v := by
  refine h.putRow (i := 4) (by omega) hg _ (by show _ < m.T.length * 658; have : i + 1 ≤ m.T.length := hi; have := Nat.mul_le_mul_right 658 this; omega) u rfl ?_ ?_ ?_ (ok_set h.tok i hy)
  · intro k hk
    match k, hk with
    | 4, _ => simp [RM.len]
    | 0, _ | 1, _ | 2, _ | 3, _ | 5, _ | 6, _ | 7, _ | 8, _ | 9, _ | 10, _ => rfl
  · exact (rts_set h.tok i j hi hj y u hc).symm
  · intro k hk hne
    match k, hk with
    | 4, _ => exact absurd rfl hne
    | 0, _ | 1, _ | 2, _ | 3, _ | 5, _ | 6, _ | 7, _ | 8, _ | 9, _ | 10, _ => rfl
/-- a call's cell is written -/
theorem RMAt.putC (h : RMAt w base mb m v) {g i j : Nat} (hg : (v.row 8).rowBlock = some g) (hi : i < m.calls.length) (hj : j < 9) (y : Cal) (u : Value) (hc : y.cells = m.calls[i].cells.set j u) :
    RMAt (w.setCell ⟨g, i * 9 + j, none⟩ u) base mb { m with calls := m.calls.set i y } v := by
  refine h.putRow (i := 8) (by omega) hg _ (by show _ < m.calls.length * 9; have : i + 1 ≤ m.calls.length := hi; have := Nat.mul_le_mul_right 9 this; omega) u rfl ?_ ?_ ?_ h.tok
  · intro k hk
    match k, hk with
    | 8, _ => simp [RM.len]
    | 0, _ | 1, _ | 2, _ | 3, _ | 4, _ | 5, _ | 6, _ | 7, _ | 9, _ | 10, _ => rfl
  · exact (cals_set m.calls i j hi hj y u hc).symm
  · intro k hk hne
    match k, hk with
    | 8, _ => exact absurd rfl hne
    | 0, _ | 1, _ | 2, _ | 3, _ | 4, _ | 5, _ | 6, _ | 7, _ | 9, _ | 10, _ => rfl
/-- a word is written -/
theorem RMAt.putW (h : RMAt w base mb m v) {g i : Nat} (hg : (v.row 0).rowBlock = some g) (hi : i < m.words.length) (x : Int) : RMAt (w.setCell ⟨g, i, none⟩ (.int .u64 x)) base mb { m with words := m.words.set i x } v := by
  refine h.putRow (i := 0) (by omega) hg _ (by show _ < m.words.length * 1; omega) _ rfl ?_ ?_ ?_ h.tok
  · intro k hk
    match k, hk with
    | 0, _ => simp [RM.len]
    | 4, _ | 1, _ | 2, _ | 3, _ | 5, _ | 6, _ | 7, _ | 8, _ | 9, _ | 10, _ => rfl
  · simp [RM.xs, u64s, List.map_set]
  · intro k hk hne
    match k, hk with
    | 0, _ => exact absurd rfl hne
    | 4, _ | 1, _ | 2, _ | 3, _ | 5, _ | 6, _ | 7, _ | 8, _ | 9, _ | 10, _ => rfl
end
end Go
