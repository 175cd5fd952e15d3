/-
What always holds of a machine with its own calls (OS.Inv), and how a later one goes on from an earlier one (OS.Later). Plain.
-/
import Derived.Test.YtbhbpfpggfcpgaaOs
namespace Go
open Go.RowKit
open Go.Proofs.Ytbhbpfpggfcpgaa

def wrA (ws : List Int) (a : Acc) : List Int := if a.kd = 3 ∧ a.old = a.saw then ws.set a.ad.toNat a.nw else ws
theorem wrA_len (ws : List Int) (a : Acc) : (wrA ws a).length = ws.length := by unfold wrA; split <;> simp
theorem foldl_wrA_len (log : List Acc) : ∀ ws : List Int, (log.foldl wrA ws).length = ws.length := by
  induction log with
  | nil => intro ws; rfl
  | cons a log ih => intro ws; exact (ih _).trans (wrA_len ws a)
def Tk.opn : Tk → Int
  | .look _ => 1
  | .bump _ _ _ => 2
/-- a call that runs: its seat is busy with it; or that has ended -/
def callOk (l : List Int) (n : Nat) (pre : List Mv) (o : OS) (ci : Nat) (c : Cal) : Prop :=
  ∃ i : Nat, c.th = (i : Int) ∧ i < n ∧ (c.op = 1 ∨ c.op = 2) ∧ 0 ≤ c.arg ∧ c.arg < (l.length : Int) ∧ 0 ≤ c.beg ∧ c.beg < (o.moves : Int) ∧ pre[c.beg.toNat]? = some ⟨c.th, c.op, c.arg, c.data⟩ ∧
    ((c.en = -1 ∧ c.pt = -1 ∧ c.ak = 0 ∧ c.av = 0 ∧ ∃ se t, o.seats[i]? = some se ∧ se.task = some t ∧ se.last = (ci : Int)) ∨ (c.beg < c.en ∧ c.en < (o.moves : Int) ∧ c.pt = c.en ∧ c.ak = 2))
def inCall (calls : List Cal) (th mv : Int) : Prop := ∃ (ci : Nat) (c : Cal), calls[ci]? = some c ∧ c.th = th ∧ c.beg < mv ∧ (c.en < 0 ∨ mv ≤ c.en)
structure AccOk (l : List Int) (n : Nat) (pre : List Mv) (o : OS) (k : Nat) (a : Acc) : Prop where
  mv : 0 ≤ a.mv ∧ a.mv < (o.moves : Int)
  th : 0 ≤ a.th ∧ a.th < (n : Int)
  pre : ∃ m, pre[a.mv.toNat]? = some m ∧ m.th = a.th ∧ m.op = 0
  ad : 0 ≤ a.ad ∧ a.ad < (l.length : Int)
  kd : (a.kd = 1 ∧ a.old = 0 ∧ a.nw = 0) ∨ a.kd = 3
  saw : a.saw = ((o.log.take k).foldl wrA l).getD a.ad.toNat 0
  call : inCall o.calls a.th a.mv
structure OS.Inv (l : List Int) (n : Nat) (pre : List Mv) (o : OS) : Prop where
  moves : o.moves = pre.length
  wlen : o.words.length = l.length
  slen : o.seats.length = n
  words : o.words = o.log.foldl wrA l
  seat : ∀ (i : Nat) (se : OSeat) (t : Tk), o.seats[i]? = some se → se.task = some t → ∃ (ci : Nat) (c : Cal), se.last = (ci : Int) ∧ o.calls[ci]? = some c ∧ c.th = (i : Int) ∧ c.en = -1 ∧ c.arg = t.addr ∧ c.op = t.opn ∧ 0 ≤ t.addr ∧ t.addr < (l.length : Int)
  call : ∀ (ci : Nat) (c : Cal), o.calls[ci]? = some c → callOk l n pre o ci c
  begs : ∀ (ci cj : Nat) (c c' : Cal), ci < cj → o.calls[ci]? = some c → o.calls[cj]? = some c' → c.beg < c'.beg
  log : ∀ (k : Nat) (a : Acc), o.log[k]? = some a → AccOk l n pre o k a
  mono : ∀ (k k' : Nat) (a a' : Acc), k < k' → o.log[k]? = some a → o.log[k']? = some a' → a.mv < a'.mv

theorem OS.Inv.init (l : List Int) (n : Nat) : OS.Inv l n [] (OS.init l n) := by
  refine ⟨rfl, rfl, by simp [OS.init], rfl, fun i se t h ht => ?_, fun ci c h => (by simp [OS.init] at h), fun ci cj c c' _ h => (by simp [OS.init] at h), fun k a h => (by simp [OS.init] at h), fun k k' a a' _ h => (by simp [OS.init] at h)⟩
  simp only [OS.init, List.getElem?_replicate] at h
  split at h
  · cases h; cases ht
  · cases h

section
variable {l : List Int} {n : Nat} {pre : List Mv} {o : OS}
theorem pre_app {i : Int} {m x : Mv} (h : pre[i.toNat]? = some m) : (pre ++ [x])[i.toNat]? = some m := by
  have := (List.getElem?_eq_some_iff.1 h).1
  rw [List.getElem?_append_left this]; exact h
theorem pre_last {x : Mv} : (pre ++ [x])[(pre.length : Int).toNat]? = some x := by
  rw [Int.toNat_natCast, List.getElem?_append_right (Nat.le_refl _)]; simp
theorem take_app {k : Nat} {x : Acc} (h : k ≤ o.log.length) : (o.log ++ [x]).take k = o.log.take k := List.take_append_of_le_length h

theorem OS.Inv.skip (h : OS.Inv l n pre o) (mv : Mv) : OS.Inv l n (pre ++ [mv]) o.skip := by
  refine ⟨?_, h.wlen, h.slen, h.words, h.seat, fun ci c hc => ?_, h.begs, fun k a ha => ?_, h.mono⟩
  · show o.moves + 1 = _
    rw [h.moves]; simp
  · obtain ⟨i, e1, e2, e3, e4, e5, e6, e7, e8, e9⟩ := h.call ci c hc
    refine ⟨i, e1, e2, e3, e4, e5, e6, by show _ < ((o.moves + 1 : Nat) : Int); omega, pre_app e8, ?_⟩
    rcases e9 with e9 | ⟨f1, f2, f3, f4⟩
    · exact .inl e9
    · exact .inr ⟨f1, by show _ < ((o.moves + 1 : Nat) : Int); omega, f3, f4⟩
  · obtain ⟨g1, g2, ⟨m, g3, g4⟩, g5, g6, g7, g8⟩ := h.log k a ha
    exact ⟨⟨g1.1, by show _ < ((o.moves + 1 : Nat) : Int); omega⟩, g2, ⟨m, pre_app g3, g4⟩, g5, g6, g7, g8⟩

theorem OS.Inv.begin (h : OS.Inv l n pre o) {mv : Mv} {i : Nat} {se : OSeat} {t : Tk} (hi : mv.th = (i : Int)) (hs : o.seats[i]? = some se) (hta : se.task = none) (hm : ownMake l.length mv = some t) : OS.Inv l n (pre ++ [mv]) (o.begin i mv t) := by
  obtain ⟨m1, m2, m3⟩ := ownMake_some hm
  have hil := (List.getElem?_eq_some_iff.1 hs).1
  have hmv := h.moves
  have hta' : t.addr = mv.arg ∧ t.opn = mv.op ∧ (mv.op = 1 ∨ mv.op = 2) := by
    rcases m3 with ⟨e, rfl⟩ | ⟨e, rfl⟩
    · exact ⟨rfl, e.symm, .inl e⟩
    · exact ⟨rfl, e.symm, .inr e⟩
  have hmo : (o.begin i mv t).moves = o.moves + 1 := rfl
  refine ⟨by rw [hmo, hmv]; simp, h.wlen, by show (o.seats.set _ _).length = n; rw [List.length_set]; exact h.slen, h.words, ?_, ?_, ?_, ?_, h.mono⟩
  · intro j sj tj hj htj
    rcases set_cases hj with ⟨rfl, rfl⟩ | h2
    · cases htj
      refine ⟨o.calls.length, ⟨mv.th, mv.op, mv.arg, mv.data, o.moves, -1, -1, 0, 0⟩, rfl, ?_, hi, rfl, hta'.1.symm, hta'.2.1.symm, by rw [hta'.1]; exact m1, by rw [hta'.1]; exact m2⟩
      show (o.calls ++ [_])[o.calls.length]? = _
      simp
    · obtain ⟨ci, c, q1, q2, q3⟩ := h.seat j sj tj h2 htj
      exact ⟨ci, c, q1, by show (o.calls ++ [_])[ci]? = _; rw [List.getElem?_append_left (List.getElem?_eq_some_iff.1 q2).1]; exact q2, q3⟩
  · intro ci c hc
    have hc' : (o.calls ++ [⟨mv.th, mv.op, mv.arg, mv.data, (o.moves : Int), -1, -1, 0, 0⟩])[ci]? = some c := hc
    by_cases hlt : ci < o.calls.length
    · rw [List.getElem?_append_left hlt] at hc'
      obtain ⟨i', e1, e2, e3, e4, e5, e6, e7, e8, e9⟩ := h.call ci c hc'
      refine ⟨i', e1, e2, e3, e4, e5, e6, by rw [hmo]; omega, pre_app e8, ?_⟩
      rcases e9 with ⟨f1, f2, f3, f4, se', t', f5, f6, f7⟩ | ⟨f1, f2, f3, f4⟩
      · refine .inl ⟨f1, f2, f3, f4, se', t', ?_, f6, f7⟩
        show (o.seats.set i _)[i']? = _
        rw [List.getElem?_set]
        split
        · rename_i e
          subst e
          rw [hs] at f5
          cases f5
          rw [hta] at f6
          cases f6
        · exact f5
      · exact .inr ⟨f1, by rw [hmo]; omega, f3, f4⟩
    · have hcl : ci = o.calls.length := by
        have := (List.getElem?_eq_some_iff.1 hc').1
        simp at this; omega
      subst hcl
      simp at hc'
      subst hc'
      refine ⟨i, hi, by rw [← h.slen]; exact hil, hta'.2.2, m1, m2, Int.natCast_nonneg _, by rw [hmo]; show (o.moves : Int) < _; omega, ?_, .inl ⟨rfl, rfl, rfl, rfl, ⟨some t, (o.calls.length : Int)⟩, t, ?_, rfl, rfl⟩⟩
      · show (pre ++ [mv])[(o.moves : Int).toNat]? = _
        rw [hmv, pre_last]
      · show (o.seats.set i _)[i]? = _
        rw [List.getElem?_set]; simp [hil]
  · intro ci cj c c' hlt hc hc'
    have k1 : (o.calls ++ [⟨mv.th, mv.op, mv.arg, mv.data, (o.moves : Int), -1, -1, 0, 0⟩])[ci]? = some c := hc
    have k2 : (o.calls ++ [⟨mv.th, mv.op, mv.arg, mv.data, (o.moves : Int), -1, -1, 0, 0⟩])[cj]? = some c' := hc'
    have hj := (List.getElem?_eq_some_iff.1 k2).1
    rw [List.length_append, List.length_singleton] at hj
    rw [List.getElem?_append_left (by omega)] at k1
    by_cases hcj : cj < o.calls.length
    · rw [List.getElem?_append_left hcj] at k2
      exact h.begs ci cj c c' hlt k1 k2
    · have : cj = o.calls.length := by omega
      subst this
      simp at k2
      subst k2
      obtain ⟨_, _, _, _, _, _, _, e7, _⟩ := h.call ci c k1
      exact e7
  · intro k a ha
    obtain ⟨g1, g2, ⟨m, g3, g4⟩, g5, g6, g7, ⟨ci, c, g8, g9⟩⟩ := h.log k a ha
    refine ⟨⟨g1.1, by rw [hmo]; omega⟩, g2, ⟨m, pre_app g3, g4⟩, g5, g6, g7, ⟨ci, c, ?_, g9⟩⟩
    show (o.calls ++ [_])[ci]? = _
    rw [List.getElem?_append_left (List.getElem?_eq_some_iff.1 g8).1]; exact g8

/-- what a step makes: an entry, and an end or not -/
structure Stp (o : OS) (i ci : Nat) (se : OSeat) (t : Tk) (c : Cal) (e : Acc) (x : OSeat) (over : Bool) (o' : OS) : Prop where
  moves : o'.moves = o.moves + 1
  words : o'.words = wrA o.words e
  log : o'.log = o.log ++ [e]
  seats : o'.seats = o.seats.set i x
  calls : o'.calls = if over = true then o.calls.modify ci (fun c => { c with en := o.moves, pt := o.moves, ak := 2, av := wrap64 (o.at t.addr) }) else o.calls
  emv : e.mv = o.moves ∧ e.th = (i : Int) ∧ e.ad = t.addr ∧ e.saw = o.at t.addr ∧ ((e.kd = 1 ∧ e.old = 0 ∧ e.nw = 0) ∨ e.kd = 3)
  ends : over = true → x.task = none ∧ o'.words = if c.op = 2 then o.words.set t.addr.toNat (IntKind.u64.wrap (o.at t.addr + 1)) else o.words
  goes : over = false → (∃ t', x.task = some t' ∧ t'.addr = t.addr ∧ t'.opn = t.opn) ∧ o'.words = o.words
  last : x.last = se.last

theorem OS.step_stp (o : OS) (i ci : Nat) (se : OSeat) (t : Tk) (c : Cal) (hl : se.last = (ci : Int)) (hop : c.op = t.opn) : ∃ e x over, Stp o i ci se t c e x over (o.step i se t) := by
  have hci : se.last.toNat = ci := by omega
  cases t with
  | look a =>
    refine ⟨⟨o.moves, i, 1, a, 0, 0, o.at a⟩, ⟨none, se.last⟩, true, ⟨rfl, ?_, rfl, rfl, ?_, ⟨rfl, rfl, rfl, rfl, .inl ⟨rfl, rfl, rfl⟩⟩, fun _ => ⟨rfl, ?_⟩, fun h => (by cases h), rfl⟩⟩
    · simp [OS.step, wrA]
    · simp [OS.step, OS.ends, hci, Tk.addr]
    · have : c.op ≠ 2 := by rw [hop]; exact show (1 : Int) ≠ 2 by decide
      rw [if_neg this]; rfl
  | bump a saw ld =>
    cases ld with
    | false =>
      refine ⟨⟨o.moves, i, 1, a, 0, 0, o.at a⟩, ⟨some (.bump a (o.at a) true), se.last⟩, false, ⟨rfl, ?_, rfl, rfl, rfl, ⟨rfl, rfl, rfl, rfl, .inl ⟨rfl, rfl, rfl⟩⟩, fun h => (by cases h), fun _ => ⟨⟨_, rfl, rfl, rfl⟩, rfl⟩, rfl⟩⟩
      simp [OS.step, wrA]
    | true =>
      by_cases he : o.at a = saw
      · refine ⟨⟨o.moves, i, 3, a, saw, IntKind.u64.wrap (saw + 1), o.at a⟩, ⟨none, se.last⟩, true, ⟨?_, ?_, ?_, ?_, ?_, ⟨rfl, rfl, rfl, rfl, .inr rfl⟩, fun _ => ⟨rfl, ?_⟩, fun h => (by cases h), rfl⟩⟩
        · simp [OS.step, he]
        · simp [OS.step, wrA, he]
        · simp [OS.step, he]
        · simp [OS.step, he]
        · simp [OS.step, OS.ends, hci, Tk.addr, he]
        · have : c.op = 2 := by rw [hop]; rfl
          rw [if_pos this]
          simp [OS.step, he, Tk.addr]
      · refine ⟨⟨o.moves, i, 3, a, saw, IntKind.u64.wrap (saw + 1), o.at a⟩, ⟨some (.bump a saw false), se.last⟩, false, ⟨?_, ?_, ?_, ?_, ?_, ⟨rfl, rfl, rfl, rfl, .inr rfl⟩, fun h => (by cases h), fun _ => ⟨⟨_, rfl, rfl, rfl⟩, ?_⟩, rfl⟩⟩
        · simp [OS.step, he]
        · simp [OS.step, wrA, he]; intro h1; exact absurd h1.symm he
        · simp [OS.step, he]
        · simp [OS.step, he]
        · simp [OS.step, he]
        · simp [OS.step, he]

theorem modify_get {α : Type} {ls : List α} {ci cj : Nat} {f : α → α} {c : α} (h : (ls.modify ci f)[cj]? = some c) : (cj = ci ∧ ∃ d, ls[ci]? = some d ∧ c = f d) ∨ (cj ≠ ci ∧ ls[cj]? = some c) := by
  rw [List.getElem?_modify] at h
  by_cases e : ci = cj
  · subst e
    cases hd : ls[ci]? with
    | none => rw [hd] at h; cases h
    | some d => rw [hd] at h; simp at h; exact .inl ⟨rfl, d, rfl, h.symm⟩
  · simp [e] at h; exact .inr ⟨Ne.symm e, h⟩
theorem modify_at {α : Type} {ls : List α} {ci cj : Nat} {f : α → α} {c : α} (h : ls[cj]? = some c) : (ls.modify ci f)[cj]? = some (if ci = cj then f c else c) := by
  rw [List.getElem?_modify, h]
  by_cases e : ci = cj <;> simp [e]

theorem OS.Inv.stp (h : OS.Inv l n pre o) {mv : Mv} {i ci : Nat} {se : OSeat} {t : Tk} {c : Cal} {e : Acc} {x : OSeat} {over : Bool} {o' : OS} (S : Stp o i ci se t c e x over o')
    (hi : mv.th = (i : Int)) (hop : mv.op = 0) (hs : o.seats[i]? = some se) (_hta : se.task = some t) (hl : se.last = (ci : Int)) (hc : o.calls[ci]? = some c) (hth : c.th = (i : Int)) (hen : c.en = -1) (harg : c.arg = t.addr) (hcop : c.op = t.opn)
    (had : 0 ≤ t.addr ∧ t.addr < (l.length : Int)) : OS.Inv l n (pre ++ [mv]) o' := by
  have hil := (List.getElem?_eq_some_iff.1 hs).1
  have hmv := h.moves
  have hmo := S.moves
  have hcb : 0 ≤ c.beg ∧ c.beg < (o.moves : Int) := by obtain ⟨_, _, _, _, _, _, e6, e7, _⟩ := h.call ci c hc; exact ⟨e6, e7⟩
  obtain ⟨v1, v2, v3, v4, v5⟩ := S.emv
  -- a call of o in o'
  have hcall : ∀ (cj : Nat) (d' : Cal), o'.calls[cj]? = some d' → ∃ d, o.calls[cj]? = some d ∧ d'.th = d.th ∧ d'.op = d.op ∧ d'.arg = d.arg ∧ d'.data = d.data ∧ d'.beg = d.beg ∧ ((d' = d ∧ (over = true → cj ≠ ci)) ∨ (cj = ci ∧ over = true ∧ d'.en = o.moves ∧ d'.pt = o.moves ∧ d'.ak = 2)) := by
    intro cj d' hd'
    rw [S.calls] at hd'
    cases over with
    | false => exact ⟨d', by simpa using hd', rfl, rfl, rfl, rfl, rfl, .inl ⟨rfl, fun h => (by cases h)⟩⟩
    | true =>
      simp only [if_true] at hd'
      rcases modify_get hd' with ⟨rfl, d, hd, rfl⟩ | ⟨hne, hd⟩
      · exact ⟨d, hd, rfl, rfl, rfl, rfl, rfl, .inr ⟨rfl, rfl, rfl, rfl, rfl⟩⟩
      · exact ⟨d', hd, rfl, rfl, rfl, rfl, rfl, .inl ⟨rfl, fun _ => hne⟩⟩
  have hback : ∀ (cj : Nat) (d : Cal), o.calls[cj]? = some d → ∃ d', o'.calls[cj]? = some d' ∧ d'.th = d.th ∧ d'.op = d.op ∧ d'.arg = d.arg ∧ d'.beg = d.beg ∧ (d' = d ∨ (cj = ci ∧ over = true ∧ d'.en = o.moves)) := by
    intro cj d hd
    rw [S.calls]
    cases over with
    | false => exact ⟨d, by simpa using hd, rfl, rfl, rfl, rfl, .inl rfl⟩
    | true =>
      simp only [if_true]
      have := modify_at (ci := ci) (f := fun c => { c with en := o.moves, pt := o.moves, ak := 2, av := wrap64 (o.at t.addr) }) hd
      by_cases e : ci = cj
      · rw [if_pos e] at this
        exact ⟨_, this, rfl, rfl, rfl, rfl, .inr ⟨e.symm, trivial, rfl⟩⟩
      · rw [if_neg e] at this
        exact ⟨_, this, rfl, rfl, rfl, rfl, .inl rfl⟩
  refine ⟨by rw [hmo, hmv]; simp, ?_, by rw [S.seats, List.length_set]; exact h.slen, ?_, ?_, ?_, ?_, ?_, ?_⟩
  · rw [S.words, wrA_len]; exact h.wlen
  · rw [S.words, S.log, List.foldl_append, ← h.words]; rfl
  · intro j sj tj hj htj
    rw [S.seats] at hj
    rcases set_cases hj with ⟨rfl, rfl⟩ | h2
    · cases over with
      | true => rw [(S.ends rfl).1] at htj; cases htj
      | false =>
        obtain ⟨⟨t', q1, q2, q3⟩, _⟩ := S.goes rfl
        rw [q1] at htj
        cases htj
        refine ⟨ci, c, S.last.trans hl, ?_, hth, hen, by rw [q2]; exact harg, by rw [q3]; exact hcop, by rw [q2]; exact had.1, by rw [q2]; exact had.2⟩
        rw [S.calls]; simpa using hc
    · by_cases hji : j = i
      · subst hji
        rw [List.getElem?_set] at hj
        simp [hil] at hj
        subst hj
        cases over with
        | true => rw [(S.ends rfl).1] at htj; cases htj
        | false =>
          obtain ⟨⟨t', q1, q2, q3⟩, _⟩ := S.goes rfl
          rw [q1] at htj
          cases htj
          refine ⟨ci, c, S.last.trans hl, ?_, hth, hen, by rw [q2]; exact harg, by rw [q3]; exact hcop, by rw [q2]; exact had.1, by rw [q2]; exact had.2⟩
          rw [S.calls]; simpa using hc
      · obtain ⟨cj, d, q1, q2, q3, q4, q5, q6, q7⟩ := h.seat j sj tj h2 htj
        obtain ⟨d', p1, p2, p3, p4, p5, p6⟩ := hback cj d q2
        have hne : d' = d := by
          rcases p6 with p6 | ⟨rfl, _⟩
          · exact p6
          · rw [hc] at q2
            cases q2
            rw [hth] at q3
            omega
        subst hne
        exact ⟨cj, d', q1, p1, q3, q4, q5, q6, q7⟩
  · intro cj d' hd'
    obtain ⟨d, hd, t1, t2, t3, t4, t5, t6⟩ := hcall cj d' hd'
    obtain ⟨i', e1, e2, e3, e4, e5, e6, e7, e8, e9⟩ := h.call cj d hd
    refine ⟨i', t1.trans e1, e2, by rw [t2]; exact e3, by rw [t3]; exact e4, by rw [t3]; exact e5, by rw [t5]; exact e6, by rw [t5, hmo]; omega, by rw [t5, t1, t2, t3, t4]; exact pre_app e8, ?_⟩
    rcases t6 with ⟨rfl, t7⟩ | ⟨rfl, hov, t7, t8, t9⟩
    · rcases e9 with ⟨f1, f2, f3, f4, se', t', f5, f6, f7⟩ | ⟨f1, f2, f3, f4⟩
      · refine .inl ⟨f1, f2, f3, f4, ?_⟩
        rw [S.seats]
        by_cases hii : i = i'
        · subst hii
          rw [hs] at f5
          cases f5
          rw [hl] at f7
          have hcc : cj = ci := by omega
          cases over with
          | true => exact absurd hcc (t7 rfl)
          | false =>
            obtain ⟨⟨t', q1, _⟩, _⟩ := S.goes rfl
            exact ⟨x, t', by rw [List.getElem?_set]; simp [hil], q1, by rw [S.last, hl, hcc]⟩
        · exact ⟨se', t', by rw [List.getElem?_set]; simp [hii]; exact f5, f6, f7⟩
      · exact .inr ⟨f1, by rw [hmo]; omega, f3, f4⟩
    · exact .inr ⟨by rw [t5, t7]; exact e7, by rw [t7, hmo]; omega, by rw [t8, t7], t9⟩
  · intro c1 c2 d1 d2 hlt h1 h2
    obtain ⟨a1, g1, _, _, _, _, q1, _⟩ := hcall c1 d1 h1
    obtain ⟨a2, g2, _, _, _, _, q2, _⟩ := hcall c2 d2 h2
    rw [q1, q2]
    exact h.begs c1 c2 a1 a2 hlt g1 g2
  · intro k a ha
    rw [S.log] at ha
    by_cases hk : k < o.log.length
    · rw [List.getElem?_append_left hk] at ha
      obtain ⟨g1, g2, ⟨m, g3, g4⟩, g5, g6, g7, ⟨cj, d, g8, g9, g10, g11⟩⟩ := h.log k a ha
      obtain ⟨d', p1, p2, p3, p4, p5, p6⟩ := hback cj d g8
      refine ⟨⟨g1.1, by rw [hmo]; omega⟩, g2, ⟨m, pre_app g3, g4⟩, g5, g6, ?_, ⟨cj, d', p1, by rw [p2]; exact g9, by rw [p5]; exact g10, ?_⟩⟩
      · rw [S.log, List.take_append_of_le_length (by omega)]; exact g7
      · rcases p6 with rfl | ⟨_, _, p7⟩
        · exact g11
        · exact .inr (by rw [p7]; omega)
    · have hkl : k = o.log.length := by
        have := (List.getElem?_eq_some_iff.1 ha).1
        simp at this; omega
      subst hkl
      simp at ha
      subst ha
      obtain ⟨d', p1, p2, p3, p4, p5, p6⟩ := hback ci c hc
      refine ⟨⟨by rw [v1]; omega, by rw [v1, hmo]; omega⟩, ⟨by rw [v2]; omega, by rw [v2, ← h.slen]; omega⟩, ⟨mv, by rw [v1, hmv]; exact pre_last, by rw [v2]; exact hi, hop⟩, by rw [v3]; exact had, v5, ?_, ⟨ci, d', p1, by rw [p2, v2]; exact hth, by rw [p5, v1]; exact hcb.2, ?_⟩⟩
      · rw [S.log, List.take_left' rfl, ← h.words, v3, v4]; rfl
      · rcases p6 with rfl | ⟨_, _, p7⟩
        · exact .inl (by rw [hen]; decide)
        · exact .inr (by rw [p7, v1]; exact Int.le_refl _)
  · intro k k' a a' hlt h1 h2
    rw [S.log] at h1 h2
    have hk' := (List.getElem?_eq_some_iff.1 h2).1
    rw [List.length_append, List.length_singleton] at hk'
    rw [List.getElem?_append_left (by omega)] at h1
    by_cases hk : k' < o.log.length
    · rw [List.getElem?_append_left hk] at h2
      exact h.mono k k' a a' hlt h1 h2
    · have : k' = o.log.length := by omega
      subst this
      simp at h2
      subst h2
      rw [v1]
      exact (h.log k a h1).mv.2

/-- a move, one of three ways -/
theorem OS.Inv.way (h : OS.Inv l n pre o) (hlt : pre.length < 65536) (mv : Mv) :
    ((o.move l.length mv) = (o.skip, false)) ∨
    (∃ (i ci : Nat) (se : OSeat) (t : Tk) (c : Cal) (e : Acc) (x : OSeat) (over : Bool), (o.move l.length mv) = (o.step i se t, true) ∧ Stp o i ci se t c e x over (o.step i se t) ∧ mv.th = (i : Int) ∧ mv.op = 0 ∧ o.seats[i]? = some se ∧ se.task = some t ∧ se.last = (ci : Int) ∧ o.calls[ci]? = some c ∧ c.th = (i : Int) ∧ c.en = -1 ∧ c.arg = t.addr ∧ c.op = t.opn ∧ 0 ≤ t.addr ∧ t.addr < (l.length : Int)) ∨
    (∃ (i : Nat) (se : OSeat) (t : Tk), (o.move l.length mv) = (o.begin i mv t, true) ∧ mv.th = (i : Int) ∧ o.seats[i]? = some se ∧ se.task = none ∧ mv.op ≠ 0 ∧ ownMake l.length mv = some t) := by
  have hm := h.moves
  rcases o.move_cases l.length mv with ⟨h0, _⟩ | ⟨_, e⟩ | ⟨_, i, se, t, hi, hs, hta, hop, e⟩ | ⟨_, i, se, t, hi, hs, hta, hop, hmk, e⟩
  · omega
  · exact .inl e
  · obtain ⟨ci, c, q1, q2, q3, q4, q5, q6, q7, q8⟩ := h.seat i se t hs hta
    obtain ⟨ae, x, over, S⟩ := OS.step_stp o i ci se t c q1 q6
    exact .inr (.inl ⟨i, ci, se, t, c, ae, x, over, e, S, hi, hop, hs, hta, q1, q2, q3, q4, q5, q6, q7, q8⟩)
  · exact .inr (.inr ⟨i, se, t, e, hi, hs, hta, hop, hmk⟩)
theorem OS.Inv.move (h : OS.Inv l n pre o) (hlt : pre.length < 65536) (mv : Mv) : OS.Inv l n (pre ++ [mv]) (o.move l.length mv).1 := by
  rcases h.way hlt mv with e | ⟨i, ci, se, t, c, ae, x, over, e, S, hi, hop, hs, hta, q1, q2, q3, q4, q5, q6, q7, q8⟩ | ⟨i, se, t, e, hi, hs, hta, hop, hmk⟩
  · rw [e]; exact h.skip mv
  · rw [e]; exact h.stp S hi hop hs hta q1 q2 q3 q4 q5 q6 ⟨q7, q8⟩
  · rw [e]; exact h.begin hi hs hta hmk
end

theorem osOf_snoc (l : List Int) (n : Nat) (pre : List Mv) (mv : Mv) : osOf l n (pre ++ [mv]) = ((osOf l n pre).move l.length mv).1 := OS.goes_snoc ..
theorem inv_of (l : List Int) (n : Nat) (ms : List Mv) (hm : ms.length ≤ 65536) : OS.Inv l n ms (osOf l n ms) := by
  have : ∀ k, k ≤ ms.length → OS.Inv l n (ms.take k) (osOf l n (ms.take k)) := by
    intro k
    induction k with
    | zero => intro _; rw [List.take_zero]; exact OS.Inv.init l n
    | succ k ih =>
      intro hk
      rw [take_next ms k (by omega), osOf_snoc]
      exact (ih (by omega)).move (by simp; omega) _
  have h := this ms.length (Nat.le_refl _)
  rwa [List.take_length] at h
theorem os_few (size : Int) (o : OS) (mv : Mv) (h : o.calls.length ≤ o.moves ∧ o.log.length ≤ o.moves) : (o.move size mv).1.calls.length ≤ (o.move size mv).1.moves ∧ (o.move size mv).1.log.length ≤ (o.move size mv).1.moves := by
  rcases o.move_cases size mv with ⟨_, e⟩ | ⟨_, e⟩ | ⟨_, i, se, t, _, _, _, _, e⟩ | ⟨_, i, se, t, _, _, _, _, _, e⟩
  · rw [e]; exact h
  · rw [e]; exact ⟨Nat.le_succ_of_le h.1, Nat.le_succ_of_le h.2⟩
  · rw [e]
    unfold OS.step
    split
    · simp [OS.ends]; omega
    · simp; omega
    · split
      · simp [OS.ends]; omega
      · simp; omega
  · rw [e]
    simp [OS.begin]; omega
theorem os_fews (size : Int) (ms : List Mv) : ∀ o : OS, (o.calls.length ≤ o.moves ∧ o.log.length ≤ o.moves) → (o.goes size ms).calls.length ≤ (o.goes size ms).moves ∧ (o.goes size ms).log.length ≤ (o.goes size ms).moves := by
  induction ms with
  | nil => intro o h; exact h
  | cons m ms ih => intro o h; exact ih _ (os_few size o m h)
theorem calls_le (l : List Int) (n : Nat) (ms : List Mv) (hm : ms.length ≤ 65536) : (osOf l n ms).calls.length ≤ 65536 := by
  have h := (os_fews l.length ms (OS.init l n) ⟨Nat.le_refl _, Nat.le_refl _⟩).1
  have := (inv_of l n ms hm).moves
  unfold osOf at this ⊢
  omega
theorem log_le (l : List Int) (n : Nat) (ms : List Mv) (hm : ms.length ≤ 65536) : (osOf l n ms).log.length ≤ 65536 := by
  have h := (os_fews l.length ms (OS.init l n) ⟨Nat.le_refl _, Nat.le_refl _⟩).2
  have := (inv_of l n ms hm).moves
  unfold osOf at this ⊢
  omega
end Go
