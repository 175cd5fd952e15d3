/-
arena.Kit.
The machine with the arena's kit, its history: what a step does to the slots (AEff), and what always holds of the calls (AH). Plain.
Arena laws, plain: a slot is told once (Once), Full is honest (Hon). Plain.
machine.Play: a run of a script of the machine's own calls.
An arena, its kit and a machine with it: where they lie (PMAt); a run of the machine, whose arena does not matter. Plain but for the heap.
-/
import Derived.Test.YtjcggokhminmoaaQArKo
import Derived.Test.YtjcggokhminmoaaQArIn
import Derived.Test.YtjcggokhminmoaaQPmG
import Derived.Test.YtjcggokhminmoaaQArNw
namespace Go.Proofs.Ytjcggokhminmoaa
open Go.ChangeShapes Go.WideShapes Go.ChangeAt Go.RowKit

theorem arEs_reads (xb : Nat) : Reads #[⟨.int .i64 10, .func (.func 61) #[] #[.pointer (some ⟨xb, 0, none⟩)], 0⟩, ⟨.int .i64 11, .func (.func 63) #[] #[.pointer (some ⟨xb, 0, none⟩)], 1⟩, ⟨.int .i64 12, .func (.func 65) #[] #[.pointer (some ⟨xb, 0, none⟩)], 2⟩] (arG xb) := by
  have h := ((Reads.empty.push (op := 10) (.func (.func 61) #[] #[.pointer (some ⟨xb, 0, none⟩)]) 0 rfl).push (op := 11) (.func (.func 63) #[] #[.pointer (some ⟨xb, 0, none⟩)]) 1 rfl).push (op := 12) (.func (.func 65) #[] #[.pointer (some ⟨xb, 0, none⟩)]) 2 rfl
  refine ⟨h.1, fun op => (h.2 op).trans ?_⟩
  unfold upd arG
  by_cases h1 : op = 10
  · subst h1; rfl
  · by_cases h2 : op = 11
    · subst h2; rfl
    · by_cases h3 : op = 12
      · subst h3; rfl
      · simp [h1, h2, h3]

theorem akit_any {w : World} {base ab : Nat} {s : ArS} {av : ArV} (H : ArAt w base ab s av) : Calls Try.prog 40 #[.pointer (some ⟨ab, 0, none⟩)] w fun e w' =>
    ∃ kb bx, e = .returned (.map (some kb)) ∧ (∃ es clk, w'.heap[kb]? = some (.map es clk) ∧ Reads es (arG bx)) ∧ w'.heap[bx]? = some (.cells #[.pointer (some ⟨ab, 0, none⟩)] 24 (0, 0)) ∧ w.heap.size ≤ kb ∧ w.heap.size ≤ bx ∧ kb ≠ bx ∧ Only (fun _ => False) w w' := by
  obtain ⟨c0, c1, c2, c3, c4, c5, c6, c7, c8, z, lt⟩ := H.head
  obtain ⟨o, c, e, h1, h2⟩ := H.rsl.form
  rw [e] at c7
  have hn := (ok_small H.ok).1
  unfold ArS.n at hn
  have d0 : decide ((s.slots.length : Int) = 0) = false := decide_eq_false (by omega)
  have d1 : ((s.slots.length : Int) == 0) = false := beq_eq_false_iff_ne.2 (by omega)
  have hmm := @run_makeMap Try.prog
  clear c0 c1 c2 c3 c4 c5 c6 c8 H e
  go_enter Try.func40, Try.ntmps40
  go_wp2_with (first
    | (refine wpList_insert rfl _ _ _ rfl (w.alloc (.cells #[.pointer (some ⟨ab, 0, none⟩)] 24)) _ #[] 0 rfl 10 (.func (.func 61) #[] #[.pointer (some ⟨w.heap.size, 0, none⟩)]) (by simp [go_sem]) rfl rfl rfl ?_)
    | (refine wpList_insert rfl _ _ _ rfl (w.alloc (.cells #[.pointer (some ⟨ab, 0, none⟩)] 24)) _ #[⟨.int .i64 10, .func (.func 61) #[] #[.pointer (some ⟨w.heap.size, 0, none⟩)], 0⟩] 1 rfl 11 (.func (.func 63) #[] #[.pointer (some ⟨w.heap.size, 0, none⟩)]) (by simp [go_sem]) rfl rfl rfl ?_)
    | (refine wpList_insert rfl _ _ _ rfl (w.alloc (.cells #[.pointer (some ⟨ab, 0, none⟩)] 24)) _ #[⟨.int .i64 10, .func (.func 61) #[] #[.pointer (some ⟨w.heap.size, 0, none⟩)], 0⟩, ⟨.int .i64 11, .func (.func 63) #[] #[.pointer (some ⟨w.heap.size, 0, none⟩)], 1⟩] 2 rfl 12 (.func (.func 65) #[] #[.pointer (some ⟨w.heap.size, 0, none⟩)]) (by simp [go_sem]) rfl rfl rfl ?_))
  go_ret
  refine ⟨w.heap.size + 1, w.heap.size, by simp, ⟨_, _, heap_alloc_at (by simp), arEs_reads _⟩, ?_, by omega, Nat.le_refl _, by omega, ((Only.refl _ _).alloc _).alloc _⟩
  rw [Below.heap_alloc _ _ _ (by simp)]
  exact heap_alloc_new w _
end Go.Proofs.Ytjcggokhminmoaa
namespace Go
open Go.RowKit
open Go.Proofs.Ytjcggokhminmoaa
variable {ab : Nat}

def ATk.op : ATk → Int
  | .take _ => 10
  | .give _ => 11
  | .flush _ => 12
/-- what a step does to the slots -/
inductive AEff (s : ArS) (i : Nat) (t : ATk) (o : AOut) : Prop
  | stay (h : o.s = s) (ha : ∀ v, o.ans ≠ some (2, v)) (hg : o.tk = none → t.op ≠ 11) : AEff s i t o
  | told (k : Nat) (hk : k < s.n) (h2 : s.st k = 0 ∨ s.st k = 1) (hs : o.s.slots = s.slots.set k (2, (i : Int))) (ht : t.op = 10) (ho : o.tk = none) (ha : o.ans = some (2, (k : Int))) : AEff s i t o
  | given (k : Nat) (q : TkPush) (ht : t = .give q) (hq : q.slot = (k : Int)) (hk : s.slots[k]? = some (2, (i : Int))) (x y : Int) (hx : x = 0 ∨ x = 1) (hs : o.s.slots = s.slots.set k (x, y)) (ho : o.tk = none) (ha : o.ans = none) : AEff s i t o
  | flushed (k : Nat) (ht : t.op = 12) (hk : s.slots[k]? = some (1, (i : Int))) (hs : o.s.slots = s.slots.set k (0, -1)) (ha : o.ans = none) : AEff s i t o
section
variable {W : List Int} {s : ArS} {ts : Nat → Option (Bool × ATk)} {mv i : Nat} {rd : Bool} {tk : ATk} {o : AOut}
theorem astep_eff (H : AInv W s ts mv) (ht : ts i = some (rd, tk)) (ho : AStep W s i rd tk o) : AEff s i tk o := by
  have hT := (H.task i rd tk ht).2
  have hin : ∀ (c : List Int) (k : Nat), s.caches[i]? = some c → (k : Int) ∈ c → s.slots[k]? = some (1, (i : Int)) := fun c k hc hk => by
    obtain ⟨k', e, h⟩ := (H.cache i c hc).2.2 _ hk
    obtain rfl : k = k' := by omega
    exact h
  cases ho with
  | @takeCached q c k hq hc hk =>
    refine .told k hk (.inr (st_of (hin _ k hc (by simp)))) ?_ rfl rfl rfl
    simp [ArS.put, ArS.lay]
  | takeLoad => exact .stay rfl (fun v e => by cases e) (fun e => by first | (cases e; done) | (simp [ATk.op]))
  | takeFull => exact .stay rfl (fun v e => by cases e) (fun e => by first | (cases e; done) | (simp [ATk.op]))
  | takeNext => exact .stay rfl (fun v e => by cases e) (fun e => by first | (cases e; done) | (simp [ATk.op]))
  | @takeYes q k hq hk hl he =>
    obtain ⟨L, h1, h2, h3, h4⟩ := free_idx H (k := k) (by rw [he]; exact hk)
    exact .told k hl (.inl ((h3 k hl).1 (by simp))) rfl rfl rfl rfl
  | takeNo => exact .stay rfl (fun v e => by cases e) (fun e => by first | (cases e; done) | (simp [ATk.op]))
  | @giveCached p c k hp hc hl hk hkl =>
    obtain ⟨_, _, _, k', e, h, _⟩ := hT
    obtain rfl : k = k' := by omega
    exact .given k p rfl hk h 1 i (.inr rfl) (by simp [ArS.put, ArS.lay]) rfl rfl
  | giveLoad => exact .stay rfl (fun v e => by cases e) (fun e => by first | (cases e; done) | (simp [ATk.op]))
  | giveStore => exact .stay rfl (fun v e => by cases e) (fun e => by first | (cases e; done) | (simp [ATk.op]))
  | @giveYes p k hp hk hkl he =>
    obtain ⟨_, _, _, k', e, h, _⟩ := hT
    obtain rfl : k = k' := by omega
    exact .given k p rfl hk h 0 (-1) (.inl rfl) rfl rfl rfl
  | giveNo => exact .stay rfl (fun v e => by cases e) (fun e => by first | (cases e; done) | (simp [ATk.op]))
  | flushEmpty => exact .stay rfl (fun v e => by cases e) (fun e => by first | (cases e; done) | (simp [ATk.op]))
  | flushFirst => exact .stay rfl (fun v e => by cases e) (fun e => by first | (cases e; done) | (simp [ATk.op]))
  | flushLoad => exact .stay rfl (fun v e => by cases e) (fun e => by first | (cases e; done) | (simp [ATk.op]))
  | flushStore => exact .stay rfl (fun v e => by cases e) (fun e => by first | (cases e; done) | (simp [ATk.op]))
  | @flushLast p k hp hk hkl he hc => exact .flushed k rfl (hin _ k hc (by simp)) (by simp [ArS.put, ArS.lay]) rfl
  | @flushMore p c k k2 hp hk hkl he hc => exact .flushed k rfl (hin _ k hc (by simp)) (by simp [ArS.put, ArS.lay]) rfl
  | flushNo => exact .stay rfl (fun v e => by cases e) (fun e => by first | (cases e; done) | (simp [ATk.op]))
/-- other threads' caches stay -/
theorem astep_other (ho : AStep W s i rd tk o) {j : Nat} (hj : j ≠ i) : o.s.caches[j]? = s.caches[j]? := by
  have h : ∀ c : List Int, (s.caches.set i c)[j]? = s.caches[j]? := fun c => List.getElem?_set_ne (Ne.symm hj)
  cases ho <;> first | rfl | exact h _
theorem astep_same (ho : AStep W s i rd tk o) : o.s.n = s.n ∧ o.s.caches.length = s.caches.length ∧ o.s.sb = s.sb ∧ o.s.size = s.size ∧ o.s.c4 = s.c4 ∧ o.s.c0 = s.c0 ∧ o.s.c5 = s.c5 := by
  cases ho <;> simp [ArS.put, ArS.lay, ArS.n, ArS.sb, ArS.size]
/-- what a task goes on as -/
theorem astep_next (ho : AStep W s i rd tk o) {t2 : ATk} (h : o.tk = some t2) : t2.op = tk.op ∧ o.ans = none ∧ (∀ q, tk = .give q → ∃ q2, t2 = .give q2 ∧ q2.slot = q.slot) ∧ (tk.op = 10 → s.caches[i]? = some [] ∨ rd = true) ∧ (tk.op = 10 → o.s = s) := by
  cases ho
  all_goals cases h
  all_goals refine ⟨rfl, rfl, fun q hq => ?_, fun hop => ?_, fun hop => ?_⟩
  all_goals first
    | (cases hq; done)
    | (cases hq; exact ⟨_, rfl, rfl⟩)
    | rfl
    | exact .inr rfl
    | (simp [ATk.op] at hop; done)
    | skip
  exact (Bool.eq_false_or_eq_true rd).elim .inr (fun e => .inl (‹rd = false → s.caches[i]? = some []› e))
theorem astep_ends (ho : AStep W s i rd tk o) (h : o.tk = none) : (tk.op = 10 ∧ ((∃ k : Nat, o.ans = some (2, (k : Int))) ∨ (o.ans = some (4, 0) ∧ linkIndex (wHead W) < 0 ∧ o.acc = [(1, 0, 0, 0, wHead W)] ∧ o.s = s ∧ (rd = false → s.caches[i]? = some [])))) ∨ (tk.op ≠ 10 ∧ o.ans = none) := by
  cases ho with
  | takeCached hq hc hk => exact .inl ⟨rfl, .inl ⟨_, rfl⟩⟩
  | takeLoad => cases h
  | takeFull hr hq hx => exact .inl ⟨rfl, .inr ⟨rfl, hx, rfl, rfl, hr⟩⟩
  | takeNext => cases h
  | takeYes => exact .inl ⟨rfl, .inl ⟨_, rfl⟩⟩
  | takeNo => cases h
  | giveCached => exact .inr ⟨by simp [ATk.op], rfl⟩
  | giveLoad => cases h
  | giveStore => cases h
  | giveYes => exact .inr ⟨by simp [ATk.op], rfl⟩
  | giveNo => cases h
  | flushEmpty => exact .inr ⟨by simp [ATk.op], rfl⟩
  | flushFirst => cases h
  | flushLoad => cases h
  | flushStore => cases h
  | flushLast => exact .inr ⟨by simp [ATk.op], rfl⟩
  | flushMore => cases h
  | flushNo => cases h
/-- behind a flush the cache is empty -/
theorem astep_flushed (ho : AStep W s i rd tk o) (hop : tk.op = 12) (h : o.tk = none) : o.s.caches[i]? = some [] := by
  cases ho <;> first
    | (cases hop; done)
    | (cases h; done)
    | assumption
    | skip
  case flushLast hc => exact List.getElem?_set_self (List.getElem?_eq_some_iff.1 hc).1
theorem astep_took (ho : AStep W s i rd tk o) (hop : tk.op = 10) (hc : s.caches[i]? = some []) : o.s.caches = s.caches := by
  cases ho <;> first
    | (cases hop; done)
    | rfl
    | skip
  case takeCached _ h _ =>
    rw [hc] at h
    simp at h
end
theorem make_some {s : ArS} {mv : Mv} {t : ATk} (h : arMake s mv = some t) : mv.op = t.op ∧ (∀ q, t = .give q → mv.arg = q.slot ∧ s.has mv.arg = true ∧ s.slot mv.arg = (2, mv.th)) := by
  unfold arMake at h
  split at h
  · rename_i e
    cases h
    exact ⟨e, fun q hq => by cases hq⟩
  · split at h
    · rename_i e
      split at h
      · rename_i hc
        cases h
        simp only [Bool.and_eq_true, decide_eq_true_eq] at hc
        exact ⟨e, fun q hq => by cases hq; exact ⟨rfl, hc.1, Prod.ext hc.2.1 hc.2.2⟩⟩
      · cases h
    · split at h
      · rename_i e
        cases h
        exact ⟨e, fun q hq => by cases hq⟩
      · cases h

structure AH (p : PM (arK ab)) : Prop where
  pa : PA p
  mv : p.moves ≤ 65536
  cl : ∀ (j : Nat) (c : Cal), p.calls[j]? = some c → 0 ≤ c.beg ∧ c.beg < p.moves ∧ c.en < p.moves ∧ c.beg ≤ (p.moves : Int)
  busy : ∀ (i : Nat) (se : PSeat ATk) (t : ATk), p.seats[i]? = some se → se.task = some t → se.ak = 1 ∧ se.av = 0 ∧ ∃ (l : Nat) (c : Cal), se.last = (l : Int) ∧ p.calls[l]? = some c ∧ c.th = (i : Int) ∧ c.op = t.op ∧ (∀ q, t = .give q → c.arg = q.slot) ∧ c.ak = 0 ∧ c.en = -1 ∧
    ∀ (j : Nat) (c' : Cal), p.calls[j]? = some c' → c'.th = (i : Int) → j ≠ l → j < l ∧ c'.en < c.beg
section
variable {p : PM (arK ab)}
/-- a step of a busy thread: the call's entry, what becomes of it -/
structure CallStep (p : PM (arK ab)) (i : Nat) (se : PSeat ATk) (t : ATk) (o : AOut) (l : Nat) (c : Cal) : Prop where
  last : se.last = (l : Int)
  at' : p.calls[l]? = some c
  th : c.th = (i : Int)
  op : c.op = t.op
  give : ∀ q, t = .give q → c.arg = q.slot
  fresh : c.ak = 0
  open' : c.en = -1
  calls : (p.step i se t).calls = p.calls.set l (if o.tk.isNone then { c with en := p.moves, ak := (o.ans.getD (1, 0)).1, av := (o.ans.getD (1, 0)).2 } else c)
theorem AH.call (h : AH p) {i : Nat} {se : PSeat ATk} {t : ATk} {o : AOut} (hs : p.seats[i]? = some se) (ht : se.task = some t) (k : PStepA p i se t o) : ∃ l c, CallStep p i se t o l c := by
  obtain ⟨a1, a2, l, c, e1, e2, e3, e4, e5, e6, e7, e8⟩ := h.busy i se t hs ht
  refine ⟨l, c, e1, e2, e3, e4, e5, e6, e7, ?_⟩
  have hc : p.calls.getD se.last.toNat default = c := by rw [e1]; exact getD_of (by simpa using e2)
  rw [k.calls, hc, a1, a2, e1]
  rfl
theorem AH.skip (h : AH p) (hm : p.moves < 65536) : AH p.skip :=
  ⟨⟨h.pa.inv.skip, h.pa.len⟩, by show p.moves + 1 ≤ _; omega, fun j c hj => by have := h.cl j c hj; show _ ∧ _ < ((p.moves + 1 : Nat) : Int) ∧ _ < ((p.moves + 1 : Nat) : Int) ∧ _ ≤ ((p.moves + 1 : Nat) : Int); omega, h.busy⟩
theorem AH.step (h : AH p) (hm : p.moves < 65536) {i : Nat} {se : PSeat ATk} {t : ATk} {o : AOut} (hs : p.seats[i]? = some se) (ht : se.task = some t) (k : PStepA p i se t o) : AH (p.step i se t) := by
  obtain ⟨l, c, K⟩ := h.call hs ht k
  have hl := (List.getElem?_eq_some_iff.1 K.at').1
  have hi := (List.getElem?_eq_some_iff.1 hs).1
  obtain ⟨a1, a2, l', c', e1, e2, e3, e4, e5, e6, e7, e8⟩ := h.busy i se t hs ht
  obtain rfl : l' = l := by have := K.last; omega
  obtain rfl : c' = c := by rw [K.at'] at e2; exact (Option.some.inj e2).symm
  refine ⟨k.pa h.pa h.mv hs ht, by rw [k.moves]; omega, fun j d hj => ?_, fun j sj tj hsj htj => ?_⟩
  · rw [K.calls] at hj
    rw [k.moves]
    rcases set_cases hj with ⟨rfl, e⟩ | e
    · have := h.cl l' c' K.at'
      subst e
      split
      · simp only; push_cast; omega
      · push_cast; omega
    · have := h.cl j d e
      push_cast; omega
  · rw [k.seats] at hsj
    by_cases e : i = j
    · subst e
      rw [List.getElem?_set_self hi] at hsj
      cases hsj
      simp only at htj
      obtain ⟨n1, n2, n3, _⟩ := astep_next k.st htj
      rw [n2]
      refine ⟨a1, a2, l', c', K.last, ?_, K.th, K.op.trans n1.symm, ?_, e6, e7, ?_⟩
      · rw [K.calls, htj]
        simp only [Option.isNone_some, Bool.false_eq_true, if_false]
        rw [List.getElem?_set_self hl]
      · intro q hq
        subst hq
        cases t with
        | take _ => cases n1
        | flush _ => cases n1
        | give q0 =>
          obtain ⟨q2, hq2, hq3⟩ := n3 q0 rfl
          cases hq2
          rw [hq3]
          exact K.give q0 rfl
      · intro j' d hj' hd hne
        rw [K.calls] at hj'
        rw [List.getElem?_set_ne (Ne.symm hne)] at hj'
        exact e8 j' d hj' hd hne
    · rw [List.getElem?_set_ne e] at hsj
      obtain ⟨b1, b2, l2, d, f1, f2, f3, f4, f5, f6, f7, f8⟩ := h.busy j sj tj hsj htj
      have hne : l' ≠ l2 := by
        rintro rfl
        rw [K.at'] at f2
        cases f2
        have := K.th
        omega
      refine ⟨b1, b2, l2, d, f1, ?_, f3, f4, f5, f6, f7, ?_⟩
      · rw [K.calls, List.getElem?_set_ne hne]
        exact f2
      · intro j' d' hj' hd hne'
        rw [K.calls] at hj'
        rcases set_cases hj' with ⟨rfl, e'⟩ | e'
        · exfalso
          have hth : d'.th = c'.th := by rw [← e']; split <;> rfl
          have := K.th
          omega
        · exact f8 j' d' e' hd hne'
theorem AH.begin (h : AH p) (hm : p.moves < 65536) {i : Nat} {se : PSeat ATk} {t : ATk} {mv : Mv} (hth : mv.th = (i : Int)) (hs : p.seats[i]? = some se) (hmk : arMake p.s mv = some t) (hpa : PA (p.begin i mv t)) : AH (p.begin i mv t) := by
  have hi := (List.getElem?_eq_some_iff.1 hs).1
  obtain ⟨m1, m2⟩ := make_some hmk
  have hcs : (p.begin i mv t).calls = p.calls ++ [⟨mv.th, mv.op, mv.arg, mv.data, p.moves, -1, -1, 0, 0⟩] := rfl
  have hss : (p.begin i mv t).seats = p.seats.set i ⟨some t, false, p.calls.length, 1, 0⟩ := rfl
  have hget : ∀ (j : Nat) (c : Cal), (p.begin i mv t).calls[j]? = some c → p.calls[j]? = some c ∨ (j = p.calls.length ∧ c = ⟨mv.th, mv.op, mv.arg, mv.data, p.moves, -1, -1, 0, 0⟩) := fun j c hj => by
    rw [hcs] at hj
    by_cases hl : j < p.calls.length
    · rw [List.getElem?_append_left hl] at hj; exact .inl hj
    · rw [List.getElem?_append_right (by omega)] at hj
      have : j - p.calls.length = 0 := by
        have := (List.getElem?_eq_some_iff.1 hj).1
        simp at this
        omega
      rw [this] at hj
      exact .inr ⟨by omega, (Option.some.inj hj).symm⟩
  refine ⟨hpa, by show p.moves + 1 ≤ _; omega, fun j c hj => ?_, fun j sj tj hsj htj => ?_⟩
  · show _ ∧ _ < ((p.moves + 1 : Nat) : Int) ∧ _ < ((p.moves + 1 : Nat) : Int) ∧ _ ≤ ((p.moves + 1 : Nat) : Int)
    rcases hget j c hj with e | ⟨rfl, rfl⟩
    · have := h.cl j c e
      omega
    · simp only
      omega
  · rw [hss] at hsj
    by_cases e : i = j
    · subst e
      rw [List.getElem?_set_self hi] at hsj
      cases hsj
      simp only at htj
      cases htj
      refine ⟨rfl, rfl, p.calls.length, ⟨mv.th, mv.op, mv.arg, mv.data, p.moves, -1, -1, 0, 0⟩, rfl, ?_, hth, m1, fun q hq => (m2 q hq).1, rfl, rfl, fun j' c' hj' hc' hne => ?_⟩
      · rw [hcs, List.getElem?_append_right (Nat.le_refl _)]
        simp
      · rcases hget j' c' hj' with e | ⟨e, _⟩
        · exact ⟨(List.getElem?_eq_some_iff.1 e).1, (h.cl j' c' e).2.2.1⟩
        · exact absurd e hne
    · rw [List.getElem?_set_ne e] at hsj
      obtain ⟨b1, b2, l2, d, f1, f2, f3, f4, f5, f6, f7, f8⟩ := h.busy j sj tj hsj htj
      refine ⟨b1, b2, l2, d, f1, ?_, f3, f4, f5, f6, f7, fun j' c' hj' hc' hne => ?_⟩
      · rw [hcs, List.getElem?_append_left (List.getElem?_eq_some_iff.1 f2).1]
        exact f2
      · rcases hget j' c' hj' with e' | ⟨_, e'⟩
        · exact f8 j' c' e' hc' hne
        · exfalso
          rw [e'] at hc'
          simp only at hc'
          omega
/-- moves, one by one: what is kept by a move that does nothing, a step and a beginning, holds of every run -/
theorem AH.goes {I : PM (arK ab) → Prop} (hskip : ∀ p : PM (arK ab), AH p → p.moves < 65536 → I p → I p.skip)
    (hstep : ∀ (p : PM (arK ab)) (i : Nat) (se : PSeat ATk) (t : ATk) (o : AOut), AH p → p.moves < 65536 → p.seats[i]? = some se → se.task = some t → PStepA p i se t o → AH (p.step i se t) → I p → I (p.step i se t))
    (hbegin : ∀ (p : PM (arK ab)) (i : Nat) (se : PSeat ATk) (t : ATk) (mv : Mv), AH p → p.moves < 65536 → p.seats[i]? = some se → se.task = none → mv.th = (i : Int) → mv.op ≠ 0 → arMake p.s mv = some t → AH (p.begin i mv t) → I p → I (p.begin i mv t)) :
    ∀ {p : PM (arK ab)}, AH p → I p → ∀ mv, AH (p.move mv).1 ∧ I (p.move mv).1 := by
  intro p h hI mv
  have hpa := h.pa.move mv
  rcases p.move_cases mv with ⟨_, e⟩ | ⟨hm, e⟩ | ⟨hm, i, se, t, hth, hs, ht, hop, e⟩ | ⟨hm, i, se, t, hth, hs, ht, hop, hmk, e⟩
  · rw [e]; exact ⟨h, hI⟩
  · rw [e]; exact ⟨h.skip hm, hskip p h hm hI⟩
  · rw [e]
    obtain ⟨o, k⟩ := pm_astep h.pa hs ht
    have h2 := h.step hm hs ht k
    exact ⟨h2, hstep p i se t o h hm hs ht k h2 hI⟩
  · rw [e] at hpa ⊢
    have h2 := h.begin hm hth hs hmk hpa
    exact ⟨h2, hbegin p i se t mv h hm hs ht hth hop hmk h2 hI⟩
theorem AH.move (h : AH p) (mv : Mv) : AH (p.move mv).1 := (AH.goes (I := fun _ => True) (fun _ _ _ _ => trivial) (fun _ _ _ _ _ _ _ _ _ _ _ _ => trivial) (fun _ _ _ _ _ _ _ _ _ _ _ _ _ _ => trivial) h trivial mv).1
theorem AH.runs (h : AH p) (ms : List Mv) : AH (p.goes ms) := by
  induction ms generalizing p with
  | nil => exact h
  | cons m ms ih => exact ih (h.move m)
end
end Go
namespace Go
open Go.RowKit
open Go.Proofs.Ytjcggokhminmoaa
variable {ab : Nat}

/-- from a machine with no calls on -/
theorem AH.ofPA {p : PM (arK ab)} (h : PA p) (hm : p.moves ≤ 65536) (hc : p.calls = []) (hb : ∀ (i : Nat) (se : PSeat ATk), p.seats[i]? = some se → se.task = none) : AH p :=
  ⟨h, hm, fun j c hj => (by rw [hc] at hj; cases hj), fun i se t hs ht => (by rw [hb i se hs] at ht; cases ht)⟩

/-- a give of the slot that call j told, begun behind its end -/
def GivenBy (cs : List Cal) (j : Nat) (c : Cal) (b : Int) : Prop := ∃ (g : Nat) (z : Cal), j < g ∧ cs[g]? = some z ∧ z.op = 11 ∧ z.arg = c.av ∧ z.th = c.th ∧ c.en < z.beg ∧ z.beg < b
def TakeTold (c : Cal) : Prop := c.op = 10 ∧ c.ak = 2
structure OnceI (p : PM (arK ab)) : Prop where
  val : ∀ (j : Nat) (c : Cal), p.calls[j]? = some c → TakeTold c → ∃ k : Nat, c.av = (k : Int) ∧ k < p.s.n ∧ (p.s.slots[k]? = some (2, c.th) ∨ GivenBy p.calls j c p.moves)
  two : ∀ (j j' : Nat) (c c' : Cal), p.calls[j]? = some c → p.calls[j']? = some c' → TakeTold c → TakeTold c' → j ≠ j' → c.av = c'.av → c.en ≤ c'.en → GivenBy p.calls j c c'.en
section
variable {p : PM (arK ab)}
theorem GivenBy.mono {cs : List Cal} {j : Nat} {c : Cal} {b b' : Int} (h : GivenBy cs j c b) (hb : b ≤ b') : GivenBy cs j c b' := by
  obtain ⟨g, z, h1, h2, h3, h4, h5, h6, h7⟩ := h
  exact ⟨g, z, h1, h2, h3, h4, h5, h6, by omega⟩
/-- an entry whose op, argument, thread and beginning stay -/
theorem GivenBy.set {cs : List Cal} {j l : Nat} {c d d' : Cal} {b : Int} (h : GivenBy cs j c b) (hd : cs[l]? = some d) (he : d'.op = d.op ∧ d'.arg = d.arg ∧ d'.th = d.th ∧ d'.beg = d.beg) : GivenBy (cs.set l d') j c b := by
  obtain ⟨g, z, h1, h2, h3, h4, h5, h6, h7⟩ := h
  by_cases e : l = g
  · subst e
    rw [hd] at h2
    cases h2
    exact ⟨l, d', h1, List.getElem?_set_self (List.getElem?_eq_some_iff.1 hd).1, by rw [he.1]; exact h3, by rw [he.2.1]; exact h4, by rw [he.2.2.1]; exact h5, by rw [he.2.2.2]; exact h6, by rw [he.2.2.2]; exact h7⟩
  · exact ⟨g, z, h1, by rw [List.getElem?_set_ne e]; exact h2, h3, h4, h5, h6, h7⟩
theorem GivenBy.app {cs : List Cal} {j : Nat} {c d : Cal} {b : Int} (h : GivenBy cs j c b) : GivenBy (cs ++ [d]) j c b := by
  obtain ⟨g, z, h1, h2, h3⟩ := h
  exact ⟨g, z, h1, by rw [List.getElem?_append_left (List.getElem?_eq_some_iff.1 h2).1]; exact h2, h3⟩
theorem OnceI.of_nil (hc : p.calls = []) : OnceI p := ⟨fun j c hj => (by rw [hc] at hj; cases hj), fun j j' c c' hj => (by rw [hc] at hj; cases hj)⟩
theorem OnceI.skip (h : OnceI p) : OnceI p.skip :=
  ⟨fun j c hj ht => by
    obtain ⟨k, h1, h2, h3⟩ := h.val j c hj ht
    exact ⟨k, h1, h2, h3.imp id fun x => x.mono (by show (p.moves : Int) ≤ ((p.moves + 1 : Nat) : Int); omega)⟩, h.two⟩
theorem OnceI.step (h : OnceI p) (hA : AH p) {i : Nat} {se : PSeat ATk} {t : ATk} {o : AOut} (hs : p.seats[i]? = some se) (ht : se.task = some t) (k : PStepA p i se t o) : OnceI (p.step i se t) := by
  obtain ⟨l, c, K⟩ := hA.call hs ht k
  have hts : pmTs p i = some (se.ready, t) := by unfold pmTs; rw [hs]; show (se.task.map fun t => (se.ready, t)) = _; rw [ht]; rfl
  have hE := astep_eff hA.pa.inv hts k.st
  have hl := (List.getElem?_eq_some_iff.1 K.at').1
  have hn := (astep_same k.st).1
  have hcl := hA.cl l c K.at'
  -- the new entry
  obtain ⟨d, hd⟩ : ∃ d : Cal, d = if o.tk.isNone then { c with en := p.moves, ak := (o.ans.getD (1, 0)).1, av := (o.ans.getD (1, 0)).2 } else c := ⟨_, rfl⟩
  have hd1 : d.op = c.op ∧ d.arg = c.arg ∧ d.th = c.th ∧ d.beg = c.beg := by rw [hd]; split <;> exact ⟨rfl, rfl, rfl, rfl⟩
  have hcs : (p.step i se t).calls = p.calls.set l d := by rw [K.calls, hd]
  have hmv : ((p.step i se t).moves : Int) = (p.moves : Int) + 1 := by rw [k.moves]; push_cast; rfl
  -- the entry tells a slot only if this step told it
  have htold : TakeTold d → t.op = 10 ∧ ∃ v, o.ans = some (2, v) ∧ d.av = v ∧ d.en = p.moves ∧ o.tk = none := by
    rintro ⟨q1, q2⟩
    rw [hd] at q2
    cases ho : o.tk with
    | some t2 => rw [ho] at q2; simp [K.fresh] at q2
    | none =>
      rw [ho] at q2
      simp only [Option.isNone_none, if_true] at q2
      have hop : t.op = 10 := by rw [← K.op, ← hd1.1]; exact q1
      cases ha : o.ans with
      | none => rw [ha] at q2; simp at q2
      | some x =>
        obtain ⟨x1, x2⟩ := x
        rw [ha] at q2
        simp at q2
        subst q2
        refine ⟨hop, x2, rfl, ?_, ?_, rfl⟩
        · rw [hd, ho, ha]; rfl
        · rw [hd, ho, ha]; rfl
  have hnotC : ¬ TakeTold c := fun x => by have := K.fresh; have := x.2; omega
  -- a slot that stays as it was, or was given
  have hval : ∀ (j : Nat) (e : Cal), j ≠ l → p.calls[j]? = some e → TakeTold e → ∃ k : Nat, e.av = (k : Int) ∧ k < p.s.n ∧ (o.s.slots[k]? = some (2, e.th) ∨ GivenBy p.calls j e (p.moves + 1)) ∧ (∀ v, o.ans = some (2, v) → v = e.av → GivenBy p.calls j e p.moves) := by
    intro j e hj he hte
    obtain ⟨kk, h1, h2, h3⟩ := h.val j e he hte
    refine ⟨kk, h1, h2, ?_, ?_⟩
    · rcases h3 with h3 | h3
      · cases hE with
        | stay hs _ _ => left; rw [hs]; exact h3
        | told k' hk' h2' hs' _ _ _ =>
          left
          rw [hs', List.getElem?_set_ne]
          · exact h3
          · rintro rfl
            have := st_of h3
            simp only at this
            omega
        | given k' q hq' hqs hk' x y hx hs' _ _ =>
          by_cases ek : k' = kk
          · subst ek
            right
            rw [h3] at hk'
            have hth : e.th = (i : Int) := by
              have := Option.some.inj hk'
              exact congrArg Prod.snd this
            obtain ⟨a1, a2, l', c', e1, e2, e3, e4, e5, e6, e7, e8⟩ := hA.busy i se t hs ht
            obtain rfl : l' = l := by have := K.last; omega
            have hjl := e8 j e he hth hj
            obtain rfl : c' = c := by rw [K.at'] at e2; exact (Option.some.inj e2).symm
            refine ⟨l', c', hjl.1, e2, ?_, ?_, ?_, hjl.2, by omega⟩
            · rw [e4, hq']; rfl
            · rw [e5 q hq', hqs, h1]
            · rw [e3, hth]
          · left
            rw [hs', List.getElem?_set_ne ek]
            exact h3
        | flushed k' _ hk' hs' _ =>
          left
          rw [hs', List.getElem?_set_ne]
          · exact h3
          · rintro rfl
            rw [h3] at hk'
            cases hk'
      · exact .inr (h3.mono (by omega))
    · intro v hv hve
      rcases h3 with h3 | h3
      · exfalso
        cases hE with
        | stay _ ha _ => exact ha v hv
        | told k' hk' h2' hs' _ _ ha =>
          rw [ha] at hv
          have : (k' : Int) = v := by have := Option.some.inj hv; exact congrArg Prod.snd this
          obtain rfl : k' = kk := by omega
          have := st_of h3
          simp only at this
          omega
        | given _ _ _ _ _ _ _ _ _ _ ha => rw [ha] at hv; cases hv
        | flushed _ _ _ _ ha => rw [ha] at hv; cases hv
      · exact h3
  refine ⟨fun j e hj hte => ?_, fun j j' e e' hj hj' hte hte' hne hav hen => ?_⟩
  · rw [hcs] at hj ⊢
    rw [k.s, hn, hmv]
    by_cases ejl : j = l
    · subst ejl
      rw [List.getElem?_set_self hl] at hj
      cases hj
      obtain ⟨hop, v, hv, hav, hen, hot⟩ := htold hte
      cases hE with
      | stay _ ha _ => exact absurd hv (ha v)
      | told k' hk' h2' hs' _ _ ha =>
        rw [ha] at hv
        have hv' : (k' : Int) = v := by have := Option.some.inj hv; exact congrArg Prod.snd this
        refine ⟨k', by rw [hav, hv'], hk', .inl ?_⟩
        rw [hs', List.getElem?_set_self hk', hd1.2.2.1, K.th]
      | given _ _ _ _ _ _ _ _ _ _ ha => rw [ha] at hv; cases hv
      | flushed _ _ _ _ ha => rw [ha] at hv; cases hv
    · rw [List.getElem?_set_ne (Ne.symm ejl)] at hj
      obtain ⟨kk, h1, h2, h3, _⟩ := hval j e ejl hj hte
      exact ⟨kk, h1, h2, h3.imp id fun x => x.set K.at' hd1⟩
  · rw [hcs] at hj hj' ⊢
    by_cases ejl : j = l
    · subst ejl
      rw [List.getElem?_set_self hl] at hj
      cases hj
      obtain ⟨hop, v, hv, hav2, hen2, hot⟩ := htold hte
      rw [List.getElem?_set_ne hne] at hj'
      have := (hA.cl j' e' hj').2.2.1
      omega
    · rw [List.getElem?_set_ne (Ne.symm ejl)] at hj
      by_cases ejl' : j' = l
      · subst ejl'
        rw [List.getElem?_set_self hl] at hj'
        cases hj'
        obtain ⟨hop, v, hv, hav2, hen2, hot⟩ := htold hte'
        obtain ⟨kk, h1, h2, h3, h4⟩ := hval j e ejl hj hte
        rw [hen2]
        exact (h4 v hv (by omega)).set K.at' hd1
      · rw [List.getElem?_set_ne (Ne.symm ejl')] at hj'
        exact (h.two j j' e e' hj hj' hte hte' hne hav hen).set K.at' hd1
theorem OnceI.begin (h : OnceI p) {i : Nat} {t : ATk} {mv : Mv} : OnceI (p.begin i mv t) := by
  have hcs : (p.begin i mv t).calls = p.calls ++ [⟨mv.th, mv.op, mv.arg, mv.data, p.moves, -1, -1, 0, 0⟩] := rfl
  have hget : ∀ (j : Nat) (c : Cal), (p.begin i mv t).calls[j]? = some c → TakeTold c → p.calls[j]? = some c := fun j c hj ht => by
    rw [hcs] at hj
    by_cases hl : j < p.calls.length
    · rw [List.getElem?_append_left hl] at hj; exact hj
    · rw [List.getElem?_append_right (by omega)] at hj
      have h0 : j - p.calls.length = 0 := by
        have := (List.getElem?_eq_some_iff.1 hj).1
        simp at this
        omega
      rw [h0] at hj
      cases hj
      have := ht.2
      simp at this
  refine ⟨fun j c hj ht => ?_, fun j j' c c' hj hj' ht ht' hne hav hen => ?_⟩
  · obtain ⟨k, h1, h2, h3⟩ := h.val j c (hget j c hj ht) ht
    refine ⟨k, h1, h2, h3.imp id fun x => ?_⟩
    rw [hcs]
    exact x.app.mono (by show (p.moves : Int) ≤ ((p.moves + 1 : Nat) : Int); omega)
  · rw [hcs]
    exact (h.two j j' c c' (hget j c hj ht) (hget j' c' hj' ht') ht ht' hne hav hen).app
theorem OnceI.runs (h : AH p) (hI : OnceI p) (ms : List Mv) : OnceI (p.goes ms) := by
  induction ms generalizing p with
  | nil => exact hI
  | cons m ms ih =>
    obtain ⟨h1, h2⟩ := AH.goes (I := OnceI) (fun _ _ _ h => h.skip) (fun p i se t o hA _ hs ht k _ h => h.step hA hs ht k) (fun p i se t mv _ _ _ _ _ _ _ _ h => h.begin) h hI m
    exact ih h1 h2

/-! Full is honest -/
structure HonI (p : PM (arK ab)) : Prop where
  tk : ∀ (i : Nat) (q : TkTake), pmTs p i = some (true, .take q) → p.s.caches[i]? = some []
  full : ∀ (j : Nat) (c : Cal), p.calls[j]? = some c → c.ak = 4 → ∃ (x : Nat) (a : Acc), p.log[x]? = some a ∧ a.mv = c.en ∧ a.th = c.th ∧ a.kd = 1 ∧ a.ad = 0 ∧ a.saw % 4294967296 = 0
theorem link_neg {w : Int} (h : linkIndex w < 0) : w % 4294967296 = 0 := by
  unfold linkIndex at h
  have := Int.emod_nonneg w (show (4294967296 : Int) ≠ 0 by decide)
  omega
theorem none_free {W : List Int} {s : ArS} {ts : Nat → Option (Bool × ATk)} {mv : Nat} (H : AInv W s ts mv) (h : linkIndex (wHead W) < 0) : ∀ k, k < s.n → s.st k ≠ 0 := by
  obtain ⟨L, h1, h2, h3⟩ := H.free
  cases L with
  | nil => exact fun k hk e => by have := (h3 k hk).2 e; cases this
  | cons k L =>
    have := h1.1
    omega
theorem pmTs_of {i : Nat} {se : PSeat ATk} {t : ATk} (hs : p.seats[i]? = some se) (ht : se.task = some t) : pmTs p i = some (se.ready, t) := by unfold pmTs; rw [hs]; show (se.task.map fun t => (se.ready, t)) = _; rw [ht]; rfl
/-- a take that ends tells a slot, or nothing is free and its cache is empty -/
theorem HonI.ends (h : HonI p) (hA : PA p) {i : Nat} {se : PSeat ATk} {t : ATk} {o : AOut} (hs : p.seats[i]? = some se) (ht : se.task = some t) (k : PStepA p i se t o) (ho : o.tk = none) (hop : t.op = 10) :
    (∃ v : Nat, o.ans = some (2, (v : Int))) ∨ (o.ans = some (4, 0) ∧ (∀ j, j < o.s.n → o.s.st j ≠ 0) ∧ o.s.caches[i]? = some [] ∧ linkIndex (wHead p.words) < 0 ∧ o.acc = [(1, 0, 0, 0, wHead p.words)]) := by
  rcases astep_ends k.st ho with ⟨_, h1⟩ | ⟨h1, _⟩
  · rcases h1 with h1 | ⟨e1, e2, e3, e4, e5⟩
    · exact .inl h1
    · refine .inr ⟨e1, ?_, ?_, e2, e3⟩
      · rw [e4]; exact none_free hA.inv e2
      · rw [e4]
        have hts := pmTs_of hs ht
        cases hr : se.ready with
        | false => exact e5 hr
        | true =>
          rw [hr] at hts
          cases t with
          | take q => exact h.tk i q hts
          | give _ => cases hop
          | flush _ => cases hop
  · exact absurd hop h1
theorem HonI.step (h : HonI p) (hA : AH p) {i : Nat} {se : PSeat ATk} {t : ATk} {o : AOut} (hs : p.seats[i]? = some se) (ht : se.task = some t) (k : PStepA p i se t o) : HonI (p.step i se t) := by
  obtain ⟨l, c, K⟩ := hA.call hs ht k
  have hts := pmTs_of hs ht
  have hl := (List.getElem?_eq_some_iff.1 K.at').1
  have hi := (List.getElem?_eq_some_iff.1 hs).1
  refine ⟨fun j q hj => ?_, fun j e hj he => ?_⟩
  · rw [pmTs_set p i _ hi k.seats] at hj
    rw [k.s]
    unfold updT at hj
    split at hj
    · rename_i ej
      subst ej
      cases ho : o.tk with
      | none => simp only [ho] at hj; cases hj
      | some t2 =>
        simp only [ho, Option.map_some] at hj
        cases hj
        obtain ⟨n1, n2, n3, n4, n5⟩ := astep_next k.st ho
        rw [n5 n1.symm]
        rcases n4 n1.symm with n4 | n4
        · exact n4
        · rw [n4] at hts
          cases t with
          | take q0 => exact h.tk _ q0 hts
          | give _ => cases n1
          | flush _ => cases n1
    · rename_i ej
      rw [astep_other k.st ej]
      exact h.tk j q hj
  · rw [K.calls] at hj
    have hlog : ∀ (x : Nat) (a : Acc), p.log[x]? = some a → (p.step i se t).log[x]? = some a := fun x a hx => by
      rw [k.log, List.getElem?_append_left (List.getElem?_eq_some_iff.1 hx).1]; exact hx
    rcases set_cases hj with ⟨rfl, e'⟩ | e'
    · cases ho : o.tk with
      | some t2 =>
        rw [ho] at e'
        simp only [Option.isNone_some, Bool.false_eq_true, if_false] at e'
        subst e'
        have := K.fresh
        omega
      | none =>
        rw [ho] at e'
        simp only [Option.isNone_none, if_true] at e'
        subst e'
        simp only at he ⊢
        rcases astep_ends k.st ho with ⟨hop, h1⟩ | ⟨hop, h1⟩
        · rcases h1 with ⟨v, h1⟩ | ⟨e1, e2, e3, e4, e5⟩
          · rw [h1] at he; simp at he
          · refine ⟨p.log.length, ⟨p.moves, i, 1, 0, 0, 0, wHead p.words⟩, ?_, rfl, K.th.symm, rfl, rfl, link_neg e2⟩
            rw [k.log, e3, List.getElem?_append_right (Nat.le_refl _)]
            simp
        · rw [h1] at he; simp at he
    · obtain ⟨x, a, h1, h2⟩ := h.full j e e' he
      exact ⟨x, a, hlog x a h1, h2⟩
theorem HonI.begin (h : HonI p) {i : Nat} {se : PSeat ATk} {t : ATk} {mv : Mv} (hs : p.seats[i]? = some se) : HonI (p.begin i mv t) := by
  have hi := (List.getElem?_eq_some_iff.1 hs).1
  refine ⟨fun j q hj => ?_, fun j c hj hc => ?_⟩
  · rw [pmTs_set p i ⟨some t, false, p.calls.length, 1, 0⟩ hi rfl] at hj
    unfold updT at hj
    split at hj
    · cases hj
    · exact h.tk j q hj
  · have hcs : (p.begin i mv t).calls = p.calls ++ [⟨mv.th, mv.op, mv.arg, mv.data, p.moves, -1, -1, 0, 0⟩] := rfl
    rw [hcs] at hj
    by_cases hl : j < p.calls.length
    · rw [List.getElem?_append_left hl] at hj
      exact h.full j c hj hc
    · rw [List.getElem?_append_right (by omega)] at hj
      have h0 : j - p.calls.length = 0 := by
        have := (List.getElem?_eq_some_iff.1 hj).1
        simp at this
        omega
      rw [h0] at hj
      cases hj
      simp at hc
theorem HonI.move (h : AH p) (hI : HonI p) (m : Mv) : HonI (p.move m).1 :=
  (AH.goes (I := HonI) (fun _ _ _ h => ⟨h.tk, h.full⟩) (fun _p _i _se _t _o hA _ hs ht k _ h => h.step hA hs ht k) (fun _p _i _se _t _mv _ _ hs _ _ _ _ _ h => h.begin hs) h hI m).2
theorem HonI.runs (h : AH p) (hI : HonI p) (ms : List Mv) : HonI (p.goes ms) := by
  induction ms generalizing p with
  | nil => exact hI
  | cons m ms ih => exact ih (h.move m) (hI.move h m)
end
end Go
namespace Go.Proofs.Ytjcggokhminmoaa
open Go.ChangeShapes Go.WideShapes Go.ChangeAt Go.RowKit Go.Shelf

/-- a list of moves that can be read -/
def MvsIn (w : World) (va : Value) (ms : List Mv) : Prop :=
  ∃ o c, va = .slice o ms.length c ∧ ms.length ≤ c ∧ c ≤ maxLen ∧ ∀ i (h : i < ms.length), ∃ b off, o = some ⟨b, off, none⟩ ∧ b < w.heap.size ∧
    w.cell? ⟨b, off + i * 4 + 0, none⟩ = some (.int .i64 ms[i].th) ∧ w.cell? ⟨b, off + i * 4 + 1, none⟩ = some (.int .i64 ms[i].op) ∧ w.cell? ⟨b, off + i * 4 + 2, none⟩ = some (.int .i64 ms[i].arg) ∧ w.cell? ⟨b, off + i * 4 + 3, none⟩ = some (.int .i64 ms[i].data)
theorem MvsIn.of_block {w w' : World} {va : Value} {ms : List Mv} (h : MvsIn w va ms) (hb : ∀ k, k < w.heap.size → w'.heap[k]? = w.heap[k]?) (hs : w.heap.size ≤ w'.heap.size) : MvsIn w' va ms := by
  obtain ⟨o, c, e, h1, h2, h3⟩ := h
  refine ⟨o, c, e, h1, h2, fun i hi => ?_⟩
  obtain ⟨b, off, e1, hl, c0, c1, c2, c3⟩ := h3 i hi
  exact ⟨b, off, e1, by omega, (World.cell?_of_block (hb b hl)).trans c0, (World.cell?_of_block (hb b hl)).trans c1, (World.cell?_of_block (hb b hl)).trans c2, (World.cell?_of_block (hb b hl)).trans c3⟩
theorem MvsIn.only {w w' : World} {va : Value} {ms : List Mv} (h : MvsIn w va ms) (ho : Only (fun _ => False) w w') : MvsIn w' va ms := h.of_block (fun k hl => ho.block k hl (fun x => x)) ho.size
theorem _root_.Go.World.Src.only {w w' : World} {k n : Nat} {v : Value} {xs : List Value} (h : w.Src k v n xs) (ho : Only (fun _ => False) w w') : w'.Src k v n xs := h.of_block fun b hl => ho.block b hl (fun x => x)

theorem take_next {α : Type} (l : List α) (k : Nat) (h : k < l.length) : l.take (k + 1) = l.take k ++ [l[k]] := by
  rw [List.take_succ_eq_append_getElem h]

end Go.Proofs.Ytjcggokhminmoaa
namespace Go
open Go.RowKit
open Go.Proofs.Ytjcggokhminmoaa

/-- the machine with an arena's kit, at the beginning -/
def arP (ab : Nat) (a0 a1 a2 a3 a4 a5 a6 : Int) (u : Nat) : PM (arK ab) := PM.init (arK ab) (arWords (arNew a0 a1 a2 a3 a4 a5 a6 u) u) a0.toNat (arNew a0 a1 a2 a3 a4 a5 a6 u)
section
variable {ab : Nat} {a0 a1 a2 a3 a4 a5 a6 : Int} {u : Nat}
theorem arP_seat {i : Nat} {se : PSeat ATk} (h : (arP ab a0 a1 a2 a3 a4 a5 a6 u).seats[i]? = some se) : se = ⟨none, false, -1, 0, 0⟩ := by
  simp only [arP, PM.init, List.getElem?_replicate] at h
  split at h
  · exact (Option.some.inj h).symm
  · cases h
theorem arP_ts : pmTs (arP ab a0 a1 a2 a3 a4 a5 a6 u) = fun _ => none := by
  funext i
  unfold pmTs
  cases h : (arP ab a0 a1 a2 a3 a4 a5 a6 u).seats[i]? with
  | none => rfl
  | some se => rw [arP_seat h]; rfl
theorem arP_pa (h : okCfg a0 a1 a2 a3 a4 a5 a6 = true) (hu : (u : Int) ≤ a5) : PA (arP ab a0 a1 a2 a3 a4 a5 a6 u) := by
  refine ⟨?_, ?_⟩
  · rw [arP_ts]; exact ainv_init h hu _ rfl
  · simp [arP, PM.init, arNew]
theorem arP_ah (h : okCfg a0 a1 a2 a3 a4 a5 a6 = true) (hu : (u : Int) ≤ a5) : AH (arP ab a0 a1 a2 a3 a4 a5 a6 u) := AH.ofPA (arP_pa h hu) (Nat.zero_le _) rfl (fun i se hs => by rw [arP_seat hs])
theorem arP_once : OnceI (arP ab a0 a1 a2 a3 a4 a5 a6 u) := OnceI.of_nil rfl
theorem arP_hon : HonI (arP ab a0 a1 a2 a3 a4 a5 a6 u) := ⟨fun i q h => (by rw [arP_ts] at h; cases h), fun j c h => (by cases h)⟩
theorem arP_good (h : okCfg a0 a1 a2 a3 a4 a5 a6 = true) : (arP ab a0 a1 a2 a3 a4 a5 a6 u).Good := by
  obtain ⟨b0, _⟩ := ok_bounds h
  exact PM.Good.init _ _ _ _ (by omega) (by omega)
theorem arP_goodN (h : okCfg a0 a1 a2 a3 a4 a5 a6 = true) (ms : List Mv) : ((arP ab a0 a1 a2 a3 a4 a5 a6 u).goes ms).Good := PM.Good.goes (arK_ok ab) (arP_good h) ms
theorem ar_size {h : okCfg a0 a1 a2 a3 a4 a5 a6 = true} : (arNew a0 a1 a2 a3 a4 a5 a6 u).size ≤ 8192 := by
  obtain ⟨b0, b1, b2, b3, b4, b5, b6, bm⟩ := ok_bounds h
  unfold ArS.size arNew
  simp only [baseF, manyI]
  simp
  omega
theorem arWords_len (s : ArS) : (arWords s u).length = s.size := by simp [arWords]
end
/-- runs do not depend on where the arena lies -/
def PM.re {ab : Nat} (cd : Nat) (p : PM (arK ab)) : PM (arK cd) := ⟨p.words, p.log, p.ahead, p.shifts, p.seats, p.moves, p.calls, p.s⟩
theorem PM.re_move {ab cd : Nat} (p : PM (arK ab)) (mv : Mv) : (p.move mv).1.re cd = ((p.re cd).move mv).1 := by
  by_cases h : 65536 ≤ p.moves
  · have e1 : p.move mv = (p, false) := by unfold PM.move; rw [if_pos h]
    have e2 : (p.re cd).move mv = (p.re cd, false) := by unfold PM.move; rw [if_pos (show 65536 ≤ (p.re cd).moves from h)]
    rw [e1, e2]
  have h' : ¬ 65536 ≤ (p.re cd).moves := h
  by_cases h0 : mv.th < 0
  · have e1 : p.move mv = (p.skip, false) := by unfold PM.move; rw [if_neg h, if_pos h0]
    have e2 : (p.re cd).move mv = ((p.re cd).skip, false) := by unfold PM.move; rw [if_neg h', if_pos h0]
    rw [e1, e2]
    rfl
  cases hs : p.seats[mv.th.toNat]? with
  | none =>
    have hs' : (p.re cd).seats[mv.th.toNat]? = none := hs
    have e1 : p.move mv = (p.skip, false) := by unfold PM.move; simp only [if_neg h, if_neg h0, hs]
    have e2 : (p.re cd).move mv = ((p.re cd).skip, false) := by unfold PM.move; simp only [if_neg h', if_neg h0, hs']
    rw [e1, e2]
    rfl
  | some se =>
    have hs' : (p.re cd).seats[mv.th.toNat]? = some se := hs
    cases ht : se.task with
    | some t =>
      by_cases hop : mv.op = 0
      · have e1 : p.move mv = (p.step mv.th.toNat se t, true) := by unfold PM.move; simp only [if_neg h, if_neg h0, hs, ht, if_pos hop]
        have e2 : (p.re cd).move mv = ((p.re cd).step mv.th.toNat se t, true) := by unfold PM.move; simp only [if_neg h', if_neg h0, hs', ht, if_pos hop]
        rw [e1, e2]
        rfl
      · have e1 : p.move mv = (p.skip, false) := by unfold PM.move; simp only [if_neg h, if_neg h0, hs, ht, if_neg hop]
        have e2 : (p.re cd).move mv = ((p.re cd).skip, false) := by unfold PM.move; simp only [if_neg h', if_neg h0, hs', ht, if_neg hop]
        rw [e1, e2]
        rfl
    | none =>
      by_cases hop : mv.op = 0
      · have e1 : p.move mv = (p.skip, false) := by unfold PM.move; simp only [if_neg h, if_neg h0, hs, ht, if_pos hop]
        have e2 : (p.re cd).move mv = ((p.re cd).skip, false) := by unfold PM.move; simp only [if_neg h', if_neg h0, hs', ht, if_pos hop]
        rw [e1, e2]
        rfl
      · cases hm : arMake p.s mv with
        | none =>
          have h1 : (arK ab).make p.s mv = none := hm
          have h2 : (arK cd).make (p.re cd).s mv = none := hm
          have e1 : p.move mv = (p.skip, false) := by unfold PM.move; simp only [if_neg h, if_neg h0, hs, ht, if_neg hop, h1]
          have e2 : (p.re cd).move mv = ((p.re cd).skip, false) := by unfold PM.move; simp only [if_neg h', if_neg h0, hs', ht, if_neg hop, h2]
          rw [e1, e2]
          rfl
        | some t =>
          have h1 : (arK ab).make p.s mv = some t := hm
          have h2 : (arK cd).make (p.re cd).s mv = some t := hm
          have e1 : p.move mv = (p.begin mv.th.toNat mv t, true) := by unfold PM.move; simp only [if_neg h, if_neg h0, hs, ht, if_neg hop, h1]
          have e2 : (p.re cd).move mv = ((p.re cd).begin mv.th.toNat mv t, true) := by unfold PM.move; simp only [if_neg h', if_neg h0, hs', ht, if_neg hop, h2]
          rw [e1, e2]
          rfl
theorem PM.re_goes {ab cd : Nat} (p : PM (arK ab)) (ms : List Mv) : (p.goes ms).re cd = (p.re cd).goes ms := by
  induction ms generalizing p with
  | nil => rfl
  | cons m ms ih =>
    show (((p.move m).1).goes ms).re cd = (((p.re cd).move m).1).goes ms
    rw [ih, PM.re_move]
/-- there are as many words as at the beginning -/
theorem arK_words {ab : Nat} {a0 a1 a2 a3 a4 a5 a6 : Int} {u : Nat} (h : okCfg a0 a1 a2 a3 a4 a5 a6 = true) (hu : (u : Int) ≤ a5) (ms : List Mv) : ((arP ab a0 a1 a2 a3 a4 a5 a6 u).goes ms).words.length = (arNew a0 a1 a2 a3 a4 a5 a6 u).size ∧ ((arP ab a0 a1 a2 a3 a4 a5 a6 u).goes ms).s.size = (arNew a0 a1 a2 a3 a4 a5 a6 u).size := by
  have key : ∀ (ms : List Mv) (p : PM (arK ab)), AH p → (p.goes ms).s.size = p.s.size := by
    intro ms
    induction ms with
    | nil => exact fun _ _ => rfl
    | cons m ms ih =>
      intro p hA
      show ((p.move m).1.goes ms).s.size = _
      rw [ih _ (hA.move m)]
      exact (AH.goes (I := fun q : PM (arK ab) => q.s.size = p.s.size) (fun _ _ _ h => h) (fun q i se t o _ _ _ _ k _ h => by rw [k.s, (astep_same k.st).2.2.2.1]; exact h) (fun _ _ _ _ _ _ _ _ _ _ _ _ _ h => h) hA rfl m).2
  have h1 := key ms _ (arP_ah h hu)
  exact ⟨((arP_ah h hu).runs ms).pa.inv.wl.trans h1, h1⟩
/-- what a script of the arena's calls comes to -/
def arRun (a0 a1 a2 a3 a4 a5 a6 : Int) (ms : List Mv) : RunS := ((arP 0 a0 a1 a2 a3 a4 a5 a6 0).goes ms).run
theorem arRun_eq (ab : Nat) (a0 a1 a2 a3 a4 a5 a6 : Int) (ms : List Mv) : ((arP ab a0 a1 a2 a3 a4 a5 a6 0).goes ms).run = arRun a0 a1 a2 a3 a4 a5 a6 ms := by
  show (((arP ab a0 a1 a2 a3 a4 a5 a6 0).goes ms).re 0).run = _
  rw [PM.re_goes]
  rfl
end Go
namespace Go.Proofs.Ytjcggokhminmoaa
open Go.ChangeShapes Go.WideShapes Go.ChangeAt Go.RowKit Go.Shelf

/-- the machine's arena -/
theorem arAt_of {w : World} {base xb ab : Nat} {p : PM (arK ab)} {kit : Value} {F : Nat → Prop} (h : PMAt (arK ab) w base xb p kit F) : ∃ av, ArAt w base ab p.s av ∧ ∀ k, av.own ab k → F k := by
  obtain ⟨st, v, vs, Fk, h1, h2, h3, rfl⟩ := h
  obtain ⟨kb, bx, av, col, blk, sub, hA⟩ := h1.k
  exact ⟨av, hA.a, fun k hk => .inr (hA.fa k hk).1⟩
theorem par_of {w1 w2 w3 : World} {base ab kb bx xb n : Nat} {s : ArS} {av : ArV} {l : List Int} (hA : ArAt w1 base ab s av) (ho : Only (fun _ => False) w1 w2) (hm : ∃ es clk, w2.heap[kb]? = some (.map es clk) ∧ Reads es (arG bx))
    (hb : w2.heap[bx]? = some (.cells #[.pointer (some ⟨ab, 0, none⟩)] 24 (0, 0))) (h1 : w1.heap.size ≤ kb) (h2 : w1.heap.size ≤ bx) (h : NewAt w2 (.map (some kb)) l n xb w3) (hn : n ≤ s.caches.length) :
    ∃ F, PMAt (arK ab) w3 base xb (PM.init (arK ab) l n s) (.map (some kb)) F ∧ Only (fun _ => False) w2 w3 := by
  obtain ⟨v, hM, hO, hKi⟩ := h
  have hlt := hA.lt
  have hbase : base ≤ w1.heap.size := by have := hlt ab (.inl rfl); omega
  have hs1 := ho.size
  have hs2 := hO.size
  have h23 : ∀ k, k < w2.heap.size → w3.heap[k]? = w2.heap[k]? := fun k hl => hO.block k hl (fun x => x)
  have h12 : ∀ k, k < w1.heap.size → w2.heap[k]? = w1.heap[k]? := fun k hl => ho.block k hl (fun x => x)
  obtain ⟨es, clk, hmap, hrd⟩ := hm
  have lk := (Array.getElem?_eq_some_iff.1 hmap).1
  have lx := (Array.getElem?_eq_some_iff.1 hb).1
  refine ⟨_, ⟨newS l n, v, List.replicate n .nilIface, fun k => av.own ab k ∨ k = kb ∨ k = bx, ⟨hM.base_mono (by omega), ?_, ?_, ?_, ?_⟩, ?_, hKi, rfl⟩, hO⟩
  · rw [hKi]
    refine ⟨kb, bx, av, fun k => if k < w1.heap.size then 1 else 0, fun _ => 0, fun _ => 0, ?_, rfl, ⟨es, clk, (h23 kb lk).trans hmap, hrd⟩, (h23 bx lx).trans hb, ?_, fun k hk => ⟨.inl hk, if_pos (hlt k hk).2⟩, ⟨.inr (.inl rfl), if_neg (by omega)⟩, ⟨.inr (.inr rfl), if_neg (by omega)⟩, ?_, ?_, ?_⟩
    · exact hA.of_block fun k hk => (h23 k (by have := (hlt k hk).2; omega)).trans (h12 k (hlt k hk).2)
    · rintro k (hk | rfl | rfl)
      · have := hlt k hk; omega
      · omega
      · omega
    · intro i hi
      simp only [PM.init, List.map_replicate] at hi
      change (List.replicate n (none : Option ATk))[i]? = _ at hi
      rw [List.getElem?_replicate] at hi
      split at hi
      · rename_i hlt; rw [List.getElem?_replicate, if_pos hlt]
      · cases hi
    · intro i t hi
      simp only [PM.init, List.map_replicate] at hi
      change (List.replicate n (none : Option ATk))[i]? = _ at hi
      rw [List.getElem?_replicate] at hi
      split at hi <;> cases hi
    · refine Nat.le_trans (Nat.le_of_eq ?_) hn
      exact (List.length_map _).trans List.length_replicate
  · rintro k hk hown
    have := (hM.lt k hown).1
    rcases hk with hk | rfl | rfl
    · have := (hlt k hk).2; omega
    · omega
    · omega
  · simp [newS]
  · simp [PM.init]
  · exact ⟨rfl, rfl, rfl, rfl, rfl, rfl, rfl, by simp [newS, PM.init]⟩
/-- a run in memory that was not there in w -/
def RunNw (w w' : World) (x : RunVs) (r : RunS) : Prop := ∀ W, Only (fun k => k < w.heap.size) w' W → RunAt W w.heap.size x r
end Go.Proofs.Ytjcggokhminmoaa
