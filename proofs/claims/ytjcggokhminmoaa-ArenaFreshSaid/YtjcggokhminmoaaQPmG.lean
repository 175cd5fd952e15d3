/-
What always holds of a machine (PM.Good) is kept by its moves; a new machine of the own kit; machine.Run at a plain machine.
The machine with the arena's kit: what always holds (PA), move by move. Plain.
-/
import Derived.Test.YtjcggokhminmoaaQPm
import Derived.Test.YtjcggokhminmoaaQRun
import Derived.Test.YtjcggokhminmoaaQNewM
import Derived.Test.YtjcggokhminmoaaQArKo
namespace Go
open Go.RowKit
def PM.init (K : Kits) (l : List Int) (n : Nat) (s : K.S) : PM K := ⟨l, [], [], [], List.replicate n ⟨none, false, -1, 0, 0⟩, 0, [], s⟩
def PM.goes {K : Kits} (p : PM K) (ms : List Mv) : PM K := ms.foldl (fun p m => (p.move m).1) p
def PM.run {K : Kits} (p : PM K) : Go.Proofs.Ytjcggokhminmoaa.RunS := ⟨p.calls, p.log, p.shifts, p.words⟩
theorem PM.goes_snoc {K : Kits} (p : PM K) (ms : List Mv) (m : Mv) : p.goes (ms ++ [m]) = ((p.goes ms).move m).1 := by simp [PM.goes, List.foldl_append]
theorem PM.goes_append {K : Kits} (p : PM K) (a b : List Mv) : p.goes (a ++ b) = (p.goes a).goes b := by simp [PM.goes, List.foldl_append]
theorem PM.Good.init (K : Kits) (l : List Int) (n : Nat) (s : K.S) (h1 : 1 ≤ n) (hn : n ≤ 1000) : (PM.init K l n s).Good := by
  refine ⟨by simp [PM.init]; omega, by simp [PM.init]; omega, by simp [PM.init], by simp [PM.init], by simp [PM.init], by simp [PM.init], by simp [PM.init], ?_, ?_⟩
  · intro i se h
    simp only [PM.init, List.getElem?_replicate] at h
    split at h
    · cases h; exact ⟨by show (-1 : Int) ≤ -1; omega, by show (-1 : Int) < _; simp [PM.init]⟩
    · cases h
  · intro i se t h ht
    simp only [PM.init, List.getElem?_replicate] at h
    split at h
    · cases h; cases ht
    · cases h
/-- which cases a move has -/
theorem PM.move_cases {K : Kits} (p : PM K) (mv : Mv) :
    (65536 ≤ p.moves ∧ p.move mv = (p, false)) ∨ (p.moves < 65536 ∧ p.move mv = (p.skip, false)) ∨
    (p.moves < 65536 ∧ ∃ (i : Nat) (se : PSeat K.T) (t : K.T), mv.th = (i : Int) ∧ p.seats[i]? = some se ∧ se.task = some t ∧ mv.op = 0 ∧ p.move mv = (p.step i se t, true)) ∨
    (p.moves < 65536 ∧ ∃ (i : Nat) (se : PSeat K.T) (t : K.T), mv.th = (i : Int) ∧ p.seats[i]? = some se ∧ se.task = none ∧ mv.op ≠ 0 ∧ K.make p.s mv = some t ∧ p.move mv = (p.begin i mv t, true)) := by
  unfold PM.move
  by_cases hf : 65536 ≤ p.moves
  · exact .inl ⟨hf, by rw [if_pos hf]⟩
  refine .inr ?_
  simp only [if_neg hf]
  by_cases h0 : mv.th < 0
  · exact .inl ⟨by omega, by rw [if_pos h0]⟩
  simp only [if_neg h0]
  cases hse : p.seats[mv.th.toNat]? with
  | none => exact .inl ⟨by omega, rfl⟩
  | some se =>
    cases hta : se.task with
    | some t =>
      by_cases hop : mv.op = 0
      · exact .inr (.inl ⟨by omega, mv.th.toNat, se, t, by omega, hse, hta, hop, by simp only [hta, if_pos hop]⟩)
      · exact .inl ⟨by omega, by simp only [hta, if_neg hop]⟩
    | none =>
      by_cases hop : mv.op = 0
      · exact .inl ⟨by omega, by simp only [hta, if_pos hop]⟩
      · cases hmk : K.make p.s mv with
        | none => exact .inl ⟨by omega, by simp only [hta, if_neg hop]⟩
        | some t => exact .inr (.inr ⟨by omega, mv.th.toNat, se, t, by omega, hse, hta, hop, rfl, by simp only [hta, if_neg hop]⟩)
theorem set_cases {α : Type} {l : List α} {i j : Nat} {a b : α} (h : (l.set i a)[j]? = some b) : (i = j ∧ a = b) ∨ l[j]? = some b := by
  rw [List.getElem?_set] at h
  split at h
  · rename_i e
    split at h
    · exact .inl ⟨e, Option.some.inj h⟩
    · cases h
  · exact .inr h
theorem PM.moves_le {K : Kits} (p : PM K) (mv : Mv) : p.moves ≤ (p.move mv).1.moves ∧ (p.move mv).1.moves ≤ p.moves + 1 := by
  rcases p.move_cases mv with ⟨_, h⟩ | ⟨_, h⟩ | ⟨_, i, se, t, _, _, _, _, h⟩ | ⟨_, i, se, t, _, _, _, _, _, h⟩
  · rw [h]; exact ⟨Nat.le_refl _, Nat.le_succ _⟩
  · rw [h]; exact ⟨Nat.le_succ _, Nat.le_refl _⟩
  · rw [h]; exact ⟨Nat.le_succ _, Nat.le_refl _⟩
  · rw [h]; exact ⟨Nat.le_succ _, Nat.le_refl _⟩
end Go
namespace Go.Proofs.Ytjcggokhminmoaa
open Go.ChangeShapes Go.WideShapes Go.ChangeAt Go.RowKit

section
variable {K : Kits}
theorem few12 (hK : KitsOk K) (rdy : Bool) (s : K.S) (t : K.T) (d : DeskS) :
    (K.r2 (K.r1 rdy s t d)).2.2.1.mem.log.length ≤ d.mem.log.length + 4 ∧ (K.r2 (K.r1 rdy s t d)).2.2.1.mem.ahead.length ≤ d.mem.ahead.length + 4 ∧ (K.r2 (K.r1 rdy s t d)).2.2.1.shifts.length ≤ d.shifts.length + 8 := by
  have h1 : (K.r1 rdy s t d).2.2.1.mem.log.length ≤ d.mem.log.length + 2 ∧ (K.r1 rdy s t d).2.2.1.mem.ahead.length ≤ d.mem.ahead.length + 2 ∧ (K.r1 rdy s t d).2.2.1.shifts.length ≤ d.shifts.length + 4 := by
    cases rdy with
    | true => rw [r1_true]; exact ⟨Nat.le_add_right _ _, Nat.le_add_right _ _, Nat.le_add_right _ _⟩
    | false => rw [r1_false]; obtain ⟨a, b, c, _⟩ := hK.few s t d; exact ⟨a, b, c⟩
  generalize K.r1 rdy s t d = r at *
  unfold Kits.r2
  split
  · exact ⟨by omega, by omega, by omega⟩
  · obtain ⟨_, _, _, a, b, c⟩ := hK.few r.1 r.2.1 r.2.2.1
    exact ⟨by omega, by omega, by omega⟩

theorem PM.Good.move (hK : KitsOk K) {p : PM K} (h : p.Good) (mv : Mv) : (p.move mv).1.Good := by
  rcases p.move_cases mv with ⟨_, e⟩ | ⟨ht, e⟩ | ⟨ht, i, se, t, hi, hs, hta, hop, e⟩ | ⟨ht, i, se, t, hi, hs, hta, hop, hm, e⟩
  · rw [e]; exact h
  · rw [e]; exact h.skip ht
  · rw [e]
    have h1 := few12 hK se.ready p.s t (p.desk i se (p.calls.getD se.last.toNat default))
    have hl := h.last i se hs
    have hb := h.busy i se t hs hta
    have hd1 : (p.desk i se (p.calls.getD se.last.toNat default)).mem.log = p.log := rfl
    have hd2 : (p.desk i se (p.calls.getD se.last.toNat default)).mem.ahead = p.ahead := rfl
    have hd3 : (p.desk i se (p.calls.getD se.last.toNat default)).shifts = p.shifts := rfl
    rw [hd1, hd2, hd3] at h1
    have g1 := h.log
    have g2 := h.ahead
    have g3 := h.shifts
    have g4 := h.calls
    refine ⟨?_, ?_, ?_, ?_, ?_, ?_, ?_, ?_, ?_⟩
    · show (p.seats.set _ _).length ≤ _
      rw [List.length_set]; exact h.few
    · show 0 < (p.seats.set _ _).length
      rw [List.length_set]; exact h.pos
    · show p.moves + 1 ≤ _; omega
    · show _ ≤ 4 * (p.moves + 1); have := h1.1; unfold PM.step PM.res; simp only; omega
    · show _ ≤ 4 * (p.moves + 1); have := h1.2.1; unfold PM.step PM.res; simp only; omega
    · show _ ≤ 8 * (p.moves + 1); have := h1.2.2; unfold PM.step PM.res; simp only; omega
    · show (p.calls.set _ _).length ≤ p.moves + 1
      rw [List.length_set]; omega
    · intro j sj hj
      show -1 ≤ sj.last ∧ sj.last < ((p.calls.set _ _).length : Int)
      rw [List.length_set]
      rcases set_cases hj with ⟨_, rfl⟩ | h2
      · exact ⟨hl.1, hl.2⟩
      · exact h.last j sj h2
    · intro j sj tj hj htj
      rcases set_cases hj with ⟨_, rfl⟩ | h2
      · exact hb
      · exact h.busy j sj tj h2 htj
  · rw [e]
    have g1 := h.log
    have g2 := h.ahead
    have g3 := h.shifts
    have g4 := h.calls
    have hcl : (p.begin i mv t).calls.length = p.calls.length + 1 := by simp [PM.begin]
    refine ⟨?_, ?_, ?_, ?_, ?_, ?_, ?_, ?_, ?_⟩
    · show (p.seats.set _ _).length ≤ _
      rw [List.length_set]; exact h.few
    · show 0 < (p.seats.set _ _).length
      rw [List.length_set]; exact h.pos
    · show p.moves + 1 ≤ _; omega
    · show p.log.length ≤ 4 * (p.moves + 1); omega
    · show p.ahead.length ≤ 4 * (p.moves + 1); omega
    · show p.shifts.length ≤ 8 * (p.moves + 1); omega
    · rw [hcl]; show _ ≤ p.moves + 1; omega
    · intro j sj hj
      rw [hcl]
      rcases set_cases hj with ⟨_, rfl⟩ | h2
      · exact ⟨by show -1 ≤ (p.calls.length : Int); omega, by show (p.calls.length : Int) < _; omega⟩
      · have := h.last j sj h2; omega
    · intro j sj tj hj htj
      rcases set_cases hj with ⟨_, rfl⟩ | h2
      · show (0 : Int) ≤ p.calls.length; omega
      · exact h.busy j sj tj h2 htj
theorem PM.Good.goes (hK : KitsOk K) {p : PM K} (h : p.Good) (ms : List Mv) : (p.goes ms).Good := by
  induction ms generalizing p with
  | nil => exact h
  | cons m ms ih => exact ih (PM.Good.move hK h m)

theorem PM.words_len (hw : ∀ s t d, (K.ready s t d).2.2.1.mem.words.length = d.mem.words.length ∧ (K.step s t d).2.2.1.mem.words.length = d.mem.words.length) (p : PM K) (mv : Mv) : (p.move mv).1.words.length = p.words.length := by
  rcases p.move_cases mv with ⟨_, e⟩ | ⟨ht, e⟩ | ⟨ht, i, se, t, hi, hs, hta, hop, e⟩ | ⟨ht, i, se, t, hi, hs, hta, hop, hm, e⟩
  · rw [e]
  · rw [e]; rfl
  · rw [e]
    show (p.res i se (p.calls.getD se.last.toNat default) t).2.2.1.mem.words.length = _
    unfold PM.res
    have h1 : (K.r1 se.ready p.s t (p.desk i se (p.calls.getD se.last.toNat default))).2.2.1.mem.words.length = p.words.length := by
      cases se.ready with
      | true => rfl
      | false => rw [r1_false]; exact (hw _ _ _).1
    generalize K.r1 se.ready p.s t (p.desk i se (p.calls.getD se.last.toNat default)) = r at *
    unfold Kits.r2
    split
    · exact h1
    · exact ((hw _ _ _).2).trans h1
  · rw [e]; rfl
theorem PM.words_lens (hw : ∀ s t d, (K.ready s t d).2.2.1.mem.words.length = d.mem.words.length ∧ (K.step s t d).2.2.1.mem.words.length = d.mem.words.length) (p : PM K) (ms : List Mv) : (p.goes ms).words.length = p.words.length := by
  induction ms generalizing p with
  | nil => rfl
  | cons m ms ih => exact (ih (p.move m).1).trans (PM.words_len hw p m)

theorem pm_run {w : World} {base xb : Nat} {p : PM K} {kit : Value} {F : Nat → Prop} (hG : p.Good) (h : PMAt K w base xb p kit F) (hw : p.words.length ≤ 1000000) : Calls Try.prog 30 #[.pointer (some ⟨xb, 0, none⟩)] w (RunRes w p.run) := by
  obtain ⟨st, v, vs, Fk, H, R, rfl, rfl⟩ := h
  have h1 := hG.log
  have h3 := hG.shifts
  have h4 := hG.calls
  have htop := hG.top
  have hpos := hG.pos
  have hlen := R.len
  have e1 := congrArg List.length R.log
  have e3 := congrArg List.length R.shifts
  have e4 := congrArg List.length R.calls
  have e5 := congrArg List.length R.words
  have := run_any H.m R.on (by omega) (by omega) (by omega) (by omega) (by omega)
  rw [R.calls, R.log, R.shifts, R.words] at this
  exact this
end

/-! ### the own kit -/
end Go.Proofs.Ytjcggokhminmoaa
namespace Go
open Go.RowKit
open Go.Proofs.Ytjcggokhminmoaa
variable {ab : Nat}

def pmTs (p : PM (arK ab)) : Nat → Option (Bool × ATk) := fun i => (p.seats[i]?).bind fun se => se.task.map fun t => (se.ready, t)
structure PA (p : PM (arK ab)) : Prop where
  inv : AInv p.words p.s (pmTs p) p.moves
  len : p.seats.length = p.s.caches.length
theorem arR_eq (rd : Bool) (s : ArS) (t : ATk) (d : DeskS) : (arK ab).r2 ((arK ab).r1 rd s t d) = arR rd s t d := by cases rd <;> rfl
theorem pmTs_set (p : PM (arK ab)) (i : Nat) (x : PSeat (arK ab).T) (hi : i < p.seats.length) {q : PM (arK ab)} (hq : q.seats = p.seats.set i x) : pmTs q = updT (pmTs p) i (x.task.map fun t => (x.ready, t)) := by
  funext j
  unfold pmTs updT
  rw [hq]
  by_cases e : i = j
  · subst e
    rw [List.getElem?_set_self hi, if_pos rfl]
    rfl
  · rw [List.getElem?_set_ne e, if_neg (Ne.symm e)]

/-- a step of a busy thread, as AStep -/
structure PStepA (p : PM (arK ab)) (i : Nat) (se : PSeat (arK ab).T) (t : (arK ab).T) (o : AOut) : Prop where
  st : AStep p.words p.s i se.ready t o
  words : (p.step i se t).words = o.W
  log : (p.step i se t).log = p.log ++ o.acc.map fun a => ⟨p.moves, i, a.1, a.2.1, a.2.2.1, a.2.2.2.1, a.2.2.2.2⟩
  shifts : (p.step i se t).shifts = p.shifts ++ o.sh.map fun x => ⟨p.moves, i, x.1, x.2.1, x.2.2⟩
  s : (p.step i se t).s = o.s
  seats : (p.step i se t).seats = p.seats.set i ⟨o.tk, true, se.last, (o.ans.getD (se.ak, se.av)).1, (o.ans.getD (se.ak, se.av)).2⟩
  calls : (p.step i se t).calls = p.calls.set se.last.toNat (if o.tk.isNone then { p.calls.getD se.last.toNat default with en := p.moves, ak := (o.ans.getD (se.ak, se.av)).1, av := (o.ans.getD (se.ak, se.av)).2 } else p.calls.getD se.last.toNat default)
  moves : (p.step i se t).moves = p.moves + 1
theorem pm_astep {p : PM (arK ab)} (h : PA p) {i : Nat} {se : PSeat (arK ab).T} {t : (arK ab).T} (hs : p.seats[i]? = some se) (ht : se.task = some t) : ∃ o, PStepA p i se t o := by
  have hts : pmTs p i = some (se.ready, t) := by unfold pmTs; rw [hs]; show (se.task.map fun t => (se.ready, t)) = _; rw [ht]; rfl
  obtain ⟨o, h1, h2⟩ := astep_of h.inv hts (d := p.desk i se (p.calls.getD se.last.toNat default)) rfl rfl rfl
  have hr : p.res i se (p.calls.getD se.last.toNat default) t = arR se.ready p.s t (p.desk i se (p.calls.getD se.last.toNat default)) := arR_eq _ _ _ _
  refine ⟨o, h1, ?_, ?_, ?_, ?_, ?_, ?_, rfl⟩
  · show (p.res i se (p.calls.getD se.last.toNat default) t).2.2.1.mem.words = _
    rw [hr]; exact h2.words
  · show (p.res i se (p.calls.getD se.last.toNat default) t).2.2.1.mem.log = _
    rw [hr]; exact h2.log
  · show (p.res i se (p.calls.getD se.last.toNat default) t).2.2.1.shifts = _
    rw [hr]; exact h2.shifts
  · show (p.res i se (p.calls.getD se.last.toNat default) t).1 = _
    rw [hr]; exact h2.s
  · show p.seats.set i ⟨if (p.res i se (p.calls.getD se.last.toNat default) t).2.2.2 then none else some (p.res i se (p.calls.getD se.last.toNat default) t).2.1, true, se.last, (p.res i se (p.calls.getD se.last.toNat default) t).2.2.1.ak, (p.res i se (p.calls.getD se.last.toNat default) t).2.2.1.av⟩ = _
    rw [hr, h2.over, h2.ak, h2.av]
    congr 2
    cases htk : o.tk with
    | none => rfl
    | some tk => exact congrArg some (h2.tk tk htk)
  · show p.calls.set se.last.toNat (if (p.res i se (p.calls.getD se.last.toNat default) t).2.2.2 then _ else _) = _
    rw [hr, h2.over, h2.ak, h2.av, h2.pt]
    rfl
theorem PStepA.pa {p : PM (arK ab)} (h : PA p) (hm : p.moves ≤ 65536) {i : Nat} {se : PSeat (arK ab).T} {t : (arK ab).T} (hs : p.seats[i]? = some se) (ht : se.task = some t) {o : AOut} (k : PStepA p i se t o) : PA (p.step i se t) := by
  have hts : pmTs p i = some (se.ready, t) := by unfold pmTs; rw [hs]; show (se.task.map fun t => (se.ready, t)) = _; rw [ht]; rfl
  have hi := (List.getElem?_eq_some_iff.1 hs).1
  have h1 := h.inv.step hm hts k.st
  have hlen : o.s.caches.length = p.s.caches.length := by
    have hc := h1.ok.caches
    have hc0 := h.inv.ok.caches
    have e : o.s.c0 = p.s.c0 := by
      have hst := k.st
      generalize se.ready = rd at hst
      cases hst <;> rfl
    omega
  refine ⟨?_, ?_⟩
  · rw [k.words, k.s, k.moves, pmTs_set p i _ hi k.seats]
    exact h1
  · rw [k.seats, List.length_set, k.s, hlen]
    exact h.len
theorem PA.move {p : PM (arK ab)} (h : PA p) (mv : Mv) : PA (p.move mv).1 := by
  unfold PM.move
  split
  · exact h
  · rename_i hm
    have hskip : PA p.skip := ⟨h.inv.skip, h.len⟩
    split
    · exact hskip
    · rename_i hth
      split
      · exact hskip
      · rename_i se hse
        split
        · rename_i t ht
          split
          · obtain ⟨o, k⟩ := pm_astep h hse ht
            exact k.pa h (by omega) hse ht
          · exact hskip
        · rename_i ht
          split
          · exact hskip
          · split
            · exact hskip
            · rename_i t hmk
              have hi := (List.getElem?_eq_some_iff.1 hse).1
              have hil : mv.th.toNat < p.s.caches.length := by rw [← h.len]; exact hi
              refine ⟨?_, by show (p.seats.set _ _).length = _; rw [List.length_set]; exact h.len⟩
              show AInv p.words p.s _ (p.moves + 1)
              rw [pmTs_set p mv.th.toNat ⟨some t, false, p.calls.length, 1, 0⟩ hi rfl]
              refine h.inv.retask _ _ fun rd tk e => ⟨hil, ?_⟩
              have e2 : (false, t) = (rd, tk) := Option.some.inj e
              cases e2
              have hmk' : arMake p.s mv = some t := hmk
              have hto : (mv.th.toNat : Int) = mv.th := by omega
              unfold arMake at hmk'
              split at hmk'
              · cases hmk'
                exact ⟨hto.symm, rfl, fun _ => rfl, .inl rfl, fun e => absurd e (show ¬ (1 : Int) = 3 by decide)⟩
              · split at hmk'
                · split at hmk'
                  · rename_i hc
                    cases hmk'
                    simp only [Bool.and_eq_true, decide_eq_true_eq, ArS.has] at hc
                    obtain ⟨⟨c1, c2⟩, c3, c4⟩ := hc
                    refine ⟨hto.symm, fun _ => rfl, .inl rfl, mv.arg.toNat, by show mv.arg = _; omega, ?_, fun e => absurd e (show ¬ (1 : Int) = 3 by decide)⟩
                    have hl : mv.arg.toNat < p.s.slots.length := by omega
                    rw [List.getElem?_eq_getElem hl]
                    have e3 : p.s.slot mv.arg = p.s.slots[mv.arg.toNat] := by unfold ArS.slot; rw [List.getD_eq_getElem?_getD, List.getElem?_eq_getElem hl]; rfl
                    rw [← e3]
                    exact congrArg some (Prod.ext c3 (c4.trans hto.symm))
                  · cases hmk'
                · split at hmk'
                  · cases hmk'
                    exact ⟨hto.symm, fun e => by cases e⟩
                  · cases hmk'
end Go
