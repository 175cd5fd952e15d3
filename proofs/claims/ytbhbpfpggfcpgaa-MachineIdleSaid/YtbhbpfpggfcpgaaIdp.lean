/-
The moves that did something, alone: the same run but for the moves' numbers (MachineIdle). Plain.
-/
import Derived.Test.YtbhbpfpggfcpgaaLtr
namespace Go
open Go.RowKit
open Go.Proofs.Ytbhbpfpggfcpgaa

def Acc.ren (f : Nat → Nat) (a : Acc) : Acc := { a with mv := (f a.mv.toNat : Nat) }
def renI (f : Nat → Nat) (i : Int) : Int := if 0 ≤ i then (f i.toNat : Nat) else i
def Cal.ren (f : Nat → Nat) (c : Cal) : Cal := { c with beg := (f c.beg.toNat : Nat), en := renI f c.en, pt := renI f c.pt }
def OS.ren (f : Nat → Nat) (o : OS) (m : Nat) : OS := ⟨o.words, o.log.map (Acc.ren f), o.seats, m, o.calls.map (Cal.ren f)⟩

section
variable (l : List Int) (n : Nat) (ms : List Mv)
/-- did move number k do anything? -/
def didB (k : Nat) : Bool := match ms[k]? with
  | some mv => ((osOf l n (ms.take k)).move l.length mv).2
  | none => false
/-- those of the first k that did -/
def filM : Nat → List Mv
  | 0 => []
  | k + 1 => match ms[k]? with
    | some mv => if didB l n ms k = true then filM k ++ [mv] else filM k
    | none => filM k
def numM (k : Nat) : Nat := (filM l n ms k).length
end

section
variable {l : List Int} {n : Nat} {ms : List Mv}
theorem filM_le (k : Nat) : (filM l n ms k).length ≤ k := by
  induction k with
  | zero => exact Nat.le_refl _
  | succ k ih =>
    unfold filM
    split
    · split
      · simp; omega
      · omega
    · omega
theorem filM_yes {k : Nat} (hk : k < ms.length) (h : ((osOf l n (ms.take k)).move l.length ms[k]).2 = true) : filM l n ms (k + 1) = filM l n ms k ++ [ms[k]] := by
  have hd : didB l n ms k = true := by unfold didB; rw [List.getElem?_eq_getElem hk]; exact h
  show (match ms[k]? with | some mv => if didB l n ms k = true then filM l n ms k ++ [mv] else filM l n ms k | none => filM l n ms k) = _
  rw [List.getElem?_eq_getElem hk, hd]
  rfl
theorem filM_no {k : Nat} (hk : k < ms.length) (h : ((osOf l n (ms.take k)).move l.length ms[k]).2 = false) : filM l n ms (k + 1) = filM l n ms k := by
  have hd : didB l n ms k = false := by unfold didB; rw [List.getElem?_eq_getElem hk]; exact h
  show (match ms[k]? with | some mv => if didB l n ms k = true then filM l n ms k ++ [mv] else filM l n ms k | none => filM l n ms k) = _
  rw [List.getElem?_eq_getElem hk, hd]
  rfl

theorem map_modify' {α : Type} (r g g' : α → α) (h : ∀ x, r (g x) = g' (r x)) : ∀ (ls : List α) (i : Nat), (ls.modify i g).map r = (ls.map r).modify i g' := by
  intro ls
  induction ls with
  | nil => intro i; simp
  | cons x ls ih =>
    intro i
    cases i with
    | zero => simp [h]
    | succ i => simp [ih]

theorem ren_ends {f : Nat → Nat} {o : OS} {m : Nat} (hf : f o.moves = m) (last x : Int) : (o.ren f m).ends last x = (o.ends last x).map (Cal.ren f) := by
  unfold OS.ends OS.ren
  simp only
  rw [map_modify' (Cal.ren f) _ (fun c => { c with en := (m : Int), pt := (m : Int), ak := 2, av := wrap64 x })]
  intro c
  unfold Cal.ren renI
  simp [hf]

theorem ren_step {f : Nat → Nat} {o : OS} {m : Nat} (hf : f o.moves = m) (i : Nat) (se : OSeat) (t : Tk) : (o.ren f m).step i se t = (o.step i se t).ren f (m + 1) := by
  have hat : ∀ a, (o.ren f m).at a = o.at a := fun _ => rfl
  have he := fun last x => ren_ends (o := o) hf last x
  cases t with
  | look a =>
    simp only [OS.step, hat, he]
    simp [OS.ren, Acc.ren, hf]
  | bump a saw ld =>
    cases ld with
    | false =>
      simp only [OS.step, hat]
      simp [OS.ren, Acc.ren, hf]
    | true =>
      by_cases hs : o.at a = saw
      · simp only [OS.step, hat, he, if_pos hs]
        simp [OS.ren, Acc.ren, hf]
      · simp only [OS.step, hat, if_neg hs]
        simp [OS.ren, Acc.ren, hf]

theorem ren_begin {f : Nat → Nat} {o : OS} {m : Nat} (hf : f o.moves = m) (i : Nat) (mv : Mv) (t : Tk) : (o.ren f m).begin i mv t = (o.begin i mv t).ren f (m + 1) := by
  simp [OS.begin, OS.ren, Cal.ren, renI, hf]

/-- the moves that did something, alone -/
theorem idle_os (hm : ms.length ≤ 65536) (k : Nat) (hk : k ≤ ms.length) :
    osOf l n (filM l n ms k) = (osOf l n (ms.take k)).ren (numM l n ms) (numM l n ms k) ∧ numM l n ms k = (osOf l n (ms.take k)).calls.length + (osOf l n (ms.take k)).log.length := by
  induction k with
  | zero => exact ⟨by simp [filM, osOf, OS.goes, OS.init, OS.ren, numM], by simp [filM, osOf, OS.goes, OS.init, numM]⟩
  | succ k ih =>
    obtain ⟨ih1, ih2⟩ := ih (by omega)
    have hI := inv_of l n (ms.take k) (by simp; omega)
    have hmo : (osOf l n (ms.take k)).moves = k := by rw [hI.moves]; simp; omega
    have hlt : (ms.take k).length < 65536 := by simp; omega
    have hle := filM_le (l := l) (n := n) (ms := ms) k
    rw [osOf_next l n ms k (by omega)]
    rcases hI.way hlt ms[k] with e | ⟨i, ci, se, t, c, ae, x, over, e, S, hi, hop, hs, hta, _⟩ | ⟨i, se, t, e, hi, hs, hta, hop, hmk⟩
    · have hfil := filM_no (n := n) (l := l) (by omega : k < ms.length) (by rw [e])
      have hnum : numM l n ms (k + 1) = numM l n ms k := by unfold numM; rw [hfil]
      rw [e, hfil, hnum]
      exact ⟨ih1, ih2⟩
    · have hfil := filM_yes (n := n) (l := l) (by omega : k < ms.length) (by rw [e])
      have hnum : numM l n ms (k + 1) = numM l n ms k + 1 := by unfold numM; rw [hfil]; simp
      rw [e, hfil, hnum, osOf_snoc, ih1]
      constructor
      · have : ((osOf l n (ms.take k)).ren (numM l n ms) (numM l n ms k)).move l.length ms[k] = (((osOf l n (ms.take k)).ren (numM l n ms) (numM l n ms k)).step i se t, true) := by
          have hi' : ms[k].th.toNat = i := by omega
          unfold OS.move
          rw [if_neg (by show ¬ 65536 ≤ numM l n ms k; unfold numM; omega), if_neg (by omega), hi']
          show (match (osOf l n (ms.take k)).seats[i]? with | none => _ | some se => _) = _
          rw [hs]
          simp only [hta, if_pos hop]
        rw [this]
        exact ren_step (by rw [hmo]) i se t
      · show _ = ((osOf l n (ms.take k)).step i se t).calls.length + ((osOf l n (ms.take k)).step i se t).log.length
        rw [S.log, S.calls]
        cases over <;> simp <;> omega
    · have hfil := filM_yes (n := n) (l := l) (by omega : k < ms.length) (by rw [e])
      have hnum : numM l n ms (k + 1) = numM l n ms k + 1 := by unfold numM; rw [hfil]; simp
      rw [e, hfil, hnum, osOf_snoc, ih1]
      constructor
      · have : ((osOf l n (ms.take k)).ren (numM l n ms) (numM l n ms k)).move l.length ms[k] = (((osOf l n (ms.take k)).ren (numM l n ms) (numM l n ms k)).begin i ms[k] t, true) := by
          have hi' : ms[k].th.toNat = i := by omega
          unfold OS.move
          rw [if_neg (by show ¬ 65536 ≤ numM l n ms k; unfold numM; omega), if_neg (by omega), hi']
          show (match (osOf l n (ms.take k)).seats[i]? with | none => _ | some se => _) = _
          rw [hs]
          simp only [hta, if_neg hop, hmk]
        rw [this]
        exact ren_begin (by rw [hmo]) i ms[k] t
      · show _ = ((osOf l n (ms.take k)).begin i ms[k] t).calls.length + ((osOf l n (ms.take k)).begin i ms[k] t).log.length
        simp [OS.begin]; omega
end
end Go
