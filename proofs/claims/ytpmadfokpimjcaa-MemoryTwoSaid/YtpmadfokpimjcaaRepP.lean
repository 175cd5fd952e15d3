/-
What a script of accesses makes of a memory, by its log. Plain.
-/
import Derived.Test.YtpmadfokpimjcaaMemE
namespace Go.Proofs.Ytpmadfokpimjcaa
open Go.ChangeShapes Go.WideShapes Go.ChangeAt Go.RowKit

def wrF (now : List Int) (a : Acc) : List Int := if accWr a then now.set a.ad.toNat a.nw else now
theorem wrF_len (now : List Int) (a : Acc) : (wrF now a).length = now.length := by unfold wrF; split <;> simp
theorem foldl_wrF_len (log : List Acc) : ∀ now : List Int, (log.foldl wrF now).length = now.length := by
  induction log with
  | nil => intro now; rfl
  | cons a log ih => intro now; simp only [List.foldl_cons]; rw [ih, wrF_len]

/-- the entry i of the log saw what stood there -/
def sawOk (now : List Int) (a : Acc) : Prop := 0 ≤ a.ad ∧ a.ad < (now.length : Int) ∧ (a.kd ≠ 2 → a.saw = now.getD a.ad.toNat 0)
structure Good (l : List Int) (st : MemS) : Prop where
  words : st.words = st.log.foldl wrF l
  saw : ∀ i a, st.log[i]? = some a → sawOk ((st.log.take i).foldl wrF l) a
  ahead : st.ahead.length = st.log.length
theorem Good.len {l : List Int} {st : MemS} (h : Good l st) : st.words.length = l.length := by rw [h.words, foldl_wrF_len]
theorem Good.start (l : List Int) : Good l ⟨l, [], [], 0⟩ := ⟨rfl, fun i a h => by simp at h, rfl⟩
/-- one more entry -/
theorem Good.snoc {l : List Int} {st : MemS} (h : Good l st) {a : Acc} {ahd : Int} {ws : List Int} (hw : ws = wrF st.words { a with mv := st.move }) (hs : sawOk st.words { a with mv := st.move }) : Good l { st.note a ahd with words := ws } := by
  refine ⟨?_, ?_, ?_⟩
  · show ws = (st.log ++ [_]).foldl wrF l
    rw [List.foldl_append, ← h.words, hw]
    rfl
  · intro i b hb
    have hb' : (st.log ++ [{ a with mv := st.move }])[i]? = some b := hb
    show sawOk (((st.log ++ [{ a with mv := st.move }]).take i).foldl wrF l) b
    by_cases hlt : i < st.log.length
    · rw [List.take_append_of_le_length (by omega)]
      rw [List.getElem?_append_left hlt] at hb'
      exact h.saw i b hb'
    · rw [List.getElem?_append_right (by omega)] at hb'
      have h0 : i - st.log.length = 0 := by
        rcases Nat.eq_zero_or_pos (i - st.log.length) with h1 | h1
        · exact h1
        · rw [List.getElem?_eq_none (by simp; omega)] at hb'; cases hb'
      rw [h0] at hb'
      simp only [List.getElem?_cons_zero, Option.some.injEq] at hb'
      subst hb'
      obtain rfl : i = st.log.length := by omega
      rw [List.take_left' rfl, ← h.words]
      exact hs
  · show (st.ahead ++ [_]).length = (st.log ++ [_]).length
    simp [h.ahead]

theorem Good.acc {l : List Int} {st : MemS} (h : Good l st) (o : OpS) : Good l (accF st o) := by
  unfold accF
  by_cases hth : 0 ≤ o.ad ∧ o.ad < (st.words.length : Int)
  · rw [if_pos hth]
    obtain ⟨j, hj⟩ : ∃ j : Nat, o.ad = (j : Int) := ⟨o.ad.toNat, by omega⟩
    rw [show o.ad.toNat = j by omega]
    have hjl : j < st.words.length := by omega
    split
    · exact h.snoc (a := ⟨0, o.th, 1, (j : Int), 0, 0, st.at j⟩) (ws := st.words) (by simp [wrF, accWr]) ⟨by simp, by show (j : Int) < _; omega, fun _ => by simp [MemS.at]⟩
    · split
      · exact h.snoc (a := ⟨0, o.th, 2, (j : Int), 0, o.w, 0⟩) (ws := st.words.set j o.w) (by simp [wrF, accWr]) ⟨by simp, by show (j : Int) < _; omega, fun hk => absurd rfl hk⟩
      · unfold MemS.swap
        split
        · rename_i he
          exact h.snoc (a := ⟨0, o.th, 3, (j : Int), o.old, o.w, st.at j⟩) (ws := st.words.set j o.w) (by simp [wrF, accWr, he]) ⟨by simp, by show (j : Int) < _; omega, fun _ => by simp [MemS.at]⟩
        · rename_i he
          exact h.snoc (a := ⟨0, o.th, 3, (j : Int), o.old, o.w, st.at j⟩) (ws := st.words) (by simp [wrF, accWr, he]) ⟨by simp, by show (j : Int) < _; omega, fun _ => by simp [MemS.at]⟩
  · rw [if_neg hth]
    exact h

def accs1 (l : List Int) (ops : List OpS) : MemS := ops.foldl accF ⟨l, [], [], 0⟩
theorem accF_log (st : MemS) (o : OpS) : (accF st o).log.length ≤ st.log.length + 1 ∧ (accF st o).ahead.length ≤ st.ahead.length + 1 := by
  unfold accF
  split
  · split
    · simp [MemS.load, MemS.note]
    · split
      · simp [MemS.store, MemS.note]
      · unfold MemS.swap
        split <;> simp [MemS.note]
  · omega
theorem accs_snocF (l : List Int) (ops : List OpS) (o : OpS) : accs1 l (ops ++ [o]) = accF (accs1 l ops) o := by simp [accs1]
theorem accs1_good (l : List Int) (ops : List OpS) : Good l (accs1 l ops) := by
  unfold accs1
  have : ∀ st, Good l st → Good l (ops.foldl accF st) := by
    induction ops with
    | nil => intro st h; exact h
    | cons o ops ih => intro st h; exact ih _ (h.acc o)
  exact this _ (Good.start l)
theorem accs1_len (l : List Int) (ops : List OpS) : (accs1 l ops).log.length ≤ ops.length := by
  unfold accs1
  have : ∀ st : MemS, (ops.foldl accF st).log.length ≤ st.log.length + ops.length := by
    induction ops with
    | nil => intro st; simp
    | cons o ops ih => intro st; have h1 := ih (accF st o); have h2 := (accF_log st o).1; simp only [List.foldl_cons, List.length_cons]; omega
  have h := this ⟨l, [], [], 0⟩
  simpa using h
end Go.Proofs.Ytpmadfokpimjcaa
