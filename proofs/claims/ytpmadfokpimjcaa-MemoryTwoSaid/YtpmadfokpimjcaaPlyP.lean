/-
A call of a script, of the program and of the document: both tell the same.
-/
import Derived.Test.YtpmadfokpimjcaaDocD
import Derived.Test.YtpmadfokpimjcaaDocE
namespace Go.Proofs.Ytpmadfokpimjcaa
open Go.ChangeShapes Go.WideShapes Go.ChangeAt Go.RowKit

/-- the log is good, and beside each access stands what stood there -/
structure Good2 (l : List Int) (st : MemS) : Prop extends Good l st where
  beside : ∀ i (h : i < st.log.length), st.ahead.getD i 0 = ((st.log.take i).foldl wrF l).getD st.log[i].ad.toNat 0
theorem set_self (ws : List Int) (j : Nat) (x : Int) : (ws.set j x).set j (ws.getD j 0) = ws := by
  rw [List.set_set]
  apply List.ext_getElem?
  intro i
  rw [List.getElem?_set]
  split
  · rename_i e
    subst e
    split
    · rename_i h
      simp [List.getD, h]
    · rename_i h
      rw [List.getElem?_eq_none (by omega)]
  · rfl
theorem set_same (ws : List Int) (j : Nat) : ws.set j (ws.getD j 0) = ws := by
  have := set_self ws j (ws.getD j 0)
  rw [List.set_set] at this
  exact this
theorem undo_replay {l : List Int} {st : MemS} (h : Good2 l st) : ∀ m, m ≤ st.log.length → undoN st m = (st.log.take (st.log.length - m)).foldl wrF l := by
  intro m
  induction m with
  | zero => intro _; rw [Nat.sub_zero, List.take_length]; exact h.words
  | succ m ih =>
    intro hm
    have e := ih (by omega)
    have hi : st.log.length - 1 - m < st.log.length := by omega
    show (undoN st m).set (st.log.getD (st.log.length - 1 - m) ⟨0, 0, 0, 0, 0, 0, 0⟩).ad.toNat (st.ahead.getD (st.log.length - 1 - m) 0) = _
    rw [e, show st.log.length - m = (st.log.length - 1 - m) + 1 by omega, take_next st.log _ hi, List.foldl_append, h.beside _ hi]
    have hg : st.log.getD (st.log.length - 1 - m) ⟨0, 0, 0, 0, 0, 0, 0⟩ = st.log[st.log.length - 1 - m] := by simp [List.getD, hi]
    rw [hg, show st.log.length - (m + 1) = st.log.length - 1 - m by omega]
    simp only [List.foldl_cons, List.foldl_nil]
    unfold wrF
    split
    · exact set_self _ _ _
    · exact set_same _ _
theorem Good2.back {l : List Int} {st : MemS} (h : Good2 l st) {c : Nat} (hc : c ≤ st.log.length) : Good2 l (st.back c) := by
  have hw : (st.back c).words = (st.log.take c).foldl wrF l := by
    show undoN st (st.log.length - c) = _
    rw [undo_replay h _ (by omega), show st.log.length - (st.log.length - c) = c by omega]
  refine ⟨⟨hw, fun i a hi => ?_, ?_⟩, fun i hi => ?_⟩
  · have hi' : (st.log.take c)[i]? = some a := hi
    rw [List.getElem?_take] at hi'
    split at hi'
    · rename_i hic
      have := h.saw i a hi'
      show sawOk (((st.log.take c).take i).foldl wrF l) a
      rw [List.take_take, Nat.min_eq_left (by omega)]
      exact this
    · cases hi'
  · show (st.ahead.take c).length = (st.log.take c).length
    have := h.ahead
    simp [this]
  · have hi' : i < (st.log.take c).length := hi
    have hic : i < c := by simp at hi'; omega
    have hil : i < st.log.length := by omega
    show (st.ahead.take c).getD i 0 = (((st.log.take c).take i).foldl wrF l).getD (st.log.take c)[i].ad.toNat 0
    rw [List.take_take, Nat.min_eq_left (by omega)]
    have e1 : (st.ahead.take c).getD i 0 = st.ahead.getD i 0 := by simp [List.getD, hic]
    have e2 : (st.log.take c)[i] = st.log[i] := by simp
    rw [e1, e2]
    exact h.beside i hil
theorem Good2.acc {l : List Int} {st : MemS} (h : Good2 l st) (o : OpS) : Good2 l (accF st o) := by
  refine ⟨h.toGood.acc o, fun i hi => ?_⟩
  rcases accF_cases st o with he | ⟨j, kd, old, nw, saw, hj, h1, h2, h3, h4⟩
  · have key : ∀ (s : MemS), s = st → ∀ (hi : i < s.log.length), s.ahead.getD i 0 = ((s.log.take i).foldl wrF l).getD s.log[i].ad.toNat 0 := by
      rintro s rfl hi
      exact h.beside i hi
    exact key _ he hi
  · have hl := h.ahead
    have hlen : (accF st o).log.length = st.log.length + 1 := by rw [h1]; simp
    by_cases hil : i < st.log.length
    · have e1 : (accF st o).ahead.getD i 0 = st.ahead.getD i 0 := by rw [h2]; simp only [List.getD]; rw [List.getElem?_append_left (by omega)]
      have e2 : (accF st o).log[i] = st.log[i] := by simp only [h1]; rw [List.getElem_append_left hil]
      have e3 : (accF st o).log.take i = st.log.take i := by rw [h1, List.take_append_of_le_length (by omega)]
      rw [e1, e2, e3]
      exact h.beside i hil
    · obtain rfl : i = st.log.length := by omega
      have e1 : (accF st o).ahead.getD st.log.length 0 = st.words.getD j 0 := by rw [h2, ← hl]; simp [List.getD]
      have e2 : (accF st o).log[st.log.length] = ⟨st.move, o.th, kd, (j : Int), old, nw, saw⟩ := by simp only [h1]; simp
      have e3 : (accF st o).log.take st.log.length = st.log := by rw [h1, List.take_left' rfl]
      rw [e1, e2, e3, ← h.words]
      simp
theorem Good2.start (l : List Int) : Good2 l ⟨l, [], [], 0⟩ := ⟨Good.start l, fun i hi => by simp at hi⟩
theorem Good2.move {l : List Int} {st : MemS} (h : Good2 l st) (x : Int) : Good2 l { st with move := x } := ⟨⟨h.words, h.saw, h.ahead⟩, h.beside⟩

/-- what a call of a script makes of a memory -/
def nextF (st : MemS) (o : OpS) : MemS :=
  if o.kd = 1 then { st with move := o.n }
  else if o.kd = 2 then (if 0 ≤ o.ad ∧ o.ad < (st.words.length : Int) then st.load o.th o.ad.toNat else st)
  else if o.kd = 3 then (if 0 ≤ o.ad ∧ o.ad < (st.words.length : Int) then st.store o.th o.ad.toNat o.w else st)
  else if o.kd = 4 then (if 0 ≤ o.ad ∧ o.ad < (st.words.length : Int) then st.swap o.th o.ad.toNat o.old o.w else st)
  else if o.kd = 5 then (if 0 ≤ o.n ∧ o.n ≤ (st.log.length : Int) then st.back o.n.toNat else st)
  else st
/-- what it is told -/
def tellF (st : MemS) (o : OpS) : TellS :=
  if o.kd = 1 then ⟨0, [], [], []⟩
  else if o.kd = 2 then (if 0 ≤ o.ad ∧ o.ad < (st.words.length : Int) then ⟨0, [], [st.at o.ad.toNat], []⟩ else ⟨20, [], [0], []⟩)
  else if o.kd = 3 then (if 0 ≤ o.ad ∧ o.ad < (st.words.length : Int) then ⟨0, [], [], []⟩ else ⟨20, [], [], []⟩)
  else if o.kd = 4 then (if 0 ≤ o.ad ∧ o.ad < (st.words.length : Int) then (if st.at o.ad.toNat = o.old then ⟨0, [1], [st.at o.ad.toNat], []⟩ else ⟨0, [0], [st.at o.ad.toNat], []⟩) else ⟨20, [0], [0], []⟩)
  else if o.kd = 5 then (if 0 ≤ o.n ∧ o.n ≤ (st.log.length : Int) then ⟨0, [], [], []⟩ else ⟨21, [], [], []⟩)
  else if o.kd = 6 then (if 0 ≤ o.ad ∧ o.ad < (st.words.length : Int) then ⟨0, [(lastW o.ad (items st.log 0 st.log.length)).1, (lastW o.ad (items st.log 0 st.log.length)).2], [], []⟩ else ⟨20, [0, 0], [], []⟩)
  else if o.kd = 7 then ⟨0, numsL st.log o.n.toNat (st.log.length - o.n.toNat), [], logL st.log o.n.toNat (st.log.length - o.n.toNat)⟩
  else if o.kd = 8 then ⟨0, numsL st.log o.n.toNat (min (st.log.length - o.n.toNat) (stopF o.ad)), [], logL st.log o.n.toNat (min (st.log.length - o.n.toNat) (stopF o.ad))⟩
  else if o.kd = 9 then ⟨0, [], st.words, []⟩
  else if o.kd = 10 then ⟨0, [(st.log.length : Int), (st.words.length : Int)], [], []⟩
  else ⟨0, [], [], []⟩

theorem Good2.next {l : List Int} {st : MemS} (h : Good2 l st) (o : OpS) : Good2 l (nextF st o) := by
  unfold nextF
  have ha := fun kd => h.acc ⟨kd, o.th, o.ad, o.n, o.old, o.w⟩
  by_cases hin : 0 ≤ o.ad ∧ o.ad < (st.words.length : Int)
  · have a2 := ha 0
    have a3 := ha 1
    have a4 := ha 2
    unfold accF at a2 a3 a4
    simp only [hin, and_self, ↓reduceIte, show (Int.tmod 0 3 = 0) = True by decide, show (Int.tmod 1 3 = 0) = False by decide, show (Int.tmod 1 3 = 1) = True by decide, show (Int.tmod 2 3 = 0) = False by decide, show (Int.tmod 2 3 = 1) = False by decide, show (Int.tmod 2 3 = -1) = False by decide, or_self, true_or] at a2 a3 a4
    simp only [hin, and_self, ↓reduceIte]
    split
    · exact h.move _
    · split
      · exact a2
      · split
        · exact a3
        · split
          · exact a4
          · split
            · split
              · exact h.back (by omega)
              · exact h
            · exact h
  · simp only [if_neg hin]
    split
    · exact h.move _
    · split
      · exact h
      · split
        · exact h
        · split
          · exact h
          · split
            · split
              · exact h.back (by omega)
              · exact h
            · exact h
theorem nextF_log (st : MemS) (o : OpS) : (nextF st o).log.length ≤ st.log.length + 1 := by
  unfold nextF
  split
  · show st.log.length ≤ _; omega
  · split
    · split
      · simp [MemS.load, MemS.note]
      · omega
    · split
      · split
        · simp [MemS.store, MemS.note]
        · omega
      · split
        · split
          · unfold MemS.swap; split <;> simp [MemS.note]
          · omega
        · split
          · split
            · show (st.log.take _).length ≤ _; simp; omega
            · omega
          · omega
end Go.Proofs.Ytpmadfokpimjcaa
