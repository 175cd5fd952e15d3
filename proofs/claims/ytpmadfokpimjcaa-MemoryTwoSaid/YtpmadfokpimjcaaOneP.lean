/-
What one access makes of a memory. Plain; and reclaimlaw02.logged of the last entry.
-/
import Derived.Test.YtpmadfokpimjcaaRep
namespace Go.Proofs.Ytpmadfokpimjcaa
open Go.ChangeShapes Go.WideShapes Go.ChangeAt Go.RowKit

theorem accF_no (st : MemS) (o : OpS) (h : o.ad < 0 ∨ (st.words.length : Int) ≤ o.ad) : accF st o = st := by
  unfold accF
  rw [if_neg (by omega)]
theorem accF_yes (st : MemS) (o : OpS) (j : Nat) (hj : o.ad = (j : Int)) (h : j < st.words.length) : ∃ kd old nw saw ahd, (accF st o).log = st.log ++ [⟨st.move, o.th, kd, (j : Int), old, nw, saw⟩] ∧
    (accF st o).ahead = st.ahead ++ [ahd] ∧ (accF st o).move = st.move ∧ ahd = st.words.getD j 0 ∧
    (accF st o).words = if accWr ⟨st.move, o.th, kd, (j : Int), old, nw, saw⟩ = true then st.words.set j nw else st.words := by
  unfold accF
  rw [if_pos (by omega), show o.ad.toNat = j by omega]
  split
  · exact ⟨1, 0, 0, st.at j, st.at j, by simp [MemS.load, MemS.note], by simp [MemS.load, MemS.note], rfl, rfl, by simp [MemS.load, MemS.note, accWr]⟩
  · split
    · exact ⟨2, 0, o.w, 0, st.at j, by simp [MemS.store, MemS.note], by simp [MemS.store, MemS.note], rfl, rfl, by simp [MemS.store, accWr]⟩
    · unfold MemS.swap
      split
      · rename_i he
        exact ⟨3, o.old, o.w, st.at j, st.at j, by simp [MemS.note], by simp [MemS.note], rfl, rfl, by simp [accWr, he]⟩
      · rename_i he
        exact ⟨3, o.old, o.w, st.at j, st.at j, by simp [MemS.note], by simp [MemS.note], rfl, rfl, by simp [MemS.note, accWr, he]⟩

theorem box_only {F : Nat → Prop} {w w' : World} {b : Nat} {o : Obj} (hb : w.heap[b]? = some o) (h : Only F w w') (hF : ¬ F b) : w'.heap[b]? = some o := by
  rw [h.block b (Array.getElem?_eq_some_iff.1 hb).1 hF]
  exact hb
theorem boxO {w : World} {b : Nat} {a0 a1 a2 a3 a4 a5 : Value} {t : TypeId} (h : w.heap[b]? = some (.cells #[a0, a1, a2, a3, a4, a5] t (0, 0))) : w.cell? ⟨b, 0, none⟩ = some a0 ∧ w.cell? ⟨b, 1, none⟩ = some a1 ∧ w.cell? ⟨b, 2, none⟩ = some a2 ∧ w.cell? ⟨b, 3, none⟩ = some a3 ∧
    w.cell? ⟨b, 4, none⟩ = some a4 ∧ w.cell? ⟨b, 5, none⟩ = some a5 ∧ b < w.heap.size :=
  ⟨by simp [World.cell?, h], by simp [World.cell?, h], by simp [World.cell?, h], by simp [World.cell?, h], by simp [World.cell?, h], by simp [World.cell?, h], (Array.getElem?_eq_some_iff.1 h).1⟩

/-- the last entry -/
def LogOne (w : World) (N : Nat) (a : Acc) (e : Ending) (w' : World) : Prop :=
  ∃ on cn ol cl, e = .returned (.tuple #[.slice on 1 cn, .slice ol 1 cl, .bool true]) ∧ 1 ≤ cn ∧ 1 ≤ cl ∧ cn ≤ 9223372036854775807 ∧ cl ≤ 9223372036854775807 ∧
    w'.RowV w.heap.size 3 1 (.slice on 1 cn) 1 [.int .i64 (N : Int)] ∧ w'.RowV w.heap.size 45 7 (.slice ol 1 cl) 1 a.cells ∧ Below w.heap.size w w'
theorem logged_one {w : World} {base mb : Nat} {st : MemS} {v : MemV} (h : MemAt w base mb st v) (hl : st.log.length ≤ 3000000000000) {log0 : List Acc} {a : Acc} (he : st.log = log0 ++ [a]) :
    Calls Try.prog 21 #[.pointer (some ⟨mb, 0, none⟩), .int .i64 (log0.length : Int), .int .i64 2] w (LogOne w log0.length a) := by
  refine (logged_any h hl log0.length _ 2 (.inl rfl)).mono ?_
  rintro e w' ⟨on, cn, ol, cl, he', h1, h2, h3⟩
  have hlen : st.log.length = log0.length + 1 := by rw [he]; simp
  have hc : min (st.log.length - log0.length) (2 : Int).toNat = 1 := by rw [hlen]; simp
  have hi : items st.log log0.length (log0.length + 1) = [(log0.length, a)] := by
    rw [he, items_snoc _ _ _ (Nat.le_refl _), items_none _ _ _ (Nat.le_refl _)]
    simp
  rw [hc] at he' h1 h2
  rw [hi] at h1 h2
  obtain ⟨o1, c1, e1, q1, r1⟩ := h1.form
  obtain ⟨o2, c2, e2, q2, r2⟩ := h2.form
  cases e1
  cases e2
  unfold maxLen at r1 r2
  have hn : nums [(log0.length, a)] = [.int .i64 (log0.length : Int)] := rfl
  have hE : ents [(log0.length, a)] = a.cells := by simp [ents, accs]
  rw [hn] at h1
  rw [hE] at h2
  exact ⟨on, cn, ol, cl, he', q1, q2, by omega, by omega, h1, h2, h3⟩

def OneSt (w : World) (mb n k : Nat) (wr : World) : Prop :=
  ∃ st v, MemAt wr w.heap.size mb st v ∧ st.words.length = n ∧ st.log.length ≤ k ∧ st.ahead.length = st.log.length
end Go.Proofs.Ytpmadfokpimjcaa
