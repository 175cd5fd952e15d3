/-
What memory.Back makes of a memory. Plain.
-/
import Derived.Test.YtpmadfokpimjcaaMemE
namespace Go
open Go.RowKit
section
variable {w : World} {base : Nat} {e : TypeId} {size : Nat}
/-- s[:c:c] -/
theorem World.RowV.cutTo {o : Option Addr} {n cap : Nat} {xs : List Value} (h : w.RowV base e size (.slice o n cap) n xs) {c : Nat} (hc : c ≤ n) : w.RowV base e size (.slice o c c) c (xs.take (c * size)) := by
  have hle := Nat.mul_le_mul_right size hc
  refine ⟨by rw [List.length_take, h.1]; omega, ?_⟩
  by_cases h0 : c = 0
  · subst h0
    exact .inl ⟨o, rfl, rfl⟩
  · rcases h.2 with ⟨o', e', rfl⟩ | ⟨g, cap', cur, e', hb, hgg, hn, hcp, hm, hs, ht⟩
    · omega
    · cases e'
      exact .inr ⟨g, c, cur, rfl, hb, hgg, Nat.le_refl _, by omega, by omega, Nat.le_trans (Nat.mul_le_mul_right size (by omega)) hs, by rw [← ht, List.take_take, Nat.min_eq_left hle]⟩
end
theorem rowBlock_cut {o : Option Addr} {n cap c k : Nat} (hcap : c ≤ cap) (h : (Value.slice o c c).rowBlock = some k) : (Value.slice o n cap).rowBlock = some k := by
  cases o with
  | none => simp [Value.rowBlock] at h
  | some a =>
    simp only [Value.rowBlock] at h ⊢
    split at h
    · cases h
    · rw [if_neg (by omega)]
      exact h

/-- the words with the last m entries taken back -/
def undoN (st : MemS) : Nat → List Int
  | 0 => st.words
  | m + 1 => (undoN st m).set (st.log.getD (st.log.length - 1 - m) ⟨0, 0, 0, 0, 0, 0, 0⟩).ad.toNat (st.ahead.getD (st.log.length - 1 - m) 0)
theorem undoN_len (st : MemS) (m : Nat) : (undoN st m).length = st.words.length := by
  induction m with
  | zero => rfl
  | succ m ih => simp [undoN, ih]
def MemS.back (st : MemS) (c : Nat) : MemS := { st with words := undoN st (st.log.length - c), log := st.log.take c, ahead := st.ahead.take c }
/-- every entry has an address that there is, and beside it what stood there -/
structure Fine (st : MemS) : Prop where
  ahead : st.ahead.length = st.log.length
  addr : ∀ a ∈ st.log, 0 ≤ a.ad ∧ a.ad < (st.words.length : Int)
theorem accs_take (l : List Acc) (c : Nat) : accs (l.take c) = (accs l).take (c * 7) := by
  induction l generalizing c with
  | nil => simp [accs]
  | cons a l ih =>
    cases c with
    | zero => simp [accs]
    | succ c =>
      have e : accs (a :: l) = a.cells ++ accs l := by simp [accs]
      have e2 : accs ((a :: l).take (c + 1)) = a.cells ++ accs (l.take c) := by simp [accs]
      rw [e, e2, ih, show (c + 1) * 7 = a.cells.length + c * 7 by simp [Acc.cells]; omega, List.take_length_add_append]
theorem u64s_take (l : List Int) (c : Nat) : u64s (l.take c) = (u64s l).take (c * 1) := by simp [u64s, List.map_take]

section
variable {w : World} {base mb : Nat} {st : MemS} {v : MemV}
/-- one word put back -/
theorem MemAt.undo (h : MemAt w base mb st v) {g j : Nat} (hg : v.vw.rowBlock = some g) (hj : j < st.words.length) (x : Int) : MemAt (w.setCell ⟨g, j, none⟩ (.int .u64 x)) base mb { st with words := st.words.set j x } v := by
  have hne : mb ≠ g := fun e => h.m1 (by rw [hg, e])
  refine ⟨?_, h.ge, ?_, h.rl.set (fun k hk e => h.wl g hg (by rw [hk]; exact congrArg some e)) _, h.ra.set (fun k hk e => h.wa g hg (by rw [hk]; exact congrArg some e)) _, h.m1, h.m2, h.m3, h.wl, h.wa, h.la⟩
  · rw [Below.heap_setCell _ _ _ _ (show mb ≠ g from hne)]
    exact h.blk
  · have := h.rw.put hg j (by omega) (.int .u64 x)
    simpa [u64s, List.map_set] using this
/-- the log and what is beside it cut short -/
theorem MemAt.cut {ow ol oa : Option Addr} {cw cl ca : Nat} (h : MemAt w base mb st ⟨.slice ow st.words.length cw, .slice ol st.log.length cl, .slice oa st.ahead.length ca⟩) (ha : st.ahead.length = st.log.length) {c : Nat} (hc : c ≤ st.log.length) :
    MemAt ((w.setCell ⟨mb, 1, none⟩ (.slice ol c c)).setCell ⟨mb, 2, none⟩ (.slice oa c c)) base mb { st with log := st.log.take c, ahead := st.ahead.take c } ⟨.slice ow st.words.length cw, .slice ol c c, .slice oa c c⟩ := by
  obtain ⟨_, q2, e2, l2, _⟩ := h.rl.form
  obtain ⟨_, q3, e3, l3, _⟩ := h.ra.form
  cases e2
  cases e3
  have bl : ∀ k, (Value.slice ol c c).rowBlock = some k → (Value.slice ol st.log.length cl).rowBlock = some k := fun k hk => rowBlock_cut (by omega) hk
  have ba : ∀ k, (Value.slice oa c c).rowBlock = some k → (Value.slice oa st.ahead.length ca).rowBlock = some k := fun k hk => rowBlock_cut (by omega) hk
  have m2' : (Value.slice ol c c).rowBlock ≠ some mb := fun e => h.m2 (bl _ e)
  have m3' : (Value.slice oa c c).rowBlock ≠ some mb := fun e => h.m3 (ba _ e)
  have tl : (st.log.take c).length = c := by simp; omega
  have ta : (st.ahead.take c).length = c := by simp; omega
  have hb := h.blk
  refine ⟨?_, h.ge, ?_, ?_, ?_, h.m1, m2', m3', fun k hk e => h.wl k hk (bl _ e), fun k hk e => h.wa k hk (ba _ e), fun k hk e => h.la k (bl _ hk) (ba _ e)⟩
  · simp [World.setCell, Array.getElem?_modify, hb]
  · exact (h.rw.set (p := ⟨mb, 1, none⟩) (fun k hk e => h.m1 (by rw [hk]; exact congrArg some e)) _).set (p := ⟨mb, 2, none⟩) (fun k hk e => h.m1 (by rw [hk]; exact congrArg some e)) _
  · show World.RowV _ base _ 7 _ (st.log.take c).length (accs (st.log.take c))
    rw [tl, accs_take]
    exact ((h.rl.cutTo hc).set (p := ⟨mb, 1, none⟩) (fun k hk e => m2' (by rw [hk]; exact congrArg some e)) _).set (p := ⟨mb, 2, none⟩) (fun k hk e => m2' (by rw [hk]; exact congrArg some e)) _
  · show World.RowV _ base _ 1 _ (st.ahead.take c).length (u64s (st.ahead.take c))
    rw [ta, u64s_take]
    exact ((h.ra.cutTo (by omega)).set (p := ⟨mb, 1, none⟩) (fun k hk e => m3' (by rw [hk]; exact congrArg some e)) _).set (p := ⟨mb, 2, none⟩) (fun k hk e => m3' (by rw [hk]; exact congrArg some e)) _
end
end Go
