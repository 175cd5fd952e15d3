/-
What a move makes of who is busy, how many calls and accesses there are (MachineSteps). Plain.
-/
import Derived.Test.YtbhbpfpggfcpgaaLtr
namespace Go
open Go.RowKit
open Go.Proofs.Ytbhbpfpggfcpgaa

def bz (o : OS) : List Bool := o.seats.map fun se => se.task.isSome
theorem bz_get {o : OS} {i : Nat} {se : OSeat} (h : o.seats[i]? = some se) : (bz o)[i]? = some se.task.isSome := by unfold bz; rw [List.getElem?_map, h]; rfl

section
variable {size : Int} {o : OS} {mv : Mv}
theorem move_out (hf : o.moves < 65536) (h : mv.th < 0 ∨ (o.seats.length : Int) ≤ mv.th) : o.move size mv = (o.skip, false) := by
  unfold OS.move
  rw [if_neg (by omega)]
  rcases h with h | h
  · rw [if_pos h]
  · by_cases h0 : mv.th < 0
    · rw [if_pos h0]
    · rw [if_neg h0, List.getElem?_eq_none (by omega)]
theorem move_in (hf : o.moves < 65536) {i : Nat} (hi : mv.th = (i : Int)) {se : OSeat} (hs : o.seats[i]? = some se) :
    o.move size mv = match se.task with
      | some t => if mv.op = 0 then (o.step i se t, true) else (o.skip, false)
      | none => if mv.op = 0 then (o.skip, false) else match ownMake size mv with
        | none => (o.skip, false)
        | some t => (o.begin i mv t, true) := by
  unfold OS.move
  have e : mv.th.toNat = i := by omega
  rw [if_neg (by omega), if_neg (by omega), e, hs]
  rfl
theorem ownMake_none (h : (mv.op ≠ 1 ∧ mv.op ≠ 2) ∨ mv.arg < 0 ∨ size ≤ mv.arg) : ownMake size mv = none := by
  unfold ownMake
  split
  · rename_i h1
    simp only [Bool.and_eq_true, decide_eq_true_eq] at h1
    rcases h with h | h | h
    · rw [if_neg h.1, if_neg h.2]
    · omega
    · omega
  · rfl
theorem ownMake_yes (h : mv.op = 1 ∨ mv.op = 2) (h0 : 0 ≤ mv.arg) (h1 : mv.arg < size) : ∃ t, ownMake size mv = some t := by
  unfold ownMake
  rw [if_pos (by simp [h0, h1])]
  rcases h with h | h
  · rw [if_pos h]; exact ⟨_, rfl⟩
  · rw [if_neg (by omega), if_pos h]; exact ⟨_, rfl⟩
end

section
variable (l : List Int) (n : Nat) (ms : List Mv) (hm : ms.length ≤ 65536) (k : Nat) (hk : k < ms.length)
include hm hk
theorem end_same (ci : Nat) (c : Cal) (he : c.en = (k : Int)) : (osOf l n ms).calls[ci]? = some c ↔ (osOf l n (ms.take (k + 1))).calls[ci]? = some c := by
  have hI2 := inv_of l n (ms.take (k + 1)) (by simp; omega)
  have hL := later_of l n ms hm (k + 1) hk
  have hmk2 : (osOf l n (ms.take (k + 1))).moves = k + 1 := by rw [hI2.moves]; simp; omega
  constructor
  · intro hc
    by_cases hlt : ci < (osOf l n (ms.take (k + 1))).calls.length
    · obtain ⟨c', h1, _, _, _, _, _, h2⟩ := hL.callp ci _ (List.getElem?_eq_getElem hlt)
      rw [hc] at h1
      cases h1
      rcases h2 with h2 | ⟨_, h2, _⟩
      · rw [h2]; exact List.getElem?_eq_getElem hlt
      · rw [hmk2] at h2; omega
    · have := hL.calln ci c (by omega) hc
      rw [hmk2] at this
      obtain ⟨_, _, _, _, _, _, _, _, _, e9⟩ := (inv_of l n ms hm).call ci c hc
      rcases e9 with ⟨e9, _⟩ | ⟨e9, _⟩ <;> omega
  · intro hc
    obtain ⟨c', h1, _, _, _, _, _, h2⟩ := hL.callp ci c hc
    rcases h2 with h2 | ⟨h2, _⟩
    · rw [← h2]; exact h1
    · omega

omit hm in
/-- a move that does nothing -/
theorem steps_same (h : (osOf l n (ms.take k)).move l.length ms[k] = ((osOf l n (ms.take k)).skip, false)) :
    (osOf l n (ms.take (k + 1))).calls.length = (osOf l n (ms.take k)).calls.length ∧ (osOf l n (ms.take (k + 1))).log.length = (osOf l n (ms.take k)).log.length ∧ bz (osOf l n (ms.take (k + 1))) = bz (osOf l n (ms.take k)) := by
  rw [osOf_next l n ms k hk, h]
  exact ⟨rfl, rfl, rfl⟩

theorem steps_begin {i : Nat} {t : Tk} (_hi : ms[k].th = (i : Int)) (h : (osOf l n (ms.take k)).move l.length ms[k] = ((osOf l n (ms.take k)).begin i ms[k] t, true)) :
    (∃ c, (osOf l n ms).calls[(osOf l n (ms.take k)).calls.length]? = some c ∧ c.beg = (k : Int) ∧ c.th = ms[k].th ∧ c.op = ms[k].op ∧ c.arg = ms[k].arg ∧ c.data = ms[k].data) ∧
    (osOf l n (ms.take (k + 1))).calls.length = (osOf l n (ms.take k)).calls.length + 1 ∧ (osOf l n (ms.take (k + 1))).log.length = (osOf l n (ms.take k)).log.length ∧ bz (osOf l n (ms.take (k + 1))) = (bz (osOf l n (ms.take k))).set i true := by
  have hI := inv_of l n (ms.take k) (by simp; omega)
  have hmk : (osOf l n (ms.take k)).moves = k := by rw [hI.moves]; simp; omega
  have hL := later_of l n ms hm (k + 1) hk
  have hnx := osOf_next l n ms k hk
  rw [h] at hnx
  have hnx' : osOf l n (ms.take (k + 1)) = (osOf l n (ms.take k)).begin i ms[k] t := hnx
  have hq : (osOf l n (ms.take (k + 1))).calls[(osOf l n (ms.take k)).calls.length]? = some ⟨ms[k].th, ms[k].op, ms[k].arg, ms[k].data, (k : Int), -1, -1, 0, 0⟩ := by
    rw [hnx']
    show ((osOf l n (ms.take k)).calls ++ [_])[_]? = _
    rw [hmk]; simp
  obtain ⟨c', h1, h2, h3, h4, h5, h6, _⟩ := hL.callp _ _ hq
  refine ⟨⟨c', h1, h6, h2, h3, h4, h5⟩, by rw [hnx']; simp [OS.begin], by rw [hnx']; rfl, ?_⟩
  rw [hnx']
  unfold bz
  exact List.map_set ..

theorem steps_step {i : Nat} {se : OSeat} {t : Tk} (hs : (osOf l n (ms.take k)).seats[i]? = some se) (hta : se.task = some t) (hi : ms[k].th = (i : Int)) (h : (osOf l n (ms.take k)).move l.length ms[k] = ((osOf l n (ms.take k)).step i se t, true)) :
    (∃ a, (osOf l n ms).log[(osOf l n (ms.take k)).log.length]? = some a ∧ a.mv = (k : Int) ∧ a.th = ms[k].th) ∧
    (osOf l n (ms.take (k + 1))).calls.length = (osOf l n (ms.take k)).calls.length ∧ (osOf l n (ms.take (k + 1))).log.length = (osOf l n (ms.take k)).log.length + 1 ∧
    ((bz (osOf l n (ms.take (k + 1))) = (bz (osOf l n (ms.take k))).set i false ∧ ∃ (ci : Nat) (c : Cal), (osOf l n ms).calls[ci]? = some c ∧ c.en = (k : Int)) ∨
     (bz (osOf l n (ms.take (k + 1))) = bz (osOf l n (ms.take k)) ∧ ∀ (ci : Nat) (c : Cal), (osOf l n ms).calls[ci]? = some c → c.en ≠ (k : Int))) := by
  have hI := inv_of l n (ms.take k) (by simp; omega)
  have hmk : (osOf l n (ms.take k)).moves = k := by rw [hI.moves]; simp; omega
  have hL := later_of l n ms hm (k + 1) hk
  have hes := end_same l n ms hm k hk
  have hnx := osOf_next l n ms k hk
  rw [h] at hnx
  have hnx' : osOf l n (ms.take (k + 1)) = (osOf l n (ms.take k)).step i se t := hnx
  obtain ⟨ci, c, q1, q2, q3, q4, q5, q6, q7, q8⟩ := hI.seat i se t hs hta
  obtain ⟨ae, x, over, S⟩ := OS.step_stp (osOf l n (ms.take k)) i ci se t c q1 q6
  rw [← hnx'] at S
  have hno : ∀ (ci : Nat) (c : Cal), (osOf l n (ms.take k)).calls[ci]? = some c → c.en ≠ (k : Int) := by
    intro ci c hc he
    obtain ⟨_, _, _, _, _, _, _, _, _, e9⟩ := hI.call ci c hc
    rcases e9 with ⟨e9, _⟩ | ⟨_, e9, _⟩ <;> omega
  have hbz : bz (osOf l n (ms.take (k + 1))) = (bz (osOf l n (ms.take k))).set i x.task.isSome := by
    unfold bz
    rw [S.seats]
    exact List.map_set ..
  refine ⟨⟨ae, hL.logp _ _ (by rw [S.log]; simp), by rw [S.emv.1, hmk], by rw [S.emv.2.1, hi]⟩, ?_, by rw [S.log]; simp, ?_⟩
  · rw [S.calls]
    cases over <;> simp
  · cases over with
    | true =>
      have hcq : (osOf l n (ms.take (k + 1))).calls[ci]? = some { c with en := (k : Int), pt := (k : Int), ak := 2, av := wrap64 ((osOf l n (ms.take k)).at t.addr) } := by
        rw [S.calls]; simp only [if_true]
        have := modify_at (ci := ci) (f := fun c => { c with en := ((osOf l n (ms.take k)).moves : Int), pt := ((osOf l n (ms.take k)).moves : Int), ak := 2, av := wrap64 ((osOf l n (ms.take k)).at t.addr) }) q2
        rw [if_pos rfl, hmk] at this
        rw [hmk]
        exact this
      exact .inl ⟨by rw [hbz, (S.ends rfl).1]; rfl, ci, _, (hes ci _ rfl).2 hcq, rfl⟩
    | false =>
      refine .inr ⟨?_, fun cj d hd he => ?_⟩
      · obtain ⟨⟨t', e1, _⟩, _⟩ := S.goes rfl
        rw [hbz, e1]
        exact set_self _ _ _ (by rw [bz_get hs, hta]; rfl)
      · have := (hes cj d he).1 hd
        rw [S.calls] at this
        exact hno cj d (by simpa using this) he
end
theorem bz_len (l : List Int) (n : Nat) (ms : List Mv) (hm : ms.length ≤ 65536) : (bz (osOf l n ms)).length = n := by unfold bz; rw [List.length_map]; exact (inv_of l n ms hm).slen
end Go
