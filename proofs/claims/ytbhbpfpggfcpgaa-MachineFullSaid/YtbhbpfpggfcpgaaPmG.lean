/-
What always holds of a machine (PM.Good) is kept by its moves; a new machine of the own kit; machine.Run at a plain machine.
-/
import Derived.Test.YtbhbpfpggfcpgaaPmA
import Derived.Test.YtbhbpfpggfcpgaaRun
import Derived.Test.YtbhbpfpggfcpgaaOwnOk
import Derived.Test.YtbhbpfpggfcpgaaNewM
namespace Go
open Go.RowKit
def PM.init (K : Kits) (l : List Int) (n : Nat) (s : K.S) : PM K := ⟨l, [], [], [], List.replicate n ⟨none, false, -1, 0, 0⟩, 0, [], s⟩
def PM.goes {K : Kits} (p : PM K) (ms : List Mv) : PM K := ms.foldl (fun p m => (p.move m).1) p
def PM.run {K : Kits} (p : PM K) : Go.Proofs.Ytbhbpfpggfcpgaa.RunS := ⟨p.calls, p.log, p.shifts, p.words⟩
theorem PM.goes_snoc {K : Kits} (p : PM K) (ms : List Mv) (m : Mv) : p.goes (ms ++ [m]) = ((p.goes ms).move m).1 := by simp [PM.goes, List.foldl_append]
theorem PM.goes_append {K : Kits} (p : PM K) (a b : List Mv) : p.goes (a ++ b) = (p.goes a).goes b := by simp [PM.goes, List.foldl_append]
theorem PM.Good.init (K : Kits) (l : List Int) (n : Nat) (s : K.S) (h1 : 1 ≤ n) (hn : n ≤ 1000) : (PM.init K l n s).Good := by
  refine ⟨by simp [PM.init]; omega, by simp [PM.init]; omega, by simp [PM.init], by simp [PM.init], by simp [PM.init], by simp [PM.init], by simp [PM.init], ?_, ?_⟩
  · intro i se h
    simp only [PM.init, List.getElem?_replicate] at h
    split at h
    · cases h; exact ⟨by show (-1 : Int) ≤ -1; omega, by show (-1 : Int) < _; simp [PM.init]⟩
    · cases h
  · intro i se t h ht
    simp only [PM.init, List.getElem?_replicate] at h
    split at h
    · cases h; cases ht
    · cases h
/-- which cases a move has -/
theorem PM.move_cases {K : Kits} (p : PM K) (mv : Mv) :
    (65536 ≤ p.moves ∧ p.move mv = (p, false)) ∨ (p.moves < 65536 ∧ p.move mv = (p.skip, false)) ∨
    (p.moves < 65536 ∧ ∃ (i : Nat) (se : PSeat K.T) (t : K.T), mv.th = (i : Int) ∧ p.seats[i]? = some se ∧ se.task = some t ∧ mv.op = 0 ∧ p.move mv = (p.step i se t, true)) ∨
    (p.moves < 65536 ∧ ∃ (i : Nat) (se : PSeat K.T) (t : K.T), mv.th = (i : Int) ∧ p.seats[i]? = some se ∧ se.task = none ∧ mv.op ≠ 0 ∧ K.make p.s mv = some t ∧ p.move mv = (p.begin i mv t, true)) := by
  unfold PM.move
  by_cases hf : 65536 ≤ p.moves
  · exact .inl ⟨hf, by rw [if_pos hf]⟩
  refine .inr ?_
  simp only [if_neg hf]
  by_cases h0 : mv.th < 0
  · exact .inl ⟨by omega, by rw [if_pos h0]⟩
  simp only [if_neg h0]
  cases hse : p.seats[mv.th.toNat]? with
  | none => exact .inl ⟨by omega, rfl⟩
  | some se =>
    cases hta : se.task with
    | some t =>
      by_cases hop : mv.op = 0
      · exact .inr (.inl ⟨by omega, mv.th.toNat, se, t, by omega, hse, hta, hop, by simp only [hta, if_pos hop]⟩)
      · exact .inl ⟨by omega, by simp only [hta, if_neg hop]⟩
    | none =>
      by_cases hop : mv.op = 0
      · exact .inl ⟨by omega, by simp only [hta, if_pos hop]⟩
      · cases hmk : K.make p.s mv with
        | none => exact .inl ⟨by omega, by simp only [hta, if_neg hop]⟩
        | some t => exact .inr (.inr ⟨by omega, mv.th.toNat, se, t, by omega, hse, hta, hop, rfl, by simp only [hta, if_neg hop]⟩)
theorem set_cases {α : Type} {l : List α} {i j : Nat} {a b : α} (h : (l.set i a)[j]? = some b) : (i = j ∧ a = b) ∨ l[j]? = some b := by
  rw [List.getElem?_set] at h
  split at h
  · rename_i e
    split at h
    · exact .inl ⟨e, Option.some.inj h⟩
    · cases h
  · exact .inr h
theorem PM.moves_le {K : Kits} (p : PM K) (mv : Mv) : p.moves ≤ (p.move mv).1.moves ∧ (p.move mv).1.moves ≤ p.moves + 1 := by
  rcases p.move_cases mv with ⟨_, h⟩ | ⟨_, h⟩ | ⟨_, i, se, t, _, _, _, _, h⟩ | ⟨_, i, se, t, _, _, _, _, _, h⟩
  · rw [h]; exact ⟨Nat.le_refl _, Nat.le_succ _⟩
  · rw [h]; exact ⟨Nat.le_succ _, Nat.le_refl _⟩
  · rw [h]; exact ⟨Nat.le_succ _, Nat.le_refl _⟩
  · rw [h]; exact ⟨Nat.le_succ _, Nat.le_refl _⟩
end Go
namespace Go.Proofs.Ytbhbpfpggfcpgaa
open Go.ChangeShapes Go.WideShapes Go.ChangeAt Go.RowKit

section
variable {K : Kits}
theorem few12 (hK : KitsOk K) (rdy : Bool) (s : K.S) (t : K.T) (d : DeskS) :
    (K.r2 (K.r1 rdy s t d)).2.2.1.mem.log.length ≤ d.mem.log.length + 4 ∧ (K.r2 (K.r1 rdy s t d)).2.2.1.mem.ahead.length ≤ d.mem.ahead.length + 4 ∧ (K.r2 (K.r1 rdy s t d)).2.2.1.shifts.length ≤ d.shifts.length + 8 := by
  have h1 : (K.r1 rdy s t d).2.2.1.mem.log.length ≤ d.mem.log.length + 2 ∧ (K.r1 rdy s t d).2.2.1.mem.ahead.length ≤ d.mem.ahead.length + 2 ∧ (K.r1 rdy s t d).2.2.1.shifts.length ≤ d.shifts.length + 4 := by
    cases rdy with
    | true => rw [r1_true]; exact ⟨Nat.le_add_right _ _, Nat.le_add_right _ _, Nat.le_add_right _ _⟩
    | false => rw [r1_false]; obtain ⟨a, b, c, _⟩ := hK.few s t d; exact ⟨a, b, c⟩
  generalize K.r1 rdy s t d = r at *
  unfold Kits.r2
  split
  · exact ⟨by omega, by omega, by omega⟩
  · obtain ⟨_, _, _, a, b, c⟩ := hK.few r.1 r.2.1 r.2.2.1
    exact ⟨by omega, by omega, by omega⟩

theorem PM.Good.move (hK : KitsOk K) {p : PM K} (h : p.Good) (mv : Mv) : (p.move mv).1.Good := by
  rcases p.move_cases mv with ⟨_, e⟩ | ⟨ht, e⟩ | ⟨ht, i, se, t, hi, hs, hta, hop, e⟩ | ⟨ht, i, se, t, hi, hs, hta, hop, hm, e⟩
  · rw [e]; exact h
  · rw [e]; exact h.skip ht
  · rw [e]
    have h1 := few12 hK se.ready p.s t (p.desk i se (p.calls.getD se.last.toNat default))
    have hl := h.last i se hs
    have hb := h.busy i se t hs hta
    have hd1 : (p.desk i se (p.calls.getD se.last.toNat default)).mem.log = p.log := rfl
    have hd2 : (p.desk i se (p.calls.getD se.last.toNat default)).mem.ahead = p.ahead := rfl
    have hd3 : (p.desk i se (p.calls.getD se.last.toNat default)).shifts = p.shifts := rfl
    rw [hd1, hd2, hd3] at h1
    have g1 := h.log
    have g2 := h.ahead
    have g3 := h.shifts
    have g4 := h.calls
    refine ⟨?_, ?_, ?_, ?_, ?_, ?_, ?_, ?_, ?_⟩
    · show (p.seats.set _ _).length ≤ _
      rw [List.length_set]; exact h.few
    · show 0 < (p.seats.set _ _).length
      rw [List.length_set]; exact h.pos
    · show p.moves + 1 ≤ _; omega
    · show _ ≤ 4 * (p.moves + 1); have := h1.1; unfold PM.step PM.res; simp only; omega
    · show _ ≤ 4 * (p.moves + 1); have := h1.2.1; unfold PM.step PM.res; simp only; omega
    · show _ ≤ 8 * (p.moves + 1); have := h1.2.2; unfold PM.step PM.res; simp only; omega
    · show (p.calls.set _ _).length ≤ p.moves + 1
      rw [List.length_set]; omega
    · intro j sj hj
      show -1 ≤ sj.last ∧ sj.last < ((p.calls.set _ _).length : Int)
      rw [List.length_set]
      rcases set_cases hj with ⟨_, rfl⟩ | h2
      · exact ⟨hl.1, hl.2⟩
      · exact h.last j sj h2
    · intro j sj tj hj htj
      rcases set_cases hj with ⟨_, rfl⟩ | h2
      · exact hb
      · exact h.busy j sj tj h2 htj
  · rw [e]
    have g1 := h.log
    have g2 := h.ahead
    have g3 := h.shifts
    have g4 := h.calls
    have hcl : (p.begin i mv t).calls.length = p.calls.length + 1 := by simp [PM.begin]
    refine ⟨?_, ?_, ?_, ?_, ?_, ?_, ?_, ?_, ?_⟩
    · show (p.seats.set _ _).length ≤ _
      rw [List.length_set]; exact h.few
    · show 0 < (p.seats.set _ _).length
      rw [List.length_set]; exact h.pos
    · show p.moves + 1 ≤ _; omega
    · show p.log.length ≤ 4 * (p.moves + 1); omega
    · show p.ahead.length ≤ 4 * (p.moves + 1); omega
    · show p.shifts.length ≤ 8 * (p.moves + 1); omega
    · rw [hcl]; show _ ≤ p.moves + 1; omega
    · intro j sj hj
      rw [hcl]
      rcases set_cases hj with ⟨_, rfl⟩ | h2
      · exact ⟨by show -1 ≤ (p.calls.length : Int); omega, by show (p.calls.length : Int) < _; omega⟩
      · have := h.last j sj h2; omega
    · intro j sj tj hj htj
      rcases set_cases hj with ⟨_, rfl⟩ | h2
      · show (0 : Int) ≤ p.calls.length; omega
      · exact h.busy j sj tj h2 htj
theorem PM.Good.goes (hK : KitsOk K) {p : PM K} (h : p.Good) (ms : List Mv) : (p.goes ms).Good := by
  induction ms generalizing p with
  | nil => exact h
  | cons m ms ih => exact ih (PM.Good.move hK h m)

theorem PM.words_len (hw : ∀ s t d, (K.ready s t d).2.2.1.mem.words.length = d.mem.words.length ∧ (K.step s t d).2.2.1.mem.words.length = d.mem.words.length) (p : PM K) (mv : Mv) : (p.move mv).1.words.length = p.words.length := by
  rcases p.move_cases mv with ⟨_, e⟩ | ⟨ht, e⟩ | ⟨ht, i, se, t, hi, hs, hta, hop, e⟩ | ⟨ht, i, se, t, hi, hs, hta, hop, hm, e⟩
  · rw [e]
  · rw [e]; rfl
  · rw [e]
    show (p.res i se (p.calls.getD se.last.toNat default) t).2.2.1.mem.words.length = _
    unfold PM.res
    have h1 : (K.r1 se.ready p.s t (p.desk i se (p.calls.getD se.last.toNat default))).2.2.1.mem.words.length = p.words.length := by
      cases se.ready with
      | true => rfl
      | false => rw [r1_false]; exact (hw _ _ _).1
    generalize K.r1 se.ready p.s t (p.desk i se (p.calls.getD se.last.toNat default)) = r at *
    unfold Kits.r2
    split
    · exact h1
    · exact ((hw _ _ _).2).trans h1
  · rw [e]; rfl
theorem PM.words_lens (hw : ∀ s t d, (K.ready s t d).2.2.1.mem.words.length = d.mem.words.length ∧ (K.step s t d).2.2.1.mem.words.length = d.mem.words.length) (p : PM K) (ms : List Mv) : (p.goes ms).words.length = p.words.length := by
  induction ms generalizing p with
  | nil => rfl
  | cons m ms ih => exact (ih (p.move m).1).trans (PM.words_len hw p m)

theorem pm_run {w : World} {base xb : Nat} {p : PM K} {kit : Value} {F : Nat → Prop} (hG : p.Good) (h : PMAt K w base xb p kit F) (hw : p.words.length ≤ 1000000) : Calls Try.prog 19 #[.pointer (some ⟨xb, 0, none⟩)] w (RunRes w p.run) := by
  obtain ⟨st, v, vs, Fk, H, R, rfl, rfl⟩ := h
  have h1 := hG.log
  have h3 := hG.shifts
  have h4 := hG.calls
  have htop := hG.top
  have hpos := hG.pos
  have hlen := R.len
  have e1 := congrArg List.length R.log
  have e3 := congrArg List.length R.shifts
  have e4 := congrArg List.length R.calls
  have e5 := congrArg List.length R.words
  have := run_any H.m R.on (by omega) (by omega) (by omega) (by omega) (by omega)
  rw [R.calls, R.log, R.shifts, R.words] at this
  exact this
end

/-! ### the own kit -/
theorem own_words (size : Int) : ∀ s t d, ((ownK size).ready s t d).2.2.1.mem.words.length = d.mem.words.length ∧ ((ownK size).step s t d).2.2.1.mem.words.length = d.mem.words.length := by
  intro s t d
  refine ⟨rfl, ?_⟩
  show (Tk.step t d).2.1.mem.words.length = _
  have hl : ∀ a, (d.load a).mem.words.length = d.mem.words.length := fun a => by unfold DeskS.load; split <;> rfl
  have hs : ∀ a o x, (d.swap a o x).mem.words.length = d.mem.words.length := fun a o x => by
    unfold DeskS.swap
    split
    · show (d.mem.swap d.th a.toNat o x).words.length = _
      unfold MemS.swap
      split <;> simp [MemS.note]
    · rfl
  cases t with
  | look a => exact hl a
  | bump a saw ld =>
    cases ld with
    | false => exact hl a
    | true =>
      unfold Tk.step
      simp only
      split
      · exact hs _ _ _
      · exact hs _ _ _

/-- what Own and then New leave -/
def NewPM (w : World) (l : List Int) (size : Int) (n : Nat) (e : Ending) (w' : World) : Prop :=
  ∃ xb kit F, e = .returned (.tuple #[.pointer (some ⟨xb, 0, none⟩), .int .i64 0]) ∧ PMAt (ownK size) w' w.heap.size xb (PM.init (ownK size) l n ()) kit F ∧ Only (fun _ => False) w w'
theorem newAt_pm {w w1 w2 : World} {l : List Int} {size : Int} {n : Nat} {kb sb tb xb : Nat} (hk : KitAt w1 w.heap.size size (.map (some kb)) kb sb tb) (ho : Only (fun _ => False) w w1) (h : NewAt w1 (.map (some kb)) l n xb w2) :
    ∃ F, PMAt (ownK size) w2 w.heap.size xb (PM.init (ownK size) l n ()) (.map (some kb)) F ∧ Only (fun _ => False) w w2 := by
  obtain ⟨v, hA, hO, hKi⟩ := h
  have hlt : ∀ k, (k = kb ∨ k = sb ∨ k = tb) → w.heap.size ≤ k ∧ k < w1.heap.size := by
    have a1 := (Array.getElem?_eq_some_iff.1 hk.map).1
    have a2 := (Array.getElem?_eq_some_iff.1 hk.sz).1
    have a3 := (Array.getElem?_eq_some_iff.1 hk.fn).1
    have b1 := hk.k0
    have b2 := hk.s0
    have b3 := hk.t0
    rintro k (rfl | rfl | rfl) <;> exact ⟨by assumption, by assumption⟩
  have hs := hO.size
  have hb : ∀ k, k < w1.heap.size → w2.heap[k]? = w1.heap[k]? := fun k hl => hO.block k hl (fun x => x)
  have hK2 : KitAt w2 w.heap.size size (.map (some kb)) kb sb tb :=
    ⟨rfl, by rw [hb kb (hlt kb (.inl rfl)).2]; exact hk.map, by rw [hb sb (hlt sb (.inr (.inl rfl))).2]; exact hk.sz, by rw [hb tb (hlt tb (.inr (.inr rfl))).2]; exact hk.fn, hk.k0, hk.s0, hk.t0⟩
  refine ⟨_, ⟨newS l n, v, List.replicate n .nilIface, fun k => k = kb ∨ k = sb ∨ k = tb, ⟨hA.base_mono ho.size, ?_, ?_, ?_, ?_⟩, ?_, hKi, rfl⟩, ho.trans hO (fun _ x => x.elim)⟩
  · rw [hKi]
    refine ⟨kb, sb, tb, fun _ => 0, fun _ => 0, hK2, fun k hk' => ⟨(hlt k hk').1, by have := (hlt k hk').2; omega⟩, .inl rfl, .inr (.inl rfl), .inr (.inr rfl), rfl, rfl, rfl, ?_, ?_⟩
    · intro i hi
      simp only [PM.init, List.map_replicate] at hi
      change (List.replicate n (none : Option Tk))[i]? = _ at hi
      rw [List.getElem?_replicate] at hi
      split at hi
      · rename_i hlt; rw [List.getElem?_replicate, if_pos hlt]
      · cases hi
    · intro i t hi
      simp only [PM.init, List.map_replicate] at hi
      change (List.replicate n (none : Option Tk))[i]? = _ at hi
      rw [List.getElem?_replicate] at hi
      split at hi <;> cases hi
  · intro k hk' ho'
    have := (hlt k hk').2
    have := (hA.lt k ho').1
    omega
  · simp [newS]
  · simp [PM.init]
  · exact ⟨rfl, rfl, rfl, rfl, rfl, rfl, rfl, by simp [newS, PM.init]⟩
end Go.Proofs.Ytbhbpfpggfcpgaa
