/-
Where a plain machine lies (PMAt); machine.Move at it.
-/
import Derived.Test.YtbhbpfpggfcpgaaPm
namespace Go.Proofs.Ytbhbpfpggfcpgaa
open Go.ChangeShapes Go.WideShapes Go.ChangeAt Go.RowKit

def PMAt (K : Kits) (w : World) (base xb : Nat) (p : PM K) (kit : Value) (F : Nat → Prop) : Prop :=
  ∃ st v vs Fk, MK K w base xb st v vs p.s (p.seats.map (·.task)) Fk ∧ PMRel st p ∧ v.kit = kit ∧ F = fun k => v.own xb k ∨ Fk k

section
variable {K : Kits} {w w' : World} {base xb : Nat} {p : PM K} {kit : Value} {F : Nat → Prop}
theorem PMAt.lt (hK : KitsOk K) (h : PMAt K w base xb p kit F) : ∀ k, F k → base ≤ k ∧ k < w.heap.size := by
  obtain ⟨st, v, vs, Fk, h1, h2, h3, rfl⟩ := h
  rintro k (hk | hk)
  · exact h1.m.lt k hk
  · exact hK.lt h1.k k hk
theorem PMAt.of_block (hK : KitsOk K) (h : PMAt K w base xb p kit F) (hb : ∀ k, F k → w'.heap[k]? = w.heap[k]?) : PMAt K w' base xb p kit F := by
  obtain ⟨st, v, vs, Fk, h1, h2, h3, rfl⟩ := h
  exact ⟨st, v, vs, Fk, ⟨h1.m.of_block fun k hk => hb k (.inl hk), hK.loc h1.k fun k hk => hb k (.inr hk), h1.sep, h1.tasks, h1.len⟩, h2, h3, rfl⟩
theorem PMAt.only (hK : KitsOk K) {G : Nat → Prop} (h : PMAt K w base xb p kit F) (ho : Only G w w') (hG : ∀ k, F k → ¬ G k) : PMAt K w' base xb p kit F :=
  h.of_block hK fun k hk => ho.block k (h.lt hK k hk).2 (hG k hk)
theorem PMAt.below (hK : KitsOk K) (h : PMAt K w base xb p kit F) (hb : Below w.heap.size w w') : PMAt K w' base xb p kit F := h.of_block hK fun k hk => hb.block k (h.lt hK k hk).2

/-- the seat's task in the heap -/
theorem StepDone.pm {w0 : World} {v0 : MachV} {F0 : Nat → Prop} {st : MachS} {vs : List Value} {s : K.S} {ts : List (Option K.T)} (h : StepDone K w0 base xb v0 F0 st vs s ts w) {q : PM K} (hs : q.s = s) (ht : q.seats.map (·.task) = ts) (hr : PMRel st q) :
    ∃ F', PMAt K w base xb q v0.kit F' ∧ Only (fun k => v0.own xb k ∨ F0 k) w0 w ∧ ∀ k, F' k → (v0.own xb k ∨ F0 k) ∨ w0.heap.size ≤ k := by
  obtain ⟨v, F, h1, h2, h3, h4, e1, e2⟩ := h
  subst hs
  subst ht
  refine ⟨_, ⟨st, v, vs, F, h1, hr, e2, rfl⟩, h2, ?_⟩
  rintro k (hk | hk)
  · rcases h3 k hk with h | h
    · exact .inl (.inl h)
    · exact .inr h
  · rcases h4 k hk with h | h
    · exact .inl (.inr h)
    · exact .inr h

/-- what a move answers and leaves -/
def MoveOut (K : Kits) (w : World) (base xb : Nat) (p : PM K) (kit : Value) (F : Nat → Prop) (mv : Mv) (e : Ending) (w' : World) : Prop :=
  e = .returned (.bool (p.move mv).2) ∧ ∃ F', PMAt K w' base xb (p.move mv).1 kit F' ∧ Only F w w' ∧ ∀ k, F' k → F k ∨ w.heap.size ≤ k

theorem PMRel.skip {st : MachS} {p : PM K} (h : PMRel st p) : PMRel { st with moves := st.moves + 1 } p.skip :=
  ⟨h.words, h.log, h.ahead, h.shifts, by show st.moves + 1 = _; rw [h.moves]; rfl, h.calls, h.on, h.seats⟩

theorem pm_move (hK : KitsOk K) (hG : p.Good) (h : PMAt K w base xb p kit F) (mv : Mv) : Calls Try.prog 17 #[.pointer (some ⟨xb, 0, none⟩), mv.v] w (MoveOut K w base xb p kit F mv) := by
  obtain ⟨st, v, vs, Fk, H, R, rfl, rfl⟩ := h
  have hlen := R.len
  have hfew := hG.few
  have hpos := hG.pos
  have hmv := R.moves
  have hcalls := congrArg List.length R.calls
  have h1 := hG.log
  have h2 := hG.ahead
  have h3 := hG.shifts
  have h4 := hG.calls
  have htop := hG.top
  have e1 := congrArg List.length R.log
  have e2 := congrArg List.length R.ahead
  have e3 := congrArg List.length R.shifts
  unfold MoveOut
  by_cases hf : 65536 ≤ p.moves
  · have hm : p.move mv = (p, false) := by unfold PM.move; rw [if_pos hf]
    rw [hm]
    exact (move_full hK H mv (by omega) (by omega)).mono fun e w' ⟨he, hd⟩ => ⟨he, hd.pm rfl rfl R⟩
  · by_cases ht0 : mv.th < 0
    · have hm : p.move mv = (p.skip, false) := by unfold PM.move; rw [if_neg hf, if_pos ht0]
      rw [hm]
      exact (move_none hK H mv (by omega) (by omega) (by omega) (by omega) (.inl ht0)).mono fun e w' ⟨he, hd⟩ => ⟨he, hd.pm rfl rfl (PMRel.skip R)⟩
    · obtain ⟨n, hn⟩ : ∃ n : Nat, mv.th = n := ⟨mv.th.toNat, by omega⟩
      have hnn : mv.th.toNat = n := by omega
      cases hse : p.seats[n]? with
      | none =>
        have hge := List.getElem?_eq_none_iff.1 hse
        have hm : p.move mv = (p.skip, false) := by unfold PM.move; rw [if_neg hf, if_neg ht0, hnn, hse]
        rw [hm]
        exact (move_none hK H mv (by omega) (by omega) (by omega) (by omega) (.inr (by omega))).mono fun e w' ⟨he, hd⟩ => ⟨he, hd.pm rfl rfl (PMRel.skip R)⟩
      | some se =>
        have hlt := (List.getElem?_eq_some_iff.1 hse).1
        cases hta : se.task with
        | some t =>
          have hi : (p.seats.map (·.task))[n]? = some (some t) := by rw [List.getElem?_map, hse, Option.map_some, hta]
          by_cases hop : mv.op = 0
          · have hm : p.move mv = (p.step n se t, true) := by unfold PM.move; simp only [if_neg hf, if_neg ht0, hnn, hse, hta, if_pos hop]
            rw [hm]
            have hl := (hG.last n se hse).2
            have hl0 := hG.busy n se t hse hta
            obtain ⟨ci, hci⟩ : ∃ ci : Nat, se.last = ci := ⟨se.last.toNat, by omega⟩
            have hcl : ci < p.calls.length := by omega
            obtain ⟨ca, hca⟩ : ∃ ca, p.calls[ci]? = some ca := ⟨_, List.getElem?_eq_getElem hcl⟩
            obtain ⟨y, hy⟩ := R.seat hse
            have hca' : st.calls[ci]? = some ca := by rw [R.calls]; exact hca
            refine (move_step hK H mv n ci (by omega) (by omega) (by omega) (by omega) hn hop t hi R.on _ hy ca hca' hci (by omega) (by omega) (by omega)).mono fun e w' ⟨he, hd⟩ => ⟨he, ?_⟩
            unfold StepRes at hd
            rw [hmv, R.desk] at hd
            have hcg : p.calls.getD se.last.toNat default = ca := by rw [hci]; exact getD_of (by simpa using hca)
            have hst := R.stepped (t := t) hse hca hci
            rw [hmv] at hst
            refine StepDone.pm hd ?_ ?_ hst
            · simp only [PM.step, hcg]; rfl
            · simp only [PM.step, hcg, List.map_set]
              show List.set _ n (if (p.res n se ca t).2.2.2 = true then none else some (p.res n se ca t).2.1) = _
              show _ = (if (p.res n se ca t).2.2.2 = true then List.set _ n none else List.set _ n (some (p.res n se ca t).2.1))
              split <;> rfl
          · have hm : p.move mv = (p.skip, false) := by unfold PM.move; simp only [if_neg hf, if_neg ht0, hnn, hse, hta, if_neg hop]
            rw [hm]
            exact (move_busy hK H mv n (by omega) (by omega) (by omega) (by omega) hn hop t hi R.on).mono fun e w' ⟨he, hd⟩ => ⟨he, hd.pm rfl rfl (PMRel.skip R)⟩
        | none =>
          have hi : (p.seats.map (·.task))[n]? = some none := by rw [List.getElem?_map, hse, Option.map_some, hta]
          by_cases hop : mv.op = 0
          · have hm : p.move mv = (p.skip, false) := by unfold PM.move; simp only [if_neg hf, if_neg ht0, hnn, hse, hta, if_pos hop]
            rw [hm]
            exact (move_idle hK H mv n (by omega) (by omega) (by omega) (by omega) hn hop hi R.on).mono fun e w' ⟨he, hd⟩ => ⟨he, hd.pm rfl rfl (PMRel.skip R)⟩
          · refine (move_begin hK H mv n (by omega) (by omega) (by omega) (by omega) hn hop hi R.on (by omega)).mono fun e w' hb => ?_
            rcases hb with ⟨hno, he, hd⟩ | ⟨t, y, hmk, he, hd⟩
            · have hm : p.move mv = (p.skip, false) := by unfold PM.move; simp only [if_neg hf, if_neg ht0, hnn, hse, hta, if_neg hop, hno]
              rw [hm]
              exact ⟨he, hd.pm rfl rfl (PMRel.skip R)⟩
            · have hm : p.move mv = (p.begin n mv t, true) := by unfold PM.move; simp only [if_neg hf, if_neg ht0, hnn, hse, hta, if_neg hop, hmk]
              rw [hm]
              refine ⟨he, hd.pm rfl ?_ ?_⟩
              · simp only [PM.begin, List.map_set]
              · refine ⟨R.words, R.log, R.ahead, R.shifts, by show st.moves + 1 = _; rw [hmv]; rfl, ?_, R.on, ?_⟩
                · show st.calls ++ [_] = p.calls ++ [_]
                  rw [R.calls, hmv]
                · show (st.seats.set n _).map _ = (p.seats.set n _).map _
                  rw [List.map_set, List.map_set, R.seats]
                  show List.set _ n (false, (st.calls.length : Int), 1, 0) = List.set _ n (false, (p.calls.length : Int), 1, 0)
                  rw [R.calls]
end
end Go.Proofs.Ytbhbpfpggfcpgaa
