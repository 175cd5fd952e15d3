/-
A region that draws its order and holds reads and steps that write (as Mix), and whose last operation waits for all the others: that one may turn what was read.
-/
import Derived.Test.YtbhbpfpggfcpgaaMix
namespace Go
open Go.RowKit

section
variable {P : Program} {ops : Array Oper} {md : Region.Mode} {C : World → Prop} {ns : List Nat}

/-- the last operation waits for each of the others -/
def Region.lastB (md : Region.Mode) (ops : Array Oper) : Bool := decide (0 < ops.size) && (List.range (ops.size - 1)).all fun j => Region.reaches md ops ops.size (ops.size - 1) j

theorem wpAny_of_mix_last {Q : Exit → Act → World → Prop} {K : Act → World → Prop} (hB : Region.mixB md ops ns = true) (hL : Region.lastB md ops = true)
    (hQ : ∀ a w, C w → K a w → wpOp P ops Q (ops.size - 1) (fun a' w' => Q .normal a' w') a w) :
    ∀ (l : List Nat) (listed : Array Bool) (a : Act) (w : World), l.Pairwise (· < ·) → (∀ i, i ∈ l ↔ i < ops.size - 1 ∧ listed.getD i true = false) → listed.getD (ops.size - 1) true = false → MixInv md ops listed → C w →
      wpMix P ops C ns K l a w → wpAny P md ops Q (l.length + 1) listed a w := by
  simp only [Region.lastB, Bool.and_eq_true, decide_eq_true_eq, List.all_eq_true, List.mem_range] at hL
  obtain ⟨hpos, hL⟩ := hL
  simp only [Region.mixB, Bool.and_eq_true, List.all_eq_true, List.mem_range] at hB
  obtain ⟨hsel, hB⟩ := hB
  have hsel := Region.noSelect_spec hsel
  have main : ∀ (n : Nat) (l : List Nat), l.length = n → ∀ (listed : Array Bool) (a : Act) (w : World), l.Pairwise (· < ·) → (∀ i, i ∈ l ↔ i < ops.size - 1 ∧ listed.getD i true = false) → listed.getD (ops.size - 1) true = false → MixInv md ops listed → C w →
      wpMix P ops C ns K l a w → wpAny P md ops Q (n + 1) listed a w := by
    intro n
    induction n with
    | zero =>
      intro l hl listed a w hs hm hlast inv hw h
      obtain rfl : l = [] := List.eq_nil_of_length_eq_zero hl
      have hall : ∀ j, j < ops.size - 1 → listed.getD j false = true := by
        intro j hj
        rcases hc : listed.getD j false with _ | _
        · have := (hm j).2 ⟨hj, getD_in (by rw [inv.size]; omega) hc⟩
          cases this
        · rfl
      obtain ⟨o, ho⟩ : ∃ o, ops[ops.size - 1]? = some o := ⟨ops[ops.size - 1], by simp⟩
      have hr : ops.size - 1 ∈ Region.ready md ops listed := by
        refine mem_ready.2 ⟨hlast, o, ho, fun e he hb => ?_⟩
        have h1 := (hB (ops.size - 1) (by omega)).2
        rw [ho] at h1
        have h2 := Array.all_eq_true'.1 h1 e he
        simp only [hb, Bool.not_true, Bool.false_or, decide_eq_true_eq] at h2
        exact hall _ h2
      refine ⟨fun he => (by rw [he] at hr; cases hr), fun i hi => ?_⟩
      have hi' : i = ops.size - 1 := by
        obtain ⟨hiun, oi, hoi, _⟩ := mem_ready.1 hi
        have := (Array.getElem?_eq_some_iff.1 hoi).1
        by_cases hlt : i < ops.size - 1
        · have := hall i hlt
          rw [getD_both hiun] at this
          cases this
        · omega
      subst hi'
      refine wpOp_mono (fun a' w' hq => ⟨?_, hq⟩) (hQ a w hw h)
      refine List.eq_nil_iff_forall_not_mem.2 fun i hi => ?_
      obtain ⟨h1, o, ho, _⟩ := mem_ready.1 hi
      have hlt := (Array.getElem?_eq_some_iff.1 ho).1
      by_cases hij : ops.size - 1 = i
      · subst hij
        rw [Array.getD_eq_getD_getElem?, Array.getElem?_setIfInBounds_self_of_lt (by rw [inv.size]; exact hlt)] at h1
        cases h1
      · rw [getD_set_ne true hij] at h1
        have := hall i (by omega)
        rw [getD_both h1] at this
        cases this
    | succ n ih =>
      intro l hl listed a w hs hm hlast inv hw h
      refine ⟨fun hr => ?_, fun i hi => ?_⟩
      · cases l with
        | nil => cases hl
        | cons i l =>
          exfalso
          have hi := (hm i).1 (by simp)
          have : i ∈ Region.ready md ops listed := by
            obtain ⟨o, ho⟩ : ∃ o, ops[i]? = some o := ⟨ops[i]'(by omega), Array.getElem?_eq_getElem (by omega)⟩
            refine mem_ready.2 ⟨hi.2, o, ho, fun e he hb => ?_⟩
            have h1 := (hB i (by omega)).2
            rw [ho] at h1
            have h2 := Array.all_eq_true'.1 h1 e he
            simp only [hb, Bool.not_true, Bool.false_or, decide_eq_true_eq] at h2
            rcases hc : listed.getD e.on false with _ | _
            · exfalso
              have h3 := (hm e.on).2 ⟨by omega, getD_in (by rw [inv.size]; omega) hc⟩
              have h4 := List.pairwise_cons.1 hs
              rcases List.mem_cons.1 h3 with h5 | h5
              · omega
              · have := h4.1 _ h5
                omega
            · rfl
          rw [hr] at this
          cases this
      · obtain ⟨hiun, oi, hoi, _⟩ := mem_ready.1 hi
        have hil : i < ops.size := (Array.getElem?_eq_some_iff.1 hoi).1
        have hil' : i < ops.size - 1 := by
          by_cases hlt : i < ops.size - 1
          · exact hlt
          · exfalso
            obtain rfl : i = ops.size - 1 := by omega
            cases l with
            | nil => cases hl
            | cons j l =>
              have hj := (hm j).1 (by simp)
              have := inv.reach_ready hi _ _ (hL j hj.1)
              rw [getD_both hj.2] at this
              cases this
        obtain ⟨l1, l2, rfl⟩ := List.append_of_mem ((hm i).2 ⟨hil', hiun⟩)
        obtain ⟨p1, p2, p3⟩ := List.pairwise_append.1 hs
        have hpair : ∀ j ∈ l1, pairOk ops ns j i := by
          intro j hj
          have hji : j < i := p3 j hj i (by simp)
          have hjun := ((hm j).1 (by simp [hj])).2
          rcases Bool.or_eq_true _ _ ▸ (hB i hil).1 j hji with h1 | h1
          · have := inv.reach_ready hi _ _ h1
            rw [getD_both hjun] at this
            cases this
          · obtain ⟨oj, hoj⟩ : ∃ o, ops[j]? = some o := ⟨ops[j], by simp [Nat.lt_trans hji hil]⟩
            rw [hoj, hoi] at h1
            simp only [Bool.and_eq_true, Bool.not_eq_true', Bool.and_eq_false_iff] at h1
            refine ⟨oj, oi, hoj, hoi, h1.1.1, h1.1.2, fun hx => ?_⟩
            rcases h1.2 with h2 | h2
            · rw [hx.1] at h2; cases h2
            · rw [hx.2] at h2; cases h2
        have hst := wpMix_swap hsel l1 a w hpair hw h
        have hrest : ∀ a' w', C w' → wpMix P ops C ns K (l1 ++ l2) a' w' → wpAny P md ops Q (n + 1) (listed.setIfInBounds i true) a' w' := by
          intro a' w' hc hk
          refine ih (l1 ++ l2) (by simp at hl ⊢; omega) _ a' w' ?_ (fun j => ?_) (by rw [getD_set_ne true (by omega)]; exact hlast) (inv.set hi) hc hk
          · exact List.pairwise_append.2 ⟨p1, (List.pairwise_cons.1 p2).2, fun x hx y hy => p3 x hx y (by simp [hy])⟩
          · have hm' := hm j
            by_cases hji : i = j
            · subst hji
              constructor
              · intro hx
                rcases List.mem_append.1 hx with hx | hx
                · have := p3 i hx i (by simp); omega
                · have := (List.pairwise_cons.1 p2).1 i hx; omega
              · rintro ⟨_, hx⟩
                rw [Array.getD_eq_getD_getElem?, Array.getElem?_setIfInBounds_self_of_lt (by rw [inv.size]; exact hil)] at hx
                cases hx
            · rw [getD_set_ne true hji]
              constructor
              · intro hx
                refine hm'.1 ?_
                rcases List.mem_append.1 hx with hx | hx
                · simp [hx]
                · simp [hx]
              · intro hx
                rcases List.mem_append.1 (hm'.2 hx) with hx | hx
                · simp [hx]
                · rcases List.mem_cons.1 hx with hx | hx
                  · exact absurd hx.symm hji
                  · simp [hx]
        by_cases hmi : ns.contains i = true
        · have h1 := wpOp_mono (fun a' w' hh => hrest a' w' hh.1 hh.2) ((mixStep_move hmi).1 hst)
          unfold wpOp at h1 ⊢
          simp only [hoi] at h1 ⊢
          by_cases hwt : Region.wanted oi (yielded ops a.tmps) = true
          · simp only [hwt, if_true, not_letsOut_noExit, and_false, or_false] at h1 ⊢
            refine .inl ?_
            unfold Oper.wp at *
            generalize (execOp a.eval oi).run P w = r at *
            cases r with
            | ok n w' =>
              cases n <;> simp only [Oper.upon] at h1 ⊢
              case enter f args =>
                refine Calls.mono h1 (fun e w'' he => ?_)
                cases e with
                | returned v => exact he
                | panicked c => exact False.elim he
                | outgrown => exact absurd he not_letsOut_noExit
              all_goals exact h1
            | halt x w' => cases x <;> simp only [Oper.upon] at h1; exact False.elim h1
          · simp only [hwt] at h1 ⊢
            exact h1
        · obtain ⟨o, v, ho, hy, hk⟩ := (mixStep_read hmi).1 hst
          rw [hoi] at ho
          cases ho
          have hk := hrest _ w hw hk
          unfold wpOp
          simp only [hoi]
          rcases hy with ⟨h1, h2⟩ | ⟨h1, rfl⟩
          · simp only [h1, if_true]
            refine .inl ?_
            unfold Oper.wp
            rcases h2 w hw with h3 | ⟨h3, e3⟩
            · rw [h3]; exact hk
            · rw [h3]; subst e3; exact hk
          · simp only [h1, Bool.false_eq_true, if_false]
            exact hk
  intro l listed a w
  exact main l.length l rfl listed a w

theorem wpOp_of_list_one {Q : Exit → Act → World → Prop} {i : Nat} {o : Oper} (h0 : ops[i]? = some o) {a : Act} {w : World} (h : wpList P ops Q [o] a w) : wpOp P ops Q i (fun a' w' => Q .normal a' w') a w := by
  unfold wpOp
  simp only [h0]
  exact h

theorem wp_region_steps_last {id : Nat} {Q : Exit → Act → World → Prop} {a : Act} {w : World} {l : List Oper} (C : World → Prop) (gs : List Nat) (n : Nat) (hm : P.follows .mixedOrders = true)
    (hB : (Region.mixB .any l.toArray (stepsAt 0 (cutSteps gs (l.take n)).1) && stepsB (cutSteps gs (l.take n)).1 (cutSteps gs (l.take n)).2 && Region.lastB .any l.toArray && decide (l.length = n + 1)) = true)
    (hc : C w.drew) (h : wpSteps P l.toArray C (fun a' w' => wpList P l.toArray Q (l.drop n) a' w') (cutSteps gs (l.take n)).2 (cutSteps gs (l.take n)).1 a w.drew) : (Code.region id l.toArray true).wp P Q a w := by
  simp only [Bool.and_eq_true, decide_eq_true_eq] at hB
  obtain ⟨⟨⟨hB, hS⟩, hLast⟩, hL⟩ := hB
  have hflat : ∀ (gs : List Nat) (l : List Oper), flatSteps (cutSteps gs l).1 (cutSteps gs l).2 = l := by
    intro gs
    induction gs with
    | nil => intro l; rfl
    | cons g gs ih =>
      intro l
      simp only [cutSteps]
      cases hd : l.drop g with
      | nil => rfl
      | cons o rest =>
        simp only [flatSteps, ih rest]
        rw [← hd]
        exact List.take_append_drop g l
  have hsel := hB
  simp only [Region.mixB, Bool.and_eq_true] at hsel
  have hsel := Region.noSelect_spec hsel.1
  simp only [stepsB, Bool.and_eq_true, List.all_eq_true] at hS
  refine wp_region_any hm ?_
  have hlen : (l.take n).length = n := by simp; omega
  have h1 := wpMix_of_steps (ns := stepsAt 0 (cutSteps gs (l.take n)).1) hsel (cutSteps gs (l.take n)).1 0 a w.drew (fun j hj => by
    rw [hflat gs (l.take n)] at hj ⊢
    rw [hlen] at hj
    simp [hj]) (fun i _ => by simp) (fun s hs o ho => hS.1 s hs o ho) hS.2 h
  rw [hflat, hlen] at h1
  have hsz : l.toArray.size - 1 = n := by simp; omega
  obtain ⟨o, ho⟩ : ∃ o, l.drop n = [o] := by
    have : (l.drop n).length = 1 := by simp; omega
    exact List.length_eq_one_iff.1 this
  have hon : l.toArray[n]? = some o := by
    have : l[n]? = (l.drop n)[0]? := by simp
    rw [List.getElem?_toArray, this, ho]; rfl
  have h2 := wpAny_of_mix_last (md := .any) (Q := Q) hB hLast (fun a w _ hk => by
      rw [hsz]
      rw [ho] at hk
      exact wpOp_of_list_one hon hk) _ (Array.replicate l.toArray.size false) a w.drew List.pairwise_lt_range' (fun i => by
      rw [hsz]
      simp only [List.mem_range']
      constructor
      · rintro ⟨j, hj, rfl⟩
        refine ⟨by omega, getD_in (by simp; omega) (getD_replicate_false _ _)⟩
      · rintro ⟨hi, _⟩
        exact ⟨i, hi, by omega⟩) (by rw [hsz]; exact getD_in (by simp; omega) (getD_replicate_false _ _)) ⟨by simp, fun j oj _ hl => (by rw [getD_replicate_false] at hl; cases hl)⟩ hc h1
  rw [List.length_range', show n + 1 = l.toArray.size by simp; omega] at h2
  exact h2
end
end Go
