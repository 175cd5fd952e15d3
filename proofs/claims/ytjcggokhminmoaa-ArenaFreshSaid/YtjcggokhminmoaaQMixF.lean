/-
A region that draws its order and holds reads, steps that write (in one order), an operation that floats (it waits for none of them, and none of them for it), and a last one that waits for all.
A region that draws its order, walked by a plan: reads come as early as they may; operations that write come in each order that there is (a plan branches on them); a tail comes in one order behind all.
-/
import Derived.Test.YtjcggokhminmoaaQMchM
namespace Go
open Go.RowKit

section
variable {P : Program} {ops : Array Oper} {md : Region.Mode} {C : World → Prop} {ns : List Nat}

theorem wpOp_leaveNot {Q : Exit → Act → World → Prop} {i : Nat} {oi : Oper} (hoi : ops[i]? = some oi) {K : Act → World → Prop} {a : Act} {w : World} (h1 : wpOp P ops NoExit i K a w) : wpOp P ops Q i K a w := by
  unfold wpOp at h1 ⊢
  simp only [hoi] at h1 ⊢
  by_cases hwt : Region.wanted oi (yielded ops a.tmps) = true
  · simp only [hwt, if_true, not_letsOut_noExit, and_false, or_false] at h1 ⊢
    refine .inl ?_
    unfold Oper.wp at *
    generalize (execOp a.eval oi).run P w = r at *
    cases r with
    | ok n w' =>
      cases n <;> simp only [Oper.upon] at h1 ⊢
      case enter f args =>
        refine Calls.mono h1 (fun e w'' he => ?_)
        cases e with
        | returned v => exact he
        | panicked c => exact False.elim he
        | outgrown => exact absurd he not_letsOut_noExit
      all_goals exact h1
    | halt x w' => cases x <;> simp only [Oper.upon] at h1; exact False.elim h1
  · simp only [hwt] at h1 ⊢
    exact h1

theorem mixStep_mono {i : Nat} {K K' : Act → World → Prop} {a : Act} {w : World} (hw : C w) (hk : ∀ a' w', C w' → K a' w' → K' a' w') (h : mixStep P ops C ns i K a w) : mixStep P ops C ns i K' a w := by
  by_cases hm : ns.contains i = true
  · exact (mixStep_move hm).2 (wpOp_mono (fun a' w' hh => ⟨hh.1, hk _ _ hh.1 hh.2⟩) ((mixStep_move hm).1 h))
  · obtain ⟨o, v, h1, h2, h3⟩ := (mixStep_read hm).1 h
    exact (mixStep_read hm).2 ⟨o, v, h1, h2, hk _ _ hw h3⟩

/-- the one that floats -/
def fStep (P : Program) (ops : Array Oper) (C : World → Prop) (f : Nat) (K : Act → World → Prop) (a : Act) (w : World) : Prop := wpOp P ops NoExit f (fun a' w' => C w' ∧ K a' w') a w

def wpFl (P : Program) (ops : Array Oper) (C : World → Prop) (ns : List Nat) (f : Nat) (K : Act → World → Prop) : List Nat → Act → World → Prop
  | [], a, w => fStep P ops C f K a w
  | i :: l, a, w => (ns.contains i = true → fStep P ops C f (wpMix P ops C ns K (i :: l)) a w) ∧ mixStep P ops C ns i (wpFl P ops C ns f K l) a w

def pairApart (ops : Array Oper) (j i : Nat) : Prop := ∃ oj oi, ops[j]? = some oj ∧ ops[i]? = some oi ∧ oj.apart ops oi = true ∧ oi.apart ops oj = true

theorem mixStep_ns {ns' : List Nat} {i : Nat} {K : Act → World → Prop} {a : Act} {w : World} (h : ns.contains i = ns'.contains i) : mixStep P ops C ns i K a w ↔ mixStep P ops C ns' i K a w := by
  unfold mixStep; rw [h]

/-- a read ahead of the one that floats: behind it as well -/
theorem read_float {f j : Nat} (hsel : ∀ (j : Nat) (o : Oper) cs b, ops[j]? = some o → o.op ≠ .select cs b) {K : Act → World → Prop} {a : Act} {w : World} (hw : C w) (hj : ¬ ns.contains j = true) (hne : j ≠ f) (hp : pairApart ops j f)
    (h : mixStep P ops C ns j (fStep P ops C f K) a w) : fStep P ops C f (mixStep P ops C ns j K) a w := by
  obtain ⟨oj, oi, e1, e2, e3, e4⟩ := hp
  have hjf : ¬ [f].contains j = true := by simpa using hne
  have hff : [f].contains f = true := by simp
  have hnj : ns.contains j = [f].contains j := by rw [Bool.eq_false_iff.2 hj, Bool.eq_false_iff.2 hjf]
  have h1 : wpMix P ops C [f] K ([j] ++ f :: []) a w := by
    simp only [List.cons_append, List.nil_append, wpMix]
    refine (mixStep_ns hnj).1 (mixStep_mono hw (fun a' w' _ hh => ?_) h)
    exact (mixStep_move hff).2 hh
  have h2 := wpMix_swap hsel [j] a w (fun k hk => by
    rw [List.mem_singleton.1 hk]
    exact ⟨oj, oi, e1, e2, e3, e4, fun hx => hjf hx.2⟩) hw h1
  have h3 := (mixStep_move hff).1 h2
  refine wpOp_mono (fun a' w' hh => ⟨hh.1, (mixStep_ns hnj).2 ?_⟩) h3
  simpa only [List.append_nil, wpMix] using hh.2

theorem float_read {f i : Nat} (hsel : ∀ (j : Nat) (o : Oper) cs b, ops[j]? = some o → o.op ≠ .select cs b) {K : Act → World → Prop} {a : Act} {w : World} (hw : C w) (hi : ¬ ns.contains i = true) (hne : i ≠ f) (hp : pairApart ops i f)
    (h : fStep P ops C f (mixStep P ops C ns i K) a w) : mixStep P ops C ns i (fStep P ops C f K) a w := by
  obtain ⟨oj, oi, e1, e2, e3, e4⟩ := hp
  have hif : ¬ [f].contains i = true := by simpa using hne
  have hff : [f].contains f = true := by simp
  have hni : ns.contains i = [f].contains i := by rw [Bool.eq_false_iff.2 hi, Bool.eq_false_iff.2 hif]
  have h1 : wpMix P ops C [f] K ([f] ++ i :: []) a w := by
    simp only [List.cons_append, List.nil_append, wpMix]
    exact (mixStep_move hff).2 (wpOp_mono (fun a' w' hh => ⟨hh.1, (mixStep_ns hni).1 hh.2⟩) h)
  have h2 := wpMix_swap hsel [f] a w (fun k hk => by
    rw [List.mem_singleton.1 hk]
    exact ⟨oi, oj, e2, e1, e4, e3, fun hx => hif hx.1⟩) hw h1
  refine (mixStep_ns hni).2 (mixStep_mono hw (fun a' w' _ hh => ?_) h2)
  simp only [List.append_nil, wpMix] at hh
  exact (mixStep_move hff).1 hh

theorem wpFl_float {f : Nat} (hsel : ∀ (j : Nat) (o : Oper) cs b, ops[j]? = some o → o.op ≠ .select cs b) {K : Act → World → Prop} :
    ∀ (l : List Nat) (a : Act) (w : World), (∀ j ∈ l, j ≠ f ∧ pairApart ops j f) → C w → wpFl P ops C ns f K l a w → fStep P ops C f (wpMix P ops C ns K l) a w := by
  intro l
  induction l with
  | nil => intro a w _ _ h; exact h
  | cons j l ih =>
    intro a w hp hw h
    by_cases hm : ns.contains j = true
    · exact h.1 hm
    · have hj := hp j (by simp)
      have := read_float hsel hw hm hj.1 hj.2 (mixStep_mono hw (fun a' w' hc hh => ih a' w' (fun k hk => hp k (by simp [hk])) hc hh) h.2)
      exact this

theorem wpFl_swap {f i : Nat} (hsel : ∀ (j : Nat) (o : Oper) cs b, ops[j]? = some o → o.op ≠ .select cs b) {K : Act → World → Prop} {l2 : List Nat} (hif : i ≠ f ∧ pairApart ops i f) :
    ∀ (l1 : List Nat) (a : Act) (w : World), (∀ j ∈ l1, pairOk ops ns j i) → C w → wpFl P ops C ns f K (l1 ++ i :: l2) a w → mixStep P ops C ns i (wpFl P ops C ns f K (l1 ++ l2)) a w := by
  intro l1
  induction l1 with
  | nil => intro a w _ _ h; exact h.2
  | cons j l1 ih =>
    intro a w hp hw h
    have ih := fun a w => ih a w (fun k hk => hp k (by simp [hk]))
    have hpj := hp j (by simp)
    simp only [List.cons_append] at h
    obtain ⟨g1, g2⟩ := h
    have s1 : wpMix P ops C ns (wpFl P ops C ns f K (l1 ++ l2)) ([j] ++ i :: []) a w := by
      simp only [List.cons_append, List.nil_append, wpMix]
      exact mixStep_mono hw (fun a' w' hc hh => ih a' w' hc hh) g2
    have s2 := wpMix_swap hsel [j] a w (fun k hk => by rw [List.mem_singleton.1 hk]; exact hpj) hw s1
    simp only [List.append_nil] at s2
    by_cases hm : ns.contains j = true
    · have hmi : ¬ ns.contains i = true := by
        obtain ⟨_, _, _, _, _, _, hno⟩ := hpj
        exact fun hx => hno ⟨hx, hm⟩
      have r1 : fStep P ops C f (mixStep P ops C ns i (wpMix P ops C ns K ((j :: l1) ++ l2))) a w :=
        wpOp_mono (fun a' w' hh => ⟨hh.1, wpMix_swap hsel (j :: l1) a' w' hp hh.1 hh.2⟩) (g1 hm)
      have r2 := float_read hsel hw hmi hif.1 hif.2 r1
      obtain ⟨o, v, ho, hy, hk⟩ := (mixStep_read hmi).1 s2
      obtain ⟨o', u, ho', hu, hk'⟩ := (mixStep_read hmi).1 r2
      rw [ho] at ho'
      cases ho'
      obtain rfl := ReadsIn.unique hw hy hu
      exact (mixStep_read hmi).2 ⟨o, v, ho, hy, fun _ => hk', hk⟩
    · exact mixStep_mono hw (fun a' w' _ hh => ⟨fun hx => absurd hx hm, hh⟩) s2

/-- the look at the one that floats (the last but one): apart from all ahead of it -/
def Region.floatB (ops : Array Oper) : Bool :=
  decide (2 ≤ ops.size) && (List.range (ops.size - 2)).all fun j => match ops[j]?, ops[ops.size - 2]? with | some oj, some oi => oj.apart ops oi && oi.apart ops oj | _, _ => false

theorem wpAny_of_float {Q : Exit → Act → World → Prop} {K : Act → World → Prop} (hB : Region.mixB md ops ns = true) (hL : Region.lastB md ops = true) (hF : Region.floatB ops = true)
    (hQ : ∀ a w, C w → K a w → wpOp P ops Q (ops.size - 1) (fun a' w' => Q .normal a' w') a w) :
    ∀ (l : List Nat) (listed : Array Bool) (a : Act) (w : World), l.Pairwise (· < ·) → (∀ i, i ∈ l ↔ i < ops.size - 2 ∧ listed.getD i true = false) → listed.getD (ops.size - 2) true = false → listed.getD (ops.size - 1) true = false → MixInv md ops listed → C w →
      wpFl P ops C ns (ops.size - 2) K l a w → wpAny P md ops Q (l.length + 2) listed a w := by
  have hB0 := hB
  have hL0 := hL
  simp only [Region.lastB, Bool.and_eq_true, decide_eq_true_eq, List.all_eq_true, List.mem_range] at hL
  obtain ⟨hpos, hL⟩ := hL
  simp only [Region.mixB, Bool.and_eq_true, List.all_eq_true, List.mem_range] at hB
  obtain ⟨hsel, hB⟩ := hB
  have hsel := Region.noSelect_spec hsel
  simp only [Region.floatB, Bool.and_eq_true, decide_eq_true_eq, List.all_eq_true, List.mem_range] at hF
  obtain ⟨htwo, hF⟩ := hF
  have hfl : ∀ j, j < ops.size - 2 → j ≠ ops.size - 2 ∧ pairApart ops j (ops.size - 2) := by
    intro j hj
    have := hF j hj
    refine ⟨by omega, ?_⟩
    obtain ⟨oj, hoj⟩ : ∃ o, ops[j]? = some o := ⟨ops[j], by simp [show j < ops.size by omega]⟩
    obtain ⟨oi, hoi⟩ : ∃ o, ops[ops.size - 2]? = some o := ⟨ops[ops.size - 2], by simp [show ops.size - 2 < ops.size by omega]⟩
    rw [hoj, hoi] at this
    simp only [Bool.and_eq_true] at this
    exact ⟨oj, oi, hoj, hoi, this.1, this.2⟩
  have main : ∀ (n : Nat) (l : List Nat), l.length = n → ∀ (listed : Array Bool) (a : Act) (w : World), l.Pairwise (· < ·) → (∀ i, i ∈ l ↔ i < ops.size - 2 ∧ listed.getD i true = false) → listed.getD (ops.size - 2) true = false → listed.getD (ops.size - 1) true = false → MixInv md ops listed → C w →
      wpFl P ops C ns (ops.size - 2) K l a w → wpAny P md ops Q (n + 2) listed a w := by
    intro n
    induction n with
    | zero =>
      intro l hl listed a w hs hm hfloat hlast inv hw h
      obtain rfl : l = [] := List.eq_nil_of_length_eq_zero hl
      have hall : ∀ j, j < ops.size - 2 → listed.getD j false = true := by
        intro j hj
        rcases hc : listed.getD j false with _ | _
        · have := (hm j).2 ⟨hj, getD_in (by rw [inv.size]; omega) hc⟩
          cases this
        · rfl
      obtain ⟨o, ho⟩ : ∃ o, ops[ops.size - 2]? = some o := ⟨ops[ops.size - 2], by simp [show ops.size - 2 < ops.size by omega]⟩
      have hr : ops.size - 2 ∈ Region.ready md ops listed := by
        refine mem_ready.2 ⟨hfloat, o, ho, fun e he hb => ?_⟩
        have h1 := (hB (ops.size - 2) (by omega)).2
        rw [ho] at h1
        have h2 := Array.all_eq_true'.1 h1 e he
        simp only [hb, Bool.not_true, Bool.false_or, decide_eq_true_eq] at h2
        exact hall _ h2
      refine ⟨fun he => (by rw [he] at hr; cases hr), fun i hi => ?_⟩
      have hi' : i = ops.size - 2 := by
        obtain ⟨hiun, oi, hoi, _⟩ := mem_ready.1 hi
        have := (Array.getElem?_eq_some_iff.1 hoi).1
        by_cases hlt : i < ops.size - 2
        · have := hall i hlt
          rw [getD_both hiun] at this
          cases this
        · by_cases hlt' : i = ops.size - 2
          · exact hlt'
          · exfalso
            obtain rfl : i = ops.size - 1 := by omega
            have := inv.reach_ready hi _ _ (hL (ops.size - 2) (by omega))
            rw [getD_both hfloat] at this
            cases this
      subst hi'
      refine wpOp_leaveNot ho (wpOp_mono (fun a' w' hh => ?_) (show fStep P ops C (ops.size - 2) K a w from h))
      refine wpAny_of_mix_last (ns := ns) (K := K) hB0 hL0 hQ [] _ a' w' List.Pairwise.nil (fun j => ?_) (by rw [getD_set_ne true (by omega)]; exact hlast) (inv.set hi) hh.1 hh.2
      constructor
      · intro hx; cases hx
      · rintro ⟨hx, hy⟩
        exfalso
        by_cases hj : ops.size - 2 = j
        · subst hj
          rw [Array.getD_eq_getD_getElem?, Array.getElem?_setIfInBounds_self_of_lt (by rw [inv.size]; omega)] at hy
          cases hy
        · rw [getD_set_ne true hj] at hy
          have := (hm j).2 ⟨by omega, hy⟩
          cases this
    | succ n ih =>
      intro l hl listed a w hs hm hfloat hlast inv hw h
      refine ⟨fun hr => ?_, fun i hi => ?_⟩
      · cases l with
        | nil => cases hl
        | cons i l =>
          exfalso
          have hi := (hm i).1 (by simp)
          have : i ∈ Region.ready md ops listed := by
            obtain ⟨o, ho⟩ : ∃ o, ops[i]? = some o := ⟨ops[i]'(by omega), Array.getElem?_eq_getElem (by omega)⟩
            refine mem_ready.2 ⟨hi.2, o, ho, fun e he hb => ?_⟩
            have h1 := (hB i (by omega)).2
            rw [ho] at h1
            have h2 := Array.all_eq_true'.1 h1 e he
            simp only [hb, Bool.not_true, Bool.false_or, decide_eq_true_eq] at h2
            rcases hc : listed.getD e.on false with _ | _
            · exfalso
              have h3 := (hm e.on).2 ⟨by omega, getD_in (by rw [inv.size]; omega) hc⟩
              have h4 := List.pairwise_cons.1 hs
              rcases List.mem_cons.1 h3 with h5 | h5
              · omega
              · have := h4.1 _ h5
                omega
            · rfl
          rw [hr] at this
          cases this
      · obtain ⟨hiun, oi, hoi, _⟩ := mem_ready.1 hi
        have hil : i < ops.size := (Array.getElem?_eq_some_iff.1 hoi).1
        have hne1 : i ≠ ops.size - 1 := by
          rintro rfl
          have := inv.reach_ready hi _ _ (hL (ops.size - 2) (by omega))
          rw [getD_both hfloat] at this
          cases this
        by_cases hif : i = ops.size - 2
        · subst hif
          refine wpOp_leaveNot hoi (wpOp_mono (fun a' w' hh => ?_) (wpFl_float hsel l a w (fun j hj => hfl j ((hm j).1 hj).1) hw h))
          have := wpAny_of_mix_last (ns := ns) (K := K) hB0 hL0 hQ l (listed.setIfInBounds (ops.size - 2) true) a' w' hs (fun j => by
            constructor
            · intro hx
              obtain ⟨e1, e2⟩ := (hm j).1 hx
              exact ⟨by omega, by rw [getD_set_ne true (by omega)]; exact e2⟩
            · rintro ⟨hx, hy⟩
              by_cases hj : ops.size - 2 = j
              · subst hj
                rw [Array.getD_eq_getD_getElem?, Array.getElem?_setIfInBounds_self_of_lt (by rw [inv.size]; omega)] at hy
                cases hy
              · rw [getD_set_ne true hj] at hy
                exact (hm j).2 ⟨by omega, hy⟩) (by rw [getD_set_ne true (by omega)]; exact hlast) (inv.set hi) hh.1 hh.2
          rw [hl] at this
          exact this
        have hil' : i < ops.size - 2 := by omega
        obtain ⟨l1, l2, rfl⟩ := List.append_of_mem ((hm i).2 ⟨hil', hiun⟩)
        obtain ⟨p1, p2, p3⟩ := List.pairwise_append.1 hs
        have hpair : ∀ j ∈ l1, pairOk ops ns j i := by
          intro j hj
          have hji : j < i := p3 j hj i (by simp)
          have hjun := ((hm j).1 (by simp [hj])).2
          rcases Bool.or_eq_true _ _ ▸ (hB i hil).1 j hji with h1 | h1
          · have := inv.reach_ready hi _ _ h1
            rw [getD_both hjun] at this
            cases this
          · obtain ⟨oj, hoj⟩ : ∃ o, ops[j]? = some o := ⟨ops[j], by simp [Nat.lt_trans hji hil]⟩
            rw [hoj, hoi] at h1
            simp only [Bool.and_eq_true, Bool.not_eq_true', Bool.and_eq_false_iff] at h1
            refine ⟨oj, oi, hoj, hoi, h1.1.1, h1.1.2, fun hx => ?_⟩
            rcases h1.2 with h2 | h2
            · rw [hx.1] at h2; cases h2
            · rw [hx.2] at h2; cases h2
        have hst := wpFl_swap hsel (hfl i hil') l1 a w hpair hw h
        have hrest : ∀ a' w', C w' → wpFl P ops C ns (ops.size - 2) K (l1 ++ l2) a' w' → wpAny P md ops Q (n + 2) (listed.setIfInBounds i true) a' w' := by
          intro a' w' hc hk
          refine ih (l1 ++ l2) (by simp at hl ⊢; omega) _ a' w' ?_ (fun j => ?_) (by rw [getD_set_ne true (by omega)]; exact hfloat) (by rw [getD_set_ne true (by omega)]; exact hlast) (inv.set hi) hc hk
          · exact List.pairwise_append.2 ⟨p1, (List.pairwise_cons.1 p2).2, fun x hx y hy => p3 x hx y (by simp [hy])⟩
          · have hm' := hm j
            by_cases hji : i = j
            · subst hji
              constructor
              · intro hx
                rcases List.mem_append.1 hx with hx | hx
                · have := p3 i hx i (by simp); omega
                · have := (List.pairwise_cons.1 p2).1 i hx; omega
              · rintro ⟨_, hx⟩
                rw [Array.getD_eq_getD_getElem?, Array.getElem?_setIfInBounds_self_of_lt (by rw [inv.size]; exact hil)] at hx
                cases hx
            · rw [getD_set_ne true hji]
              constructor
              · intro hx
                refine hm'.1 ?_
                rcases List.mem_append.1 hx with hx | hx
                · simp [hx]
                · simp [hx]
              · intro hx
                rcases List.mem_append.1 (hm'.2 hx) with hx | hx
                · simp [hx]
                · rcases List.mem_cons.1 hx with hx | hx
                  · exact absurd hx.symm hji
                  · simp [hx]
        by_cases hmi : ns.contains i = true
        · exact wpOp_leaveNot hoi (wpOp_mono (fun a' w' hh => hrest a' w' hh.1 hh.2) ((mixStep_move hmi).1 hst))
        · obtain ⟨o, v, ho, hy, hk⟩ := (mixStep_read hmi).1 hst
          rw [hoi] at ho
          cases ho
          have hk := hrest _ w hw hk
          unfold wpOp
          simp only [hoi]
          rcases hy with ⟨h1, h2⟩ | ⟨h1, rfl⟩
          · simp only [h1, if_true]
            refine .inl ?_
            unfold Oper.wp
            rcases h2 w hw with h3 | ⟨h3, e3⟩
            · rw [h3]; exact hk
            · rw [h3]; subst e3; exact hk
          · simp only [h1, Bool.false_eq_true, if_false]
            exact hk
  intro l listed a w
  exact main l.length l rfl listed a w

/-! ### the walk -/

theorem wpQuiet_mono' : ∀ (l : List Oper) (a : Act) {Q Q' : Act → Prop}, (∀ a, Q a → Q' a) → wpQuiet P ops C Q l a → wpQuiet P ops C Q' l a := by
  intro l
  induction l with
  | nil => intro a Q Q' hq h; exact hq _ h
  | cons x l ih' =>
    intro a Q Q' hq h
    simp only [wpQuiet] at h ⊢
    split
    · rename_i hw
      rw [if_pos hw] at h
      exact Oper.quiet_mono (fun a' ha => ih' a' hq ha) h
    · rename_i hw
      rw [if_neg hw] at h
      exact ih' _ hq h

theorem strict_mono {K K' : Act → World → Prop} {o : Oper} {a : Act} {w : World} (hk : ∀ a w, K a w → K' a w) (ha : wpList P ops (Strict K) [o] a w) : wpList P ops (Strict K') [o] a w := by
  simp only [wpList, not_letsOut_strict, and_false, or_false] at ha ⊢
  split
  · rename_i hw
    rw [if_pos hw] at ha
    unfold Oper.wp at *
    generalize (execOp a.eval o).run P w = r at *
    cases r with
    | ok n w' =>
      cases n <;> simp only [Oper.upon, Strict] at ha ⊢
      case enter f args =>
        refine Calls.mono ha (fun e w'' he => ?_)
        cases e with
        | returned v => exact hk _ _ he
        | panicked c => exact False.elim he
        | outgrown => exact absurd he (not_letsOut_strict _)
      case row row args => exact Rows.mono ha (fun v w'' he => hk _ _ he)
      all_goals first | exact hk _ _ ha | exact ha
    | halt x w' => cases x <;> simp only [Oper.upon, Strict] at ha
  · rename_i hw
    rw [if_neg hw] at ha
    exact hk _ _ ha

theorem wpOp_of_strict {i : Nat} {o : Oper} (h0 : ops[i]? = some o) {K : Act → World → Prop} {a : Act} {w : World} (h : wpList P ops (Strict K) [o] a w) : wpOp P ops NoExit i K a w := by
  simp only [wpList, not_letsOut_strict, and_false, or_false] at h
  unfold wpOp
  simp only [h0]
  by_cases hw : Region.wanted o (yielded ops a.tmps) = true
  · simp only [hw, if_true] at h ⊢
    refine .inl ?_
    unfold Oper.wp at *
    generalize (execOp a.eval o).run P w = r at *
    cases r with
    | ok n w' =>
      cases n <;> simp only [Oper.upon] at h ⊢
      case enter f args =>
        refine Calls.mono h (fun e w'' he => ?_)
        cases e with
        | returned v => exact he
        | panicked c => exact False.elim he
        | outgrown => exact absurd he (not_letsOut_strict _)
      all_goals exact h
    | halt x w' => cases x <;> simp only [Oper.upon] at h; exact False.elim h
  · simp only [hw] at h ⊢
    exact h

/-- the steps in their order; ahead of each, and behind the last one, the one that floats -/
def wpFloat (P : Program) (ops : Array Oper) (C : World → Prop) (K : Act → World → Prop) (f : Oper) (last : List Oper) : List (List Oper × Oper) → Act → World → Prop
  | [], a, w => wpQuiet P ops C (fun a' => wpList P ops (Strict fun a'' w'' => C w'' ∧ K a'' w'') [f] a' w) last a
  | (l, o) :: ss, a, w => wpQuiet P ops C (fun a' => wpList P ops (Strict fun a'' w'' => C w'' ∧ wpSteps P ops C K last (([], o) :: ss) a'' w'') [f] a' w ∧
      wpList P ops (Strict fun a'' w'' => C w'' ∧ wpFloat P ops C K f last ss a'' w'') [o] a' w) l a

theorem wpFl_reads (hsel : ∀ (j : Nat) (o : Oper) cs b, ops[j]? = some o → o.op ≠ .select cs b) {f : Nat} {K : Act → World → Prop} {w : World} {rest : List Nat} :
    ∀ (l : List Oper) (k : Nat) (a : Act), (∀ j, j < l.length → l[j]? = ops[k + j]?) → (∀ o ∈ l, o.callsNot = true) → (∀ j, j < l.length → ns.contains (k + j) = false) →
      wpQuiet P ops C (fun a' => wpFl P ops C ns f K rest a' w) l a → wpFl P ops C ns f K (List.range' k l.length ++ rest) a w := by
  intro l
  induction l with
  | nil => intro k a _ _ _ h; exact h
  | cons o l ih =>
    intro k a hl hcn hns h
    have h0 : ops[k]? = some o := by simpa using (hl 0 (by simp)).symm
    have hk : ¬ ns.contains k = true := by rw [show ns.contains k = false by simpa using hns 0 (by simp)]; exact Bool.false_ne_true
    obtain ⟨v, hy, hK⟩ := readsIn_of_quiet (hcn o (by simp)) (fun cs b => hsel k o cs b h0) h
    simp only [List.length_cons, List.range'_succ, List.cons_append, wpFl]
    refine ⟨fun hx => absurd hx hk, (mixStep_read hk).2 ⟨o, v, h0, hy, ih (k + 1) _ (fun j hj => ?_) (fun o ho => hcn o (by simp [ho])) (fun j hj => ?_) hK⟩⟩
    · have := hl (j + 1) (by simp; omega)
      simpa [Nat.add_assoc, Nat.add_comm 1 j] using this
    · have := hns (j + 1) (by simp; omega)
      rw [show k + 1 + j = k + (j + 1) by omega]; exact this

theorem wpFl_of_float (hsel : ∀ (j : Nat) (o : Oper) cs b, ops[j]? = some o → o.op ≠ .select cs b) {K : Act → World → Prop} {f : Nat} {fo : Oper} (hf : ops[f]? = some fo) {last : List Oper} :
    ∀ (ss : List (List Oper × Oper)) (k : Nat) (a : Act) (w : World), (∀ j, j < (flatSteps ss last).length → (flatSteps ss last)[j]? = ops[k + j]?) →
      (∀ i, k ≤ i → (ns.contains i = true ↔ i ∈ stepsAt k ss)) → (∀ s ∈ ss, ∀ o ∈ s.1, o.callsNot = true) → (∀ o ∈ last, o.callsNot = true) →
      wpFloat P ops C K fo last ss a w → wpFl P ops C ns f K (List.range' k (flatSteps ss last).length) a w := by
  intro ss
  induction ss with
  | nil =>
    intro k a w hl hns _ hcl h
    have := wpFl_reads (K := K) (ns := ns) (f := f) (rest := []) hsel last k a hl hcl (fun j _ => by
      rcases hc : ns.contains (k + j) with _ | _
      · rfl
      · have := (hns (k + j) (by omega)).1 hc
        cases this) (wpQuiet_mono' _ _ (fun a' ha => (show fStep P ops C f K a' w from wpOp_of_strict hf ha)) h)
    rw [List.append_nil] at this
    exact this
  | cons s ss ih =>
    intro k a w hl hns hcs hcl h
    obtain ⟨l, o⟩ := s
    have hlen : (flatSteps ((l, o) :: ss) last).length = l.length + (1 + (flatSteps ss last).length) := by simp [flatSteps]; omega
    have hl1 : ∀ j, j < l.length → l[j]? = ops[k + j]? := fun j hj => by
      rw [← hl j (by omega)]; simp only [flatSteps]; rw [List.getElem?_append_left hj]
    have ho : ops[k + l.length]? = some o := by
      rw [← hl l.length (by omega)]; simp [flatSteps]
    have hl2 : ∀ j, j < (flatSteps ss last).length → (flatSteps ss last)[j]? = ops[k + l.length + 1 + j]? := fun j hj => by
      have := hl (l.length + 1 + j) (by omega)
      rw [show k + l.length + 1 + j = k + (l.length + 1 + j) by omega, ← this]
      simp only [flatSteps]
      rw [List.getElem?_append_right (by omega), show l.length + 1 + j - l.length = j + 1 by omega, List.getElem?_cons_succ]
    rw [hlen, ← List.range'_append_1, show 1 + (flatSteps ss last).length = (flatSteps ss last).length + 1 by omega]
    have hin : ns.contains (k + l.length) = true := (hns _ (by omega)).2 (by simp [stepsAt])
    have hns2 : ∀ i, k + l.length + 1 ≤ i → (ns.contains i = true ↔ i ∈ stepsAt (k + l.length + 1) ss) := fun i hi => by
      rw [hns i (by omega)]
      constructor
      · intro h1
        rcases List.mem_cons.1 h1 with h1 | h1
        · omega
        · exact h1
      · intro h1; exact List.mem_cons_of_mem _ h1
    refine wpFl_reads hsel l k a hl1 (hcs (l, o) (by simp)) (fun j hj => ?_) ?_
    · rcases hc : ns.contains (k + j) with _ | _
      · rfl
      · rcases List.mem_cons.1 ((hns (k + j) (by omega)).1 hc) with h1 | h1
        · omega
        · have := stepsAt_ge _ _ _ h1; omega
    · refine wpQuiet_mono' l a (fun a' ha => ?_) h
      obtain ⟨q1, q2⟩ := ha
      rw [List.range'_succ]
      refine ⟨fun _ => ?_, (mixStep_move hin).2 (wpOp_of_strict ho (strict_mono (fun a'' w'' hh => ⟨hh.1, ih (k + l.length + 1) a'' w'' hl2 hns2 (fun s hs => hcs s (by simp [hs])) hcl hh.2⟩) q2))⟩
      refine wpOp_of_strict hf (strict_mono (fun a'' w'' hh => ⟨hh.1, ?_⟩) q1)
      have := wpMix_of_steps (ns := ns) (K := K) hsel (([], o) :: ss) (k + l.length) a'' w'' (fun j hj => by
        simp only [flatSteps, List.nil_append] at hj ⊢
        cases j with
        | zero => simpa using ho.symm
        | succ j =>
          rw [List.getElem?_cons_succ, hl2 j (by simpa using hj)]
          congr 1; omega) (fun i hi => by
        rw [show stepsAt (k + l.length) (([], o) :: ss) = (k + l.length) :: stepsAt (k + l.length + 1) ss by simp [stepsAt]]
        rw [hns i (by omega)]
        simp [stepsAt]) (fun s hs => by
        rcases List.mem_cons.1 hs with rfl | hs
        · intro o ho; cases ho
        · exact hcs s (by simp [hs])) hcl hh.2
      rw [show (flatSteps (([], o) :: ss) last).length = (flatSteps ss last).length + 1 by simp [flatSteps], List.range'_succ] at this
      exact this

theorem wp_region_float {id : Nat} {Q : Exit → Act → World → Prop} {a : Act} {w : World} {l : List Oper} (C : World → Prop) (gs : List Nat) (n : Nat) (fo : Oper) (hfo : l[n]? = some fo) (hm : P.follows .mixedOrders = true)
    (hB : (Region.mixB .any l.toArray (stepsAt 0 (cutSteps gs (l.take n)).1) && stepsB (cutSteps gs (l.take n)).1 (cutSteps gs (l.take n)).2 && Region.lastB .any l.toArray && Region.floatB l.toArray && decide (l.length = n + 2)) = true)
    (hc : C w.drew) (h : wpFloat P l.toArray C (fun a' w' => wpList P l.toArray Q (l.drop (n + 1)) a' w') fo (cutSteps gs (l.take n)).2 (cutSteps gs (l.take n)).1 a w.drew) : (Code.region id l.toArray true).wp P Q a w := by
  simp only [Bool.and_eq_true, decide_eq_true_eq] at hB
  obtain ⟨⟨⟨⟨hB, hS⟩, hLast⟩, hFl⟩, hL⟩ := hB
  have hflat : ∀ (gs : List Nat) (l : List Oper), flatSteps (cutSteps gs l).1 (cutSteps gs l).2 = l := by
    intro gs
    induction gs with
    | nil => intro l; rfl
    | cons g gs ih =>
      intro l
      simp only [cutSteps]
      cases hd : l.drop g with
      | nil => rfl
      | cons o rest =>
        simp only [flatSteps, ih rest]
        rw [← hd]
        exact List.take_append_drop g l
  have hsel := hB
  simp only [Region.mixB, Bool.and_eq_true] at hsel
  have hsel := Region.noSelect_spec hsel.1
  simp only [stepsB, Bool.and_eq_true, List.all_eq_true] at hS
  refine wp_region_any hm ?_
  have hlen : (l.take n).length = n := by simp; omega
  have hsz2 : l.toArray.size - 2 = n := by simp; omega
  have hsz : l.toArray.size - 1 = n + 1 := by simp; omega
  have h1 := wpFl_of_float (ns := stepsAt 0 (cutSteps gs (l.take n)).1) (f := n) (fo := fo) hsel (by simpa using hfo) (cutSteps gs (l.take n)).1 0 a w.drew (fun j hj => by
    rw [hflat gs (l.take n)] at hj ⊢
    rw [hlen] at hj
    simp [hj]) (fun i _ => by simp) (fun s hs o ho => hS.1 s hs o ho) hS.2 h
  rw [hflat, hlen] at h1
  obtain ⟨o, ho⟩ : ∃ o, l.drop (n + 1) = [o] := by
    have : (l.drop (n + 1)).length = 1 := by simp; omega
    exact List.length_eq_one_iff.1 this
  have hon : l.toArray[n + 1]? = some o := by
    have : l[n + 1]? = (l.drop (n + 1))[0]? := by simp
    rw [List.getElem?_toArray, this, ho]; rfl
  have h2 := wpAny_of_float (md := .any) (Q := Q) (K := fun a' w' => wpList P l.toArray Q (l.drop (n + 1)) a' w') hB hLast hFl (fun a w _ hk => by
      rw [hsz]
      rw [ho] at hk
      exact wpOp_of_list_one hon hk) (List.range' 0 n) (Array.replicate l.toArray.size false) a w.drew List.pairwise_lt_range' (fun i => by
      rw [hsz2]
      simp only [List.mem_range']
      constructor
      · rintro ⟨j, hj, rfl⟩
        refine ⟨by omega, getD_in (by simp; omega) (getD_replicate_false _ _)⟩
      · rintro ⟨hi, _⟩
        exact ⟨i, hi, by omega⟩) (by rw [hsz2]; exact getD_in (by simp; omega) (getD_replicate_false _ _)) (by rw [hsz]; exact getD_in (by simp; omega) (getD_replicate_false _ _)) ⟨by simp, fun j oj _ hl => (by rw [getD_replicate_false] at hl; cases hl)⟩ hc (by rw [hsz2]; exact h1)
  rw [List.length_range', show n + 2 = l.toArray.size by simp; omega] at h2
  exact h2
end
end Go
namespace Go
open Go.RowKit

inductive Plan where
  | none
  | tail (k : Nat)
  | fork (i : Nat) (rs : List Nat) (sub more : Plan)

section
variable {P : Program} {ops : Array Oper} {md : Region.Mode} {C : World → Prop} {ns : List Nat}

def listAll (b : Array Bool) (l : List Nat) : Array Bool := l.foldl (fun b i => b.setIfInBounds i true) b
def Region.readsB (md : Region.Mode) (ops : Array Oper) (ns : List Nat) : List Nat → Array Bool → Bool
  | [], _ => true
  | i :: l, b => (Region.ready md ops b).contains i && !ns.contains i && (match ops[i]? with | some o => o.callsNot | none => false) && Region.readsB md ops ns l (b.setIfInBounds i true)
def Plan.covers : Plan → Nat → Bool
  | .none, _ => false
  | .tail k, i => i == k
  | .fork i _ _ more, j => i == j || more.covers j
def Plan.isTail : Plan → Bool
  | .tail _ => true
  | _ => false
def Region.coverB (md : Region.Mode) (ops : Array Oper) (p : Plan) (b : Array Bool) : Bool :=
  (Region.ready md ops b).all p.covers && (p.isTail || !(Region.ready md ops b).isEmpty)
def Region.planB (md : Region.Mode) (ops : Array Oper) (ns : List Nat) : Plan → Array Bool → Nat → Bool
  | .none, _, _ => true
  | .tail k, b, g => Region.seqB md ops g k b && decide (g = ops.size - k) && decide (k ≤ ops.size) && ((List.range k).all fun j => decide (k = ops.size) || Region.reaches md ops ops.size k j) && (List.range ops.size).all fun j => decide (j < k) || !(b.getD j true)
  | .fork i rs sub more, b, g => decide (rs.length + 1 ≤ g ∧ i < ops.size) && ns.contains i && Region.readsB md ops ns rs (b.setIfInBounds i true) && Region.coverB md ops sub (listAll (b.setIfInBounds i true) rs) &&
      Region.planB md ops ns sub (listAll (b.setIfInBounds i true) rs) (g - 1 - rs.length) && Region.planB md ops ns more b g
def Region.pairsB (md : Region.Mode) (ops : Array Oper) (ns : List Nat) : Bool :=
  (List.range ops.size).all fun i => (List.range i).all fun j => (ns.contains i && ns.contains j) || Region.reaches md ops ops.size i j || Region.reaches md ops ops.size j i ||
    (match ops[j]?, ops[i]? with | some oj, some oi => oj.apart ops oi && oi.apart ops oj | _, _ => false)

theorem listAll_cons (b : Array Bool) (i : Nat) (l : List Nat) : listAll b (i :: l) = listAll (b.setIfInBounds i true) l := rfl
theorem listAll_set (l : List Nat) : ∀ (b : Array Bool) (i : Nat), listAll (b.setIfInBounds i true) l = (listAll b l).setIfInBounds i true := by
  induction l with
  | nil => intro b i; rfl
  | cons j l ih =>
    intro b i
    rw [listAll_cons, listAll_cons]
    by_cases e : i = j
    · subst e; rw [← ih]
    · rw [Array.setIfInBounds_comm _ _ e, ih]
theorem listAll_mid (b : Array Bool) (l1 l2 : List Nat) (i : Nat) : listAll b (l1 ++ i :: l2) = listAll (b.setIfInBounds i true) (l1 ++ l2) := by
  unfold listAll
  rw [List.foldl_append, List.foldl_append, List.foldl_cons]
  have := listAll_set l1 b i
  unfold listAll at this
  rw [this]
theorem listAll_app (b : Array Bool) (l1 l2 : List Nat) : listAll b (l1 ++ l2) = listAll (listAll b l1) l2 := by unfold listAll; rw [List.foldl_append]

theorem readsB_head {i : Nat} {l : List Nat} {b : Array Bool} (h : Region.readsB md ops ns (i :: l) b = true) : i ∈ Region.ready md ops b ∧ ns.contains i = false ∧ (∃ o, ops[i]? = some o ∧ o.callsNot = true) ∧ Region.readsB md ops ns l (b.setIfInBounds i true) = true := by
  simp only [Region.readsB, Bool.and_eq_true, Bool.not_eq_true'] at h
  obtain ⟨⟨⟨h1, h2⟩, h3⟩, h4⟩ := h
  refine ⟨by simpa using h1, h2, ?_, h4⟩
  cases ho : ops[i]? with
  | none => rw [ho] at h3; cases h3
  | some o => rw [ho] at h3; exact ⟨o, rfl, h3⟩
theorem readsB_cons {i : Nat} {l : List Nat} {b : Array Bool} {o : Oper} (h1 : i ∈ Region.ready md ops b) (h2 : ns.contains i = false) (h3 : ops[i]? = some o) (h4 : o.callsNot = true) (h5 : Region.readsB md ops ns l (b.setIfInBounds i true) = true) : Region.readsB md ops ns (i :: l) b = true := by
  simp only [Region.readsB, Bool.and_eq_true, Bool.not_eq_true']
  exact ⟨⟨⟨by simpa using h1, h2⟩, by rw [h3]; exact h4⟩, h5⟩
theorem getD_set_self {b : Array Bool} {i : Nat} : (b.setIfInBounds i true).getD i true = true := by
  by_cases h : i < b.size
  · rw [Array.getD_eq_getD_getElem?, Array.getElem?_setIfInBounds_self_of_lt h]; rfl
  · rw [Array.getD_eq_getD_getElem?, Array.getElem?_eq_none (by simp; omega)]; rfl
theorem readsB_unlisted : ∀ {l : List Nat} {b : Array Bool}, Region.readsB md ops ns l b = true → ∀ j ∈ l, b.getD j true = false ∧ ns.contains j = false ∧ j < ops.size := by
  intro l
  induction l with
  | nil => intro b _ j hj; cases hj
  | cons i l ih =>
    intro b h j hj
    obtain ⟨h1, h2, ⟨o, h3, _⟩, h4⟩ := readsB_head h
    rcases List.mem_cons.1 hj with rfl | hj
    · exact ⟨(mem_ready.1 h1).1, h2, (Array.getElem?_eq_some_iff.1 h3).1⟩
    · obtain ⟨q1, q2, q3⟩ := ih h4 j hj
      refine ⟨?_, q2, q3⟩
      by_cases e : i = j
      · subst e; rw [getD_set_self] at q1; cases q1
      · rwa [getD_set_ne true e] at q1
theorem readsB_mono : ∀ {l : List Nat} {b : Array Bool} {i : Nat}, i ∉ l → Region.readsB md ops ns l b = true → Region.readsB md ops ns l (b.setIfInBounds i true) = true := by
  intro l
  induction l with
  | nil => intro b i _ _; rfl
  | cons j l ih =>
    intro b i hi h
    obtain ⟨h1, h2, ⟨o, h3, h3'⟩, h4⟩ := readsB_head h
    have hne : j ≠ i := fun e => hi (by simp [e])
    refine readsB_cons (ready_mono h1 hne) h2 h3 h3' ?_
    rw [Array.setIfInBounds_comm _ _ (Ne.symm hne)]
    exact ih (fun hx => hi (by simp [hx])) h4
theorem readsB_mid : ∀ {l1 l2 : List Nat} {b : Array Bool} {i : Nat}, i ∈ Region.ready md ops b → Region.readsB md ops ns (l1 ++ i :: l2) b = true → Region.readsB md ops ns (l1 ++ l2) (b.setIfInBounds i true) = true := by
  intro l1
  induction l1 with
  | nil => intro l2 b i _ h; exact (readsB_head h).2.2.2
  | cons j l1 ih =>
    intro l2 b i hi h
    obtain ⟨h1, h2, ⟨o, h3, h3'⟩, h4⟩ := readsB_head h
    have hne : j ≠ i := by
      rintro rfl
      have := (readsB_unlisted h4 j (by simp)).1
      rw [getD_set_self] at this
      cases this
    refine readsB_cons (ready_mono h1 hne) h2 h3 h3' ?_
    show Region.readsB md ops ns (l1 ++ l2) _ = true
    rw [Array.setIfInBounds_comm _ _ (Ne.symm hne)]
    exact ih (ready_mono hi (Ne.symm hne)) h4
theorem readsB_app : ∀ {l1 l2 : List Nat} {b : Array Bool}, Region.readsB md ops ns l1 b = true → Region.readsB md ops ns l2 (listAll b l1) = true → Region.readsB md ops ns (l1 ++ l2) b = true := by
  intro l1
  induction l1 with
  | nil => intro l2 b _ h; exact h
  | cons j l1 ih =>
    intro l2 b h1 h2
    obtain ⟨q1, q2, ⟨o, q3, q3'⟩, q4⟩ := readsB_head h1
    exact readsB_cons q1 q2 q3 q3' (ih q4 h2)
theorem readsB_inv : ∀ {l : List Nat} {b : Array Bool}, MixInv md ops b → Region.readsB md ops ns l b = true → MixInv md ops (listAll b l) := by
  intro l
  induction l with
  | nil => intro b h _; exact h
  | cons j l ih =>
    intro b h1 h2
    obtain ⟨q1, _, _, q4⟩ := readsB_head h2
    exact ih (h1.set q1) q4
theorem ready_all {i : Nat} : ∀ {l : List Nat} {b : Array Bool}, i ∉ l → i ∈ Region.ready md ops b → i ∈ Region.ready md ops (listAll b l) := by
  intro l
  induction l with
  | nil => intro b _ h; exact h
  | cons j l ih => intro b hi h; exact ih (fun hx => hi (by simp [hx])) (ready_mono h (fun e => hi (by simp [e])))
theorem listAll_in {i : Nat} : ∀ {l : List Nat} {b : Array Bool}, i ∈ l → i < b.size → (listAll b l).getD i false = true := by
  have keep : ∀ (l : List Nat) (b : Array Bool), b.getD i false = true → (listAll b l).getD i false = true := by
    intro l
    induction l with
    | nil => intro b h; exact h
    | cons j l ih => intro b h; exact ih _ (getD_set_true h)
  intro l
  induction l with
  | nil => intro b h; cases h
  | cons j l ih =>
    intro b h hlt
    rcases List.mem_cons.1 h with rfl | h
    · refine keep l _ ?_
      rw [Array.getD_eq_getD_getElem?, Array.getElem?_setIfInBounds_self_of_lt hlt]; rfl
    · exact ih h (by simpa using hlt)

/-- the plan over the operations' numbers -/
def wpPlanI (P : Program) (ops : Array Oper) (C : World → Prop) (ns : List Nat) (Q : Exit → Act → World → Prop) : Plan → Act → World → Prop
  | .none, _, _ => True
  | .tail k, a, w => wpList P ops Q (ops.toList.drop k) a w
  | .fork i rs sub more, a, w => mixStep P ops C ns i (wpMix P ops C ns (wpPlanI P ops C ns Q sub) rs) a w ∧ wpPlanI P ops C ns Q more a w

theorem wpMix_app {K : Act → World → Prop} : ∀ (l1 l2 : List Nat) (a : Act) (w : World), wpMix P ops C ns (wpMix P ops C ns K l2) l1 a w → wpMix P ops C ns K (l1 ++ l2) a w := by
  intro l1
  induction l1 with
  | nil => intro l2 a w h; exact h
  | cons j l1 ih =>
    intro l2 a w h
    simp only [List.cons_append, wpMix] at h ⊢
    unfold mixStep at h ⊢
    split
    · rename_i hm
      rw [if_pos hm] at h
      exact wpOp_mono (fun a' w' hh => ⟨hh.1, ih _ _ _ hh.2⟩) h
    · rename_i hm
      rw [if_neg hm] at h
      obtain ⟨o, v, h1, h2, h3⟩ := h
      exact ⟨o, v, h1, h2, ih _ _ _ h3⟩
theorem wpMix_mono {K K' : Act → World → Prop} (hk : ∀ a w, C w → K a w → K' a w) : ∀ (l : List Nat) (a : Act) (w : World), C w → wpMix P ops C ns K l a w → wpMix P ops C ns K' l a w := by
  intro l
  induction l with
  | nil => intro a w hw h; exact hk a w hw h
  | cons j l ih => intro a w hw h; exact mixStep_mono hw (fun a' w' hc hh => ih a' w' hc hh) h

/-- a branch of a plan -/
theorem plan_branch {Q : Exit → Act → World → Prop} {S : Array Bool} {g i : Nat} : ∀ {p : Plan}, Region.planB md ops ns p S g = true → p.covers i = true →
    (∃ rs sub, rs.length + 1 ≤ g ∧ ns.contains i = true ∧ Region.readsB md ops ns rs (S.setIfInBounds i true) = true ∧ Region.coverB md ops sub (listAll (S.setIfInBounds i true) rs) = true ∧
      Region.planB md ops ns sub (listAll (S.setIfInBounds i true) rs) (g - 1 - rs.length) = true ∧ ∀ a w, wpPlanI P ops C ns Q p a w → mixStep P ops C ns i (wpMix P ops C ns (wpPlanI P ops C ns Q sub) rs) a w) ∨
    (Region.seqB md ops g i S = true ∧ g = ops.size - i ∧ i ≤ ops.size ∧ (∀ j, j < i → i = ops.size ∨ Region.reaches md ops ops.size i j = true) ∧ (∀ j, j < ops.size → j < i ∨ S.getD j true = false) ∧ ∀ a w, wpPlanI P ops C ns Q p a w → wpList P ops Q (ops.toList.drop i) a w) := by
  intro p
  induction p with
  | none => intro _ h; cases h
  | tail k =>
    intro h1 h2
    have e : i = k := by simpa [Plan.covers] using h2
    subst e
    simp only [Region.planB, Bool.and_eq_true, decide_eq_true_eq, List.all_eq_true, List.mem_range, Bool.or_eq_true, Bool.not_eq_true'] at h1
    exact .inr ⟨h1.1.1.1.1, h1.1.1.1.2, h1.1.1.2, h1.1.2, h1.2, fun a w h => h⟩
  | fork i' rs sub more _ ih =>
    intro h1 h2
    simp only [Region.planB, Bool.and_eq_true, decide_eq_true_eq] at h1
    obtain ⟨⟨⟨⟨⟨q1, q2⟩, q3⟩, q4⟩, q5⟩, q6⟩ := h1
    by_cases e : i' = i
    · subst e
      exact .inl ⟨rs, sub, q1.1, q2, q3, q4, q5, fun a w h => h.1⟩
    · have h2' : more.covers i = true := by simpa [Plan.covers, e] using h2
      rcases ih q6 h2' with ⟨rs', sub', z1, z2, z3, z4, z5, z6⟩ | ⟨z1, z2, z3, z4, z5, z6⟩
      · exact .inl ⟨rs', sub', z1, z2, z3, z4, z5, fun a w h => z6 a w h.2⟩
      · exact .inr ⟨z1, z2, z3, z4, z5, fun a w h => z6 a w h.2⟩

theorem pairs_ok {i j : Nat} (hB : Region.pairsB md ops ns = true) (hi : i < ops.size) (hj : j < ops.size) (hne : j ≠ i) (hw : ¬ (ns.contains i = true ∧ ns.contains j = true)) (h1 : Region.reaches md ops ops.size i j = false) (h2 : Region.reaches md ops ops.size j i = false) : pairOk ops ns j i := by
  simp only [Region.pairsB, List.all_eq_true, List.mem_range] at hB
  obtain ⟨oi, hoi⟩ : ∃ o, ops[i]? = some o := ⟨ops[i], by simp [hi]⟩
  obtain ⟨oj, hoj⟩ : ∃ o, ops[j]? = some o := ⟨ops[j], by simp [hj]⟩
  have hw1 : (ns.contains i && ns.contains j) = false := by
    rcases hx : ns.contains i with _ | _
    · rfl
    · rcases hy : ns.contains j with _ | _
      · rfl
      · exact absurd ⟨hx, hy⟩ hw
  rcases Nat.lt_or_ge j i with h | h
  · have h3 := hB i hi j h
    rw [h1, h2, hw1, hoi, hoj] at h3
    simp only [Bool.false_or, Bool.and_eq_true] at h3
    exact ⟨oj, oi, hoj, hoi, h3.1, h3.2, hw⟩
  · have h3 := hB j hj i (by omega)
    rw [h1, h2, Bool.and_comm, hw1, hoi, hoj] at h3
    simp only [Bool.false_or, Bool.and_eq_true] at h3
    exact ⟨oj, oi, hoj, hoi, h3.2, h3.1, hw⟩

theorem wpAny_of_plan {Q : Exit → Act → World → Prop} (hsel : Region.noSelect ops = true) (hB : Region.pairsB md ops ns = true) :
    ∀ (n g : Nat) (l : List Nat) (p : Plan) (listed : Array Bool) (a : Act) (w : World), n = l.length + g → Region.readsB md ops ns l listed = true → MixInv md ops listed → Region.coverB md ops p (listAll listed l) = true → Region.planB md ops ns p (listAll listed l) g = true → C w →
      wpMix P ops C ns (wpPlanI P ops C ns Q p) l a w → wpAny P md ops Q n listed a w := by
  have hsel := Region.noSelect_spec hsel
  intro n
  induction n with
  | zero =>
    intro g l p listed a w hn hr inv hc hp hw h
    obtain rfl : g = 0 := by omega
    obtain rfl : l = [] := List.eq_nil_of_length_eq_zero (by omega)
    cases p with
    | none =>
      exfalso
      simp only [Region.coverB, Bool.and_eq_true, List.all_eq_true, Bool.or_eq_true, Bool.not_eq_true', Plan.isTail, Bool.false_eq_true, false_or] at hc
      obtain ⟨c1, c2⟩ := hc
      cases hrd : Region.ready md ops (listAll listed []) with
      | nil => rw [hrd] at c2; cases c2
      | cons x xs => have := c1 x (by rw [hrd]; simp); cases this
    | fork i rs sub more =>
      exfalso
      simp only [Region.planB, Bool.and_eq_true, decide_eq_true_eq] at hp
      omega
    | tail k =>
      simp only [Region.planB, Bool.and_eq_true, decide_eq_true_eq] at hp
      have hk : k = ops.size := by omega
      have := wpAny_of_seq (md := md) (Q' := Q) (ops.toList.drop k) k listed a w (fun j => by simp [List.getElem?_drop]) (by simp [hk]; simpa [listAll, hk] using hp.1.1.1.1) h
      rwa [show (ops.toList.drop k).length = 0 by simp [hk]] at this
  | succ n ih =>
    intro g l p listed a w hn hr inv hc hp hw h
    have hul := readsB_unlisted hr
    have hS := readsB_inv inv hr
    have hcv := hc
    simp only [Region.coverB, Bool.and_eq_true, List.all_eq_true, Bool.or_eq_true, Bool.not_eq_true'] at hcv
    obtain ⟨c1, c2⟩ := hcv
    refine ⟨fun he => ?_, fun i hi => ?_⟩
    · exfalso
      cases l with
      | cons j l =>
        have := (readsB_head hr).1
        rw [he] at this
        cases this
      | nil =>
        have he' : Region.ready md ops (listAll listed []) = [] := he
        rw [he'] at c2
        rcases c2 with c2 | c2
        · cases p with
          | none => cases c2
          | fork => cases c2
          | tail k =>
            simp only [Region.planB, Bool.and_eq_true, decide_eq_true_eq] at hp
            obtain rfl : g = n + 1 := by simpa using hn.symm
            have h0 := hp.1.1.1.1
            simp only [Region.seqB, Bool.and_eq_true, decide_eq_true_eq] at h0
            rw [he'] at h0
            cases h0.1
        · cases c2
    · obtain ⟨hiun, oi, hoi, _⟩ := mem_ready.1 hi
      have hil : i < ops.size := (Array.getElem?_eq_some_iff.1 hoi).1
      by_cases hmem : i ∈ l
      · -- a read
        have hmi : ¬ ns.contains i = true := by rw [(hul i hmem).2.1]; exact Bool.false_ne_true
        obtain ⟨l1, l2, rfl⟩ := List.append_of_mem hmem
        have hmid := readsB_mid hi hr
        have hpair : ∀ j ∈ l1, pairOk ops ns j i := by
          intro j hj
          obtain ⟨u1, u2, u3⟩ := hul j (by simp [hj])
          have hne : j ≠ i := by
            rintro rfl
            have := (readsB_unlisted hmid j (by simp [hj])).1
            rw [getD_set_self] at this
            cases this
          refine pairs_ok hB hil u3 hne (fun hx => hmi hx.1) ?_ ?_
          · rcases hq : Region.reaches md ops ops.size i j with _ | _
            · rfl
            · have := inv.reach_ready hi _ _ hq
              rw [getD_both u1] at this
              cases this
          · rcases hq : Region.reaches md ops ops.size j i with _ | _
            · rfl
            · exfalso
              have hr1 : ∀ (l1 : List Nat) (b : Array Bool), MixInv md ops b → Region.readsB md ops ns (l1 ++ i :: l2) b = true → j ∈ l1 → False := by
                intro l1
                induction l1 with
                | nil => intro b _ _ hj; cases hj
                | cons k l1 ihl =>
                  intro b invb hrb hjb
                  obtain ⟨z1, _, _, z4⟩ := readsB_head hrb
                  rcases List.mem_cons.1 hjb with rfl | hjb
                  · have h5 := invb.reach_ready z1 _ _ hq
                    have h6 := (readsB_unlisted hrb i (by simp)).1
                    rw [getD_both h6] at h5
                    cases h5
                  · exact ihl _ (invb.set z1) z4 hjb
              exact hr1 l1 listed inv hr hj
        have hst := wpMix_swap hsel l1 a w hpair hw h
        have hrest : ∀ a' w', C w' → wpMix P ops C ns (wpPlanI P ops C ns Q p) (l1 ++ l2) a' w' → wpAny P md ops Q n (listed.setIfInBounds i true) a' w' := by
          intro a' w' hcw hk
          exact ih g (l1 ++ l2) p _ a' w' (by simp at hn ⊢; omega) hmid (inv.set hi) (by rw [← listAll_mid]; exact hc) (by rw [← listAll_mid]; exact hp) hcw hk
        obtain ⟨o, v, ho, hy, hk⟩ := (mixStep_read hmi).1 hst
        rw [hoi] at ho
        cases ho
        have hk := hrest _ w hw hk
        unfold wpOp
        simp only [hoi]
        rcases hy with ⟨h1, h2⟩ | ⟨h1, rfl⟩
        · simp only [h1, if_true]
          refine .inl ?_
          unfold Oper.wp
          rcases h2 w hw with h3 | ⟨h3, e3⟩
          · rw [h3]; exact hk
          · rw [h3]; subst e3; exact hk
        · simp only [h1, Bool.false_eq_true, if_false]
          exact hk
      · -- a step that writes, or the tail
        have hcov := c1 i (ready_all hmem hi)
        rcases plan_branch (P := P) (C := C) (Q := Q) hp hcov with ⟨rs, sub, z1, z2, z3, z4, z5, z6⟩ | ⟨z1, z2, z3, z4, z5, z6⟩
        · have h2 : wpMix P ops C ns (wpPlanI P ops C ns Q sub) (l ++ i :: rs) a w := wpMix_app l (i :: rs) a w (wpMix_mono (fun a w _ hh => z6 a w hh) l a w hw h)
          have hpair : ∀ j ∈ l, pairOk ops ns j i := by
            intro j hj
            obtain ⟨u1, u2, u3⟩ := hul j hj
            have hne : j ≠ i := by rintro rfl; exact hmem hj
            refine pairs_ok hB hil u3 hne (fun hx => by rw [u2] at hx; cases hx.2) ?_ ?_
            · rcases hq : Region.reaches md ops ops.size i j with _ | _
              · rfl
              · have := inv.reach_ready hi _ _ hq
                rw [getD_both u1] at this
                cases this
            · rcases hq : Region.reaches md ops ops.size j i with _ | _
              · rfl
              · have h5 := hS.reach _ _ _ (listAll_in (b := listed) hj (by rw [inv.size]; exact u3)) hq
                have h6 := (mem_ready.1 (ready_all hmem hi)).1
                rw [getD_both h6] at h5
                cases h5
          have hst := wpMix_swap hsel l a w hpair hw h2
          refine wpOp_leaveNot hoi (wpOp_mono (fun a' w' hh => ?_) ((mixStep_move z2).1 hst))
          exact ih (g - 1 - rs.length) (l ++ rs) sub _ a' w' (by simp; omega) (readsB_app (readsB_mono hmem hr) (by rw [listAll_set]; exact z3)) (inv.set hi) (by rw [listAll_app, listAll_set]; exact z4) (by rw [listAll_app, listAll_set]; exact z5) hh.1 hh.2
        · have hl0 : l = [] := by
            cases l with
            | nil => rfl
            | cons j l =>
              exfalso
              obtain ⟨u1, u2, u3⟩ := hul j (by simp)
              rcases z5 j u3 with h5 | h5
              · rcases z4 j h5 with h6 | h6
                · omega
                · have := inv.reach_ready hi _ _ h6
                  rw [getD_both u1] at this
                  cases this
              · have h6 := listAll_in (b := listed) (l := j :: l) (i := j) (by simp) (by rw [inv.size]; exact u3)
                rw [getD_both h5] at h6
                cases h6
          subst hl0
          have hdl : (ops.toList.drop i).length = g := by simp; omega
          have h7 := wpAny_of_seq (md := md) (Q' := Q) (ops.toList.drop i) i listed a w (fun j => by simp [List.getElem?_drop]) (by rw [hdl]; exact z1) (z6 a w h)
          rw [hdl, show g = n + 1 by simpa using hn.symm] at h7
          exact h7.2 i hi

/-- the plan over the operations themselves -/
def wpPlan (P : Program) (ops : Array Oper) (C : World → Prop) (Q : Exit → Act → World → Prop) (l : List Oper) (o0 : Oper) : Plan → Act → World → Prop
  | .none, _, _ => True
  | .tail k, a, w => wpList P ops Q (l.drop k) a w
  | .fork i rs sub more, a, w => wpList P ops (Strict fun a' w' => C w' ∧ wpQuiet P ops C (fun a'' => wpPlan P ops C Q l o0 sub a'' w') (rs.map fun j => l.getD j o0) a') [l.getD i o0] a w ∧ wpPlan P ops C Q l o0 more a w

theorem quiet_reads (hsel : ∀ (j : Nat) (o : Oper) cs b, ops[j]? = some o → o.op ≠ .select cs b) {K : Act → World → Prop} {w : World} {o0 : Oper} : ∀ (rs : List Nat) (b : Array Bool) (a : Act), Region.readsB md ops ns rs b = true →
    wpQuiet P ops C (fun a' => K a' w) (rs.map fun j => ops.toList.getD j o0) a → wpMix P ops C ns K rs a w := by
  intro rs
  induction rs with
  | nil => intro b a _ h; exact h
  | cons j rs ih =>
    intro b a hb h
    obtain ⟨_, q2, ⟨o, q3, q3'⟩, q4⟩ := readsB_head hb
    have ho : ops.toList.getD j o0 = o := by
      rw [List.getD_eq_getElem?_getD, Array.getElem?_toList, q3]; rfl
    have hj : ¬ ns.contains j = true := by rw [q2]; exact Bool.false_ne_true
    rw [List.map_cons, ho] at h
    obtain ⟨v, hy, hK⟩ := readsIn_of_quiet q3' (fun cs b => hsel j o cs b q3) h
    exact (mixStep_read hj).2 ⟨o, v, q3, hy, ih _ _ q4 hK⟩

theorem planI_of {Q : Exit → Act → World → Prop} (hsel : ∀ (j : Nat) (o : Oper) cs b, ops[j]? = some o → o.op ≠ .select cs b) {o0 : Oper} : ∀ (p : Plan) (S : Array Bool) (g : Nat) (a : Act) (w : World), Region.planB md ops ns p S g = true →
    wpPlan P ops C Q ops.toList o0 p a w → wpPlanI P ops C ns Q p a w := by
  intro p
  induction p with
  | none => intro _ _ _ _ _ _; exact trivial
  | tail k => intro _ _ _ _ _ h; exact h
  | fork i rs sub more ih1 ih2 =>
    intro S g a w hp h
    simp only [Region.planB, Bool.and_eq_true, decide_eq_true_eq] at hp
    obtain ⟨⟨⟨⟨⟨q1, q2⟩, q3⟩, q4⟩, q5⟩, q6⟩ := hp
    obtain ⟨o, ho⟩ : ∃ o, ops[i]? = some o := ⟨ops[i], by simp [q1.2]⟩
    have hg : ops.toList.getD i o0 = o := by rw [List.getD_eq_getElem?_getD, Array.getElem?_toList, ho]; rfl
    obtain ⟨h1, h2⟩ := h
    rw [hg] at h1
    refine ⟨(mixStep_move q2).2 (wpOp_mono (fun a' w' hh => ⟨hh.1, ?_⟩) (wpOp_of_strict ho h1)), ih2 _ _ a w q6 h2⟩
    exact quiet_reads hsel rs _ a' q3 (wpQuiet_mono' _ _ (fun a'' ha => ih1 _ _ a'' w' q5 ha) hh.2)

theorem strict_on {K : Act → World → Prop} {a : Act} {w : World} (h : K a w) : Strict K .normal a w := h

def oper0 : Oper := { dst := none, op := .move (.tmp 0), type := 0, pos := "", after := #[], guard := none }

theorem wp_region_plan {id : Nat} {Q : Exit → Act → World → Prop} {a : Act} {w : World} {l : List Oper} (C : World → Prop) (ns rs : List Nat) (p : Plan) (o0 : Oper) (hm : P.follows .mixedOrders = true)
    (hB : (Region.noSelect l.toArray && Region.pairsB .any l.toArray ns && Region.readsB .any l.toArray ns rs (Array.replicate l.toArray.size false) && Region.coverB .any l.toArray p (listAll (Array.replicate l.toArray.size false) rs) &&
      Region.planB .any l.toArray ns p (listAll (Array.replicate l.toArray.size false) rs) (l.toArray.size - rs.length) && decide (rs.length ≤ l.toArray.size)) = true)
    (hc : C w.drew) (h : wpQuiet P l.toArray C (fun a' => wpPlan P l.toArray C Q l o0 p a' w.drew) (rs.map fun j => l.getD j o0) a) : (Code.region id l.toArray true).wp P Q a w := by
  simp only [Bool.and_eq_true, decide_eq_true_eq] at hB
  obtain ⟨⟨⟨⟨⟨b1, b2⟩, b3⟩, b4⟩, b5⟩, b6⟩ := hB
  have hsel := Region.noSelect_spec b1
  refine wp_region_any hm ?_
  refine wpAny_of_plan (ns := ns) (C := C) b1 b2 _ (l.toArray.size - rs.length) rs p _ a w.drew (by omega) b3 ⟨by simp, fun j oj _ hl => (by rw [getD_replicate_false] at hl; cases hl)⟩ b4 b5 hc ?_
  exact quiet_reads hsel rs _ a b3 (wpQuiet_mono' _ _ (fun a'' ha => planI_of hsel p _ _ a'' w.drew b5 ha) h)
end
end Go
