/-
A region that draws its order and holds reads, steps that write (in one order), an operation that floats (it waits for none of them, and none of them for it), and a last one that waits for all.
-/
import Derived.Test.YtbhbpfpggfcpgaaMixT
namespace Go
open Go.RowKit

section
variable {P : Program} {ops : Array Oper} {md : Region.Mode} {C : World → Prop} {ns : List Nat}

theorem wpOp_leaveNot {Q : Exit → Act → World → Prop} {i : Nat} {oi : Oper} (hoi : ops[i]? = some oi) {K : Act → World → Prop} {a : Act} {w : World} (h1 : wpOp P ops NoExit i K a w) : wpOp P ops Q i K a w := by
  unfold wpOp at h1 ⊢
  simp only [hoi] at h1 ⊢
  by_cases hwt : Region.wanted oi (yielded ops a.tmps) = true
  · simp only [hwt, if_true, not_letsOut_noExit, and_false, or_false] at h1 ⊢
    refine .inl ?_
    unfold Oper.wp at *
    generalize (execOp a.eval oi).run P w = r at *
    cases r with
    | ok n w' =>
      cases n <;> simp only [Oper.upon] at h1 ⊢
      case enter f args =>
        refine Calls.mono h1 (fun e w'' he => ?_)
        cases e with
        | returned v => exact he
        | panicked c => exact False.elim he
        | outgrown => exact absurd he not_letsOut_noExit
      all_goals exact h1
    | halt x w' => cases x <;> simp only [Oper.upon] at h1; exact False.elim h1
  · simp only [hwt] at h1 ⊢
    exact h1

theorem mixStep_mono {i : Nat} {K K' : Act → World → Prop} {a : Act} {w : World} (hw : C w) (hk : ∀ a' w', C w' → K a' w' → K' a' w') (h : mixStep P ops C ns i K a w) : mixStep P ops C ns i K' a w := by
  by_cases hm : ns.contains i = true
  · exact (mixStep_move hm).2 (wpOp_mono (fun a' w' hh => ⟨hh.1, hk _ _ hh.1 hh.2⟩) ((mixStep_move hm).1 h))
  · obtain ⟨o, v, h1, h2, h3⟩ := (mixStep_read hm).1 h
    exact (mixStep_read hm).2 ⟨o, v, h1, h2, hk _ _ hw h3⟩

/-- the one that floats -/
def fStep (P : Program) (ops : Array Oper) (C : World → Prop) (f : Nat) (K : Act → World → Prop) (a : Act) (w : World) : Prop := wpOp P ops NoExit f (fun a' w' => C w' ∧ K a' w') a w

def wpFl (P : Program) (ops : Array Oper) (C : World → Prop) (ns : List Nat) (f : Nat) (K : Act → World → Prop) : List Nat → Act → World → Prop
  | [], a, w => fStep P ops C f K a w
  | i :: l, a, w => (ns.contains i = true → fStep P ops C f (wpMix P ops C ns K (i :: l)) a w) ∧ mixStep P ops C ns i (wpFl P ops C ns f K l) a w

def pairApart (ops : Array Oper) (j i : Nat) : Prop := ∃ oj oi, ops[j]? = some oj ∧ ops[i]? = some oi ∧ oj.apart ops oi = true ∧ oi.apart ops oj = true

theorem mixStep_ns {ns' : List Nat} {i : Nat} {K : Act → World → Prop} {a : Act} {w : World} (h : ns.contains i = ns'.contains i) : mixStep P ops C ns i K a w ↔ mixStep P ops C ns' i K a w := by
  unfold mixStep; rw [h]

/-- a read ahead of the one that floats: behind it as well -/
theorem read_float {f j : Nat} (hsel : ∀ (j : Nat) (o : Oper) cs b, ops[j]? = some o → o.op ≠ .select cs b) {K : Act → World → Prop} {a : Act} {w : World} (hw : C w) (hj : ¬ ns.contains j = true) (hne : j ≠ f) (hp : pairApart ops j f)
    (h : mixStep P ops C ns j (fStep P ops C f K) a w) : fStep P ops C f (mixStep P ops C ns j K) a w := by
  obtain ⟨oj, oi, e1, e2, e3, e4⟩ := hp
  have hjf : ¬ [f].contains j = true := by simpa using hne
  have hff : [f].contains f = true := by simp
  have hnj : ns.contains j = [f].contains j := by rw [Bool.eq_false_iff.2 hj, Bool.eq_false_iff.2 hjf]
  have h1 : wpMix P ops C [f] K ([j] ++ f :: []) a w := by
    simp only [List.cons_append, List.nil_append, wpMix]
    refine (mixStep_ns hnj).1 (mixStep_mono hw (fun a' w' _ hh => ?_) h)
    exact (mixStep_move hff).2 hh
  have h2 := wpMix_swap hsel [j] a w (fun k hk => by
    rw [List.mem_singleton.1 hk]
    exact ⟨oj, oi, e1, e2, e3, e4, fun hx => hjf hx.2⟩) hw h1
  have h3 := (mixStep_move hff).1 h2
  refine wpOp_mono (fun a' w' hh => ⟨hh.1, (mixStep_ns hnj).2 ?_⟩) h3
  simpa only [List.append_nil, wpMix] using hh.2

theorem float_read {f i : Nat} (hsel : ∀ (j : Nat) (o : Oper) cs b, ops[j]? = some o → o.op ≠ .select cs b) {K : Act → World → Prop} {a : Act} {w : World} (hw : C w) (hi : ¬ ns.contains i = true) (hne : i ≠ f) (hp : pairApart ops i f)
    (h : fStep P ops C f (mixStep P ops C ns i K) a w) : mixStep P ops C ns i (fStep P ops C f K) a w := by
  obtain ⟨oj, oi, e1, e2, e3, e4⟩ := hp
  have hif : ¬ [f].contains i = true := by simpa using hne
  have hff : [f].contains f = true := by simp
  have hni : ns.contains i = [f].contains i := by rw [Bool.eq_false_iff.2 hi, Bool.eq_false_iff.2 hif]
  have h1 : wpMix P ops C [f] K ([f] ++ i :: []) a w := by
    simp only [List.cons_append, List.nil_append, wpMix]
    exact (mixStep_move hff).2 (wpOp_mono (fun a' w' hh => ⟨hh.1, (mixStep_ns hni).1 hh.2⟩) h)
  have h2 := wpMix_swap hsel [f] a w (fun k hk => by
    rw [List.mem_singleton.1 hk]
    exact ⟨oi, oj, e2, e1, e4, e3, fun hx => hif hx.1⟩) hw h1
  refine (mixStep_ns hni).2 (mixStep_mono hw (fun a' w' _ hh => ?_) h2)
  simp only [List.append_nil, wpMix] at hh
  exact (mixStep_move hff).1 hh

theorem wpFl_float {f : Nat} (hsel : ∀ (j : Nat) (o : Oper) cs b, ops[j]? = some o → o.op ≠ .select cs b) {K : Act → World → Prop} :
    ∀ (l : List Nat) (a : Act) (w : World), (∀ j ∈ l, j ≠ f ∧ pairApart ops j f) → C w → wpFl P ops C ns f K l a w → fStep P ops C f (wpMix P ops C ns K l) a w := by
  intro l
  induction l with
  | nil => intro a w _ _ h; exact h
  | cons j l ih =>
    intro a w hp hw h
    by_cases hm : ns.contains j = true
    · exact h.1 hm
    · have hj := hp j (by simp)
      have := read_float hsel hw hm hj.1 hj.2 (mixStep_mono hw (fun a' w' hc hh => ih a' w' (fun k hk => hp k (by simp [hk])) hc hh) h.2)
      exact this

theorem wpFl_swap {f i : Nat} (hsel : ∀ (j : Nat) (o : Oper) cs b, ops[j]? = some o → o.op ≠ .select cs b) {K : Act → World → Prop} {l2 : List Nat} (hif : i ≠ f ∧ pairApart ops i f) :
    ∀ (l1 : List Nat) (a : Act) (w : World), (∀ j ∈ l1, pairOk ops ns j i) → C w → wpFl P ops C ns f K (l1 ++ i :: l2) a w → mixStep P ops C ns i (wpFl P ops C ns f K (l1 ++ l2)) a w := by
  intro l1
  induction l1 with
  | nil => intro a w _ _ h; exact h.2
  | cons j l1 ih =>
    intro a w hp hw h
    have ih := fun a w => ih a w (fun k hk => hp k (by simp [hk]))
    have hpj := hp j (by simp)
    simp only [List.cons_append] at h
    obtain ⟨g1, g2⟩ := h
    have s1 : wpMix P ops C ns (wpFl P ops C ns f K (l1 ++ l2)) ([j] ++ i :: []) a w := by
      simp only [List.cons_append, List.nil_append, wpMix]
      exact mixStep_mono hw (fun a' w' hc hh => ih a' w' hc hh) g2
    have s2 := wpMix_swap hsel [j] a w (fun k hk => by rw [List.mem_singleton.1 hk]; exact hpj) hw s1
    simp only [List.append_nil] at s2
    by_cases hm : ns.contains j = true
    · have hmi : ¬ ns.contains i = true := by
        obtain ⟨_, _, _, _, _, _, hno⟩ := hpj
        exact fun hx => hno ⟨hx, hm⟩
      have r1 : fStep P ops C f (mixStep P ops C ns i (wpMix P ops C ns K ((j :: l1) ++ l2))) a w :=
        wpOp_mono (fun a' w' hh => ⟨hh.1, wpMix_swap hsel (j :: l1) a' w' hp hh.1 hh.2⟩) (g1 hm)
      have r2 := float_read hsel hw hmi hif.1 hif.2 r1
      obtain ⟨o, v, ho, hy, hk⟩ := (mixStep_read hmi).1 s2
      obtain ⟨o', u, ho', hu, hk'⟩ := (mixStep_read hmi).1 r2
      rw [ho] at ho'
      cases ho'
      obtain rfl := ReadsIn.unique hw hy hu
      exact (mixStep_read hmi).2 ⟨o, v, ho, hy, fun _ => hk', hk⟩
    · exact mixStep_mono hw (fun a' w' _ hh => ⟨fun hx => absurd hx hm, hh⟩) s2

/-- the look at the one that floats (the last but one): apart from all ahead of it -/
def Region.floatB (ops : Array Oper) : Bool :=
  decide (2 ≤ ops.size) && (List.range (ops.size - 2)).all fun j => match ops[j]?, ops[ops.size - 2]? with | some oj, some oi => oj.apart ops oi && oi.apart ops oj | _, _ => false

theorem wpAny_of_float {Q : Exit → Act → World → Prop} {K : Act → World → Prop} (hB : Region.mixB md ops ns = true) (hL : Region.lastB md ops = true) (hF : Region.floatB ops = true)
    (hQ : ∀ a w, C w → K a w → wpOp P ops Q (ops.size - 1) (fun a' w' => Q .normal a' w') a w) :
    ∀ (l : List Nat) (listed : Array Bool) (a : Act) (w : World), l.Pairwise (· < ·) → (∀ i, i ∈ l ↔ i < ops.size - 2 ∧ listed.getD i true = false) → listed.getD (ops.size - 2) true = false → listed.getD (ops.size - 1) true = false → MixInv md ops listed → C w →
      wpFl P ops C ns (ops.size - 2) K l a w → wpAny P md ops Q (l.length + 2) listed a w := by
  have hB0 := hB
  have hL0 := hL
  simp only [Region.lastB, Bool.and_eq_true, decide_eq_true_eq, List.all_eq_true, List.mem_range] at hL
  obtain ⟨hpos, hL⟩ := hL
  simp only [Region.mixB, Bool.and_eq_true, List.all_eq_true, List.mem_range] at hB
  obtain ⟨hsel, hB⟩ := hB
  have hsel := Region.noSelect_spec hsel
  simp only [Region.floatB, Bool.and_eq_true, decide_eq_true_eq, List.all_eq_true, List.mem_range] at hF
  obtain ⟨htwo, hF⟩ := hF
  have hfl : ∀ j, j < ops.size - 2 → j ≠ ops.size - 2 ∧ pairApart ops j (ops.size - 2) := by
    intro j hj
    have := hF j hj
    refine ⟨by omega, ?_⟩
    obtain ⟨oj, hoj⟩ : ∃ o, ops[j]? = some o := ⟨ops[j], by simp [show j < ops.size by omega]⟩
    obtain ⟨oi, hoi⟩ : ∃ o, ops[ops.size - 2]? = some o := ⟨ops[ops.size - 2], by simp [show ops.size - 2 < ops.size by omega]⟩
    rw [hoj, hoi] at this
    simp only [Bool.and_eq_true] at this
    exact ⟨oj, oi, hoj, hoi, this.1, this.2⟩
  have main : ∀ (n : Nat) (l : List Nat), l.length = n → ∀ (listed : Array Bool) (a : Act) (w : World), l.Pairwise (· < ·) → (∀ i, i ∈ l ↔ i < ops.size - 2 ∧ listed.getD i true = false) → listed.getD (ops.size - 2) true = false → listed.getD (ops.size - 1) true = false → MixInv md ops listed → C w →
      wpFl P ops C ns (ops.size - 2) K l a w → wpAny P md ops Q (n + 2) listed a w := by
    intro n
    induction n with
    | zero =>
      intro l hl listed a w hs hm hfloat hlast inv hw h
      obtain rfl : l = [] := List.eq_nil_of_length_eq_zero hl
      have hall : ∀ j, j < ops.size - 2 → listed.getD j false = true := by
        intro j hj
        rcases hc : listed.getD j false with _ | _
        · have := (hm j).2 ⟨hj, getD_in (by rw [inv.size]; omega) hc⟩
          cases this
        · rfl
      obtain ⟨o, ho⟩ : ∃ o, ops[ops.size - 2]? = some o := ⟨ops[ops.size - 2], by simp [show ops.size - 2 < ops.size by omega]⟩
      have hr : ops.size - 2 ∈ Region.ready md ops listed := by
        refine mem_ready.2 ⟨hfloat, o, ho, fun e he hb => ?_⟩
        have h1 := (hB (ops.size - 2) (by omega)).2
        rw [ho] at h1
        have h2 := Array.all_eq_true'.1 h1 e he
        simp only [hb, Bool.not_true, Bool.false_or, decide_eq_true_eq] at h2
        exact hall _ h2
      refine ⟨fun he => (by rw [he] at hr; cases hr), fun i hi => ?_⟩
      have hi' : i = ops.size - 2 := by
        obtain ⟨hiun, oi, hoi, _⟩ := mem_ready.1 hi
        have := (Array.getElem?_eq_some_iff.1 hoi).1
        by_cases hlt : i < ops.size - 2
        · have := hall i hlt
          rw [getD_both hiun] at this
          cases this
        · by_cases hlt' : i = ops.size - 2
          · exact hlt'
          · exfalso
            obtain rfl : i = ops.size - 1 := by omega
            have := inv.reach_ready hi _ _ (hL (ops.size - 2) (by omega))
            rw [getD_both hfloat] at this
            cases this
      subst hi'
      refine wpOp_leaveNot ho (wpOp_mono (fun a' w' hh => ?_) (show fStep P ops C (ops.size - 2) K a w from h))
      refine wpAny_of_mix_last (ns := ns) (K := K) hB0 hL0 hQ [] _ a' w' List.Pairwise.nil (fun j => ?_) (by rw [getD_set_ne true (by omega)]; exact hlast) (inv.set hi) hh.1 hh.2
      constructor
      · intro hx; cases hx
      · rintro ⟨hx, hy⟩
        exfalso
        by_cases hj : ops.size - 2 = j
        · subst hj
          rw [Array.getD_eq_getD_getElem?, Array.getElem?_setIfInBounds_self_of_lt (by rw [inv.size]; omega)] at hy
          cases hy
        · rw [getD_set_ne true hj] at hy
          have := (hm j).2 ⟨by omega, hy⟩
          cases this
    | succ n ih =>
      intro l hl listed a w hs hm hfloat hlast inv hw h
      refine ⟨fun hr => ?_, fun i hi => ?_⟩
      · cases l with
        | nil => cases hl
        | cons i l =>
          exfalso
          have hi := (hm i).1 (by simp)
          have : i ∈ Region.ready md ops listed := by
            obtain ⟨o, ho⟩ : ∃ o, ops[i]? = some o := ⟨ops[i]'(by omega), Array.getElem?_eq_getElem (by omega)⟩
            refine mem_ready.2 ⟨hi.2, o, ho, fun e he hb => ?_⟩
            have h1 := (hB i (by omega)).2
            rw [ho] at h1
            have h2 := Array.all_eq_true'.1 h1 e he
            simp only [hb, Bool.not_true, Bool.false_or, decide_eq_true_eq] at h2
            rcases hc : listed.getD e.on false with _ | _
            · exfalso
              have h3 := (hm e.on).2 ⟨by omega, getD_in (by rw [inv.size]; omega) hc⟩
              have h4 := List.pairwise_cons.1 hs
              rcases List.mem_cons.1 h3 with h5 | h5
              · omega
              · have := h4.1 _ h5
                omega
            · rfl
          rw [hr] at this
          cases this
      · obtain ⟨hiun, oi, hoi, _⟩ := mem_ready.1 hi
        have hil : i < ops.size := (Array.getElem?_eq_some_iff.1 hoi).1
        have hne1 : i ≠ ops.size - 1 := by
          rintro rfl
          have := inv.reach_ready hi _ _ (hL (ops.size - 2) (by omega))
          rw [getD_both hfloat] at this
          cases this
        by_cases hif : i = ops.size - 2
        · subst hif
          refine wpOp_leaveNot hoi (wpOp_mono (fun a' w' hh => ?_) (wpFl_float hsel l a w (fun j hj => hfl j ((hm j).1 hj).1) hw h))
          have := wpAny_of_mix_last (ns := ns) (K := K) hB0 hL0 hQ l (listed.setIfInBounds (ops.size - 2) true) a' w' hs (fun j => by
            constructor
            · intro hx
              obtain ⟨e1, e2⟩ := (hm j).1 hx
              exact ⟨by omega, by rw [getD_set_ne true (by omega)]; exact e2⟩
            · rintro ⟨hx, hy⟩
              by_cases hj : ops.size - 2 = j
              · subst hj
                rw [Array.getD_eq_getD_getElem?, Array.getElem?_setIfInBounds_self_of_lt (by rw [inv.size]; omega)] at hy
                cases hy
              · rw [getD_set_ne true hj] at hy
                exact (hm j).2 ⟨by omega, hy⟩) (by rw [getD_set_ne true (by omega)]; exact hlast) (inv.set hi) hh.1 hh.2
          rw [hl] at this
          exact this
        have hil' : i < ops.size - 2 := by omega
        obtain ⟨l1, l2, rfl⟩ := List.append_of_mem ((hm i).2 ⟨hil', hiun⟩)
        obtain ⟨p1, p2, p3⟩ := List.pairwise_append.1 hs
        have hpair : ∀ j ∈ l1, pairOk ops ns j i := by
          intro j hj
          have hji : j < i := p3 j hj i (by simp)
          have hjun := ((hm j).1 (by simp [hj])).2
          rcases Bool.or_eq_true _ _ ▸ (hB i hil).1 j hji with h1 | h1
          · have := inv.reach_ready hi _ _ h1
            rw [getD_both hjun] at this
            cases this
          · obtain ⟨oj, hoj⟩ : ∃ o, ops[j]? = some o := ⟨ops[j], by simp [Nat.lt_trans hji hil]⟩
            rw [hoj, hoi] at h1
            simp only [Bool.and_eq_true, Bool.not_eq_true', Bool.and_eq_false_iff] at h1
            refine ⟨oj, oi, hoj, hoi, h1.1.1, h1.1.2, fun hx => ?_⟩
            rcases h1.2 with h2 | h2
            · rw [hx.1] at h2; cases h2
            · rw [hx.2] at h2; cases h2
        have hst := wpFl_swap hsel (hfl i hil') l1 a w hpair hw h
        have hrest : ∀ a' w', C w' → wpFl P ops C ns (ops.size - 2) K (l1 ++ l2) a' w' → wpAny P md ops Q (n + 2) (listed.setIfInBounds i true) a' w' := by
          intro a' w' hc hk
          refine ih (l1 ++ l2) (by simp at hl ⊢; omega) _ a' w' ?_ (fun j => ?_) (by rw [getD_set_ne true (by omega)]; exact hfloat) (by rw [getD_set_ne true (by omega)]; exact hlast) (inv.set hi) hc hk
          · exact List.pairwise_append.2 ⟨p1, (List.pairwise_cons.1 p2).2, fun x hx y hy => p3 x hx y (by simp [hy])⟩
          · have hm' := hm j
            by_cases hji : i = j
            · subst hji
              constructor
              · intro hx
                rcases List.mem_append.1 hx with hx | hx
                · have := p3 i hx i (by simp); omega
                · have := (List.pairwise_cons.1 p2).1 i hx; omega
              · rintro ⟨_, hx⟩
                rw [Array.getD_eq_getD_getElem?, Array.getElem?_setIfInBounds_self_of_lt (by rw [inv.size]; exact hil)] at hx
                cases hx
            · rw [getD_set_ne true hji]
              constructor
              · intro hx
                refine hm'.1 ?_
                rcases List.mem_append.1 hx with hx | hx
                · simp [hx]
                · simp [hx]
              · intro hx
                rcases List.mem_append.1 (hm'.2 hx) with hx | hx
                · simp [hx]
                · rcases List.mem_cons.1 hx with hx | hx
                  · exact absurd hx.symm hji
                  · simp [hx]
        by_cases hmi : ns.contains i = true
        · exact wpOp_leaveNot hoi (wpOp_mono (fun a' w' hh => hrest a' w' hh.1 hh.2) ((mixStep_move hmi).1 hst))
        · obtain ⟨o, v, ho, hy, hk⟩ := (mixStep_read hmi).1 hst
          rw [hoi] at ho
          cases ho
          have hk := hrest _ w hw hk
          unfold wpOp
          simp only [hoi]
          rcases hy with ⟨h1, h2⟩ | ⟨h1, rfl⟩
          · simp only [h1, if_true]
            refine .inl ?_
            unfold Oper.wp
            rcases h2 w hw with h3 | ⟨h3, e3⟩
            · rw [h3]; exact hk
            · rw [h3]; subst e3; exact hk
          · simp only [h1, Bool.false_eq_true, if_false]
            exact hk
  intro l listed a w
  exact main l.length l rfl listed a w

/-! ### the walk -/

theorem wpQuiet_mono' : ∀ (l : List Oper) (a : Act) {Q Q' : Act → Prop}, (∀ a, Q a → Q' a) → wpQuiet P ops C Q l a → wpQuiet P ops C Q' l a := by
  intro l
  induction l with
  | nil => intro a Q Q' hq h; exact hq _ h
  | cons x l ih' =>
    intro a Q Q' hq h
    simp only [wpQuiet] at h ⊢
    split
    · rename_i hw
      rw [if_pos hw] at h
      exact Oper.quiet_mono (fun a' ha => ih' a' hq ha) h
    · rename_i hw
      rw [if_neg hw] at h
      exact ih' _ hq h

theorem strict_mono {K K' : Act → World → Prop} {o : Oper} {a : Act} {w : World} (hk : ∀ a w, K a w → K' a w) (ha : wpList P ops (Strict K) [o] a w) : wpList P ops (Strict K') [o] a w := by
  simp only [wpList, not_letsOut_strict, and_false, or_false] at ha ⊢
  split
  · rename_i hw
    rw [if_pos hw] at ha
    unfold Oper.wp at *
    generalize (execOp a.eval o).run P w = r at *
    cases r with
    | ok n w' =>
      cases n <;> simp only [Oper.upon, Strict] at ha ⊢
      case enter f args =>
        refine Calls.mono ha (fun e w'' he => ?_)
        cases e with
        | returned v => exact hk _ _ he
        | panicked c => exact False.elim he
        | outgrown => exact absurd he (not_letsOut_strict _)
      case row row args => exact Rows.mono ha (fun v w'' he => hk _ _ he)
      all_goals first | exact hk _ _ ha | exact ha
    | halt x w' => cases x <;> simp only [Oper.upon, Strict] at ha
  · rename_i hw
    rw [if_neg hw] at ha
    exact hk _ _ ha

theorem wpOp_of_strict {i : Nat} {o : Oper} (h0 : ops[i]? = some o) {K : Act → World → Prop} {a : Act} {w : World} (h : wpList P ops (Strict K) [o] a w) : wpOp P ops NoExit i K a w := by
  simp only [wpList, not_letsOut_strict, and_false, or_false] at h
  unfold wpOp
  simp only [h0]
  by_cases hw : Region.wanted o (yielded ops a.tmps) = true
  · simp only [hw, if_true] at h ⊢
    refine .inl ?_
    unfold Oper.wp at *
    generalize (execOp a.eval o).run P w = r at *
    cases r with
    | ok n w' =>
      cases n <;> simp only [Oper.upon] at h ⊢
      case enter f args =>
        refine Calls.mono h (fun e w'' he => ?_)
        cases e with
        | returned v => exact he
        | panicked c => exact False.elim he
        | outgrown => exact absurd he (not_letsOut_strict _)
      all_goals exact h
    | halt x w' => cases x <;> simp only [Oper.upon] at h; exact False.elim h
  · simp only [hw] at h ⊢
    exact h

/-- the steps in their order; ahead of each, and behind the last one, the one that floats -/
def wpFloat (P : Program) (ops : Array Oper) (C : World → Prop) (K : Act → World → Prop) (f : Oper) (last : List Oper) : List (List Oper × Oper) → Act → World → Prop
  | [], a, w => wpQuiet P ops C (fun a' => wpList P ops (Strict fun a'' w'' => C w'' ∧ K a'' w'') [f] a' w) last a
  | (l, o) :: ss, a, w => wpQuiet P ops C (fun a' => wpList P ops (Strict fun a'' w'' => C w'' ∧ wpSteps P ops C K last (([], o) :: ss) a'' w'') [f] a' w ∧
      wpList P ops (Strict fun a'' w'' => C w'' ∧ wpFloat P ops C K f last ss a'' w'') [o] a' w) l a

theorem wpFl_reads (hsel : ∀ (j : Nat) (o : Oper) cs b, ops[j]? = some o → o.op ≠ .select cs b) {f : Nat} {K : Act → World → Prop} {w : World} {rest : List Nat} :
    ∀ (l : List Oper) (k : Nat) (a : Act), (∀ j, j < l.length → l[j]? = ops[k + j]?) → (∀ o ∈ l, o.callsNot = true) → (∀ j, j < l.length → ns.contains (k + j) = false) →
      wpQuiet P ops C (fun a' => wpFl P ops C ns f K rest a' w) l a → wpFl P ops C ns f K (List.range' k l.length ++ rest) a w := by
  intro l
  induction l with
  | nil => intro k a _ _ _ h; exact h
  | cons o l ih =>
    intro k a hl hcn hns h
    have h0 : ops[k]? = some o := by simpa using (hl 0 (by simp)).symm
    have hk : ¬ ns.contains k = true := by rw [show ns.contains k = false by simpa using hns 0 (by simp)]; exact Bool.false_ne_true
    obtain ⟨v, hy, hK⟩ := readsIn_of_quiet (hcn o (by simp)) (fun cs b => hsel k o cs b h0) h
    simp only [List.length_cons, List.range'_succ, List.cons_append, wpFl]
    refine ⟨fun hx => absurd hx hk, (mixStep_read hk).2 ⟨o, v, h0, hy, ih (k + 1) _ (fun j hj => ?_) (fun o ho => hcn o (by simp [ho])) (fun j hj => ?_) hK⟩⟩
    · have := hl (j + 1) (by simp; omega)
      simpa [Nat.add_assoc, Nat.add_comm 1 j] using this
    · have := hns (j + 1) (by simp; omega)
      rw [show k + 1 + j = k + (j + 1) by omega]; exact this

theorem wpFl_of_float (hsel : ∀ (j : Nat) (o : Oper) cs b, ops[j]? = some o → o.op ≠ .select cs b) {K : Act → World → Prop} {f : Nat} {fo : Oper} (hf : ops[f]? = some fo) {last : List Oper} :
    ∀ (ss : List (List Oper × Oper)) (k : Nat) (a : Act) (w : World), (∀ j, j < (flatSteps ss last).length → (flatSteps ss last)[j]? = ops[k + j]?) →
      (∀ i, k ≤ i → (ns.contains i = true ↔ i ∈ stepsAt k ss)) → (∀ s ∈ ss, ∀ o ∈ s.1, o.callsNot = true) → (∀ o ∈ last, o.callsNot = true) →
      wpFloat P ops C K fo last ss a w → wpFl P ops C ns f K (List.range' k (flatSteps ss last).length) a w := by
  intro ss
  induction ss with
  | nil =>
    intro k a w hl hns _ hcl h
    have := wpFl_reads (K := K) (ns := ns) (f := f) (rest := []) hsel last k a hl hcl (fun j _ => by
      rcases hc : ns.contains (k + j) with _ | _
      · rfl
      · have := (hns (k + j) (by omega)).1 hc
        cases this) (wpQuiet_mono' _ _ (fun a' ha => (show fStep P ops C f K a' w from wpOp_of_strict hf ha)) h)
    rw [List.append_nil] at this
    exact this
  | cons s ss ih =>
    intro k a w hl hns hcs hcl h
    obtain ⟨l, o⟩ := s
    have hlen : (flatSteps ((l, o) :: ss) last).length = l.length + (1 + (flatSteps ss last).length) := by simp [flatSteps]; omega
    have hl1 : ∀ j, j < l.length → l[j]? = ops[k + j]? := fun j hj => by
      rw [← hl j (by omega)]; simp only [flatSteps]; rw [List.getElem?_append_left hj]
    have ho : ops[k + l.length]? = some o := by
      rw [← hl l.length (by omega)]; simp [flatSteps]
    have hl2 : ∀ j, j < (flatSteps ss last).length → (flatSteps ss last)[j]? = ops[k + l.length + 1 + j]? := fun j hj => by
      have := hl (l.length + 1 + j) (by omega)
      rw [show k + l.length + 1 + j = k + (l.length + 1 + j) by omega, ← this]
      simp only [flatSteps]
      rw [List.getElem?_append_right (by omega), show l.length + 1 + j - l.length = j + 1 by omega, List.getElem?_cons_succ]
    rw [hlen, ← List.range'_append_1, show 1 + (flatSteps ss last).length = (flatSteps ss last).length + 1 by omega]
    have hin : ns.contains (k + l.length) = true := (hns _ (by omega)).2 (by simp [stepsAt])
    have hns2 : ∀ i, k + l.length + 1 ≤ i → (ns.contains i = true ↔ i ∈ stepsAt (k + l.length + 1) ss) := fun i hi => by
      rw [hns i (by omega)]
      constructor
      · intro h1
        rcases List.mem_cons.1 h1 with h1 | h1
        · omega
        · exact h1
      · intro h1; exact List.mem_cons_of_mem _ h1
    refine wpFl_reads hsel l k a hl1 (hcs (l, o) (by simp)) (fun j hj => ?_) ?_
    · rcases hc : ns.contains (k + j) with _ | _
      · rfl
      · rcases List.mem_cons.1 ((hns (k + j) (by omega)).1 hc) with h1 | h1
        · omega
        · have := stepsAt_ge _ _ _ h1; omega
    · refine wpQuiet_mono' l a (fun a' ha => ?_) h
      obtain ⟨q1, q2⟩ := ha
      rw [List.range'_succ]
      refine ⟨fun _ => ?_, (mixStep_move hin).2 (wpOp_of_strict ho (strict_mono (fun a'' w'' hh => ⟨hh.1, ih (k + l.length + 1) a'' w'' hl2 hns2 (fun s hs => hcs s (by simp [hs])) hcl hh.2⟩) q2))⟩
      refine wpOp_of_strict hf (strict_mono (fun a'' w'' hh => ⟨hh.1, ?_⟩) q1)
      have := wpMix_of_steps (ns := ns) (K := K) hsel (([], o) :: ss) (k + l.length) a'' w'' (fun j hj => by
        simp only [flatSteps, List.nil_append] at hj ⊢
        cases j with
        | zero => simpa using ho.symm
        | succ j =>
          rw [List.getElem?_cons_succ, hl2 j (by simpa using hj)]
          congr 1; omega) (fun i hi => by
        rw [show stepsAt (k + l.length) (([], o) :: ss) = (k + l.length) :: stepsAt (k + l.length + 1) ss by simp [stepsAt]]
        rw [hns i (by omega)]
        simp [stepsAt]) (fun s hs => by
        rcases List.mem_cons.1 hs with rfl | hs
        · intro o ho; cases ho
        · exact hcs s (by simp [hs])) hcl hh.2
      rw [show (flatSteps (([], o) :: ss) last).length = (flatSteps ss last).length + 1 by simp [flatSteps], List.range'_succ] at this
      exact this

theorem wp_region_float {id : Nat} {Q : Exit → Act → World → Prop} {a : Act} {w : World} {l : List Oper} (C : World → Prop) (gs : List Nat) (n : Nat) (fo : Oper) (hfo : l[n]? = some fo) (hm : P.follows .mixedOrders = true)
    (hB : (Region.mixB .any l.toArray (stepsAt 0 (cutSteps gs (l.take n)).1) && stepsB (cutSteps gs (l.take n)).1 (cutSteps gs (l.take n)).2 && Region.lastB .any l.toArray && Region.floatB l.toArray && decide (l.length = n + 2)) = true)
    (hc : C w.drew) (h : wpFloat P l.toArray C (fun a' w' => wpList P l.toArray Q (l.drop (n + 1)) a' w') fo (cutSteps gs (l.take n)).2 (cutSteps gs (l.take n)).1 a w.drew) : (Code.region id l.toArray true).wp P Q a w := by
  simp only [Bool.and_eq_true, decide_eq_true_eq] at hB
  obtain ⟨⟨⟨⟨hB, hS⟩, hLast⟩, hFl⟩, hL⟩ := hB
  have hflat : ∀ (gs : List Nat) (l : List Oper), flatSteps (cutSteps gs l).1 (cutSteps gs l).2 = l := by
    intro gs
    induction gs with
    | nil => intro l; rfl
    | cons g gs ih =>
      intro l
      simp only [cutSteps]
      cases hd : l.drop g with
      | nil => rfl
      | cons o rest =>
        simp only [flatSteps, ih rest]
        rw [← hd]
        exact List.take_append_drop g l
  have hsel := hB
  simp only [Region.mixB, Bool.and_eq_true] at hsel
  have hsel := Region.noSelect_spec hsel.1
  simp only [stepsB, Bool.and_eq_true, List.all_eq_true] at hS
  refine wp_region_any hm ?_
  have hlen : (l.take n).length = n := by simp; omega
  have hsz2 : l.toArray.size - 2 = n := by simp; omega
  have hsz : l.toArray.size - 1 = n + 1 := by simp; omega
  have h1 := wpFl_of_float (ns := stepsAt 0 (cutSteps gs (l.take n)).1) (f := n) (fo := fo) hsel (by simpa using hfo) (cutSteps gs (l.take n)).1 0 a w.drew (fun j hj => by
    rw [hflat gs (l.take n)] at hj ⊢
    rw [hlen] at hj
    simp [hj]) (fun i _ => by simp) (fun s hs o ho => hS.1 s hs o ho) hS.2 h
  rw [hflat, hlen] at h1
  obtain ⟨o, ho⟩ : ∃ o, l.drop (n + 1) = [o] := by
    have : (l.drop (n + 1)).length = 1 := by simp; omega
    exact List.length_eq_one_iff.1 this
  have hon : l.toArray[n + 1]? = some o := by
    have : l[n + 1]? = (l.drop (n + 1))[0]? := by simp
    rw [List.getElem?_toArray, this, ho]; rfl
  have h2 := wpAny_of_float (md := .any) (Q := Q) (K := fun a' w' => wpList P l.toArray Q (l.drop (n + 1)) a' w') hB hLast hFl (fun a w _ hk => by
      rw [hsz]
      rw [ho] at hk
      exact wpOp_of_list_one hon hk) (List.range' 0 n) (Array.replicate l.toArray.size false) a w.drew List.pairwise_lt_range' (fun i => by
      rw [hsz2]
      simp only [List.mem_range']
      constructor
      · rintro ⟨j, hj, rfl⟩
        refine ⟨by omega, getD_in (by simp; omega) (getD_replicate_false _ _)⟩
      · rintro ⟨hi, _⟩
        exact ⟨i, hi, by omega⟩) (by rw [hsz2]; exact getD_in (by simp; omega) (getD_replicate_false _ _)) (by rw [hsz]; exact getD_in (by simp; omega) (getD_replicate_false _ _)) ⟨by simp, fun j oj _ hl => (by rw [getD_replicate_false] at hl; cases hl)⟩ hc (by rw [hsz2]; exact h1)
  rw [List.length_range', show n + 2 = l.toArray.size by simp; omega] at h2
  exact h2
end
end Go
