/-
A region that draws its order, walked by a plan: reads come as early as they may; operations that write come in each order that there is (a plan branches on them); a tail comes in one order behind all.
-/
import Derived.Test.YtbhbpfpggfcpgaaQRunC
namespace Go
open Go.RowKit

inductive Plan where
  | none
  | tail (k : Nat)
  | fork (i : Nat) (rs : List Nat) (sub more : Plan)

section
variable {P : Program} {ops : Array Oper} {md : Region.Mode} {C : World → Prop} {ns : List Nat}

def listAll (b : Array Bool) (l : List Nat) : Array Bool := l.foldl (fun b i => b.setIfInBounds i true) b
def Region.readsB (md : Region.Mode) (ops : Array Oper) (ns : List Nat) : List Nat → Array Bool → Bool
  | [], _ => true
  | i :: l, b => (Region.ready md ops b).contains i && !ns.contains i && (match ops[i]? with | some o => o.callsNot | none => false) && Region.readsB md ops ns l (b.setIfInBounds i true)
def Plan.covers : Plan → Nat → Bool
  | .none, _ => false
  | .tail k, i => i == k
  | .fork i _ _ more, j => i == j || more.covers j
def Plan.isTail : Plan → Bool
  | .tail _ => true
  | _ => false
def Region.coverB (md : Region.Mode) (ops : Array Oper) (p : Plan) (b : Array Bool) : Bool :=
  (Region.ready md ops b).all p.covers && (p.isTail || !(Region.ready md ops b).isEmpty)
def Region.planB (md : Region.Mode) (ops : Array Oper) (ns : List Nat) : Plan → Array Bool → Nat → Bool
  | .none, _, _ => true
  | .tail k, b, g => Region.seqB md ops g k b && decide (g = ops.size - k) && decide (k ≤ ops.size) && ((List.range k).all fun j => decide (k = ops.size) || Region.reaches md ops ops.size k j) && (List.range ops.size).all fun j => decide (j < k) || !(b.getD j true)
  | .fork i rs sub more, b, g => decide (rs.length + 1 ≤ g ∧ i < ops.size) && ns.contains i && Region.readsB md ops ns rs (b.setIfInBounds i true) && Region.coverB md ops sub (listAll (b.setIfInBounds i true) rs) &&
      Region.planB md ops ns sub (listAll (b.setIfInBounds i true) rs) (g - 1 - rs.length) && Region.planB md ops ns more b g
def Region.pairsB (md : Region.Mode) (ops : Array Oper) (ns : List Nat) : Bool :=
  (List.range ops.size).all fun i => (List.range i).all fun j => (ns.contains i && ns.contains j) || Region.reaches md ops ops.size i j || Region.reaches md ops ops.size j i ||
    (match ops[j]?, ops[i]? with | some oj, some oi => oj.apart ops oi && oi.apart ops oj | _, _ => false)

theorem listAll_cons (b : Array Bool) (i : Nat) (l : List Nat) : listAll b (i :: l) = listAll (b.setIfInBounds i true) l := rfl
theorem listAll_set (l : List Nat) : ∀ (b : Array Bool) (i : Nat), listAll (b.setIfInBounds i true) l = (listAll b l).setIfInBounds i true := by
  induction l with
  | nil => intro b i; rfl
  | cons j l ih =>
    intro b i
    rw [listAll_cons, listAll_cons]
    by_cases e : i = j
    · subst e; rw [← ih]
    · rw [Array.setIfInBounds_comm _ _ e, ih]
theorem listAll_mid (b : Array Bool) (l1 l2 : List Nat) (i : Nat) : listAll b (l1 ++ i :: l2) = listAll (b.setIfInBounds i true) (l1 ++ l2) := by
  unfold listAll
  rw [List.foldl_append, List.foldl_append, List.foldl_cons]
  have := listAll_set l1 b i
  unfold listAll at this
  rw [this]
theorem listAll_app (b : Array Bool) (l1 l2 : List Nat) : listAll b (l1 ++ l2) = listAll (listAll b l1) l2 := by unfold listAll; rw [List.foldl_append]

theorem readsB_head {i : Nat} {l : List Nat} {b : Array Bool} (h : Region.readsB md ops ns (i :: l) b = true) : i ∈ Region.ready md ops b ∧ ns.contains i = false ∧ (∃ o, ops[i]? = some o ∧ o.callsNot = true) ∧ Region.readsB md ops ns l (b.setIfInBounds i true) = true := by
  simp only [Region.readsB, Bool.and_eq_true, Bool.not_eq_true'] at h
  obtain ⟨⟨⟨h1, h2⟩, h3⟩, h4⟩ := h
  refine ⟨by simpa using h1, h2, ?_, h4⟩
  cases ho : ops[i]? with
  | none => rw [ho] at h3; cases h3
  | some o => rw [ho] at h3; exact ⟨o, rfl, h3⟩
theorem readsB_cons {i : Nat} {l : List Nat} {b : Array Bool} {o : Oper} (h1 : i ∈ Region.ready md ops b) (h2 : ns.contains i = false) (h3 : ops[i]? = some o) (h4 : o.callsNot = true) (h5 : Region.readsB md ops ns l (b.setIfInBounds i true) = true) : Region.readsB md ops ns (i :: l) b = true := by
  simp only [Region.readsB, Bool.and_eq_true, Bool.not_eq_true']
  exact ⟨⟨⟨by simpa using h1, h2⟩, by rw [h3]; exact h4⟩, h5⟩
theorem getD_set_self {b : Array Bool} {i : Nat} : (b.setIfInBounds i true).getD i true = true := by
  by_cases h : i < b.size
  · rw [Array.getD_eq_getD_getElem?, Array.getElem?_setIfInBounds_self_of_lt h]; rfl
  · rw [Array.getD_eq_getD_getElem?, Array.getElem?_eq_none (by simp; omega)]; rfl
theorem readsB_unlisted : ∀ {l : List Nat} {b : Array Bool}, Region.readsB md ops ns l b = true → ∀ j ∈ l, b.getD j true = false ∧ ns.contains j = false ∧ j < ops.size := by
  intro l
  induction l with
  | nil => intro b _ j hj; cases hj
  | cons i l ih =>
    intro b h j hj
    obtain ⟨h1, h2, ⟨o, h3, _⟩, h4⟩ := readsB_head h
    rcases List.mem_cons.1 hj with rfl | hj
    · exact ⟨(mem_ready.1 h1).1, h2, (Array.getElem?_eq_some_iff.1 h3).1⟩
    · obtain ⟨q1, q2, q3⟩ := ih h4 j hj
      refine ⟨?_, q2, q3⟩
      by_cases e : i = j
      · subst e; rw [getD_set_self] at q1; cases q1
      · rwa [getD_set_ne true e] at q1
theorem readsB_mono : ∀ {l : List Nat} {b : Array Bool} {i : Nat}, i ∉ l → Region.readsB md ops ns l b = true → Region.readsB md ops ns l (b.setIfInBounds i true) = true := by
  intro l
  induction l with
  | nil => intro b i _ _; rfl
  | cons j l ih =>
    intro b i hi h
    obtain ⟨h1, h2, ⟨o, h3, h3'⟩, h4⟩ := readsB_head h
    have hne : j ≠ i := fun e => hi (by simp [e])
    refine readsB_cons (ready_mono h1 hne) h2 h3 h3' ?_
    rw [Array.setIfInBounds_comm _ _ (Ne.symm hne)]
    exact ih (fun hx => hi (by simp [hx])) h4
theorem readsB_mid : ∀ {l1 l2 : List Nat} {b : Array Bool} {i : Nat}, i ∈ Region.ready md ops b → Region.readsB md ops ns (l1 ++ i :: l2) b = true → Region.readsB md ops ns (l1 ++ l2) (b.setIfInBounds i true) = true := by
  intro l1
  induction l1 with
  | nil => intro l2 b i _ h; exact (readsB_head h).2.2.2
  | cons j l1 ih =>
    intro l2 b i hi h
    obtain ⟨h1, h2, ⟨o, h3, h3'⟩, h4⟩ := readsB_head h
    have hne : j ≠ i := by
      rintro rfl
      have := (readsB_unlisted h4 j (by simp)).1
      rw [getD_set_self] at this
      cases this
    refine readsB_cons (ready_mono h1 hne) h2 h3 h3' ?_
    show Region.readsB md ops ns (l1 ++ l2) _ = true
    rw [Array.setIfInBounds_comm _ _ (Ne.symm hne)]
    exact ih (ready_mono hi (Ne.symm hne)) h4
theorem readsB_app : ∀ {l1 l2 : List Nat} {b : Array Bool}, Region.readsB md ops ns l1 b = true → Region.readsB md ops ns l2 (listAll b l1) = true → Region.readsB md ops ns (l1 ++ l2) b = true := by
  intro l1
  induction l1 with
  | nil => intro l2 b _ h; exact h
  | cons j l1 ih =>
    intro l2 b h1 h2
    obtain ⟨q1, q2, ⟨o, q3, q3'⟩, q4⟩ := readsB_head h1
    exact readsB_cons q1 q2 q3 q3' (ih q4 h2)
theorem readsB_inv : ∀ {l : List Nat} {b : Array Bool}, MixInv md ops b → Region.readsB md ops ns l b = true → MixInv md ops (listAll b l) := by
  intro l
  induction l with
  | nil => intro b h _; exact h
  | cons j l ih =>
    intro b h1 h2
    obtain ⟨q1, _, _, q4⟩ := readsB_head h2
    exact ih (h1.set q1) q4
theorem ready_all {i : Nat} : ∀ {l : List Nat} {b : Array Bool}, i ∉ l → i ∈ Region.ready md ops b → i ∈ Region.ready md ops (listAll b l) := by
  intro l
  induction l with
  | nil => intro b _ h; exact h
  | cons j l ih => intro b hi h; exact ih (fun hx => hi (by simp [hx])) (ready_mono h (fun e => hi (by simp [e])))
theorem listAll_in {i : Nat} : ∀ {l : List Nat} {b : Array Bool}, i ∈ l → i < b.size → (listAll b l).getD i false = true := by
  have keep : ∀ (l : List Nat) (b : Array Bool), b.getD i false = true → (listAll b l).getD i false = true := by
    intro l
    induction l with
    | nil => intro b h; exact h
    | cons j l ih => intro b h; exact ih _ (getD_set_true h)
  intro l
  induction l with
  | nil => intro b h; cases h
  | cons j l ih =>
    intro b h hlt
    rcases List.mem_cons.1 h with rfl | h
    · refine keep l _ ?_
      rw [Array.getD_eq_getD_getElem?, Array.getElem?_setIfInBounds_self_of_lt hlt]; rfl
    · exact ih h (by simpa using hlt)

/-- the plan over the operations' numbers -/
def wpPlanI (P : Program) (ops : Array Oper) (C : World → Prop) (ns : List Nat) (Q : Exit → Act → World → Prop) : Plan → Act → World → Prop
  | .none, _, _ => True
  | .tail k, a, w => wpList P ops Q (ops.toList.drop k) a w
  | .fork i rs sub more, a, w => mixStep P ops C ns i (wpMix P ops C ns (wpPlanI P ops C ns Q sub) rs) a w ∧ wpPlanI P ops C ns Q more a w

theorem wpMix_app {K : Act → World → Prop} : ∀ (l1 l2 : List Nat) (a : Act) (w : World), wpMix P ops C ns (wpMix P ops C ns K l2) l1 a w → wpMix P ops C ns K (l1 ++ l2) a w := by
  intro l1
  induction l1 with
  | nil => intro l2 a w h; exact h
  | cons j l1 ih =>
    intro l2 a w h
    simp only [List.cons_append, wpMix] at h ⊢
    unfold mixStep at h ⊢
    split
    · rename_i hm
      rw [if_pos hm] at h
      exact wpOp_mono (fun a' w' hh => ⟨hh.1, ih _ _ _ hh.2⟩) h
    · rename_i hm
      rw [if_neg hm] at h
      obtain ⟨o, v, h1, h2, h3⟩ := h
      exact ⟨o, v, h1, h2, ih _ _ _ h3⟩
theorem wpMix_mono {K K' : Act → World → Prop} (hk : ∀ a w, C w → K a w → K' a w) : ∀ (l : List Nat) (a : Act) (w : World), C w → wpMix P ops C ns K l a w → wpMix P ops C ns K' l a w := by
  intro l
  induction l with
  | nil => intro a w hw h; exact hk a w hw h
  | cons j l ih => intro a w hw h; exact mixStep_mono hw (fun a' w' hc hh => ih a' w' hc hh) h

/-- a branch of a plan -/
theorem plan_branch {Q : Exit → Act → World → Prop} {S : Array Bool} {g i : Nat} : ∀ {p : Plan}, Region.planB md ops ns p S g = true → p.covers i = true →
    (∃ rs sub, rs.length + 1 ≤ g ∧ ns.contains i = true ∧ Region.readsB md ops ns rs (S.setIfInBounds i true) = true ∧ Region.coverB md ops sub (listAll (S.setIfInBounds i true) rs) = true ∧
      Region.planB md ops ns sub (listAll (S.setIfInBounds i true) rs) (g - 1 - rs.length) = true ∧ ∀ a w, wpPlanI P ops C ns Q p a w → mixStep P ops C ns i (wpMix P ops C ns (wpPlanI P ops C ns Q sub) rs) a w) ∨
    (Region.seqB md ops g i S = true ∧ g = ops.size - i ∧ i ≤ ops.size ∧ (∀ j, j < i → i = ops.size ∨ Region.reaches md ops ops.size i j = true) ∧ (∀ j, j < ops.size → j < i ∨ S.getD j true = false) ∧ ∀ a w, wpPlanI P ops C ns Q p a w → wpList P ops Q (ops.toList.drop i) a w) := by
  intro p
  induction p with
  | none => intro _ h; cases h
  | tail k =>
    intro h1 h2
    have e : i = k := by simpa [Plan.covers] using h2
    subst e
    simp only [Region.planB, Bool.and_eq_true, decide_eq_true_eq, List.all_eq_true, List.mem_range, Bool.or_eq_true, Bool.not_eq_true'] at h1
    exact .inr ⟨h1.1.1.1.1, h1.1.1.1.2, h1.1.1.2, h1.1.2, h1.2, fun a w h => h⟩
  | fork i' rs sub more _ ih =>
    intro h1 h2
    simp only [Region.planB, Bool.and_eq_true, decide_eq_true_eq] at h1
    obtain ⟨⟨⟨⟨⟨q1, q2⟩, q3⟩, q4⟩, q5⟩, q6⟩ := h1
    by_cases e : i' = i
    · subst e
      exact .inl ⟨rs, sub, q1.1, q2, q3, q4, q5, fun a w h => h.1⟩
    · have h2' : more.covers i = true := by simpa [Plan.covers, e] using h2
      rcases ih q6 h2' with ⟨rs', sub', z1, z2, z3, z4, z5, z6⟩ | ⟨z1, z2, z3, z4, z5, z6⟩
      · exact .inl ⟨rs', sub', z1, z2, z3, z4, z5, fun a w h => z6 a w h.2⟩
      · exact .inr ⟨z1, z2, z3, z4, z5, fun a w h => z6 a w h.2⟩

theorem pairs_ok {i j : Nat} (hB : Region.pairsB md ops ns = true) (hi : i < ops.size) (hj : j < ops.size) (hne : j ≠ i) (hw : ¬ (ns.contains i = true ∧ ns.contains j = true)) (h1 : Region.reaches md ops ops.size i j = false) (h2 : Region.reaches md ops ops.size j i = false) : pairOk ops ns j i := by
  simp only [Region.pairsB, List.all_eq_true, List.mem_range] at hB
  obtain ⟨oi, hoi⟩ : ∃ o, ops[i]? = some o := ⟨ops[i], by simp [hi]⟩
  obtain ⟨oj, hoj⟩ : ∃ o, ops[j]? = some o := ⟨ops[j], by simp [hj]⟩
  have hw1 : (ns.contains i && ns.contains j) = false := by
    rcases hx : ns.contains i with _ | _
    · rfl
    · rcases hy : ns.contains j with _ | _
      · rfl
      · exact absurd ⟨hx, hy⟩ hw
  rcases Nat.lt_or_ge j i with h | h
  · have h3 := hB i hi j h
    rw [h1, h2, hw1, hoi, hoj] at h3
    simp only [Bool.false_or, Bool.and_eq_true] at h3
    exact ⟨oj, oi, hoj, hoi, h3.1, h3.2, hw⟩
  · have h3 := hB j hj i (by omega)
    rw [h1, h2, Bool.and_comm, hw1, hoi, hoj] at h3
    simp only [Bool.false_or, Bool.and_eq_true] at h3
    exact ⟨oj, oi, hoj, hoi, h3.2, h3.1, hw⟩

theorem wpAny_of_plan {Q : Exit → Act → World → Prop} (hsel : Region.noSelect ops = true) (hB : Region.pairsB md ops ns = true) :
    ∀ (n g : Nat) (l : List Nat) (p : Plan) (listed : Array Bool) (a : Act) (w : World), n = l.length + g → Region.readsB md ops ns l listed = true → MixInv md ops listed → Region.coverB md ops p (listAll listed l) = true → Region.planB md ops ns p (listAll listed l) g = true → C w →
      wpMix P ops C ns (wpPlanI P ops C ns Q p) l a w → wpAny P md ops Q n listed a w := by
  have hsel := Region.noSelect_spec hsel
  intro n
  induction n with
  | zero =>
    intro g l p listed a w hn hr inv hc hp hw h
    obtain rfl : g = 0 := by omega
    obtain rfl : l = [] := List.eq_nil_of_length_eq_zero (by omega)
    cases p with
    | none =>
      exfalso
      simp only [Region.coverB, Bool.and_eq_true, List.all_eq_true, Bool.or_eq_true, Bool.not_eq_true', Plan.isTail, Bool.false_eq_true, false_or] at hc
      obtain ⟨c1, c2⟩ := hc
      cases hrd : Region.ready md ops (listAll listed []) with
      | nil => rw [hrd] at c2; cases c2
      | cons x xs => have := c1 x (by rw [hrd]; simp); cases this
    | fork i rs sub more =>
      exfalso
      simp only [Region.planB, Bool.and_eq_true, decide_eq_true_eq] at hp
      omega
    | tail k =>
      simp only [Region.planB, Bool.and_eq_true, decide_eq_true_eq] at hp
      have hk : k = ops.size := by omega
      have := wpAny_of_seq (md := md) (Q' := Q) (ops.toList.drop k) k listed a w (fun j => by simp [List.getElem?_drop]) (by simp [hk]; simpa [listAll, hk] using hp.1.1.1.1) h
      rwa [show (ops.toList.drop k).length = 0 by simp [hk]] at this
  | succ n ih =>
    intro g l p listed a w hn hr inv hc hp hw h
    have hul := readsB_unlisted hr
    have hS := readsB_inv inv hr
    have hcv := hc
    simp only [Region.coverB, Bool.and_eq_true, List.all_eq_true, Bool.or_eq_true, Bool.not_eq_true'] at hcv
    obtain ⟨c1, c2⟩ := hcv
    refine ⟨fun he => ?_, fun i hi => ?_⟩
    · exfalso
      cases l with
      | cons j l =>
        have := (readsB_head hr).1
        rw [he] at this
        cases this
      | nil =>
        have he' : Region.ready md ops (listAll listed []) = [] := he
        rw [he'] at c2
        rcases c2 with c2 | c2
        · cases p with
          | none => cases c2
          | fork => cases c2
          | tail k =>
            simp only [Region.planB, Bool.and_eq_true, decide_eq_true_eq] at hp
            obtain rfl : g = n + 1 := by simpa using hn.symm
            have h0 := hp.1.1.1.1
            simp only [Region.seqB, Bool.and_eq_true, decide_eq_true_eq] at h0
            rw [he'] at h0
            cases h0.1
        · cases c2
    · obtain ⟨hiun, oi, hoi, _⟩ := mem_ready.1 hi
      have hil : i < ops.size := (Array.getElem?_eq_some_iff.1 hoi).1
      by_cases hmem : i ∈ l
      · -- a read
        have hmi : ¬ ns.contains i = true := by rw [(hul i hmem).2.1]; exact Bool.false_ne_true
        obtain ⟨l1, l2, rfl⟩ := List.append_of_mem hmem
        have hmid := readsB_mid hi hr
        have hpair : ∀ j ∈ l1, pairOk ops ns j i := by
          intro j hj
          obtain ⟨u1, u2, u3⟩ := hul j (by simp [hj])
          have hne : j ≠ i := by
            rintro rfl
            have := (readsB_unlisted hmid j (by simp [hj])).1
            rw [getD_set_self] at this
            cases this
          refine pairs_ok hB hil u3 hne (fun hx => hmi hx.1) ?_ ?_
          · rcases hq : Region.reaches md ops ops.size i j with _ | _
            · rfl
            · have := inv.reach_ready hi _ _ hq
              rw [getD_both u1] at this
              cases this
          · rcases hq : Region.reaches md ops ops.size j i with _ | _
            · rfl
            · exfalso
              have hr1 : ∀ (l1 : List Nat) (b : Array Bool), MixInv md ops b → Region.readsB md ops ns (l1 ++ i :: l2) b = true → j ∈ l1 → False := by
                intro l1
                induction l1 with
                | nil => intro b _ _ hj; cases hj
                | cons k l1 ihl =>
                  intro b invb hrb hjb
                  obtain ⟨z1, _, _, z4⟩ := readsB_head hrb
                  rcases List.mem_cons.1 hjb with rfl | hjb
                  · have h5 := invb.reach_ready z1 _ _ hq
                    have h6 := (readsB_unlisted hrb i (by simp)).1
                    rw [getD_both h6] at h5
                    cases h5
                  · exact ihl _ (invb.set z1) z4 hjb
              exact hr1 l1 listed inv hr hj
        have hst := wpMix_swap hsel l1 a w hpair hw h
        have hrest : ∀ a' w', C w' → wpMix P ops C ns (wpPlanI P ops C ns Q p) (l1 ++ l2) a' w' → wpAny P md ops Q n (listed.setIfInBounds i true) a' w' := by
          intro a' w' hcw hk
          exact ih g (l1 ++ l2) p _ a' w' (by simp at hn ⊢; omega) hmid (inv.set hi) (by rw [← listAll_mid]; exact hc) (by rw [← listAll_mid]; exact hp) hcw hk
        obtain ⟨o, v, ho, hy, hk⟩ := (mixStep_read hmi).1 hst
        rw [hoi] at ho
        cases ho
        have hk := hrest _ w hw hk
        unfold wpOp
        simp only [hoi]
        rcases hy with ⟨h1, h2⟩ | ⟨h1, rfl⟩
        · simp only [h1, if_true]
          refine .inl ?_
          unfold Oper.wp
          rcases h2 w hw with h3 | ⟨h3, e3⟩
          · rw [h3]; exact hk
          · rw [h3]; subst e3; exact hk
        · simp only [h1, Bool.false_eq_true, if_false]
          exact hk
      · -- a step that writes, or the tail
        have hcov := c1 i (ready_all hmem hi)
        rcases plan_branch (P := P) (C := C) (Q := Q) hp hcov with ⟨rs, sub, z1, z2, z3, z4, z5, z6⟩ | ⟨z1, z2, z3, z4, z5, z6⟩
        · have h2 : wpMix P ops C ns (wpPlanI P ops C ns Q sub) (l ++ i :: rs) a w := wpMix_app l (i :: rs) a w (wpMix_mono (fun a w _ hh => z6 a w hh) l a w hw h)
          have hpair : ∀ j ∈ l, pairOk ops ns j i := by
            intro j hj
            obtain ⟨u1, u2, u3⟩ := hul j hj
            have hne : j ≠ i := by rintro rfl; exact hmem hj
            refine pairs_ok hB hil u3 hne (fun hx => by rw [u2] at hx; cases hx.2) ?_ ?_
            · rcases hq : Region.reaches md ops ops.size i j with _ | _
              · rfl
              · have := inv.reach_ready hi _ _ hq
                rw [getD_both u1] at this
                cases this
            · rcases hq : Region.reaches md ops ops.size j i with _ | _
              · rfl
              · have h5 := hS.reach _ _ _ (listAll_in (b := listed) hj (by rw [inv.size]; exact u3)) hq
                have h6 := (mem_ready.1 (ready_all hmem hi)).1
                rw [getD_both h6] at h5
                cases h5
          have hst := wpMix_swap hsel l a w hpair hw h2
          refine wpOp_leaveNot hoi (wpOp_mono (fun a' w' hh => ?_) ((mixStep_move z2).1 hst))
          exact ih (g - 1 - rs.length) (l ++ rs) sub _ a' w' (by simp; omega) (readsB_app (readsB_mono hmem hr) (by rw [listAll_set]; exact z3)) (inv.set hi) (by rw [listAll_app, listAll_set]; exact z4) (by rw [listAll_app, listAll_set]; exact z5) hh.1 hh.2
        · have hl0 : l = [] := by
            cases l with
            | nil => rfl
            | cons j l =>
              exfalso
              obtain ⟨u1, u2, u3⟩ := hul j (by simp)
              rcases z5 j u3 with h5 | h5
              · rcases z4 j h5 with h6 | h6
                · omega
                · have := inv.reach_ready hi _ _ h6
                  rw [getD_both u1] at this
                  cases this
              · have h6 := listAll_in (b := listed) (l := j :: l) (i := j) (by simp) (by rw [inv.size]; exact u3)
                rw [getD_both h5] at h6
                cases h6
          subst hl0
          have hdl : (ops.toList.drop i).length = g := by simp; omega
          have h7 := wpAny_of_seq (md := md) (Q' := Q) (ops.toList.drop i) i listed a w (fun j => by simp [List.getElem?_drop]) (by rw [hdl]; exact z1) (z6 a w h)
          rw [hdl, show g = n + 1 by simpa using hn.symm] at h7
          exact h7.2 i hi

/-- the plan over the operations themselves -/
def wpPlan (P : Program) (ops : Array Oper) (C : World → Prop) (Q : Exit → Act → World → Prop) (l : List Oper) (o0 : Oper) : Plan → Act → World → Prop
  | .none, _, _ => True
  | .tail k, a, w => wpList P ops Q (l.drop k) a w
  | .fork i rs sub more, a, w => wpList P ops (Strict fun a' w' => C w' ∧ wpQuiet P ops C (fun a'' => wpPlan P ops C Q l o0 sub a'' w') (rs.map fun j => l.getD j o0) a') [l.getD i o0] a w ∧ wpPlan P ops C Q l o0 more a w

theorem quiet_reads (hsel : ∀ (j : Nat) (o : Oper) cs b, ops[j]? = some o → o.op ≠ .select cs b) {K : Act → World → Prop} {w : World} {o0 : Oper} : ∀ (rs : List Nat) (b : Array Bool) (a : Act), Region.readsB md ops ns rs b = true →
    wpQuiet P ops C (fun a' => K a' w) (rs.map fun j => ops.toList.getD j o0) a → wpMix P ops C ns K rs a w := by
  intro rs
  induction rs with
  | nil => intro b a _ h; exact h
  | cons j rs ih =>
    intro b a hb h
    obtain ⟨_, q2, ⟨o, q3, q3'⟩, q4⟩ := readsB_head hb
    have ho : ops.toList.getD j o0 = o := by
      rw [List.getD_eq_getElem?_getD, Array.getElem?_toList, q3]; rfl
    have hj : ¬ ns.contains j = true := by rw [q2]; exact Bool.false_ne_true
    rw [List.map_cons, ho] at h
    obtain ⟨v, hy, hK⟩ := readsIn_of_quiet q3' (fun cs b => hsel j o cs b q3) h
    exact (mixStep_read hj).2 ⟨o, v, q3, hy, ih _ _ q4 hK⟩

theorem planI_of {Q : Exit → Act → World → Prop} (hsel : ∀ (j : Nat) (o : Oper) cs b, ops[j]? = some o → o.op ≠ .select cs b) {o0 : Oper} : ∀ (p : Plan) (S : Array Bool) (g : Nat) (a : Act) (w : World), Region.planB md ops ns p S g = true →
    wpPlan P ops C Q ops.toList o0 p a w → wpPlanI P ops C ns Q p a w := by
  intro p
  induction p with
  | none => intro _ _ _ _ _ _; exact trivial
  | tail k => intro _ _ _ _ _ h; exact h
  | fork i rs sub more ih1 ih2 =>
    intro S g a w hp h
    simp only [Region.planB, Bool.and_eq_true, decide_eq_true_eq] at hp
    obtain ⟨⟨⟨⟨⟨q1, q2⟩, q3⟩, q4⟩, q5⟩, q6⟩ := hp
    obtain ⟨o, ho⟩ : ∃ o, ops[i]? = some o := ⟨ops[i], by simp [q1.2]⟩
    have hg : ops.toList.getD i o0 = o := by rw [List.getD_eq_getElem?_getD, Array.getElem?_toList, ho]; rfl
    obtain ⟨h1, h2⟩ := h
    rw [hg] at h1
    refine ⟨(mixStep_move q2).2 (wpOp_mono (fun a' w' hh => ⟨hh.1, ?_⟩) (wpOp_of_strict ho h1)), ih2 _ _ a w q6 h2⟩
    exact quiet_reads hsel rs _ a' q3 (wpQuiet_mono' _ _ (fun a'' ha => ih1 _ _ a'' w' q5 ha) hh.2)

theorem strict_on {K : Act → World → Prop} {a : Act} {w : World} (h : K a w) : Strict K .normal a w := h

def oper0 : Oper := { dst := none, op := .move (.tmp 0), type := 0, pos := "", after := #[], guard := none }

theorem wp_region_plan {id : Nat} {Q : Exit → Act → World → Prop} {a : Act} {w : World} {l : List Oper} (C : World → Prop) (ns rs : List Nat) (p : Plan) (o0 : Oper) (hm : P.follows .mixedOrders = true)
    (hB : (Region.noSelect l.toArray && Region.pairsB .any l.toArray ns && Region.readsB .any l.toArray ns rs (Array.replicate l.toArray.size false) && Region.coverB .any l.toArray p (listAll (Array.replicate l.toArray.size false) rs) &&
      Region.planB .any l.toArray ns p (listAll (Array.replicate l.toArray.size false) rs) (l.toArray.size - rs.length) && decide (rs.length ≤ l.toArray.size)) = true)
    (hc : C w.drew) (h : wpQuiet P l.toArray C (fun a' => wpPlan P l.toArray C Q l o0 p a' w.drew) (rs.map fun j => l.getD j o0) a) : (Code.region id l.toArray true).wp P Q a w := by
  simp only [Bool.and_eq_true, decide_eq_true_eq] at hB
  obtain ⟨⟨⟨⟨⟨b1, b2⟩, b3⟩, b4⟩, b5⟩, b6⟩ := hB
  have hsel := Region.noSelect_spec b1
  refine wp_region_any hm ?_
  refine wpAny_of_plan (ns := ns) (C := C) b1 b2 _ (l.toArray.size - rs.length) rs p _ a w.drew (by omega) b3 ⟨by simp, fun j oj _ hl => (by rw [getD_replicate_false] at hl; cases hl)⟩ b4 b5 hc ?_
  exact quiet_reads hsel rs _ a b3 (wpQuiet_mono' _ _ (fun a'' ha => planI_of hsel p _ _ a'' w.drew b5 ha) h)
end
end Go
