/-
A region that draws its order and holds reads and steps that write: the steps come in one order (each waits for the one ahead), and what is read is the same in every world of a class that no step leaves. One walk, in the order of the text, serves every order.
Worlds that are w but for some blocks (LaterF): a class for regions with steps that write.
The machine as data, and where it lies in the heap (MachAt). What the desk's methods make of it (DeskS).
-/
import Derived.Test.YtjcggokhminmoaaQMemB
import Derived.Test.YtjcggokhminmoaaQMore
namespace Go
open Go.RowKit

section
variable {P : Program} {ops : Array Oper} {md : Region.Mode} {C : World → Prop} {ns : List Nat}

/-- no way out but on -/
def NoExit : Exit → Act → World → Prop := fun _ _ _ => False
def Strict (K : Act → World → Prop) : Exit → Act → World → Prop
  | .normal, a, w => K a w
  | _, _, _ => False

theorem not_letsOut_noExit : ¬ LetsOut NoExit := fun ⟨_, _, h⟩ => h
theorem not_letsOut_strict (K : Act → World → Prop) : ¬ LetsOut (Strict K) := fun ⟨_, _, h⟩ => h

/-- in every world of the class o's run yields v, and leaves the world -/
def ReadsIn (P : Program) (ops : Array Oper) (C : World → Prop) (o : Oper) (v : Value) (a : Act) : Prop :=
  (Region.wanted o (yielded ops a.tmps) = true ∧ ∀ w, C w → (execOp a.eval o).run P w = .ok (.value v) w ∨ ((execOp a.eval o).run P w = .ok .skip w ∧ v = undef)) ∨
  (Region.wanted o (yielded ops a.tmps) = false ∧ v = undef)

theorem ReadsIn.of_same {o : Oper} {v : Value} {a a' : Act} (hy : ReadsIn P ops C o v a) (he : execOp a'.eval o = execOp a.eval o)
    (hw : Region.wanted o (yielded ops a'.tmps) = Region.wanted o (yielded ops a.tmps)) : ReadsIn P ops C o v a' := by
  unfold ReadsIn at *
  rw [he, hw]
  exact hy
theorem ReadsIn.unique {o : Oper} {v u : Value} {a : Act} {w : World} (hw : C w) (h1 : ReadsIn P ops C o v a) (h2 : ReadsIn P ops C o u a) : v = u := by
  rcases h1 with ⟨a1, b1⟩ | ⟨a1, b1⟩ <;> rcases h2 with ⟨a2, b2⟩ | ⟨a2, b2⟩
  · rcases b1 w hw with c1 | ⟨c1, e1⟩ <;> rcases b2 w hw with c2 | ⟨c2, e2⟩
    · rw [c1] at c2; cases c2; rfl
    · rw [c1] at c2; cases c2
    · rw [c1] at c2; cases c2
    · rw [e1, e2]
  · rw [a1] at a2; cases a2
  · rw [a1] at a2; cases a2
  · rw [b1, b2]

/-- what a step makes of a frame -/
def Puts (o : Oper) (a a' : Act) : Prop := ∃ u ds, a' = ({ a with defers := ds } : Act).put o.dst u

theorem yielded_defers (ops : Array Oper) (a : Act) (ds : List Deferred) : yielded ops ({ a with defers := ds } : Act).tmps = yielded ops a.tmps := rfl
theorem eval_defers (a : Act) (ds : List Deferred) : ({ a with defers := ds } : Act).eval = a.eval := by funext x; cases x <;> rfl

theorem ReadsIn.puts {oi oj : Oper} {v : Value} {a a' : Act} (hsi : ∀ cs b, oi.op ≠ .select cs b) (hap : oi.apart ops oj = true) (hp : Puts oj a a') : ReadsIn P ops C oi v a' ↔ ReadsIn P ops C oi v a := by
  obtain ⟨h1, h2, h3⟩ := Oper.apart_spec hap
  obtain ⟨u, ds, rfl⟩ := hp
  have e1 : execOp (({ a with defers := ds } : Act).put oj.dst u).eval oi = execOp a.eval oi := by
    rw [execOp_put oi hsi _ oj.dst u h3, eval_defers]
  have e2 : Region.wanted oi (yielded ops (({ a with defers := ds } : Act).put oj.dst u).tmps) = Region.wanted oi (yielded ops a.tmps) := by
    rw [wanted_put oi _ oj.dst u h3]
  exact ⟨fun h => h.of_same e1.symm e2.symm, fun h => h.of_same e1 e2⟩
theorem Puts.put (o : Oper) (a : Act) (u : Value) : Puts o a (a.put o.dst u) := ⟨u, a.defers, rfl⟩
theorem Puts.defer (o : Oper) (a : Act) (d : Deferred) (u : Value) : Puts o a (({ a with defers := d :: a.defers } : Act).put o.dst u) := ⟨u, _, rfl⟩

/-- a step tells its frames -/
theorem wpOp_puts {j : Nat} {oj : Oper} (hj : ops[j]? = some oj) {K : Act → World → Prop} {a : Act} {w : World} (h : wpOp P ops NoExit j K a w) :
    wpOp P ops NoExit j (fun a' w' => Puts oj a a' ∧ K a' w') a w ∧ ∃ a' w', Puts oj a a' ∧ K a' w' := by
  unfold wpOp at *
  simp only [hj] at *
  by_cases hw : Region.wanted oj (yielded ops a.tmps) = true
  · simp only [hw, if_true] at *
    rcases h with h | ⟨_, h⟩
    case inr => exact absurd h not_letsOut_noExit
    unfold Oper.wp at *
    generalize (execOp a.eval oj).run P w = r at *
    cases r with
    | ok n w' =>
      cases n <;> simp only [Oper.upon] at h ⊢
      case value v => exact ⟨.inl ⟨Puts.put _ _ _, h⟩, _, _, Puts.put _ _ _, h⟩
      case skip => exact ⟨.inl ⟨Puts.put _ _ _, h⟩, _, _, Puts.put _ _ _, h⟩
      case defer d => exact ⟨.inl ⟨Puts.defer _ _ _ _, h⟩, _, _, Puts.defer _ _ _ _, h⟩
      case enter f args =>
        refine ⟨.inl (Calls.mono h (fun e w'' he => ?_)), ?_⟩
        · cases e with
          | returned v => exact ⟨Puts.put _ _ _, he⟩
          | panicked c => exact he
          | outgrown => exact he
        · obtain ⟨e, w'', fr, he, _⟩ := h []
          cases e with
          | returned v => exact ⟨_, _, Puts.put _ _ _, he⟩
          | panicked c => exact False.elim he
          | outgrown => exact absurd he not_letsOut_noExit
      case row row args =>
        refine ⟨.inl (Rows.mono h (fun v w'' he => ⟨Puts.put _ _ _, he⟩)), ?_⟩
        obtain ⟨v, w'', he, _⟩ := h (Frame.ofRow P row args .normal) []
        exact ⟨_, _, Puts.put _ _ _, he⟩
    | halt x w' => cases x <;> simp only [Oper.upon] at h; exact False.elim h
  · simp only [hw] at *
    exact ⟨⟨Puts.put _ _ _, h⟩, _, _, Puts.put _ _ _, h⟩

/-- another one's temporary makes no difference to a step -/
theorem wpOp_put_iff {j : Nat} {oi oj : Oper} {v : Value} (hj : ops[j]? = some oj) (hap : oi.apart ops oj = true)
    (hsj : ∀ cs b, oj.op ≠ .select cs b) {K : Act → World → Prop} {a : Act} {w : World} :
    wpOp P ops NoExit j K (a.put oi.dst v) w ↔ wpOp P ops NoExit j (fun a' w' => K (a'.put oi.dst v) w') a w := by
  obtain ⟨h1, h2, h3⟩ := Oper.apart_spec hap
  unfold wpOp
  simp only [hj]
  rw [wanted_put oj a oi.dst v h1]
  by_cases hw : Region.wanted oj (yielded ops a.tmps) = true
  · simp only [hw, if_true, not_letsOut_noExit, and_false, or_false]
    unfold Oper.wp
    rw [execOp_put oj hsj a oi.dst v h1]
    generalize (execOp a.eval oj).run P w = r
    cases r with
    | ok n w' =>
      cases n <;> simp only [Oper.upon]
      case value u => rw [Act.put_comm a v u h2]
      case skip => rw [Act.put_comm a v undef h2]
      case defer d => rw [Act.put_defers, Act.put_comm _ v undef h2]
      case enter f args =>
        have e : ∀ u, (a.put oi.dst v).put oj.dst u = (a.put oj.dst u).put oi.dst v := fun u => Act.put_comm a v u h2
        constructor <;> (intro h; refine Calls.mono h (fun e' w'' he => ?_); cases e' with
          | returned u => first | (simp only [e] at he; exact he) | (simp only [e]; exact he)
          | panicked c => exact he
          | outgrown => exact he)
      case row row args =>
        have e : ∀ u, (a.put oi.dst v).put oj.dst u = (a.put oj.dst u).put oi.dst v := fun u => Act.put_comm a v u h2
        constructor <;> (intro h; refine Rows.mono h (fun u w'' he => ?_); first | (simp only [e] at he; exact he) | (simp only [e]; exact he))
    | halt x w' => cases x <;> simp only [Oper.upon]; exact Iff.rfl
  · simp only [hw]
    rw [Act.put_comm a v undef h2]
    exact Iff.rfl

/-- a step of one kind or the other -/
def mixStep (P : Program) (ops : Array Oper) (C : World → Prop) (ns : List Nat) (i : Nat) (K : Act → World → Prop) (a : Act) (w : World) : Prop :=
  if ns.contains i = true then wpOp P ops NoExit i (fun a' w' => C w' ∧ K a' w') a w
  else ∃ o v, ops[i]? = some o ∧ ReadsIn P ops C o v a ∧ K (a.put o.dst v) w

theorem mixStep_move {i : Nat} {K : Act → World → Prop} {a : Act} {w : World} (h : ns.contains i = true) : mixStep P ops C ns i K a w ↔ wpOp P ops NoExit i (fun a' w' => C w' ∧ K a' w') a w := by
  unfold mixStep; rw [if_pos h]
theorem mixStep_read {i : Nat} {K : Act → World → Prop} {a : Act} {w : World} (h : ¬ ns.contains i = true) : mixStep P ops C ns i K a w ↔ ∃ o v, ops[i]? = some o ∧ ReadsIn P ops C o v a ∧ K (a.put o.dst v) w := by
  unfold mixStep; rw [if_neg h]

/-- the operations of these numbers, in this order -/
def wpMix (P : Program) (ops : Array Oper) (C : World → Prop) (ns : List Nat) (K : Act → World → Prop) : List Nat → Act → World → Prop
  | [], a, w => K a w
  | i :: l, a, w => mixStep P ops C ns i (wpMix P ops C ns K l) a w

/-- which pairs may change places -/
def pairOk (ops : Array Oper) (ns : List Nat) (j i : Nat) : Prop :=
  ∃ oj oi, ops[j]? = some oj ∧ ops[i]? = some oi ∧ oj.apart ops oi = true ∧ oi.apart ops oj = true ∧ ¬ (ns.contains i = true ∧ ns.contains j = true)

theorem wpMix_swap (hsel : ∀ (j : Nat) (o : Oper) cs b, ops[j]? = some o → o.op ≠ .select cs b) {i : Nat} {l2 : List Nat} {K : Act → World → Prop} :
    ∀ (l1 : List Nat) (a : Act) (w : World), (∀ j ∈ l1, pairOk ops ns j i) → C w → wpMix P ops C ns K (l1 ++ i :: l2) a w → mixStep P ops C ns i (wpMix P ops C ns K (l1 ++ l2)) a w := by
  intro l1
  induction l1 with
  | nil => intro a w _ _ h; exact h
  | cons j l1 ih =>
    intro a w hp hw h
    obtain ⟨oj, oi, hj, hi, ap1, ap2, hno⟩ := hp j (by simp)
    have ih := fun a w => ih a w (fun k hk => hp k (by simp [hk]))
    simp only [List.cons_append, wpMix] at h ⊢
    obtain ⟨q1, q2, q3⟩ := Oper.apart_spec ap1
    by_cases hm : ns.contains j = true
    · have h := (mixStep_move hm).1 h
      have hmi : ¬ ns.contains i = true := fun hx => hno ⟨hx, hm⟩
      have h' : wpOp P ops NoExit j (fun a' w' => C w' ∧ ∃ v, ReadsIn P ops C oi v a' ∧ wpMix P ops C ns K (l1 ++ l2) (a'.put oi.dst v) w') a w := by
        refine wpOp_mono (fun a' w' hh => ⟨hh.1, ?_⟩) h
        obtain ⟨o, v, ho, hy, hk⟩ := (mixStep_read hmi).1 (ih a' w' hh.1 hh.2)
        rw [hi] at ho
        cases ho
        exact ⟨v, hy, hk⟩
      obtain ⟨h1, a', w', hpu, hc, v, hy, _⟩ := wpOp_puts hj h'
      have hy0 := (ReadsIn.puts (fun cs b => hsel i oi cs b hi) ap2 hpu).1 hy
      refine (mixStep_read hmi).2 ⟨oi, v, hi, hy0, (mixStep_move hm).2 ?_⟩
      refine (wpOp_put_iff hj ap2 (fun cs b => hsel j oj cs b hj)).2 (wpOp_mono (fun a' w' hh => ?_) h1)
      obtain ⟨hpu, hc, u, hu, hk⟩ := hh
      have hu0 := (ReadsIn.puts (fun cs b => hsel i oi cs b hi) ap2 hpu).1 hu
      obtain rfl := ReadsIn.unique hw hy0 hu0
      exact ⟨hc, hk⟩
    · obtain ⟨o, v, ho, hy, hk⟩ := (mixStep_read hm).1 h
      rw [hj] at ho
      cases ho
      have h1 := ih _ w hw hk
      by_cases hmi : ns.contains i = true
      · refine (mixStep_move hmi).2 ?_
        have h2 := (wpOp_put_iff hi ap1 (fun cs b => hsel i oi cs b hi)).1 ((mixStep_move hmi).1 h1)
        refine wpOp_mono (fun a' w' hh => ?_) (wpOp_puts hi h2).1
        obtain ⟨hpu, hc, hk'⟩ := hh
        exact ⟨hc, (mixStep_read hm).2 ⟨oj, v, hj, (ReadsIn.puts (fun cs b => hsel j oj cs b hj) ap1 hpu).2 hy, hk'⟩⟩
      · obtain ⟨o, u, ho, hu, hk'⟩ := (mixStep_read hmi).1 h1
        rw [hi] at ho
        cases ho
        refine (mixStep_read hmi).2 ⟨oi, u, hi, (ReadsIn.puts (fun cs b => hsel i oi cs b hi) ap2 (Puts.put oj a v)).1 hu, ?_⟩
        refine (mixStep_read hm).2 ⟨oj, v, hj, (ReadsIn.puts (fun cs b => hsel j oj cs b hj) ap1 (Puts.put oi a u)).2 hy, ?_⟩
        rw [Act.put_comm a u v (fun d h5 h6 => q2 d h6 h5)]
        exact hk'

/-! ### which orders there are -/

/-- i waits, by way of others, for j -/
def Region.reaches (md : Region.Mode) (ops : Array Oper) : Nat → Nat → Nat → Bool
  | 0, _, _ => false
  | f + 1, i, j => match ops[i]? with
    | some o => o.after.any fun e => Region.binds md e && (e.on == j || Region.reaches md ops f e.on j)
    | none => false

/-- what is listed is listed with all that it waits for -/
structure MixInv (md : Region.Mode) (ops : Array Oper) (listed : Array Bool) : Prop where
  size : listed.size = ops.size
  closed : ∀ j oj, ops[j]? = some oj → listed.getD j false = true → ∀ e ∈ oj.after, Region.binds md e = true → listed.getD e.on false = true

theorem MixInv.set {i : Nat} {listed : Array Bool} (inv : MixInv md ops listed) (hi : i ∈ Region.ready md ops listed) : MixInv md ops (listed.setIfInBounds i true) := by
  obtain ⟨_, oi, hoi, hall⟩ := mem_ready.1 hi
  refine ⟨by simp [inv.size], fun j oj hj hl e he hb => ?_⟩
  by_cases hij : i = j
  · subst hij
    have : oj = oi := Option.some.inj (hj.symm.trans hoi)
    subst this
    exact getD_set_true (hall e he hb)
  · rw [getD_set_ne false hij] at hl
    exact getD_set_true (inv.closed j oj hj hl e he hb)
theorem MixInv.reach {listed : Array Bool} (inv : MixInv md ops listed) : ∀ (f k j : Nat), listed.getD k false = true → Region.reaches md ops f k j = true → listed.getD j false = true := by
  intro f
  induction f with
  | zero => intro k j _ h; cases h
  | succ f ih =>
    intro k j hk h
    unfold Region.reaches at h
    split at h
    · rename_i o ho
      obtain ⟨e, he, hb⟩ := Array.any_eq_true'.1 h
      simp only [Bool.and_eq_true, Bool.or_eq_true, beq_iff_eq] at hb
      have h1 := inv.closed k o ho hk e he hb.1
      rcases hb.2 with h2 | h2
      · rw [← h2]; exact h1
      · exact ih _ _ h1 h2
    · cases h
theorem MixInv.reach_ready {listed : Array Bool} (inv : MixInv md ops listed) {i : Nat} (hi : i ∈ Region.ready md ops listed) (f j : Nat) (h : Region.reaches md ops f i j = true) : listed.getD j false = true := by
  obtain ⟨_, oi, hoi, hall⟩ := mem_ready.1 hi
  cases f with
  | zero => cases h
  | succ f =>
    unfold Region.reaches at h
    rw [hoi] at h
    obtain ⟨e, he, hb⟩ := Array.any_eq_true'.1 h
    simp only [Bool.and_eq_true, Bool.or_eq_true, beq_iff_eq] at hb
    have h1 := hall e he hb.1
    rcases hb.2 with h2 | h2
    · rw [← h2]; exact h1
    · exact inv.reach _ _ _ h1 h2

/-- the look at the region: each waits for what stands ahead of it alone; a pair is in one order or apart -/
def Region.mixB (md : Region.Mode) (ops : Array Oper) (ns : List Nat) : Bool :=
  Region.noSelect ops && (List.range ops.size).all fun i => (List.range i).all (fun j => Region.reaches md ops ops.size i j ||
      (match ops[j]?, ops[i]? with | some oj, some oi => oj.apart ops oi && oi.apart ops oj && !(ns.contains i && ns.contains j) | _, _ => false)) &&
    (match ops[i]? with | some oi => oi.after.all fun e => !Region.binds md e || decide (e.on < i) | none => false)

theorem wpAny_of_mix {Q : Exit → Act → World → Prop} {K : Act → World → Prop} (hB : Region.mixB md ops ns = true) (hQ : ∀ a w, C w → K a w → Q .normal a w) :
    ∀ (l : List Nat) (listed : Array Bool) (a : Act) (w : World), l.Pairwise (· < ·) → (∀ i, i ∈ l ↔ i < ops.size ∧ listed.getD i true = false) → MixInv md ops listed → C w →
      wpMix P ops C ns K l a w → wpAny P md ops Q l.length listed a w := by
  simp only [Region.mixB, Bool.and_eq_true, List.all_eq_true, List.mem_range] at hB
  obtain ⟨hsel, hB⟩ := hB
  have hsel := Region.noSelect_spec hsel
  have main : ∀ (n : Nat) (l : List Nat), l.length = n → ∀ (listed : Array Bool) (a : Act) (w : World), l.Pairwise (· < ·) → (∀ i, i ∈ l ↔ i < ops.size ∧ listed.getD i true = false) → MixInv md ops listed → C w →
      wpMix P ops C ns K l a w → wpAny P md ops Q n listed a w := by
    intro n
    induction n with
    | zero =>
      intro l hl listed a w hs hm inv hw h
      obtain rfl : l = [] := List.eq_nil_of_length_eq_zero hl
      refine ⟨?_, hQ _ _ hw h⟩
      refine List.eq_nil_iff_forall_not_mem.2 fun i hi => ?_
      obtain ⟨h1, o, ho, _⟩ := mem_ready.1 hi
      have := (hm i).2 ⟨(Array.getElem?_eq_some_iff.1 ho).1, h1⟩
      cases this
    | succ n ih =>
      intro l hl listed a w hs hm inv hw h
      refine ⟨fun hr => ?_, fun i hi => ?_⟩
      · -- the first one is ready
        cases l with
        | nil => cases hl
        | cons i l =>
          exfalso
          have hi := (hm i).1 (by simp)
          have : i ∈ Region.ready md ops listed := by
            obtain ⟨o, ho⟩ : ∃ o, ops[i]? = some o := ⟨ops[i], by simp [hi.1]⟩
            refine mem_ready.2 ⟨hi.2, o, ho, fun e he hb => ?_⟩
            have h1 := (hB i hi.1).2
            rw [ho] at h1
            have h2 := Array.all_eq_true'.1 h1 e he
            simp only [hb, Bool.not_true, Bool.false_or, decide_eq_true_eq] at h2
            rcases hc : listed.getD e.on false with _ | _
            · exfalso
              have h3 := (hm e.on).2 ⟨by omega, getD_in (by rw [inv.size]; omega) hc⟩
              have h4 := List.pairwise_cons.1 hs
              rcases List.mem_cons.1 h3 with h5 | h5
              · omega
              · have := h4.1 _ h5
                omega
            · rfl
          rw [hr] at this
          cases this
      · obtain ⟨hiun, oi, hoi, _⟩ := mem_ready.1 hi
        have hil : i < ops.size := (Array.getElem?_eq_some_iff.1 hoi).1
        obtain ⟨l1, l2, rfl⟩ := List.append_of_mem ((hm i).2 ⟨hil, hiun⟩)
        obtain ⟨p1, p2, p3⟩ := List.pairwise_append.1 hs
        have hpair : ∀ j ∈ l1, pairOk ops ns j i := by
          intro j hj
          have hji : j < i := p3 j hj i (by simp)
          have hjun := ((hm j).1 (by simp [hj])).2
          rcases Bool.or_eq_true _ _ ▸ (hB i hil).1 j hji with h1 | h1
          · have := inv.reach_ready hi _ _ h1
            rw [getD_both hjun] at this
            cases this
          · obtain ⟨oj, hoj⟩ : ∃ o, ops[j]? = some o := ⟨ops[j], by simp [Nat.lt_trans hji hil]⟩
            rw [hoj, hoi] at h1
            simp only [Bool.and_eq_true, Bool.not_eq_true', Bool.and_eq_false_iff] at h1
            refine ⟨oj, oi, hoj, hoi, h1.1.1, h1.1.2, fun hx => ?_⟩
            rcases h1.2 with h2 | h2
            · rw [hx.1] at h2; cases h2
            · rw [hx.2] at h2; cases h2
        have hst := wpMix_swap hsel l1 a w hpair hw h
        have hrest : ∀ a' w', C w' → wpMix P ops C ns K (l1 ++ l2) a' w' → wpAny P md ops Q n (listed.setIfInBounds i true) a' w' := by
          intro a' w' hc hk
          refine ih (l1 ++ l2) (by simp at hl ⊢; omega) _ a' w' ?_ (fun j => ?_) (inv.set hi) hc hk
          · exact List.pairwise_append.2 ⟨p1, (List.pairwise_cons.1 p2).2, fun x hx y hy => p3 x hx y (by simp [hy])⟩
          · have hm' := hm j
            by_cases hji : i = j
            · subst hji
              constructor
              · intro hx
                rcases List.mem_append.1 hx with hx | hx
                · have := p3 i hx i (by simp); omega
                · have := (List.pairwise_cons.1 p2).1 i hx; omega
              · rintro ⟨_, hx⟩
                rw [Array.getD_eq_getD_getElem?, Array.getElem?_setIfInBounds_self_of_lt (by rw [inv.size]; exact hil)] at hx
                cases hx
            · rw [getD_set_ne true hji]
              constructor
              · intro hx
                refine hm'.1 ?_
                rcases List.mem_append.1 hx with hx | hx
                · simp [hx]
                · simp [hx]
              · intro hx
                rcases List.mem_append.1 (hm'.2 hx) with hx | hx
                · simp [hx]
                · rcases List.mem_cons.1 hx with hx | hx
                  · exact absurd hx.symm hji
                  · simp [hx]
        by_cases hmi : ns.contains i = true
        · have h1 := wpOp_mono (fun a' w' hh => hrest a' w' hh.1 hh.2) ((mixStep_move hmi).1 hst)
          -- a step that cannot leave, under any exit
          unfold wpOp at h1 ⊢
          simp only [hoi] at h1 ⊢
          by_cases hwt : Region.wanted oi (yielded ops a.tmps) = true
          · simp only [hwt, if_true, not_letsOut_noExit, and_false, or_false] at h1 ⊢
            refine .inl ?_
            unfold Oper.wp at *
            generalize (execOp a.eval oi).run P w = r at *
            cases r with
            | ok n w' =>
              cases n <;> simp only [Oper.upon] at h1 ⊢
              case enter f args =>
                refine Calls.mono h1 (fun e w'' he => ?_)
                cases e with
                | returned v => exact he
                | panicked c => exact False.elim he
                | outgrown => exact absurd he not_letsOut_noExit
              all_goals exact h1
            | halt x w' => cases x <;> simp only [Oper.upon] at h1; exact False.elim h1
          · simp only [hwt] at h1 ⊢
            exact h1
        · obtain ⟨o, v, ho, hy, hk⟩ := (mixStep_read hmi).1 hst
          rw [hoi] at ho
          cases ho
          have hk := hrest _ w hw hk
          unfold wpOp
          simp only [hoi]
          rcases hy with ⟨h1, h2⟩ | ⟨h1, rfl⟩
          · simp only [h1, if_true]
            refine .inl ?_
            unfold Oper.wp
            rcases h2 w hw with h3 | ⟨h3, e3⟩
            · rw [h3]; exact hk
            · rw [h3]; subst e3; exact hk
          · simp only [h1, Bool.false_eq_true, if_false]
            exact hk
  intro l listed a w
  exact main l.length l rfl listed a w

/-! ### the walk, in the order of the text -/

/-- an operation that makes no call -/
def Oper.callsNot (o : Oper) : Bool := match o.op with
  | .call c => (match c.callee with | .builtin .len => true | .builtin .cap => true | .builtin .max => true | .builtin .min => true | _ => false)
  | _ => true

section
variable {f : FuncId} {args : Array Value} {w w' : World}
theorem not_enter_bind {α : Type} {s : Sem α} {g : α → Sem Next} (h : ∀ v w1, (g v).run P w1 ≠ .ok (.enter f args) w') : (s >>= g).run P w ≠ .ok (.enter f args) w' := by
  intro hs
  simp only [Sem.run_bind] at hs
  cases hr : s.run P w with
  | ok v w1 => rw [hr] at hs; exact h v w1 hs
  | halt x w1 => rw [hr] at hs; cases hs
theorem not_enter_pure {n : Next} (h : ∀ f args, n ≠ .enter f args) : (pure n : Sem Next).run P w ≠ .ok (.enter f args) w' := by
  intro hs
  cases hs
  exact h _ _ rfl
end

theorem Oper.not_enter {o : Oper} (h : o.callsNot = true) (hs : ∀ cs b, o.op ≠ .select cs b) {ρ : Operand → Value} {w w' : World} {f : FuncId} {args : Array Value} : (execOp ρ o).run P w ≠ .ok (.enter f args) w' := by
  obtain ⟨dst, op, type, pos, after, guard⟩ := o
  cases op <;> simp only [execOp]
  case call c =>
    obtain ⟨callee, cargs, cty⟩ := c
    unfold Oper.callsNot at h
    simp only at h
    split at h
    all_goals first
      | (cases h; done)
      | skip
    all_goals
      intro hh
      simp only [resolve, Sem.run_bind, Sem.run_pure, invoke, builtin, Result.andThen] at hh
      generalize Sem.run P (_ : Sem Value) w = r at hh
      cases r <;> cases hh
  case select cs b => exact absurd rfl (hs cs b)
  case nilCheck x =>
    split
    all_goals first
      | exact not_enter_pure (fun _ _ h => by cases h)
      | (intro hx; cases hx; done)
      | skip
    split
    all_goals first
      | exact not_enter_pure (fun _ _ h => by cases h)
      | (intro hx; cases hx; done)
      | skip
    refine not_enter_bind (fun _ _ => not_enter_bind (fun r _ => ?_))
    split
    · exact not_enter_bind (fun _ _ => not_enter_pure (fun _ _ h => by cases h))
    · exact not_enter_pure (fun _ _ h => by cases h)
  case recv c ch ok =>
    refine not_enter_bind (fun v w1 => ?_)
    split
    · exact not_enter_bind (fun _ _ => not_enter_pure (fun _ _ h => by cases h))
    · intro hx; cases hx
  all_goals first
    | exact not_enter_pure (fun _ _ h => by cases h)
    | exact not_enter_bind (fun _ _ => not_enter_pure (fun _ _ h => by cases h))

/-- what the quiet walk shows of an operation that makes no call -/
theorem readsIn_of_quiet {o : Oper} (hcn : o.callsNot = true) (hs : ∀ cs b, o.op ≠ .select cs b) {a : Act} {K : Act → Prop}
    (h : if Region.wanted o (yielded ops a.tmps) then o.quiet P a C K else K (a.put o.dst undef)) : ∃ v, ReadsIn P ops C o v a ∧ K (a.put o.dst v) := by
  by_cases hw : Region.wanted o (yielded ops a.tmps) = true
  · simp only [hw, if_true] at h
    obtain ⟨v, h1, h2⟩ := h
    refine ⟨v, .inl ⟨hw, fun w hc => ?_⟩, h2⟩
    have h3 := h1 w hc
    unfold Oper.quietAt at h3
    generalize hr : (execOp a.eval o).run P w = r at *
    cases r with
    | ok n w' =>
      cases n <;> simp only [Oper.quietUpon] at h3
      case value u => obtain ⟨e1, e2⟩ := h3; rw [e1, e2]; exact .inl rfl
      case skip => obtain ⟨e1, e2⟩ := h3; rw [e1]; exact .inr ⟨rfl, e2⟩
      case enter f args => exact absurd hr (Oper.not_enter hcn hs)
    | halt x w' => simp only [Oper.quietUpon] at h3
  · simp only [hw] at h
    exact ⟨undef, .inr ⟨by simpa using hw, rfl⟩, h⟩

theorem wpMix_reads (hsel : ∀ (j : Nat) (o : Oper) cs b, ops[j]? = some o → o.op ≠ .select cs b) {K : Act → World → Prop} {w : World} {rest : List Nat} :
    ∀ (l : List Oper) (k : Nat) (a : Act), (∀ j, j < l.length → l[j]? = ops[k + j]?) → (∀ o ∈ l, o.callsNot = true) → (∀ j, j < l.length → ns.contains (k + j) = false) →
      wpQuiet P ops C (fun a' => wpMix P ops C ns K rest a' w) l a → wpMix P ops C ns K (List.range' k l.length ++ rest) a w := by
  intro l
  induction l with
  | nil => intro k a _ _ _ h; exact h
  | cons o l ih =>
    intro k a hl hcn hns h
    have h0 : ops[k]? = some o := by simpa using (hl 0 (by simp)).symm
    have hk : ¬ ns.contains k = true := by rw [show ns.contains k = false by simpa using hns 0 (by simp)]; exact Bool.false_ne_true
    obtain ⟨v, hy, hK⟩ := readsIn_of_quiet (hcn o (by simp)) (fun cs b => hsel k o cs b h0) h
    simp only [List.length_cons, List.range'_succ, List.cons_append, wpMix]
    refine (mixStep_read hk).2 ⟨o, v, h0, hy, ih (k + 1) _ (fun j hj => ?_) (fun o ho => hcn o (by simp [ho])) (fun j hj => ?_) hK⟩
    · have := hl (j + 1) (by simp; omega)
      simpa [Nat.add_assoc, Nat.add_comm 1 j] using this
    · have := hns (j + 1) (by simp; omega)
      rw [show k + 1 + j = k + (j + 1) by omega]; exact this

theorem wpMix_move {K : Act → World → Prop} {a : Act} {w : World} {rest : List Nat} {k : Nat} {o : Oper} (h0 : ops[k]? = some o) (hns : ns.contains k = true)
    (h : wpList P ops (Strict fun a' w' => C w' ∧ wpMix P ops C ns K rest a' w') [o] a w) : wpMix P ops C ns K (k :: rest) a w := by
  simp only [wpMix]
  refine (mixStep_move hns).2 ?_
  simp only [wpList, not_letsOut_strict, and_false, or_false] at h
  unfold wpOp
  simp only [h0]
  by_cases hw : Region.wanted o (yielded ops a.tmps) = true
  · simp only [hw, if_true] at h ⊢
    refine .inl ?_
    unfold Oper.wp at *
    generalize (execOp a.eval o).run P w = r at *
    cases r with
    | ok n w' =>
      cases n <;> simp only [Oper.upon] at h ⊢
      case enter f args =>
        refine Calls.mono h (fun e w'' he => ?_)
        cases e with
        | returned v => exact he
        | panicked c => exact False.elim he
        | outgrown => exact absurd he (not_letsOut_strict _)
      all_goals exact h
    | halt x w' => cases x <;> simp only [Oper.upon] at h; exact False.elim h
  · simp only [hw] at h ⊢
    exact h

/-- the text cut at its steps: gs says how many reads stand ahead of each -/
def cutSteps : List Nat → List Oper → List (List Oper × Oper) × List Oper
  | [], l => ([], l)
  | g :: gs, l => match l.drop g with
    | o :: rest => ((l.take g, o) :: (cutSteps gs rest).1, (cutSteps gs rest).2)
    | [] => ([], l)
def stepsAt : Nat → List (List Oper × Oper) → List Nat
  | _, [] => []
  | k, (l, _) :: ss => (k + l.length) :: stepsAt (k + l.length + 1) ss

def wpSteps (P : Program) (ops : Array Oper) (C : World → Prop) (K : Act → World → Prop) (last : List Oper) : List (List Oper × Oper) → Act → World → Prop
  | [], a, w => wpQuiet P ops C (fun a' => K a' w) last a
  | (l, o) :: ss, a, w => wpQuiet P ops C (fun a' => wpList P ops (Strict fun a'' w'' => C w'' ∧ wpSteps P ops C K last ss a'' w'') [o] a' w) l a

def flatSteps : List (List Oper × Oper) → List Oper → List Oper
  | [], last => last
  | (l, o) :: ss, last => l ++ o :: flatSteps ss last

theorem stepsAt_ge : ∀ (ss : List (List Oper × Oper)) (k i : Nat), i ∈ stepsAt k ss → k ≤ i := by
  intro ss
  induction ss with
  | nil => intro k i h; cases h
  | cons s ss ih =>
    intro k i h
    obtain ⟨l, o⟩ := s
    rcases List.mem_cons.1 h with h | h
    · omega
    · have := ih _ _ h; omega

theorem wpMix_of_steps (hsel : ∀ (j : Nat) (o : Oper) cs b, ops[j]? = some o → o.op ≠ .select cs b) {K : Act → World → Prop} {last : List Oper} :
    ∀ (ss : List (List Oper × Oper)) (k : Nat) (a : Act) (w : World), (∀ j, j < (flatSteps ss last).length → (flatSteps ss last)[j]? = ops[k + j]?) →
      (∀ i, k ≤ i → (ns.contains i = true ↔ i ∈ stepsAt k ss)) → (∀ s ∈ ss, ∀ o ∈ s.1, o.callsNot = true) → (∀ o ∈ last, o.callsNot = true) →
      wpSteps P ops C K last ss a w → wpMix P ops C ns K (List.range' k (flatSteps ss last).length) a w := by
  intro ss
  induction ss with
  | nil =>
    intro k a w hl hns _ hcl h
    have := wpMix_reads (K := K) (ns := ns) (rest := []) hsel last k a hl hcl (fun j _ => by
      rcases hc : ns.contains (k + j) with _ | _
      · rfl
      · have := (hns (k + j) (by omega)).1 hc
        cases this) h
    rw [List.append_nil] at this
    exact this
  | cons s ss ih =>
    intro k a w hl hns hcs hcl h
    obtain ⟨l, o⟩ := s
    have hlen : (flatSteps ((l, o) :: ss) last).length = l.length + (1 + (flatSteps ss last).length) := by simp [flatSteps]; omega
    have hl1 : ∀ j, j < l.length → l[j]? = ops[k + j]? := fun j hj => by
      rw [← hl j (by omega)]; simp only [flatSteps]; rw [List.getElem?_append_left hj]
    have ho : ops[k + l.length]? = some o := by
      rw [← hl l.length (by omega)]; simp [flatSteps]
    have hl2 : ∀ j, j < (flatSteps ss last).length → (flatSteps ss last)[j]? = ops[k + l.length + 1 + j]? := fun j hj => by
      have := hl (l.length + 1 + j) (by omega)
      rw [show k + l.length + 1 + j = k + (l.length + 1 + j) by omega, ← this]
      simp only [flatSteps]
      rw [List.getElem?_append_right (by omega), show l.length + 1 + j - l.length = j + 1 by omega, List.getElem?_cons_succ]
    rw [hlen, ← List.range'_append_1, show 1 + (flatSteps ss last).length = (flatSteps ss last).length + 1 by omega, List.range'_succ]
    refine wpMix_reads hsel l k a hl1 (hcs (l, o) (by simp)) (fun j hj => ?_) ?_
    · rcases hc : ns.contains (k + j) with _ | _
      · rfl
      · rcases List.mem_cons.1 ((hns (k + j) (by omega)).1 hc) with h1 | h1
        · omega
        · have := stepsAt_ge _ _ _ h1; omega
    · have hmono : ∀ (l : List Oper) (a : Act) {Q Q' : Act → Prop}, (∀ a, Q a → Q' a) → wpQuiet P ops C Q l a → wpQuiet P ops C Q' l a := by
        intro l
        induction l with
        | nil => intro a Q Q' hq h; exact hq _ h
        | cons x l ih' =>
          intro a Q Q' hq h
          simp only [wpQuiet] at h ⊢
          split
          · rename_i hw
            rw [if_pos hw] at h
            exact Oper.quiet_mono (fun a' ha => ih' a' hq ha) h
          · rename_i hw
            rw [if_neg hw] at h
            exact ih' _ hq h
      refine hmono l a (fun a' ha => ?_) h
      refine wpMix_move ho ((hns _ (by omega)).2 (by simp [stepsAt])) ?_
      have hst : ∀ a'' w'', (C w'' ∧ wpSteps P ops C K last ss a'' w'') → (C w'' ∧ wpMix P ops C ns K (List.range' (k + l.length + 1) (flatSteps ss last).length) a'' w'') := fun a'' w'' hh =>
        ⟨hh.1, ih (k + l.length + 1) a'' w'' hl2 (fun i hi => by
          rw [hns i (by omega)]
          constructor
          · intro h1
            rcases List.mem_cons.1 h1 with h1 | h1
            · omega
            · exact h1
          · intro h1; exact List.mem_cons_of_mem _ h1) (fun s hs => hcs s (by simp [hs])) hcl hh.2⟩
      simp only [wpList, not_letsOut_strict, and_false, or_false] at ha ⊢
      split
      · rename_i hw
        rw [if_pos hw] at ha
        unfold Oper.wp at *
        generalize (execOp a'.eval o).run P w = r at *
        cases r with
        | ok n w' =>
          cases n <;> simp only [Oper.upon, Strict] at ha ⊢
          case enter f args =>
            refine Calls.mono ha (fun e w'' he => ?_)
            cases e with
            | returned v => exact hst _ _ he
            | panicked c => exact False.elim he
            | outgrown => exact absurd he (not_letsOut_strict _)
          case row row args => exact Rows.mono ha (fun v w'' he => hst _ _ he)
          all_goals first | exact hst _ _ ha | exact ha
        | halt x w' => cases x <;> simp only [Oper.upon, Strict] at ha
      · rename_i hw
        rw [if_neg hw] at ha
        exact hst _ _ ha

/-- the look at the cut -/
def stepsB (ss : List (List Oper × Oper)) (last : List Oper) : Bool := (ss.all fun s => s.1.all Oper.callsNot) && last.all Oper.callsNot

theorem wp_region_steps {id : Nat} {Q : Exit → Act → World → Prop} {a : Act} {w : World} {l : List Oper} (C : World → Prop) (gs : List Nat) (hm : P.follows .mixedOrders = true)
    (hB : (Region.mixB .any l.toArray (stepsAt 0 (cutSteps gs l).1) && stepsB (cutSteps gs l).1 (cutSteps gs l).2 && decide ((flatSteps (cutSteps gs l).1 (cutSteps gs l).2).length = l.length)) = true)
    (hc : C w.drew) (h : wpSteps P l.toArray C (fun a' w' => Q .normal a' w') (cutSteps gs l).2 (cutSteps gs l).1 a w.drew) : (Code.region id l.toArray true).wp P Q a w := by
  simp only [Bool.and_eq_true, decide_eq_true_eq] at hB
  obtain ⟨⟨hB, hS⟩, hL⟩ := hB
  have hflat : ∀ (gs : List Nat) (l : List Oper), flatSteps (cutSteps gs l).1 (cutSteps gs l).2 = l := by
    intro gs
    induction gs with
    | nil => intro l; rfl
    | cons g gs ih =>
      intro l
      simp only [cutSteps]
      cases hd : l.drop g with
      | nil => rfl
      | cons o rest =>
        simp only [flatSteps, ih rest]
        rw [← hd]
        exact List.take_append_drop g l
  have hsel := hB
  simp only [Region.mixB, Bool.and_eq_true] at hsel
  have hsel := Region.noSelect_spec hsel.1
  simp only [stepsB, Bool.and_eq_true, List.all_eq_true] at hS
  refine wp_region_any hm ?_
  have h1 := wpMix_of_steps (ns := stepsAt 0 (cutSteps gs l).1) hsel (cutSteps gs l).1 0 a w.drew (fun j hj => by rw [hflat gs l]; simp) (fun i _ => by simp) (fun s hs o ho => hS.1 s hs o ho) hS.2 h
  have h2 := wpAny_of_mix (md := .any) (Q := Q) hB (fun a w _ hk => hk) _ (Array.replicate l.toArray.size false) a w.drew List.pairwise_lt_range' (fun i => by
      rw [hL]
      simp only [List.mem_range', List.size_toArray]
      constructor
      · rintro ⟨j, hj, rfl⟩
        refine ⟨by omega, getD_in (by simp; omega) (getD_replicate_false _ _)⟩
      · rintro ⟨hi, _⟩
        exact ⟨i, hi, by omega⟩) ⟨by simp, fun j oj _ hl => (by rw [getD_replicate_false] at hl; cases hl)⟩ hc h1
  rw [List.length_range', hL] at h2
  simpa using h2
end

/-- a world that keeps all that w had -/
structure Later (w : World) where
  W : World
  hb : Below w.heap.size w W
instance (w : World) : Nonempty (Later w) := ⟨⟨w, Below.refl _ _⟩⟩
theorem Later.cell {w : World} (g : Later w) {b o : Nat} {v : Value} (h : w.cell? ⟨b, o, none⟩ = some v) (hlt : b < w.heap.size) : g.W.cell? ⟨b, o, none⟩ = some v := (g.hb.cell (p := ⟨b, o, none⟩) hlt).trans h
theorem later_in {w W : World} (h : Below w.heap.size w W) : ∃ g : Later w, W = g.W := ⟨⟨W, h⟩, rfl⟩
end Go
namespace Go
open Go.RowKit

/-- worlds that are w but for what F tells -/
structure LaterF (F : Nat → Prop) (w : World) where
  W : World
  on : Only F w W
instance (F : Nat → Prop) (w : World) : Nonempty (LaterF F w) := ⟨⟨w, Only.refl _ _⟩⟩
theorem LaterF.cell {F : Nat → Prop} {w : World} (g : LaterF F w) {b o : Nat} {v : Value} (h : w.cell? ⟨b, o, none⟩ = some v) (hlt : b < w.heap.size) (hn : ¬ F b) : g.W.cell? ⟨b, o, none⟩ = some v := (g.on.cellAt (p := ⟨b, o, none⟩) hlt hn).trans h
theorem laterF_in {F : Nat → Prop} {w W : World} (h : Only F w W) : ∃ g : LaterF F w, W = g.W := ⟨⟨W, h⟩, rfl⟩
theorem LaterF.frozen {F : Nat → Prop} {w : World} (g : LaterF F w) {b o : Nat} {x : Bool} (h : w.frozen? ⟨b, o, none⟩ = x) (hlt : b < w.heap.size) (hn : ¬ F b) : g.W.frozen? ⟨b, o, none⟩ = x :=
  (World.frozen?_of_block (g.on.block b hlt hn)).trans h
theorem Below.only0 {w w' : World} (h : Below w.heap.size w w') : Only (fun _ => False) w w' := ⟨h.os, h.tape, h.output, h.size, fun k hk _ => h.block k hk⟩
end Go
namespace Go
open Go.RowKit

/-! lists of cells, k for each entry -/
theorem flat_len {α β : Type} {f : α → List β} {k : Nat} (hk : ∀ x, (f x).length = k) (l : List α) : (l.flatMap f).length = l.length * k := by
  induction l with
  | nil => simp
  | cons x l ih => simp [List.flatMap_cons, hk, ih, Nat.add_mul]; omega
theorem flat_get {α β : Type} {f : α → List β} {k : Nat} (hk : ∀ x, (f x).length = k) : ∀ (l : List α) (i j : Nat) (hi : i < l.length), j < k → (l.flatMap f)[i * k + j]? = (f l[i])[j]? := by
  intro l
  induction l with
  | nil => intro i j hi; simp at hi
  | cons x l ih =>
    intro i j hi hj
    rw [List.flatMap_cons]
    cases i with
    | zero => rw [List.getElem?_append_left (by simp [hk]; omega)]; simp
    | succ i =>
      rw [List.getElem?_append_right (by simp [hk, Nat.add_mul]; omega), hk, show (i + 1) * k + j - k = i * k + j by rw [Nat.add_mul]; omega, ih i j (by simpa using hi) hj]
      simp
theorem flat_set {α β : Type} {f : α → List β} {k : Nat} (hk : ∀ x, (f x).length = k) (y : α) (u : β) : ∀ (l : List α) (i j : Nat) (hi : i < l.length), j < k → f y = (f l[i]).set j u → (l.flatMap f).set (i * k + j) u = (l.set i y).flatMap f := by
  intro l
  induction l with
  | nil => intro i j hi; simp at hi
  | cons x l ih =>
    intro i j hi hj hy
    rw [List.flatMap_cons]
    cases i with
    | zero =>
      rw [List.set_append_left _ _ (by simp [hk]; omega)]
      simp only [List.getElem_cons_zero, Nat.zero_mul, Nat.zero_add, List.set_cons_zero, List.flatMap_cons] at hy ⊢
      rw [hy]
    | succ i =>
      rw [List.set_append_right _ _ (by simp [hk, Nat.add_mul]; omega), hk, show (i + 1) * k + j - k = i * k + j by rw [Nat.add_mul]; omega, ih i j (by simpa using hi) hj (by simpa using hy)]
      simp

/-- a call -/
structure Cal where
  th : Int
  op : Int
  arg : Int
  data : Int
  beg : Int
  en : Int
  pt : Int
  ak : Int
  av : Int
deriving DecidableEq, Inhabited
def Cal.cells (c : Cal) : List Value := [.int .i64 c.th, .int .i64 c.op, .int .i64 c.arg, .int .i64 c.data, .int .i64 c.beg, .int .i64 c.en, .int .i64 c.pt, .int .i64 c.ak, .int .i64 c.av]
def cals (l : List Cal) : List Value := l.flatMap Cal.cells
theorem cals_snoc (l : List Cal) (x : Cal) : cals (l ++ [x]) = cals l ++ x.cells := by simp [cals]
theorem cals_len (l : List Cal) : (cals l).length = l.length * 9 := flat_len (f := Cal.cells) (k := 9) (fun _ => rfl) l
theorem cals_get (l : List Cal) (i j : Nat) (hi : i < l.length) (hj : j < 9) : (cals l)[i * 9 + j]? = l[i].cells[j]? := flat_get (f := Cal.cells) (k := 9) (fun _ => rfl) l i j hi hj
theorem cals_set (l : List Cal) (i j : Nat) (hi : i < l.length) (hj : j < 9) (y : Cal) (u : Value) (h : y.cells = l[i].cells.set j u) : (cals l).set (i * 9 + j) u = cals (l.set i y) := flat_set (f := Cal.cells) (k := 9) (fun _ => rfl) y u l i j hi hj h
theorem cals_one (l : List Cal) : ∀ u ∈ cals l, u.oneCell' = true := by
  intro u hu
  simp only [cals, List.mem_flatMap, Cal.cells] at hu
  obtain ⟨x, _, hx⟩ := hu
  simp at hx
  rcases hx with rfl | rfl | rfl | rfl | rfl | rfl | rfl | rfl | rfl <;> rfl

/-- a shift -/
structure Shf where
  mv : Int
  th : Int
  sl : Int
  fr : Int
  tgt : Int
deriving DecidableEq, Inhabited
def Shf.cells (c : Shf) : List Value := [.int .i64 c.mv, .int .i64 c.th, .int .i64 c.sl, .int .i64 c.fr, .int .i64 c.tgt]
def shfs (l : List Shf) : List Value := l.flatMap Shf.cells
theorem shfs_snoc (l : List Shf) (x : Shf) : shfs (l ++ [x]) = shfs l ++ x.cells := by simp [shfs]
theorem shfs_len (l : List Shf) : (shfs l).length = l.length * 5 := flat_len (f := Shf.cells) (k := 5) (fun _ => rfl) l
theorem shfs_one (l : List Shf) : ∀ u ∈ shfs l, u.oneCell' = true := by
  intro u hu
  simp only [shfs, List.mem_flatMap, Shf.cells] at hu
  obtain ⟨x, _, hx⟩ := hu
  simp at hx
  rcases hx with rfl | rfl | rfl | rfl | rfl <;> rfl

/-- a seat's cells -/
structure Seat where
  task : Value
  ready : Bool
  last : Int
  ak : Int
  av : Int
def Seat.cells (s : Seat) : List Value := [s.task, .bool s.ready, .int .i64 s.last, .int .i64 s.ak, .int .i64 s.av]
def seatC (l : List Seat) : List Value := l.flatMap Seat.cells
theorem seatC_snoc (l : List Seat) (x : Seat) : seatC (l ++ [x]) = seatC l ++ x.cells := by simp [seatC]
theorem seatC_len (l : List Seat) : (seatC l).length = l.length * 5 := flat_len (f := Seat.cells) (k := 5) (fun _ => rfl) l
theorem seatC_get (l : List Seat) (i j : Nat) (hi : i < l.length) (hj : j < 5) : (seatC l)[i * 5 + j]? = l[i].cells[j]? := flat_get (f := Seat.cells) (k := 5) (fun _ => rfl) l i j hi hj
theorem seatC_set (l : List Seat) (i j : Nat) (hi : i < l.length) (hj : j < 5) (y : Seat) (u : Value) (h : y.cells = l[i].cells.set j u) : (seatC l).set (i * 5 + j) u = seatC (l.set i y) := flat_set (f := Seat.cells) (k := 5) (fun _ => rfl) y u l i j hi hj h

/-- what lies before a task -/
structure DeskS where
  mem : MemS
  shifts : List Shf
  used : Bool
  th : Int
  now : Int
  pt : Int
  ak : Int
  av : Int

structure MachS where
  d : DeskS
  on : Option (Nat × Nat)
  seats : List Seat
  moves : Int
  calls : List Cal

def MachS.seatsNow (st : MachS) : List Seat := match st.on with
  | some (_, si) => st.seats.modify si fun s => { s with ak := st.d.ak, av := st.d.av }
  | none => st.seats
def MachS.callsNow (st : MachS) : List Cal := match st.on with
  | some (ci, _) => st.calls.modify ci fun c => { c with pt := st.d.pt }
  | none => st.calls
theorem MachS.seatsNow_len (st : MachS) : st.seatsNow.length = st.seats.length := by unfold MachS.seatsNow; split <;> simp
theorem MachS.callsNow_len (st : MachS) : st.callsNow.length = st.calls.length := by unfold MachS.callsNow; split <;> simp

/-- the machine's slots, and the owner of each block (0: the machine's own, 1: its memory, 2: its shifts, 3: its seats, 4: its calls) -/
structure MachV where
  mb : Nat
  mv : MemV
  vsh : Value
  vse : Value
  vca : Value
  kit : Value
  col : Nat → Nat

def ptrIn (v : Value) (o : Nat) : Value := match v.rowBlock with
  | some b => .pointer (some ⟨b, o, none⟩)
  | none => .pointer none
def MachS.callC (st : MachS) (v : MachV) : Value := match st.on with
  | some (ci, _) => ptrIn v.vca (ci * 9)
  | none => .pointer none
def MachS.toldC (st : MachS) (v : MachV) : Value := match st.on with
  | some (_, si) => ptrIn v.vse (si * 5 + 3)
  | none => .pointer none

def MachV.own (v : MachV) (xb k : Nat) : Prop := k = xb ∨ v.mv.own v.mb k ∨ v.vsh.rowBlock = some k ∨ v.vse.rowBlock = some k ∨ v.vca.rowBlock = some k

structure MachAt (w : World) (base xb : Nat) (st : MachS) (v : MachV) : Prop where
  blk : w.heap[xb]? = some (.cells #[.pointer (some ⟨v.mb, 0, none⟩), .int .i64 st.d.th, .int .i64 st.d.now, st.callC v, st.toldC v, .bool st.d.used, v.vsh, v.kit, v.vse, .int .i64 st.moves, v.vca] 120)
  ge : base ≤ xb
  mem : MemAt w base v.mb st.d.mem v.mv
  rsh : w.RowV base 68 5 v.vsh st.d.shifts.length (shfs st.d.shifts)
  rse : w.RowV base 125 5 v.vse st.seats.length (seatC st.seatsNow)
  rca : w.RowV base 50 9 v.vca st.calls.length (cals st.callsNow)
  cx : v.col xb = 0
  cm : ∀ k, v.mv.own v.mb k → v.col k = 1
  cs : ∀ k, v.vsh.rowBlock = some k → v.col k = 2
  ce : ∀ k, v.vse.rowBlock = some k → v.col k = 3
  cc : ∀ k, v.vca.rowBlock = some k → v.col k = 4

section
variable {w w' : World} {base xb : Nat} {st : MachS} {v : MachV}
theorem MachAt.lt (h : MachAt w base xb st v) : ∀ k, v.own xb k → base ≤ k ∧ k < w.heap.size := by
  rintro k (rfl | h1 | h1 | h1 | h1)
  · exact ⟨h.ge, (Array.getElem?_eq_some_iff.1 h.blk).1⟩
  · exact h.mem.lt k h1
  · exact h.rsh.lt k h1
  · exact h.rse.lt k h1
  · exact h.rca.lt k h1
theorem MachAt.of_block (h : MachAt w base xb st v) (hb : ∀ k, v.own xb k → w'.heap[k]? = w.heap[k]?) : MachAt w' base xb st v :=
  ⟨by rw [hb xb (.inl rfl)]; exact h.blk, h.ge, h.mem.of_block fun k hk => hb k (.inr (.inl hk)), h.rsh.of_block fun k hk => hb k (.inr (.inr (.inl hk))),
    h.rse.of_block fun k hk => hb k (.inr (.inr (.inr (.inl hk)))), h.rca.of_block fun k hk => hb k (.inr (.inr (.inr (.inr hk)))), h.cx, h.cm, h.cs, h.ce, h.cc⟩
theorem MachAt.more (h : MachAt w base xb st v) (os : Array Obj) (d : Nat) : MachAt (w.more os d) base xb st v := h.of_block fun k hk => World.heap_more _ _ _ _ (h.lt k hk).2
theorem MachAt.alloc (h : MachAt w base xb st v) (o : Obj) : MachAt (w.alloc o) base xb st v := h.of_block fun k hk => Below.heap_alloc _ _ _ (h.lt k hk).2
theorem MachAt.drew (h : MachAt w base xb st v) : MachAt w.drew base xb st v := h.of_block fun _ _ => rfl
theorem MachAt.set_other (h : MachAt w base xb st v) {p : Addr} (hp : ¬ v.own xb p.block) (u : Value) : MachAt (w.setCell p u) base xb st v :=
  h.of_block fun _k hk => Below.heap_setCell _ _ _ _ (fun e => hp (e ▸ hk))
theorem MachAt.only {F : Nat → Prop} (h : MachAt w base xb st v) (ho : Only F w w') (hF : ∀ k, v.own xb k → ¬ F k) : MachAt w' base xb st v :=
  h.of_block fun k hk => ho.block k (h.lt k hk).2 (hF k hk)
theorem MachAt.base_mono {b' : Nat} (h : MachAt w base xb st v) (hb : b' ≤ base) : MachAt w b' xb st v :=
  ⟨h.blk, Nat.le_trans hb h.ge, h.mem.base_mono hb, h.rsh.base_mono hb, h.rse.base_mono hb, h.rca.base_mono hb, h.cx, h.cm, h.cs, h.ce, h.cc⟩
theorem MachAt.base_le (h : MachAt w base xb st v) : base ≤ w.heap.size := by have := h.lt xb (.inl rfl); omega

theorem MachAt.head (h : MachAt w base xb st v) : w.cell? ⟨xb, 0, none⟩ = some (.pointer (some ⟨v.mb, 0, none⟩)) ∧ w.cell? ⟨xb, 1, none⟩ = some (.int .i64 st.d.th) ∧ w.cell? ⟨xb, 2, none⟩ = some (.int .i64 st.d.now) ∧
    w.cell? ⟨xb, 3, none⟩ = some (st.callC v) ∧ w.cell? ⟨xb, 4, none⟩ = some (st.toldC v) ∧ w.cell? ⟨xb, 5, none⟩ = some (.bool st.d.used) ∧ w.cell? ⟨xb, 6, none⟩ = some v.vsh ∧
    w.cell? ⟨xb, 7, none⟩ = some v.kit ∧ w.cell? ⟨xb, 8, none⟩ = some v.vse ∧ w.cell? ⟨xb, 9, none⟩ = some (.int .i64 st.moves) ∧ w.cell? ⟨xb, 10, none⟩ = some v.vca ∧
    (∀ j, w.frozen? ⟨xb, j, none⟩ = false) ∧ xb < w.heap.size :=
  ⟨by simp [World.cell?, h.blk], by simp [World.cell?, h.blk], by simp [World.cell?, h.blk], by simp [World.cell?, h.blk], by simp [World.cell?, h.blk], by simp [World.cell?, h.blk], by simp [World.cell?, h.blk],
    by simp [World.cell?, h.blk], by simp [World.cell?, h.blk], by simp [World.cell?, h.blk], by simp [World.cell?, h.blk], fun j => by simp [World.frozen?, h.blk], (Array.getElem?_eq_some_iff.1 h.blk).1⟩

/-- the machine's own block is written; the rows and the memory stay -/
theorem MachAt.put {st' : MachS} {v' : MachV} (h : MachAt w base xb st v) {j : Nat} {u : Value}
    (hcs : (#[.pointer (some ⟨v.mb, 0, none⟩), .int .i64 st.d.th, .int .i64 st.d.now, st.callC v, st.toldC v, .bool st.d.used, v.vsh, v.kit, v.vse, .int .i64 st.moves, v.vca] : Array Value).setIfInBounds j u =
      #[.pointer (some ⟨v'.mb, 0, none⟩), .int .i64 st'.d.th, .int .i64 st'.d.now, st'.callC v', st'.toldC v', .bool st'.d.used, v'.vsh, v'.kit, v'.vse, .int .i64 st'.moves, v'.vca])
    (mem' : MemAt (w.setCell ⟨xb, j, none⟩ u) base v'.mb st'.d.mem v'.mv)
    (rsh' : (w.setCell ⟨xb, j, none⟩ u).RowV base 68 5 v'.vsh st'.d.shifts.length (shfs st'.d.shifts))
    (rse' : (w.setCell ⟨xb, j, none⟩ u).RowV base 125 5 v'.vse st'.seats.length (seatC st'.seatsNow))
    (rca' : (w.setCell ⟨xb, j, none⟩ u).RowV base 50 9 v'.vca st'.calls.length (cals st'.callsNow))
    (cx : v'.col xb = 0) (cm : ∀ k, v'.mv.own v'.mb k → v'.col k = 1) (cs : ∀ k, v'.vsh.rowBlock = some k → v'.col k = 2) (ce : ∀ k, v'.vse.rowBlock = some k → v'.col k = 3) (cc : ∀ k, v'.vca.rowBlock = some k → v'.col k = 4) :
    MachAt (w.setCell ⟨xb, j, none⟩ u) base xb st' v' :=
  ⟨by simp [World.setCell, Array.getElem?_modify, h.blk, hcs], h.ge, mem', rsh', rse', rca', cx, cm, cs, ce, cc⟩

theorem MachAt.nm (h : MachAt w base xb st v) : ¬ v.mv.own v.mb xb := fun e => by have := h.cm _ e; rw [h.cx] at this; cases this
theorem MachAt.ns (h : MachAt w base xb st v) : ∀ k, v.vsh.rowBlock = some k → k ≠ xb := fun k hk e => by subst e; have := h.cs _ hk; rw [h.cx] at this; cases this
theorem MachAt.ne (h : MachAt w base xb st v) : ∀ k, v.vse.rowBlock = some k → k ≠ xb := fun k hk e => by subst e; have := h.ce _ hk; rw [h.cx] at this; cases this
theorem MachAt.nc (h : MachAt w base xb st v) : ∀ k, v.vca.rowBlock = some k → k ≠ xb := fun k hk e => by subst e; have := h.cc _ hk; rw [h.cx] at this; cases this

/-- one of the machine's own cells, the lists as they are -/
theorem MachAt.put0 {st' : MachS} (h : MachAt w base xb st v) {j : Nat} {u : Value}
    (hcs : (#[.pointer (some ⟨v.mb, 0, none⟩), .int .i64 st.d.th, .int .i64 st.d.now, st.callC v, st.toldC v, .bool st.d.used, v.vsh, v.kit, v.vse, .int .i64 st.moves, v.vca] : Array Value).setIfInBounds j u =
      #[.pointer (some ⟨v.mb, 0, none⟩), .int .i64 st'.d.th, .int .i64 st'.d.now, st'.callC v, st'.toldC v, .bool st'.d.used, v.vsh, v.kit, v.vse, .int .i64 st'.moves, v.vca])
    (hm : st'.d.mem = st.d.mem) (hsh : st'.d.shifts = st.d.shifts) (hse : st'.seatsNow = st.seatsNow) (hca : st'.callsNow = st.callsNow) : MachAt (w.setCell ⟨xb, j, none⟩ u) base xb st' v := by
  have e1 : st'.seats.length = st.seats.length := by rw [← st'.seatsNow_len, hse, st.seatsNow_len]
  have e2 : st'.calls.length = st.calls.length := by rw [← st'.callsNow_len, hca, st.callsNow_len]
  refine h.put hcs ?_ ?_ ?_ ?_ h.cx h.cm h.cs h.ce h.cc
  · rw [hm]; exact h.mem.set_other h.nm _
  · rw [hsh]; exact h.rsh.set h.ns _
  · rw [hse, e1]; exact h.rse.set h.ne _
  · rw [hca, e2]; exact h.rca.set h.nc _
end

/-- what a desk's method leaves: the machine as st', its seats and calls where they lay -/
def DeskOut (w : World) (base xb : Nat) (v : MachV) (st' : MachS) (w' : World) : Prop :=
  ∃ v', MachAt w' base xb st' v' ∧ Only (v.own xb) w w' ∧ (∀ k, v'.own xb k → v.own xb k ∨ w.heap.size ≤ k) ∧ v'.vse = v.vse ∧ v'.vca = v.vca ∧ v'.mb = v.mb ∧ v'.kit = v.kit
/-- what a move leaves -/
def MachOut (w : World) (base xb : Nat) (v : MachV) (st' : MachS) (w' : World) : Prop :=
  ∃ v', MachAt w' base xb st' v' ∧ Only (v.own xb) w w' ∧ (∀ k, v'.own xb k → v.own xb k ∨ w.heap.size ≤ k) ∧ v'.mb = v.mb ∧ v'.kit = v.kit

section
variable {w w1 w2 : World} {base xb : Nat} {st st1 st2 : MachS} {v v1 : MachV}
theorem DeskOut.mach (h : DeskOut w base xb v st1 w1) : MachOut w base xb v st1 w1 := by
  obtain ⟨v1, a, b, c, _, _, d, e⟩ := h
  exact ⟨v1, a, b, c, d, e⟩
theorem DeskOut.refl (h : MachAt w base xb st v) : DeskOut w base xb v st w := ⟨v, h, Only.refl _ _, fun _ hk => .inl hk, rfl, rfl, rfl, rfl⟩
theorem DeskOut.trans (h : DeskOut w base xb v st1 w1) (k : ∀ v1, MachAt w1 base xb st1 v1 → v1.vse = v.vse → v1.vca = v.vca → v1.mb = v.mb → v1.kit = v.kit → DeskOut w1 base xb v1 st2 w2) : DeskOut w base xb v st2 w2 := by
  obtain ⟨v1, h1, h2, h3, e1, e2, e3, e4⟩ := h
  obtain ⟨v2, k1, k2, k3, f1, f2, f3, f4⟩ := k v1 h1 e1 e2 e3 e4
  refine ⟨v2, k1, h2.trans k2 h3, fun i hi => ?_, f1.trans e1, f2.trans e2, f3.trans e3, f4.trans e4⟩
  rcases k3 i hi with h4 | h4
  · exact h3 i h4
  · have := h2.size; exact .inr (by omega)
theorem MachOut.trans (h : MachOut w base xb v st1 w1) (k : ∀ v1, MachAt w1 base xb st1 v1 → v1.mb = v.mb → v1.kit = v.kit → MachOut w1 base xb v1 st2 w2) : MachOut w base xb v st2 w2 := by
  obtain ⟨v1, h1, h2, h3, e3, e4⟩ := h
  obtain ⟨v2, k1, k2, k3, f3, f4⟩ := k v1 h1 e3 e4
  refine ⟨v2, k1, h2.trans k2 h3, fun i hi => ?_, f3.trans e3, f4.trans e4⟩
  rcases k3 i hi with h4 | h4
  · exact h3 i h4
  · have := h2.size; exact .inr (by omega)
/-- as DeskOut, with the slots named -/
structure DeskStep (w : World) (base xb : Nat) (v : MachV) (st' : MachS) (v' : MachV) (w' : World) : Prop where
  at' : MachAt w' base xb st' v'
  only : Only (v.own xb) w w'
  own : ∀ k, v'.own xb k → v.own xb k ∨ w.heap.size ≤ k
  vse : v'.vse = v.vse
  vca : v'.vca = v.vca
  mb : v'.mb = v.mb
  kit : v'.kit = v.kit
theorem DeskOut.step (h : DeskOut w base xb v st1 w1) : ∃ v1, DeskStep w base xb v st1 v1 w1 := by
  obtain ⟨v1, a, b, c, d, e, f, g⟩ := h
  exact ⟨v1, a, b, c, d, e, f, g⟩
theorem DeskStep.out (h : DeskStep w base xb v st1 v1 w1) : DeskOut w base xb v st1 w1 := ⟨v1, h.at', h.only, h.own, h.vse, h.vca, h.mb, h.kit⟩
theorem DeskStep.then (h : DeskStep w base xb v st1 v1 w1) (k : DeskOut w1 base xb v1 st2 w2) : DeskOut w base xb v st2 w2 := by
  obtain ⟨v2, k1, k2, k3, f1, f2, f3, f4⟩ := k
  refine ⟨v2, k1, h.only.trans k2 h.own, fun i hi => ?_, f1.trans h.vse, f2.trans h.vca, f3.trans h.mb, f4.trans h.kit⟩
  rcases k3 i hi with h4 | h4
  · exact h.own i h4
  · have := h.only.size; exact .inr (by omega)
/-- a block that was there and is not the machine's stays not the machine's -/
theorem DeskStep.not_own (h : DeskStep w base xb v st1 v1 w1) {b : Nat} (hb : ¬ v.own xb b) (hl : b < w.heap.size) : ¬ v1.own xb b := fun e => by
  rcases h.own b e with h | h
  · exact hb h
  · omega
theorem DeskOut.set {j : Nat} {u : Value} (_h : MachAt w base xb st v) (k : MachAt (w.setCell ⟨xb, j, none⟩ u) base xb st1 v) : DeskOut w base xb v st1 (w.setCell ⟨xb, j, none⟩ u) :=
  ⟨v, k, (Only.refl _ _).set (.inl (.inl rfl)) _, fun _ hk => .inl hk, rfl, rfl, rfl, rfl⟩
/-- ahead of it cells of the machine's own are written -/
theorem DeskOut.ahead {w0 : World} (hb : Only (v.own xb) w0 w) (h : DeskOut w base xb v st1 w1) : DeskOut w0 base xb v st1 w1 := by
  obtain ⟨v1, h1, h2, h3, e⟩ := h
  refine ⟨v1, h1, hb.trans h2 (fun _ hk => .inl hk), fun i hi => ?_, e⟩
  rcases h3 i hi with h4 | h4
  · exact .inl h4
  · have := hb.size; exact .inr (by omega)
theorem DeskOut.pre {w0 : World} (hb : Only (fun _ => False) w0 w) (h : DeskOut w base xb v st1 w1) : DeskOut w0 base xb v st1 w1 := by
  obtain ⟨v1, h1, h2, h3, e1, e2, e3, e4⟩ := h
  refine ⟨v1, h1, ?_, fun i hi => ?_, e1, e2, e3, e4⟩
  · exact ⟨h2.os.trans hb.os, h2.tape.trans hb.tape, h2.output.trans hb.output, Nat.le_trans hb.size h2.size, fun k hk hn => (h2.block k (Nat.lt_of_lt_of_le hk hb.size) hn).trans (hb.block k hk (fun x => x))⟩
  · rcases h3 i hi with h4 | h4
    · exact .inl h4
    · have := hb.size; exact .inr (by omega)
theorem DeskOut.post (h : DeskOut w base xb v st1 w1) (hb : Only (fun _ => False) w1 w2) : DeskOut w base xb v st1 w2 := by
  obtain ⟨v1, h1, h2, h3, e⟩ := h
  exact ⟨v1, h1.only hb (fun _ _ x => x), h2.trans hb (fun _ x => x.elim), h3, e⟩

/-- the memory turns -/
theorem MachAt.mem_out {ms : MemS} (h : MachAt w base xb st v) (hm : MemOut w base v.mb v.mv ms w1) : DeskOut w base xb v { st with d := { st.d with mem := ms } } w1 := by
  obtain ⟨mv', h1, h2, h3⟩ := hm
  have hk : ∀ k, (∃ c, v.col k = c ∧ c ≠ 1) → k < w.heap.size → w1.heap[k]? = w.heap[k]? := fun k ⟨c, e, hc⟩ hl => h2.block k hl (fun ho => hc (by rw [← e]; exact h.cm k ho))
  have hlt := h.lt
  have hnew : ∀ k, w.heap.size ≤ k → ∀ j, v.own xb j → j ≠ k := fun k hk j hj e => by have := (hlt j hj).2; omega
  refine ⟨{ v with mv := mv', col := fun k => if w.heap.size ≤ k then 1 else v.col k }, ⟨?_, h.ge, h1, ?_, ?_, ?_, ?_, ?_, ?_, ?_, ?_⟩, ?_, ?_, rfl, rfl, rfl, rfl⟩
  · rw [hk xb ⟨0, h.cx, by decide⟩ (hlt xb (.inl rfl)).2]; exact h.blk
  · exact h.rsh.of_block fun k e => hk k ⟨2, h.cs k e, by decide⟩ (h.rsh.lt k e).2
  · exact h.rse.of_block fun k e => hk k ⟨3, h.ce k e, by decide⟩ (h.rse.lt k e).2
  · exact h.rca.of_block fun k e => hk k ⟨4, h.cc k e, by decide⟩ (h.rca.lt k e).2
  · show (if _ then _ else _) = _
    rw [if_neg (by have := (hlt xb (.inl rfl)).2; omega)]; exact h.cx
  · intro k e
    show (if _ then _ else _) = _
    split
    · rfl
    · rcases h3 k e with h4 | h4
      · exact h.cm k h4
      · omega
  · intro k e
    show (if _ then _ else _) = _
    rw [if_neg (by have := (h.rsh.lt k e).2; omega)]; exact h.cs k e
  · intro k e
    show (if _ then _ else _) = _
    rw [if_neg (by have := (h.rse.lt k e).2; omega)]; exact h.ce k e
  · intro k e
    show (if _ then _ else _) = _
    rw [if_neg (by have := (h.rca.lt k e).2; omega)]; exact h.cc k e
  · exact h2.mono fun k _ e => .inr (.inl e)
  · rintro k (e | e | e | e | e)
    · exact .inl (.inl e)
    · rcases h3 k e with h4 | h4
      · exact .inl (.inr (.inl h4))
      · exact .inr h4
    · exact .inl (.inr (.inr (.inl e)))
    · exact .inl (.inr (.inr (.inr (.inl e))))
    · exact .inl (.inr (.inr (.inr (.inr e))))
end

def DeskS.can (d : DeskS) (a : Int) : Bool := !d.used && (decide (0 ≤ a) && decide (a < (d.mem.words.length : Int)))
def DeskS.word (d : DeskS) (a : Int) : Int := if d.can a then d.mem.at a.toNat else 0
def DeskS.load (d : DeskS) (a : Int) : DeskS := if d.can a then { d with used := true, mem := d.mem.load d.th a.toNat } else d
def DeskS.store (d : DeskS) (a x : Int) : DeskS := if d.can a then { d with used := true, mem := d.mem.store d.th a.toNat x } else d
def DeskS.swaps (d : DeskS) (a o : Int) : Bool := d.can a && decide (d.mem.at a.toNat = o)
def DeskS.swap (d : DeskS) (a o x : Int) : DeskS := if d.can a then { d with used := true, mem := d.mem.swap d.th a.toNat o x } else d
def DeskS.shift (d : DeskS) (sl fr tgt : Int) : DeskS := { d with shifts := d.shifts ++ [⟨d.now, d.th, sl, fr, tgt⟩] }
/-- the lists are of a length that may be -/
def DeskS.Fits (d : DeskS) : Prop := d.mem.log.length ≤ 3000000000000 ∧ d.mem.ahead.length ≤ 3000000000000 ∧ d.shifts.length ≤ 3000000000000
end Go
