/-
machine: the own kit keeps to what a kit's tasks are asked (ownK_ok).
-/
import Derived.Test.YtbhbpfpggfcpgaaOwnK
namespace Go
open Go.RowKit
theorem Only.two {F G : Nat → Prop} {w w' : World} (h : Only F w w') (hG : ∀ k, F k → G k) : Only G w w' := h.mono fun k _ hk => hG k hk

theorem KitAt.cells {w : World} {b : Nat} {size : Int} {kit : Value} {kb sb tb : Nat} (h : KitAt w b size kit kb sb tb) : w.cell? ⟨sb, 0, none⟩ = some (.int .i64 size) ∧ w.frozen? ⟨sb, 0, none⟩ = false ∧ sb < w.heap.size ∧
    w.cell? ⟨tb, 0, none⟩ = some (.func (.func 50) #[] #[.pointer (some ⟨sb, 0, none⟩)]) ∧ w.frozen? ⟨tb, 0, none⟩ = false ∧ tb < w.heap.size :=
  ⟨by simp [World.cell?, h.sz], by simp [World.frozen?, h.sz], (Array.getElem?_eq_some_iff.1 h.sz).1, by simp [World.cell?, h.fn], by simp [World.frozen?, h.fn], (Array.getElem?_eq_some_iff.1 h.fn).1⟩
section
variable {w w' : World} {b : Nat} {size : Int} {kit : Value} {vs : List Value} {ts : List (Option Tk)} {F : Nat → Prop} {kb sb tb : Nat} {col blk : Nat → Nat}
theorem OwnKAt.of_block (h : OwnKAt w b size kit vs ts F kb sb tb col blk) (hb : ∀ k, F k → w'.heap[k]? = w.heap[k]?) : OwnKAt w' b size kit vs ts F kb sb tb col blk :=
  ⟨⟨h.k.kit, by rw [hb kb h.fk]; exact h.k.map, by rw [hb sb h.fs]; exact h.k.sz, by rw [hb tb h.ft]; exact h.k.fn, h.k.k0, h.k.s0, h.k.t0⟩,
    fun i hi => ⟨(h.lt i hi).1, by
      have h1 := (h.lt i hi).2
      have h2 := hb i hi
      rw [Array.getElem?_eq_getElem h1] at h2
      exact (Array.getElem?_eq_some_iff.1 h2).1⟩, h.fk, h.fs, h.ft, h.ck, h.cs, h.ct, h.no, fun i t hi => by
      obtain ⟨a1, a2, a3, a4⟩ := h.yes i t hi
      exact ⟨a1, by rw [hb _ a3]; exact a2, a3, a4⟩⟩
theorem OwnKAt.drop (h : OwnKAt w b size kit vs ts F kb sb tb col blk) (i : Nat) : OwnKAt w b size kit (vs.set i .nilIface) (ts.set i none) F kb sb tb col blk := by
  refine ⟨h.k, h.lt, h.fk, h.fs, h.ft, h.ck, h.cs, h.ct, fun j hj => ?_, fun j t hj => ?_⟩
  · by_cases e : i = j
    · subst e
      rw [List.getElem?_set] at hj ⊢
      simp only [if_true] at hj ⊢
      split at hj
      · rename_i hl
        -- the list of values is as long as it must be, or the slot is none
        by_cases hv : i < vs.length
        · simp [hv]
        · exfalso
          have : ts[i]? = some (ts[i]) := List.getElem?_eq_getElem hl
          cases ht : ts[i] with
          | none =>
            have h1 := h.no i (by rw [this, ht])
            have := (List.getElem?_eq_some_iff.1 h1).1
            omega
          | some t =>
            have h1 := (h.yes i t (by rw [this, ht])).1
            have := (List.getElem?_eq_some_iff.1 h1).1
            omega
      · cases hj
    · rw [List.getElem?_set_ne e] at hj ⊢
      exact h.no j hj
  · by_cases e : i = j
    · subst e
      rw [List.getElem?_set] at hj
      simp only [if_true] at hj
      split at hj <;> cases hj
    · rw [List.getElem?_set_ne e] at hj ⊢
      exact h.yes j t hj
/-- a task's block is written -/
theorem OwnKAt.turn (h : OwnKAt w b size kit vs ts F kb sb tb col blk) {i : Nat} {t t' : Tk} (hi : ts[i]? = some (some t)) (hv : t'.val (blk i) = t.val (blk i)) (hb : ∀ k, F k → k ≠ blk i → w'.heap[k]? = w.heap[k]?) (hn : w'.heap[blk i]? = some t'.obj) :
    OwnKAt w' b size kit vs (ts.set i (some t')) F kb sb tb col blk := by
  obtain ⟨a1, a2, a3, a4⟩ := h.yes i t hi
  have hne : ∀ k, col k = 0 → k ≠ blk i := fun k hk e => by rw [e, a4] at hk; omega
  have hl : i < ts.length := (List.getElem?_eq_some_iff.1 hi).1
  refine ⟨⟨h.k.kit, by rw [hb kb h.fk (hne _ h.ck)]; exact h.k.map, by rw [hb sb h.fs (hne _ h.cs)]; exact h.k.sz, by rw [hb tb h.ft (hne _ h.ct)]; exact h.k.fn, h.k.k0, h.k.s0, h.k.t0⟩,
    fun k hk => ⟨(h.lt k hk).1, ?_⟩, h.fk, h.fs, h.ft, h.ck, h.cs, h.ct, fun j hj => ?_, fun j u hj => ?_⟩
  · by_cases e : k = blk i
    · subst e; exact (Array.getElem?_eq_some_iff.1 hn).1
    · have h1 := (h.lt k hk).2
      have h2 := hb k hk e
      rw [Array.getElem?_eq_getElem h1] at h2
      exact (Array.getElem?_eq_some_iff.1 h2).1
  · by_cases e : i = j
    · subst e
      rw [List.getElem?_set] at hj
      simp [hl] at hj
    · rw [List.getElem?_set_ne e] at hj
      exact h.no j hj
  · by_cases e : i = j
    · subst e
      rw [List.getElem?_set] at hj
      simp only [if_true, hl, Option.some.injEq] at hj
      subst hj
      exact ⟨by rw [hv]; exact a1, hn, a3, a4⟩
    · rw [List.getElem?_set_ne e] at hj
      obtain ⟨b1, b2, b3, b4⟩ := h.yes j u hj
      have : blk j ≠ blk i := fun e2 => by rw [e2, a4] at b4; omega
      exact ⟨b1, by rw [hb _ b3 this]; exact b2, b3, b4⟩
/-- a task is laid -/
theorem OwnKAt.lay (h : OwnKAt w b size kit vs ts F kb sb tb col blk) {i k : Nat} {t : Tk} (hi : ts[i]? = some none) (ho : Only (fun _ => False) w w') (hk : w.heap.size ≤ k) (hn : w'.heap[k]? = some t.obj) (hbk : b ≤ k) :
    OwnKAt w' b size kit (vs.set i (t.val k)) (ts.set i (some t)) (fun j => F j ∨ j = k) kb sb tb (fun j => if j = k then 1 + i else col j) (fun j => if j = i then k else blk j) := by
  have hF : ∀ j, F j → w'.heap[j]? = w.heap[j]? := fun j hj => ho.block j (h.lt j hj).2 (fun x => x)
  have hFk : ∀ j, F j → j ≠ k := fun j hj e => by have := (h.lt j hj).2; omega
  have hl : i < ts.length := (List.getElem?_eq_some_iff.1 hi).1
  have hlv : i < vs.length := (List.getElem?_eq_some_iff.1 (h.no i hi)).1
  have hsz := ho.size
  refine ⟨⟨h.k.kit, by rw [hF kb h.fk]; exact h.k.map, by rw [hF sb h.fs]; exact h.k.sz, by rw [hF tb h.ft]; exact h.k.fn, h.k.k0, h.k.s0, h.k.t0⟩,
    fun j hj => ?_, .inl h.fk, .inl h.fs, .inl h.ft, by rw [if_neg (hFk _ h.fk)]; exact h.ck, by rw [if_neg (hFk _ h.fs)]; exact h.cs, by rw [if_neg (hFk _ h.ft)]; exact h.ct, fun j hj => ?_, fun j u hj => ?_⟩
  · rcases hj with hj | rfl
    · have := h.lt j hj; exact ⟨this.1, by omega⟩
    · exact ⟨hbk, (Array.getElem?_eq_some_iff.1 hn).1⟩
  · by_cases e : i = j
    · subst e
      rw [List.getElem?_set] at hj
      simp [hl] at hj
    · rw [List.getElem?_set_ne e] at hj ⊢
      exact h.no j hj
  · by_cases e : i = j
    · subst e
      rw [List.getElem?_set] at hj
      simp only [if_true, hl, Option.some.injEq] at hj
      subst hj
      simp only [if_true]
      exact ⟨by simp [hlv], hn, by simp, trivial⟩
    · rw [List.getElem?_set_ne e] at hj ⊢
      obtain ⟨b1, b2, b3, b4⟩ := h.yes j u hj
      rw [if_neg (Ne.symm e), if_neg (hFk _ b3)]
      exact ⟨b1, by rw [hF _ b3]; exact b2, .inl b3, b4⟩
end

end Go
namespace Go.Proofs.Ytbhbpfpggfcpgaa
open Go.ChangeShapes Go.WideShapes Go.ChangeAt Go.RowKit
theorem TaskOut.ofDesk {K : Kits} (hK : KitsOk K) {w w' : World} {base xb i : Nat} {st : MachS} {v : MachV} {vs : List Value} {s : K.S} {ts : List (Option K.T)} {F : Nat → Prop} {r : K.S × K.T × DeskS × Bool} (H : MK K w base xb st v vs s ts F)
    (hd : DeskOut w base xb v { st with d := r.2.2.1 } w') (hA : K.At w' base v.kit vs r.1 (ts.set i (some r.2.1)) F) : TaskOut K w base xb st v vs ts F i r (.returned (.bool r.2.2.2)) w' := by
  obtain ⟨v1, h1, h2, h3, e1, e2, e3, e4⟩ := hd
  refine ⟨rfl, v1, F, ⟨h1, by rw [e4]; exact hA, fun k hk ho => ?_, H.tasks, by simp [H.len]⟩, h2.mono (fun k _ hk => .inl hk), h3, fun k hk => .inl hk, e1, e2, e3, e4⟩
  rcases h3 k ho with h | h
  · exact H.sep k hk h
  · have := (hK.lt H.k k hk).2; omega

theorem ownK_step (size : Int) {w : World} {base xb db : Nat} {st : MachS} {v : MachV} {vs : List Value} {ts : List (Option Tk)} {F : Nat → Prop} {ci i : Nat} {t : Tk} {y : Value} (_hK : ∀ {w w' b kit vs s ts F}, (ownK size).At w b kit vs s ts F → (∀ k, F k → w'.heap[k]? = w.heap[k]?) → (ownK size).At w' b kit vs s ts F)
    (H : MK (ownK size) w base xb st v vs () ts F) (ht : ts[i]? = some (some t)) (hy : vs[i]? = some y) (O : st.On ci i) (hf : st.d.Fits) (D : DeskBox w xb db) (n1 : ¬ v.own xb db) (_n2 : ¬ F db) :
    Runs Try.prog y "Step" #[.pointer (some ⟨db, 0, none⟩)] w (TaskOut (ownK size) w base xb st v vs ts F i ((ownK size).step () t st.d)) := by
  obtain ⟨kb, sb, tb, col, blk, hA⟩ := H.k
  obtain ⟨a1, a2, a3, a4⟩ := hA.yes i t ht
  obtain rfl : y = t.val (blk i) := by rw [hy] at a1; exact Option.some.inj a1
  have hkv : ¬ v.own xb (blk i) := H.sep _ a3
  cases t with
  | look a =>
    refine ⟨108, .pointer (some ⟨blk i, 0, none⟩), fun xs w0 => step_look _ _ _, (lstep_any H.m D O n1 hf a a2).mono ?_⟩
    rintro e w' ⟨rfl, v1, h1, h2, h3, e1, e2, e3, e4⟩
    have hb : ∀ k, F k → w'.heap[k]? = w.heap[k]? := fun k hk => h2.block k (hA.lt k hk).2 (H.sep k hk)
    refine ⟨rfl, v1, F, ⟨h1, ?_, fun k hk ho => ?_, H.tasks, (List.length_set ..).trans H.len⟩, h2.two (fun _ h => .inl h), h3, fun _ h => .inl h, e1, e2, e3, e4⟩
    · rw [e4]
      exact ⟨kb, sb, tb, col, blk, hA.turn ht rfl (fun k hk _ => hb k hk) (by rw [hb _ a3]; exact a2)⟩
    · rcases h3 k ho with h | h
      · exact H.sep k hk h
      · have := (hA.lt k hk).2; omega
  | bump a saw ld =>
    have key : ∀ (st' : MachS) (saw' : Int) (ld' over : Bool) (e : Ending) (w' : World), BumpOut w base xb (blk i) v st' a saw' ld' over e w' → (ownK size).step () (.bump a saw ld) st.d = ((), .bump a saw' ld', st'.d, over) → st' = { st with d := st'.d } →
        TaskOut (ownK size) w base xb st v vs ts F i ((ownK size).step () (.bump a saw ld) st.d) e w' := by
      rintro st' saw' ld' over e w' ⟨rfl, v1, h1, h2, h3, e1, e2, e3, e4, hk⟩ hr hst
      rw [hr]
      have hb : ∀ k, F k → k ≠ blk i → w'.heap[k]? = w.heap[k]? := fun k hk hne => h2.block k (hA.lt k hk).2 (fun x => x.elim (H.sep k hk) hne)
      refine ⟨rfl, v1, F, ⟨by rw [← hst]; exact h1, ?_, fun k hk ho => ?_, H.tasks, (List.length_set ..).trans H.len⟩, h2.two (fun k h => h.elim .inl (fun e => .inr (by rw [e]; exact a3))), h3, fun _ h => .inl h, e1, e2, e3, e4⟩
      · rw [e4]
        exact ⟨kb, sb, tb, col, blk, hA.turn (t' := .bump a saw' ld') ht rfl hb hk⟩
      · rcases h3 k ho with h | h
        · exact H.sep k hk h
        · have := (hA.lt k hk).2; omega
    cases ld with
    | false => exact ⟨110, .pointer (some ⟨blk i, 0, none⟩), fun xs w0 => step_bump _ _ _, (bstep_load H.m D n1 hf a saw a2 hkv).mono fun e w' h => key _ _ _ _ e w' h rfl rfl⟩
    | true =>
      cases hsw : st.d.swaps a saw with
      | false => exact ⟨110, .pointer (some ⟨blk i, 0, none⟩), fun xs w0 => step_bump _ _ _, (bstep_fail H.m D n1 hf a saw a2 hkv hsw).mono fun e w' h => key _ _ _ _ e w' h (by simp [ownK, Tk.step, hsw]) rfl⟩
      | true => exact ⟨110, .pointer (some ⟨blk i, 0, none⟩), fun xs w0 => step_bump _ _ _, (bstep_ok H.m D O n1 hf a saw a2 hkv hsw).mono fun e w' h => key _ _ _ _ e w' h (by simp [ownK, Tk.step, hsw]) rfl⟩

theorem ownK_ready (size : Int) {w : World} {base xb db : Nat} {st : MachS} {v : MachV} {vs : List Value} {ts : List (Option Tk)} {F : Nat → Prop} {i : Nat} {t : Tk} {y : Value}
    (H : MK (ownK size) w base xb st v vs () ts F) (ht : ts[i]? = some (some t)) (hy : vs[i]? = some y) :
    Runs Try.prog y "Ready" #[.pointer (some ⟨db, 0, none⟩)] w (TaskOut (ownK size) w base xb st v vs ts F i ((ownK size).ready () t st.d)) := by
  obtain ⟨kb, sb, tb, col, blk, hA⟩ := H.k
  obtain ⟨a1, a2, a3, a4⟩ := hA.yes i t ht
  obtain rfl : y = t.val (blk i) := by rw [hy] at a1; exact Option.some.inj a1
  have e2 : ts.set i (some t) = ts := by
    apply List.ext_getElem?
    intro j
    rw [List.getElem?_set]
    split
    · subst_vars; rw [ht]; simp [(List.getElem?_eq_some_iff.1 ht).1]
    · rfl
  have out : ∀ e w', (e = .returned (.bool false) ∧ w = w') → TaskOut (ownK size) w base xb st v vs ts F i ((ownK size).ready () t st.d) e w' := by
    rintro e w' ⟨rfl, rfl⟩
    refine ⟨rfl, v, F, ⟨H.m, ?_, H.sep, H.tasks, (List.length_set ..).trans H.len⟩, Only.refl _ _, fun _ h => .inl h, fun _ h => .inl h, rfl, rfl, rfl, rfl⟩
    show (ownK size).At w base v.kit vs () (ts.set i (some t)) F
    rw [e2]
    exact H.k
  cases t with
  | look a => exact ⟨107, .pointer (some ⟨blk i, 0, none⟩), fun xs w0 => ready_look _ _ _, (lready_any _ _ _).mono out⟩
  | bump a saw ld => exact ⟨109, .pointer (some ⟨blk i, 0, none⟩), fun xs w0 => ready_bump _ _ _, (bready_any _ _ _).mono out⟩

theorem ownK_made (size : Int) {w w' : World} {b : Nat} {kit : Value} {vs : List Value} {ts : List (Option Tk)} {F : Nat → Prop} {kb sb tb : Nat} {col blk : Nat → Nat} (hA : OwnKAt w b size kit vs ts F kb sb tb col blk) {mv : Mv} {th : Nat} (hi : ts[th]? = some none) {T : TypeId} {t : Tk} {e : Ending}
    (hv : ∀ k, t.val k = .iface T (.pointer (some ⟨k, 0, none⟩))) (hm : ownMake size mv = if (decide (0 ≤ mv.arg) && decide (mv.arg < size)) = true then some t else none) (h : OwnMade w (decide (0 ≤ mv.arg) && decide (mv.arg < size)) T t.obj e w') :
    ((ownK size).make () mv = none ∧ e = .returned .nilIface ∧ Only (fun _ => False) w w') ∨ ∃ t v F', (ownK size).make () mv = some t ∧ e = .returned v ∧ (ownK size).At w' b kit (vs.set th v) () (ts.set th (some t)) F' ∧ Only (fun _ => False) w w' ∧ ∀ k, F' k → F k ∨ w.heap.size ≤ k := by
  rcases h with ⟨h1, rfl, h3⟩ | ⟨h1, k, hk, rfl, h3, h4⟩
  · refine .inl ⟨?_, rfl, h3⟩
    show ownMake size mv = none
    rw [hm, h1]
    rfl
  · refine .inr ⟨t, t.val k, _, ?_, by rw [hv], ⟨kb, sb, tb, _, _, hA.lay hi h4 hk h3 (by have := hA.k.k0; have := (hA.lt kb hA.fk).2; omega)⟩, h4, ?_⟩
    · show ownMake size mv = some t
      rw [hm, h1]
      rfl
    · rintro j (hj | rfl)
      · exact .inl hj
      · exact .inr hk

theorem ownK_ok (size : Int) : KitsOk (ownK size) where
  loc := by
    rintro w w' b kit vs s ts F ⟨kb, sb, tb, col, blk, h⟩ hb
    exact ⟨kb, sb, tb, col, blk, h.of_block hb⟩
  lt := by
    rintro w b kit vs s ts F ⟨kb, sb, tb, col, blk, h⟩
    exact h.lt
  idle := by
    rintro w b kit vs s ts F ⟨kb, sb, tb, col, blk, h⟩
    exact h.no
  busy := by
    rintro w b kit vs s ts F ⟨kb, sb, tb, col, blk, h⟩ i t ht
    have := (h.yes i t ht).1
    cases t with
    | look a => exact ⟨_, _, this⟩
    | bump a saw ld => exact ⟨_, _, this⟩
  drop := by
    rintro w b kit vs s ts F ⟨kb, sb, tb, col, blk, h⟩ i
    exact ⟨kb, sb, tb, col, blk, h.drop i⟩
  few := by
    intro s t d
    have h := tstep_few t d
    exact ⟨by show d.mem.log.length ≤ _; omega, by show d.mem.ahead.length ≤ _; omega, by show d.shifts.length ≤ _; omega, h.1, h.2.1, by show (t.step d).2.1.shifts.length ≤ _; rw [h.2.2.1]; omega⟩
  keep := by
    intro s t d
    have h := tstep_few t d
    exact ⟨rfl, rfl, h.2.2.2.1, h.2.2.2.2⟩
  look := by
    rintro w b kit vs s ts F ⟨kb, sb, tb, col, blk, h⟩ op
    obtain rfl : kit = .map (some kb) := h.k.kit
    by_cases h1 : op = 1
    · subst h1
      refine ⟨_, own_lookup h.k.map 1 (r := some (0, .func (.func 51) #[] #[.pointer (some ⟨tb, 0, none⟩)])) rfl, .inr ⟨⟨_, _, _, rfl⟩, ?_⟩⟩
      intro mv th hop hth hi
      obtain ⟨c1, c2, c3, c4, c5, c6⟩ := h.k.cells
      refine ⟨51, _, fun w0 => make_look tb _ _ w0, (look_make c1 c2 c3 c4 c5 c6 mv).mono fun e w' hm => ?_⟩
      exact ownK_made size h hi (t := .look mv.arg) (fun _ => rfl) (by unfold ownMake; rw [hop]; rfl) hm
    · by_cases h2 : op = 2
      · subst h2
        refine ⟨_, own_lookup h.k.map 2 (r := some (1, .func (.func 52) #[] #[.pointer (some ⟨tb, 0, none⟩)])) rfl, .inr ⟨⟨_, _, _, rfl⟩, ?_⟩⟩
        intro mv th hop hth hi
        obtain ⟨c1, c2, c3, c4, c5, c6⟩ := h.k.cells
        refine ⟨52, _, fun w0 => make_bump tb _ _ w0, (bump_make c1 c2 c3 c4 c5 c6 mv).mono fun e w' hm => ?_⟩
        exact ownK_made size h hi (t := .bump mv.arg 0 false) (fun _ => rfl) (by unfold ownMake; rw [hop]; rfl) hm
      · refine ⟨_, own_lookup h.k.map op (r := none) ?_, .inl ⟨rfl, ?_⟩⟩
        · have g1 : (op == 1) = false := by simpa using h1
          have g2 : (op == 2) = false := by simpa using h2
          simp [ownEs, Instr.findNow, Instr.sameNow, g1, g2]
        · intro mv hop
          show ownMake size mv = none
          unfold ownMake
          rw [hop, if_neg h1, if_neg h2]
          simp
  ready_run := fun H ht hy _ _ _ _ _ => ownK_ready size H ht hy
  step_run := fun H ht hy O hf D n1 n2 => ownK_step size (by rintro w w' b kit vs s ts F ⟨kb, sb, tb, col, blk, h⟩ hb; exact ⟨kb, sb, tb, col, blk, h.of_block hb⟩) H ht hy O hf D n1 n2
end Go.Proofs.Ytbhbpfpggfcpgaa
