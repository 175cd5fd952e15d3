/-
The arena's kit: its makers walked; arK keeps to what a kit's tasks are asked.
The arena: what always holds is kept by each step (AInv.step). Plain.
The arena: each step keeps what always holds; beginnings; the arena as it is made. Plain.
-/
import Derived.Test.YtjcggokhminmoaaQArU
import Derived.Test.YtjcggokhminmoaaQMchS
import Derived.Test.YtjcggokhminmoaaQAddr
namespace Go.Proofs.Ytjcggokhminmoaa
open Go.ChangeShapes Go.WideShapes Go.ChangeAt Go.RowKit

theorem atake_any {w : World} {base ab : Nat} {s : ArS} {av : ArV} (H : ArAt w base ab s av) (th : Int) : Calls Try.prog 62 #[.pointer (some ⟨ab, 0, none⟩), .int .i64 th] w fun e w' =>
    e = .returned (.pointer (some ⟨w.heap.size, 0, none⟩)) ∧ w' = w.alloc ((⟨th, 1, 0, 0, 0, false⟩ : TkTake).obj ab) := by
  obtain ⟨c0, c1, c2, c3, c4, c5, c6, c7, c8, z, lt⟩ := H.head
  obtain ⟨o, c, e, h1, h2⟩ := H.rsl.form
  rw [e] at c7
  have hn := (ok_small H.ok).1
  unfold ArS.n at hn
  have d0 : decide ((s.slots.length : Int) = 0) = false := decide_eq_false (by omega)
  have d1 : ((s.slots.length : Int) == 0) = false := beq_eq_false_iff_ne.2 (by omega)
  clear c0 c1 c2 c3 c4 c5 c6 c8 H e
  go_enter Try.func62, Try.ntmps62
  go_wp2
  go_ret
  exact ⟨rfl, rfl⟩
theorem aflush_any {w : World} {ab : Nat} (th : Int) : Calls Try.prog 66 #[.pointer (some ⟨ab, 0, none⟩), .int .i64 th] w fun e w' =>
    e = .returned (.pointer (some ⟨w.heap.size, 0, none⟩)) ∧ w' = w.alloc ((⟨0, 0, 0, th⟩ : TkPush).obj ab 185) := by
  go_enter Try.func66, Try.ntmps66
  go_wp2
  go_ret
  exact ⟨rfl, rfl⟩
theorem agive_any {w : World} {base ab : Nat} {s : ArS} {av : ArV} (H : ArAt w base ab s av) (th k : Int) (hk : s.has k = true) (ht : s.thread th = true) : Calls Try.prog 64 #[.pointer (some ⟨ab, 0, none⟩), .int .i64 th, .int .i64 k] w fun e w' =>
    e = .returned (.pointer (some ⟨w.heap.size, 0, none⟩)) ∧ w' = w.alloc ((⟨k, 1, 0, th⟩ : TkPush).obj ab 184) := by
  have HH := Lib.hid (has_any (H.of_block (w' := w.alloc ((⟨k, 1, 0, th⟩ : TkPush).obj ab 184)) fun j hj => Below.heap_alloc _ _ _ (H.lt j hj).2) k)
  have HT := Lib.hid (thread_any (H.of_block (w' := w.alloc ((⟨k, 1, 0, th⟩ : TkPush).obj ab 184)) fun j hj => Below.heap_alloc _ _ _ (H.lt j hj).2) th)
  rw [hk] at HH
  rw [ht] at HT
  clear H hk ht
  go_enter Try.func64, Try.ntmps64
  go_wp2_with (first
    | (go_at_call 45; refine HH.out.mono ?_; rintro e w1 ⟨rfl, rfl⟩)
    | (go_at_call 43; refine HT.out.mono ?_; rintro e w1 ⟨rfl, rfl⟩))
  go_ret
  exact ⟨rfl, rfl⟩

/-- what a maker leaves -/
def AMade (w : World) (ab : Nat) (r : Option ATk) (e : Ending) (w' : World) : Prop :=
  (r = none ∧ e = .returned .nilIface ∧ Only (fun _ => False) w w') ∨ ∃ t bk sb, r = some t ∧ e = .returned (t.val bk) ∧ w'.heap[sb]? = some (t.obj ab) ∧ t.callAt w' bk sb ∧ w.heap.size ≤ bk ∧ w.heap.size ≤ sb ∧ Only (fun _ => False) w w'

theorem kit1_any {w : World} {base ab bx : Nat} {s : ArS} {av : ArV} (H : ArAt w base ab s av) (hb : w.heap[bx]? = some (.cells #[.pointer (some ⟨ab, 0, none⟩)] 24 (0, 0))) (mv : Mv) :
    Calls Try.prog 61 #[.int .i64 mv.th, mv.v, .pointer (some ⟨bx, 0, none⟩)] w (AMade w ab (some (.take ⟨mv.th, 1, 0, 0, 0, false⟩))) := by
  obtain ⟨m0, m1, m2, m3⟩ := mv
  unfold Mv.v
  have x0 : w.cell? ⟨bx, 0, none⟩ = some (.pointer (some ⟨ab, 0, none⟩)) := by simp [World.cell?, hb]
  have xlt := (Array.getElem?_eq_some_iff.1 hb).1
  have HT := Lib.hid (atake_any (H.of_block (w' := w.alloc (.cells #[.int .i64 m0, .int .i64 m1, .int .i64 m2, .int .i64 m3] 64)) fun j hj => Below.heap_alloc _ _ _ (H.lt j hj).2) m0)
  clear H hb
  go_enter Try.func61, Try.ntmps61
  go_wp2_with (go_at_call 62; refine HT.out.mono ?_; rintro e w1 ⟨rfl, rfl⟩)
  go_ret
  refine .inr ⟨.take ⟨m0, 1, 0, 0, 0, false⟩, w.heap.size + 1 + 1, w.heap.size + 1, rfl, ?_, ?_, ⟨?_, by omega⟩, by omega, by omega, (((Only.refl _ _).alloc _).alloc _).alloc _⟩
  · simp [ATk.val]
  · rw [Below.heap_alloc _ _ _ (by simp)]
    exact heap_alloc_at (by simp)
  · have h1 := heap_alloc_at (W := (w.alloc (.cells #[.int .i64 m0, .int .i64 m1, .int .i64 m2, .int .i64 m3] 64)).alloc ((⟨m0, 1, 0, 0, 0, false⟩ : TkTake).obj ab)) (o := .cells #[.pointer (some ⟨w.heap.size + 1, 0, none⟩)] 158) (k := w.heap.size + 1 + 1) (by simp)
    simpa using h1
theorem kit3_any {w : World} {ab bx : Nat} (hb : w.heap[bx]? = some (.cells #[.pointer (some ⟨ab, 0, none⟩)] 24 (0, 0))) (mv : Mv) :
    Calls Try.prog 65 #[.int .i64 mv.th, mv.v, .pointer (some ⟨bx, 0, none⟩)] w (AMade w ab (some (.flush ⟨0, 0, 0, mv.th⟩))) := by
  obtain ⟨m0, m1, m2, m3⟩ := mv
  unfold Mv.v
  have x0 : w.cell? ⟨bx, 0, none⟩ = some (.pointer (some ⟨ab, 0, none⟩)) := by simp [World.cell?, hb]
  have xlt := (Array.getElem?_eq_some_iff.1 hb).1
  clear hb
  go_enter Try.func65, Try.ntmps65
  go_wp2_with (go_at_call 66; refine (aflush_any m0).mono ?_; rintro e w1 ⟨rfl, rfl⟩)
  go_ret
  refine .inr ⟨.flush ⟨0, 0, 0, m0⟩, w.heap.size + 1, w.heap.size + 1, rfl, ?_, ?_, rfl, by omega, by omega, ((Only.refl _ _).alloc _).alloc _⟩
  · simp [ATk.val]
  · exact heap_alloc_at (by simp)

theorem kit2_any {w : World} {base ab bx : Nat} {s : ArS} {av : ArV} (H : ArAt w base ab s av) (hb : w.heap[bx]? = some (.cells #[.pointer (some ⟨ab, 0, none⟩)] 24 (0, 0))) (mv : Mv) (hth : s.thread mv.th = true) :
    Calls Try.prog 63 #[.int .i64 mv.th, mv.v, .pointer (some ⟨bx, 0, none⟩)] w (AMade w ab (if s.has mv.arg && (decide ((s.slot mv.arg).1 = 2) && decide ((s.slot mv.arg).2 = mv.th)) then some (.give ⟨mv.arg, 1, 0, mv.th⟩) else none)) := by
  obtain ⟨m0, m1, m2, m3⟩ := mv
  unfold Mv.v
  simp only at hth ⊢
  have x0 : w.cell? ⟨bx, 0, none⟩ = some (.pointer (some ⟨ab, 0, none⟩)) := by simp [World.cell?, hb]
  have xlt := (Array.getElem?_eq_some_iff.1 hb).1
  have HB := Lib.hid (fun W (ho : Only (fun _ => False) w W) => H.only ho (fun _ _ x => x))
  have HS := Lib.hid (fun W (ho : Only (fun _ => False) w W) => state_any (HB.out W ho) m2)
  obtain ⟨x, y, er, hst⟩ : ∃ x y er, s.state m2 = (x, y, er) := ⟨_, _, _, rfl⟩
  rw [hst] at HS
  simp only at HS
  have hcase : (er ≠ 0 ∧ s.has m2 = false) ∨ (er = 0 ∧ s.has m2 = true ∧ s.slot m2 = (x, y)) := by
    unfold ArS.state at hst
    cases hh : s.has m2 with
    | false => rw [hh] at hst; simp at hst; exact .inl ⟨by omega, rfl⟩
    | true => rw [hh] at hst; simp at hst; exact .inr ⟨by omega, rfl, Prod.ext hst.1 hst.2.1⟩
  have H0 := Lib.hid H
  clear H hb hst
  have nilOut : ∀ w' : World, Only (fun _ => False) w w' → ∀ r : Option ATk, r = none → AMade w ab r (.returned .nilIface) w' := fun _ h r hr => .inl ⟨hr, rfl, h⟩
  have NO := Lib.hid nilOut
  clear nilOut
  rcases hcase with ⟨q1, hh⟩ | ⟨rfl, hh, hs⟩
  · have d1 : decide (er = 0) = false := decide_eq_false q1
    have d2 : (er == 0) = false := beq_eq_false_iff_ne.2 q1
    have d3 : (er != 0) = true := by simp [q1]
    rw [hh]
    go_enter Try.func63, Try.ntmps63
    go_wp2_with (go_at_call 28; refine (HS.out _ (Below.only0 (by repeat (first | exact Below.refl _ _ | apply Below.drew | apply Below.more1 | apply Below.alloc1 | (refine Below.setCell ?_ (by first | exact Nat.le_refl _ | (simp; done) | (simp; omega)) _))))).mono ?_; rintro e w1 ⟨rfl, hb1⟩; obtain ⟨os, d, rfl⟩ := hb1.more; clear hb1)
    go_ret
    exact NO.out _ (Below.only0 (by repeat (first | exact Below.refl _ _ | apply Below.drew | apply Below.more1 | apply Below.alloc1 | (refine Below.setCell ?_ (by first | exact Nat.le_refl _ | (simp; done) | (simp; omega)) _)))) _ rfl
  · rw [hh, hs]
    by_cases q2 : x = 2
    · by_cases q3 : y = m0
      · subst q2 q3
        have HG := Lib.hid (fun W (ho : Only (fun _ => False) w W) => agive_any (HB.out W ho) y m2 hh hth)
        have e1 : (if (true && (decide ((2, y).1 = (2 : Int)) && decide ((2, y).2 = y))) = true then some (ATk.give ⟨m2, 1, 0, y⟩) else none) = some (ATk.give ⟨m2, 1, 0, y⟩) := by simp
        rw [e1]
        have d3 : (y != y) = false := by simp
        clear hh hs hth e1
        go_enter Try.func63, Try.ntmps63
        go_wp2_with (first
          | (go_at_call 28; refine (HS.out _ (Below.only0 (by repeat (first | exact Below.refl _ _ | apply Below.drew | apply Below.more1 | apply Below.alloc1 | (refine Below.setCell ?_ (by first | exact Nat.le_refl _ | (simp; done) | (simp; omega)) _))))).mono ?_; rintro e w1 ⟨rfl, hb1⟩; obtain ⟨os, d, rfl⟩ := hb1.more; clear hb1)
          | (go_at_call 64; refine (HG.out _ (Below.only0 (by repeat (first | exact Below.refl _ _ | apply Below.drew | apply Below.more1 | apply Below.alloc1 | (refine Below.setCell ?_ (by first | exact Nat.le_refl _ | (simp; done) | (simp; omega)) _))))).mono ?_; rintro e w1 ⟨rfl, rfl⟩))
        go_ret
        refine .inr ⟨.give ⟨m2, 1, 0, y⟩, w.heap.size + 1 + os.size, w.heap.size + 1 + os.size, rfl, rfl, heap_alloc_at (by simp [World.size_more]), rfl, by omega, by omega, ?_⟩
        · repeat (first | exact Only.refl _ _ | apply Only.alloc | apply Only.more | apply Only.drew)
      · have e1 : (if (true && (decide ((x, y).1 = 2) && decide ((x, y).2 = m0))) = true then some (ATk.give ⟨m2, 1, 0, m0⟩) else none) = none := by simp [q3]
        rw [e1]
        subst q2
        have d2 : (y == m0) = false := beq_eq_false_iff_ne.2 q3
        have d3 : (y != m0) = true := by simp [q3]
        have d4 : decide (y = m0) = false := decide_eq_false q3
        clear e1
        go_enter Try.func63, Try.ntmps63
        go_wp2_with (go_at_call 28; refine (HS.out _ (Below.only0 (by repeat (first | exact Below.refl _ _ | apply Below.drew | apply Below.more1 | apply Below.alloc1 | (refine Below.setCell ?_ (by first | exact Nat.le_refl _ | (simp; done) | (simp; omega)) _))))).mono ?_; rintro e w1 ⟨rfl, hb1⟩; obtain ⟨os, d, rfl⟩ := hb1.more; clear hb1)
        go_ret
        exact NO.out _ (Below.only0 (by repeat (first | exact Below.refl _ _ | apply Below.drew | apply Below.more1 | apply Below.alloc1 | (refine Below.setCell ?_ (by first | exact Nat.le_refl _ | (simp; done) | (simp; omega)) _)))) _ rfl
    · have e1 : (if (true && (decide ((x, y).1 = 2) && decide ((x, y).2 = m0))) = true then some (ATk.give ⟨m2, 1, 0, m0⟩) else none) = none := by simp [q2]
      rw [e1]
      have d2 : (x == 2) = false := beq_eq_false_iff_ne.2 q2
      have d3 : (x != 2) = true := by simp [q2]
      have d4 : decide (x = 2) = false := decide_eq_false q2
      clear e1
      go_enter Try.func63, Try.ntmps63
      go_wp2_with (go_at_call 28; refine (HS.out _ (Below.only0 (by repeat (first | exact Below.refl _ _ | apply Below.drew | apply Below.more1 | apply Below.alloc1 | (refine Below.setCell ?_ (by first | exact Nat.le_refl _ | (simp; done) | (simp; omega)) _))))).mono ?_; rintro e w1 ⟨rfl, hb1⟩; obtain ⟨os, d, rfl⟩ := hb1.more; clear hb1)
      go_ret
      exact NO.out _ (Below.only0 (by repeat (first | exact Below.refl _ _ | apply Below.drew | apply Below.more1 | apply Below.alloc1 | (refine Below.setCell ?_ (by first | exact Nat.le_refl _ | (simp; done) | (simp; omega)) _)))) _ rfl

/-- a task is laid -/
theorem arK_made {w w' : World} {b : Nat} {kit : Value} {vs : List Value} {s : ArS} {ts : List (Option ATk)} {F : Nat → Prop} {ab kb bx : Nat} {av : ArV} {col blk sub : Nat → Nat} (hA : ArKAt w b kit vs s ts F ab kb bx av col blk sub) {mv : Mv} {th : Nat} (hth : mv.th = (th : Int)) (hi : ts[th]? = some none) {r : Option ATk} (hr : arMake s mv = r)
    (hrt : ∀ t, r = some t → t.th = mv.th ∧ t.flOk s th) {e : Ending} (h : AMade w ab r e w') :
    (arMake s mv = none ∧ e = .returned .nilIface ∧ Only (fun _ => False) w w') ∨ ∃ t v F', arMake s mv = some t ∧ e = .returned v ∧ (arK ab).At w' b kit (vs.set th v) s (ts.set th (some t)) F' ∧ Only (fun _ => False) w w' ∧ ∀ k, F' k → F k ∨ w.heap.size ≤ k := by
  rcases h with ⟨rfl, rfl, ho⟩ | ⟨t, bk, sb, rfl, rfl, h1, h2, h3, h4, ho⟩
  · exact .inl ⟨hr, rfl, ho⟩
  · obtain ⟨t1, t2⟩ := hrt t rfl
    have hFb : ∀ j, F j → w'.heap[j]? = w.heap[j]? := fun j hj => ho.block j (hA.lt j hj).2 (fun x => x)
    have hAw := hA.of_block hFb
    have hl : th < ts.length := (List.getElem?_eq_some_iff.1 hi).1
    have hlv : th < vs.length := (List.getElem?_eq_some_iff.1 (hA.no th hi)).1
    have hbb := hA.a.ge
    have hab := (hA.lt ab (hA.fa ab (.inl rfl)).1)
    have hne : ∀ j, F j → j ≠ bk ∧ j ≠ sb := fun j hj => by have := (hA.lt j hj).2; exact ⟨by omega, by omega⟩
    have hsb := (Array.getElem?_eq_some_iff.1 h1).1
    have hbk : bk < w'.heap.size := by
      cases t with
      | take q => exact (Array.getElem?_eq_some_iff.1 h2.1).1
      | give p => rw [show bk = sb from h2]; exact hsb
      | flush p => rw [show bk = sb from h2]; exact hsb
    have hcol : ∀ j, F j → (if j = bk ∨ j = sb then 2 + th else col j) = col j := fun j hj => if_neg (fun x => x.elim (hne j hj).1 (hne j hj).2)
    refine .inr ⟨t, t.val bk, fun j => F j ∨ j = bk ∨ j = sb, hr, rfl, ⟨kb, bx, av, fun j => if j = bk ∨ j = sb then 2 + th else col j, fun j => if j = th then bk else blk j, fun j => if j = th then sb else sub j, hAw.a, hA.kit, hAw.map, hAw.box, ?_, ?_, ?_, ?_, ?_, ?_, ?_⟩, ho, ?_⟩
    · rintro j (hj | rfl | rfl)
      · exact hAw.lt j hj
      · exact ⟨by omega, hbk⟩
      · exact ⟨by omega, hsb⟩
    · intro k hk
      exact ⟨.inl (hA.fa k hk).1, (hcol k (hA.fa k hk).1).trans (hA.fa k hk).2⟩
    · exact ⟨.inl hA.fk.1, (hcol _ hA.fk.1).trans hA.fk.2⟩
    · exact ⟨.inl hA.fx.1, (hcol _ hA.fx.1).trans hA.fx.2⟩
    · intro j hj
      replace hj : (List.set (α := Option ATk) ts th (some t))[j]? = some none := hj
      by_cases e : th = j
      · subst e
        rw [List.getElem?_set_self hl] at hj
        cases hj
      · rw [List.getElem?_set_ne e] at hj ⊢
        exact hA.no j hj
    · intro j t' hj
      replace hj : (List.set (α := Option ATk) ts th (some t))[j]? = some (some t') := hj
      by_cases e : th = j
      · subst e
        rw [List.getElem?_set_self hl] at hj
        obtain rfl : t = t' := Option.some.inj (Option.some.inj hj)
        refine ⟨t1.trans hth, ?_, ?_, ?_, ?_, ?_, ?_, ?_, t2⟩
        · simp [hlv]
        · simp only [if_true]; exact h1
        · simp only [if_true]; exact h2
        · simp
        · simp
        · simp
        · simp
      · rw [List.getElem?_set_ne e] at hj ⊢
        obtain ⟨b1, b2, b3, b4, b5, b6, b7, b8, b9⟩ := hAw.yes j t' hj
        rw [if_neg (Ne.symm e), if_neg (Ne.symm e)]
        exact ⟨b1, b2, b3, b4, .inl b5, .inl b6, (hcol _ b5).trans b7, (hcol _ b6).trans b8, b9⟩
    · show (List.set (α := Option ATk) ts th (some t)).length ≤ _
      rw [List.length_set]; exact hA.few
    · rintro j (hj | rfl | rfl)
      · exact .inl hj
      · exact .inr h3
      · exact .inr h4

theorem make_10 (bx : Nat) (x y : Value) (w0 : World) : (do let d ← Deferred.ofValue (.func (.func 61) #[] #[.pointer (some ⟨bx, 0, none⟩)]) #[x, y]; invoke d.target d.args : Sem Next).run Try.prog w0 = .ok (.enter 61 #[x, y, .pointer (some ⟨bx, 0, none⟩)]) w0 := by kernel_rfl
theorem make_11 (bx : Nat) (x y : Value) (w0 : World) : (do let d ← Deferred.ofValue (.func (.func 63) #[] #[.pointer (some ⟨bx, 0, none⟩)]) #[x, y]; invoke d.target d.args : Sem Next).run Try.prog w0 = .ok (.enter 63 #[x, y, .pointer (some ⟨bx, 0, none⟩)]) w0 := by kernel_rfl
theorem make_12 (bx : Nat) (x y : Value) (w0 : World) : (do let d ← Deferred.ofValue (.func (.func 65) #[] #[.pointer (some ⟨bx, 0, none⟩)]) #[x, y]; invoke d.target d.args : Sem Next).run Try.prog w0 = .ok (.enter 65 #[x, y, .pointer (some ⟨bx, 0, none⟩)]) w0 := by kernel_rfl

theorem _root_.Go.ArKAt.drop {w : World} {b : Nat} {kit : Value} {vs : List Value} {s : ArS} {ts : List (Option ATk)} {F : Nat → Prop} {ab kb bx : Nat} {v : ArV} {col blk sub : Nat → Nat} (h : ArKAt w b kit vs s ts F ab kb bx v col blk sub) (i : Nat) :
    ArKAt w b kit (vs.set i .nilIface) s (ts.set i none) F ab kb bx v col blk sub := by
  refine ⟨h.a, h.kit, h.map, h.box, h.lt, h.fa, h.fk, h.fx, fun j hj => ?_, fun j t hj => ?_, by rw [List.length_set]; exact h.few⟩
  · by_cases e : i = j
    · subst e
      have hl : i < ts.length := by have := (List.getElem?_eq_some_iff.1 hj).1; simpa using this
      have hv : i < vs.length := by
        have he : ts[i]? = some ts[i] := List.getElem?_eq_getElem hl
        cases hti : ts[i] with
        | none => exact (List.getElem?_eq_some_iff.1 (h.no i (by rw [he, hti]))).1
        | some t => exact (List.getElem?_eq_some_iff.1 (h.yes i t (by rw [he, hti])).2.1).1
      rw [List.getElem?_set_self hv]
    · rw [List.getElem?_set_ne e] at hj ⊢
      exact h.no j hj
  · by_cases e : i = j
    · subst e
      rw [List.getElem?_set] at hj
      simp only [if_true] at hj
      split at hj <;> cases hj
    · rw [List.getElem?_set_ne e] at hj ⊢
      exact h.yes j t hj

theorem arK_ok (ab : Nat) : KitsOk (arK ab) where
  loc := by
    rintro w w' b kit vs s ts F ⟨kb, bx, v, col, blk, sub, h⟩ hb
    exact ⟨kb, bx, v, col, blk, sub, h.of_block hb⟩
  lt := by
    rintro w b kit vs s ts F ⟨kb, bx, v, col, blk, sub, h⟩
    exact h.lt
  idle := by
    rintro w b kit vs s ts F ⟨kb, bx, v, col, blk, sub, h⟩
    exact h.no
  busy := by
    rintro w b kit vs s ts F ⟨kb, bx, v, col, blk, sub, h⟩ i t ht
    have h2 := (h.yes i t ht).2.1
    cases t with
    | take q => exact ⟨_, _, h2⟩
    | give p => exact ⟨_, _, h2⟩
    | flush p => exact ⟨_, _, h2⟩
  drop := by
    rintro w b kit vs s ts F ⟨kb, bx, v, col, blk, sub, h⟩ i
    exact ⟨kb, bx, v, col, blk, sub, h.drop i⟩
  few := by
    intro s t d
    obtain ⟨h1, h2, h3, _, _⟩ := few_ready s t d
    obtain ⟨k1, k2, k3, _, _⟩ := few_step s t d
    exact ⟨h1, h2, h3, k1, k2, k3⟩
  keep := by
    intro s t d
    obtain ⟨_, _, _, h4, h5⟩ := few_ready s t d
    obtain ⟨_, _, _, k4, k5⟩ := few_step s t d
    exact ⟨h4, h5, k4, k5⟩
  look := by
    rintro w b kit vs s ts F ⟨kb, bx, v, col, blk, sub, h⟩ op
    obtain rfl : kit = .map (some kb) := h.kit
    obtain ⟨es, clk, hmap, hrd⟩ := h.map
    obtain ⟨r, hfi, hfv⟩ := hrd.now op
    unfold arG at hfv
    by_cases h1 : op = 10
    · subst h1
      rw [if_pos rfl] at hfv
      refine ⟨_, own_lookup hmap 10 hfi, .inr ⟨⟨_, _, _, by rw [hfv]; rfl⟩, ?_⟩⟩
      rw [hfv]
      intro mv th hop hth hi
      refine ⟨61, _, fun w0 => make_10 bx _ _ w0, (kit1_any h.a h.box mv).mono fun e w' hm => ?_⟩
      exact arK_made h hth hi (r := some (.take ⟨mv.th, 1, 0, 0, 0, false⟩)) (by unfold arMake; rw [hop]; rfl) (fun t ht => by cases ht; exact ⟨rfl, fun p hp => by cases hp⟩) hm
    · by_cases h2 : op = 11
      · subst h2
        rw [if_neg (by decide), if_pos rfl] at hfv
        refine ⟨_, own_lookup hmap 11 hfi, .inr ⟨⟨_, _, _, by rw [hfv]; rfl⟩, ?_⟩⟩
        rw [hfv]
        intro mv th hop hth hi
        have hil : th < s.caches.length := Nat.lt_of_lt_of_le (List.getElem?_eq_some_iff.1 hi).1 h.few
        refine ⟨63, _, fun w0 => make_11 bx _ _ w0, (kit2_any h.a h.box mv (by rw [hth]; unfold ArS.thread; simp; omega)).mono fun e w' hm => ?_⟩
        exact arK_made h hth hi (by unfold arMake; rw [hop]; rfl) (fun t ht => by
          split at ht
          · cases ht; exact ⟨rfl, fun p hp => by cases hp⟩
          · cases ht) hm
      · by_cases h3 : op = 12
        · subst h3
          rw [if_neg (by decide), if_neg (by decide), if_pos rfl] at hfv
          refine ⟨_, own_lookup hmap 12 hfi, .inr ⟨⟨_, _, _, by rw [hfv]; rfl⟩, ?_⟩⟩
          rw [hfv]
          intro mv th hop hth hi
          refine ⟨65, _, fun w0 => make_12 bx _ _ w0, (kit3_any h.box mv).mono fun e w' hm => ?_⟩
          exact arK_made h hth hi (r := some (.flush ⟨0, 0, 0, mv.th⟩)) (by unfold arMake; rw [hop]; rfl) (fun t ht => by cases ht; exact ⟨rfl, fun p hp hat => by cases hp; exact absurd rfl hat⟩) hm
        · rw [if_neg h1, if_neg h2, if_neg h3] at hfv
          refine ⟨_, own_lookup hmap op hfi, .inl ⟨by rw [hfv]; rfl, fun mv hop => ?_⟩⟩
          show arMake s mv = none
          unfold arMake
          rw [hop, if_neg h1, if_neg h2, if_neg h3]
  ready_run := fun H ht hy O hf D n1 n2 => arK_ready H ht hy O hf D n1 n2
  step_run := fun H ht hy O hf D n1 n2 => arK_step H ht hy O hf D n1 n2
end Go.Proofs.Ytjcggokhminmoaa
namespace Go
open Go.RowKit
open Go.Proofs.Ytjcggokhminmoaa

def updT (ts : Nat → Option (Bool × ATk)) (i : Nat) (t : Option (Bool × ATk)) : Nat → Option (Bool × ATk) := fun j => if j = i then t else ts j
section
variable {W W' : List Int} {s s' : ArS} {ts : Nat → Option (Bool × ATk)} {mv i j : Nat}
theorem put_n (s : ArS) (k : Nat) (x y : Int) : (s.put k x y).n = s.n := by simp [ArS.put, ArS.n]
theorem put_slots (s : ArS) (k j : Nat) (x y : Int) : (s.put k x y).slots[j]? = if j = k ∧ k < s.n then some (x, y) else s.slots[j]? := by
  unfold ArS.put ArS.n
  simp only [List.getElem?_set]
  by_cases h : k = j
  · subst h
    by_cases h2 : k < s.slots.length
    · simp [h2]
    · simp [h2]
  · have : ¬ j = k := fun e => h e.symm
    simp [h, this]
theorem put_st (s : ArS) (k j : Nat) (x y : Int) (hk : k < s.n) : (s.put k x y).st j = if j = k then x else s.st j := by
  unfold ArS.st
  rw [List.getD_eq_getElem?_getD, put_slots, List.getD_eq_getElem?_getD]
  by_cases h : j = k
  · simp [h, hk]
  · simp [h]
theorem lay_caches (s : ArS) (i j : Nat) (c : List Int) : (s.lay i c).caches[j]? = if j = i ∧ i < s.caches.length then some c else s.caches[j]? := by
  unfold ArS.lay
  simp only [List.getElem?_set]
  by_cases h : i = j
  · subst h
    by_cases h2 : i < s.caches.length
    · simp [h2]
    · simp [h2]
  · have : ¬ j = i := fun e => h e.symm
    simp [h, this]
theorem put_ok (h : s.Ok) (k : Nat) (x y : Int) : (s.put k x y).Ok := ⟨h.cfg, by simpa [ArS.put] using h.slots, h.caches⟩
theorem lay_ok (h : s.Ok) (k : Nat) (c : List Int) : (s.lay k c).Ok := ⟨h.cfg, h.slots, by simpa [ArS.lay] using h.caches⟩

theorem Chain.cong : ∀ {L : List Nat} {x : Int}, s'.n = s.n → (∀ k ∈ L, s'.spare W' k = s.spare W k) → Chain s W x L → Chain s' W' x L := by
  intro L
  induction L with
  | nil => intro x _ _ h; exact h
  | cons k L ih =>
    intro x hn hs h
    obtain ⟨h1, h2, h3⟩ := h
    refine ⟨h1, by rw [hn]; exact h2, ?_⟩
    rw [hs k (by simp)]
    exact ih hn (fun k hk => hs k (by simp [hk])) h3
theorem HeadOk.cong {h : Int} (hn : s'.n = s.n) (hh : HeadOk s h) : HeadOk s' h := ⟨hh.1, hh.2.1, by rw [hn]; exact hh.2.2⟩

/-- another thread's task -/
theorem TaskOk.frame {rd : Bool} {tk : ATk} (h : TaskOk W s j rd tk) (hn : s'.n = s.n) (hh : wHead W' = wHead W ∨ hTag (wHead W) < hTag (wHead W'))
    (hsp2 : ∀ k : Nat, s.slots[k]? = some (2, (j : Int)) → s'.spare W' k = s.spare W k) (hsp1 : ∀ c (k : Nat), s.caches[j]? = some (c ++ [(k : Int)]) → s'.spare W' k = s.spare W k)
    (hsp0 : ∀ k : Nat, wHead W' = wHead W → linkIndex (wHead W) = (k : Int) → s'.spare W' k = s.spare W k)
    (hsl : ∀ k : Nat, s.slots[k]? = some (2, (j : Int)) → s'.slots[k]? = some (2, (j : Int))) (hc : s'.caches[j]? = s.caches[j]?) : TaskOk W' s' j rd tk := by
  have seen : ∀ x, HeadSeen W s x → HeadSeen W' s' x := by
    intro x hx
    refine ⟨hx.1.cong hn, ?_⟩
    have := hx.2
    rcases hh with e | e
    · rw [e]; exact this
    · omega
  cases tk with
  | take q =>
    obtain ⟨h1, h2, h3, h4, h5⟩ := h
    refine ⟨h1, h2, h3, h4.imp id fun ⟨a, b, c⟩ => ⟨a, seen _ b, c⟩, fun h6 => ?_⟩
    obtain ⟨h7, h8⟩ := h5 h6
    refine ⟨⟨h7.1, by rw [hn]; exact h7.2⟩, fun e => ?_⟩
    rcases h4 with ha | ⟨ha, hb, hx⟩
    · omega
    · rcases hh with e2 | e2
      · have e3 : wHead W = q.head := e2.symm.trans e
        rw [← h8 e3]
        exact hsp0 _ e2 (by rw [e3]; omega)
      · rw [e] at e2
        have := hb.2
        omega
  | give p =>
    obtain ⟨h1, h2, h3, k, h4, h5, h6⟩ := h
    exact ⟨h1, h2, h3.imp id fun ⟨a, b⟩ => ⟨a, seen _ b⟩, k, h4, hsl k h5, fun h7 => by rw [hsp2 k h5]; exact h6 h7⟩
  | flush p =>
    obtain ⟨h1, h2⟩ := h
    refine ⟨h1, fun hr => ?_⟩
    obtain ⟨h3, c, k, h4, h5, h6⟩ := h2 hr
    exact ⟨h3.imp id fun ⟨a, b⟩ => ⟨a, seen _ b⟩, c, k, by rw [hc]; exact h4, h5, fun h7 => by rw [hsp1 c k h4]; exact h6 h7⟩

/-- words and arena as they were -/
theorem AInv.retask (H : AInv W s ts mv) (i : Nat) (t : Option (Bool × ATk)) (ht : ∀ rd tk, t = some (rd, tk) → i < s.caches.length ∧ TaskOk W s i rd tk) : AInv W s (updT ts i t) (mv + 1) := by
  refine ⟨H.ok, H.wl, H.head, H.spare, H.free, H.cache, H.cached, by have := H.tag; push_cast; omega, fun j rd tk hj => ?_⟩
  unfold updT at hj
  split at hj
  · rename_i e; rw [e]; exact ht rd tk hj
  · exact H.task j rd tk hj
theorem AInv.skip (H : AInv W s ts mv) : AInv W s ts (mv + 1) :=
  ⟨H.ok, H.wl, H.head, H.spare, H.free, H.cache, H.cached, by have := H.tag; push_cast; omega, H.task⟩

theorem free_idx (H : AInv W s ts mv) {k : Nat} (hk : linkIndex (wHead W) = (k : Int)) : ∃ L, Chain s W (linkIndex (wHead W)) (k :: L) ∧ (k :: L).Nodup ∧ (∀ j, j < s.n → (j ∈ k :: L ↔ s.st j = 0)) ∧ k < s.n := by
  obtain ⟨L, h1, h2, h3⟩ := H.free
  rcases h1.ge with ⟨rfl, e⟩ | ⟨k', L', rfl, e, hl⟩
  · omega
  · obtain rfl : k = k' := by omega
    exact ⟨L', h1, h2, h3, hl⟩
theorem wHead_set_spare (hsb : 1 ≤ s.sb) (k : Nat) (x : Int) : wHead (W.set (s.sb + k) x) = wHead W := by
  unfold wHead
  rw [List.getD_eq_getElem?_getD, List.getElem?_set_ne (by omega), ← List.getD_eq_getElem?_getD]
theorem spare_set_spare {k : Nat} (hl : s.sb + k < W.length) (x : Int) (j : Nat) : s.spare (W.set (s.sb + k) x) j = if j = k then x else s.spare W j := by
  unfold ArS.spare
  rw [List.getD_eq_getElem?_getD, List.getElem?_set, List.getD_eq_getElem?_getD]
  by_cases h : j = k
  · subst h; simp [hl]
  · rw [if_neg (by omega), if_neg h]
theorem wHead_set (hl : 0 < W.length) (x : Int) : wHead (W.set 0 x) = x := by
  unfold wHead
  rw [List.getD_eq_getElem?_getD, List.getElem?_set_self hl]
  rfl
theorem spare_set (hsb : 1 ≤ s.sb) (x : Int) (j : Nat) : s.spare (W.set 0 x) j = s.spare W j := by
  unfold ArS.spare
  rw [List.getD_eq_getElem?_getD, List.getElem?_set_ne (by omega), ← List.getD_eq_getElem?_getD]

/-- a word Spare of a slot that is not free is written -/
theorem AInv.store (H : AInv W s ts mv) {i k : Nat} {x : Int} (hk : k < s.n) (hst : s.st k ≠ 0) (hown : ∀ j : Nat, j ≠ i → s.slots[k]? ≠ some (2, (j : Int)) ∧ s.slots[k]? ≠ some (1, (j : Int))) (hx : SpareOk s x) {t : Option (Bool × ATk)}
    (ht : ∀ rd tk, t = some (rd, tk) → i < s.caches.length ∧ TaskOk (W.set (s.sb + k) x) s i rd tk) : AInv (W.set (s.sb + k) x) s (updT ts i t) (mv + 1) := by
  obtain ⟨n1, n2, n3, n4, n5, n6, n7, n8, n9, n10, n11⟩ := ok_small H.ok
  have hl : s.sb + k < W.length := by have := H.wl; omega
  have e1 := wHead_set_spare (W := W) n5 k x
  have e2 := fun j => spare_set_spare hl x j
  refine ⟨H.ok, by rw [List.length_set]; exact H.wl, by rw [e1]; exact H.head, fun j hj => ?_, ?_, H.cache, H.cached, by rw [e1]; have := H.tag; push_cast; omega, fun j rd tk hj => ?_⟩
  · rw [e2]
    split
    · exact hx
    · exact H.spare j hj
  · obtain ⟨L, h1, h2, h3⟩ := H.free
    refine ⟨L, ?_, h2, h3⟩
    rw [e1]
    refine h1.cong rfl fun j hj => ?_
    rw [e2, if_neg]
    rintro rfl
    exact hst ((h3 j hk).1 hj)
  · unfold updT at hj
    split at hj
    · rename_i e; rw [e]; exact ht rd tk hj
    · rename_i hne
      obtain ⟨h1, h2⟩ := H.task j rd tk hj
      refine ⟨h1, h2.frame rfl (.inl e1) (fun k' hk' => ?_) (fun c k' hk' => ?_) (fun k' _ hk' => ?_) (fun _ h => h) rfl⟩
      · rw [e2, if_neg]
        rintro rfl
        exact (hown j hne).1 hk'
      · rw [e2, if_neg]
        rintro rfl
        obtain ⟨k2, e3, e4⟩ := (H.cache j _ hk').2.2 (k' : Int) (by simp)
        obtain rfl : k' = k2 := by omega
        exact (hown j hne).2 e4
      · rw [e2, if_neg]
        rintro rfl
        obtain ⟨L, h1, h2, h3, h4⟩ := free_idx H hk'
        exact hst ((h3 k' h4).1 (by simp))

/-- the word Free is written: the tag goes up -/
theorem AInv.swap (H : AInv W s ts mv) (_hmv : mv ≤ 65536) {i : Nat} {x : Int} {s' : ArS} (hn : s'.n = s.n) (hok : s'.Ok) (hsz : s'.sb = s.sb ∧ s'.size = s.size ∧ s'.c4 = s.c4 ∧ s'.caches.length = s.caches.length) (hx : HeadOk s x) (htag : hTag x = hTag (wHead W) + 1)
    {L : List Nat} (hL : Chain s W (linkIndex x) L) (hnd : L.Nodup) (hfree : ∀ k, k < s.n → (k ∈ L ↔ s'.st k = 0))
    (hcache : ∀ (i : Nat) (c : List Int), s'.caches[i]? = some c → c.Nodup ∧ (c.length : Int) ≤ s.c4 ∧ ∀ x ∈ c, ∃ k : Nat, x = (k : Int) ∧ s'.slots[k]? = some (1, (i : Int)))
    (hcached : ∀ (k : Nat) (x : Int), s'.slots[k]? = some (1, x) → ∃ (i : Nat) (c : List Int), x = (i : Int) ∧ s'.caches[i]? = some c ∧ (k : Int) ∈ c)
    (hsl : ∀ (j k : Nat), j ≠ i → s.slots[k]? = some (2, (j : Int)) → s'.slots[k]? = some (2, (j : Int))) (hcs : ∀ j : Nat, j ≠ i → s'.caches[j]? = s.caches[j]?) {t : Option (Bool × ATk)}
    (ht : ∀ rd tk, t = some (rd, tk) → i < s.caches.length ∧ TaskOk (W.set 0 x) s' i rd tk) : AInv (W.set 0 x) s' (updT ts i t) (mv + 1) := by
  obtain ⟨n1, n2, n3, n4, n5, n6, n7, n8, n9, n10, n11⟩ := ok_small H.ok
  have hl : 0 < W.length := by have := H.wl; omega
  have e1 := wHead_set (W := W) hl x
  have e2 : ∀ j, s'.spare (W.set 0 x) j = s.spare W j := fun j => by
    have := spare_set (W := W) (s := s) n5 x j
    unfold ArS.spare at this ⊢
    rw [hsz.1]; exact this
  refine ⟨hok, by rw [List.length_set, hsz.2.1]; exact H.wl, by rw [e1]; exact hx.cong hn, fun j hj => ?_, ⟨L, ?_, hnd, fun k hk => hfree k (by rw [← hn]; exact hk)⟩, ?_, hcached, by rw [e1, htag]; have := H.tag; push_cast; omega, fun j rd tk hj => ?_⟩
  · rw [e2]
    have := H.spare j (by rw [← hn]; exact hj)
    exact ⟨this.1, by rw [hn]; exact this.2⟩
  · rw [e1]
    exact hL.cong hn fun k _ => e2 k
  · rw [hsz.2.2.1]; exact hcache
  · rw [hsz.2.2.2]
    unfold updT at hj
    split at hj
    · rename_i e; rw [e]; exact ht rd tk hj
    · rename_i hne
      obtain ⟨h1, h2⟩ := H.task j rd tk hj
      exact ⟨h1, h2.frame hn (.inr (by rw [e1, htag]; omega)) (fun k' _ => e2 k') (fun c k' _ => e2 k') (fun k' _ _ => e2 k') (fun k hk => hsl j k hne hk) (hcs j hne)⟩
end
end Go
namespace Go
open Go.RowKit
open Go.Proofs.Ytjcggokhminmoaa

section
variable {W : List Int} {s s' : ArS} {ts : Nat → Option (Bool × ATk)} {mv i : Nat}
/-- the caches' two laws, for an arena -/
structure CacheOk (s : ArS) (c4 : Int) : Prop where
  cache : ∀ (i : Nat) (c : List Int), s.caches[i]? = some c → c.Nodup ∧ (c.length : Int) ≤ c4 ∧ ∀ x ∈ c, ∃ k : Nat, x = (k : Int) ∧ s.slots[k]? = some (1, (i : Int))
  cached : ∀ (k : Nat) (x : Int), s.slots[k]? = some (1, x) → ∃ (i : Nat) (c : List Int), x = (i : Int) ∧ s.caches[i]? = some c ∧ (k : Int) ∈ c
theorem AInv.cok (H : AInv W s ts mv) : CacheOk s s.c4 := ⟨H.cache, H.cached⟩
/-- a slot leaves its cache -/
theorem CacheOk.pop {c4 : Int} (H : CacheOk s c4) {c : List Int} {k : Nat} (hc : s.caches[i]? = some (c ++ [(k : Int)])) {x y : Int} (hx : x ≠ 1) : CacheOk ((s.lay i c).put k x y) c4 := by
  obtain ⟨h1, h2, h3⟩ := H.cache i _ hc
  obtain ⟨k', e, hk⟩ := h3 (k : Int) (by simp)
  obtain rfl : k = k' := by omega
  have hkn : k < s.n := (getD_n hk).1
  have hil := (List.getElem?_eq_some_iff.1 hc).1
  have hcs : ∀ j, ((s.lay i c).put k x y).caches[j]? = if j = i then some c else s.caches[j]? := fun j => by
    have := lay_caches s i j c
    rw [show ((s.lay i c).put k x y).caches = (s.lay i c).caches from rfl, this]
    by_cases e : j = i <;> simp [e, hil]
  have hsl : ∀ j, ((s.lay i c).put k x y).slots[j]? = if j = k then some (x, y) else s.slots[j]? := fun j => by
    rw [put_slots]
    have : (s.lay i c).n = s.n := rfl
    by_cases e : j = k <;> simp [e, this, hkn] <;> rfl
  have hnd := List.nodup_append.1 h1
  constructor
  · intro j d hd
    rw [hcs] at hd
    split at hd
    · rename_i e
      cases hd
      refine ⟨hnd.1, by simp at h2; omega, fun z hz => ?_⟩
      obtain ⟨kz, rfl, hkz⟩ := h3 z (by simp [hz])
      refine ⟨kz, rfl, ?_⟩
      rw [hsl, if_neg, e]
      · exact hkz
      · rintro rfl
        exact hnd.2.2 _ hz _ (by simp) rfl
    · rename_i hne
      obtain ⟨d1, d2, d3⟩ := H.cache j d hd
      refine ⟨d1, d2, fun z hz => ?_⟩
      obtain ⟨kz, rfl, hkz⟩ := d3 z hz
      refine ⟨kz, rfl, ?_⟩
      rw [hsl, if_neg]
      · exact hkz
      · rintro rfl
        rw [hkz] at hk
        simp at hk
        omega
  · intro j z hz
    rw [hsl] at hz
    split at hz
    · simp at hz; exact absurd hz.1 hx
    · rename_i hne
      obtain ⟨i', d, rfl, hd, hj⟩ := H.cached j z hz
      by_cases e : i' = i
      · subst e
        rw [hc] at hd
        cases hd
        refine ⟨i', c, rfl, by rw [hcs, if_pos rfl], ?_⟩
        simp only [List.mem_append, List.mem_singleton] at hj
        rcases hj with hj | hj
        · exact hj
        · exact absurd (Int.ofNat.inj hj) hne
      · exact ⟨i', d, rfl, by rw [hcs, if_neg e]; exact hd, hj⟩
/-- a slot goes into a cache -/
theorem CacheOk.push {c4 : Int} (H : CacheOk s c4) {c : List Int} {k : Nat} (hc : s.caches[i]? = some c) (hl : (c.length : Int) < c4) {y0 : Int × Int} (hk : s.slots[k]? = some y0) (hy : y0.1 ≠ 1) : CacheOk ((s.lay i (c ++ [(k : Int)])).put k 1 i) c4 := by
  obtain ⟨h1, h2, h3⟩ := H.cache i _ hc
  have hkn : k < s.n := (getD_n hk).1
  have hil := (List.getElem?_eq_some_iff.1 hc).1
  have hcs : ∀ j, ((s.lay i (c ++ [(k : Int)])).put k 1 i).caches[j]? = if j = i then some (c ++ [(k : Int)]) else s.caches[j]? := fun j => by
    have := lay_caches s i j (c ++ [(k : Int)])
    rw [show ((s.lay i (c ++ [(k : Int)])).put k 1 i).caches = (s.lay i (c ++ [(k : Int)])).caches from rfl, this]
    by_cases e : j = i <;> simp [e, hil]
  have hsl : ∀ j, ((s.lay i (c ++ [(k : Int)])).put k 1 i).slots[j]? = if j = k then some (1, (i : Int)) else s.slots[j]? := fun j => by
    rw [put_slots]
    have : (s.lay i (c ++ [(k : Int)])).n = s.n := rfl
    by_cases e : j = k <;> simp [e, this, hkn] <;> rfl
  have hnot : ∀ (j : Nat) (d : List Int), s.caches[j]? = some d → (k : Int) ∉ d := fun j d hd hm => by
    obtain ⟨kz, e, hkz⟩ := (H.cache j d hd).2.2 _ hm
    obtain rfl : k = kz := by omega
    rw [hk] at hkz
    cases hkz
    exact hy rfl
  constructor
  · intro j d hd
    rw [hcs] at hd
    split at hd
    · rename_i e
      cases hd
      refine ⟨List.nodup_append.2 ⟨h1, by simp, ?_⟩, by simp; omega, fun z hz => ?_⟩
      · rintro z hz w hw rfl
        simp at hw
        exact hnot i c hc (hw ▸ hz)
      · simp only [List.mem_append, List.mem_singleton] at hz
        rcases hz with hz | rfl
        · obtain ⟨kz, rfl, hkz⟩ := h3 z hz
          refine ⟨kz, rfl, ?_⟩
          rw [hsl, if_neg, e]
          · exact hkz
          · rintro rfl
            exact hnot i c hc hz
        · exact ⟨k, rfl, by rw [hsl, if_pos rfl, e]⟩
    · obtain ⟨d1, d2, d3⟩ := H.cache j d hd
      refine ⟨d1, d2, fun z hz => ?_⟩
      obtain ⟨kz, rfl, hkz⟩ := d3 z hz
      refine ⟨kz, rfl, ?_⟩
      rw [hsl, if_neg]
      · exact hkz
      · rintro rfl
        exact hnot j d hd hz
  · intro j z hz
    rw [hsl] at hz
    split at hz
    · rename_i e
      simp at hz
      subst e
      exact ⟨i, c ++ [(j : Int)], by omega, by rw [hcs, if_pos rfl], by simp⟩
    · obtain ⟨i', d, rfl, hd, hj⟩ := H.cached j z hz
      by_cases e : i' = i
      · subst e
        rw [hc] at hd
        cases hd
        exact ⟨i', c ++ [(k : Int)], rfl, by rw [hcs, if_pos rfl], by simp [hj]⟩
      · exact ⟨i', d, rfl, by rw [hcs, if_neg e]; exact hd, hj⟩
/-- a slot that is in no cache changes -/
theorem CacheOk.turn {c4 : Int} (H : CacheOk s c4) {k : Nat} {y0 : Int × Int} (hk : s.slots[k]? = some y0) (hy : y0.1 ≠ 1) {x y : Int} (hx : x ≠ 1) : CacheOk (s.put k x y) c4 := by
  have hkn : k < s.n := (getD_n hk).1
  have hsl : ∀ j, (s.put k x y).slots[j]? = if j = k then some (x, y) else s.slots[j]? := fun j => by
    rw [put_slots]
    by_cases e : j = k <;> simp [e, hkn]
  constructor
  · intro j d hd
    obtain ⟨d1, d2, d3⟩ := H.cache j d hd
    refine ⟨d1, d2, fun z hz => ?_⟩
    obtain ⟨kz, rfl, hkz⟩ := d3 z hz
    refine ⟨kz, rfl, ?_⟩
    rw [hsl, if_neg]
    · exact hkz
    · rintro rfl
      rw [hk] at hkz
      cases hkz
      exact hy rfl
  · intro j z hz
    rw [hsl] at hz
    split at hz
    · simp at hz; exact absurd hz.1 hx
    · exact H.cached j z hz

/-- the words stay, the arena changes -/
theorem AInv.change (H : AInv W s ts mv) {i : Nat} {s' : ArS} (hn : s'.n = s.n) (hok : s'.Ok) (hsz : s'.sb = s.sb ∧ s'.size = s.size ∧ s'.c4 = s.c4 ∧ s'.caches.length = s.caches.length) (hfree : ∀ k, k < s.n → (s'.st k = 0 ↔ s.st k = 0))
    (hc : CacheOk s' s.c4) (hsl : ∀ (j k : Nat), j ≠ i → s.slots[k]? = some (2, (j : Int)) → s'.slots[k]? = some (2, (j : Int))) (hcs : ∀ j : Nat, j ≠ i → s'.caches[j]? = s.caches[j]?) : AInv W s' (updT ts i none) (mv + 1) := by
  have e2 : ∀ j, s'.spare W j = s.spare W j := fun j => by unfold ArS.spare; rw [hsz.1]
  refine ⟨hok, by rw [hsz.2.1]; exact H.wl, H.head.cong hn, fun j hj => ?_, ?_, by rw [hsz.2.2.1]; exact hc.cache, hc.cached, by have := H.tag; push_cast; omega, fun j rd tk hj => ?_⟩
  · rw [e2]
    have := H.spare j (by rw [← hn]; exact hj)
    exact ⟨this.1, by rw [hn]; exact this.2⟩
  · obtain ⟨L, h1, h2, h3⟩ := H.free
    exact ⟨L, h1.cong hn fun k _ => e2 k, h2, fun k hk => (h3 k (by rw [← hn]; exact hk)).trans (hfree k (by rw [← hn]; exact hk)).symm⟩
  · unfold updT at hj
    split at hj
    · cases hj
    · rename_i hne
      obtain ⟨h1, h2⟩ := H.task j rd tk hj
      exact ⟨by rw [hsz.2.2.2]; exact h1, h2.frame hn (.inl rfl) (fun k' _ => e2 k') (fun c k' _ => e2 k') (fun k' _ _ => e2 k') (fun k hk => hsl j k hne hk) (hcs j hne)⟩

theorem st_of {k : Nat} {y : Int × Int} (h : s.slots[k]? = some y) : s.st k = y.1 := (getD_n h).2
theorem slot_some {k : Nat} (hk : k < s.n) : ∃ y, s.slots[k]? = some y := ⟨_, List.getElem?_eq_getElem hk⟩
theorem put_keep {k : Nat} {y0 : Int × Int} (hk : s.slots[k]? = some y0) {x y : Int} {j k' : Nat} (hne : y0 ≠ (2, (j : Int))) (h : s.slots[k']? = some (2, (j : Int))) : (s.put k x y).slots[k']? = some (2, (j : Int)) := by
  rw [put_slots, if_neg]
  · exact h
  · rintro ⟨rfl, _⟩
    rw [hk] at h
    exact hne (Option.some.inj h)

/-- each step keeps it -/
theorem AInv.step (H : AInv W s ts mv) (hmv : mv ≤ 65536) {rd : Bool} {tk : ATk} (ht : ts i = some (rd, tk)) {o : AOut} (ho : AStep W s i rd tk o) : AInv o.W o.s (updT ts i (o.tk.map fun t => (true, t))) (mv + 1) := by
  obtain ⟨n1, n2, n3, n4, n5, n6, n7, n8, n9, n10, n11⟩ := ok_small H.ok
  obtain ⟨hil, hT⟩ := H.task i rd tk ht
  have hhd := H.head
  have htag0 : 0 ≤ hTag (wHead W) := by rw [hhd.tag n2]; have := hhd.1; omega
  have seen0 : HeadSeen W s (wHead W) := ⟨hhd, Int.le_refl _⟩
  have htg := H.tag
  have same : ∀ {t : Option (Bool × ATk)}, (∀ rd tk, t = some (rd, tk) → TaskOk W s i rd tk) → AInv W s (updT ts i t) (mv + 1) := fun h => H.retask i _ fun rd tk e => ⟨hil, h rd tk e⟩
  -- a push that came through
  have push : ∀ {k : Nat} {h : Int}, HeadOk s h → wHead W = h → k < s.n → s.spare W k = mkLink (linkIndex h) → HeadOk s (mkHead (tagUp h) k) ∧ hTag (mkHead (tagUp h) k) = hTag (wHead W) + 1 ∧
      ∃ L, Chain s W (linkIndex (mkHead (tagUp h) k)) (k :: L) ∧ (s.st k ≠ 0 → (k :: L).Nodup) ∧ ∀ j, j < s.n → (j ∈ L ↔ s.st j = 0) := by
    intro k h hh he hk hsp
    have e1 := tagUp_eq hh n2 (by rw [← he]; omega)
    rw [← he] at e1
    obtain ⟨b1, b2, b3⟩ := head_new (s := s) (t := hTag (wHead W) + 1) (i := k) (by omega) (by omega) (by omega) (by omega) n2
    rw [← he, e1]
    obtain ⟨L, h1, h2, h3⟩ := H.free
    refine ⟨b1, b3, L, ⟨b2, hk, ?_⟩, fun hs => List.nodup_cons.2 ⟨fun hm => hs ((h3 k hk).1 hm), h2⟩, h3⟩
    rw [hsp, ← he, mkLink_eq (linkIndex_ge _) (by have := hhd.2.2; omega)]
    rw [show linkIndex (wHead W) + 1 - 1 = linkIndex (wHead W) by omega]
    exact h1
  cases ho with
  | @takeCached q c k hq hc hk =>
    obtain ⟨h1, h2, h3⟩ := H.cache i _ hc
    obtain ⟨k', e, hk'⟩ := h3 (k : Int) (by simp)
    obtain rfl : k = k' := by omega
    refine H.change (put_n _ _ _ _) (put_ok (lay_ok H.ok i c) k 2 i) ⟨rfl, rfl, rfl, by simp [ArS.put, ArS.lay]⟩ (fun j hj => ?_) (H.cok.pop hc (by decide)) (fun j k2 hne h => ?_) (fun j hne => ?_)
    · show ((s.lay i c).put k 2 i).st j = 0 ↔ _
      rw [put_st _ _ _ _ _ (show k < (s.lay i c).n from hk)]
      split
      · rename_i e; rw [e, st_of hk']; simp
      · exact Iff.rfl
    · exact put_keep (s := s.lay i c) (y0 := (1, (i : Int))) hk' (by simp) h
    · show (s.lay i c).caches[j]? = _
      rw [lay_caches, if_neg (fun h => hne h.1)]
  | takeLoad hr hq hx =>
    refine same fun rd tk e => ?_
    cases e
    exact ⟨hT.1, hT.2.1, fun h => (by cases h), .inr ⟨.inl rfl, seen0, hx⟩, fun h => absurd h (show ¬ (2 : Int) = 3 by decide)⟩
  | takeFull hr hq hx => exact same fun rd tk e => by cases e
  | @takeNext q k hq hk hl =>
    refine same fun rd tk e => ?_
    cases e
    obtain ⟨h1, h2, h3, h4, h5⟩ := hT
    have h6 : HeadSeen W s q.head ∧ 0 ≤ linkIndex q.head := by
      rcases h4 with h | ⟨_, h⟩
      · omega
      · exact h
    refine ⟨h1, h2, fun h => (by cases h), .inr ⟨.inr rfl, h6.1, h6.2⟩, fun _ => ⟨H.spare k hl, fun _ => ?_⟩⟩
    show s.spare W (linkIndex q.head).toNat = s.spare W k
    rw [hk]
    rfl
  | @takeYes q k hq hk hl he =>
    obtain ⟨h1, h2, h3, h4, h5⟩ := hT
    obtain ⟨h6, h7⟩ := h5 hq
    have hsp : s.spare W k = q.next := by have := h7 he; rw [hk] at this; exact this
    rw [← he] at hk
    obtain ⟨L, c1, c2, c3, c4⟩ := free_idx H hk
    have hch := c1.2.2
    have hhq : HeadOk s q.head := he ▸ hhd
    have e1 := tagUp_eq hhq n2 (by rw [← he]; omega)
    rw [← he] at e1
    have hli : lIdx q.next = s.spare W k - 1 := by rw [h6.idx n2, hsp]
    obtain ⟨b1, b2, b3⟩ := head_new (s := s) (t := hTag (wHead W) + 1) (i := s.spare W k - 1) (by omega) (by omega) (by have := (H.spare k hl).1; omega) (by have := (H.spare k hl).2; omega) n2
    have hst : s.st k = 0 := (c3 k hl).1 (by simp)
    obtain ⟨y0, hy0⟩ := slot_some hl
    have hy1 : y0.1 = 0 := by rw [← st_of hy0]; exact hst
    rw [← he, e1, hli]
    refine H.swap hmv (put_n _ _ _ _) (put_ok H.ok k 2 i) ⟨rfl, rfl, rfl, rfl⟩ b1 b3 (L := L) (by rw [b2]; exact hch) (List.nodup_cons.1 c2).2 (fun j hj => ?_) (H.cok.turn hy0 (by omega) (by decide)).cache (H.cok.turn hy0 (by omega) (by decide)).cached
      (fun j k2 hne h => put_keep hy0 (fun e => by rw [e] at hy1; simp at hy1) h) (fun _ _ => rfl) (fun rd tk e => by cases e)
    rw [put_st _ _ _ _ _ hl]
    split
    · rename_i e
      rw [e]
      exact ⟨fun h => absurd h (List.nodup_cons.1 c2).1, fun h => absurd h (by decide)⟩
    · rename_i hne
      rw [← c3 j hj]
      simp [hne]
  | takeNo hq hne =>
    refine same fun rd tk e => ?_
    cases e
    exact ⟨hT.1, hT.2.1, fun h => (by cases h), .inl rfl, fun h => absurd h (show ¬ (1 : Int) = 3 by decide)⟩
  | @giveCached p c k hp hc hl hk hkl =>
    obtain ⟨h1, h3, h4, k', e, hsl, h5⟩ := hT
    obtain rfl : k = k' := by omega
    refine H.change (put_n _ _ _ _) (put_ok (lay_ok H.ok i _) k 1 i) ⟨rfl, rfl, rfl, by simp [ArS.put, ArS.lay]⟩ (fun j hj => ?_) (H.cok.push hc hl hsl (show (2 : Int) ≠ 1 by decide)) (fun j k2 hne h => ?_) (fun j hne => ?_)
    · show ((s.lay i (c ++ [(k : Int)])).put k 1 i).st j = 0 ↔ _
      rw [put_st _ _ _ _ _ (show k < (s.lay i (c ++ [(k : Int)])).n from hkl)]
      split
      · rename_i e; rw [e, st_of hsl]; simp
      · exact Iff.rfl
    · exact put_keep (s := s.lay i (c ++ [(k : Int)])) (y0 := (2, (i : Int))) hsl (by simp; omega) h
    · show (s.lay i (c ++ [(k : Int)])).caches[j]? = _
      rw [lay_caches, if_neg (fun h => hne h.1)]
  | giveLoad hr hp =>
    refine same fun rd tk e => ?_
    cases e
    obtain ⟨h1, h3, h4, k, e, hsl, h5⟩ := hT
    exact ⟨h1, fun h => (by cases h), .inr ⟨.inl rfl, seen0⟩, k, e, hsl, fun h => absurd h (show ¬ (2 : Int) = 3 by decide)⟩
  | @giveStore p k hp hk hkl =>
    obtain ⟨h1, h3, h4, k', e, hsl, h5⟩ := hT
    obtain rfl : k = k' := by omega
    have h6 : HeadSeen W s p.head := by
      rcases h4 with h | ⟨_, h⟩
      · omega
      · exact h
    have hx : SpareOk s (mkLink (linkIndex p.head)) := by
      rw [mkLink_eq (linkIndex_ge _) (by have := h6.1.2.2; omega)]
      exact ⟨by have := linkIndex_ge p.head; omega, by have := h6.1.2.2; omega⟩
    have hl : s.sb + k < W.length := by have := H.wl; omega
    refine H.store hkl (by rw [st_of hsl]; simp) (fun j hne => ⟨?_, ?_⟩) hx (fun rd tk e => ?_)
    · rw [hsl]; simp; omega
    · rw [hsl]; simp
    · cases e
      refine ⟨hil, h1, fun h => (by cases h), .inr ⟨.inr rfl, h6.1, ?_⟩, k, hk, hsl, fun _ => ?_⟩
      · rw [wHead_set_spare n5]; exact h6.2
      · rw [spare_set_spare hl, if_pos rfl]
  | @giveYes p k hp hk hkl he =>
    obtain ⟨h1, h3, h4, k', e, hsl, h5⟩ := hT
    obtain rfl : k = k' := by omega
    obtain ⟨b1, b3, L, c1, c2, c3⟩ := push (he ▸ hhd) he hkl (h5 hp)
    have hst := st_of hsl
    refine H.swap hmv (put_n _ _ _ _) (put_ok H.ok k 0 (-1)) ⟨rfl, rfl, rfl, rfl⟩ b1 b3 c1 (c2 (by rw [hst]; simp)) (fun j hj => ?_) (H.cok.turn hsl (show (2 : Int) ≠ 1 by decide) (by decide)).cache (H.cok.turn hsl (show (2 : Int) ≠ 1 by decide) (by decide)).cached
      (fun j k2 hne h => put_keep hsl (by simp; omega) h) (fun _ _ => rfl) (fun rd tk e => by cases e)
    rw [put_st _ _ _ _ _ hkl]
    split
    · rename_i e; simp [e]
    · rename_i hne
      rw [← c3 j hj]
      simp [hne]
  | giveNo hp hne =>
    refine same fun rd tk e => ?_
    cases e
    obtain ⟨h1, h3, h4, k, e, hsl, h5⟩ := hT
    exact ⟨h1, fun h => (by cases h), .inl rfl, k, e, hsl, fun h => absurd h (show ¬ (1 : Int) = 3 by decide)⟩
  | flushEmpty hc => exact same fun rd tk e => by cases e
  | @flushFirst p c k hc =>
    refine same fun rd tk e => ?_
    cases e
    exact ⟨hT.1, fun _ => ⟨.inr ⟨.inl rfl, seen0⟩, c, k, hc, rfl, fun h => absurd h (show ¬ (2 : Int) = 3 by decide)⟩⟩
  | flushLoad hp =>
    refine same fun rd tk e => ?_
    cases e
    obtain ⟨h1, h2⟩ := hT
    obtain ⟨h3, c, k, h4, h5, h6⟩ := h2 rfl
    exact ⟨h1, fun _ => ⟨.inr ⟨.inl rfl, seen0⟩, c, k, h4, h5, fun h => absurd h (show ¬ (2 : Int) = 3 by decide)⟩⟩
  | @flushStore p k hp hk hkl =>
    obtain ⟨h1, h2⟩ := hT
    obtain ⟨h4, c, k', hc, e, h5⟩ := h2 rfl
    obtain rfl : k = k' := by omega
    obtain ⟨k', e', hsl⟩ := (H.cache i _ hc).2.2 (k : Int) (by simp)
    obtain rfl : k = k' := by omega
    have h6 : HeadSeen W s p.head := by
      rcases h4 with h | ⟨_, h⟩
      · omega
      · exact h
    have hx : SpareOk s (mkLink (linkIndex p.head)) := by
      rw [mkLink_eq (linkIndex_ge _) (by have := h6.1.2.2; omega)]
      exact ⟨by have := linkIndex_ge p.head; omega, by have := h6.1.2.2; omega⟩
    have hl : s.sb + k < W.length := by have := H.wl; omega
    refine H.store hkl (by rw [st_of hsl]; simp) (fun j hne => ⟨?_, ?_⟩) hx (fun rd tk e => ?_)
    · rw [hsl]; simp
    · rw [hsl]; simp; omega
    · cases e
      refine ⟨hil, h1, fun _ => ⟨.inr ⟨.inr rfl, h6.1, ?_⟩, c, k, hc, hk, fun _ => ?_⟩⟩
      · rw [wHead_set_spare n5]; exact h6.2
      · rw [spare_set_spare hl, if_pos rfl]
  | @flushLast p k hp hk hkl he hc =>
    obtain ⟨h1, h2⟩ := hT
    obtain ⟨h4, c, k', hc', e, h5⟩ := h2 rfl
    obtain rfl : k = k' := by omega
    obtain ⟨k', e', hsl⟩ := (H.cache i _ hc).2.2 (k : Int) (by simp)
    obtain rfl : k = k' := by omega
    obtain ⟨b1, b3, L, c1, c2, c3⟩ := push (he ▸ hhd) he hkl (h5 hp)
    have hst := st_of hsl
    have hcok : CacheOk ((s.put k 0 (-1)).lay i []) s.c4 := H.cok.pop (c := []) hc (by decide)
    refine H.swap hmv (s' := (s.put k 0 (-1)).lay i []) (put_n s k 0 (-1)) (lay_ok (put_ok H.ok k 0 (-1)) i []) ⟨rfl, rfl, rfl, by simp [ArS.put, ArS.lay]⟩ b1 b3 c1 (c2 (by rw [hst]; simp)) (fun j hj => ?_) hcok.cache hcok.cached
      (fun j k2 hne h => put_keep hsl (by simp) h) (fun j hne => ?_) (fun rd tk e => by cases e)
    · show _ ↔ (s.put k 0 (-1)).st j = 0
      rw [put_st _ _ _ _ _ hkl]
      split
      · rename_i e; simp [e]
      · rename_i hne
        rw [← c3 j hj]
        simp [hne]
    · rw [lay_caches, if_neg (fun h => hne h.1)]
      rfl
  | @flushMore p c k k2 hp hk hkl he hc =>
    obtain ⟨h1, h2⟩ := hT
    obtain ⟨h4, c', k', hc', e, h5⟩ := h2 rfl
    obtain rfl : k = k' := by omega
    obtain ⟨k', e', hsl⟩ := (H.cache i _ hc).2.2 (k : Int) (by simp)
    obtain rfl : k = k' := by omega
    obtain ⟨b1, b3, L, c1, c2, c3⟩ := push (he ▸ hhd) he hkl (h5 hp)
    have hst := st_of hsl
    have hcok : CacheOk ((s.put k 0 (-1)).lay i (c ++ [(k2 : Int)])) s.c4 := H.cok.pop (c := c ++ [(k2 : Int)]) hc (by decide)
    refine H.swap hmv (s' := (s.put k 0 (-1)).lay i (c ++ [(k2 : Int)])) (put_n s k 0 (-1)) (lay_ok (put_ok H.ok k 0 (-1)) i _) ⟨rfl, rfl, rfl, by simp [ArS.put, ArS.lay]⟩ b1 b3 c1 (c2 (by rw [hst]; simp)) (fun j hj => ?_) hcok.cache hcok.cached
      (fun j k2 hne h => put_keep hsl (by simp) h) (fun j hne => ?_) (fun rd tk e => ?_)
    · show _ ↔ (s.put k 0 (-1)).st j = 0
      rw [put_st _ _ _ _ _ hkl]
      split
      · rename_i e; simp [e]
      · rename_i hne
        rw [← c3 j hj]
        simp [hne]
    · rw [lay_caches, if_neg (fun h => hne h.1)]
      rfl
    · cases e
      refine ⟨hil, h1, fun _ => ⟨.inl rfl, c, k2, ?_, rfl, fun h => absurd h (show ¬ (1 : Int) = 3 by decide)⟩⟩
      rw [lay_caches, if_pos ⟨rfl, by show i < s.caches.length; exact hil⟩]
  | flushNo hp hne =>
    refine same fun rd tk e => ?_
    cases e
    obtain ⟨h1, h2⟩ := hT
    obtain ⟨h3, c, k, h4, h5, h6⟩ := h2 rfl
    exact ⟨h1, fun _ => ⟨.inl rfl, c, k, h4, h5, fun h => absurd h (show ¬ (1 : Int) = 3 by decide)⟩⟩
end
end Go
