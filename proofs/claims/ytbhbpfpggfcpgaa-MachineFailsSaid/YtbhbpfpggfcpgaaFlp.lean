/-
Who fails is overtaken; who is alone ends within three steps (MachineFails). Plain.
-/
import Derived.Test.YtbhbpfpggfcpgaaHis
namespace Go
open Go.RowKit
open Go.Proofs.Ytbhbpfpggfcpgaa

/-- entry number k, a swap of a's, was overtaken -/
def Ovt (log : List Acc) (k : Nat) (a : Acc) : Prop :=
  ∃ (j : Nat) (b : Acc), j < k ∧ log[j]? = some b ∧ b.kd = 3 ∧ b.ad = a.ad ∧ b.saw = b.old ∧ ∀ (m : Nat) (x : Acc), j ≤ m → m < k → log[m]? = some x → x.th ≠ a.th

theorem wr_some (log : List Acc) : ∀ (ws : List Int) (a : Nat), (log.foldl wrA ws).getD a 0 ≠ ws.getD a 0 → ∃ (j : Nat) (b : Acc), log[j]? = some b ∧ b.kd = 3 ∧ b.saw = b.old ∧ b.ad.toNat = a := by
  induction log with
  | nil => intro ws a h; exact absurd rfl h
  | cons e log ih =>
    intro ws a h
    by_cases h1 : (log.foldl wrA (wrA ws e)).getD a 0 = (wrA ws e).getD a 0
    · have h2 : (wrA ws e).getD a 0 ≠ ws.getD a 0 := by
        intro h3; exact h (h1.trans h3)
      unfold wrA at h2
      split at h2
      · rename_i hc
        refine ⟨0, e, rfl, hc.1, hc.2.symm, ?_⟩
        by_cases he : e.ad.toNat = a
        · exact he
        · exact absurd (by simp [List.getD_eq_getElem?_getD, he]) h2
      · exact absurd rfl h2
    · obtain ⟨j, b, q⟩ := ih _ _ h1
      exact ⟨j + 1, b, q⟩

def SeatF (l : List Int) (o : OS) (i : Nat) : Tk → Prop
  | .bump a saw true => ∃ k0 : Nat, k0 ≤ o.log.length ∧ (∀ (m : Nat) (x : Acc), k0 ≤ m → o.log[m]? = some x → x.th ≠ (i : Int)) ∧ ((o.log.take k0).foldl wrA l).getD a.toNat 0 = saw
  | _ => True
structure OS.Fl (l : List Int) (o : OS) : Prop where
  seat : ∀ (i : Nat) (se : OSeat) (t : Tk), o.seats[i]? = some se → se.task = some t → SeatF l o i t
  log : ∀ (k : Nat) (a : Acc), o.log[k]? = some a → a.kd = 3 → a.saw ≠ a.old → Ovt o.log k a

theorem OS.Fl.init (l : List Int) (n : Nat) : OS.Fl l (OS.init l n) := by
  refine ⟨fun i se t h ht => ?_, fun k a h => (by simp [OS.init] at h)⟩
  simp only [OS.init, List.getElem?_replicate] at h
  split at h
  · cases h; cases ht
  · cases h

theorem Ovt.app {log : List Acc} {e : Acc} {k : Nat} {a : Acc} (h : Ovt log k a) (hk : k ≤ log.length) : Ovt (log ++ [e]) k a := by
  obtain ⟨j, b, h1, h2, h3, h4, h5, h6⟩ := h
  refine ⟨j, b, h1, ?_, h3, h4, h5, fun m x hj hm hx => h6 m x hj hm ?_⟩
  · rw [List.getElem?_append_left (by omega)]; exact h2
  · rwa [List.getElem?_append_left (by omega)] at hx

theorem SeatF.app {l : List Int} {o o' : OS} {e : Acc} {i j : Nat} {t : Tk} (h : SeatF l o j t) (hlog : o'.log = o.log ++ [e]) (hth : e.th = (i : Int)) (hij : i ≠ j) : SeatF l o' j t := by
  unfold SeatF at h ⊢
  split
  · obtain ⟨k0, h1, h2, h3⟩ := h
    refine ⟨k0, by rw [hlog]; simp; omega, fun m x hm hx => ?_, by rw [hlog, List.take_append_of_le_length h1]; exact h3⟩
    rw [hlog] at hx
    by_cases hl : m < o.log.length
    · rw [List.getElem?_append_left hl] at hx
      exact h2 m x hm hx
    · have hm2 : m = o.log.length := by
        have := (List.getElem?_eq_some_iff.1 hx).1
        simp at this; omega
      subst hm2
      simp at hx
      subst hx
      rw [hth]; omega
  · trivial

theorem OS.Fl.stepped {l : List Int} {n : Nat} {pre : List Mv} {o : OS} (h : OS.Fl l o) (hI : OS.Inv l n pre o) {i : Nat} {se : OSeat} {t : Tk} (hs : o.seats[i]? = some se) (hta : se.task = some t) (had : 0 ≤ t.addr) {e : Acc} {x : OSeat}
    (hlog : (o.step i se t).log = o.log ++ [e]) (hth : e.th = (i : Int)) (hseats : (o.step i se t).seats = o.seats.set i x)
    (hnew : ∀ t', x.task = some t' → SeatF l (o.step i se t) i t') (hfail : e.kd = 3 → e.saw ≠ e.old → t = .bump e.ad e.old true ∧ e.saw = o.at e.ad) : OS.Fl l (o.step i se t) := by
  refine ⟨fun j sj tj hj htj => ?_, fun k a ha hk ho => ?_⟩
  · rw [hseats] at hj
    by_cases hij : i = j
    · subst hij
      rw [List.getElem?_set_self (List.getElem?_eq_some_iff.1 hs).1] at hj
      cases hj
      exact hnew tj htj
    · rw [List.getElem?_set_ne hij] at hj
      exact (h.seat j sj tj hj htj).app hlog hth hij
  · rw [hlog] at ha ⊢
    by_cases hl : k < o.log.length
    · rw [List.getElem?_append_left hl] at ha
      exact (h.log k a ha hk ho).app (by omega)
    · have hk2 : k = o.log.length := by
        have := (List.getElem?_eq_some_iff.1 ha).1
        simp at this; omega
      subst hk2
      simp at ha
      subst ha
      obtain ⟨rfl, hsaw⟩ := hfail hk ho
      obtain ⟨k0, h1, h2, h3⟩ := h.seat i se _ hs hta
      have hw : (o.log.drop k0).foldl wrA ((o.log.take k0).foldl wrA l) = o.words := by
        rw [← List.foldl_append, List.take_append_drop, hI.words]
      obtain ⟨j, b, q1, q2, q3, q4⟩ := wr_some (o.log.drop k0) ((o.log.take k0).foldl wrA l) e.ad.toNat (by
        rw [hw, h3]
        unfold OS.at at hsaw
        rw [← hsaw]; exact ho)
      rw [List.getElem?_drop] at q1
      have hjl := (List.getElem?_eq_some_iff.1 q1).1
      have hba := (hI.log _ b q1).ad.1
      have hea : 0 ≤ e.ad := had
      refine ⟨k0 + j, b, hjl, by rw [List.getElem?_append_left hjl]; exact q1, q2, by omega, q3, fun m y hm hml hy => ?_⟩
      rw [List.getElem?_append_left hml] at hy
      rw [hth]
      exact h2 m y (by omega) hy

theorem OS.Fl.move {l : List Int} {n : Nat} {pre : List Mv} {o : OS} (h : OS.Fl l o) (hI : OS.Inv l n pre o) (hlt : pre.length < 65536) (mv : Mv) : OS.Fl l (o.move l.length mv).1 := by
  rcases hI.way hlt mv with e | ⟨i, ci, se, t, c, ae, x, over, e, S, hi, hop, hs, hta, q1, q2, q3, q4, q5, q6, q7, q8⟩ | ⟨i, se, t, e, hi, hs, hta, hop, hmk⟩
  · rw [e]; exact ⟨h.seat, h.log⟩
  · rw [e]
    show OS.Fl l (o.step i se t)
    cases t with
    | look a => exact h.stepped hI hs hta q7 (e := ⟨o.moves, i, 1, a, 0, 0, o.at a⟩) (x := ⟨none, se.last⟩) rfl rfl rfl (fun t' ht' => by cases ht') (fun hk => by cases hk)
    | bump a saw ld =>
      cases ld with
      | false =>
        refine h.stepped hI hs hta q7 (e := ⟨o.moves, i, 1, a, 0, 0, o.at a⟩) (x := ⟨some (.bump a (o.at a) true), se.last⟩) rfl rfl rfl (fun t' ht' => ?_) (fun hk => by cases hk)
        cases ht'
        refine ⟨o.log.length + 1, by simp [OS.step], fun m y hm hy => ?_, ?_⟩
        · have := (List.getElem?_eq_some_iff.1 hy).1
          simp [OS.step] at this; omega
        · have hw : ((o.step i se (.bump a saw false)).log.take (o.log.length + 1)) = o.log ++ [⟨o.moves, i, 1, a, 0, 0, o.at a⟩] := by
            show (o.log ++ [_]).take (o.log.length + 1) = _
            rw [List.take_of_length_le (by simp)]
          rw [hw, List.foldl_append, ← hI.words]
          simp [wrA, OS.at]
      | true =>
        by_cases he : o.at a = saw
        · refine h.stepped hI hs hta q7 (e := ⟨o.moves, i, 3, a, saw, IntKind.u64.wrap (saw + 1), o.at a⟩) (x := ⟨none, se.last⟩) (by simp [OS.step, he]) rfl (by simp [OS.step, he]) (fun t' ht' => by cases ht') (fun _ ho => absurd he ho)
        · refine h.stepped hI hs hta q7 (e := ⟨o.moves, i, 3, a, saw, IntKind.u64.wrap (saw + 1), o.at a⟩) (x := ⟨some (.bump a saw false), se.last⟩) (by simp [OS.step, he]) rfl (by simp [OS.step, he]) (fun t' ht' => by cases ht'; trivial) (fun _ _ => ⟨rfl, rfl⟩)
  · rw [e]
    refine ⟨fun j sj tj hj htj => ?_, h.log⟩
    have hj' : (o.seats.set i ⟨some t, o.calls.length⟩)[j]? = some sj := hj
    by_cases hij : i = j
    · subst hij
      rw [List.getElem?_set_self (List.getElem?_eq_some_iff.1 hs).1] at hj'
      cases hj'
      cases htj
      obtain ⟨_, _, hm⟩ := ownMake_some hmk
      rcases hm with ⟨_, rfl⟩ | ⟨_, rfl⟩ <;> trivial
    · rw [List.getElem?_set_ne hij] at hj'
      exact h.seat j sj tj hj' htj

theorem fl_of (l : List Int) (n : Nat) (ms : List Mv) (hm : ms.length ≤ 65536) : OS.Fl l (osOf l n ms) := by
  have : ∀ k, k ≤ ms.length → OS.Fl l (osOf l n (ms.take k)) := by
    intro k
    induction k with
    | zero => intro _; rw [List.take_zero]; exact OS.Fl.init l n
    | succ k ih =>
      intro hk
      rw [take_next ms k (by omega), osOf_snoc]
      exact (ih (by omega)).move (inv_of l n (ms.take k) (by simp; omega)) (by simp; omega) _
  have h := this ms.length (Nat.le_refl _)
  rwa [List.take_length] at h

/-! ### alone -/
def oneMv (i : Nat) : Mv := ⟨i, 0, 0, 0⟩
theorem one_move {size : Int} {o : OS} {i : Nat} {se : OSeat} (hm : o.moves < 65536) (hs : o.seats[i]? = some se) :
    (o.move size (oneMv i)).1 = (match se.task with | some t => o.step i se t | none => o.skip) ∧ (o.move size (oneMv i)).1.moves = o.moves + 1 := by
  have hi : (oneMv i).th.toNat = i := by simp [oneMv]
  have h0 : ¬ (oneMv i).th < 0 := by simp [oneMv]
  have hop : (oneMv i).op = 0 := rfl
  unfold OS.move
  rw [if_neg (by omega), if_neg h0, hi, hs]
  simp only [hop, if_true]
  cases se.task with
  | none => exact ⟨rfl, rfl⟩
  | some t =>
    refine ⟨rfl, ?_⟩
    cases t with
    | look a => rfl
    | bump a saw ld =>
      cases ld with
      | false => rfl
      | true => by_cases he : o.at a = saw <;> simp [OS.step, he]

def R1 (o : OS) (se : OSeat) : Prop := se.task = none ∨ ∃ a saw, se.task = some (.bump a saw true) ∧ o.at a = saw
def R2 (o : OS) (se : OSeat) : Prop := R1 o se ∨ ∃ a saw, se.task = some (.bump a saw false)
theorem one3 {size : Int} {o : OS} {i : Nat} {se : OSeat} (hm : o.moves < 65536) (hs : o.seats[i]? = some se) : ∃ se', (o.move size (oneMv i)).1.seats[i]? = some se' ∧ R2 (o.move size (oneMv i)).1 se' := by
  have hl := (List.getElem?_eq_some_iff.1 hs).1
  rw [(one_move (size := size) hm hs).1]
  cases hta : se.task with
  | none => exact ⟨se, hs, .inl (.inl hta)⟩
  | some t =>
    cases t with
    | look a => exact ⟨⟨none, se.last⟩, List.getElem?_set_self hl, .inl (.inl rfl)⟩
    | bump a saw ld =>
      cases ld with
      | false => exact ⟨⟨some (.bump a (o.at a) true), se.last⟩, List.getElem?_set_self hl, .inl (.inr ⟨a, o.at a, rfl, rfl⟩)⟩
      | true =>
        by_cases he : o.at a = saw
        · exact ⟨⟨none, se.last⟩, by simp [OS.step, he, hl], .inl (.inl rfl)⟩
        · exact ⟨⟨some (.bump a saw false), se.last⟩, by simp [OS.step, he, hl], .inr ⟨a, saw, rfl⟩⟩
theorem one2 {size : Int} {o : OS} {i : Nat} {se : OSeat} (hm : o.moves < 65536) (hs : o.seats[i]? = some se) (h : R2 o se) : ∃ se', (o.move size (oneMv i)).1.seats[i]? = some se' ∧ R1 (o.move size (oneMv i)).1 se' := by
  have hl := (List.getElem?_eq_some_iff.1 hs).1
  rw [(one_move (size := size) hm hs).1]
  rcases h with (h | ⟨a, saw, h, he⟩) | ⟨a, saw, h⟩
  · rw [h]; exact ⟨se, hs, .inl h⟩
  · rw [h]; exact ⟨⟨none, se.last⟩, by simp [OS.step, he, hl], .inl rfl⟩
  · rw [h]; exact ⟨⟨some (.bump a (o.at a) true), se.last⟩, List.getElem?_set_self hl, .inr ⟨a, o.at a, rfl, rfl⟩⟩
theorem one1 {size : Int} {o : OS} {i : Nat} {se : OSeat} (hm : o.moves < 65536) (hs : o.seats[i]? = some se) (h : R1 o se) : ∃ se', (o.move size (oneMv i)).1.seats[i]? = some se' ∧ se'.task = none := by
  have hl := (List.getElem?_eq_some_iff.1 hs).1
  rw [(one_move (size := size) hm hs).1]
  rcases h with h | ⟨a, saw, h, he⟩
  · rw [h]; exact ⟨se, hs, h⟩
  · rw [h]; exact ⟨⟨none, se.last⟩, by simp [OS.step, he, hl], rfl⟩

def alone3 (ms : List Mv) (i : Nat) : List Mv := ms ++ [oneMv i, oneMv i, oneMv i]
theorem alone_ends (l : List Int) (n : Nat) (ms : List Mv) (hm : ms.length ≤ 60000) (i : Nat) (hi : i < n) (ci : Nat) (c : Cal) (hc : (osOf l n (alone3 ms i)).calls[ci]? = some c) (hth : c.th = (i : Int)) : 0 ≤ c.en := by
  have hI := inv_of l n (alone3 ms i) (by simp [alone3]; omega)
  have h0 := inv_of l n ms (by omega)
  obtain ⟨i', e1, _, _, _, _, e6, _, _, e9⟩ := hI.call ci c hc
  obtain rfl : i' = i := by omega
  rcases e9 with ⟨_, _, _, _, se, t, e2, e3, _⟩ | ⟨h1, _⟩
  · exfalso
    have hmo := h0.moves
    obtain ⟨s0, hs0⟩ : ∃ s0, (osOf l n ms).seats[i']? = some s0 := ⟨_, List.getElem?_eq_getElem (by rw [h0.slen]; exact hi)⟩
    obtain ⟨s1, hs1, r1⟩ := one3 (size := l.length) (by omega) hs0
    have hm1 := (one_move (size := l.length) (by omega) hs0).2
    obtain ⟨s2, hs2, r2⟩ := one2 (size := l.length) (by omega) hs1 r1
    have hm2 := (one_move (size := l.length) (by omega) hs1).2
    obtain ⟨s3, hs3, r3⟩ := one1 (size := l.length) (by omega) hs2 r2
    have hfin : osOf l n (alone3 ms i') = ((((osOf l n ms).move l.length (oneMv i')).1.move l.length (oneMv i')).1.move l.length (oneMv i')).1 := by
      unfold alone3 osOf
      rw [OS.goes_append]
      rfl
    rw [hfin, hs3] at e2
    cases e2
    rw [r3] at e3
    cases e3
  · omega
end Go
