/-
machine.Play refuses: threads out of their limits, too many words, too many moves.
reclaimref03: Play: the machine's own calls' script.
Several things in the heap, side by side (Crew): what one does leaves the others. Plain.
reclaimref03: SameCalls, SameTrace, SameShifts, SameWords, SameRun: lists that are the same.
machine.Play and reclaimref03's Play at every script: the same run, the same number.
-/
import Derived.Test.YtbhbpfpggfcpgaaQOwnOk
import Derived.Test.YtbhbpfpggfcpgaaQRmF
import Derived.Test.YtbhbpfpggfcpgaaQRmP
import Derived.Test.YtbhbpfpggfcpgaaQFit
namespace Go.Proofs.Ytbhbpfpggfcpgaa
open Go.ChangeShapes Go.WideShapes Go.ChangeAt Go.RowKit Go.Shelf

def zeroRun : Value := .agg #[.slice none 0 0, .slice none 0 0, .slice none 0 0, .slice none 0 0]
set_option maxRecDepth 100000 in
theorem play_bad {w : World} (n : Int) (o om : Option Addr) (m c mm cm : Nat) (hn : n < 1 ∨ 16 < n) : Calls Try.prog 21 #[.int .i64 n, .slice o m c, .slice om mm cm] w fun e w' => e = .returned (.tuple #[zeroRun, .int .i64 1]) ∧ Below w.heap.size w w' := by
  unfold zeroRun
  have HN := Lib.hid hn
  clear hn
  go_enter Try.func21, Try.ntmps21
  go_wp2_with (first
    | (go_at_call 16; refine (own_at _).mono ?_; rintro e w1 ⟨kb, sb, tb, rfl, hk, ho⟩; obtain ⟨os, d, rfl⟩ := (Only.below ho (fun _ h => h.elim) (Nat.le_refl _)).more; clear hk ho)
    | (go_at_call 15; refine (newm_bad _ _ _ HN.out).mono ?_; rintro e w2 ⟨rfl, rfl⟩))
  refine bodyPost_ret (v := .tuple #[.agg #[.slice none 0 0, .slice none 0 0, .slice none 0 0, .slice none 0 0], .int .i64 1]) (by simp [results, Try.results21, go_sem]) rfl ⟨rfl, (by repeat (first | exact Below.refl _ _ | apply Below.drew | apply Below.more1 | apply Below.alloc1))⟩
set_option maxRecDepth 100000 in
theorem play_long1 {w : World} (n : Int) (o om : Option Addr) (m c mm cm : Nat) (h1 : 1 ≤ n) (h16 : n ≤ 16) (hm : 8192 < m) (hm2 : m ≤ 9223372036854775807) : Calls Try.prog 21 #[.int .i64 n, .slice o m c, .slice om mm cm] w fun e w' => e = .returned (.tuple #[zeroRun, .int .i64 3]) ∧ Below w.heap.size w w' := by
  unfold zeroRun
  have HN := Lib.hid (fun (w : World) (kit : Value) => newm_long (w := w) n o m c kit h1 h16 hm hm2)
  clear h1 h16 hm
  go_enter Try.func21, Try.ntmps21
  go_wp2_with (first
    | (go_at_call 16; refine (own_at _).mono ?_; rintro e w1 ⟨kb, sb, tb, rfl, hk, ho⟩; obtain ⟨os, d, rfl⟩ := (Only.below ho (fun _ h => h.elim) (Nat.le_refl _)).more; clear hk ho)
    | (go_at_call 15; refine (HN.out _ _).mono ?_; rintro e w2 ⟨rfl, rfl⟩))
  refine bodyPost_ret (v := .tuple #[.agg #[.slice none 0 0, .slice none 0 0, .slice none 0 0, .slice none 0 0], .int .i64 3]) (by simp [results, Try.results21, go_sem]) rfl ⟨rfl, (by repeat (first | exact Below.refl _ _ | apply Below.drew | apply Below.more1 | apply Below.alloc1))⟩
set_option maxRecDepth 100000 in
theorem play_long2 {w : World} (n : Nat) {vx : Value} {l : List Int} (om : Option Addr) (mm cm : Nat) (hs : w.Src 1 vx l.length (u64s l)) (hl : l.length ≤ 8192) (h1 : 1 ≤ n) (h16 : n ≤ 16) (hm : 65536 < mm) (hm2 : mm ≤ 9223372036854775807) : Calls Try.prog 21 #[.int .i64 n, vx, .slice om mm cm] w fun e w' => e = .returned (.tuple #[zeroRun, .int .i64 3]) ∧ Only (fun _ => False) w w' := by
  unfold zeroRun
  have HS := Lib.hid hs
  obtain ⟨ox, cx, rfl⟩ : ∃ o c, vx = .slice o l.length c := by
    rcases hs.2 with ⟨rfl, h0⟩ | ⟨ad, c, rfl, hc, _⟩
    · exact ⟨none, 0, by rw [h0]⟩
    · exact ⟨some ad, c, rfl⟩
  have hms2 : decide ((65536 : Int) < (mm : Int)) = true := by simp; omega
  clear hs hm
  go_enter Try.func21, Try.ntmps21
  go_wp2_with (first
    | (go_at_call 16; refine (own_at _).mono ?_; rintro e w1 ⟨kb, sb, tb, rfl, hk, ho⟩; have HK := Lib.hid hk; have HO := Lib.hid ho; have HN := Lib.hid (newm_ok (w := w1) (km := some kb) n ((HS.out.alloc _).only ho) hl h1 h16); clear hk ho)
    | (go_at_call 15; refine HN.out.mono ?_; rintro e w2 ⟨xb, rfl, hna⟩; obtain ⟨Fn, hpm, hon⟩ := newAt_pm HK.out HO.out hna; have ow := (show Only (fun _ => False) (run0 w) w2 from hon); have hrc : w2.heap[w.heap.size]? = some (.cells #[.slice none 0 0, .slice none 0 0, .slice none 0 0, .slice none 0 0] 41 (0, 0)) := (by rw [ow.block w.heap.size (by simp [run0]) (fun x => x)]; exact heap_alloc_new w _); have OW := Lib.hid ow; have e0 : w2.cell? ⟨w.heap.size, 0, none⟩ = some (.slice none 0 0) := (by simp [World.cell?, hrc]); have e1 : w2.cell? ⟨w.heap.size, 1, none⟩ = some (.slice none 0 0) := (by simp [World.cell?, hrc]); have e2 : w2.cell? ⟨w.heap.size, 2, none⟩ = some (.slice none 0 0) := (by simp [World.cell?, hrc]); have e3 : w2.cell? ⟨w.heap.size, 3, none⟩ = some (.slice none 0 0) := (by simp [World.cell?, hrc]); have ez : ∀ j, w2.frozen? ⟨w.heap.size, j, none⟩ = false := fun j => (by simp [World.frozen?, hrc]); have hrl := (Array.getElem?_eq_some_iff.1 hrc).1; clear hna hpm hon ow hrc))
  refine bodyPost_ret (v := .tuple #[.agg #[.slice none 0 0, .slice none 0 0, .slice none 0 0, .slice none 0 0], .int .i64 3]) (by simp [results, Try.results21, go_sem, e0, e1, e2, e3]) rfl ⟨rfl, ?_⟩
  refine (((Only.refl _ w).alloc _).trans OW.out (fun _ h => h.elim)).trans (G := fun k => k = w.heap.size) ?_ (fun k hk => .inr (Nat.le_of_eq hk.symm))
  exact (((((Only.refl (fun k => k = w.heap.size) w2).set (p := ⟨w.heap.size, 0, none⟩) (.inl rfl) _).set (p := ⟨w.heap.size, 1, none⟩) (.inl rfl) _).set (p := ⟨w.heap.size, 2, none⟩) (.inl rfl) _).set (p := ⟨w.heap.size, 3, none⟩) (.inl rfl) _)
end Go.Proofs.Ytbhbpfpggfcpgaa
namespace Go.Proofs.Ytbhbpfpggfcpgaa
open Go.ChangeShapes Go.WideShapes Go.ChangeAt Go.RowKit Go.Shelf

theorem orel_new (l : List Int) (n : Nat) : ORel (osOf l n []) (newM n l ownLabels (List.replicate n RT.new)) := by
  refine ⟨rfl, rfl, rfl, rfl, rfl, rfl, rfl, rfl, by simp [newM, osOf, OS.goes, OS.init], fun i se t hs ht => ?_, fun t ht => ?_⟩
  · have hs' : (List.replicate n (⟨none, -1⟩ : OSeat))[i]? = some se := hs
    have ht' : (List.replicate n RT.new)[i]? = some t := ht
    rw [List.getElem?_replicate] at hs' ht'
    split at hs'
    · rename_i hlt
      rw [if_pos hlt] at ht'
      cases hs'
      cases ht'
      rfl
    · cases hs'
  · have ht' : t ∈ List.replicate n RT.new := ht
    rw [(List.mem_replicate.1 ht').2]
    exact RT.new_ok
/-- the document's machine as New leaves it -/
theorem NewI.run {w0 w wr : World} {n mb : Nat} {l : List Int} (h : NewI w0 w n l mb ownLabels (List.replicate n RT.new) wr) (ho : Only (fun _ => False) w0 w) : ∃ F, RRunI w0 wr F l n mb [] wr := by
  obtain ⟨v, hV⟩ := h
  exact ⟨v.own mb, _, v, hV.at', orel_new l n, ho.trans hV.only (fun _ x => x.elim), Only.refl _ _, fun k hk => .inl hk⟩

set_option maxRecDepth 100000 in
theorem rplay_bad {w : World} (n : Int) (o om : Option Addr) (m c mm cm : Nat) (hn : n < 1 ∨ 16 < n) : Calls Try.prog 22 #[.int .i64 n, .slice o m c, .slice om mm cm] w fun e w' => e = .returned (.tuple #[zeroRun, .int .i64 1]) ∧ Below w.heap.size w w' := by
  unfold zeroRun
  rcases hn with hn | hn
  · have q : decide (n < 1) = true := by simpa using hn
    go_enter Try.func22, Try.ntmps22
    go_wp2
    refine bodyPost_ret (v := .tuple #[.agg #[.slice none 0 0, .slice none 0 0, .slice none 0 0, .slice none 0 0], .int .i64 1]) (by simp [results, Try.results22, go_sem]) rfl ⟨rfl, ?_⟩
    exact (by repeat (first | exact Below.refl _ _ | apply Below.drew | apply Below.more1 | apply Below.alloc1))
  · have q : decide (n < 1) = false := by simp; omega
    have q2 : decide (16 < n) = true := by simpa using hn
    go_enter Try.func22, Try.ntmps22
    go_wp2
    refine bodyPost_ret (v := .tuple #[.agg #[.slice none 0 0, .slice none 0 0, .slice none 0 0, .slice none 0 0], .int .i64 1]) (by simp [results, Try.results22, go_sem]) rfl ⟨rfl, ?_⟩
    exact (by repeat (first | exact Below.refl _ _ | apply Below.drew | apply Below.more1 | apply Below.alloc1))
set_option maxRecDepth 100000 in
theorem rplay_long {w : World} (n : Int) (o om : Option Addr) (m c mm cm : Nat) (h1 : 1 ≤ n) (h16 : n ≤ 16) (hm : 8192 < m ∨ 65536 < mm) (hm1 : m ≤ 9223372036854775807) (hm2 : mm ≤ 9223372036854775807) : Calls Try.prog 22 #[.int .i64 n, .slice o m c, .slice om mm cm] w fun e w' => e = .returned (.tuple #[zeroRun, .int .i64 3]) ∧ Below w.heap.size w w' := by
  unfold zeroRun
  have q : decide (n < 1) = false := by simp; omega
  have q2 : decide (16 < n) = false := by simp; omega
  rcases Nat.lt_or_ge 8192 m with hm | hm'
  · have q3 : decide ((8192 : Int) < (m : Int)) = true := by simp; omega
    go_enter Try.func22, Try.ntmps22
    go_wp2
    refine bodyPost_ret (v := .tuple #[.agg #[.slice none 0 0, .slice none 0 0, .slice none 0 0, .slice none 0 0], .int .i64 3]) (by simp [results, Try.results22, go_sem]) rfl ⟨rfl, ?_⟩
    exact (by repeat (first | exact Below.refl _ _ | apply Below.drew | apply Below.more1 | apply Below.alloc1))
  · have q3 : decide ((8192 : Int) < (m : Int)) = false := by simp; omega
    have q4 : decide ((65536 : Int) < (mm : Int)) = true := by simp; omega
    go_enter Try.func22, Try.ntmps22
    go_wp2
    refine bodyPost_ret (v := .tuple #[.agg #[.slice none 0 0, .slice none 0 0, .slice none 0 0, .slice none 0 0], .int .i64 3]) (by simp [results, Try.results22, go_sem]) rfl ⟨rfl, ?_⟩
    exact (by repeat (first | exact Below.refl _ _ | apply Below.drew | apply Below.more1 | apply Below.alloc1))

/-- what Own leaves -/
structure OwnLeft (W : World) (vc ve : Value) (w' : World) : Prop where
  hc : w'.RowV W.heap.size 143 6 vc ownCode.length (ownCode.flatMap Ins.cells)
  he : w'.RowV W.heap.size 145 3 ve ownEnts.length (ownEnts.flatMap Ent.cells)
  ne : ∀ k, ve.rowBlock = some k → vc.rowBlock ≠ some k
  on : Only (fun _ => False) W w'
theorem rOwn_left (W : World) : Calls Try.prog 33 #[] W fun e w' => e = .returned (.tuple #[.slice (some ⟨W.heap.size, 0, none⟩) 13 13, .slice (some ⟨W.heap.size + 1, 0, none⟩) 2 2]) ∧ OwnLeft W (.slice (some ⟨W.heap.size, 0, none⟩) 13 13) (.slice (some ⟨W.heap.size + 1, 0, none⟩) 2 2) w' := by
  refine (rOwn_any W).mono ?_
  rintro e w' ⟨rfl, rfl⟩
  have hs : (W.alloc (.cells codeCells 143)).heap.size = W.heap.size + 1 := by simp
  refine ⟨rfl, ⟨by decide, .inr ⟨W.heap.size, 13, codeCells, rfl, Nat.le_refl _, ?_, by decide, by omega, by unfold maxLen; omega, by decide, by rfl⟩⟩, ⟨by decide, .inr ⟨W.heap.size + 1, 2, entsCells, rfl, by omega, heap_alloc_at hs, by decide, by omega, by unfold maxLen; omega, by decide, by rfl⟩⟩, ?_, ((Only.refl _ W).alloc _).alloc _⟩
  · rw [Below.heap_alloc _ _ _ (by rw [hs]; omega)]
    exact heap_alloc_new W _
  · intro k h1 h2
    simp [Value.rowBlock] at h1 h2
    omega

/-- the run that the document says -/
def refRun (l : List Int) (n : Nat) (ms : List Mv) : RunS := ⟨(osOf l n ms).calls, (osOf l n ms).log, [], (osOf l n ms).words⟩
def RPlayRes (w : World) (l : List Int) (n : Nat) (ms : List Mv) (e : Ending) (w' : World) : Prop :=
  ∃ x : RunVs, e = .returned (.tuple #[x.v, .int .i64 0]) ∧ RunAt w' w.heap.size x (refRun l n ms) ∧ Only (fun _ => False) w w'

set_option maxRecDepth 100000 in
set_option maxHeartbeats 2000000 in
theorem rplay_ok {w : World} (n : Nat) {vx vm : Value} {l : List Int} {ms : List Mv} (hs : w.Src 1 vx l.length (u64s l)) (hl : l.length ≤ 8192) (hm : MvsIn w vm ms) (hms : ms.length ≤ 65536) (h1 : 1 ≤ n) (h16 : n ≤ 16) :
    Calls Try.prog 22 #[.int .i64 (n : Int), vx, vm] w (RPlayRes w l n ms) := by
  have HS := Lib.hid hs
  obtain ⟨ox, cx, rfl⟩ : ∃ o c, vx = .slice o l.length c := by
    rcases hs.2 with ⟨rfl, h0⟩ | ⟨ad, c, rfl, hc, _⟩
    · exact ⟨none, 0, by rw [h0]⟩
    · exact ⟨some ad, c, rfl⟩
  have HMI := Lib.hid hm
  obtain ⟨om, cm, rfl, hm1, hm2, hm3⟩ := hm
  have q : decide ((n : Int) < 1) = false := by simp; omega
  have q2 : decide ((16 : Int) < (n : Int)) = false := by simp; omega
  have q3 : decide ((8192 : Int) < (l.length : Int)) = false := by simp; omega
  have q4 : decide ((65536 : Int) < (ms.length : Int)) = false := by simp; omega
  clear hs hm3
  go_enter Try.func22, Try.ntmps22
  go_upto_region 5 with (fail)
  refine gen_world ?_
  intro W1 hW1
  have HW1 : Hid (Only (fun _ => False) w W1) := Lib.hid (by rw [hW1]; exact (Only.refl _ w).alloc _)
  have hbx : W1.heap[w.heap.size]? = some (.cells #[.slice none 0 0, .slice none 0 0, .slice none 0 0, .slice none 0 0] 41 (0, 0)) := by rw [hW1]; exact heap_alloc_new w _
  have HBX := Lib.hid hbx
  have hl1 := (Array.getElem?_eq_some_iff.1 hbx).1
  clear hW1 hbx
  go_wp2_with (first
    | (go_at_call 33; refine (rOwn_left _).mono ?_; rintro e w1 ⟨rfl, hO⟩; have HO := Lib.hid hO; have HN := Lib.hid (rNew_any (w0 := W1) (w := w1) n ((HS.out.only HW1.out).only hO.on) hl hO.hc hO.he hO.ne h1 h16 hO.on.size); clear hO)
    | (go_at_call 34; refine HN.out.mono ?_; rintro e w2 ⟨mb, rfl, hI⟩; obtain ⟨F, hR⟩ := hI.run HO.out.on; have HR := Lib.hid (rRun_any hR (HMI.out.only HW1.out) hms hl); clear hI hR)
    | (go_at_call 58; refine HR.out.mono ?_; rintro e w3 ⟨x, he, hra, hro⟩; obtain ⟨xa, xt, xb', xc⟩ := x; obtain ⟨oa, ca, e1, _, _⟩ := hra.wa.form; obtain ⟨ot, ct, e2, _, _⟩ := hra.wt.form; obtain ⟨ob, cb, e3, _, _⟩ := hra.wb.form; obtain ⟨oc, cc, e4, _, _⟩ := hra.wc.form; simp only at e1 e2 e3 e4; subst e1; subst e2; subst e3; subst e4; (unfold RunVs.v at he); subst he; have hc3 := (hro.block w.heap.size hl1 (fun x => x)).trans HBX.out; have HRA := Lib.hid hra; have HRO := Lib.hid hro; have e0 : w3.cell? ⟨w.heap.size, 0, none⟩ = some (.slice none 0 0) := (by simp [World.cell?, hc3]); have e1 : w3.cell? ⟨w.heap.size, 1, none⟩ = some (.slice none 0 0) := (by simp [World.cell?, hc3]); have e2 : w3.cell? ⟨w.heap.size, 2, none⟩ = some (.slice none 0 0) := (by simp [World.cell?, hc3]); have e3 : w3.cell? ⟨w.heap.size, 3, none⟩ = some (.slice none 0 0) := (by simp [World.cell?, hc3]); have ez : ∀ j, w3.frozen? ⟨w.heap.size, j, none⟩ = false := fun j => (by simp [World.frozen?, hc3]); have hrl := (Array.getElem?_eq_some_iff.1 hc3).1; clear hra hro hc3))
  refine bodyPost_ret (v := .tuple #[.agg #[(.slice oa (osOf l n ms).calls.length ca), (.slice ot (osOf l n ms).log.length ct), (.slice ob ([] : List Shf).length cb), (.slice oc (osOf l n ms).words.length cc)], .int .i64 0]) (by simp [results, Try.results22, go_sem, e0, e1, e2, e3]) rfl ⟨⟨.slice oa (osOf l n ms).calls.length ca, .slice ot (osOf l n ms).log.length ct, .slice ob ([] : List Shf).length cb, .slice oc (osOf l n ms).words.length cc⟩, rfl, ?_, ?_⟩
  · refine (HRA.out.of_block fun k hk => ?_).base_mono (by have := HW1.out.size; omega)
    have hne : k ≠ w.heap.size := fun e => by have := (HRA.out.lt k hk).1; omega
    exact (Below.heap_setCell _ ⟨w.heap.size, 3, none⟩ _ _ hne).trans ((Below.heap_setCell _ ⟨w.heap.size, 2, none⟩ _ _ hne).trans ((Below.heap_setCell _ ⟨w.heap.size, 1, none⟩ _ _ hne).trans (Below.heap_setCell _ ⟨w.heap.size, 0, none⟩ _ _ hne)))
  · exact (HW1.out.trans HRO.out (fun _ x => x.elim)).trans (((((Only.refl (fun k => k = w.heap.size) w3).set (p := ⟨w.heap.size, 0, none⟩) (.inl rfl) _).set (p := ⟨w.heap.size, 1, none⟩) (.inl rfl) _).set (p := ⟨w.heap.size, 2, none⟩) (.inl rfl) _).set (p := ⟨w.heap.size, 3, none⟩) (.inl rfl) _) (fun k hk => .inr (by subst hk; exact Nat.le_refl _))
end Go.Proofs.Ytbhbpfpggfcpgaa
namespace Go
open Go.RowKit
open Go.Proofs.Ytbhbpfpggfcpgaa

structure Thing (base : Nat) where
  At : World → (Nat → Prop) → Prop
  loc : ∀ {w w' : World} {F : Nat → Prop}, At w F → (∀ k, F k → w'.heap[k]? = w.heap[k]?) → At w' F
  lt : ∀ {w : World} {F : Nat → Prop}, At w F → ∀ k, F k → base ≤ k ∧ k < w.heap.size
def Crew {base : Nat} (ts : List (Thing base)) (w : World) : Prop :=
  ∃ F : Nat → Nat → Prop, (∀ (i : Nat) (t : Thing base), ts[i]? = some t → t.At w (F i)) ∧ ∀ i j, i < ts.length → j < ts.length → i ≠ j → ∀ k, F i k → ¬ F j k
def crewF (F : Nat → Nat → Prop) (i : Nat) (F' : Nat → Prop) : Nat → Nat → Prop := fun j => if j = i then F' else F j
theorem crewF_self (F : Nat → Nat → Prop) (i : Nat) (F' : Nat → Prop) : crewF F i F' i = F' := by unfold crewF; rw [if_pos rfl]
theorem crewF_ne (F : Nat → Nat → Prop) (F' : Nat → Prop) {i j : Nat} (h : ¬ j = i) : crewF F i F' j = F j := by unfold crewF; rw [if_neg h]
section
variable {base : Nat} {ts : List (Thing base)} {w w' : World}
theorem Crew.none (w : World) : Crew (base := base) [] w := ⟨fun _ _ => False, fun i t h => by simp at h, fun i j hi => by simp at hi⟩
theorem Crew.only (h : Crew ts w) (ho : Only (fun _ => False) w w') : Crew ts w' := by
  obtain ⟨F, h1, h2⟩ := h
  exact ⟨F, fun i t ht => t.loc (h1 i t ht) (fun k hk => ho.block k (t.lt (h1 i t ht) k hk).2 (fun x => x)), h2⟩
theorem Crew.get (h : Crew ts w) {i : Nat} {t : Thing base} (hi : ts[i]? = some t) : ∃ F, t.At w F := by
  obtain ⟨F, h1, _⟩ := h
  exact ⟨F i, h1 i t hi⟩
/-- the first ones -/
theorem Crew.init {us : List (Thing base)} (h : Crew (ts ++ us) w) : Crew ts w := by
  obtain ⟨F, h1, h2⟩ := h
  exact ⟨F, fun i t ht => h1 i t (by rw [List.getElem?_append_left (List.getElem?_eq_some_iff.1 ht).1]; exact ht), fun i j hi hj hij => h2 i j (by rw [List.length_append]; omega) (by rw [List.length_append]; omega) hij⟩
/-- one of them does something -/
theorem Crew.turn (h : Crew ts w) {i : Nat} {t : Thing base} (hi : ts[i]? = some t) : ∃ F, t.At w F ∧ (∀ (j : Nat) (t2 : Thing base), i ≠ j → ts[j]? = some t2 → ∃ G, t2.At w G ∧ ∀ k, F k → ¬ G k) ∧
    ∀ (t' : Thing base) (w' : World) (F' : Nat → Prop), t'.At w' F' → Only F w w' → (∀ k, F' k → F k ∨ w.heap.size ≤ k) → Crew (ts.set i t') w' := by
  obtain ⟨F, h1, h2⟩ := h
  have hil := (List.getElem?_eq_some_iff.1 hi).1
  refine ⟨F i, h1 i t hi, fun j t2 hne hj => ⟨F j, h1 j t2 hj, h2 i j hil (List.getElem?_eq_some_iff.1 hj).1 hne⟩, fun t' w' F' ht' ho hF' => ?_⟩
  refine ⟨crewF F i F', fun j tj hj => ?_, fun a b ha hb hab k hk => ?_⟩
  · by_cases e : j = i
    · subst e
      rw [List.getElem?_set_self hil] at hj
      cases hj
      rw [crewF_self]
      exact ht'
    · rw [List.getElem?_set_ne (fun x => e x.symm)] at hj
      rw [crewF_ne F F' e]
      have hjl := (List.getElem?_eq_some_iff.1 hj).1
      exact tj.loc (h1 j tj hj) (fun k hk => ho.block k (tj.lt (h1 j tj hj) k hk).2 (fun hx => h2 i j hil hjl (fun x => e x.symm) k hx hk))
  · rw [List.length_set] at ha hb
    have la := List.getElem?_eq_getElem ha
    have lb := List.getElem?_eq_getElem hb
    by_cases e1 : a = i
    · subst e1
      rw [crewF_ne F F' (fun x => hab x.symm)]
      rw [crewF_self] at hk
      rcases hF' k hk with h3 | h3
      · exact h2 a b ha hb hab k h3
      · intro hx
        have := ((ts[b]).lt (h1 b _ lb) k hx).2
        omega
    · rw [crewF_ne F F' e1] at hk
      by_cases e2 : b = i
      · subst e2
        rw [crewF_self]
        intro hx
        rcases hF' k hx with h3 | h3
        · exact h2 b a hb ha (fun x => hab x.symm) k h3 hk
        · have := ((ts[a]).lt (h1 a _ la) k hk).2
          omega
      · rw [crewF_ne F F' e2]
        exact h2 a b ha hb hab k hk
/-- a new one -/
theorem Crew.add (h : Crew ts w) (ho : Only (fun _ => False) w w') {t' : Thing base} {F' : Nat → Prop} (ht : t'.At w' F') (hF : ∀ k, F' k → w.heap.size ≤ k) : Crew (ts ++ [t']) w' := by
  obtain ⟨F, h1, h2⟩ := h
  refine ⟨crewF F ts.length F', fun j tj hj => ?_, fun a b ha hb hab k hk => ?_⟩
  · rcases Nat.lt_or_ge j ts.length with hl | hl
    · rw [List.getElem?_append_left hl] at hj
      rw [crewF_ne F F' (by omega)]
      exact tj.loc (h1 j tj hj) (fun k hk => ho.block k (tj.lt (h1 j tj hj) k hk).2 (fun x => x))
    · have hjl := (List.getElem?_eq_some_iff.1 hj).1
      simp only [List.length_append, List.length_singleton] at hjl
      obtain rfl : j = ts.length := by omega
      rw [List.getElem?_append_right (Nat.le_refl _)] at hj
      simp at hj
      subst hj
      rw [crewF_self]
      exact ht
  · simp only [List.length_append, List.length_singleton] at ha hb
    by_cases e1 : a = ts.length
    · subst e1
      rw [crewF_ne F F' (fun x => hab x.symm)]
      rw [crewF_self] at hk
      have hbl : b < ts.length := by omega
      intro hx
      have := ((ts[b]).lt (h1 b _ (List.getElem?_eq_getElem hbl)) k hx).2
      have := hF k hk
      omega
    · rw [crewF_ne F F' e1] at hk
      have hal : a < ts.length := by omega
      have hka := ((ts[a]).lt (h1 a _ (List.getElem?_eq_getElem hal)) k hk).2
      by_cases e2 : b = ts.length
      · subst e2
        rw [crewF_self]
        intro hx
        have := hF k hx
        omega
      · rw [crewF_ne F F' e2]
        exact h2 a b hal (by omega) hab k hk
end

/-- a machine -/
def Thing.pm {base : Nat} {K : Kits} (hK : KitsOk K) (xb : Nat) (kit : Value) (p : PM K) : Thing base :=
  ⟨fun w F => PMAt K w base xb p kit F, fun h hb => h.of_block hK hb, fun h => h.lt hK⟩
/-- the document's machine -/
def Thing.rm (base mb : Nat) (o : OS) : Thing base :=
  ⟨fun w F => ∃ b m v, base ≤ b ∧ RMAt w b mb m v ∧ ORel o m ∧ F = v.own mb, fun ⟨b, m, v, h0, h1, h2, h3⟩ hb => ⟨b, m, v, h0, h1.of_block (by subst h3; exact hb), h2, h3⟩, fun ⟨b, m, v, h0, h1, h2, h3⟩ k hk => by subst h3; have := h1.lt k hk; omega⟩
/-- a run in memory of its own -/
def Thing.run (base : Nat) (x : RunVs) (r : RunS) : Thing base :=
  ⟨fun w F => ∃ b, base ≤ b ∧ RunAt w b x r ∧ F = x.own, fun ⟨b, h0, h1, h2⟩ hb => ⟨b, h0, h1.of_block (by subst h2; exact hb), h2⟩, fun ⟨b, h0, h1, h2⟩ k hk => by subst h2; have := h1.lt k hk; omega⟩
/-- one block -/
def Thing.box (base bi : Nat) (o : Obj) : Thing base :=
  ⟨fun w F => base ≤ bi ∧ w.heap[bi]? = some o ∧ F = fun k => k = bi, fun ⟨h0, h1, h2⟩ hb => ⟨h0, by subst h2; rw [hb bi rfl]; exact h1, h2⟩, fun ⟨h0, h1, h2⟩ k hk => by subst h2; obtain rfl : k = bi := hk; exact ⟨h0, (Array.getElem?_eq_some_iff.1 h1).1⟩⟩

/-- past the limit nothing happens -/
theorem osOf_take (l : List Int) (n : Nat) (pre : List Mv) : osOf l n pre = osOf l n (pre.take 65536) := by
  rcases Nat.lt_or_ge 65536 pre.length with hlt | hle
  · have e : pre = pre.take 65536 ++ pre.drop 65536 := (List.take_append_drop 65536 pre).symm
    conv => lhs; rw [e]
    unfold osOf
    rw [OS.goes_append]
    have hm : (osOf l n (pre.take 65536)).moves = 65536 := by rw [(inv_of l n (pre.take 65536) (by simp; omega)).moves]; simp; omega
    unfold osOf at hm
    generalize OS.goes _ (OS.init l n) (pre.take 65536) = o at hm ⊢
    generalize pre.drop 65536 = ms
    induction ms with
    | nil => rfl
    | cons m ms ih =>
      have : (o.move l.length m).1 = o := by unfold OS.move; rw [if_pos (by omega)]
      show OS.goes _ (o.move l.length m).1 ms = o
      rw [this]; exact ih
  · rw [List.take_of_length_le hle]
theorem osOf_inv (l : List Int) (n : Nat) (pre : List Mv) : ∃ q : List Mv, q.length ≤ 65536 ∧ osOf l n pre = osOf l n q ∧ OS.Inv l n q (osOf l n pre) := ⟨pre.take 65536, by simp; omega, osOf_take l n pre, by rw [osOf_take]; exact inv_of l n _ (by simp; omega)⟩
theorem osOf_small (l : List Int) (n : Nat) (pre : List Mv) : (osOf l n pre).calls.length + (osOf l n pre).log.length ≤ 65536 ∧ (osOf l n pre).words.length = l.length := by
  obtain ⟨q, h1, h2, h3⟩ := osOf_inv l n pre
  refine ⟨?_, h3.wlen⟩
  have := os_lens l n q h1
  rw [h2]
  omega
end Go
namespace Go.Proofs.Ytbhbpfpggfcpgaa
open Go.ChangeShapes Go.WideShapes Go.ChangeAt Go.RowKit Go.Shelf
section
variable {base : Nat} {ts : List (Thing base)} {w : World} {i : Nat}
/-- what a thing's call leaves: the crew, and what was written -/
def CrewOut (ts : List (Thing base)) (i : Nat) (t' : Thing base) (w w' : World) : Prop :=
  Crew (ts.set i t') w' ∧ ∃ F, Only F w w' ∧ (∀ k, F k → base ≤ k ∧ k < w.heap.size) ∧ ∀ (j bi : Nat) (o : Obj), i ≠ j → ts[j]? = some (Thing.box base bi o) → ¬ F bi
theorem crew_move {K : Kits} (hK : KitsOk K) {xb : Nat} {kit : Value} {p : PM K} (h : Crew ts w) (hi : ts[i]? = some (Thing.pm hK xb kit p)) (hG : p.Good) (mv : Mv) :
    Calls Try.prog 17 #[.pointer (some ⟨xb, 0, none⟩), mv.v] w fun e w' => e = .returned (.bool (p.move mv).2) ∧ CrewOut ts i (Thing.pm hK xb kit (p.move mv).1) w w' := by
  obtain ⟨F, h1, h2, h3⟩ := h.turn hi
  refine (pm_move hK hG h1 mv).mono ?_
  rintro e w' ⟨he, F', a1, a2, a3⟩
  refine ⟨he, h3 _ w' F' a1 a2 a3, F, a2, PMAt.lt hK h1, fun j bi o hne hj hx => ?_⟩
  obtain ⟨G, g1, g2⟩ := h2 j _ hne hj
  obtain ⟨_, _, rfl⟩ := g1
  exact g2 bi hx rfl
theorem crew_rmove {l : List Int} {n mb : Nat} {pre : List Mv} (h : Crew ts w) (hi : ts[i]? = some (Thing.rm base mb (osOf l n pre))) (hl : l.length ≤ 8192) (mv : Mv) :
    Calls Try.prog 35 #[.pointer (some ⟨mb, 0, none⟩), mv.v] w fun e w' => e = .returned (.bool ((osOf l n pre).move l.length mv).2) ∧ CrewOut ts i (Thing.rm base mb (osOf l n (pre ++ [mv]))) w w' := by
  obtain ⟨F, h1, h2, h3⟩ := h.turn hi
  obtain ⟨b, m, v, g0, g1, g2, rfl⟩ := h1
  obtain ⟨q, q1, q2, q3⟩ := osOf_inv l n pre
  have hs := (osOf_small l n pre).1
  refine (rMove_any g1 q3 g2 q1 hl (by omega) (by omega) mv).mono ?_
  rintro e w' ⟨m', he, ⟨v', a1, a2, a3, a4⟩, hr⟩
  refine ⟨he, h3 _ w' (v'.own mb) ⟨b, m', v', g0, a1, by rw [osOf_snoc]; exact hr, rfl⟩ a2 a3, v.own mb, a2, fun k hk => by have := g1.lt k hk; omega, fun j bi o hne hj hx => ?_⟩
  obtain ⟨G, k1, k2⟩ := h2 j _ hne hj
  obtain ⟨_, _, rfl⟩ := k1
  exact k2 bi hx rfl
end
end Go.Proofs.Ytbhbpfpggfcpgaa
namespace Go
open Go.RowKit
open Go.Proofs.Ytbhbpfpggfcpgaa
theorem World.Src.some_form {w : World} {size n : Nat} {v : Value} {xs : List Value} (h : w.Src size v n xs) (hn : 0 < n) (hs : 0 < size) : ∃ b off c, v = .slice (some ⟨b, off, none⟩) n c ∧ b < w.heap.size ∧ ∀ j u, xs[j]? = some u → w.cell? ⟨b, off + j, none⟩ = some u := by
  rcases h.2 with ⟨_, h0⟩ | ⟨⟨b, off, p⟩, c, rfl, _, hx⟩
  · omega
  · have h0 : 0 < xs.length := by rw [h.1]; exact Nat.mul_pos hn hs
    have h1 := hx 0 xs[0] (by simp [h0])
    have hs : p = none := by simpa [Addr.add] using World.cell?_spot h1
    subst hs
    have ad : ∀ i, (⟨b, off, none⟩ : Addr).add i = ⟨b, off + i, none⟩ := fun i => by unfold Addr.add; split <;> simp_all
    simp only [ad] at hx h1
    exact ⟨b, off, c, rfl, World.block_lt_of_cell? w _ h1, hx⟩
theorem World.Src.form {w : World} {size n : Nat} {v : Value} {xs : List Value} (h : w.Src size v n xs) : ∃ o c, v = .slice o n c := by
  rcases h.2 with ⟨rfl, rfl⟩ | ⟨ad, c, rfl, _⟩
  · exact ⟨_, _, rfl⟩
  · exact ⟨_, _, rfl⟩
theorem cals_get3 (l : List Cal) (i j : Nat) (hi : i < l.length) (hj : j < 9) : (cals l)[i * 9 + j]? = l[i].cells[j]? := flat_get (f := Cal.cells) (k := 9) (fun _ => rfl) l i j hi hj
theorem accs_get3 (l : List Acc) (i j : Nat) (hi : i < l.length) (hj : j < 7) : (accs l)[i * 7 + j]? = l[i].cells[j]? := flat_get (f := Acc.cells) (k := 7) (fun _ => rfl) l i j hi hj
theorem shfs_get3 (l : List Shf) (i j : Nat) (hi : i < l.length) (hj : j < 5) : (shfs l)[i * 5 + j]? = l[i].cells[j]? := flat_get (f := Shf.cells) (k := 5) (fun _ => rfl) l i j hi hj
theorem mvs_get3 (l : List Mv) (i j : Nat) (hi : i < l.length) (hj : j < 4) : (mvsC l)[i * 4 + j]? = l[i].cells[j]? := flat_get (f := Mv.cells) (k := 4) (fun _ => rfl) l i j hi hj
end Go
namespace Go.Proofs.Ytbhbpfpggfcpgaa
open Go.ChangeShapes Go.WideShapes Go.ChangeAt Go.RowKit Go.Shelf

set_option maxRecDepth 100000 in
theorem sameCalls_yes {w : World} {v1 v2 : Value} {l : List Cal} (h1 : w.Src 9 v1 l.length (cals l)) (h2 : w.Src 9 v2 l.length (cals l)) (hn : l.length ≤ 4611686018427387904) : Calls Try.prog 59 #[v1, v2] w fun e w' =>
    e = .returned (.bool true) ∧ Below w.heap.size w w' := by
  obtain ⟨o1, c1, rfl⟩ := h1.form
  obtain ⟨o2, c2, rfl⟩ := h2.form
  have H1 := Lib.hid h1
  have H2 := Lib.hid h2
  clear h1 h2
  have hne : ((l.length : Int) != (l.length : Int)) = false := by simp
  go_enter Try.func59, Try.ntmps59
  go_wp2
  go_loopg [5] l.length (fun g sl wr => ∃ k : Nat, k ≤ l.length ∧ l.length ≤ k + g ∧ sl = .int .i64 (k : Int) ∧ ∃ os d, wr = w.more os d)
  case atStart => exact ⟨0, by omega, by omega, rfl, #[], w.drawn, by simp [World.more]⟩
  case round =>
    obtain ⟨k, hk, hg, rfl, os, d, rfl⟩ := hrel
    by_cases hlk : k < l.length
    · obtain ⟨g1, f1, d1, e1, s1, x1⟩ := H1.out.some_form (by omega) (by omega)
      obtain ⟨g2, f2, d2, e2, s2, x2⟩ := H2.out.some_form (by omega) (by omega)
      cases e1
      cases e2
      have xa : ∀ j u, l[k].cells[j]? = some u → j < 9 → w.cell? ⟨g1, f1 + k * 9 + j, none⟩ = some u := fun j u hu hj => by rw [Nat.add_assoc]; exact x1 (k * 9 + j) u (by rw [cals_get3 l k j hlk hj]; exact hu)
      have xb : ∀ j u, l[k].cells[j]? = some u → j < 9 → w.cell? ⟨g2, f2 + k * 9 + j, none⟩ = some u := fun j u hu hj => by rw [Nat.add_assoc]; exact x2 (k * 9 + j) u (by rw [cals_get3 l k j hlk hj]; exact hu)
      generalize l[k] = z at *
      obtain ⟨th, op, arg, data, beg, en, pt, ak, av⟩ := z
      have z0 := xa 0 _ rfl (by omega)
      have z1 := xa 1 _ rfl (by omega)
      have z2 := xa 2 _ rfl (by omega)
      have z3 := xa 3 _ rfl (by omega)
      have z4 := xa 4 _ rfl (by omega)
      have z5 := xa 5 _ rfl (by omega)
      have z6 := xa 6 _ rfl (by omega)
      have z7 := xa 7 _ rfl (by omega)
      have z8 := xa 8 _ rfl (by omega)
      have y0 := xb 0 _ rfl (by omega)
      have y1 := xb 1 _ rfl (by omega)
      have y2 := xb 2 _ rfl (by omega)
      have y3 := xb 3 _ rfl (by omega)
      have y4 := xb 4 _ rfl (by omega)
      have y5 := xb 5 _ rfl (by omega)
      have y6 := xb 6 _ rfl (by omega)
      have y7 := xb 7 _ rfl (by omega)
      have y8 := xb 8 _ rfl (by omega)
      simp only [Nat.add_zero] at z0 y0
      simp only at z0 y0 z1 y1 z2 y2 z3 y3 z4 y4 z5 y5 z6 y6 z7 y7 z8 y8
      clear x1 x2 xa xb
      go_wp2
      refine wp_region_more_lit (by kernel_rfl) (by kernel_rfl) ?_
      repeat (first | go_big_quiet_skip | (go_big_quiet_want; go_big_quiet_op; first | go_big_quiet_on | (apply Exists.intro; refine ⟨fun _ => ?_, ?_⟩; (focus (fail)); go_big_quiet_on)))
      refine wpQuiet_nil ?_
      intro osq dq
      go_wp2
      go_roundg (l.length - (k + 1))
      case measure => omega
      case rel => exact ⟨k + 1, by omega, by omega, by go_num, RowKit.Below.more (by repeat (first | exact Below.refl _ _ | apply Below.drew | apply Below.more1 | apply Below.alloc1))⟩
    · go_wp2
      go_ret
      exact ⟨rfl, (by repeat (first | exact Below.refl _ _ | apply Below.drew | apply Below.more1 | apply Below.alloc1))⟩

set_option maxRecDepth 100000 in
theorem sameTrace_yes {w : World} {v1 v2 : Value} {l : List Acc} (h1 : w.Src 7 v1 l.length (accs l)) (h2 : w.Src 7 v2 l.length (accs l)) (hn : l.length ≤ 4611686018427387904) : Calls Try.prog 60 #[v1, v2] w fun e w' =>
    e = .returned (.bool true) ∧ Below w.heap.size w w' := by
  obtain ⟨o1, c1, rfl⟩ := h1.form
  obtain ⟨o2, c2, rfl⟩ := h2.form
  have H1 := Lib.hid h1
  have H2 := Lib.hid h2
  clear h1 h2
  have hne : ((l.length : Int) != (l.length : Int)) = false := by simp
  go_enter Try.func60, Try.ntmps60
  go_wp2
  go_loopg [5] l.length (fun g sl wr => ∃ k : Nat, k ≤ l.length ∧ l.length ≤ k + g ∧ sl = .int .i64 (k : Int) ∧ ∃ os d, wr = w.more os d)
  case atStart => exact ⟨0, by omega, by omega, rfl, #[], w.drawn, by simp [World.more]⟩
  case round =>
    obtain ⟨k, hk, hg, rfl, os, d, rfl⟩ := hrel
    by_cases hlk : k < l.length
    · obtain ⟨g1, f1, d1, e1, s1, x1⟩ := H1.out.some_form (by omega) (by omega)
      obtain ⟨g2, f2, d2, e2, s2, x2⟩ := H2.out.some_form (by omega) (by omega)
      cases e1
      cases e2
      have xa : ∀ j u, l[k].cells[j]? = some u → j < 7 → w.cell? ⟨g1, f1 + k * 7 + j, none⟩ = some u := fun j u hu hj => by rw [Nat.add_assoc]; exact x1 (k * 7 + j) u (by rw [accs_get3 l k j hlk hj]; exact hu)
      have xb : ∀ j u, l[k].cells[j]? = some u → j < 7 → w.cell? ⟨g2, f2 + k * 7 + j, none⟩ = some u := fun j u hu hj => by rw [Nat.add_assoc]; exact x2 (k * 7 + j) u (by rw [accs_get3 l k j hlk hj]; exact hu)
      generalize l[k] = z at *
      obtain ⟨mv, th, kd, ad, old, nw, saw⟩ := z
      have z0 := xa 0 _ rfl (by omega)
      have z1 := xa 1 _ rfl (by omega)
      have z2 := xa 2 _ rfl (by omega)
      have z3 := xa 3 _ rfl (by omega)
      have z4 := xa 4 _ rfl (by omega)
      have z5 := xa 5 _ rfl (by omega)
      have z6 := xa 6 _ rfl (by omega)
      have y0 := xb 0 _ rfl (by omega)
      have y1 := xb 1 _ rfl (by omega)
      have y2 := xb 2 _ rfl (by omega)
      have y3 := xb 3 _ rfl (by omega)
      have y4 := xb 4 _ rfl (by omega)
      have y5 := xb 5 _ rfl (by omega)
      have y6 := xb 6 _ rfl (by omega)
      simp only [Nat.add_zero] at z0 y0
      simp only at z0 y0 z1 y1 z2 y2 z3 y3 z4 y4 z5 y5 z6 y6
      clear x1 x2 xa xb
      go_wp2
      refine wp_region_more_lit (by kernel_rfl) (by kernel_rfl) ?_
      repeat (first | go_big_quiet_skip | (go_big_quiet_want; go_big_quiet_op; first | go_big_quiet_on | (apply Exists.intro; refine ⟨fun _ => ?_, ?_⟩; (focus (fail)); go_big_quiet_on)))
      refine wpQuiet_nil ?_
      intro osq dq
      go_wp2
      go_roundg (l.length - (k + 1))
      case measure => omega
      case rel => exact ⟨k + 1, by omega, by omega, by go_num, RowKit.Below.more (by repeat (first | exact Below.refl _ _ | apply Below.drew | apply Below.more1 | apply Below.alloc1))⟩
    · go_wp2
      go_ret
      exact ⟨rfl, (by repeat (first | exact Below.refl _ _ | apply Below.drew | apply Below.more1 | apply Below.alloc1))⟩

set_option maxRecDepth 100000 in
theorem sameShifts_yes {w : World} {v1 v2 : Value} {l : List Shf} (h1 : w.Src 5 v1 l.length (shfs l)) (h2 : w.Src 5 v2 l.length (shfs l)) (hn : l.length ≤ 4611686018427387904) : Calls Try.prog 61 #[v1, v2] w fun e w' =>
    e = .returned (.bool true) ∧ Below w.heap.size w w' := by
  obtain ⟨o1, c1, rfl⟩ := h1.form
  obtain ⟨o2, c2, rfl⟩ := h2.form
  have H1 := Lib.hid h1
  have H2 := Lib.hid h2
  clear h1 h2
  have hne : ((l.length : Int) != (l.length : Int)) = false := by simp
  go_enter Try.func61, Try.ntmps61
  go_wp2
  go_loopg [5] l.length (fun g sl wr => ∃ k : Nat, k ≤ l.length ∧ l.length ≤ k + g ∧ sl = .int .i64 (k : Int) ∧ ∃ os d, wr = w.more os d)
  case atStart => exact ⟨0, by omega, by omega, rfl, #[], w.drawn, by simp [World.more]⟩
  case round =>
    obtain ⟨k, hk, hg, rfl, os, d, rfl⟩ := hrel
    by_cases hlk : k < l.length
    · obtain ⟨g1, f1, d1, e1, s1, x1⟩ := H1.out.some_form (by omega) (by omega)
      obtain ⟨g2, f2, d2, e2, s2, x2⟩ := H2.out.some_form (by omega) (by omega)
      cases e1
      cases e2
      have xa : ∀ j u, l[k].cells[j]? = some u → j < 5 → w.cell? ⟨g1, f1 + k * 5 + j, none⟩ = some u := fun j u hu hj => by rw [Nat.add_assoc]; exact x1 (k * 5 + j) u (by rw [shfs_get3 l k j hlk hj]; exact hu)
      have xb : ∀ j u, l[k].cells[j]? = some u → j < 5 → w.cell? ⟨g2, f2 + k * 5 + j, none⟩ = some u := fun j u hu hj => by rw [Nat.add_assoc]; exact x2 (k * 5 + j) u (by rw [shfs_get3 l k j hlk hj]; exact hu)
      generalize l[k] = z at *
      obtain ⟨mv, th, sl, fr, tgt⟩ := z
      have z0 := xa 0 _ rfl (by omega)
      have z1 := xa 1 _ rfl (by omega)
      have z2 := xa 2 _ rfl (by omega)
      have z3 := xa 3 _ rfl (by omega)
      have z4 := xa 4 _ rfl (by omega)
      have y0 := xb 0 _ rfl (by omega)
      have y1 := xb 1 _ rfl (by omega)
      have y2 := xb 2 _ rfl (by omega)
      have y3 := xb 3 _ rfl (by omega)
      have y4 := xb 4 _ rfl (by omega)
      simp only [Nat.add_zero] at z0 y0
      simp only at z0 y0 z1 y1 z2 y2 z3 y3 z4 y4
      clear x1 x2 xa xb
      go_wp2
      refine wp_region_more_lit (by kernel_rfl) (by kernel_rfl) ?_
      repeat (first | go_big_quiet_skip | (go_big_quiet_want; go_big_quiet_op; first | go_big_quiet_on | (apply Exists.intro; refine ⟨fun _ => ?_, ?_⟩; (focus (fail)); go_big_quiet_on)))
      refine wpQuiet_nil ?_
      intro osq dq
      go_wp2
      go_roundg (l.length - (k + 1))
      case measure => omega
      case rel => exact ⟨k + 1, by omega, by omega, by go_num, RowKit.Below.more (by repeat (first | exact Below.refl _ _ | apply Below.drew | apply Below.more1 | apply Below.alloc1))⟩
    · go_wp2
      go_ret
      exact ⟨rfl, (by repeat (first | exact Below.refl _ _ | apply Below.drew | apply Below.more1 | apply Below.alloc1))⟩
theorem u64s_at (l : List Int) (k : Nat) (h : k < l.length) : (u64s l)[k]? = some (.int .u64 l[k]) := by simp [u64s, h]

set_option maxRecDepth 100000 in
theorem sameWords3_yes {w : World} {v1 v2 : Value} {l : List Int} (h1 : w.Src 1 v1 l.length (u64s l)) (h2 : w.Src 1 v2 l.length (u64s l)) (hn : l.length ≤ 4611686018427387904) : Calls Try.prog 25 #[v1, v2] w fun e w' =>
    e = .returned (.bool true) ∧ Below w.heap.size w w' := by
  obtain ⟨o1, c1, rfl⟩ := h1.form
  obtain ⟨o2, c2, rfl⟩ := h2.form
  have H1 := Lib.hid h1
  have H2 := Lib.hid h2
  clear h1 h2
  have hne : ((l.length : Int) != (l.length : Int)) = false := by simp
  go_enter Try.func25, Try.ntmps25
  go_wp2
  go_loopg [5] l.length (fun g sl wr => ∃ k : Nat, k ≤ l.length ∧ l.length ≤ k + g ∧ sl = .int .i64 (k : Int) ∧ ∃ os d, wr = w.more os d)
  case atStart => exact ⟨0, by omega, by omega, rfl, #[], w.drawn, by simp [World.more]⟩
  case round =>
    obtain ⟨k, hk, hg, rfl, os, d, rfl⟩ := hrel
    by_cases hlk : k < l.length
    · obtain ⟨g1, f1, d1, e1, s1, x1⟩ := H1.out.some_form (by omega) (by omega)
      obtain ⟨g2, f2, d2, e2, s2, x2⟩ := H2.out.some_form (by omega) (by omega)
      cases e1
      cases e2
      have y1 := x1 k _ (u64s_at l k hlk)
      have y2 := x2 k _ (u64s_at l k hlk)
      clear x1 x2
      generalize l[k] = z at y1 y2
      go_wp2
      refine wp_region_more_lit (by kernel_rfl) (by kernel_rfl) ?_
      repeat (first | go_big_quiet_skip | (go_big_quiet_want; go_big_quiet_op; first | go_big_quiet_on | (apply Exists.intro; refine ⟨fun _ => ?_, ?_⟩; (focus (fail)); go_big_quiet_on)))
      refine wpQuiet_nil ?_
      intro osq dq
      go_wp2
      go_roundg (l.length - (k + 1))
      case measure => omega
      case rel => exact ⟨k + 1, by omega, by omega, by go_num, RowKit.Below.more (by repeat (first | exact Below.refl _ _ | apply Below.drew | apply Below.more1 | apply Below.alloc1))⟩
    · go_wp2
      go_ret
      exact ⟨rfl, (by repeat (first | exact Below.refl _ _ | apply Below.drew | apply Below.more1 | apply Below.alloc1))⟩

/-- a run that can be read -/
structure RunSrc (w : World) (x : RunVs) (r : RunS) : Prop where
  wa : w.Src 9 x.va r.calls.length (cals r.calls)
  wt : w.Src 7 x.vt r.trace.length (accs r.trace)
  wb : w.Src 5 x.vb r.shifts.length (shfs r.shifts)
  wc : w.Src 1 x.vc r.words.length (u64s r.words)
theorem RunAt.src {w : World} {base : Nat} {x : RunVs} {r : RunS} (h : RunAt w base x r) : RunSrc w x r := ⟨h.wa.src, h.wt.src, h.wb.src, h.wc.src⟩
theorem RunSrc.below {w w' : World} {x : RunVs} {r : RunS} (h : RunSrc w x r) (hb : Below w.heap.size w w') : RunSrc w' x r := ⟨h.wa.below hb, h.wt.below hb, h.wb.below hb, h.wc.below hb⟩

set_option maxRecDepth 100000 in
set_option maxHeartbeats 1000000 in
theorem sameRun_yes {w : World} {x y : RunVs} {r : RunS} (h1 : RunSrc w x r) (h2 : RunSrc w y r) (n1 : r.calls.length ≤ 1000000) (n2 : r.trace.length ≤ 1000000) (n3 : r.shifts.length ≤ 1000000) (n4 : r.words.length ≤ 1000000) :
    Calls Try.prog 23 #[x.v, y.v] w fun e w' => e = .returned (.bool true) ∧ Below w.heap.size w w' := by
  obtain ⟨x1, x2, x3, x4⟩ := x
  obtain ⟨y1, y2, y3, y4⟩ := y
  have C1 : Hid (∀ W, Below w.heap.size w W → Calls Try.prog 59 #[x1, y1] W fun e w' => e = .returned (.bool true) ∧ Below W.heap.size W w') := fun W hb => sameCalls_yes (h1.wa.below hb) (h2.wa.below hb) (by omega)
  have C2 : Hid (∀ W, Below w.heap.size w W → Calls Try.prog 60 #[x2, y2] W fun e w' => e = .returned (.bool true) ∧ Below W.heap.size W w') := fun W hb => sameTrace_yes (h1.wt.below hb) (h2.wt.below hb) (by omega)
  have C3 : Hid (∀ W, Below w.heap.size w W → Calls Try.prog 61 #[x3, y3] W fun e w' => e = .returned (.bool true) ∧ Below W.heap.size W w') := fun W hb => sameShifts_yes (h1.wb.below hb) (h2.wb.below hb) (by omega)
  have C4 : Hid (∀ W, Below w.heap.size w W → Calls Try.prog 25 #[x4, y4] W fun e w' => e = .returned (.bool true) ∧ Below W.heap.size W w') := fun W hb => sameWords3_yes (h1.wc.below hb) (h2.wc.below hb) (by omega)
  obtain ⟨o1, c1, e1⟩ := h1.wa.form
  obtain ⟨o2, c2, e2⟩ := h1.wt.form
  obtain ⟨o3, c3, e3⟩ := h1.wb.form
  obtain ⟨o4, c4, e4⟩ := h1.wc.form
  obtain ⟨u1, d1, f1⟩ := h2.wa.form
  obtain ⟨u2, d2, f2⟩ := h2.wt.form
  obtain ⟨u3, d3, f3⟩ := h2.wb.form
  obtain ⟨u4, d4, f4⟩ := h2.wc.form
  simp only at e1 e2 e3 e4 f1 f2 f3 f4
  subst e1 e2 e3 e4 f1 f2 f3 f4
  unfold RunVs.v
  clear h1 h2 n1 n2 n3 n4
  go_enter Try.func23, Try.ntmps23
  go_wp2_with (go_at_call 59; refine (C1.out _ (by repeat (first | exact Below.refl _ _ | apply Below.drew | apply Below.more1 | apply Below.alloc1))).mono ?_; rintro e w1 ⟨rfl, hb1⟩; obtain ⟨os, d, rfl⟩ := hb1.more; clear hb1)
  go_wp2_with (go_at_call 60; refine (C2.out _ (by repeat (first | exact Below.refl _ _ | apply Below.drew | apply Below.more1 | apply Below.alloc1))).mono ?_; rintro e w1 ⟨rfl, hb1⟩; obtain ⟨os2, d2', rfl⟩ := hb1.more; clear hb1)
  go_wp2_with (go_at_call 61; refine (C3.out _ (by repeat (first | exact Below.refl _ _ | apply Below.drew | apply Below.more1 | apply Below.alloc1))).mono ?_; rintro e w1 ⟨rfl, hb1⟩; obtain ⟨os3, d3', rfl⟩ := hb1.more; clear hb1)
  go_wp2_with (go_at_call 25; refine (C4.out _ (by repeat (first | exact Below.refl _ _ | apply Below.drew | apply Below.more1 | apply Below.alloc1))).mono ?_; rintro e w1 ⟨rfl, hb1⟩; obtain ⟨os4, d4', rfl⟩ := hb1.more; clear hb1)
  go_ret
  exact ⟨rfl, (by repeat (first | exact Below.refl _ _ | apply Below.drew | apply Below.more1 | apply Below.alloc1))⟩
end Go.Proofs.Ytbhbpfpggfcpgaa
namespace Go.Proofs.Ytbhbpfpggfcpgaa
open Go.ChangeShapes Go.WideShapes Go.ChangeAt Go.RowKit Go.Shelf

/-- what a script comes to -/
def playOut (th : Int) (l : List Int) (ms : List Mv) : RunS × Int :=
  if th < 1 ∨ 16 < th then (⟨[], [], [], []⟩, 1) else if 8192 < l.length ∨ 65536 < ms.length then (⟨[], [], [], []⟩, 3) else (refRun l th.toNat ms, 0)
/-- a run in memory that was not there in w -/
def RunNew (w w' : World) (x : RunVs) (r : RunS) : Prop := ∀ W, Only (fun k => k < w.heap.size) w' W → RunSrc W x r
theorem RunNew.src {w w' : World} {x : RunVs} {r : RunS} (h : RunNew w w' x r) : RunSrc w' x r := h w' (Only.refl _ _)
theorem RunNew.of {w w' : World} {x : RunVs} {r : RunS} (h : RunAt w' w.heap.size x r) : RunNew w w' x r := fun W ho => (h.of_block fun k hk => ho.block k (h.lt k hk).2 (by have := (h.lt k hk).1; omega)).src
def PlayOut (w : World) (p : RunS × Int) (e : Ending) (w' : World) : Prop := ∃ x : RunVs, e = .returned (.tuple #[x.v, .int .i64 p.2]) ∧ RunNew w w' x p.1 ∧ Only (fun _ => False) w w'
def RunS.small (r : RunS) : Prop := r.calls.length ≤ 1000000 ∧ r.trace.length ≤ 1000000 ∧ r.shifts.length ≤ 1000000 ∧ r.words.length ≤ 1000000
theorem refRun_small (l : List Int) (n : Nat) (ms : List Mv) (hl : l.length ≤ 8192) (hms : ms.length ≤ 65536) : RunS.small (refRun l n ms) := by
  have hc := os_lens l n ms hms
  have hw := (inv_of l n ms hms).wlen
  refine ⟨?_, ?_, ?_, ?_⟩
  · show (osOf l n ms).calls.length ≤ _; omega
  · show (osOf l n ms).log.length ≤ _; omega
  · show ([] : List Shf).length ≤ _; simp
  · show (osOf l n ms).words.length ≤ _; omega
theorem playOut_small (th : Int) (l : List Int) (ms : List Mv) : RunS.small (playOut th l ms).1 := by
  unfold playOut
  split
  · exact ⟨by simp, by simp, by simp, by simp⟩
  · split
    · exact ⟨by simp, by simp, by simp, by simp⟩
    · rename_i h1 h2
      exact refRun_small _ _ _ (by omega) (by omega)
def zeroX : RunVs := ⟨.slice none 0 0, .slice none 0 0, .slice none 0 0, .slice none 0 0⟩
theorem zero_src (w : World) : RunSrc w zeroX ⟨[], [], [], []⟩ := ⟨⟨rfl, .inl ⟨rfl, rfl⟩⟩, ⟨rfl, .inl ⟨rfl, rfl⟩⟩, ⟨rfl, .inl ⟨rfl, rfl⟩⟩, ⟨rfl, .inl ⟨rfl, rfl⟩⟩⟩
theorem mvs_form {w : World} {vm : Value} {ms : List Mv} (h : MvsIn w vm ms) : ∃ o c, vm = .slice o ms.length c ∧ ms.length ≤ 9223372036854775807 := by
  obtain ⟨o, c, e, h1, h2, _⟩ := h
  unfold maxLen at h2
  exact ⟨o, c, e, by omega⟩
theorem play_any {w : World} (th : Int) {vx vm : Value} {l : List Int} {ms : List Mv} (hs : w.Src 1 vx l.length (u64s l)) (hl : l.length ≤ 9223372036854775807) (hm : MvsIn w vm ms) :
    Calls Try.prog 21 #[.int .i64 th, vx, vm] w (PlayOut w (playOut th l ms)) := by
  obtain ⟨ox, cx, rfl⟩ := hs.form
  obtain ⟨om, cm, rfl, hm2⟩ := mvs_form hm
  unfold playOut
  by_cases h1 : th < 1 ∨ 16 < th
  · rw [if_pos h1]
    exact (play_bad th ox om _ _ _ _ h1).mono fun e w' ⟨he, hb⟩ => ⟨zeroX, he, fun _ _ => zero_src _, Below.only0 hb⟩
  · rw [if_neg h1]
    by_cases h2 : 8192 < l.length ∨ 65536 < ms.length
    · rw [if_pos h2]
      rcases Nat.lt_or_ge 8192 l.length with h3 | h3
      · exact (play_long1 th ox om _ _ _ _ (by omega) (by omega) h3 hl).mono fun e w' ⟨he, hb⟩ => ⟨zeroX, he, fun _ _ => zero_src _, Below.only0 hb⟩
      · obtain ⟨n, rfl⟩ : ∃ n : Nat, th = (n : Int) := ⟨th.toNat, by omega⟩
        exact (play_long2 n om _ _ hs h3 (by omega) (by omega) (by omega) hm2).mono fun e w' ⟨he, hb⟩ => ⟨zeroX, he, fun _ _ => zero_src _, hb⟩
    · rw [if_neg h2]
      obtain ⟨n, rfl⟩ : ∃ n : Nat, th = (n : Int) := ⟨th.toNat, by omega⟩
      rw [Int.toNat_natCast]
      refine (play_ok n hs (by omega) hm (by omega) (by omega) (by omega)).mono ?_
      rintro e w' ⟨x, he, hr, ho⟩
      rw [own_os] at hr
      exact ⟨x, he, .of hr, ho⟩
theorem rplay_any {w : World} (th : Int) {vx vm : Value} {l : List Int} {ms : List Mv} (hs : w.Src 1 vx l.length (u64s l)) (hl : l.length ≤ 9223372036854775807) (hm : MvsIn w vm ms) :
    Calls Try.prog 22 #[.int .i64 th, vx, vm] w (PlayOut w (playOut th l ms)) := by
  obtain ⟨ox, cx, rfl⟩ := hs.form
  obtain ⟨om, cm, rfl, hm2⟩ := mvs_form hm
  unfold playOut
  by_cases h1 : th < 1 ∨ 16 < th
  · rw [if_pos h1]
    exact (rplay_bad th ox om _ _ _ _ h1).mono fun e w' ⟨he, hb⟩ => ⟨zeroX, he, fun _ _ => zero_src _, Below.only0 hb⟩
  · rw [if_neg h1]
    by_cases h2 : 8192 < l.length ∨ 65536 < ms.length
    · rw [if_pos h2]
      exact (rplay_long th ox om _ _ _ _ (by omega) (by omega) h2 hl hm2).mono fun e w' ⟨he, hb⟩ => ⟨zeroX, he, fun _ _ => zero_src _, Below.only0 hb⟩
    · rw [if_neg h2]
      obtain ⟨n, rfl⟩ : ∃ n : Nat, th = (n : Int) := ⟨th.toNat, by omega⟩
      rw [Int.toNat_natCast]
      refine (rplay_ok n hs (by omega) hm (by omega) (by omega) (by omega)).mono ?_
      rintro e w' ⟨x, he, hr, ho⟩
      exact ⟨x, he, .of hr, ho⟩
theorem RunSrc.only {w w' : World} {x : RunVs} {r : RunS} (h : RunSrc w x r) (ho : Only (fun _ => False) w w') : RunSrc w' x r := ⟨h.wa.only ho, h.wt.only ho, h.wb.only ho, h.wc.only ho⟩
theorem RunSrc.forms {w : World} {x : RunVs} {r : RunS} (h : RunSrc w x r) : ∃ oa ca ot ct ob cb oc cc, x = ⟨.slice oa r.calls.length ca, .slice ot r.trace.length ct, .slice ob r.shifts.length cb, .slice oc r.words.length cc⟩ := by
  obtain ⟨x1, x2, x3, x4⟩ := x
  obtain ⟨o1, c1, e1⟩ := h.wa.form
  obtain ⟨o2, c2, e2⟩ := h.wt.form
  obtain ⟨o3, c3, e3⟩ := h.wb.form
  obtain ⟨o4, c4, e4⟩ := h.wc.form
  simp only at e1 e2 e3 e4
  subst e1 e2 e3 e4
  exact ⟨_, _, _, _, _, _, _, _, rfl⟩
end Go.Proofs.Ytbhbpfpggfcpgaa
