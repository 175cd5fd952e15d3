/-
machine.Play refuses: threads out of their limits, too many words, too many moves.
reclaimref03: Play: the machine's own calls' script.
Several things in the heap, side by side (Crew): what one does leaves the others. Plain.
reclaimref03: Spoil: what it makes of a run's four rows (two views of each). Plain.
reclaimref03: Spoil: the four rows on the way (SpAt). Plain.
reclaimref03: SameCalls, SameTrace, SameShifts, SameWords, SameRun: lists that are the same.
-/
import Derived.Test.YtbhbpfpggfcpgaaQOwnK
import Derived.Test.YtbhbpfpggfcpgaaQRmF
import Derived.Test.YtbhbpfpggfcpgaaQRmP
import Derived.Deep.MidRow
namespace Go.Proofs.Ytbhbpfpggfcpgaa
open Go.ChangeShapes Go.WideShapes Go.ChangeAt Go.RowKit Go.Shelf

def zeroRun : Value := .agg #[.slice none 0 0, .slice none 0 0, .slice none 0 0, .slice none 0 0]
set_option maxRecDepth 100000 in
theorem play_bad {w : World} (n : Int) (o om : Option Addr) (m c mm cm : Nat) (hn : n < 1 ∨ 16 < n) : Calls Try.prog 21 #[.int .i64 n, .slice o m c, .slice om mm cm] w fun e w' => e = .returned (.tuple #[zeroRun, .int .i64 1]) ∧ Below w.heap.size w w' := by
  unfold zeroRun
  have HN := Lib.hid hn
  clear hn
  go_enter Try.func21, Try.ntmps21
  go_wp2_with (first
    | (go_at_call 16; refine (own_at _).mono ?_; rintro e w1 ⟨kb, sb, tb, rfl, hk, ho⟩; obtain ⟨os, d, rfl⟩ := (Only.below ho (fun _ h => h.elim) (Nat.le_refl _)).more; clear hk ho)
    | (go_at_call 15; refine (newm_bad _ _ _ HN.out).mono ?_; rintro e w2 ⟨rfl, rfl⟩))
  refine bodyPost_ret (v := .tuple #[.agg #[.slice none 0 0, .slice none 0 0, .slice none 0 0, .slice none 0 0], .int .i64 1]) (by simp [results, Try.results21, go_sem]) rfl ⟨rfl, (by repeat (first | exact Below.refl _ _ | apply Below.drew | apply Below.more1 | apply Below.alloc1))⟩
set_option maxRecDepth 100000 in
theorem play_long1 {w : World} (n : Int) (o om : Option Addr) (m c mm cm : Nat) (h1 : 1 ≤ n) (h16 : n ≤ 16) (hm : 8192 < m) (hm2 : m ≤ 9223372036854775807) : Calls Try.prog 21 #[.int .i64 n, .slice o m c, .slice om mm cm] w fun e w' => e = .returned (.tuple #[zeroRun, .int .i64 3]) ∧ Below w.heap.size w w' := by
  unfold zeroRun
  have HN := Lib.hid (fun (w : World) (kit : Value) => newm_long (w := w) n o m c kit h1 h16 hm hm2)
  clear h1 h16 hm
  go_enter Try.func21, Try.ntmps21
  go_wp2_with (first
    | (go_at_call 16; refine (own_at _).mono ?_; rintro e w1 ⟨kb, sb, tb, rfl, hk, ho⟩; obtain ⟨os, d, rfl⟩ := (Only.below ho (fun _ h => h.elim) (Nat.le_refl _)).more; clear hk ho)
    | (go_at_call 15; refine (HN.out _ _).mono ?_; rintro e w2 ⟨rfl, rfl⟩))
  refine bodyPost_ret (v := .tuple #[.agg #[.slice none 0 0, .slice none 0 0, .slice none 0 0, .slice none 0 0], .int .i64 3]) (by simp [results, Try.results21, go_sem]) rfl ⟨rfl, (by repeat (first | exact Below.refl _ _ | apply Below.drew | apply Below.more1 | apply Below.alloc1))⟩
set_option maxRecDepth 100000 in
theorem play_long2 {w : World} (n : Nat) {vx : Value} {l : List Int} (om : Option Addr) (mm cm : Nat) (hs : w.Src 1 vx l.length (u64s l)) (hl : l.length ≤ 8192) (h1 : 1 ≤ n) (h16 : n ≤ 16) (hm : 65536 < mm) (hm2 : mm ≤ 9223372036854775807) : Calls Try.prog 21 #[.int .i64 n, vx, .slice om mm cm] w fun e w' => e = .returned (.tuple #[zeroRun, .int .i64 3]) ∧ Only (fun _ => False) w w' := by
  unfold zeroRun
  have HS := Lib.hid hs
  obtain ⟨ox, cx, rfl⟩ : ∃ o c, vx = .slice o l.length c := by
    rcases hs.2 with ⟨rfl, h0⟩ | ⟨ad, c, rfl, hc, _⟩
    · exact ⟨none, 0, by rw [h0]⟩
    · exact ⟨some ad, c, rfl⟩
  have hms2 : decide ((65536 : Int) < (mm : Int)) = true := by simp; omega
  clear hs hm
  go_enter Try.func21, Try.ntmps21
  go_wp2_with (first
    | (go_at_call 16; refine (own_at _).mono ?_; rintro e w1 ⟨kb, sb, tb, rfl, hk, ho⟩; have HK := Lib.hid hk; have HO := Lib.hid ho; have HN := Lib.hid (newm_ok (w := w1) (km := some kb) n ((HS.out.alloc _).only ho) hl h1 h16); clear hk ho)
    | (go_at_call 15; refine HN.out.mono ?_; rintro e w2 ⟨xb, rfl, hna⟩; obtain ⟨Fn, hpm, hon⟩ := newAt_pm HK.out HO.out hna; have ow := (show Only (fun _ => False) (run0 w) w2 from hon); have hrc : w2.heap[w.heap.size]? = some (.cells #[.slice none 0 0, .slice none 0 0, .slice none 0 0, .slice none 0 0] 41 (0, 0)) := (by rw [ow.block w.heap.size (by simp [run0]) (fun x => x)]; exact heap_alloc_new w _); have OW := Lib.hid ow; have e0 : w2.cell? ⟨w.heap.size, 0, none⟩ = some (.slice none 0 0) := (by simp [World.cell?, hrc]); have e1 : w2.cell? ⟨w.heap.size, 1, none⟩ = some (.slice none 0 0) := (by simp [World.cell?, hrc]); have e2 : w2.cell? ⟨w.heap.size, 2, none⟩ = some (.slice none 0 0) := (by simp [World.cell?, hrc]); have e3 : w2.cell? ⟨w.heap.size, 3, none⟩ = some (.slice none 0 0) := (by simp [World.cell?, hrc]); have ez : ∀ j, w2.frozen? ⟨w.heap.size, j, none⟩ = false := fun j => (by simp [World.frozen?, hrc]); have hrl := (Array.getElem?_eq_some_iff.1 hrc).1; clear hna hpm hon ow hrc))
  refine bodyPost_ret (v := .tuple #[.agg #[.slice none 0 0, .slice none 0 0, .slice none 0 0, .slice none 0 0], .int .i64 3]) (by simp [results, Try.results21, go_sem, e0, e1, e2, e3]) rfl ⟨rfl, ?_⟩
  refine (((Only.refl _ w).alloc _).trans OW.out (fun _ h => h.elim)).trans (G := fun k => k = w.heap.size) ?_ (fun k hk => .inr (Nat.le_of_eq hk.symm))
  exact (((((Only.refl (fun k => k = w.heap.size) w2).set (p := ⟨w.heap.size, 0, none⟩) (.inl rfl) _).set (p := ⟨w.heap.size, 1, none⟩) (.inl rfl) _).set (p := ⟨w.heap.size, 2, none⟩) (.inl rfl) _).set (p := ⟨w.heap.size, 3, none⟩) (.inl rfl) _)
end Go.Proofs.Ytbhbpfpggfcpgaa
namespace Go.Proofs.Ytbhbpfpggfcpgaa
open Go.ChangeShapes Go.WideShapes Go.ChangeAt Go.RowKit Go.Shelf

theorem orel_new (l : List Int) (n : Nat) : ORel (osOf l n []) (newM n l ownLabels (List.replicate n RT.new)) := by
  refine ⟨rfl, rfl, rfl, rfl, rfl, rfl, rfl, rfl, by simp [newM, osOf, OS.goes, OS.init], fun i se t hs ht => ?_, fun t ht => ?_⟩
  · have hs' : (List.replicate n (⟨none, -1⟩ : OSeat))[i]? = some se := hs
    have ht' : (List.replicate n RT.new)[i]? = some t := ht
    rw [List.getElem?_replicate] at hs' ht'
    split at hs'
    · rename_i hlt
      rw [if_pos hlt] at ht'
      cases hs'
      cases ht'
      rfl
    · cases hs'
  · have ht' : t ∈ List.replicate n RT.new := ht
    rw [(List.mem_replicate.1 ht').2]
    exact RT.new_ok
/-- the document's machine as New leaves it -/
theorem NewI.run {w0 w wr : World} {vc ve : Value} {n mb : Nat} {l : List Int} (h : NewI w0 w vc ve n l mb ownLabels (List.replicate n RT.new) wr) (ho : Only (fun _ => False) w0 w) : ∃ F, RRunI w0 wr F l n mb [] wr := by
  obtain ⟨v, hV⟩ := h
  exact ⟨v.own mb, _, v, hV.at', orel_new l n, ho.trans hV.only (fun _ x => x.elim), Only.refl _ _, fun k hk => .inl hk⟩

set_option maxRecDepth 100000 in
theorem rplay_bad {w : World} (n : Int) (o om : Option Addr) (m c mm cm : Nat) (hn : n < 1 ∨ 16 < n) : Calls Try.prog 22 #[.int .i64 n, .slice o m c, .slice om mm cm] w fun e w' => e = .returned (.tuple #[zeroRun, .int .i64 1]) ∧ Below w.heap.size w w' := by
  unfold zeroRun
  rcases hn with hn | hn
  · have q : decide (n < 1) = true := by simpa using hn
    go_enter Try.func22, Try.ntmps22
    go_wp2
    refine bodyPost_ret (v := .tuple #[.agg #[.slice none 0 0, .slice none 0 0, .slice none 0 0, .slice none 0 0], .int .i64 1]) (by simp [results, Try.results22, go_sem]) rfl ⟨rfl, ?_⟩
    exact (by repeat (first | exact Below.refl _ _ | apply Below.drew | apply Below.more1 | apply Below.alloc1))
  · have q : decide (n < 1) = false := by simp; omega
    have q2 : decide (16 < n) = true := by simpa using hn
    go_enter Try.func22, Try.ntmps22
    go_wp2
    refine bodyPost_ret (v := .tuple #[.agg #[.slice none 0 0, .slice none 0 0, .slice none 0 0, .slice none 0 0], .int .i64 1]) (by simp [results, Try.results22, go_sem]) rfl ⟨rfl, ?_⟩
    exact (by repeat (first | exact Below.refl _ _ | apply Below.drew | apply Below.more1 | apply Below.alloc1))
set_option maxRecDepth 100000 in
theorem rplay_long {w : World} (n : Int) (o om : Option Addr) (m c mm cm : Nat) (h1 : 1 ≤ n) (h16 : n ≤ 16) (hm : 8192 < m ∨ 65536 < mm) (hm1 : m ≤ 9223372036854775807) (hm2 : mm ≤ 9223372036854775807) : Calls Try.prog 22 #[.int .i64 n, .slice o m c, .slice om mm cm] w fun e w' => e = .returned (.tuple #[zeroRun, .int .i64 3]) ∧ Below w.heap.size w w' := by
  unfold zeroRun
  have q : decide (n < 1) = false := by simp; omega
  have q2 : decide (16 < n) = false := by simp; omega
  rcases Nat.lt_or_ge 8192 m with hm | hm'
  · have q3 : decide ((8192 : Int) < (m : Int)) = true := by simp; omega
    go_enter Try.func22, Try.ntmps22
    go_wp2
    refine bodyPost_ret (v := .tuple #[.agg #[.slice none 0 0, .slice none 0 0, .slice none 0 0, .slice none 0 0], .int .i64 3]) (by simp [results, Try.results22, go_sem]) rfl ⟨rfl, ?_⟩
    exact (by repeat (first | exact Below.refl _ _ | apply Below.drew | apply Below.more1 | apply Below.alloc1))
  · have q3 : decide ((8192 : Int) < (m : Int)) = false := by simp; omega
    have q4 : decide ((65536 : Int) < (mm : Int)) = true := by simp; omega
    go_enter Try.func22, Try.ntmps22
    go_wp2
    refine bodyPost_ret (v := .tuple #[.agg #[.slice none 0 0, .slice none 0 0, .slice none 0 0, .slice none 0 0], .int .i64 3]) (by simp [results, Try.results22, go_sem]) rfl ⟨rfl, ?_⟩
    exact (by repeat (first | exact Below.refl _ _ | apply Below.drew | apply Below.more1 | apply Below.alloc1))

/-- what Own leaves -/
structure OwnLeft (W : World) (vc ve : Value) (w' : World) : Prop where
  hc : w'.RowV W.heap.size 143 6 vc ownCode.length (ownCode.flatMap Ins.cells)
  he : w'.RowV W.heap.size 145 3 ve ownEnts.length (ownEnts.flatMap Ent.cells)
  ne : ∀ k, ve.rowBlock = some k → vc.rowBlock ≠ some k
  on : Only (fun _ => False) W w'
theorem rOwn_left (W : World) : Calls Try.prog 33 #[] W fun e w' => e = .returned (.tuple #[.slice (some ⟨W.heap.size, 0, none⟩) 13 13, .slice (some ⟨W.heap.size + 1, 0, none⟩) 2 2]) ∧ OwnLeft W (.slice (some ⟨W.heap.size, 0, none⟩) 13 13) (.slice (some ⟨W.heap.size + 1, 0, none⟩) 2 2) w' := by
  refine (rOwn_any W).mono ?_
  rintro e w' ⟨rfl, rfl⟩
  have hs : (W.alloc (.cells codeCells 143)).heap.size = W.heap.size + 1 := by simp
  refine ⟨rfl, ⟨by decide, .inr ⟨W.heap.size, 13, codeCells, rfl, Nat.le_refl _, ?_, by decide, by omega, by unfold maxLen; omega, by decide, by rfl⟩⟩, ⟨by decide, .inr ⟨W.heap.size + 1, 2, entsCells, rfl, by omega, heap_alloc_at hs, by decide, by omega, by unfold maxLen; omega, by decide, by rfl⟩⟩, ?_, ((Only.refl _ W).alloc _).alloc _⟩
  · rw [Below.heap_alloc _ _ _ (by rw [hs]; omega)]
    exact heap_alloc_new W _
  · intro k h1 h2
    simp [Value.rowBlock] at h1 h2
    omega

/-- the run that the document says -/
def refRun (l : List Int) (n : Nat) (ms : List Mv) : RunS := ⟨(osOf l n ms).calls, (osOf l n ms).log, [], (osOf l n ms).words⟩
def RPlayRes (w : World) (l : List Int) (n : Nat) (ms : List Mv) (e : Ending) (w' : World) : Prop :=
  ∃ x : RunVs, e = .returned (.tuple #[x.v, .int .i64 0]) ∧ RunAt w' w.heap.size x (refRun l n ms) ∧ Only (fun _ => False) w w'

set_option maxRecDepth 100000 in
set_option maxHeartbeats 2000000 in
theorem rplay_ok {w : World} (n : Nat) {vx vm : Value} {l : List Int} {ms : List Mv} (hs : w.Src 1 vx l.length (u64s l)) (hl : l.length ≤ 8192) (hm : MvsIn w vm ms) (hms : ms.length ≤ 65536) (h1 : 1 ≤ n) (h16 : n ≤ 16) :
    Calls Try.prog 22 #[.int .i64 (n : Int), vx, vm] w (RPlayRes w l n ms) := by
  have HS := Lib.hid hs
  obtain ⟨ox, cx, rfl⟩ : ∃ o c, vx = .slice o l.length c := by
    rcases hs.2 with ⟨rfl, h0⟩ | ⟨ad, c, rfl, hc, _⟩
    · exact ⟨none, 0, by rw [h0]⟩
    · exact ⟨some ad, c, rfl⟩
  have HMI := Lib.hid hm
  obtain ⟨om, cm, rfl, hm1, hm2, hm3⟩ := hm
  have q : decide ((n : Int) < 1) = false := by simp; omega
  have q2 : decide ((16 : Int) < (n : Int)) = false := by simp; omega
  have q3 : decide ((8192 : Int) < (l.length : Int)) = false := by simp; omega
  have q4 : decide ((65536 : Int) < (ms.length : Int)) = false := by simp; omega
  clear hs hm3
  go_enter Try.func22, Try.ntmps22
  go_upto_region 5 with (fail)
  refine gen_world ?_
  intro W1 hW1
  have HW1 : Hid (Only (fun _ => False) w W1) := Lib.hid (by rw [hW1]; exact (Only.refl _ w).alloc _)
  have hbx : W1.heap[w.heap.size]? = some (.cells #[.slice none 0 0, .slice none 0 0, .slice none 0 0, .slice none 0 0] 41 (0, 0)) := by rw [hW1]; exact heap_alloc_new w _
  have HBX := Lib.hid hbx
  have hl1 := (Array.getElem?_eq_some_iff.1 hbx).1
  clear hW1 hbx
  go_wp2_with (first
    | (go_at_call 33; refine (rOwn_left _).mono ?_; rintro e w1 ⟨rfl, hO⟩; have HO := Lib.hid hO; have HN := Lib.hid (rNew_any (w0 := W1) (w := w1) n ((HS.out.only HW1.out).only hO.on) hl hO.hc hO.he hO.ne h1 h16 hO.on.size); clear hO)
    | (go_at_call 34; refine HN.out.mono ?_; rintro e w2 ⟨mb, rfl, hI⟩; obtain ⟨F, hR⟩ := hI.run HO.out.on; have HR := Lib.hid (rRun_any hR (HMI.out.only HW1.out) hms hl); clear hI hR)
    | (go_at_call 58; refine HR.out.mono ?_; rintro e w3 ⟨x, he, hra, hro⟩; obtain ⟨xa, xt, xb', xc⟩ := x; obtain ⟨oa, ca, e1, _, _⟩ := hra.wa.form; obtain ⟨ot, ct, e2, _, _⟩ := hra.wt.form; obtain ⟨ob, cb, e3, _, _⟩ := hra.wb.form; obtain ⟨oc, cc, e4, _, _⟩ := hra.wc.form; simp only at e1 e2 e3 e4; subst e1; subst e2; subst e3; subst e4; (unfold RunVs.v at he); subst he; have hc3 := (hro.block w.heap.size hl1 (fun x => x)).trans HBX.out; have HRA := Lib.hid hra; have HRO := Lib.hid hro; have e0 : w3.cell? ⟨w.heap.size, 0, none⟩ = some (.slice none 0 0) := (by simp [World.cell?, hc3]); have e1 : w3.cell? ⟨w.heap.size, 1, none⟩ = some (.slice none 0 0) := (by simp [World.cell?, hc3]); have e2 : w3.cell? ⟨w.heap.size, 2, none⟩ = some (.slice none 0 0) := (by simp [World.cell?, hc3]); have e3 : w3.cell? ⟨w.heap.size, 3, none⟩ = some (.slice none 0 0) := (by simp [World.cell?, hc3]); have ez : ∀ j, w3.frozen? ⟨w.heap.size, j, none⟩ = false := fun j => (by simp [World.frozen?, hc3]); have hrl := (Array.getElem?_eq_some_iff.1 hc3).1; clear hra hro hc3))
  refine bodyPost_ret (v := .tuple #[.agg #[(.slice oa (osOf l n ms).calls.length ca), (.slice ot (osOf l n ms).log.length ct), (.slice ob ([] : List Shf).length cb), (.slice oc (osOf l n ms).words.length cc)], .int .i64 0]) (by simp [results, Try.results22, go_sem, e0, e1, e2, e3]) rfl ⟨⟨.slice oa (osOf l n ms).calls.length ca, .slice ot (osOf l n ms).log.length ct, .slice ob ([] : List Shf).length cb, .slice oc (osOf l n ms).words.length cc⟩, rfl, ?_, ?_⟩
  · refine (HRA.out.of_block fun k hk => ?_).base_mono (by have := HW1.out.size; omega)
    have hne : k ≠ w.heap.size := fun e => by have := (HRA.out.lt k hk).1; omega
    exact (Below.heap_setCell _ ⟨w.heap.size, 3, none⟩ _ _ hne).trans ((Below.heap_setCell _ ⟨w.heap.size, 2, none⟩ _ _ hne).trans ((Below.heap_setCell _ ⟨w.heap.size, 1, none⟩ _ _ hne).trans (Below.heap_setCell _ ⟨w.heap.size, 0, none⟩ _ _ hne)))
  · exact (HW1.out.trans HRO.out (fun _ x => x.elim)).trans (((((Only.refl (fun k => k = w.heap.size) w3).set (p := ⟨w.heap.size, 0, none⟩) (.inl rfl) _).set (p := ⟨w.heap.size, 1, none⟩) (.inl rfl) _).set (p := ⟨w.heap.size, 2, none⟩) (.inl rfl) _).set (p := ⟨w.heap.size, 3, none⟩) (.inl rfl) _) (fun k hk => .inr (by subst hk; exact Nat.le_refl _))
end Go.Proofs.Ytbhbpfpggfcpgaa
namespace Go
open Go.RowKit
open Go.Proofs.Ytbhbpfpggfcpgaa

structure Thing (base : Nat) where
  At : World → (Nat → Prop) → Prop
  loc : ∀ {w w' : World} {F : Nat → Prop}, At w F → (∀ k, F k → w'.heap[k]? = w.heap[k]?) → At w' F
  lt : ∀ {w : World} {F : Nat → Prop}, At w F → ∀ k, F k → base ≤ k ∧ k < w.heap.size
def Crew {base : Nat} (ts : List (Thing base)) (w : World) : Prop :=
  ∃ F : Nat → Nat → Prop, (∀ (i : Nat) (t : Thing base), ts[i]? = some t → t.At w (F i)) ∧ ∀ i j, i < ts.length → j < ts.length → i ≠ j → ∀ k, F i k → ¬ F j k
def crewF (F : Nat → Nat → Prop) (i : Nat) (F' : Nat → Prop) : Nat → Nat → Prop := fun j => if j = i then F' else F j
theorem crewF_self (F : Nat → Nat → Prop) (i : Nat) (F' : Nat → Prop) : crewF F i F' i = F' := by unfold crewF; rw [if_pos rfl]
theorem crewF_ne (F : Nat → Nat → Prop) (F' : Nat → Prop) {i j : Nat} (h : ¬ j = i) : crewF F i F' j = F j := by unfold crewF; rw [if_neg h]
section
variable {base : Nat} {ts : List (Thing base)} {w w' : World}
theorem Crew.none (w : World) : Crew (base := base) [] w := ⟨fun _ _ => False, fun i t h => by simp at h, fun i j hi => by simp at hi⟩
theorem Crew.only (h : Crew ts w) (ho : Only (fun _ => False) w w') : Crew ts w' := by
  obtain ⟨F, h1, h2⟩ := h
  exact ⟨F, fun i t ht => t.loc (h1 i t ht) (fun k hk => ho.block k (t.lt (h1 i t ht) k hk).2 (fun x => x)), h2⟩
theorem Crew.get (h : Crew ts w) {i : Nat} {t : Thing base} (hi : ts[i]? = some t) : ∃ F, t.At w F := by
  obtain ⟨F, h1, _⟩ := h
  exact ⟨F i, h1 i t hi⟩
/-- the first ones -/
theorem Crew.init {us : List (Thing base)} (h : Crew (ts ++ us) w) : Crew ts w := by
  obtain ⟨F, h1, h2⟩ := h
  exact ⟨F, fun i t ht => h1 i t (by rw [List.getElem?_append_left (List.getElem?_eq_some_iff.1 ht).1]; exact ht), fun i j hi hj hij => h2 i j (by rw [List.length_append]; omega) (by rw [List.length_append]; omega) hij⟩
/-- one of them does something -/
theorem Crew.turn (h : Crew ts w) {i : Nat} {t : Thing base} (hi : ts[i]? = some t) : ∃ F, t.At w F ∧ (∀ (j : Nat) (t2 : Thing base), i ≠ j → ts[j]? = some t2 → ∃ G, t2.At w G ∧ ∀ k, F k → ¬ G k) ∧
    ∀ (t' : Thing base) (w' : World) (F' : Nat → Prop), t'.At w' F' → Only F w w' → (∀ k, F' k → F k ∨ w.heap.size ≤ k) → Crew (ts.set i t') w' := by
  obtain ⟨F, h1, h2⟩ := h
  have hil := (List.getElem?_eq_some_iff.1 hi).1
  refine ⟨F i, h1 i t hi, fun j t2 hne hj => ⟨F j, h1 j t2 hj, h2 i j hil (List.getElem?_eq_some_iff.1 hj).1 hne⟩, fun t' w' F' ht' ho hF' => ?_⟩
  refine ⟨crewF F i F', fun j tj hj => ?_, fun a b ha hb hab k hk => ?_⟩
  · by_cases e : j = i
    · subst e
      rw [List.getElem?_set_self hil] at hj
      cases hj
      rw [crewF_self]
      exact ht'
    · rw [List.getElem?_set_ne (fun x => e x.symm)] at hj
      rw [crewF_ne F F' e]
      have hjl := (List.getElem?_eq_some_iff.1 hj).1
      exact tj.loc (h1 j tj hj) (fun k hk => ho.block k (tj.lt (h1 j tj hj) k hk).2 (fun hx => h2 i j hil hjl (fun x => e x.symm) k hx hk))
  · rw [List.length_set] at ha hb
    have la := List.getElem?_eq_getElem ha
    have lb := List.getElem?_eq_getElem hb
    by_cases e1 : a = i
    · subst e1
      rw [crewF_ne F F' (fun x => hab x.symm)]
      rw [crewF_self] at hk
      rcases hF' k hk with h3 | h3
      · exact h2 a b ha hb hab k h3
      · intro hx
        have := ((ts[b]).lt (h1 b _ lb) k hx).2
        omega
    · rw [crewF_ne F F' e1] at hk
      by_cases e2 : b = i
      · subst e2
        rw [crewF_self]
        intro hx
        rcases hF' k hx with h3 | h3
        · exact h2 b a hb ha (fun x => hab x.symm) k h3 hk
        · have := ((ts[a]).lt (h1 a _ la) k hk).2
          omega
      · rw [crewF_ne F F' e2]
        exact h2 a b ha hb hab k hk
/-- a new one -/
theorem Crew.add (h : Crew ts w) (ho : Only (fun _ => False) w w') {t' : Thing base} {F' : Nat → Prop} (ht : t'.At w' F') (hF : ∀ k, F' k → w.heap.size ≤ k) : Crew (ts ++ [t']) w' := by
  obtain ⟨F, h1, h2⟩ := h
  refine ⟨crewF F ts.length F', fun j tj hj => ?_, fun a b ha hb hab k hk => ?_⟩
  · rcases Nat.lt_or_ge j ts.length with hl | hl
    · rw [List.getElem?_append_left hl] at hj
      rw [crewF_ne F F' (by omega)]
      exact tj.loc (h1 j tj hj) (fun k hk => ho.block k (tj.lt (h1 j tj hj) k hk).2 (fun x => x))
    · have hjl := (List.getElem?_eq_some_iff.1 hj).1
      simp only [List.length_append, List.length_singleton] at hjl
      obtain rfl : j = ts.length := by omega
      rw [List.getElem?_append_right (Nat.le_refl _)] at hj
      simp at hj
      subst hj
      rw [crewF_self]
      exact ht
  · simp only [List.length_append, List.length_singleton] at ha hb
    by_cases e1 : a = ts.length
    · subst e1
      rw [crewF_ne F F' (fun x => hab x.symm)]
      rw [crewF_self] at hk
      have hbl : b < ts.length := by omega
      intro hx
      have := ((ts[b]).lt (h1 b _ (List.getElem?_eq_getElem hbl)) k hx).2
      have := hF k hk
      omega
    · rw [crewF_ne F F' e1] at hk
      have hal : a < ts.length := by omega
      have hka := ((ts[a]).lt (h1 a _ (List.getElem?_eq_getElem hal)) k hk).2
      by_cases e2 : b = ts.length
      · subst e2
        rw [crewF_self]
        intro hx
        have := hF k hx
        omega
      · rw [crewF_ne F F' e2]
        exact h2 a b hal (by omega) hab k hk
end

/-- a machine -/
def Thing.pm {base : Nat} {K : Kits} (hK : KitsOk K) (xb : Nat) (kit : Value) (p : PM K) : Thing base :=
  ⟨fun w F => PMAt K w base xb p kit F, fun h hb => h.of_block hK hb, fun h => h.lt hK⟩
/-- the document's machine -/
def Thing.rm (base mb : Nat) (o : OS) : Thing base :=
  ⟨fun w F => ∃ b m v, base ≤ b ∧ RMAt w b mb m v ∧ ORel o m ∧ F = v.own mb, fun ⟨b, m, v, h0, h1, h2, h3⟩ hb => ⟨b, m, v, h0, h1.of_block (by subst h3; exact hb), h2, h3⟩, fun ⟨b, m, v, h0, h1, h2, h3⟩ k hk => by subst h3; have := h1.lt k hk; omega⟩
/-- a run in memory of its own -/
def Thing.run (base : Nat) (x : RunVs) (r : RunS) : Thing base :=
  ⟨fun w F => ∃ b, base ≤ b ∧ RunAt w b x r ∧ F = x.own, fun ⟨b, h0, h1, h2⟩ hb => ⟨b, h0, h1.of_block (by subst h2; exact hb), h2⟩, fun ⟨b, h0, h1, h2⟩ k hk => by subst h2; have := h1.lt k hk; omega⟩
/-- one block -/
def Thing.box (base bi : Nat) (o : Obj) : Thing base :=
  ⟨fun w F => base ≤ bi ∧ w.heap[bi]? = some o ∧ F = fun k => k = bi, fun ⟨h0, h1, h2⟩ hb => ⟨h0, by subst h2; rw [hb bi rfl]; exact h1, h2⟩, fun ⟨h0, h1, h2⟩ k hk => by subst h2; obtain rfl : k = bi := hk; exact ⟨h0, (Array.getElem?_eq_some_iff.1 h1).1⟩⟩

/-- past the limit nothing happens -/
theorem osOf_take (l : List Int) (n : Nat) (pre : List Mv) : osOf l n pre = osOf l n (pre.take 65536) := by
  rcases Nat.lt_or_ge 65536 pre.length with hlt | hle
  · have e : pre = pre.take 65536 ++ pre.drop 65536 := (List.take_append_drop 65536 pre).symm
    conv => lhs; rw [e]
    unfold osOf
    rw [OS.goes_append]
    have hm : (osOf l n (pre.take 65536)).moves = 65536 := by rw [(inv_of l n (pre.take 65536) (by simp; omega)).moves]; simp; omega
    unfold osOf at hm
    generalize OS.goes _ (OS.init l n) (pre.take 65536) = o at hm ⊢
    generalize pre.drop 65536 = ms
    induction ms with
    | nil => rfl
    | cons m ms ih =>
      have : (o.move l.length m).1 = o := by unfold OS.move; rw [if_pos (by omega)]
      show OS.goes _ (o.move l.length m).1 ms = o
      rw [this]; exact ih
  · rw [List.take_of_length_le hle]
theorem osOf_inv (l : List Int) (n : Nat) (pre : List Mv) : ∃ q : List Mv, q.length ≤ 65536 ∧ osOf l n pre = osOf l n q ∧ OS.Inv l n q (osOf l n pre) := ⟨pre.take 65536, by simp; omega, osOf_take l n pre, by rw [osOf_take]; exact inv_of l n _ (by simp; omega)⟩
theorem osOf_small (l : List Int) (n : Nat) (pre : List Mv) : (osOf l n pre).calls.length + (osOf l n pre).log.length ≤ 65536 ∧ (osOf l n pre).words.length = l.length := by
  obtain ⟨q, h1, h2, h3⟩ := osOf_inv l n pre
  refine ⟨?_, h3.wlen⟩
  have := os_lens l n q h1
  rw [h2]
  omega
end Go
namespace Go.Proofs.Ytbhbpfpggfcpgaa
open Go.ChangeShapes Go.WideShapes Go.ChangeAt Go.RowKit Go.Shelf
section
variable {base : Nat} {ts : List (Thing base)} {w : World} {i : Nat}
/-- what a thing's call leaves: the crew, and what was written -/
def CrewOut (ts : List (Thing base)) (i : Nat) (t' : Thing base) (w w' : World) : Prop :=
  Crew (ts.set i t') w' ∧ ∃ F, Only F w w' ∧ (∀ k, F k → base ≤ k ∧ k < w.heap.size) ∧ ∀ (j bi : Nat) (o : Obj), i ≠ j → ts[j]? = some (Thing.box base bi o) → ¬ F bi
theorem crew_move {K : Kits} (hK : KitsOk K) {xb : Nat} {kit : Value} {p : PM K} (h : Crew ts w) (hi : ts[i]? = some (Thing.pm hK xb kit p)) (hG : p.Good) (mv : Mv) :
    Calls Try.prog 17 #[.pointer (some ⟨xb, 0, none⟩), mv.v] w fun e w' => e = .returned (.bool (p.move mv).2) ∧ CrewOut ts i (Thing.pm hK xb kit (p.move mv).1) w w' := by
  obtain ⟨F, h1, h2, h3⟩ := h.turn hi
  refine (pm_move hK hG h1 mv).mono ?_
  rintro e w' ⟨he, F', a1, a2, a3⟩
  refine ⟨he, h3 _ w' F' a1 a2 a3, F, a2, PMAt.lt hK h1, fun j bi o hne hj hx => ?_⟩
  obtain ⟨G, g1, g2⟩ := h2 j _ hne hj
  obtain ⟨_, _, rfl⟩ := g1
  exact g2 bi hx rfl
theorem crew_rmove {l : List Int} {n mb : Nat} {pre : List Mv} (h : Crew ts w) (hi : ts[i]? = some (Thing.rm base mb (osOf l n pre))) (hl : l.length ≤ 8192) (mv : Mv) :
    Calls Try.prog 35 #[.pointer (some ⟨mb, 0, none⟩), mv.v] w fun e w' => e = .returned (.bool ((osOf l n pre).move l.length mv).2) ∧ CrewOut ts i (Thing.rm base mb (osOf l n (pre ++ [mv]))) w w' := by
  obtain ⟨F, h1, h2, h3⟩ := h.turn hi
  obtain ⟨b, m, v, g0, g1, g2, rfl⟩ := h1
  obtain ⟨q, q1, q2, q3⟩ := osOf_inv l n pre
  have hs := (osOf_small l n pre).1
  refine (rMove_any g1 q3 g2 q1 hl (by omega) (by omega) mv).mono ?_
  rintro e w' ⟨m', he, ⟨v', a1, a2, a3, a4⟩, hr⟩
  refine ⟨he, h3 _ w' (v'.own mb) ⟨b, m', v', g0, a1, by rw [osOf_snoc]; exact hr, rfl⟩ a2 a3, v.own mb, a2, fun k hk => by have := g1.lt k hk; omega, fun j bi o hne hj hx => ?_⟩
  obtain ⟨G, k1, k2⟩ := h2 j _ hne hj
  obtain ⟨_, _, rfl⟩ := k1
  exact k2 bi hx rfl
end
end Go.Proofs.Ytbhbpfpggfcpgaa
namespace Go
open Go.RowKit
open Go.Proofs.Ytbhbpfpggfcpgaa

/-! many cells written -/
def setMany {α : Type} : List α → Nat → List α → List α
  | xs, _, [] => xs
  | xs, o, y :: ys => setMany (xs.set o y) (o + 1) ys
theorem setMany_len {α : Type} (ys : List α) : ∀ (xs : List α) (o : Nat), (setMany xs o ys).length = xs.length := by
  induction ys with
  | nil => intro xs o; rfl
  | cons y ys ih => intro xs o; exact (ih _ _).trans (List.length_set ..)
theorem setMany_eq {α : Type} (ys : List α) : ∀ (xs : List α) (o : Nat), o + ys.length ≤ xs.length → setMany xs o ys = xs.take o ++ ys ++ xs.drop (o + ys.length) := by
  induction ys with
  | nil => intro xs o _; simp [setMany]
  | cons y ys ih =>
    intro xs o h
    simp only [List.length_cons] at h
    show setMany (xs.set o y) (o + 1) ys = _
    rw [ih _ _ (by rw [List.length_set]; omega)]
    have e1 : (xs.set o y).take (o + 1) = xs.take o ++ [y] := by
      rw [List.take_set, List.take_succ_eq_append_getElem (by omega), List.set_append_right _ _ (by simp; omega)]
      simp [Nat.min_eq_left (show o ≤ xs.length by omega)]
    have e2 : (xs.set o y).drop (o + 1 + ys.length) = xs.drop (o + 1 + ys.length) := by
      rw [List.drop_set, if_pos (by omega)]
    rw [e1, e2]
    simp [show o + (ys.length + 1) = o + 1 + ys.length by omega]
theorem flat_take {α β : Type} {f : α → List β} {k : Nat} : ∀ (l : List α), (∀ x ∈ l, (f x).length = k) → ∀ i, i ≤ l.length → (l.flatMap f).take (i * k) = (l.take i).flatMap f := by
  intro l
  induction l with
  | nil => intro _ i hi; simp at hi; subst hi; simp
  | cons x l ih =>
    intro hk i hi
    cases i with
    | zero => simp
    | succ i =>
      have hx := hk x (by simp)
      rw [List.flatMap_cons, List.take_succ_cons, List.flatMap_cons, ← ih (fun y hy => hk y (by simp [hy])) i (by simpa using hi), Nat.add_mul, Nat.one_mul]
      rw [List.take_append, hx, Nat.add_sub_cancel, List.take_of_length_le (by omega)]
theorem flat_drop {α β : Type} {f : α → List β} {k : Nat} : ∀ (l : List α), (∀ x ∈ l, (f x).length = k) → ∀ i, i ≤ l.length → (l.flatMap f).drop (i * k) = (l.drop i).flatMap f := by
  intro l
  induction l with
  | nil => intro _ i hi; simp at hi; subst hi; simp
  | cons x l ih =>
    intro hk i hi
    cases i with
    | zero => simp
    | succ i =>
      have hx := hk x (by simp)
      rw [List.flatMap_cons, List.drop_succ_cons, ← ih (fun y hy => hk y (by simp [hy])) i (by simpa using hi), Nat.add_mul, Nat.one_mul]
      rw [List.drop_append, hx, Nat.add_sub_cancel, List.drop_of_length_le (by omega), List.nil_append]
theorem flat_many {α β : Type} {f : α → List β} {k : Nat} (l : List α) (hk : ∀ x ∈ l, (f x).length = k) (i : Nat) (hi : i < l.length) (y : α) (hy : (f y).length = k) : setMany (l.flatMap f) (i * k) (f y) = (l.set i y).flatMap f := by
  have hlen := flat_len' (f := f) l hk
  have hle : i * k + k ≤ l.length * k := by rw [← Nat.succ_mul]; exact Nat.mul_le_mul_right k hi
  rw [setMany_eq _ _ _ (by rw [hy, hlen]; exact hle), flat_take l hk i (by omega), hy, show i * k + k = (i + 1) * k by rw [Nat.add_mul]; omega, flat_drop l hk (i + 1) (by omega), List.set_eq_take_append_cons_drop, if_pos hi]
  simp
theorem World.RowV.putMany {base e size n : Nat} {v : Value} {g : Nat} (hg : v.rowBlock = some g) : ∀ (ys : List Value) (o : Nat) (w : World) (xs : List Value), w.RowV base e size v n xs → o + ys.length ≤ n * size → (w.setCells g o ys).RowV base e size v n (setMany xs o ys)
  | [], _, _, _, h, _ => h
  | _ :: ys, o, _, xs, h, hl => World.RowV.putMany hg ys (o + 1) _ (xs.set o _) (h.put hg o (by simp at hl; omega) _) (by simp at hl; omega)
theorem setCells_other (g : Nat) : ∀ (ys : List Value) (o : Nat) (w : World) (k : Nat), k ≠ g → (w.setCells g o ys).heap[k]? = w.heap[k]?
  | [], _, _, _, _ => rfl
  | _ :: ys, o, _, k, hk => (setCells_other g ys (o + 1) _ k hk).trans (Below.heap_setCell _ _ _ _ hk)

/-! two views of a row: the old one's cells are the first ones -/
structure Two (w : World) (base e size : Nat) (v0 v : Value) (n m : Nat) (M xs : List Value) : Prop where
  now : w.RowV base e size v m xs
  old : w.RowV base e size v0 n M
  le : n ≤ m
  pre : xs.take (n * size) = M
  at' : v.rowBlock ≠ v0.rowBlock ∨ v0.rowBlock = none ∨ ∃ g c, v = .slice (some ⟨g, 0, none⟩) m c ∧ v0 = .slice (some ⟨g, 0, none⟩) n c
theorem row_pre {w : World} {base e size g m c n : Nat} {xs : List Value} (h : w.RowV base e size (.slice (some ⟨g, 0, none⟩) m c) m xs) (hn : n ≤ m) (hm : 0 < m) : w.RowV base e size (.slice (some ⟨g, 0, none⟩) n c) n (xs.take (n * size)) := by
  have hle : n * size ≤ m * size := Nat.mul_le_mul_right size hn
  refine ⟨by rw [List.length_take, h.1]; exact Nat.min_eq_left hle, ?_⟩
  rcases h.2 with ⟨o, e1, rfl⟩ | ⟨g', cap, cur, e1, hb, hgg, hnc, hc, hcm, hs, ht⟩
  · omega
  · cases e1
    refine .inr ⟨_, _, cur, rfl, hb, hgg, by omega, hc, hcm, hs, ?_⟩
    rw [← ht, List.take_take, Nat.min_eq_left hle]
section
variable {w w' : World} {base e size n m : Nat} {v0 v u : Value} {M xs ys : List Value}
theorem Two.refl (h : w.RowV base e size v n M) : Two w base e size v v n n M M := by
  refine ⟨h, h, Nat.le_refl _, List.take_of_length_le (Nat.le_of_eq h.1), ?_⟩
  rcases h.2 with ⟨o, rfl, rfl⟩ | ⟨g, cap, cur, rfl, _⟩
  · exact .inr (.inl (by cases o <;> rfl))
  · exact .inr (.inr ⟨g, cap, rfl, rfl⟩)
theorem Two.of_block (h : Two w base e size v0 v n m M xs) (hb : ∀ k, v.rowBlock = some k ∨ v0.rowBlock = some k → w'.heap[k]? = w.heap[k]?) : Two w' base e size v0 v n m M xs :=
  ⟨h.now.of_block fun k hk => hb k (.inl hk), h.old.of_block fun k hk => hb k (.inr hk), h.le, h.pre, h.at'⟩
theorem Two.lt (h : Two w base e size v0 v n m M xs) : ∀ k, v.rowBlock = some k ∨ v0.rowBlock = some k → base ≤ k ∧ k < w.heap.size := by
  rintro k (hk | hk)
  · exact h.now.lt k hk
  · exact h.old.lt k hk
/-- one behind: in the same block, or in a new one -/
theorem Two.app (h : Two w base e size v0 v n m M xs) (hr : w'.RowV base e size u (m + 1) (xs ++ ys)) (ho : RowOut w w' v u m 1) : Two w' base e size v0 u n (m + 1) M (xs ++ ys) := by
  have hpre : (xs ++ ys).take (n * size) = M := by
    rw [List.take_append_of_le_length (by rw [h.now.1]; exact Nat.mul_le_mul_right size h.le)]
    exact h.pre
  rcases ho with ⟨h1, h2, h3, hg⟩ | ⟨h1, h2, hg⟩
  · rcases h.at' with h4 | h4 | ⟨g, c, rfl, rfl⟩
    · refine ⟨hr, h.old.of_block fun k hk => hg.block k (h.old.lt k hk).2 (fun e => h4 (by rw [← e, hk])), by have := h.le; omega, hpre, .inl (by rw [h1]; exact h4)⟩
    · refine ⟨hr, h.old.of_block fun k hk => (by rw [h4] at hk; cases hk), by have := h.le; omega, hpre, .inr (.inl h4)⟩
    · obtain ⟨g', c', e', q1, q2, q3, q4, q5, q6⟩ := hr.some_form (by omega)
      rw [e'] at h1 h3 hr
      have hcpos : c ≠ 0 := by
        intro hc
        subst hc
        simp [Value.rowBlock] at h1
        omega
      have hg' : g' = g := by
        have hc' : c' ≠ 0 := by omega
        simp [Value.rowBlock, hcpos, hc'] at h1
        exact h1
      subst hg'
      have hcc : c' = c := by simpa [Value.roomOf] using h3
      subst hcc
      rw [e']
      have := row_pre hr (n := n) (by have := h.le; omega) (by omega)
      rw [hpre] at this
      exact ⟨hr, this, by have := h.le; omega, hpre, .inr (.inr ⟨g', c', rfl, rfl⟩)⟩
  · refine ⟨hr, h.old.of_block fun k hk => hg.block k (h.old.lt k hk).2 (by simp), by have := h.le; omega, hpre, .inl (fun e => ?_)⟩
    rw [h1] at e
    have := (h.old.lt _ e.symm).2
    omega
end
end Go
namespace Go
open Go.RowKit
open Go.Proofs.Ytbhbpfpggfcpgaa

def _root_.Go.Proofs.Ytbhbpfpggfcpgaa.RunVs.row (x : RunVs) : Nat → Value
  | 0 => x.va
  | 1 => x.vt
  | 2 => x.vb
  | _ => x.vc
def _root_.Go.Proofs.Ytbhbpfpggfcpgaa.RunVs.put (x : RunVs) (i : Nat) (u : Value) : RunVs := match i with
  | 0 => { x with va := u }
  | 1 => { x with vt := u }
  | 2 => { x with vb := u }
  | _ => { x with vc := u }
def _root_.Go.Proofs.Ytbhbpfpggfcpgaa.RunS.xs (r : RunS) : Nat → List Value
  | 0 => cals r.calls
  | 1 => accs r.trace
  | 2 => shfs r.shifts
  | _ => u64s r.words
def _root_.Go.Proofs.Ytbhbpfpggfcpgaa.RunS.len (r : RunS) : Nat → Nat
  | 0 => r.calls.length
  | 1 => r.trace.length
  | 2 => r.shifts.length
  | _ => r.words.length
def runTy : Nat → TypeId
  | 0 => 63
  | 1 => 66
  | 2 => 132
  | _ => 27
def runSz : Nat → Nat
  | 0 => 9
  | 1 => 7
  | 2 => 5
  | _ => 1
/-- the rows handed in (x, now with r in them) and the rows on the way (y, with s in them), which stand in the box bx -/
structure SpAt (w : World) (base bx : Nat) (x y : RunVs) (r s : RunS) (col : Nat → Nat) : Prop where
  box : w.heap[bx]? = some (.cells #[y.va, y.vt, y.vb, y.vc] 41 (0, 0))
  two : ∀ i, i < 4 → Two w base (runTy i) (runSz i) (x.row i) (y.row i) (r.len i) (s.len i) (r.xs i) (s.xs i)
  cx : col bx = 0
  cr : ∀ i, i < 4 → ∀ k, (y.row i).rowBlock = some k ∨ (x.row i).rowBlock = some k → col k = i + 1
def RunVs.has (x y : RunVs) (k : Nat) : Prop := ∃ i, i < 4 ∧ ((y.row i).rowBlock = some k ∨ (x.row i).rowBlock = some k)
section
variable {w w' : World} {base bx : Nat} {x y : RunVs} {r s r' s' : RunS} {col : Nat → Nat}
theorem put_row (x : RunVs) (i j : Nat) (u : Value) (hi : i < 4) (hj : j < 4) : (x.put i u).row j = if j = i then u else x.row j := by
  match i, hi, j, hj with
  | 0, _, 0, _ | 1, _, 1, _ | 2, _, 2, _ | 3, _, 3, _ => rfl
  | 0, _, 1, _ | 0, _, 2, _ | 0, _, 3, _ | 1, _, 0, _ | 1, _, 2, _ | 1, _, 3, _ | 2, _, 0, _ | 2, _, 1, _ | 2, _, 3, _ | 3, _, 0, _ | 3, _, 1, _ | 3, _, 2, _ => rfl
theorem SpAt.of_block (h : SpAt w base bx x y r s col) (hb : ∀ k, (k = bx ∨ RunVs.has x y k) → w'.heap[k]? = w.heap[k]?) : SpAt w' base bx x y r s col :=
  ⟨by rw [hb bx (.inl rfl)]; exact h.box, fun i hi => (h.two i hi).of_block fun k hk => hb k (.inr ⟨i, hi, hk⟩), h.cx, h.cr⟩
theorem SpAt.lt (h : SpAt w base bx x y r s col) : ∀ k, RunVs.has x y k → base ≤ k ∧ k < w.heap.size := fun k ⟨i, hi, hk⟩ => (h.two i hi).lt k hk
theorem SpAt.only (h : SpAt w base bx x y r s col) (ho : Only (fun _ => False) w w') : SpAt w' base bx x y r s col :=
  h.of_block fun k hk => ho.block k (by rcases hk with rfl | hk; exact (Array.getElem?_eq_some_iff.1 h.box).1; exact (h.lt k hk).2) (fun x => x)
theorem SpAt.apart (h : SpAt w base bx x y r s col) {i j : Nat} (hi : i < 4) (hj : j < 4) (hij : i ≠ j) {k k' : Nat} (hk : (y.row i).rowBlock = some k ∨ (x.row i).rowBlock = some k) (hk' : (y.row j).rowBlock = some k' ∨ (x.row j).rowBlock = some k') : k ≠ k' := fun e => by
  subst e
  have h1 := h.cr i hi k hk
  have h2 := h.cr j hj k hk'
  omega
theorem SpAt.nbx (h : SpAt w base bx x y r s col) {k : Nat} (hk : RunVs.has x y k) : k ≠ bx := fun e => by
  obtain ⟨i, hi, hk⟩ := hk
  have := h.cr i hi k hk
  rw [e, h.cx] at this
  omega
/-- an element is written over (before any append) -/
theorem SpAt.put (h : SpAt w base bx x x r r col) {i g j : Nat} (hi : i < 4) (hg : (x.row i).rowBlock = some g) (hj : j < r.len i) (ys : List Value) (hys : ys.length = runSz i) (hx : r'.xs i = setMany (r.xs i) (j * runSz i) ys) (hl : ∀ k, k < 4 → r'.len k = r.len k) (ho : ∀ k, k < 4 → k ≠ i → r'.xs k = r.xs k) :
    SpAt (w.setCells g (j * runSz i) ys) base bx x x r' r' col := by
  have hgb := h.nbx ⟨i, hi, .inl hg⟩
  refine ⟨by rw [setCells_other g ys _ w bx (Ne.symm hgb)]; exact h.box, fun k hk => ?_, h.cx, h.cr⟩
  rw [hl k hk]
  by_cases e : k = i
  · subst e
    rw [hx]
    refine Two.refl (World.RowV.putMany hg ys _ w _ (h.two k hk).now ?_)
    rw [hys, ← Nat.succ_mul]
    exact Nat.mul_le_mul_right _ hj
  · rw [ho k hk e]
    exact (h.two k hk).of_block fun b hb => setCells_other g ys _ w b (h.apart hk hi e hb (.inl hg))
/-- one behind a row -/
theorem SpAt.app (h : SpAt w base bx x y r s col) {i : Nat} (hi : i < 4) {u : Value} {ys : List Value} (hr : w'.RowV base (runTy i) (runSz i) u (s.len i + 1) (s.xs i ++ ys)) (ho : RowOut w w' (y.row i) u (s.len i) 1)
    (hx : s'.xs i = s.xs i ++ ys) (hl : s'.len i = s.len i + 1) (hx2 : ∀ k, k < 4 → k ≠ i → s'.xs k = s.xs k) (hl2 : ∀ k, k < 4 → k ≠ i → s'.len k = s.len k) :
    ∃ col', SpAt (w'.setCell ⟨bx, i, none⟩ u) base bx x (y.put i u) r s' col' ∧ ∀ k, RunVs.has x (y.put i u) k → RunVs.has x y k ∨ w.heap.size ≤ k := by
  have hbl := (Array.getElem?_eq_some_iff.1 h.box).1
  have hbx' : w'.heap[bx]? = w.heap[bx]? := ho.block hbl (fun e => h.nbx ⟨i, hi, .inl e⟩ rfl)
  have hnew : ∀ k, u.rowBlock = some k → (y.row i).rowBlock = some k ∨ k = w.heap.size := fun k hk => ho.news hk
  refine ⟨fun k => if w.heap.size ≤ k then i + 1 else col k, ⟨?_, fun k hk => ?_, ?_, fun j hj k hk => ?_⟩, fun k ⟨j, hj, hk⟩ => ?_⟩
  · simp only [World.setCell, Array.getElem?_modify, hbx', h.box, if_true]
    match i, hi with
    | 0, _ | 1, _ | 2, _ | 3, _ => simp [RunVs.put]
  · have hset : ∀ {e size n m : Nat} {v0 v : Value} {M xs : List Value}, Two w' base e size v0 v n m M xs → (∀ b, v.rowBlock = some b ∨ v0.rowBlock = some b → b ≠ bx) → Two (w'.setCell ⟨bx, i, none⟩ u) base e size v0 v n m M xs := fun t hb => t.of_block fun b hk' => Below.heap_setCell _ _ _ _ (hb b hk')
    rw [put_row y i k u hi hk]
    by_cases e : k = i
    · subst e
      rw [if_pos rfl, hx, hl]
      refine hset ((h.two k hk).app hr ho) (fun b hb => ?_)
      rcases hb with hb | hb
      · rcases hnew b hb with h1 | h1
        · exact h.nbx ⟨k, hk, .inl h1⟩
        · omega
      · exact h.nbx ⟨k, hk, .inr hb⟩
    · rw [if_neg e, hx2 k hk e, hl2 k hk e]
      refine hset ((h.two k hk).of_block fun b hb => ho.block ((h.two k hk).lt b hb).2 (fun e2 => h.apart hk hi e hb (.inl e2) rfl)) (fun b hb => h.nbx ⟨k, hk, hb⟩)
  · show (if _ then _ else _) = _
    rw [if_neg (by omega)]; exact h.cx
  · rw [put_row y i j u hi hj] at hk
    show (if _ then _ else _) = _
    by_cases e : j = i
    · subst e
      rw [if_pos rfl] at hk
      split
      · rfl
      · rename_i hlt
        rcases hk with hk | hk
        · rcases hnew k hk with h1 | h1
          · exact h.cr j hj k (.inl h1)
          · omega
        · exact h.cr j hj k (.inr hk)
    · rw [if_neg e] at hk
      rw [if_neg (by have := ((h.two j hj).lt k hk).2; omega)]
      exact h.cr j hj k hk
  · rw [put_row y i j u hi hj] at hk
    by_cases e : j = i
    · subst e
      rw [if_pos rfl] at hk
      rcases hk with hk | hk
      · rcases hnew k hk with h1 | h1
        · exact .inl ⟨j, hj, .inl h1⟩
        · exact .inr (by omega)
      · exact .inl ⟨j, hj, .inr hk⟩
    · rw [if_neg e] at hk
      exact .inl ⟨j, hj, hk⟩
end
/-! marks -/
def mkC (mark : Int) (i : Nat) : Cal := ⟨mark + i, 0, -mark, 0, 0, 0, 0, 0, 0⟩
def mkT (mark : Int) (i : Nat) : Acc := ⟨mark + i, 0, 0, -mark, 0, 0, 0⟩
def mkS (mark : Int) (i : Nat) : Shf := ⟨mark + i, 0, -mark, 0, 0⟩
def mkW (mark : Int) (i : Nat) : Int := mark + i
def tlC (mark : Int) (k : Nat) : Cal := ⟨-mark - k, 0, 0, 0, 0, 0, 0, 0, 0⟩
def tlT (mark : Int) (k : Nat) : Acc := ⟨-mark - k, 0, 0, 0, 0, 0, 0⟩
def tlS (mark : Int) (k : Nat) : Shf := ⟨-mark - k, 0, 0, 0, 0⟩
def tlW (mark : Int) (_ : Nat) : Int := mark + 1000000
/-- the first i elements marked -/
def over {α : Type} (f : Nat → α) (l : List α) (i : Nat) : List α := (List.range i).map f ++ l.drop i
theorem over_len {α : Type} (f : Nat → α) (l : List α) (i : Nat) (h : i ≤ l.length) : (over f l i).length = l.length := by simp [over]; omega
theorem over_zero {α : Type} (f : Nat → α) (l : List α) : over f l 0 = l := by simp [over]
theorem over_all {α : Type} (f : Nat → α) (l : List α) : over f l l.length = (List.range l.length).map f := by simp [over]
theorem over_set {α : Type} (f : Nat → α) (l : List α) (i : Nat) (h : i < l.length) : (over f l i).set i (f i) = over f l (i + 1) := by
  unfold over
  rw [List.set_append_right _ _ (by simp), List.range_succ, List.map_append]
  simp only [List.length_map, List.length_range, Nat.sub_self]
  rw [List.drop_eq_getElem_cons h]
  simp only [List.set_cons_zero, List.map_cons, List.map_nil, List.append_assoc, List.cons_append, List.nil_append]
end Go
namespace Go
open Go.RowKit
open Go.Proofs.Ytbhbpfpggfcpgaa
theorem World.Src.some_form {w : World} {size n : Nat} {v : Value} {xs : List Value} (h : w.Src size v n xs) (hn : 0 < n) (hs : 0 < size) : ∃ b off c, v = .slice (some ⟨b, off, none⟩) n c ∧ b < w.heap.size ∧ ∀ j u, xs[j]? = some u → w.cell? ⟨b, off + j, none⟩ = some u := by
  rcases h.2 with ⟨_, h0⟩ | ⟨⟨b, off, p⟩, c, rfl, _, hx⟩
  · omega
  · have h0 : 0 < xs.length := by rw [h.1]; exact Nat.mul_pos hn hs
    have h1 := hx 0 xs[0] (by simp [h0])
    have hs : p = none := by simpa [Addr.add] using World.cell?_spot h1
    subst hs
    have ad : ∀ i, (⟨b, off, none⟩ : Addr).add i = ⟨b, off + i, none⟩ := fun i => by unfold Addr.add; split <;> simp_all
    simp only [ad] at hx h1
    exact ⟨b, off, c, rfl, World.block_lt_of_cell? w _ h1, hx⟩
theorem World.Src.form {w : World} {size n : Nat} {v : Value} {xs : List Value} (h : w.Src size v n xs) : ∃ o c, v = .slice o n c := by
  rcases h.2 with ⟨rfl, rfl⟩ | ⟨ad, c, rfl, _⟩
  · exact ⟨_, _, rfl⟩
  · exact ⟨_, _, rfl⟩
theorem cals_get3 (l : List Cal) (i j : Nat) (hi : i < l.length) (hj : j < 9) : (cals l)[i * 9 + j]? = l[i].cells[j]? := flat_get (f := Cal.cells) (k := 9) (fun _ => rfl) l i j hi hj
theorem accs_get3 (l : List Acc) (i j : Nat) (hi : i < l.length) (hj : j < 7) : (accs l)[i * 7 + j]? = l[i].cells[j]? := flat_get (f := Acc.cells) (k := 7) (fun _ => rfl) l i j hi hj
theorem shfs_get3 (l : List Shf) (i j : Nat) (hi : i < l.length) (hj : j < 5) : (shfs l)[i * 5 + j]? = l[i].cells[j]? := flat_get (f := Shf.cells) (k := 5) (fun _ => rfl) l i j hi hj
theorem mvs_get3 (l : List Mv) (i j : Nat) (hi : i < l.length) (hj : j < 4) : (mvsC l)[i * 4 + j]? = l[i].cells[j]? := flat_get (f := Mv.cells) (k := 4) (fun _ => rfl) l i j hi hj
end Go
namespace Go.Proofs.Ytbhbpfpggfcpgaa
open Go.ChangeShapes Go.WideShapes Go.ChangeAt Go.RowKit Go.Shelf

set_option maxRecDepth 100000 in
theorem sameCalls_yes {w : World} {v1 v2 : Value} {l : List Cal} (h1 : w.Src 9 v1 l.length (cals l)) (h2 : w.Src 9 v2 l.length (cals l)) (hn : l.length ≤ 4611686018427387904) : Calls Try.prog 59 #[v1, v2] w fun e w' =>
    e = .returned (.bool true) ∧ Below w.heap.size w w' := by
  obtain ⟨o1, c1, rfl⟩ := h1.form
  obtain ⟨o2, c2, rfl⟩ := h2.form
  have H1 := Lib.hid h1
  have H2 := Lib.hid h2
  clear h1 h2
  have hne : ((l.length : Int) != (l.length : Int)) = false := by simp
  go_enter Try.func59, Try.ntmps59
  go_wp2
  go_loopg [5] l.length (fun g sl wr => ∃ k : Nat, k ≤ l.length ∧ l.length ≤ k + g ∧ sl = .int .i64 (k : Int) ∧ ∃ os d, wr = w.more os d)
  case atStart => exact ⟨0, by omega, by omega, rfl, #[], w.drawn, by simp [World.more]⟩
  case round =>
    obtain ⟨k, hk, hg, rfl, os, d, rfl⟩ := hrel
    by_cases hlk : k < l.length
    · obtain ⟨g1, f1, d1, e1, s1, x1⟩ := H1.out.some_form (by omega) (by omega)
      obtain ⟨g2, f2, d2, e2, s2, x2⟩ := H2.out.some_form (by omega) (by omega)
      cases e1
      cases e2
      have xa : ∀ j u, l[k].cells[j]? = some u → j < 9 → w.cell? ⟨g1, f1 + k * 9 + j, none⟩ = some u := fun j u hu hj => by rw [Nat.add_assoc]; exact x1 (k * 9 + j) u (by rw [cals_get3 l k j hlk hj]; exact hu)
      have xb : ∀ j u, l[k].cells[j]? = some u → j < 9 → w.cell? ⟨g2, f2 + k * 9 + j, none⟩ = some u := fun j u hu hj => by rw [Nat.add_assoc]; exact x2 (k * 9 + j) u (by rw [cals_get3 l k j hlk hj]; exact hu)
      generalize l[k] = z at *
      obtain ⟨th, op, arg, data, beg, en, pt, ak, av⟩ := z
      have z0 := xa 0 _ rfl (by omega)
      have z1 := xa 1 _ rfl (by omega)
      have z2 := xa 2 _ rfl (by omega)
      have z3 := xa 3 _ rfl (by omega)
      have z4 := xa 4 _ rfl (by omega)
      have z5 := xa 5 _ rfl (by omega)
      have z6 := xa 6 _ rfl (by omega)
      have z7 := xa 7 _ rfl (by omega)
      have z8 := xa 8 _ rfl (by omega)
      have y0 := xb 0 _ rfl (by omega)
      have y1 := xb 1 _ rfl (by omega)
      have y2 := xb 2 _ rfl (by omega)
      have y3 := xb 3 _ rfl (by omega)
      have y4 := xb 4 _ rfl (by omega)
      have y5 := xb 5 _ rfl (by omega)
      have y6 := xb 6 _ rfl (by omega)
      have y7 := xb 7 _ rfl (by omega)
      have y8 := xb 8 _ rfl (by omega)
      simp only [Nat.add_zero] at z0 y0
      simp only at z0 y0 z1 y1 z2 y2 z3 y3 z4 y4 z5 y5 z6 y6 z7 y7 z8 y8
      clear x1 x2 xa xb
      go_wp2
      refine wp_region_more_lit (by kernel_rfl) (by kernel_rfl) ?_
      repeat (first | go_big_quiet_skip | (go_big_quiet_want; go_big_quiet_op; first | go_big_quiet_on | (apply Exists.intro; refine ⟨fun _ => ?_, ?_⟩; (focus (fail)); go_big_quiet_on)))
      refine wpQuiet_nil ?_
      intro osq dq
      go_wp2
      go_roundg (l.length - (k + 1))
      case measure => omega
      case rel => exact ⟨k + 1, by omega, by omega, by go_num, RowKit.Below.more (by repeat (first | exact Below.refl _ _ | apply Below.drew | apply Below.more1 | apply Below.alloc1))⟩
    · go_wp2
      go_ret
      exact ⟨rfl, (by repeat (first | exact Below.refl _ _ | apply Below.drew | apply Below.more1 | apply Below.alloc1))⟩

set_option maxRecDepth 100000 in
theorem sameTrace_yes {w : World} {v1 v2 : Value} {l : List Acc} (h1 : w.Src 7 v1 l.length (accs l)) (h2 : w.Src 7 v2 l.length (accs l)) (hn : l.length ≤ 4611686018427387904) : Calls Try.prog 60 #[v1, v2] w fun e w' =>
    e = .returned (.bool true) ∧ Below w.heap.size w w' := by
  obtain ⟨o1, c1, rfl⟩ := h1.form
  obtain ⟨o2, c2, rfl⟩ := h2.form
  have H1 := Lib.hid h1
  have H2 := Lib.hid h2
  clear h1 h2
  have hne : ((l.length : Int) != (l.length : Int)) = false := by simp
  go_enter Try.func60, Try.ntmps60
  go_wp2
  go_loopg [5] l.length (fun g sl wr => ∃ k : Nat, k ≤ l.length ∧ l.length ≤ k + g ∧ sl = .int .i64 (k : Int) ∧ ∃ os d, wr = w.more os d)
  case atStart => exact ⟨0, by omega, by omega, rfl, #[], w.drawn, by simp [World.more]⟩
  case round =>
    obtain ⟨k, hk, hg, rfl, os, d, rfl⟩ := hrel
    by_cases hlk : k < l.length
    · obtain ⟨g1, f1, d1, e1, s1, x1⟩ := H1.out.some_form (by omega) (by omega)
      obtain ⟨g2, f2, d2, e2, s2, x2⟩ := H2.out.some_form (by omega) (by omega)
      cases e1
      cases e2
      have xa : ∀ j u, l[k].cells[j]? = some u → j < 7 → w.cell? ⟨g1, f1 + k * 7 + j, none⟩ = some u := fun j u hu hj => by rw [Nat.add_assoc]; exact x1 (k * 7 + j) u (by rw [accs_get3 l k j hlk hj]; exact hu)
      have xb : ∀ j u, l[k].cells[j]? = some u → j < 7 → w.cell? ⟨g2, f2 + k * 7 + j, none⟩ = some u := fun j u hu hj => by rw [Nat.add_assoc]; exact x2 (k * 7 + j) u (by rw [accs_get3 l k j hlk hj]; exact hu)
      generalize l[k] = z at *
      obtain ⟨mv, th, kd, ad, old, nw, saw⟩ := z
      have z0 := xa 0 _ rfl (by omega)
      have z1 := xa 1 _ rfl (by omega)
      have z2 := xa 2 _ rfl (by omega)
      have z3 := xa 3 _ rfl (by omega)
      have z4 := xa 4 _ rfl (by omega)
      have z5 := xa 5 _ rfl (by omega)
      have z6 := xa 6 _ rfl (by omega)
      have y0 := xb 0 _ rfl (by omega)
      have y1 := xb 1 _ rfl (by omega)
      have y2 := xb 2 _ rfl (by omega)
      have y3 := xb 3 _ rfl (by omega)
      have y4 := xb 4 _ rfl (by omega)
      have y5 := xb 5 _ rfl (by omega)
      have y6 := xb 6 _ rfl (by omega)
      simp only [Nat.add_zero] at z0 y0
      simp only at z0 y0 z1 y1 z2 y2 z3 y3 z4 y4 z5 y5 z6 y6
      clear x1 x2 xa xb
      go_wp2
      refine wp_region_more_lit (by kernel_rfl) (by kernel_rfl) ?_
      repeat (first | go_big_quiet_skip | (go_big_quiet_want; go_big_quiet_op; first | go_big_quiet_on | (apply Exists.intro; refine ⟨fun _ => ?_, ?_⟩; (focus (fail)); go_big_quiet_on)))
      refine wpQuiet_nil ?_
      intro osq dq
      go_wp2
      go_roundg (l.length - (k + 1))
      case measure => omega
      case rel => exact ⟨k + 1, by omega, by omega, by go_num, RowKit.Below.more (by repeat (first | exact Below.refl _ _ | apply Below.drew | apply Below.more1 | apply Below.alloc1))⟩
    · go_wp2
      go_ret
      exact ⟨rfl, (by repeat (first | exact Below.refl _ _ | apply Below.drew | apply Below.more1 | apply Below.alloc1))⟩

set_option maxRecDepth 100000 in
theorem sameShifts_yes {w : World} {v1 v2 : Value} {l : List Shf} (h1 : w.Src 5 v1 l.length (shfs l)) (h2 : w.Src 5 v2 l.length (shfs l)) (hn : l.length ≤ 4611686018427387904) : Calls Try.prog 61 #[v1, v2] w fun e w' =>
    e = .returned (.bool true) ∧ Below w.heap.size w w' := by
  obtain ⟨o1, c1, rfl⟩ := h1.form
  obtain ⟨o2, c2, rfl⟩ := h2.form
  have H1 := Lib.hid h1
  have H2 := Lib.hid h2
  clear h1 h2
  have hne : ((l.length : Int) != (l.length : Int)) = false := by simp
  go_enter Try.func61, Try.ntmps61
  go_wp2
  go_loopg [5] l.length (fun g sl wr => ∃ k : Nat, k ≤ l.length ∧ l.length ≤ k + g ∧ sl = .int .i64 (k : Int) ∧ ∃ os d, wr = w.more os d)
  case atStart => exact ⟨0, by omega, by omega, rfl, #[], w.drawn, by simp [World.more]⟩
  case round =>
    obtain ⟨k, hk, hg, rfl, os, d, rfl⟩ := hrel
    by_cases hlk : k < l.length
    · obtain ⟨g1, f1, d1, e1, s1, x1⟩ := H1.out.some_form (by omega) (by omega)
      obtain ⟨g2, f2, d2, e2, s2, x2⟩ := H2.out.some_form (by omega) (by omega)
      cases e1
      cases e2
      have xa : ∀ j u, l[k].cells[j]? = some u → j < 5 → w.cell? ⟨g1, f1 + k * 5 + j, none⟩ = some u := fun j u hu hj => by rw [Nat.add_assoc]; exact x1 (k * 5 + j) u (by rw [shfs_get3 l k j hlk hj]; exact hu)
      have xb : ∀ j u, l[k].cells[j]? = some u → j < 5 → w.cell? ⟨g2, f2 + k * 5 + j, none⟩ = some u := fun j u hu hj => by rw [Nat.add_assoc]; exact x2 (k * 5 + j) u (by rw [shfs_get3 l k j hlk hj]; exact hu)
      generalize l[k] = z at *
      obtain ⟨mv, th, sl, fr, tgt⟩ := z
      have z0 := xa 0 _ rfl (by omega)
      have z1 := xa 1 _ rfl (by omega)
      have z2 := xa 2 _ rfl (by omega)
      have z3 := xa 3 _ rfl (by omega)
      have z4 := xa 4 _ rfl (by omega)
      have y0 := xb 0 _ rfl (by omega)
      have y1 := xb 1 _ rfl (by omega)
      have y2 := xb 2 _ rfl (by omega)
      have y3 := xb 3 _ rfl (by omega)
      have y4 := xb 4 _ rfl (by omega)
      simp only [Nat.add_zero] at z0 y0
      simp only at z0 y0 z1 y1 z2 y2 z3 y3 z4 y4
      clear x1 x2 xa xb
      go_wp2
      refine wp_region_more_lit (by kernel_rfl) (by kernel_rfl) ?_
      repeat (first | go_big_quiet_skip | (go_big_quiet_want; go_big_quiet_op; first | go_big_quiet_on | (apply Exists.intro; refine ⟨fun _ => ?_, ?_⟩; (focus (fail)); go_big_quiet_on)))
      refine wpQuiet_nil ?_
      intro osq dq
      go_wp2
      go_roundg (l.length - (k + 1))
      case measure => omega
      case rel => exact ⟨k + 1, by omega, by omega, by go_num, RowKit.Below.more (by repeat (first | exact Below.refl _ _ | apply Below.drew | apply Below.more1 | apply Below.alloc1))⟩
    · go_wp2
      go_ret
      exact ⟨rfl, (by repeat (first | exact Below.refl _ _ | apply Below.drew | apply Below.more1 | apply Below.alloc1))⟩
theorem u64s_at (l : List Int) (k : Nat) (h : k < l.length) : (u64s l)[k]? = some (.int .u64 l[k]) := by simp [u64s, h]

set_option maxRecDepth 100000 in
theorem sameWords3_yes {w : World} {v1 v2 : Value} {l : List Int} (h1 : w.Src 1 v1 l.length (u64s l)) (h2 : w.Src 1 v2 l.length (u64s l)) (hn : l.length ≤ 4611686018427387904) : Calls Try.prog 25 #[v1, v2] w fun e w' =>
    e = .returned (.bool true) ∧ Below w.heap.size w w' := by
  obtain ⟨o1, c1, rfl⟩ := h1.form
  obtain ⟨o2, c2, rfl⟩ := h2.form
  have H1 := Lib.hid h1
  have H2 := Lib.hid h2
  clear h1 h2
  have hne : ((l.length : Int) != (l.length : Int)) = false := by simp
  go_enter Try.func25, Try.ntmps25
  go_wp2
  go_loopg [5] l.length (fun g sl wr => ∃ k : Nat, k ≤ l.length ∧ l.length ≤ k + g ∧ sl = .int .i64 (k : Int) ∧ ∃ os d, wr = w.more os d)
  case atStart => exact ⟨0, by omega, by omega, rfl, #[], w.drawn, by simp [World.more]⟩
  case round =>
    obtain ⟨k, hk, hg, rfl, os, d, rfl⟩ := hrel
    by_cases hlk : k < l.length
    · obtain ⟨g1, f1, d1, e1, s1, x1⟩ := H1.out.some_form (by omega) (by omega)
      obtain ⟨g2, f2, d2, e2, s2, x2⟩ := H2.out.some_form (by omega) (by omega)
      cases e1
      cases e2
      have y1 := x1 k _ (u64s_at l k hlk)
      have y2 := x2 k _ (u64s_at l k hlk)
      clear x1 x2
      generalize l[k] = z at y1 y2
      go_wp2
      refine wp_region_more_lit (by kernel_rfl) (by kernel_rfl) ?_
      repeat (first | go_big_quiet_skip | (go_big_quiet_want; go_big_quiet_op; first | go_big_quiet_on | (apply Exists.intro; refine ⟨fun _ => ?_, ?_⟩; (focus (fail)); go_big_quiet_on)))
      refine wpQuiet_nil ?_
      intro osq dq
      go_wp2
      go_roundg (l.length - (k + 1))
      case measure => omega
      case rel => exact ⟨k + 1, by omega, by omega, by go_num, RowKit.Below.more (by repeat (first | exact Below.refl _ _ | apply Below.drew | apply Below.more1 | apply Below.alloc1))⟩
    · go_wp2
      go_ret
      exact ⟨rfl, (by repeat (first | exact Below.refl _ _ | apply Below.drew | apply Below.more1 | apply Below.alloc1))⟩

/-- a run that can be read -/
structure RunSrc (w : World) (x : RunVs) (r : RunS) : Prop where
  wa : w.Src 9 x.va r.calls.length (cals r.calls)
  wt : w.Src 7 x.vt r.trace.length (accs r.trace)
  wb : w.Src 5 x.vb r.shifts.length (shfs r.shifts)
  wc : w.Src 1 x.vc r.words.length (u64s r.words)
theorem RunAt.src {w : World} {base : Nat} {x : RunVs} {r : RunS} (h : RunAt w base x r) : RunSrc w x r := ⟨h.wa.src, h.wt.src, h.wb.src, h.wc.src⟩
theorem RunSrc.below {w w' : World} {x : RunVs} {r : RunS} (h : RunSrc w x r) (hb : Below w.heap.size w w') : RunSrc w' x r := ⟨h.wa.below hb, h.wt.below hb, h.wb.below hb, h.wc.below hb⟩

set_option maxRecDepth 100000 in
set_option maxHeartbeats 1000000 in
theorem sameRun_yes {w : World} {x y : RunVs} {r : RunS} (h1 : RunSrc w x r) (h2 : RunSrc w y r) (n1 : r.calls.length ≤ 1000000) (n2 : r.trace.length ≤ 1000000) (n3 : r.shifts.length ≤ 1000000) (n4 : r.words.length ≤ 1000000) :
    Calls Try.prog 23 #[x.v, y.v] w fun e w' => e = .returned (.bool true) ∧ Below w.heap.size w w' := by
  obtain ⟨x1, x2, x3, x4⟩ := x
  obtain ⟨y1, y2, y3, y4⟩ := y
  have C1 : Hid (∀ W, Below w.heap.size w W → Calls Try.prog 59 #[x1, y1] W fun e w' => e = .returned (.bool true) ∧ Below W.heap.size W w') := fun W hb => sameCalls_yes (h1.wa.below hb) (h2.wa.below hb) (by omega)
  have C2 : Hid (∀ W, Below w.heap.size w W → Calls Try.prog 60 #[x2, y2] W fun e w' => e = .returned (.bool true) ∧ Below W.heap.size W w') := fun W hb => sameTrace_yes (h1.wt.below hb) (h2.wt.below hb) (by omega)
  have C3 : Hid (∀ W, Below w.heap.size w W → Calls Try.prog 61 #[x3, y3] W fun e w' => e = .returned (.bool true) ∧ Below W.heap.size W w') := fun W hb => sameShifts_yes (h1.wb.below hb) (h2.wb.below hb) (by omega)
  have C4 : Hid (∀ W, Below w.heap.size w W → Calls Try.prog 25 #[x4, y4] W fun e w' => e = .returned (.bool true) ∧ Below W.heap.size W w') := fun W hb => sameWords3_yes (h1.wc.below hb) (h2.wc.below hb) (by omega)
  obtain ⟨o1, c1, e1⟩ := h1.wa.form
  obtain ⟨o2, c2, e2⟩ := h1.wt.form
  obtain ⟨o3, c3, e3⟩ := h1.wb.form
  obtain ⟨o4, c4, e4⟩ := h1.wc.form
  obtain ⟨u1, d1, f1⟩ := h2.wa.form
  obtain ⟨u2, d2, f2⟩ := h2.wt.form
  obtain ⟨u3, d3, f3⟩ := h2.wb.form
  obtain ⟨u4, d4, f4⟩ := h2.wc.form
  simp only at e1 e2 e3 e4 f1 f2 f3 f4
  subst e1 e2 e3 e4 f1 f2 f3 f4
  unfold RunVs.v
  clear h1 h2 n1 n2 n3 n4
  go_enter Try.func23, Try.ntmps23
  go_wp2_with (go_at_call 59; refine (C1.out _ (by repeat (first | exact Below.refl _ _ | apply Below.drew | apply Below.more1 | apply Below.alloc1))).mono ?_; rintro e w1 ⟨rfl, hb1⟩; obtain ⟨os, d, rfl⟩ := hb1.more; clear hb1)
  go_wp2_with (go_at_call 60; refine (C2.out _ (by repeat (first | exact Below.refl _ _ | apply Below.drew | apply Below.more1 | apply Below.alloc1))).mono ?_; rintro e w1 ⟨rfl, hb1⟩; obtain ⟨os2, d2', rfl⟩ := hb1.more; clear hb1)
  go_wp2_with (go_at_call 61; refine (C3.out _ (by repeat (first | exact Below.refl _ _ | apply Below.drew | apply Below.more1 | apply Below.alloc1))).mono ?_; rintro e w1 ⟨rfl, hb1⟩; obtain ⟨os3, d3', rfl⟩ := hb1.more; clear hb1)
  go_wp2_with (go_at_call 25; refine (C4.out _ (by repeat (first | exact Below.refl _ _ | apply Below.drew | apply Below.more1 | apply Below.alloc1))).mono ?_; rintro e w1 ⟨rfl, hb1⟩; obtain ⟨os4, d4', rfl⟩ := hb1.more; clear hb1)
  go_ret
  exact ⟨rfl, (by repeat (first | exact Below.refl _ _ | apply Below.drew | apply Below.more1 | apply Below.alloc1))⟩
end Go.Proofs.Ytbhbpfpggfcpgaa
