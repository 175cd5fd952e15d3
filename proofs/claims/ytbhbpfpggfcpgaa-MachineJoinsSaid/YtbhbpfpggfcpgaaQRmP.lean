/-
reclaimref03: a move (Move), side by side with the machine of own calls.
reclaimref03: the run so far (Told).
reclaimref03: all moves (Run).
A machine with its own calls: each seat's last call is the thread's last one in the list. Plain.
reclaimref03: the machine's own calls as code (Own).
reclaimref03: what New does to the rows: a label more, a label set, a thread more. Plain.
reclaimref03: New, its state on the way (NewC): the machine so far, the config's block, what is untouched. Plain.
-/
import Derived.Test.YtbhbpfpggfcpgaaQRmB
import Derived.Test.YtbhbpfpggfcpgaaQRmR
import Derived.Test.YtbhbpfpggfcpgaaQRunC
import Derived.Test.YtbhbpfpggfcpgaaQRmS
import Derived.Test.YtbhbpfpggfcpgaaQMvL
namespace Go
open Go.RowKit
open Go.Proofs.Ytbhbpfpggfcpgaa
theorem ORel.skip {o : OS} {m : RM} (R : ORel o m) : ORel o.skip { m with moves := m.moves + 1 } :=
  ⟨R.words, R.trace, R.calls, by show m.moves + 1 = _; rw [R.moves]; rfl, R.code, R.labels, R.ents, R.shifts, R.len, R.seat, R.tok⟩
theorem RT.start_same (n lb : Int) (t : RT) : (t.start n lb).busy = true ∧ (t.start n lb).call = n ∧ (t.start n lb).pos = lb := by
  have h1 := RT.puts_same (List.replicate 48 0) 0 { t with busy := true, call := n, pos := lb }
  unfold RT.start
  generalize RT.puts (List.replicate 48 0) 0 { t with busy := true, call := n, pos := lb } = t1 at h1
  exact h1
theorem RM.beg_eq (m : RM) (i : Nat) (hi : i < m.T.length) (mv : Mv) (lb : Int) : m.beg i mv lb = m.at i (RT.start m.calls.length lb m.T[i]) m.words m.trace (m.calls ++ [⟨mv.th, mv.op, mv.arg, mv.data, m.moves, -1, -1, 0, 0⟩]) := by
  unfold RM.beg
  rw [RM.thr_eq _ _ _ hi]
  rfl
theorem ORel.beg {o : OS} {m : RM} (R : ORel o m) {i : Nat} (hi : i < m.T.length) (mv : Mv) (t : Tk) (lb : Int) (ht : (∃ a, t = .look a ∧ lb = 0) ∨ (∃ a, t = .bump a 0 false ∧ lb = 5)) : ORel (o.begin i mv t) { m.beg i mv lb with moves := (m.beg i mv lb).moves + 1 } := by
  obtain ⟨s1, s2, s3⟩ := RT.start_same m.calls.length lb m.T[i]
  have hlast : ((o.calls.length : Nat) : Int) = (m.calls.length : Int) := by rw [R.calls]
  have hse : SeatR ⟨some t, o.calls.length⟩ (RT.start m.calls.length lb m.T[i]) := by
    rcases ht with ⟨a, rfl, rfl⟩ | ⟨a, rfl, rfl⟩
    · exact ⟨s1, s2.trans hlast.symm, s3⟩
    · exact ⟨s1, s2.trans hlast.symm, .inl s3⟩
  rw [RM.beg_eq m i hi]
  refine R.turn (se' := ⟨some t, o.calls.length⟩) (RT.start_ok (R.tok _ (List.getElem_mem hi)) _ _) hse _ _ _ R.words.symm R.trace.symm ?_ rfl rfl
  show o.calls ++ [⟨mv.th, mv.op, mv.arg, mv.data, o.moves, -1, -1, 0, 0⟩] = _
  rw [R.calls, R.moves]
end Go
namespace Go.Proofs.Ytbhbpfpggfcpgaa
open Go.ChangeShapes Go.WideShapes Go.ChangeAt Go.RowKit Go.Shelf

/-- a move's answer and what it leaves -/
def RmRes (w : World) (base mb : Nat) (v : RMV) (did : Bool) (o' : OS) (e : Ending) (w' : World) : Prop := ∃ m', e = .returned (.bool did) ∧ ROut w base mb v m' w' ∧ ORel o' { m' with moves := m'.moves + 1 }
theorem RmRes.same {w : World} {base mb : Nat} {m : RM} {v : RMV} (H : RMAt w base mb m v) {o : OS} (R : ORel o m) {e : Ending} {w' : World} (h : e = .returned (.bool false) ∧ Below w.heap.size w w') : RmRes w base mb v false o.skip e w' := by
  obtain ⟨h1, h2⟩ := h
  obtain ⟨os, d, rfl⟩ := h2.more
  exact ⟨m, h1, (ROut.refl H).post ((Only.refl _ _).more _ _), R.skip⟩

theorem rmove_any {w : World} {base mb : Nat} {m : RM} {v : RMV} (H : RMAt w base mb m v) {l : List Int} {n : Nat} {pre : List Mv} {o : OS} (hI : OS.Inv l n pre o) (R : ORel o m) (hlt : pre.length < 65536) (hl : l.length ≤ 8192)
    (hcl : o.calls.length ≤ 70000) (hlg : o.log.length ≤ 70000) (mv : Mv) :
    Calls Try.prog 62 #[.pointer (some ⟨mb, 0, none⟩), mv.v] w (RmRes w base mb v (o.move l.length mv).2 (o.move l.length mv).1) := by
  have hmo : ¬ 65536 ≤ o.moves := by have := hI.moves; omega
  have hlen := R.len
  have hwl : m.words.length = l.length := by rw [R.words]; exact hI.wlen
  by_cases hth : mv.th < 0 ∨ (m.T.length : Int) ≤ mv.th
  · have he : o.move l.length mv = (o.skip, false) := by
      unfold OS.move
      rw [if_neg hmo]
      by_cases h0 : mv.th < 0
      · rw [if_pos h0]
      · rw [if_neg h0, List.getElem?_eq_none (by omega)]
    rw [he]
    exact (rmove_out H mv hth).mono fun e w' h => RmRes.same H R h
  obtain ⟨i, hi0⟩ : ∃ i : Nat, mv.th = (i : Int) := ⟨mv.th.toNat, by omega⟩
  have hi : i < m.T.length := by omega
  have hil : i < o.seats.length := by omega
  have hs : o.seats[i]? = some o.seats[i] := List.getElem?_eq_getElem hil
  have hS := R.seat i _ _ hs (List.getElem?_eq_getElem hi)
  have hn : mv.th.toNat = i := by omega
  have hm0 : o.move l.length mv = match o.seats[i].task with
      | some t => if mv.op = 0 then (o.step i o.seats[i] t, true) else (o.skip, false)
      | none => if mv.op = 0 then (o.skip, false) else match ownMake l.length mv with
        | none => (o.skip, false)
        | some t => (o.begin i mv t, true) := by
    unfold OS.move
    rw [if_neg hmo, if_neg (by omega), hn, hs]
    rfl
  cases hta : o.seats[i].task with
  | some t =>
    have hbz : m.T[i].busy = true := by
      unfold SeatR at hS
      rw [hta] at hS
      cases t with
      | look a => exact hS.1
      | bump a s ld => cases ld <;> exact hS.1
    rw [hta] at hm0
    simp only at hm0
    by_cases hop : mv.op = 0
    · rw [if_pos hop] at hm0
      rw [hm0]
      obtain ⟨ci, c, q1, q2, q3, q4, q5, q6, q7, q8⟩ := hI.seat i _ t hs hta
      obtain ⟨m', k, hr, R'⟩ := orel_step R hs hta q1 q2 q5 ⟨q7, by rw [hI.wlen]; exact q8⟩ (by rw [hI.wlen]; omega) hlg
      exact (rmove_step H mv hi0 hi hop hbz hr).mono fun e w' h => ⟨m', h.1, h.2, R'⟩
    · rw [if_neg hop] at hm0
      rw [hm0]
      exact (rmove_busy H mv hi0 hi hop hbz).mono fun e w' h => RmRes.same H R h
  | none =>
    have hbz : m.T[i].busy = false := by
      unfold SeatR at hS
      rw [hta] at hS
      exact hS
    rw [hta] at hm0
    simp only at hm0
    by_cases hop : mv.op = 0
    · rw [if_pos hop] at hm0
      rw [hm0]
      exact (rmove_idle H mv hi0 hi hop hbz).mono fun e w' h => RmRes.same H R h
    · rw [if_neg hop] at hm0
      by_cases hb : (decide (0 ≤ mv.arg) && decide (mv.arg < (l.length : Int))) = true
      · by_cases h1 : mv.op = 1
        · have hmk : ownMake l.length mv = some (.look mv.arg) := by unfold ownMake; rw [if_pos hb, if_pos h1]
          rw [hmk] at hm0
          rw [hm0]
          obtain ⟨mth, mop, marg, mdata⟩ := mv
          simp only at h1 hi0 hb
          subst h1 hi0
          exact (rmove_yes1 H marg mdata hi hbz R.ents R.labels (by rw [hwl]; exact hb) (by rw [R.calls]; omega)).mono fun e w' h => ⟨_, h.1, h.2, R.beg hi _ _ 0 (.inl ⟨_, rfl, rfl⟩)⟩
        · by_cases h2 : mv.op = 2
          · have hmk : ownMake l.length mv = some (.bump mv.arg 0 false) := by unfold ownMake; rw [if_pos hb, if_neg h1, if_pos h2]
            rw [hmk] at hm0
            rw [hm0]
            obtain ⟨mth, mop, marg, mdata⟩ := mv
            simp only at h2 hi0 hb
            subst h2 hi0
            exact (rmove_yes2 H marg mdata hi hbz R.ents R.labels (by rw [hwl]; exact hb) (by rw [R.calls]; omega)).mono fun e w' h => ⟨_, h.1, h.2, R.beg hi _ _ 5 (.inr ⟨_, rfl, rfl⟩)⟩
          · have hmk : ownMake l.length mv = none := by unfold ownMake; rw [if_pos hb, if_neg h1, if_neg h2]
            rw [hmk] at hm0
            rw [hm0]
            exact (rmove_no H mv hi0 hi hop hbz R.ents (.inl ⟨h1, h2⟩)).mono fun e w' h => RmRes.same H R h
      · have hmk : ownMake l.length mv = none := by unfold ownMake; rw [if_neg hb]
        rw [hmk] at hm0
        rw [hm0]
        exact (rmove_no H mv hi0 hi hop hbz R.ents (.inr (by rw [hwl]; simpa using hb))).mono fun e w' h => RmRes.same H R h
/-- the count of moves -/
theorem _root_.Go.RMAt.putM {w : World} {base mb : Nat} {m : RM} {v : RMV} (h : RMAt w base mb m v) (x : Int) : RMAt (w.setCell ⟨mb, 23, none⟩ (.int .i64 x)) base mb { m with moves := x } v :=
  h.putBlk (j := 23) (m' := { m with moves := x }) (v' := v) rfl (fun i hi => by
    have h1 := (h.rows i hi).set (fun b hb => h.apart hi hb) (p := ⟨mb, 23, none⟩) (.int .i64 x)
    match i, hi with
    | 0, _ | 1, _ | 2, _ | 3, _ | 4, _ | 5, _ | 6, _ | 7, _ | 8, _ | 9, _ | 10, _ => exact h1) h.cm h.cr h.tok
def RmRes2 (w : World) (base mb : Nat) (v : RMV) (did : Bool) (o' : OS) (e : Ending) (w' : World) : Prop := ∃ m', e = .returned (.bool did) ∧ ROut w base mb v m' w' ∧ ORel o' m'
set_option maxRecDepth 100000 in
theorem rMove_any {w : World} {base mb : Nat} {m : RM} {v : RMV} (H : RMAt w base mb m v) {l : List Int} {n : Nat} {pre : List Mv} {o : OS} (hI : OS.Inv l n pre o) (R : ORel o m) (hlt : pre.length ≤ 65536) (hl : l.length ≤ 8192)
    (hcl : o.calls.length ≤ 70000) (hlg : o.log.length ≤ 70000) (mv : Mv) :
    Calls Try.prog 35 #[.pointer (some ⟨mb, 0, none⟩), mv.v] w (RmRes2 w base mb v (o.move l.length mv).2 (o.move l.length mv).1) := by
  have hm := hI.moves
  have hmm := R.moves
  have b23 := H.b23
  rw [hmm, hm] at b23
  have lb := (H.lt mb (.inl rfl)).2
  by_cases hf : pre.length = 65536
  · have he : o.move l.length mv = (o, false) := by unfold OS.move; rw [if_pos (by omega)]
    rw [he]
    have HH := Lib.hid H
    have HR := Lib.hid R
    rw [hf] at b23
    clear H R hmm hm
    obtain ⟨mth, mop, marg, mdata⟩ := mv
    unfold Mv.v
    go_enter Try.func35, Try.ntmps35
    go_wp2
    go_ret
    exact ⟨m, rfl, (ROut.refl HH.out).post (by repeat (first | exact Only.refl _ _ | apply Only.alloc | apply Only.drew | apply Only.more)), HR.out⟩
  · have hlt' : pre.length < 65536 := by omega
    have q1 : decide ((65536 : Int) ≤ (pre.length : Int)) = false := by simp; omega
    have q2 : decide (65536 ≤ pre.length) = false := by simp; omega
    have HM := Lib.hid (fun Wq (hq : Only (fun _ => False) w Wq) => rmove_any (H.only hq (fun _ _ x => x)) hI R hlt' hl hcl hlg mv)
    have HMO := Lib.hid (show (o.move l.length mv).1.moves = o.moves + 1 by
      have := (hI.move hlt' mv).moves
      rw [this, hm]; simp)
    have HH := Lib.hid H
    have HM2 := Lib.hid hm
    generalize (o.move l.length mv).1 = o2 at *
    generalize (o.move l.length mv).2 = d2 at *
    clear H R hmm hm hI
    obtain ⟨mth, mop, marg, mdata⟩ := mv
    unfold Mv.v at HM ⊢
    go_enter Try.func35, Try.ntmps35
    go_upto_region 4 with (go_at_call 62; refine (HM.out _ (by repeat (first | exact Only.refl _ _ | apply Only.alloc | apply Only.drew | apply Only.more))).mono ?_; rintro e w3 ⟨m3, rfl, ho3, hr3⟩; have HO3 := Lib.hid ho3; have HR3 := Lib.hid hr3; clear ho3 hr3)
    obtain ⟨v3, a1, a2, a3, a4⟩ := HO3.out
    have c23 := a1.b23
    have z23 := a1.frozen 23
    have l23 := (a1.lt mb (.inl rfl)).2
    have hm3 : m3.moves = (pre.length : Int) := by
      have h1 : m3.moves + 1 = (o2.moves : Int) := HR3.out.moves
      rw [HMO.out, HM2.out] at h1
      push_cast at h1
      omega
    rw [hm3] at c23
    have HV := Lib.hid (And.intro a1 (And.intro a2 (And.intro a3 a4)))
    have HM3 := Lib.hid hm3
    clear a1 a2 a3 a4 hm3
    go_wp2
    go_ret
    obtain ⟨a1, a2, a3, a4⟩ := HV.out
    refine ⟨{ m3 with moves := m3.moves + 1 }, rfl, ?_, HR3.out⟩
    refine ROut.pre (by repeat (first | exact Only.refl _ _ | apply Only.alloc | apply Only.drew | apply Only.more)) ⟨v3, ?_, a2.set (.inl (.inl rfl)) _, a3, a4⟩
    have := a1.putM (m3.moves + 1)
    rw [HM3.out] at this ⊢
    exact this
end Go.Proofs.Ytbhbpfpggfcpgaa
namespace Go.Proofs.Ytbhbpfpggfcpgaa
open Go.ChangeShapes Go.WideShapes Go.ChangeAt Go.RowKit Go.Shelf

def toldBox : Obj := .cells #[.slice none 0 0, .slice none 0 0, .slice none 0 0, .slice none 0 0] 41
theorem row_keep {w w' : World} {base e size n : Nat} {v : Value} {xs : List Value} (h : w.RowV base e size v n xs) (ho : Only (fun _ => False) w w') : w'.RowV base e size v n xs := h.of_block fun k hk => ho.block k (h.lt k hk).2 (fun x => x)
theorem told_fin {w w1 w2 w3 w4 wf : World} {s1 s2 s3 s4 : Nat} {va vt vb vc : Value} {r : RunS} (h1 : w1.RowV s1 63 9 va r.calls.length (cals r.calls)) (h2 : w2.RowV s2 66 7 vt r.trace.length (accs r.trace)) (h3 : w3.RowV s3 132 5 vb r.shifts.length (shfs r.shifts)) (h4 : w4.RowV s4 27 1 vc r.words.length (u64s r.words))
    (o1 : Only (fun _ => False) (w.alloc toldBox) w1) (b1 : w.heap.size < s1) (o2 : Only (fun _ => False) w1 w2) (b2 : w1.heap.size ≤ s2) (o3 : Only (fun _ => False) w2 w3) (b3 : w2.heap.size ≤ s3) (o4 : Only (fun _ => False) w3 w4) (b4 : w3.heap.size ≤ s4) (of : Only (fun k => k = w.heap.size) w4 wf) :
    RunAt wf w.heap.size ⟨va, vt, vb, vc⟩ r ∧ Only (fun _ => False) w wf := by
  have z1 := o1.size
  rw [World.size_alloc] at z1
  have z2 := o2.size
  have z3 := o3.size
  have z4 := o4.size
  have kf : ∀ {e s n b : Nat} {v : Value} {xs : List Value}, w4.RowV b e s v n xs → w.heap.size < b → wf.RowV w.heap.size e s v n xs := fun h hb =>
    (h.of_block fun k hk => of.block k (h.lt k hk).2 (by have := (h.lt k hk).1; omega)).base_mono (by omega)
  refine ⟨⟨kf (row_keep (row_keep (row_keep h1 o2) o3) o4) b1, kf (row_keep (row_keep h2 o3) o4) (by omega), kf (row_keep h3 o4) (by omega), kf h4 (by omega), ?_, ?_, ?_, ?_, ?_, ?_⟩, ?_⟩
  · intro k e e'; have := (h1.lt k e).2; have := (h2.lt k e').1; omega
  · intro k e e'; have := (h1.lt k e).2; have := (h3.lt k e').1; omega
  · intro k e e'; have := (h1.lt k e).2; have := (h4.lt k e').1; omega
  · intro k e e'; have := (h2.lt k e).2; have := (h3.lt k e').1; omega
  · intro k e e'; have := (h2.lt k e).2; have := (h4.lt k e').1; omega
  · intro k e e'; have := (h3.lt k e).2; have := (h4.lt k e').1; omega
  · exact ((((((Only.refl _ w).alloc toldBox).trans o1 (fun _ x => x.elim)).trans o2 (fun _ x => x.elim)).trans o3 (fun _ x => x.elim)).trans o4 (fun _ x => x.elim)).trans of (fun k hk => .inr (by subst hk; exact Nat.le_refl _))
set_option maxRecDepth 100000 in
set_option maxHeartbeats 2000000 in
theorem told_any {w : World} {base mb : Nat} {m : RM} {v : RMV} (H : RMAt w base mb m v) (n1 : m.calls.length ≤ 1000000) (n2 : m.trace.length ≤ 1000000) (n3 : m.shifts.length ≤ 1000000) (n4 : m.words.length ≤ 1000000) :
    Calls Try.prog 36 #[.pointer (some ⟨mb, 0, none⟩)] w (RunRes w ⟨m.calls, m.trace, m.shifts, m.words⟩) := by
  have HH := Lib.hid H
  obtain ⟨w0, hw0⟩ : ∃ w0, w0 = w.alloc toldBox := ⟨_, rfl⟩
  have H0 : RMAt w0 base mb m v := by rw [hw0]; exact H.alloc _
  have H0h := Lib.hid H0
  have lb := (H0.lt mb (.inl rfl)).2
  have s0 : w0.heap.size = w.heap.size + 1 := by rw [hw0]; simp
  have hbx : w0.heap[w.heap.size]? = some (.cells #[.slice none 0 0, .slice none 0 0, .slice none 0 0, .slice none 0 0] 41 (0, 0)) := by rw [hw0]; exact heap_alloc_new w _
  obtain ⟨i1, ii1, iz10, iz11, iz12⟩ := info_parts infoCall
  have II1 := Lib.hid ii1
  have IZ10 := Lib.hid iz10
  have IZ11 := Lib.hid iz11
  have IZ12 := Lib.hid iz12
  clear ii1 iz10 iz11 iz12
  have f1 := fun q : LaterF (fun _ => False) w0 => q.cell H0.b24 lb (fun x => x)
  have SR1 := Lib.hid (fun (W : World) (ho : Only (fun _ => False) w0 W) => (show W.Src 9 (v.row 8) m.calls.length (cals m.calls) from ((H0.only ho (fun _ _ x => x)).rows 8 (by omega)).src))
  have SO1 := Lib.hid (cals_one m.calls)
  have SL1 := Lib.hid (show 0 + m.calls.length ≤ maxLen by unfold maxLen; omega)
  have SB1 := Lib.hid (show ((0 + m.calls.length) + (0 + m.calls.length) / 4 + 192) * 72 ≤ 281474976710656 by omega)
  obtain ⟨i2, ii2, iz20, iz21, iz22⟩ := info_parts infoAcc
  have II2 := Lib.hid ii2
  have IZ20 := Lib.hid iz20
  have IZ21 := Lib.hid iz21
  have IZ22 := Lib.hid iz22
  clear ii2 iz20 iz21 iz22
  have f2 := fun q : LaterF (fun _ => False) w0 => q.cell H0.b25 lb (fun x => x)
  have SR2 := Lib.hid (fun (W : World) (ho : Only (fun _ => False) w0 W) => (show W.Src 7 (v.row 9) m.trace.length (accs m.trace) from ((H0.only ho (fun _ _ x => x)).rows 9 (by omega)).src))
  have SO2 := Lib.hid (accs_one m.trace)
  have SL2 := Lib.hid (show 0 + m.trace.length ≤ maxLen by unfold maxLen; omega)
  have SB2 := Lib.hid (show ((0 + m.trace.length) + (0 + m.trace.length) / 4 + 192) * 56 ≤ 281474976710656 by omega)
  obtain ⟨i3, ii3, iz30, iz31, iz32⟩ := info_parts infoShift
  have II3 := Lib.hid ii3
  have IZ30 := Lib.hid iz30
  have IZ31 := Lib.hid iz31
  have IZ32 := Lib.hid iz32
  clear ii3 iz30 iz31 iz32
  have f3 := fun q : LaterF (fun _ => False) w0 => q.cell H0.b26 lb (fun x => x)
  have SR3 := Lib.hid (fun (W : World) (ho : Only (fun _ => False) w0 W) => (show W.Src 5 (v.row 10) m.shifts.length (shfs m.shifts) from ((H0.only ho (fun _ _ x => x)).rows 10 (by omega)).src))
  have SO3 := Lib.hid (shfs_one m.shifts)
  have SL3 := Lib.hid (show 0 + m.shifts.length ≤ maxLen by unfold maxLen; omega)
  have SB3 := Lib.hid (show ((0 + m.shifts.length) + (0 + m.shifts.length) / 4 + 192) * 40 ≤ 281474976710656 by omega)
  obtain ⟨i4, ii4, iz40, iz41, iz42⟩ := info_parts infoU64
  have II4 := Lib.hid ii4
  have IZ40 := Lib.hid iz40
  have IZ41 := Lib.hid iz41
  have IZ42 := Lib.hid iz42
  clear ii4 iz40 iz41 iz42
  have f4 := fun q : LaterF (fun _ => False) w0 => q.cell H0.b7 lb (fun x => x)
  have SR4 := Lib.hid (fun (W : World) (ho : Only (fun _ => False) w0 W) => (show W.Src 1 (v.row 0) m.words.length (u64s m.words) from ((H0.only ho (fun _ _ x => x)).rows 0 (by omega)).src))
  have SO4 := Lib.hid (u64s_one m.words)
  have SL4 := Lib.hid (show 0 + m.words.length ≤ maxLen by unfold maxLen; omega)
  have SB4 := Lib.hid (show ((0 + m.words.length) + (0 + m.words.length) / 4 + 192) * 8 ≤ 281474976710656 by omega)
  have HBX := Lib.hid hbx
  have HW0 := Lib.hid hw0
  have HS0 := Lib.hid s0
  clear H H0 hbx n1 n2 n3 n4 s0
  go_enter Try.func36, Try.ntmps36
  go_upto_region 1 with (fail)
  have hq : w.alloc (.cells #[.slice none 0 0, .slice none 0 0, .slice none 0 0, .slice none 0 0] 41) = w0 := hw0.symm
  rw [hq]
  clear hq hw0
  go_wp2
  refine wp_region_plan (fun wz => ∃ q : LaterF (fun _ => False) w0, wz = q.W) [4, 9, 14, 19, 21] [0, 1, 2, 3, 5, 6, 7, 8, 10, 11, 12, 13, 15, 16, 17, 18] (.fork 4 [] (.fork 9 [] (.fork 14 [] (.tail 19) .none) .none) .none) oper0 (by kernel_rfl) (by kernel_rfl) (laterF_in (Only.refl _ _).drew) ?_
  simp only [wpPlan, List.map_cons, List.map_nil, List.getD_cons_zero, List.getD_cons_succ, List.drop_succ_cons, List.drop_zero]
  repeat (first | go_big_quiet_skip | (go_big_quiet_want; go_big_quiet_op; go_big_quiet_on))
  refine wpQuiet_nil ?_
  try with_reducible refine ⟨?_, trivial⟩
  go_wp2_with (at_builtin; refine wpList_append_row _ rfl _ _ 37 rfl _ 63 i1 _ 9 72 Try.underlying37 II1.out IZ10.out IZ11.out IZ12.out rfl (.slice none 0 0) 0 [] rfl (World.RowV_none _ _ _ _ _) _ m.calls.length (cals m.calls) rfl (SR1.out _ (by repeat (first | exact Only.refl _ _ | apply Only.drew))) SO1.out SL1.out SB1.out (Nat.le_refl _) ?_; intro v1 w1 hown hout; obtain ⟨oo1, cc1, rfl, _, _⟩ := hown.form; have R1 := Lib.hid hown; have O1 := Lib.hid (show Only (fun _ => False) w0 w1 from Only.trans (by repeat (first | exact Only.refl _ _ | apply Only.drew)) (Only.out (F := fun _ => False) hout (by simp [Value.rowBlock])) (fun _ h => h.elim)); clear hown hout)
  refine strict_on ?_
  refine ⟨?_, ?_⟩
  · exact laterF_in (by repeat (first | exact O1.out | apply Only.drew))
  repeat (first | go_big_quiet_skip | (go_big_quiet_want; go_big_quiet_op; go_big_quiet_on))
  refine wpQuiet_nil ?_
  try with_reducible refine ⟨?_, trivial⟩
  go_wp2_with (at_builtin; refine wpList_append_row _ rfl _ _ 38 rfl _ 66 i2 _ 7 56 Try.underlying38 II2.out IZ20.out IZ21.out IZ22.out rfl (.slice none 0 0) 0 [] rfl (World.RowV_none _ _ _ _ _) _ m.trace.length (accs m.trace) rfl (SR2.out _ (by repeat (first | exact O1.out | apply Only.drew))) SO2.out SL2.out SB2.out (Nat.le_refl _) ?_; intro v2 w2 hown hout; obtain ⟨oo2, cc2, rfl, _, _⟩ := hown.form; have R2 := Lib.hid hown; have O2 := Lib.hid (show Only (fun _ => False) w0 w2 from Only.trans (by repeat (first | exact O1.out | apply Only.drew)) (Only.out (F := fun _ => False) hout (by simp [Value.rowBlock])) (fun _ h => h.elim)); have P2 := Lib.hid (show Only (fun _ => False) w1 w2 from Only.trans (by repeat (first | exact Only.refl _ _ | apply Only.drew)) (Only.out (F := fun _ => False) hout (by simp [Value.rowBlock])) (fun _ h => h.elim)); clear hown hout)
  refine strict_on ?_
  refine ⟨?_, ?_⟩
  · exact laterF_in (by repeat (first | exact O2.out | apply Only.drew))
  repeat (first | go_big_quiet_skip | (go_big_quiet_want; go_big_quiet_op; go_big_quiet_on))
  refine wpQuiet_nil ?_
  try with_reducible refine ⟨?_, trivial⟩
  go_wp2_with (at_builtin; refine wpList_append_row _ rfl _ _ 39 rfl _ 132 i3 _ 5 40 Try.underlying39 II3.out IZ30.out IZ31.out IZ32.out rfl (.slice none 0 0) 0 [] rfl (World.RowV_none _ _ _ _ _) _ m.shifts.length (shfs m.shifts) rfl (SR3.out _ (by repeat (first | exact O2.out | apply Only.drew))) SO3.out SL3.out SB3.out (Nat.le_refl _) ?_; intro v3 w3 hown hout; obtain ⟨oo3, cc3, rfl, _, _⟩ := hown.form; have R3 := Lib.hid hown; have O3 := Lib.hid (show Only (fun _ => False) w0 w3 from Only.trans (by repeat (first | exact O2.out | apply Only.drew)) (Only.out (F := fun _ => False) hout (by simp [Value.rowBlock])) (fun _ h => h.elim)); have P3 := Lib.hid (show Only (fun _ => False) w2 w3 from Only.trans (by repeat (first | exact Only.refl _ _ | apply Only.drew)) (Only.out (F := fun _ => False) hout (by simp [Value.rowBlock])) (fun _ h => h.elim)); clear hown hout)
  refine strict_on ?_
  refine ⟨?_, ?_⟩
  · exact laterF_in (by repeat (first | exact O3.out | apply Only.drew))
  repeat (first | go_big_quiet_skip | (go_big_quiet_want; go_big_quiet_op; go_big_quiet_on))
  refine wpQuiet_nil ?_
  go_wp2_with (at_builtin; refine wpList_append_row _ rfl _ _ 28 rfl _ 27 i4 _ 1 8 Try.underlying28 II4.out IZ40.out IZ41.out IZ42.out rfl (.slice none 0 0) 0 [] rfl (World.RowV_none _ _ _ _ _) _ m.words.length (u64s m.words) rfl (SR4.out _ (by repeat (first | exact O3.out | apply Only.drew))) SO4.out SL4.out SB4.out (Nat.le_refl _) ?_; intro v4 w4 hown hout; obtain ⟨oo4, cc4, rfl, _, _⟩ := hown.form; have R4 := Lib.hid hown; have O4 := Lib.hid (show Only (fun _ => False) w0 w4 from Only.trans (by repeat (first | exact O3.out | apply Only.drew)) (Only.out (F := fun _ => False) hout (by simp [Value.rowBlock])) (fun _ h => h.elim)); have P4 := Lib.hid (show Only (fun _ => False) w3 w4 from Only.trans (by repeat (first | exact Only.refl _ _ | apply Only.drew)) (Only.out (F := fun _ => False) hout (by simp [Value.rowBlock])) (fun _ h => h.elim)); clear hown hout; have hb4 : w4.heap[w.heap.size]? = some (.cells #[.slice none 0 0, .slice none 0 0, .slice none 0 0, .slice none 0 0] 41 (0, 0)) := (O4.out.block w.heap.size (by rw [HS0.out]; omega) (fun x => x)).trans HBX.out; have e0 : w4.cell? ⟨w.heap.size, 0, none⟩ = some (.slice none 0 0) := (by simp [World.cell?, hb4]); have e1 : w4.cell? ⟨w.heap.size, 1, none⟩ = some (.slice none 0 0) := (by simp [World.cell?, hb4]); have e2 : w4.cell? ⟨w.heap.size, 2, none⟩ = some (.slice none 0 0) := (by simp [World.cell?, hb4]); have e3 : w4.cell? ⟨w.heap.size, 3, none⟩ = some (.slice none 0 0) := (by simp [World.cell?, hb4]); have ez : ∀ j, w4.frozen? ⟨w.heap.size, j, none⟩ = false := (fun j => by simp [World.frozen?, hb4]); have HB4 := Lib.hid hb4; clear hb4)
  refine bodyPost_ret (v := .agg #[.slice oo1 (0 + m.calls.length) cc1, .slice oo2 (0 + m.trace.length) cc2, .slice oo3 (0 + m.shifts.length) cc3, .slice oo4 (0 + m.words.length) cc4]) (by simp [results, Try.results36, go_sem, e0, e1, e2, e3]) rfl ⟨⟨.slice oo1 (0 + m.calls.length) cc1, .slice oo2 (0 + m.trace.length) cc2, .slice oo3 (0 + m.shifts.length) cc3, .slice oo4 (0 + m.words.length) cc4⟩, rfl, ?_⟩
  refine told_fin (w1 := w1) (w2 := w2) (w3 := w3) (w4 := w4) (by simpa using R1.out) (by simpa using R2.out) (by simpa using R3.out) (by simpa using R4.out) (by rw [← HW0.out]; exact O1.out) (by simp [HS0.out]) P2.out (by simp) P3.out (by simp) P4.out (by simp) ?_
  exact (((((Only.refl (fun k => k = w.heap.size) w4).set (p := ⟨w.heap.size, 0, none⟩) (.inl rfl) _).set (p := ⟨w.heap.size, 1, none⟩) (.inl rfl) _).set (p := ⟨w.heap.size, 2, none⟩) (.inl rfl) _).set (p := ⟨w.heap.size, 3, none⟩) (.inl rfl) _)
end Go.Proofs.Ytbhbpfpggfcpgaa
namespace Go.Proofs.Ytbhbpfpggfcpgaa
open Go.ChangeShapes Go.WideShapes Go.ChangeAt Go.RowKit Go.Shelf

/-- after some moves; all the machine's blocks are behind w0 -/
def RRunI (w0 wk : World) (F : Nat → Prop) (l : List Int) (n mb : Nat) (pre : List Mv) (wr : World) : Prop :=
  ∃ m v, RMAt wr w0.heap.size mb m v ∧ ORel (osOf l n pre) m ∧ Only (fun _ => False) w0 wr ∧ Only F wk wr ∧ ∀ k, v.own mb k → F k ∨ wk.heap.size ≤ k
def RRunRes (w0 : World) (l : List Int) (n : Nat) (ms : List Mv) (e : Ending) (w' : World) : Prop :=
  ∃ x : RunVs, e = .returned x.v ∧ RunAt w' w0.heap.size x ⟨(osOf l n ms).calls, (osOf l n ms).log, [], (osOf l n ms).words⟩ ∧ Only (fun _ => False) w0 w'
theorem RRunI.only {w0 wk wr w' : World} {F : Nat → Prop} {l : List Int} {n mb : Nat} {pre : List Mv} (h : RRunI w0 wk F l n mb pre wr) (ho : Only (fun _ => False) wr w') : RRunI w0 wk F l n mb pre w' := by
  obtain ⟨m, v, h1, h2, h3, h4, h5⟩ := h
  exact ⟨m, v, h1.only ho (fun _ _ x => x), h2, h3.trans ho (fun _ x => x.elim), h4.trans ho (fun _ x => x.elim), h5⟩
theorem os_lens (l : List Int) (n : Nat) (ms : List Mv) (hm : ms.length ≤ 65536) : (osOf l n ms).calls.length + (osOf l n ms).log.length ≤ ms.length := by
  have h := (idle_os (l := l) (n := n) (ms := ms) hm ms.length (Nat.le_refl _)).2
  rw [List.take_length] at h
  have := filM_le (l := l) (n := n) (ms := ms) ms.length
  unfold numM at h
  omega
/-- a move -/
theorem RRunI.move {w0 wk wr : World} {F : Nat → Prop} {l : List Int} {n mb : Nat} {pre : List Mv} (h : RRunI w0 wk F l n mb pre wr) (hp : pre.length ≤ 65536) (hl : l.length ≤ 8192) (mv : Mv) :
    Calls Try.prog 35 #[.pointer (some ⟨mb, 0, none⟩), mv.v] wr fun e w' => e = .returned (.bool ((osOf l n pre).move l.length mv).2) ∧ RRunI w0 wk F l n mb (pre ++ [mv]) w' := by
  obtain ⟨m, v, h1, h2, h3, h4, h5⟩ := h
  have hc := os_lens l n pre hp
  refine (rMove_any h1 (inv_of l n pre hp) h2 hp hl (by omega) (by omega) mv).mono ?_
  rintro e w' ⟨m', he, ⟨v', a1, a2, a3, a4⟩, hr⟩
  refine ⟨he, m', v', a1, ?_, h3.trans a2 (fun k hk => .inr (h1.lt k hk).1), h4.trans a2 h5, fun k hk => ?_⟩
  rotate_left
  · rcases a3 k hk with h6 | h6
    · exact h5 k h6
    · have := h4.size; exact .inr (by omega)
  rw [osOf_snoc]
  exact hr
theorem RRunI.told {w0 wk wr : World} {F : Nat → Prop} {l : List Int} {n mb : Nat} {pre : List Mv} (h : RRunI w0 wk F l n mb pre wr) (hp : pre.length ≤ 65536) (hl : l.length ≤ 8192) :
    Calls Try.prog 36 #[.pointer (some ⟨mb, 0, none⟩)] wr (RunRes wr ⟨(osOf l n pre).calls, (osOf l n pre).log, [], (osOf l n pre).words⟩) := by
  obtain ⟨m, v, h1, h2, h3, h4, h5⟩ := h
  have hc := os_lens l n pre hp
  have hI := inv_of l n pre hp
  have ht := told_any h1 (by rw [h2.calls]; omega) (by rw [h2.trace]; omega) (by rw [h2.shifts]; simp) (by rw [h2.words, hI.wlen]; omega)
  rwa [h2.calls, h2.trace, h2.shifts, h2.words] at ht

set_option maxRecDepth 100000 in
set_option maxHeartbeats 2000000 in
theorem rRun_any {w0 wk w : World} {F : Nat → Prop} {l : List Int} {n mb : Nat} {vm : Value} {ms : List Mv} (hI : RRunI w0 wk F l n mb [] w) (hm : MvsIn w0 vm ms) (hms : ms.length ≤ 65536) (hl : l.length ≤ 8192) :
    Calls Try.prog 58 #[.pointer (some ⟨mb, 0, none⟩), vm] w (RRunRes w0 l n ms) := by
  obtain ⟨om, cm, rfl, hm1, hm2, hm3⟩ := hm
  have HM := Lib.hid hm3
  unfold maxLen at hm2
  obtain ⟨m0, v0, i1, i2, i3, _, _⟩ := hI
  have HI : Hid (RRunI w0 (w.alloc toldBox) (v0.own mb) l n mb [] (w.alloc toldBox)) := Lib.hid ⟨m0, v0, i1.alloc _, i2, i3.alloc _, Only.refl _ _, fun k hk => .inl hk⟩
  have HF : Hid (¬ v0.own mb w.heap.size) := Lib.hid (fun e => by have := (i1.lt _ e).2; omega)
  have HBX : Hid ((w.alloc toldBox).heap[w.heap.size]? = some toldBox) := Lib.hid (heap_alloc_new w _)
  have HSZ := Lib.hid i3.size
  clear i1 i2 i3 hm3
  go_enter Try.func58, Try.ntmps58
  go_wp2
  go_loopg [9] ms.length (fun g sl wr => ∃ k : Nat, k ≤ ms.length ∧ ms.length ≤ k + g ∧ sl = .int .i64 (k : Int) ∧ Hid (RRunI w0 (w.alloc toldBox) (v0.own mb) l n mb (ms.take k) wr))
  case atStart => exact ⟨0, by omega, by omega, by go_num, HI⟩
  case round =>
    obtain ⟨k, hk1, hk2, rfl, hI⟩ := hrel
    by_cases hlt : k < ms.length
    · have hw : Only (fun _ => False) w0 wr := hI.out.choose_spec.choose_spec.2.2.1
      obtain ⟨b, off, rfl, hb, m0, m1, m2, m3⟩ := HM.out k hlt
      replace m0 := (hw.cellAt (p := ⟨b, off + k * 4 + 0, none⟩) hb (fun x => x)).trans m0
      replace m1 := (hw.cellAt (p := ⟨b, off + k * 4 + 1, none⟩) hb (fun x => x)).trans m1
      replace m2 := (hw.cellAt (p := ⟨b, off + k * 4 + 2, none⟩) hb (fun x => x)).trans m2
      replace m3 := (hw.cellAt (p := ⟨b, off + k * 4 + 3, none⟩) hb (fun x => x)).trans m3
      simp only [Nat.add_zero] at m0
      have hbr : b < wr.heap.size := Nat.lt_of_lt_of_le hb hw.size
      have HMV := Lib.hid ((hI.out.only ((Only.refl _ wr).alloc (.cells #[.int .i64 ms[k].th, .int .i64 ms[k].op, .int .i64 ms[k].arg, .int .i64 ms[k].data] 34))).move (by simp; omega) hl ms[k])
      have HT := Lib.hid (take_next ms k hlt)
      unfold Mv.v at HMV
      clear hI hw HI HM
      go_wp2_with (go_at_call 35; refine HMV.out.mono ?_; rintro e w3 ⟨rfl, hnx⟩; have HNX := Lib.hid hnx; clear hnx)
      go_roundg (ms.length - (k + 1))
      case measure => omega
      case rel => exact ⟨k + 1, by omega, by omega, by go_num, by rw [HT.out]; exact HNX⟩
    · obtain rfl : k = ms.length := by omega
      rw [List.take_length] at hI
      have HR := Lib.hid (hI.out.told hms hl)
      have HOW : Only (fun _ => False) w0 wr := hI.out.choose_spec.choose_spec.2.2.1
      have hbx : wr.heap[w.heap.size]? = some toldBox := (hI.out.choose_spec.choose_spec.2.2.2.1.block w.heap.size (by simp) HF.out).trans HBX.out
      unfold toldBox at hbx
      have HRC := Lib.hid hbx
      clear hI hbx HI HM
      have HWO := Lib.hid (show Only (fun _ => False) w0 wr from HOW)
      clear HOW
      go_wp2_with (go_at_call 36; refine HR.out.mono ?_; rintro e w3 ⟨x, he, hra, hro⟩; obtain ⟨xa, xt, xb', xc⟩ := x; obtain ⟨oa, ca, e1, _, _⟩ := hra.wa.form; obtain ⟨ot, ct, e2, _, _⟩ := hra.wt.form; obtain ⟨ob, cb, e3, _, _⟩ := hra.wb.form; obtain ⟨oc, cc, e4, _, _⟩ := hra.wc.form; simp only at e1 e2 e3 e4; subst e1; subst e2; subst e3; subst e4; (unfold RunVs.v at he); subst he; have hc3 := (hro.block w.heap.size (Array.getElem?_eq_some_iff.1 HRC.out).1 (fun x => x)).trans HRC.out; have HRA := Lib.hid hra; have HRO := Lib.hid hro; have HC3 := Lib.hid hc3; have e0 : w3.cell? ⟨w.heap.size, 0, none⟩ = some (.slice none 0 0) := (by simp [World.cell?, hc3]); have e1 : w3.cell? ⟨w.heap.size, 1, none⟩ = some (.slice none 0 0) := (by simp [World.cell?, hc3]); have e2 : w3.cell? ⟨w.heap.size, 2, none⟩ = some (.slice none 0 0) := (by simp [World.cell?, hc3]); have e3 : w3.cell? ⟨w.heap.size, 3, none⟩ = some (.slice none 0 0) := (by simp [World.cell?, hc3]); have ez : ∀ j, w3.frozen? ⟨w.heap.size, j, none⟩ = false := fun j => (by simp [World.frozen?, hc3]); have hrl := (Array.getElem?_eq_some_iff.1 hc3).1; clear hra hro hc3)
      refine bodyPost_ret (v := .agg #[(.slice oa (osOf l n ms).calls.length ca), (.slice ot (osOf l n ms).log.length ct), (.slice ob ([] : List Shf).length cb), (.slice oc (osOf l n ms).words.length cc)]) (by simp [results, Try.results58, go_sem, e0, e1, e2, e3]) rfl ⟨⟨.slice oa (osOf l n ms).calls.length ca, .slice ot (osOf l n ms).log.length ct, .slice ob ([] : List Shf).length cb, .slice oc (osOf l n ms).words.length cc⟩, rfl, ?_, ?_⟩
      · have hlt3 := (Array.getElem?_eq_some_iff.1 HRC.out).1
        refine (HRA.out.of_block fun k hk => ?_).base_mono HWO.out.size
        have hne : k ≠ w.heap.size := fun e => by have := (HRA.out.lt k hk).1; omega
        exact (Below.heap_setCell _ ⟨w.heap.size, 3, none⟩ _ _ hne).trans ((Below.heap_setCell _ ⟨w.heap.size, 2, none⟩ _ _ hne).trans ((Below.heap_setCell _ ⟨w.heap.size, 1, none⟩ _ _ hne).trans (Below.heap_setCell _ ⟨w.heap.size, 0, none⟩ _ _ hne)))
      · exact (HWO.out.trans HRO.out (fun _ x => x.elim)).trans (((((Only.refl (fun k => k = w.heap.size) w3).set (p := ⟨w.heap.size, 0, none⟩) (.inl rfl) _).set (p := ⟨w.heap.size, 1, none⟩) (.inl rfl) _).set (p := ⟨w.heap.size, 2, none⟩) (.inl rfl) _).set (p := ⟨w.heap.size, 3, none⟩) (.inl rfl) _) (fun k hk => .inr (by subst hk; exact HSZ.out))
end Go.Proofs.Ytbhbpfpggfcpgaa
namespace Go
open Go.RowKit
open Go.Proofs.Ytbhbpfpggfcpgaa

structure LastI (seats : List OSeat) (calls : List Cal) : Prop where
  seat : ∀ (i : Nat) (se : OSeat), seats[i]? = some se →
    (se.last = -1 ∧ se.task = none ∧ ∀ (cj : Nat) (c : Cal), calls[cj]? = some c → c.th ≠ (i : Int)) ∨
    ∃ (ci : Nat) (c : Cal), se.last = (ci : Int) ∧ calls[ci]? = some c ∧ c.th = (i : Int) ∧ se.task.isSome = decide (c.en < 0) ∧ ∀ (cj : Nat) (c' : Cal), ci < cj → calls[cj]? = some c' → c'.th ≠ (i : Int)
  call : ∀ (cj : Nat) (c : Cal), calls[cj]? = some c → 0 ≤ c.th ∧ c.th < (seats.length : Int) ∧ 0 ≤ c.beg
section
variable {seats : List OSeat} {calls : List Cal}
theorem LastI.init (l : List Int) (n : Nat) : LastI (OS.init l n).seats (OS.init l n).calls := by
  refine ⟨fun i se h => .inl ?_, fun cj c h => by simp [OS.init] at h⟩
  have h' : (List.replicate n (⟨none, -1⟩ : OSeat))[i]? = some se := h
  rw [List.getElem?_replicate] at h'
  split at h'
  · cases h'
    exact ⟨rfl, rfl, fun cj c hc => by simp [OS.init] at hc⟩
  · cases h'
theorem LastI.keep (h : LastI seats calls) {i : Nat} {se : OSeat} (hs : seats[i]? = some se) (hta : se.task.isSome = true) (t' : Tk) : LastI (seats.set i ⟨some t', se.last⟩) calls := by
  refine ⟨fun j sj hj => ?_, fun cj c hc => by rw [List.length_set]; exact h.call cj c hc⟩
  by_cases e : i = j
  · subst e
    rw [List.getElem?_set_self (List.getElem?_eq_some_iff.1 hs).1] at hj
    cases hj
    rcases h.seat i se hs with ⟨_, h2, _⟩ | ⟨ci, c, h1, h2, h3, h4, h5⟩
    · rw [h2] at hta; cases hta
    · exact .inr ⟨ci, c, h1, h2, h3, by rw [← h4, hta]; rfl, h5⟩
  · rw [List.getElem?_set_ne e] at hj
    exact h.seat j sj hj
theorem LastI.fin (h : LastI seats calls) {i : Nat} {se : OSeat} (hs : seats[i]? = some se) (hta : se.task.isSome = true) (f : Cal → Cal) (f1 : ∀ c, (f c).th = c.th) (f2 : ∀ c, (f c).beg = c.beg) (f3 : ∀ c, 0 ≤ (f c).en) : LastI (seats.set i ⟨none, se.last⟩) (calls.modify se.last.toNat f) := by
  have hcall : ∀ (cj : Nat) (c : Cal), (calls.modify se.last.toNat f)[cj]? = some c → ∃ c0, calls[cj]? = some c0 ∧ c.th = c0.th ∧ c.beg = c0.beg ∧ (se.last.toNat ≠ cj → c = c0) ∧ (se.last.toNat = cj → c = f c0) := by
    intro cj c hc
    rw [List.getElem?_modify] at hc
    cases h0 : calls[cj]? with
    | none => rw [h0] at hc; cases hc
    | some c0 =>
      rw [h0] at hc
      by_cases e : se.last.toNat = cj
      · simp only [Option.map_eq_map, Option.map_some, Option.some.injEq, if_pos e] at hc
        exact ⟨c0, rfl, by rw [← hc]; exact f1 c0, by rw [← hc]; exact f2 c0, fun x => absurd e x, fun _ => hc.symm⟩
      · simp only [Option.map_eq_map, Option.map_some, Option.some.injEq, if_neg e] at hc
        exact ⟨c0, rfl, by rw [← hc], by rw [← hc], fun _ => hc.symm, fun x => absurd x e⟩
  rcases h.seat i se hs with ⟨_, h2, _⟩ | ⟨ci, ca, h1, h2, h3, h4, h5⟩
  · rw [h2] at hta; cases hta
  have hci : se.last.toNat = ci := by rw [h1]; simp
  refine ⟨fun j sj hj => ?_, fun cj c hc => ?_⟩
  · by_cases e : i = j
    · subst e
      rw [List.getElem?_set_self (List.getElem?_eq_some_iff.1 hs).1] at hj
      cases hj
      refine .inr ⟨ci, f ca, h1, ?_, (f1 ca).trans h3, ?_, fun cj c' hlt hc => ?_⟩
      · rw [List.getElem?_modify, h2]; simp [hci]
      · have := f3 ca
        show false = _
        simp; omega
      · obtain ⟨c0, q1, q2, _, _⟩ := hcall cj c' hc
        rw [q2]
        exact h5 cj c0 hlt q1
    · rw [List.getElem?_set_ne e] at hj
      rcases h.seat j sj hj with ⟨k1, k2, k3⟩ | ⟨cj, cb, k1, k2, k3, k4, k5⟩
      · refine .inl ⟨k1, k2, fun ck c hc => ?_⟩
        obtain ⟨c0, q1, q2, _, _⟩ := hcall ck c hc
        rw [q2]
        exact k3 ck c0 q1
      · have hne : ci ≠ cj := fun x => by subst x; rw [h2] at k2; cases k2; rw [h3] at k3; omega
        refine .inr ⟨cj, cb, k1, ?_, k3, k4, fun ck c hlt hc => ?_⟩
        · rw [List.getElem?_modify, k2]; simp [hci, hne]
        · obtain ⟨c0, q1, q2, _, _⟩ := hcall ck c hc
          rw [q2]
          exact k5 ck c0 hlt q1
  · obtain ⟨c0, q1, q2, q3, _⟩ := hcall cj c hc
    rw [q2, q3, List.length_set]
    exact h.call cj c0 q1
theorem LastI.begin (h : LastI seats calls) {i : Nat} {se : OSeat} (hs : seats[i]? = some se) (t : Tk) (x : Cal) (hx : x.th = (i : Int)) (he : x.en = -1) (hb : 0 ≤ x.beg) : LastI (seats.set i ⟨some t, calls.length⟩) (calls ++ [x]) := by
  have hil := (List.getElem?_eq_some_iff.1 hs).1
  refine ⟨fun j sj hj => ?_, fun cj c hc => ?_⟩
  · by_cases e : i = j
    · subst e
      rw [List.getElem?_set_self hil] at hj
      cases hj
      refine .inr ⟨calls.length, x, rfl, by simp, hx, by rw [he]; rfl, fun cj c hlt hc => ?_⟩
      have := (List.getElem?_eq_some_iff.1 hc).1
      simp at this
      omega
    · rw [List.getElem?_set_ne e] at hj
      rcases h.seat j sj hj with ⟨k1, k2, k3⟩ | ⟨cj, cb, k1, k2, k3, k4, k5⟩
      · refine .inl ⟨k1, k2, fun ck c hc => ?_⟩
        rcases Nat.lt_or_ge ck calls.length with hl | hl
        · rw [List.getElem?_append_left hl] at hc
          exact k3 ck c hc
        · rw [List.getElem?_append_right hl] at hc
          have : c = x := by
            cases hk : ck - calls.length with
            | zero => rw [hk] at hc; simpa using hc.symm
            | succ k => rw [hk] at hc; simp at hc
          rw [this, hx]
          omega
      · refine .inr ⟨cj, cb, k1, ?_, k3, k4, fun ck c hlt hc => ?_⟩
        · rw [List.getElem?_append_left (List.getElem?_eq_some_iff.1 k2).1]; exact k2
        · rcases Nat.lt_or_ge ck calls.length with hl | hl
          · rw [List.getElem?_append_left hl] at hc
            exact k5 ck c hlt hc
          · rw [List.getElem?_append_right hl] at hc
            have : c = x := by
              cases hk : ck - calls.length with
              | zero => rw [hk] at hc; simpa using hc.symm
              | succ k => rw [hk] at hc; simp at hc
            rw [this, hx]
            omega
  · rw [List.length_set]
    rcases Nat.lt_or_ge cj calls.length with hl | hl
    · rw [List.getElem?_append_left hl] at hc
      exact h.call cj c hc
    · rw [List.getElem?_append_right hl] at hc
      have : c = x := by
        cases hk : cj - calls.length with
        | zero => rw [hk] at hc; simpa using hc.symm
        | succ k => rw [hk] at hc; simp at hc
      rw [this, hx]
      omega
end
theorem OS.LastI_move {size : Int} {o : OS} (h : LastI o.seats o.calls) (mv : Mv) : LastI (o.move size mv).1.seats (o.move size mv).1.calls := by
  rcases OS.move_cases size o mv with ⟨_, e⟩ | ⟨_, e⟩ | ⟨_, i, se, t, hi, hs, hta, hop, e⟩ | ⟨_, i, se, t, hi, hs, hta, hop, hmk, e⟩
  · rw [e]; exact h
  · rw [e]; exact h
  · rw [e]
    have hb : se.task.isSome = true := by rw [hta]; rfl
    cases t with
    | look a => exact h.fin hs hb _ (fun _ => rfl) (fun _ => rfl) (fun _ => by simp)
    | bump a s ld =>
      cases ld with
      | false => exact h.keep hs hb _
      | true =>
        by_cases hx : o.at a = s
        · simp only [OS.step, if_pos hx]
          exact h.fin hs hb _ (fun _ => rfl) (fun _ => rfl) (fun _ => by simp)
        · simp only [OS.step, if_neg hx]
          exact h.keep hs hb _
  · rw [e]
    exact h.begin hs t _ hi rfl (by simp)
theorem lastI_of (l : List Int) (n : Nat) (ms : List Mv) : LastI (osOf l n ms).seats (osOf l n ms).calls := by
  have : ∀ (ms : List Mv) (o : OS), LastI o.seats o.calls → LastI (o.goes l.length ms).seats (o.goes l.length ms).calls := by
    intro ms
    induction ms with
    | nil => intro o h; exact h
    | cons m ms ih => intro o h; exact ih _ (OS.LastI_move h m)
  exact this ms _ (LastI.init l n)

theorem lastAux_none {calls : List Cal} {t : Int} : ∀ k, k ≤ calls.length → (∀ (cj : Nat) (c : Cal), cj < k → calls[cj]? = some c → c.th ≠ t) → lastAux calls t k = (Cal.none, false)
  | 0, _, _ => rfl
  | k + 1, hk, h => by
    have hc : calls[k]? = some calls[k] := List.getElem?_eq_getElem (by omega)
    have hg : calls.getD k Cal.zero = calls[k] := by rw [List.getD_eq_getElem?_getD, hc]; rfl
    show (if (calls.getD k Cal.zero).th = t then _ else _) = _
    rw [hg, if_neg (h k _ (by omega) hc)]
    exact lastAux_none k (by omega) (fun cj c hlt hc => h cj c (by omega) hc)
theorem lastAux_some {calls : List Cal} {t : Int} {ci : Nat} {c : Cal} (hc : calls[ci]? = some c) (ht : c.th = t) : ∀ k, ci < k → k ≤ calls.length → (∀ (cj : Nat) (c' : Cal), ci < cj → cj < k → calls[cj]? = some c' → c'.th ≠ t) → lastAux calls t k = (c, decide (c.en < 0))
  | k + 1, hlt, hk, h => by
    have hcc : calls[k]? = some calls[k] := List.getElem?_eq_getElem (by omega)
    have hg : calls.getD k Cal.zero = calls[k] := by rw [List.getD_eq_getElem?_getD, hcc]; rfl
    show (if (calls.getD k Cal.zero).th = t then _ else _) = _
    rw [hg]
    by_cases e : ci = k
    · subst e
      rw [hc] at hcc
      cases hcc
      rw [if_pos ht]
    · rw [if_neg (h k _ (by omega) (by omega) hcc)]
      exact lastAux_some hc ht k (by omega) (by omega) (fun cj c' h1 h2 h3 => h cj c' h1 (by omega) h3)

def OS.busyB (o : OS) (t : Int) : Bool := if t < 0 then false else match o.seats[t.toNat]? with
  | some se => se.task.isSome
  | none => false
def OS.callR (o : OS) (t : Int) : Cal × Bool := if t < 0 then (Cal.zero, false) else match o.seats[t.toNat]? with
  | some se => if se.last < 0 then (Cal.zero, false) else (o.calls.getD se.last.toNat default, true)
  | none => (Cal.zero, false)
theorem PM.busy_os {size : Int} (p : PM (ownK size)) (t : Int) : p.busyB t = p.os.busyB t := by
  unfold PM.busyB OS.busyB
  split
  · rfl
  · show _ = match (p.seats.map fun se => (⟨se.task, se.last⟩ : OSeat))[t.toNat]? with | some se => se.task.isSome | none => false
    rw [List.getElem?_map]
    cases p.seats[t.toNat]? <;> rfl
theorem PM.call_os {size : Int} (p : PM (ownK size)) (t : Int) : p.callR t = p.os.callR t := by
  unfold PM.callR OS.callR
  split
  · rfl
  · show _ = match (p.seats.map fun se => (⟨se.task, se.last⟩ : OSeat))[t.toNat]? with | some se => if se.last < 0 then (Cal.zero, false) else (p.calls.getD se.last.toNat default, true) | none => (Cal.zero, false)
    rw [List.getElem?_map]
    cases p.seats[t.toNat]? <;> rfl
/-- what the law asks of a thread -/
theorem asks_ok {o : OS} (h : LastI o.seats o.calls) (t : Int) : o.busyB t = (lastR o.calls t).2 ∧ (o.callR t).2 = decide (0 ≤ (lastR o.calls t).1.beg) ∧ ((o.callR t).2 = true → (o.callR t).1 = (lastR o.calls t).1) ∧ ((o.callR t).2 = false → (o.callR t).1 = Cal.zero) := by
  have hout : (t < 0 ∨ (o.seats.length : Int) ≤ t) → lastR o.calls t = (Cal.none, false) := fun hx => lastAux_none _ (Nat.le_refl _) (fun cj c _ hc => by have := h.call cj c hc; omega)
  unfold OS.busyB OS.callR
  by_cases h0 : t < 0
  · rw [if_pos h0, if_pos h0, hout (.inl h0)]
    exact ⟨rfl, rfl, (fun x => by cases x), fun _ => rfl⟩
  · rw [if_neg h0, if_neg h0]
    obtain ⟨i, rfl⟩ : ∃ i : Nat, t = (i : Int) := ⟨t.toNat, by omega⟩
    rw [Int.toNat_natCast]
    cases hse : o.seats[i]? with
    | none =>
      have hge := List.getElem?_eq_none_iff.1 hse
      rw [hout (.inr (by omega))]
      exact ⟨rfl, rfl, (fun x => by cases x), fun _ => rfl⟩
    | some se =>
      rcases h.seat i se hse with ⟨h1, h2, h3⟩ | ⟨ci, c, h1, h2, h3, h4, h5⟩
      · have hl : lastR o.calls (i : Int) = (Cal.none, false) := lastAux_none _ (Nat.le_refl _) (fun cj c _ hc => h3 cj c hc)
        rw [hl]
        simp only [h1, h2]
        exact ⟨rfl, rfl, (fun x => by cases x), fun _ => rfl⟩
      · have hlt := (List.getElem?_eq_some_iff.1 h2).1
        have hl : lastR o.calls (i : Int) = (c, decide (c.en < 0)) := lastAux_some h2 h3 _ hlt (Nat.le_refl _) (fun cj c' hlt2 _ hc => h5 cj c' hlt2 hc)
        rw [hl]
        have hb := (h.call ci c h2).2.2
        have hnl : ¬ (ci : Int) < 0 := by omega
        have hg : o.calls.getD ci default = c := by rw [List.getD_eq_getElem?_getD, h2]; rfl
        simp only [h1, if_neg hnl, Int.toNat_natCast, hg]
        exact ⟨h4, by simp [hb], fun _ => trivial, fun x => by cases x⟩
end Go
namespace Go.Proofs.Ytbhbpfpggfcpgaa
open Go.ChangeShapes Go.WideShapes Go.ChangeAt Go.RowKit Go.Shelf

def codeCells : Array Value := (ownCode.flatMap Ins.cells).toArray
def entsCells : Array Value := (ownEnts.flatMap Ent.cells).toArray
set_option maxRecDepth 100000 in
set_option maxHeartbeats 1000000 in
theorem rOwn_any (w : World) : Calls Try.prog 33 #[] w fun e w' =>
    e = .returned (.tuple #[.slice (some ⟨w.heap.size, 0, none⟩) 13 13, .slice (some ⟨w.heap.size + 1, 0, none⟩) 2 2]) ∧ w' = (w.alloc (.cells codeCells 143)).alloc (.cells entsCells 145) := by
  go_enter Try.func33, Try.ntmps33
  go_wp2
  exact bodyPost_ret (v := .tuple #[.slice (some ⟨w.heap.size, 0, none⟩) 13 13, .slice (some ⟨w.heap.size + 1, 0, none⟩) 2 2]) (by simp [results, Try.results33]) rfl ⟨rfl, rfl⟩
end Go.Proofs.Ytbhbpfpggfcpgaa
namespace Go.Proofs.Ytbhbpfpggfcpgaa
open Go.ChangeShapes Go.WideShapes Go.ChangeAt Go.RowKit Go.Shelf
section
variable {w w' : World} {base mb : Nat} {m m' : RM} {v : RMV}
/-- the fresh thread -/
def RT.new : RT := ⟨false, 0, 0, List.replicate 48 0, .slice none 0 0, .slice none 0 0, -1, .slice none 0 0, .slice none 0 0, List.replicate 600 0, .slice none 0 0, .slice none 0 0⟩
theorem RT.new_ok : RT.new.ok := ⟨List.length_replicate, List.length_replicate⟩
theorem app_labels (h : RMAt w base mb m v) {u : Value} {a : Int} (hr : w'.RowV base 3 1 u (m.labels.length + 1) (ints m.labels ++ [.int .i64 a])) (ho : RowOut w w' (v.row 2) u m.labels.length 1) :
    ∃ v', RMAt (w'.setCell ⟨mb, 9, none⟩ u) base mb { m with labels := m.labels ++ [a] } v' ∧ Only (v.own mb) w (w'.setCell ⟨mb, 9, none⟩ u) ∧ (∀ k, v'.own mb k → v.own mb k ∨ w.heap.size ≤ k) ∧ v'.row = growRow 2 u v.row := by
  refine h.app0 (i := 2) (by omega) ?_ ho rfl ?_ ?_ h.tok
  · show w'.RowV base 3 1 u (m.labels ++ [a]).length (ints (m.labels ++ [a]))
    rw [List.length_append, show ints (m.labels ++ [a]) = ints m.labels ++ [.int .i64 a] by simp [ints]]
    exact hr
  · intro j hj hne
    match j, hj with
    | 2, _ => exact absurd rfl hne
    | 0, _ | 1, _ | 3, _ | 4, _ | 5, _ | 6, _ | 7, _ | 8, _ | 9, _ | 10, _ => rfl
  · intro j hj hne
    match j, hj with
    | 2, _ => exact absurd rfl hne
    | 0, _ | 1, _ | 3, _ | 4, _ | 5, _ | 6, _ | 7, _ | 8, _ | 9, _ | 10, _ => rfl
theorem app_T (h : RMAt w base mb m v) {u : Value} {a : RT} (hok : a.ok) (hr : w'.RowV base 149 658 u (m.T.length + 1) (rts m.T ++ a.cells)) (ho : RowOut w w' (v.row 4) u m.T.length 1) :
    ∃ v', RMAt (w'.setCell ⟨mb, 11, none⟩ u) base mb { m with T := m.T ++ [a] } v' ∧ Only (v.own mb) w (w'.setCell ⟨mb, 11, none⟩ u) ∧ (∀ k, v'.own mb k → v.own mb k ∨ w.heap.size ≤ k) ∧ v'.row = growRow 4 u v.row := by
  refine h.app0 (i := 4) (by omega) ?_ ho rfl ?_ ?_ ?_
  · show w'.RowV base 149 658 u (m.T ++ [a]).length (rts (m.T ++ [a]))
    rw [List.length_append, show rts (m.T ++ [a]) = rts m.T ++ a.cells by simp [rts]]
    exact hr
  · intro j hj hne
    match j, hj with
    | 4, _ => exact absurd rfl hne
    | 0, _ | 1, _ | 2, _ | 3, _ | 5, _ | 6, _ | 7, _ | 8, _ | 9, _ | 10, _ => rfl
  · intro j hj hne
    match j, hj with
    | 4, _ => exact absurd rfl hne
    | 0, _ | 1, _ | 2, _ | 3, _ | 5, _ | 6, _ | 7, _ | 8, _ | 9, _ | 10, _ => rfl
  · intro t ht
    rcases List.mem_append.1 (show t ∈ m.T ++ [a] from ht) with h1 | h1
    · exact h.tok t h1
    · rw [List.mem_singleton.1 h1]; exact hok
/-- a label is set -/
theorem putLabel (h : RMAt w base mb m v) {g i : Nat} (hg : (v.row 2).rowBlock = some g) (hi : i < m.labels.length) (x : Int) : RMAt (w.setCell ⟨g, i, none⟩ (.int .i64 x)) base mb { m with labels := m.labels.set i x } v := by
  refine h.putRow (i := 2) (by omega) hg _ (by show _ < m.labels.length * 1; omega) _ rfl ?_ ?_ ?_ h.tok
  · intro k hk
    match k, hk with
    | 2, _ => simp [RM.len]
    | 0, _ | 1, _ | 3, _ | 4, _ | 5, _ | 6, _ | 7, _ | 8, _ | 9, _ | 10, _ => rfl
  · show ints (m.labels.set i x) = (ints m.labels).set i (.int .i64 x)
    simp [ints, List.map_set]
  · intro k hk hne
    match k, hk with
    | 2, _ => exact absurd rfl hne
    | 0, _ | 1, _ | 3, _ | 4, _ | 5, _ | 6, _ | 7, _ | 8, _ | 9, _ | 10, _ => rfl
def RM.fresh (n : Nat) (l : List Int) : RM := ⟨n, 0, 0, 0, 0, 0, 0, l, ownCode, [], ownEnts, [], [], [], [], 0, [], [], []⟩
def freshV (mb : Nat) (vw vc ve : Value) : RMV := ⟨fun i => if i = 0 then vw else if i = 1 then vc else if i = 3 then ve else .slice none 0 0, fun b => if b = mb then 0 else if vw.rowBlock = some b then 1 else if vc.rowBlock = some b then 2 else if ve.rowBlock = some b then 4 else 0⟩
theorem RMAt.fresh {n : Nat} {l : List Int} {vw vc ve : Value} (hb : w.heap[mb]? = some (.cells ((RM.fresh n l).blk (freshV mb vw vc ve).row) 88 (0, 0))) (hge : base ≤ mb)
    (hw : w.RowV base 27 1 vw l.length (u64s l)) (hc : w.RowV base 143 6 vc ownCode.length (ownCode.flatMap Ins.cells)) (he : w.RowV base 145 3 ve ownEnts.length (ownEnts.flatMap Ent.cells))
    (a1 : vw.rowBlock ≠ some mb) (a2 : vc.rowBlock ≠ some mb) (a3 : ve.rowBlock ≠ some mb) (a4 : ∀ k, vc.rowBlock = some k → vw.rowBlock ≠ some k) (a5 : ∀ k, ve.rowBlock = some k → vw.rowBlock ≠ some k ∧ vc.rowBlock ≠ some k) :
    RMAt w base mb (RM.fresh n l) (freshV mb vw vc ve) := by
  refine ⟨hb, hge, fun i hi => ?_, by simp [freshV], fun i hi k hk => ?_, fun t ht => by cases ht⟩
  · match i, hi with
    | 0, _ => exact hw
    | 1, _ => exact hc
    | 3, _ => exact he
    | 2, _ | 4, _ | 5, _ | 6, _ | 7, _ | 8, _ | 9, _ | 10, _ => exact World.RowV_none _ _ _ _ _
  · match i, hi with
    | 0, _ =>
      have hk' : vw.rowBlock = some k := hk
      have : k ≠ mb := fun e => a1 (e ▸ hk')
      simp [freshV, this, hk']
    | 1, _ =>
      have hk' : vc.rowBlock = some k := hk
      have : k ≠ mb := fun e => a2 (e ▸ hk')
      simp [freshV, this, hk', a4 k hk']
    | 3, _ =>
      have hk' : ve.rowBlock = some k := hk
      have : k ≠ mb := fun e => a3 (e ▸ hk')
      simp [freshV, this, hk', (a5 k hk').1, (a5 k hk').2]
    | 2, _ | 4, _ | 5, _ | 6, _ | 7, _ | 8, _ | 9, _ | 10, _ => cases hk
end
end Go.Proofs.Ytbhbpfpggfcpgaa
namespace Go.Proofs.Ytbhbpfpggfcpgaa
open Go.ChangeShapes Go.WideShapes Go.ChangeAt Go.RowKit Go.Shelf

def newM (n : Nat) (l lb : List Int) (ts : List RT) : RM := { RM.fresh n l with labels := lb, T := ts }
def cfgBlk (n : Nat) : Array Value := #[.int .i64 (n : Int), .int .i64 0, .int .i64 0, .int .i64 0, .int .i64 0, .int .i64 0, .int .i64 0]
structure NewC (w0 w : World) (vc ve : Value) (n : Nat) (l : List Int) (mb : Nat) (lb : List Int) (ts : List RT) (v : RMV) (wr : World) : Prop where
  at' : RMAt wr w0.heap.size mb (newM n l lb ts) v
  only : Only (fun _ => False) w wr
  cfg : wr.heap[w.heap.size]? = some (.cells (cfgBlk n) 82 (0, 0))
  mb' : w.heap.size < mb
  rn : ∀ i, i < 11 → i ≠ 1 → i ≠ 3 → ∀ k, (v.row i).rowBlock = some k → w.heap.size < k
  r1 : v.row 1 = vc
  r3 : v.row 3 = ve
def NewI (w0 w : World) (vc ve : Value) (n : Nat) (l : List Int) (mb : Nat) (lb : List Int) (ts : List RT) (wr : World) : Prop := ∃ v, NewC w0 w vc ve n l mb lb ts v wr
section
variable {w0 w wr w' : World} {vc ve : Value} {n mb : Nat} {l lb : List Int} {ts : List RT} {v : RMV}
theorem NewC.r2 (h : NewC w0 w vc ve n l mb lb ts v wr) : ∀ k, (v.row 2).rowBlock = some k → w.heap.size < k := h.rn 2 (by omega) (by omega) (by omega)
theorem NewC.r4 (h : NewC w0 w vc ve n l mb lb ts v wr) : ∀ k, (v.row 4).rowBlock = some k → w.heap.size < k := h.rn 4 (by omega) (by omega) (by omega)
theorem NewC.keep (h : NewC w0 w vc ve n l mb lb ts v wr) (ho : Only (fun _ => False) wr w') : NewC w0 w vc ve n l mb lb ts v w' :=
  ⟨h.at'.only ho (fun _ _ x => x), h.only.trans ho (fun _ x => x.elim), (ho.block _ (Array.getElem?_eq_some_iff.1 h.cfg).1 (fun x => x)).trans h.cfg, h.mb', h.rn, h.r1, h.r3⟩
theorem NewC.lab (h : NewC w0 w vc ve n l mb lb ts v wr) {u : Value} {a : Int} (hr : w'.RowV w0.heap.size 3 1 u (lb.length + 1) (ints lb ++ [.int .i64 a])) (ho : RowOut wr w' (v.row 2) u lb.length 1) :
    ∃ v', NewC w0 w vc ve n l mb (lb ++ [a]) ts v' (w'.setCell ⟨mb, 9, none⟩ u) ∧ Only (v.own mb) wr (w'.setCell ⟨mb, 9, none⟩ u) ∧ ∀ k, v'.own mb k → v.own mb k ∨ wr.heap.size ≤ k := by
  obtain ⟨v', a1, a2, a3, a4⟩ := app_labels (m := newM n l lb ts) h.at' hr ho
  have o2 : Only (fun k => w.heap.size < k) wr (w'.setCell ⟨mb, 9, none⟩ u) := (Only.out ho h.r2).set (.inl h.mb') u
  have hl := (Array.getElem?_eq_some_iff.1 h.cfg).1
  refine ⟨v', ⟨a1, h.only.trans o2 (fun k hk => .inr (Nat.le_of_lt hk)), (o2.block _ hl (Nat.lt_irrefl _)).trans h.cfg, h.mb', fun i hi n1 n3 k hk => ?_, by rw [a4]; exact h.r1, by rw [a4]; exact h.r3⟩, a2, a3⟩
  rw [a4] at hk
  by_cases e : i = 2
  · subst e
    rcases ho.news (show u.rowBlock = some k from hk) with h1 | h1
    · exact h.r2 k h1
    · omega
  · unfold growRow at hk
    rw [if_neg e] at hk
    exact h.rn i hi n1 n3 k hk
theorem NewC.thr (h : NewC w0 w vc ve n l mb lb ts v wr) {u : Value} {a : RT} (hok : a.ok) {k : Nat} (hk : ts.length = k) (hr : w'.RowV w0.heap.size 149 658 u (k + 1) (rts ts ++ a.cells)) (ho : RowOut wr w' (v.row 4) u k 1) :
    NewI w0 w vc ve n l mb lb (ts ++ [a]) (w'.setCell ⟨mb, 11, none⟩ u) := by
  subst hk
  obtain ⟨v', a1, a2, a3, a4⟩ := app_T (m := newM n l lb ts) h.at' hok hr ho
  have o2 : Only (fun k => w.heap.size < k) wr (w'.setCell ⟨mb, 11, none⟩ u) := (Only.out ho h.r4).set (.inl h.mb') u
  have hl := (Array.getElem?_eq_some_iff.1 h.cfg).1
  refine ⟨v', a1, h.only.trans o2 (fun k hk => .inr (Nat.le_of_lt hk)), (o2.block _ hl (Nat.lt_irrefl _)).trans h.cfg, h.mb', fun i hi n1 n3 k hk => ?_, by rw [a4]; exact h.r1, by rw [a4]; exact h.r3⟩
  rw [a4] at hk
  by_cases e : i = 4
  · subst e
    rcases ho.news (show u.rowBlock = some k from hk) with h1 | h1
    · exact h.r4 k h1
    · omega
  · unfold growRow at hk
    rw [if_neg e] at hk
    exact h.rn i hi n1 n3 k hk
theorem NewC.put (h : NewC w0 w vc ve n l mb lb ts v wr) {g i : Nat} (hg : (v.row 2).rowBlock = some g) (hi : i < lb.length) (x : Int) : NewC w0 w vc ve n l mb (lb.set i x) ts v (wr.setCell ⟨g, i, none⟩ (.int .i64 x)) := by
  have o2 : Only (fun k => w.heap.size < k) wr (wr.setCell ⟨g, i, none⟩ (.int .i64 x)) := (Only.refl _ wr).set (.inl (h.r2 g hg)) _
  have hl := (Array.getElem?_eq_some_iff.1 h.cfg).1
  exact ⟨putLabel (m := newM n l lb ts) h.at' hg hi x, h.only.trans o2 (fun k hk => .inr (Nat.le_of_lt hk)), (o2.block _ hl (Nat.lt_irrefl _)).trans h.cfg, h.mb', h.rn, h.r1, h.r3⟩
theorem NewI.keep (h : NewI w0 w vc ve n l mb lb ts wr) (ho : Only (fun _ => False) wr w') : NewI w0 w vc ve n l mb lb ts w' := h.imp fun _ h => h.keep ho
end

theorem infoIntR : (Try.prog.info? 3).map (fun i => (i.zero, i.size, i.bytes)) = some (some (.int .i64 0), 1, 8) := by kernel_rfl
/-- the labels after some instructions -/
def padTo (lb : List Int) (a : Nat) : List Int := lb ++ List.replicate (a + 1 - lb.length) 0
def labAt : Nat → List Int
  | 0 => []
  | k + 1 => match ownCode[k]? with
    | some x => if x.kd = 10 then (padTo (labAt k) x.a.toNat).set x.a.toNat k else labAt k
    | none => labAt k
theorem labAt_end : labAt 13 = ownLabels := rfl
theorem labAt_len : ∀ k, k ≤ 13 → (labAt k).length ≤ 4 := by decide
theorem padTo_len (lb : List Int) (a : Nat) : (padTo lb a).length = max lb.length (a + 1) := by unfold padTo; rw [List.length_append, List.length_replicate]; omega
theorem padTo_full {lb : List Int} {a : Nat} (h : a < lb.length) : padTo lb a = lb := by unfold padTo; rw [show a + 1 - lb.length = 0 by omega]; simp
theorem padTo_snoc {lb : List Int} {a : Nat} (h : lb.length ≤ a) : padTo (lb ++ [0]) a = padTo lb a := by
  unfold padTo
  rw [List.length_append, List.append_assoc]
  congr 1
  rw [show a + 1 - lb.length = (a + 1 - (lb.length + [(0 : Int)].length)) + 1 by simp; omega]
  rw [List.replicate_succ]
  rfl
/-- while labels are put behind -/
structure LabC (w0 w : World) (vc ve : Value) (n : Nat) (l : List Int) (mb : Nat) (lb0 : List Int) (an bi : Nat) (ib : Obj) (lb : List Int) (v : RMV) (wx : World) : Prop where
  at' : NewC w0 w vc ve n l mb lb [] v wx
  pad : padTo lb an = padTo lb0 an
  le : lb.length ≤ 4
  blk : wx.heap[bi]? = some ib
  no : ¬ v.own mb bi
theorem LabC.keep {w0 w wr w' : World} {vc ve : Value} {n mb an bi : Nat} {l lb0 lb : List Int} {ib : Obj} {v : RMV} (h : LabC w0 w vc ve n l mb lb0 an bi ib lb v wr) (ho : Only (fun _ => False) wr w') : LabC w0 w vc ve n l mb lb0 an bi ib lb v w' :=
  ⟨h.at'.keep ho, h.pad, h.le, (ho.block _ (Array.getElem?_eq_some_iff.1 h.blk).1 (fun x => x)).trans h.blk, h.no⟩
theorem LabC.lab {w0 w wr w' : World} {vc ve : Value} {n mb an bi : Nat} {l lb0 lb : List Int} {ib : Obj} {v : RMV} (h : LabC w0 w vc ve n l mb lb0 an bi ib lb v wr) (hlt : lb.length ≤ an) (han : an ≤ 3) {u : Value}
    (hr : w'.RowV w0.heap.size 3 1 u (lb.length + 1) (ints lb ++ [.int .i64 0])) (ho : RowOut wr w' (v.row 2) u lb.length 1) : ∃ v', LabC w0 w vc ve n l mb lb0 an bi ib (lb ++ [0]) v' (w'.setCell ⟨mb, 9, none⟩ u) := by
  obtain ⟨v', b1, b2, b3⟩ := h.at'.lab hr ho
  have hl := (Array.getElem?_eq_some_iff.1 h.blk).1
  refine ⟨v', b1, (padTo_snoc hlt).trans h.pad, by rw [List.length_append]; simp; omega, (b2.block _ hl h.no).trans h.blk, fun e => ?_⟩
  rcases b3 bi e with h1 | h1
  · exact h.no h1
  · omega
theorem labAt_yes {k an : Nat} {b c d tgt : Int} (hx : ownCode[k]? = some ⟨10, (an : Int), b, c, d, tgt⟩) : labAt (k + 1) = (padTo (labAt k) an).set an k := by
  simp [labAt, hx]
theorem labAt_no {k : Nat} {kd a b c d tgt : Int} (hx : ownCode[k]? = some ⟨kd, a, b, c, d, tgt⟩) (hk : kd ≠ 10) : labAt (k + 1) = labAt k := by
  simp [labAt, hx, hk]
theorem code_facts : ∀ k, k < 13 → ∃ x, ownCode[k]? = some x ∧ 0 ≤ x.a ∧ x.a ≤ 3 := by
  intro k hk
  refine ⟨ownCode[k]'hk, List.getElem?_eq_getElem hk, ?_⟩
  revert k
  decide
end Go.Proofs.Ytbhbpfpggfcpgaa
