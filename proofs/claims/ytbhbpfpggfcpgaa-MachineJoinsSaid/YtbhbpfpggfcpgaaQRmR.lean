/-
The document's machine and the machine of own calls: a step (ORel). Plain.
reclaimref03: one move (move), case by case, with the machine's own calls.
-/
import Derived.Test.YtbhbpfpggfcpgaaQRmS
namespace Go
open Go.RowKit
open Go.Proofs.Ytbhbpfpggfcpgaa

def SeatR (se : OSeat) (t : RT) : Prop := match se.task with
  | none => t.busy = false
  | some (.look _) => t.busy = true ∧ t.call = se.last ∧ t.pos = 0
  | some (.bump a _ false) => t.busy = true ∧ t.call = se.last ∧ (t.pos = 5 ∨ (t.pos = 8 ∧ t.r.getD 0 0 = a))
  | some (.bump a s true) => t.busy = true ∧ t.call = se.last ∧ t.pos = 10 ∧ t.r.getD 0 0 = a ∧ t.r.getD 1 0 = s ∧ t.r.getD 2 0 = IntKind.u64.wrap (s + 1)
structure ORel (o : OS) (m : RM) : Prop where
  words : m.words = o.words
  trace : m.trace = o.log
  calls : m.calls = o.calls
  moves : m.moves = (o.moves : Int)
  code : m.code = ownCode
  labels : m.labels = ownLabels
  ents : m.ents = ownEnts
  shifts : m.shifts = []
  len : m.T.length = o.seats.length
  seat : ∀ (i : Nat) (se : OSeat) (t : RT), o.seats[i]? = some se → m.T[i]? = some t → SeatR se t
  tok : ∀ t ∈ m.T, t.ok

theorem put_get {t : RT} (h : t.ok) (a b : Nat) (x : Int) (ha : a < 48) : (t.put a x).r.getD b 0 = if a = b then x else t.r.getD b 0 := by
  have hl : a < t.r.length := by rw [h.1]; exact ha
  unfold RT.put
  simp only [List.getD_eq_getElem?_getD, List.getElem?_set]
  by_cases e : a = b
  · subst e; simp [hl]
  · simp [e]

theorem ORel.turn {o : OS} {m : RM} (R : ORel o m) {i : Nat} {se' : OSeat} {t' : RT} (hok : t'.ok) (hse : SeatR se' t') (ws : List Int) (tr : List Acc) (cs : List Cal) {o' : OS}
    (h1 : o'.words = ws) (h2 : o'.log = tr) (h3 : o'.calls = cs) (h4 : o'.moves = o.moves + 1) (h5 : o'.seats = o.seats.set i se') : ORel o' { m.at i t' ws tr cs with moves := m.moves + 1 } := by
  refine ⟨h1.symm, h2.symm, h3.symm, ?_, R.code, R.labels, R.ents, R.shifts, ?_, ?_, ok_set R.tok i hok⟩
  · show m.moves + 1 = _
    rw [R.moves, h4]; push_cast; rfl
  · show (m.T.set i t').length = _
    rw [h5, List.length_set, List.length_set]; exact R.len
  · intro j sj tj hs ht
    have ht' : (m.T.set i t')[j]? = some tj := ht
    rw [h5] at hs
    by_cases hij : i = j
    · subst hij
      have l1 : i < o.seats.length := by have := (List.getElem?_eq_some_iff.1 hs).1; simpa using this
      rw [List.getElem?_set_self l1] at hs
      rw [List.getElem?_set_self (by rw [R.len]; exact l1)] at ht'
      cases hs
      cases ht'
      exact hse
    · rw [List.getElem?_set_ne hij] at hs ht'
      exact R.seat j sj tj hs ht'

theorem u64_small {x : Int} (h0 : 0 ≤ x) (h1 : x ≤ 1000000) : IntKind.u64.wrap x = x := IntWalk.u64_in x (by omega)

set_option maxRecDepth 10000 in
theorem orel_step {o : OS} {m : RM} (R : ORel o m) {i ci : Nat} {se : OSeat} {tk : Tk} {c : Cal} (hs : o.seats[i]? = some se) (hta : se.task = some tk) (hl : se.last = (ci : Int)) (hc : o.calls[ci]? = some c) (harg : c.arg = tk.addr)
    (had : 0 ≤ tk.addr ∧ tk.addr < (o.words.length : Int)) (hwl : o.words.length ≤ 8192) (htr : o.log.length ≤ 70000) : ∃ m' n, RRun i false m m' n ∧ ORel (o.step i se tk) { m' with moves := m'.moves + 1 } := by
  have hil := (List.getElem?_eq_some_iff.1 hs).1
  have hi : i < m.T.length := by rw [R.len]; exact hil
  have hT : m.T[i]? = some m.T[i] := List.getElem?_eq_getElem hi
  have hS := R.seat i se _ hs hT
  have hok := R.tok _ (List.getElem_mem hi)
  have hself := at_self hi
  generalize m.T[i] = t at *
  have hcl : ci < o.calls.length := (List.getElem?_eq_some_iff.1 hc).1
  have hcd : m.code.length ≤ 1000 := by rw [R.code]; decide
  have hw2 : o.words.length ≤ 1000000 := by omega
  have ht2 : ∀ a : Acc, (o.log ++ [a]).length ≤ 1000000 := fun a => by simp; omega
  have ht1 : o.log.length ≤ 1000000 := by omega
  have hCo : ∀ p : Nat, m.code[p]? = ownCode[p]? := fun p => by rw [R.code]
  have hlbl : m.labels[3]? = some 7 := by rw [R.labels]; rfl
  have hlst : se.last.toNat = ci := by omega
  have hmv := R.moves
  rw [R.words, R.trace, R.calls] at hself
  obtain ⟨an, han⟩ : ∃ an : Nat, tk.addr = (an : Int) := ⟨tk.addr.toNat, by omega⟩
  have hal : an < o.words.length := by omega
  obtain ⟨x, hx⟩ : ∃ x, o.words[an]? = some x := ⟨_, List.getElem?_eq_getElem hal⟩
  have hat : o.at tk.addr = x := by unfold OS.at; rw [han, Int.toNat_natCast, List.getD_eq_getElem?_getD, hx]; rfl
  have hwr : IntKind.u64.wrap c.arg = (an : Int) := by rw [harg, han]; exact u64_small (by omega) (by omega)
  unfold SeatR at hS
  rw [hta] at hS
  rw [← hself]
  cases tk with
  | look a =>
    obtain ⟨s1, s2, s3⟩ := hS
    have hr0 : ((t.next).next.put 0 (IntKind.u64.wrap c.arg)).r.getD 0 0 = (an : Int) := by rw [put_get (t := t.next.next) hok 0 0 _ (by omega), hwr]; simp
    have r5 := RRun.idle' (b := true) (m := m) (i := i) (t := (RT.idle (((((((t).next).next.put 0 (IntKind.u64.wrap c.arg))).next.put 1 x)).next).next)) (ws := o.words) (tr := (o.log ++ [⟨m.moves, i, 1, an, 0, 0, x⟩])) (cs := ((o.calls.modify ci fun c => { c with pt := m.moves }).modify ci (Cal.done m.moves (wrap64 ((((((((t).next).next.put 0 (IntKind.u64.wrap c.arg))).next.put 1 x)).next).r.getD 1 0))))) hi rfl
    have r4 := RRun.loc' (b := true) (m := m) (i := i) (t := ((((((t).next).next.put 0 (IntKind.u64.wrap c.arg))).next.put 1 x)).next) (ws := o.words) (tr := (o.log ++ [⟨m.moves, i, 1, an, 0, 0, x⟩])) (cs := (o.calls.modify ci fun c => { c with pt := m.moves })) (p := 4) (ins := ⟨14, 1, 0, 0, 2, 0⟩) hi s1 (by show t.pos + 1 + 1 + 1 + 1 = _; rw [s3]; rfl) (by rw [hCo]; rfl) (by decide) hw2 (ht2 _) hcd (lc_fin (m := m) (i := i) (t := ((((((t).next).next.put 0 (IntKind.u64.wrap c.arg))).next.put 1 x)).next) (ws := o.words) (tr := (o.log ++ [⟨m.moves, i, 1, an, 0, 0, x⟩])) (cs := (o.calls.modify ci fun c => { c with pt := m.moves })) hi (by simpa using hcl) (s2.trans hl) 1 (by omega) _ _ _) r5
    have r3 := RRun.loc' (b := true) (m := m) (i := i) (t := (((((t).next).next.put 0 (IntKind.u64.wrap c.arg))).next.put 1 x)) (ws := o.words) (tr := (o.log ++ [⟨m.moves, i, 1, an, 0, 0, x⟩])) (cs := o.calls) (p := 3) (ins := ⟨27, 0, 0, 0, 0, 0⟩) hi s1 (by show t.pos + 1 + 1 + 1 = _; rw [s3]; rfl) (by rw [hCo]; rfl) (by decide) hw2 (ht2 _) hcd (lc_point (m := m) (i := i) (t := (((((t).next).next.put 0 (IntKind.u64.wrap c.arg))).next.put 1 x)) (ws := o.words) (tr := (o.log ++ [⟨m.moves, i, 1, an, 0, 0, x⟩])) (cs := o.calls) hi (by simpa using hcl) (s2.trans hl) _ _ _ _ _) r4
    have r2 := RRun.acc' (m := m) (i := i) (t := (((t).next).next.put 0 (IntKind.u64.wrap c.arg))) (ws := o.words) (tr := o.log) (cs := o.calls) (p := 2) (ins := ⟨1, 1, 0, 0, 0, 0⟩) hi s1 (by show t.pos + 1 + 1 = _; rw [s3]; rfl) (by rw [hCo]; rfl) (by decide) hw2 ht1 hcd (ac_load (m := m) (i := i) (t := (((t).next).next.put 0 (IntKind.u64.wrap c.arg))) (ws := o.words) (tr := o.log) (cs := o.calls) hi 1 (by omega) 0 (by omega) hx (hr0) _ _) r3
    have r1 := RRun.loc' (b := false) (m := m) (i := i) (t := (t).next) (ws := o.words) (tr := o.log) (cs := o.calls) (p := 1) (ins := ⟨48, 0, 0, 0, 0, 0⟩) hi s1 (by show t.pos + 1 = _; rw [s3]; rfl) (by rw [hCo]; rfl) (by decide) hw2 ht1 hcd (lc_arg (m := m) (i := i) (t := (t).next) (ws := o.words) (tr := o.log) (cs := o.calls) hi hc (s2.trans hl) 0 (by omega) _ _ _ _) r2
    have r0 := RRun.loc' (b := false) (m := m) (i := i) (t := t) (ws := o.words) (tr := o.log) (cs := o.calls) (p := 0) (ins := ⟨10, 1, 0, 0, 0, 0⟩) hi s1 (by show t.pos = _; rw [s3]; rfl) (by rw [hCo]; rfl) (by decide) hw2 ht1 hcd (lc_label (m := m) (i := i) (t := t) (ws := o.words) (tr := o.log) (cs := o.calls) hi _ _ _ _ _) r1
    refine ⟨_, _, r0, R.turn (se' := ⟨none, se.last⟩) ?_ ?_ _ _ _ rfl ?_ ?_ rfl rfl⟩
    · exact RT.put_ok (t := (((t.next).next.put 0 (IntKind.u64.wrap c.arg))).next) (RT.put_ok (t := t.next.next) hok 0 _) 1 x
    · rfl
    · show o.log ++ [⟨o.moves, i, 1, a, 0, 0, o.at a⟩] = _
      rw [show a = (an : Int) from han, show o.at (an : Int) = x by rw [← hat]; congr 1; exact han.symm, hmv]
    · show o.ends se.last (o.at a) = _
      have hga : (((((((t).next).next.put 0 (IntKind.u64.wrap c.arg))).next.put 1 x)).next).r.getD 1 0 = x := by
        rw [show ∀ (q : RT), q.next.r = q.r from fun _ => rfl, put_get (t := RT.next (RT.put 0 (IntKind.u64.wrap c.arg) t.next.next)) (RT.put_ok (t := t.next.next) hok 0 _) 1 1 _ (by omega)]; simp
      unfold OS.ends
      rw [hlst, List.modify_modify_eq, hmv, show o.at a = x from hat, hga]
      rfl
  | bump a s ld =>
    cases ld with
    | false =>
      obtain ⟨s1, s2, s3⟩ := hS
      rcases s3 with s3 | ⟨s3, s4⟩
      · have hr0 : (((t.next).next.put 0 (IntKind.u64.wrap c.arg)).next).r.getD 0 0 = (an : Int) := by
          show ((t.next.next).put 0 (IntKind.u64.wrap c.arg)).r.getD 0 0 = _
          rw [put_get (t := t.next.next) hok 0 0 _ (by omega), hwr]; simp
        have r5 := RRun.stop' (m := m) (i := i) (p := 10) (ins := ⟨3, 1, 0, 0, 2, 3⟩) (t := ((((((((t).next).next.put 0 (IntKind.u64.wrap c.arg))).next).next.put 1 x)).next.put 2 (IntKind.u64.wrap ((((((((t).next).next.put 0 (IntKind.u64.wrap c.arg))).next).next.put 1 x)).r.getD 1 0 + IntKind.u64.wrap 1)))) (ws := o.words) (tr := (o.log ++ [⟨m.moves, i, 1, an, 0, 0, x⟩])) (cs := o.calls) hi s1 (by show t.pos + 1 + 1 + 1 + 1 + 1 = _; rw [s3]; rfl) (by rw [hCo]; rfl) (by decide)
        have r4 := RRun.loc' (b := true) (m := m) (i := i) (t := ((((((t).next).next.put 0 (IntKind.u64.wrap c.arg))).next).next.put 1 x)) (ws := o.words) (tr := (o.log ++ [⟨m.moves, i, 1, an, 0, 0, x⟩])) (cs := o.calls) (p := 9) (ins := ⟨17, 2, 1, 0, 1, 0⟩) hi s1 (by show t.pos + 1 + 1 + 1 + 1 = _; rw [s3]; rfl) (by rw [hCo]; rfl) (by decide) hw2 (ht2 _) hcd (lc_add (m := m) (i := i) (t := ((((((t).next).next.put 0 (IntKind.u64.wrap c.arg))).next).next.put 1 x)) (ws := o.words) (tr := (o.log ++ [⟨m.moves, i, 1, an, 0, 0, x⟩])) (cs := o.calls) hi 2 (by omega) 1 (by omega) _ _ _) r5
        have r3 := RRun.acc' (m := m) (i := i) (t := ((((t).next).next.put 0 (IntKind.u64.wrap c.arg))).next) (ws := o.words) (tr := o.log) (cs := o.calls) (p := 8) (ins := ⟨1, 1, 0, 0, 0, 0⟩) hi s1 (by show t.pos + 1 + 1 + 1 = _; rw [s3]; rfl) (by rw [hCo]; rfl) (by decide) hw2 ht1 hcd (ac_load (m := m) (i := i) (t := ((((t).next).next.put 0 (IntKind.u64.wrap c.arg))).next) (ws := o.words) (tr := o.log) (cs := o.calls) hi 1 (by omega) 0 (by omega) hx (hr0) _ _) r4
        have r2 := RRun.loc' (b := false) (m := m) (i := i) (t := (((t).next).next.put 0 (IntKind.u64.wrap c.arg))) (ws := o.words) (tr := o.log) (cs := o.calls) (p := 7) (ins := ⟨10, 3, 0, 0, 0, 0⟩) hi s1 (by show t.pos + 1 + 1 = _; rw [s3]; rfl) (by rw [hCo]; rfl) (by decide) hw2 ht1 hcd (lc_label (m := m) (i := i) (t := (((t).next).next.put 0 (IntKind.u64.wrap c.arg))) (ws := o.words) (tr := o.log) (cs := o.calls) hi _ _ _ _ _) r3
        have r1 := RRun.loc' (b := false) (m := m) (i := i) (t := (t).next) (ws := o.words) (tr := o.log) (cs := o.calls) (p := 6) (ins := ⟨48, 0, 0, 0, 0, 0⟩) hi s1 (by show t.pos + 1 = _; rw [s3]; rfl) (by rw [hCo]; rfl) (by decide) hw2 ht1 hcd (lc_arg (m := m) (i := i) (t := (t).next) (ws := o.words) (tr := o.log) (cs := o.calls) hi hc (s2.trans hl) 0 (by omega) _ _ _ _) r2
        have r0 := RRun.loc' (b := false) (m := m) (i := i) (t := t) (ws := o.words) (tr := o.log) (cs := o.calls) (p := 5) (ins := ⟨10, 2, 0, 0, 0, 0⟩) hi s1 (by show t.pos = _; rw [s3]; rfl) (by rw [hCo]; rfl) (by decide) hw2 ht1 hcd (lc_label (m := m) (i := i) (t := t) (ws := o.words) (tr := o.log) (cs := o.calls) hi _ _ _ _ _) r1
        refine ⟨_, _, r0, R.turn (se' := ⟨some (.bump a x true), se.last⟩) ?_ ?_ _ _ _ rfl ?_ rfl rfl ?_⟩
        · exact RT.put_ok (t := RT.next (RT.put 1 x (RT.next (((t.next).next.put 0 (IntKind.u64.wrap c.arg)).next)))) (RT.put_ok (t := RT.next (((t.next).next.put 0 (IntKind.u64.wrap c.arg)).next)) (RT.put_ok (t := t.next.next) hok 0 _) 1 x) 2 _
        · refine ⟨s1, s2, by show t.pos + 1 + 1 + 1 + 1 + 1 = _; rw [s3]; rfl, ?_, ?_, ?_⟩
          · rw [put_get (t := RT.next (RT.put 1 x (RT.next (((t.next).next.put 0 (IntKind.u64.wrap c.arg)).next)))) (RT.put_ok (t := RT.next (((t.next).next.put 0 (IntKind.u64.wrap c.arg)).next)) (RT.put_ok (t := t.next.next) hok 0 _) 1 x) 2 0 _ (by omega)]
            show (RT.put 1 x (RT.next (((t.next).next.put 0 (IntKind.u64.wrap c.arg)).next))).r.getD 0 0 = a
            rw [put_get (t := RT.next (((t.next).next.put 0 (IntKind.u64.wrap c.arg)).next)) (RT.put_ok (t := t.next.next) hok 0 _) 1 0 _ (by omega)]
            exact (show (((t.next).next.put 0 (IntKind.u64.wrap c.arg)).next).r.getD 0 0 = a from hr0.trans han.symm)
          · rw [put_get (t := RT.next (RT.put 1 x (RT.next (((t.next).next.put 0 (IntKind.u64.wrap c.arg)).next)))) (RT.put_ok (t := RT.next (((t.next).next.put 0 (IntKind.u64.wrap c.arg)).next)) (RT.put_ok (t := t.next.next) hok 0 _) 1 x) 2 1 _ (by omega)]
            show (RT.put 1 x (RT.next (((t.next).next.put 0 (IntKind.u64.wrap c.arg)).next))).r.getD 1 0 = x
            rw [put_get (t := RT.next (((t.next).next.put 0 (IntKind.u64.wrap c.arg)).next)) (RT.put_ok (t := t.next.next) hok 0 _) 1 1 _ (by omega)]; simp
          · rw [put_get (t := RT.next (RT.put 1 x (RT.next (((t.next).next.put 0 (IntKind.u64.wrap c.arg)).next)))) (RT.put_ok (t := RT.next (((t.next).next.put 0 (IntKind.u64.wrap c.arg)).next)) (RT.put_ok (t := t.next.next) hok 0 _) 1 x) 2 2 _ (by omega)]
            have : (RT.put 1 x (RT.next (((t.next).next.put 0 (IntKind.u64.wrap c.arg)).next))).r.getD 1 0 = x := by rw [put_get (t := RT.next (((t.next).next.put 0 (IntKind.u64.wrap c.arg)).next)) (RT.put_ok (t := t.next.next) hok 0 _) 1 1 _ (by omega)]; simp
            rw [this]; rfl
        · show o.log ++ [⟨o.moves, i, 1, a, 0, 0, o.at a⟩] = _
          rw [show a = (an : Int) from han, show o.at (an : Int) = x by rw [← hat]; congr 1; exact han.symm, hmv]
        · show o.seats.set i ⟨some (.bump a (o.at a) true), se.last⟩ = _
          rw [show o.at a = x from hat]
      · skip
        have r2 := RRun.stop' (m := m) (i := i) (p := 10) (ins := ⟨3, 1, 0, 0, 2, 3⟩) (t := ((((t).next.put 1 x)).next.put 2 (IntKind.u64.wrap ((((t).next.put 1 x)).r.getD 1 0 + IntKind.u64.wrap 1)))) (ws := o.words) (tr := (o.log ++ [⟨m.moves, i, 1, an, 0, 0, x⟩])) (cs := o.calls) hi s1 (by show t.pos + 1 + 1 = _; rw [s3]; rfl) (by rw [hCo]; rfl) (by decide)
        have r1 := RRun.loc' (b := true) (m := m) (i := i) (t := ((t).next.put 1 x)) (ws := o.words) (tr := (o.log ++ [⟨m.moves, i, 1, an, 0, 0, x⟩])) (cs := o.calls) (p := 9) (ins := ⟨17, 2, 1, 0, 1, 0⟩) hi s1 (by show t.pos + 1 = _; rw [s3]; rfl) (by rw [hCo]; rfl) (by decide) hw2 (ht2 _) hcd (lc_add (m := m) (i := i) (t := ((t).next.put 1 x)) (ws := o.words) (tr := (o.log ++ [⟨m.moves, i, 1, an, 0, 0, x⟩])) (cs := o.calls) hi 2 (by omega) 1 (by omega) _ _ _) r2
        have r0 := RRun.acc' (m := m) (i := i) (t := t) (ws := o.words) (tr := o.log) (cs := o.calls) (p := 8) (ins := ⟨1, 1, 0, 0, 0, 0⟩) hi s1 (by show t.pos = _; rw [s3]; rfl) (by rw [hCo]; rfl) (by decide) hw2 ht1 hcd (ac_load (m := m) (i := i) (t := t) (ws := o.words) (tr := o.log) (cs := o.calls) hi 1 (by omega) 0 (by omega) hx (s4.trans han) _ _) r1
        refine ⟨_, _, r0, R.turn (se' := ⟨some (.bump a x true), se.last⟩) ?_ ?_ _ _ _ rfl ?_ rfl rfl ?_⟩
        · exact RT.put_ok (t := RT.next (RT.put 1 x (RT.next t))) (RT.put_ok (t := RT.next t) (RT.next_ok hok) 1 x) 2 _
        · refine ⟨s1, s2, by show t.pos + 1 + 1 = _; rw [s3]; rfl, ?_, ?_, ?_⟩
          · rw [put_get (t := RT.next (RT.put 1 x (RT.next t))) (RT.put_ok (t := RT.next t) (RT.next_ok hok) 1 x) 2 0 _ (by omega)]
            show (RT.put 1 x (RT.next t)).r.getD 0 0 = a
            rw [put_get (t := RT.next t) (RT.next_ok hok) 1 0 _ (by omega)]
            exact s4
          · rw [put_get (t := RT.next (RT.put 1 x (RT.next t))) (RT.put_ok (t := RT.next t) (RT.next_ok hok) 1 x) 2 1 _ (by omega)]
            show (RT.put 1 x (RT.next t)).r.getD 1 0 = x
            rw [put_get (t := RT.next t) (RT.next_ok hok) 1 1 _ (by omega)]; simp
          · rw [put_get (t := RT.next (RT.put 1 x (RT.next t))) (RT.put_ok (t := RT.next t) (RT.next_ok hok) 1 x) 2 2 _ (by omega)]
            have : (RT.put 1 x (RT.next t)).r.getD 1 0 = x := by rw [put_get (t := RT.next t) (RT.next_ok hok) 1 1 _ (by omega)]; simp
            rw [this]; rfl
        · show o.log ++ [⟨o.moves, i, 1, a, 0, 0, o.at a⟩] = _
          rw [show a = (an : Int) from han, show o.at (an : Int) = x by rw [← hat]; congr 1; exact han.symm, hmv]
        · show o.seats.set i ⟨some (.bump a (o.at a) true), se.last⟩ = _
          rw [show o.at a = x from hat]
    | true =>
      obtain ⟨s1, s2, s3, s4, s5, s6⟩ := hS
      by_cases he : x = s
      · have hxs : o.words[an]? = some s := by rw [← he]; exact hx
        have r3 := RRun.idle' (b := true) (m := m) (i := i) (t := (RT.idle (((t).next).next).next)) (ws := (o.words.set an (IntKind.u64.wrap (s + 1)))) (tr := (o.log ++ [⟨m.moves, i, 3, an, s, IntKind.u64.wrap (s + 1), s⟩])) (cs := ((o.calls.modify ci fun c => { c with pt := m.moves }).modify ci (Cal.done m.moves (wrap64 ((((t).next).next).r.getD 1 0))))) hi rfl
        have r2 := RRun.loc' (b := true) (m := m) (i := i) (t := ((t).next).next) (ws := (o.words.set an (IntKind.u64.wrap (s + 1)))) (tr := (o.log ++ [⟨m.moves, i, 3, an, s, IntKind.u64.wrap (s + 1), s⟩])) (cs := (o.calls.modify ci fun c => { c with pt := m.moves })) (p := 12) (ins := ⟨14, 1, 0, 0, 2, 0⟩) hi s1 (by show t.pos + 1 + 1 = _; rw [s3]; rfl) (by rw [hCo]; rfl) (by decide) (by simpa using hw2) (ht2 _) hcd (lc_fin (m := m) (i := i) (t := ((t).next).next) (ws := (o.words.set an (IntKind.u64.wrap (s + 1)))) (tr := (o.log ++ [⟨m.moves, i, 3, an, s, IntKind.u64.wrap (s + 1), s⟩])) (cs := (o.calls.modify ci fun c => { c with pt := m.moves })) hi (by simpa using hcl) (s2.trans hl) 1 (by omega) _ _ _) r3
        have r1 := RRun.loc' (b := true) (m := m) (i := i) (t := (t).next) (ws := (o.words.set an (IntKind.u64.wrap (s + 1)))) (tr := (o.log ++ [⟨m.moves, i, 3, an, s, IntKind.u64.wrap (s + 1), s⟩])) (cs := o.calls) (p := 11) (ins := ⟨27, 0, 0, 0, 0, 0⟩) hi s1 (by show t.pos + 1 = _; rw [s3]; rfl) (by rw [hCo]; rfl) (by decide) (by simpa using hw2) (ht2 _) hcd (lc_point (m := m) (i := i) (t := (t).next) (ws := (o.words.set an (IntKind.u64.wrap (s + 1)))) (tr := (o.log ++ [⟨m.moves, i, 3, an, s, IntKind.u64.wrap (s + 1), s⟩])) (cs := o.calls) hi (by simpa using hcl) (s2.trans hl) _ _ _ _ _) r2
        have r0 := RRun.acc' (m := m) (i := i) (t := t) (ws := o.words) (tr := o.log) (cs := o.calls) (p := 10) (ins := ⟨3, 1, 0, 0, 2, 3⟩) hi s1 (by show t.pos = _; rw [s3]; rfl) (by rw [hCo]; rfl) (by decide) hw2 ht1 hcd (ac_yes (m := m) (i := i) (t := t) (ws := o.words) (tr := o.log) (cs := o.calls) hi 1 (by omega) 2 (by omega) 3 0 (by omega) (hxs) (s4.trans han) s5 s6) r1
        have hat2 : o.at a = s := (show o.at a = x from hat).trans he
        have ha2 : a = (an : Int) := han
        have hst : o.step i se (.bump a s true) = { o with moves := o.moves + 1, words := o.words.set a.toNat (IntKind.u64.wrap (s + 1)), log := o.log ++ [⟨o.moves, i, 3, a, s, IntKind.u64.wrap (s + 1), o.at a⟩], seats := o.seats.set i ⟨none, se.last⟩, calls := o.ends se.last s } := by
          simp only [OS.step, if_pos hat2]
        rw [hst]
        refine ⟨_, _, r0, R.turn (se' := ⟨none, se.last⟩) ?_ ?_ _ _ _ ?_ ?_ ?_ rfl rfl⟩
        · exact hok
        · rfl
        · show o.words.set a.toNat _ = _
          rw [ha2, Int.toNat_natCast]
        · show o.log ++ [⟨o.moves, i, 3, a, s, IntKind.u64.wrap (s + 1), o.at a⟩] = _
          rw [hat2, ha2, hmv]
        · show o.ends se.last s = _
          have hga : (((t).next).next).r.getD 1 0 = s := s5
          unfold OS.ends
          rw [hlst, List.modify_modify_eq, hmv, hga]
          rfl
      · skip
        have r2 := RRun.stop' (m := m) (i := i) (p := 8) (ins := ⟨1, 1, 0, 0, 0, 0⟩) (t := (((t).next.goto 7)).next) (ws := o.words) (tr := (o.log ++ [⟨m.moves, i, 3, an, s, IntKind.u64.wrap (s + 1), x⟩])) (cs := o.calls) hi s1 (by show 7 + 1 = _; skip; rfl) (by rw [hCo]; rfl) (by decide)
        have r1 := RRun.loc' (b := true) (m := m) (i := i) (t := ((t).next.goto 7)) (ws := o.words) (tr := (o.log ++ [⟨m.moves, i, 3, an, s, IntKind.u64.wrap (s + 1), x⟩])) (cs := o.calls) (p := 7) (ins := ⟨10, 3, 0, 0, 0, 0⟩) hi s1 (by show 7 = _; rfl) (by rw [hCo]; rfl) (by decide) hw2 (ht2 _) hcd (lc_label (m := m) (i := i) (t := ((t).next.goto 7)) (ws := o.words) (tr := (o.log ++ [⟨m.moves, i, 3, an, s, IntKind.u64.wrap (s + 1), x⟩])) (cs := o.calls) hi _ _ _ _ _) r2
        have r0 := RRun.acc' (m := m) (i := i) (t := t) (ws := o.words) (tr := o.log) (cs := o.calls) (p := 10) (ins := ⟨3, 1, 0, 0, 2, 3⟩) hi s1 (by show t.pos = _; rw [s3]; rfl) (by rw [hCo]; rfl) (by decide) hw2 ht1 hcd (ac_no (m := m) (i := i) (t := t) (ws := o.words) (tr := o.log) (cs := o.calls) hi 1 (by omega) 2 (by omega) 3 0 (by omega) hx (s4.trans han) s5 s6 he hlbl) r1
        have hat2 : o.at a ≠ s := fun e => he ((show o.at a = x from hat).symm.trans e)
        have ha2 : a = (an : Int) := han
        have hst : o.step i se (.bump a s true) = { o with moves := o.moves + 1, log := o.log ++ [⟨o.moves, i, 3, a, s, IntKind.u64.wrap (s + 1), o.at a⟩], seats := o.seats.set i ⟨some (.bump a s false), se.last⟩ } := by
          simp only [OS.step, if_neg hat2]
        rw [hst]
        refine ⟨_, _, r0, R.turn (se' := ⟨some (.bump a s false), se.last⟩) ?_ ?_ _ _ _ rfl ?_ rfl rfl rfl⟩
        · exact hok
        · exact ⟨s1, s2, .inr ⟨rfl, s4⟩⟩
        · show o.log ++ [⟨o.moves, i, 3, a, s, IntKind.u64.wrap (s + 1), o.at a⟩] = _
          rw [show o.at a = x from hat, ha2, hmv]
end Go
namespace Go.Proofs.Ytbhbpfpggfcpgaa
open Go.ChangeShapes Go.WideShapes Go.ChangeAt Go.RowKit Go.Shelf

set_option maxRecDepth 100000 in
set_option maxHeartbeats 4000000 in
theorem rmove_out {w : World} {base mb : Nat} {m : RM} {v : RMV} (H : RMAt w base mb m v) (mv : Mv) (hth : mv.th < 0 ∨ (m.T.length : Int) ≤ mv.th) :
    Calls Try.prog 62 #[.pointer (some ⟨mb, 0, none⟩), mv.v] w fun e w' => e = .returned (.bool false) ∧ Below w.heap.size w w' := by
  obtain ⟨mth, mop, marg, mdata⟩ := mv
  unfold Mv.v
  simp only at hth
  obtain ⟨oT, cT, e4, h1, h2⟩ := (H.rows 4 (by omega)).form
  change v.row 4 = .slice oT m.T.length cT at e4
  have b11 := H.b11
  rw [e4] at b11
  have lb := (H.lt mb (.inl rfl)).2
  have hb : decide (mth < 0) = true ∨ (decide (mth < 0) = false ∧ decide ((m.T.length : Int) ≤ mth) = true) := by
    by_cases h0 : mth < 0
    · exact .inl (by simpa using h0)
    · exact .inr ⟨by simpa using h0, by simp; omega⟩
  clear H e4 hth
  rcases hb with q | ⟨q, q2⟩
  all_goals
    go_enter Try.func62, Try.ntmps62
    go_wp2
    go_wp2
    refine wp_region_more_lit (by kernel_rfl) (by kernel_rfl) ?_
    repeat (first | go_big_quiet_skip | (go_big_quiet_want; go_big_quiet_op; first | go_big_quiet_on | (apply Exists.intro; refine ⟨fun _ => ?_, ?_⟩; (focus (fail)); go_big_quiet_on)))
    refine wpQuiet_nil ?_
    intro osq dq
    go_wp2
    go_ret
    exact ⟨rfl, (by repeat (first | exact Below.refl _ _ | apply Below.drew | apply Below.more1 | apply Below.alloc1))⟩

set_option maxRecDepth 100000 in
set_option maxHeartbeats 4000000 in
theorem rmove_idle {w : World} {base mb : Nat} {m : RM} {v : RMV} (H : RMAt w base mb m v) (mv : Mv) {i : Nat} (hth : mv.th = (i : Int)) (hi : i < m.T.length) (hop : mv.op = 0) (hbz : m.T[i].busy = false) :
    Calls Try.prog 62 #[.pointer (some ⟨mb, 0, none⟩), mv.v] w fun e w' => e = .returned (.bool false) ∧ Below w.heap.size w w' := by
  obtain ⟨mth, mop, marg, mdata⟩ := mv
  simp only at hth
  subst hth
  unfold Mv.v
  simp only at hop
  subst hop
  obtain ⟨g, cap, e4, h1, h1', h2, h3, h4, h5, h6, h7⟩ := H.thr hi
  have b11 := H.b11
  rw [e4] at b11
  have lb := (H.lt mb (.inl rfl)).2
  have t0 := h6 0 _ (by omega) (RT.c0 _)
  simp only [Nat.add_zero] at t0
  unfold maxLen at h1'
  rw [hbz] at t0
  have q1 : decide ((i : Int) < 0) = false := by simp
  have q2 : decide ((m.T.length : Int) ≤ (i : Int)) = false := by simp; omega
  have q2n : decide (m.T.length ≤ i) = false := by simp; omega
  clear H h4 h5 h6 e4
  go_enter Try.func62, Try.ntmps62
  go_wp2
  go_wp2
  refine wp_region_more_lit (by kernel_rfl) (by kernel_rfl) ?_
  repeat (first | go_big_quiet_skip | (go_big_quiet_want; go_big_quiet_op; first | go_big_quiet_on | (apply Exists.intro; refine ⟨fun _ => ?_, ?_⟩; (focus (fail)); go_big_quiet_on)))
  refine wpQuiet_nil ?_
  intro osq dq
  go_wp2
  go_wp2
  refine wp_region_more_lit (by kernel_rfl) (by kernel_rfl) ?_
  repeat (first | go_big_quiet_skip | (go_big_quiet_want; go_big_quiet_op; first | go_big_quiet_on | (apply Exists.intro; refine ⟨fun _ => ?_, ?_⟩; (focus (fail)); go_big_quiet_on)))
  refine wpQuiet_nil ?_
  intro osq dq
  go_wp2
  go_ret
  exact ⟨rfl, (by repeat (first | exact Below.refl _ _ | apply Below.drew | apply Below.more1 | apply Below.alloc1))⟩

set_option maxRecDepth 100000 in
set_option maxHeartbeats 4000000 in
theorem rmove_busy {w : World} {base mb : Nat} {m : RM} {v : RMV} (H : RMAt w base mb m v) (mv : Mv) {i : Nat} (hth : mv.th = (i : Int)) (hi : i < m.T.length) (hop : mv.op ≠ 0) (hbz : m.T[i].busy = true) :
    Calls Try.prog 62 #[.pointer (some ⟨mb, 0, none⟩), mv.v] w fun e w' => e = .returned (.bool false) ∧ Below w.heap.size w w' := by
  obtain ⟨mth, mop, marg, mdata⟩ := mv
  simp only at hth
  subst hth
  unfold Mv.v
  simp only at hop
  have q3 : (mop == 0) = false := by simpa using hop
  obtain ⟨g, cap, e4, h1, h1', h2, h3, h4, h5, h6, h7⟩ := H.thr hi
  have b11 := H.b11
  rw [e4] at b11
  have lb := (H.lt mb (.inl rfl)).2
  have t0 := h6 0 _ (by omega) (RT.c0 _)
  simp only [Nat.add_zero] at t0
  unfold maxLen at h1'
  rw [hbz] at t0
  have q1 : decide ((i : Int) < 0) = false := by simp
  have q2 : decide ((m.T.length : Int) ≤ (i : Int)) = false := by simp; omega
  have q2n : decide (m.T.length ≤ i) = false := by simp; omega
  clear H h4 h5 h6 e4
  go_enter Try.func62, Try.ntmps62
  go_wp2
  go_wp2
  refine wp_region_more_lit (by kernel_rfl) (by kernel_rfl) ?_
  repeat (first | go_big_quiet_skip | (go_big_quiet_want; go_big_quiet_op; first | go_big_quiet_on | (apply Exists.intro; refine ⟨fun _ => ?_, ?_⟩; (focus (fail)); go_big_quiet_on)))
  refine wpQuiet_nil ?_
  intro osq dq
  go_wp2
  go_wp2
  refine wp_region_more_lit (by kernel_rfl) (by kernel_rfl) ?_
  repeat (first | go_big_quiet_skip | (go_big_quiet_want; go_big_quiet_op; first | go_big_quiet_on | (apply Exists.intro; refine ⟨fun _ => ?_, ?_⟩; (focus (fail)); go_big_quiet_on)))
  refine wpQuiet_nil ?_
  intro osq dq
  go_wp2
  go_ret
  exact ⟨rfl, (by repeat (first | exact Below.refl _ _ | apply Below.drew | apply Below.more1 | apply Below.alloc1))⟩

set_option maxRecDepth 100000 in
set_option maxHeartbeats 4000000 in
theorem rmove_step {w : World} {base mb : Nat} {m : RM} {v : RMV} (H : RMAt w base mb m v) (mv : Mv) {i : Nat} (hth : mv.th = (i : Int)) (hi : i < m.T.length) (hop : mv.op = 0) (hbz : m.T[i].busy = true) {m' : RM} {n : Nat} (hr : RRun i false m m' n) :
    Calls Try.prog 62 #[.pointer (some ⟨mb, 0, none⟩), mv.v] w fun e w' => e = .returned (.bool true) ∧ ROut w base mb v m' w' := by
  obtain ⟨mth, mop, marg, mdata⟩ := mv
  simp only at hth
  subst hth
  unfold Mv.v
  simp only at hop
  subst hop
  have HS := Lib.hid (fun Wq (hq : Only (fun _ => False) w Wq) => step_ref (H.only hq (fun _ _ x => x)) hi hr)
  obtain ⟨g, cap, e4, h1, h1', h2, h3, h4, h5, h6, h7⟩ := H.thr hi
  have b11 := H.b11
  rw [e4] at b11
  have lb := (H.lt mb (.inl rfl)).2
  have t0 := h6 0 _ (by omega) (RT.c0 _)
  simp only [Nat.add_zero] at t0
  unfold maxLen at h1'
  rw [hbz] at t0
  have q1 : decide ((i : Int) < 0) = false := by simp
  have q2 : decide ((m.T.length : Int) ≤ (i : Int)) = false := by simp; omega
  have q2n : decide (m.T.length ≤ i) = false := by simp; omega
  clear H h4 h5 h6 e4
  go_enter Try.func62, Try.ntmps62
  go_wp2
  go_wp2
  refine wp_region_more_lit (by kernel_rfl) (by kernel_rfl) ?_
  repeat (first | go_big_quiet_skip | (go_big_quiet_want; go_big_quiet_op; first | go_big_quiet_on | (apply Exists.intro; refine ⟨fun _ => ?_, ?_⟩; (focus (fail)); go_big_quiet_on)))
  refine wpQuiet_nil ?_
  intro osq dq
  go_wp2
  go_wp2
  refine wp_region_more_lit (by kernel_rfl) (by kernel_rfl) ?_
  repeat (first | go_big_quiet_skip | (go_big_quiet_want; go_big_quiet_op; first | go_big_quiet_on | (apply Exists.intro; refine ⟨fun _ => ?_, ?_⟩; (focus (fail)); go_big_quiet_on)))
  refine wpQuiet_nil ?_
  intro osq dq
  go_wp2_with (go_at_call 71; refine (HS.out _ (by repeat (first | exact Only.refl _ _ | apply Only.alloc | apply Only.drew | apply Only.more))).mono ?_; rintro e w3 ⟨rfl, ho3⟩; have HO3 := Lib.hid ho3; clear ho3)
  go_ret
  exact ⟨rfl, ROut.pre (by repeat (first | exact Only.refl _ _ | apply Only.alloc | apply Only.drew | apply Only.more)) HO3.out⟩

set_option maxRecDepth 100000 in
set_option maxHeartbeats 4000000 in
theorem rmove_no {w : World} {base mb : Nat} {m : RM} {v : RMV} (H : RMAt w base mb m v) (mv : Mv) {i : Nat} (hth : mv.th = (i : Int)) (hi : i < m.T.length) (hop : mv.op ≠ 0) (hbz : m.T[i].busy = false) (hents : m.ents = ownEnts) (hno : (mv.op ≠ 1 ∧ mv.op ≠ 2) ∨ (decide (0 ≤ mv.arg) && decide (mv.arg < (m.words.length : Int))) = false) :
    Calls Try.prog 62 #[.pointer (some ⟨mb, 0, none⟩), mv.v] w fun e w' => e = .returned (.bool false) ∧ Below w.heap.size w w' := by
  obtain ⟨mth, mop, marg, mdata⟩ := mv
  simp only at hth
  subst hth
  unfold Mv.v
  simp only at hop hno
  have q3 : (mop == 0) = false := by simpa using hop
  obtain ⟨g, cap, e4, h1, h1', h2, h3, h4, h5, h6, h7⟩ := H.thr hi
  have b11 := H.b11
  rw [e4] at b11
  have lb := (H.lt mb (.inl rfl)).2
  have t0 := h6 0 _ (by omega) (RT.c0 _)
  simp only [Nat.add_zero] at t0
  unfold maxLen at h1'
  rw [hbz] at t0
  have q1 : decide ((i : Int) < 0) = false := by simp
  have q2 : decide ((m.T.length : Int) ≤ (i : Int)) = false := by simp; omega
  have q2n : decide (m.T.length ≤ i) = false := by simp; omega
  obtain ⟨ge, cape, ee, d1, d1', d2, d3, d4, d5, d6, d7⟩ := H.row (i := 3) (by omega) (show 0 < m.ents.length by rw [hents]; decide)
  change v.row 3 = .slice (some ⟨ge, 0, none⟩) m.ents.length cape at ee
  change m.ents.length ≤ cape at d1
  have d6' : ∀ (j : Nat) (u : Value), (m.ents.flatMap Ent.cells)[j]? = some u → w.cell? ⟨ge, j, none⟩ = some u := d6
  rw [hents] at d6'
  have x0 := d6' 0 _ rfl
  have x1 := d6' 1 _ rfl
  have x2 := d6' 2 _ rfl
  have x3 := d6' 3 _ rfl
  have x4 := d6' 4 _ rfl
  have x5 := d6' 5 _ rfl
  have b10 := H.b10
  rw [ee] at b10
  have hel : m.ents.length = 2 := by rw [hents]; rfl
  rw [hel] at b10 d1
  unfold maxLen at d1'
  have HMY := Lib.hid (fun Wq (hq : Only (fun _ => False) w Wq) => may_addr (H.only hq (fun _ _ x => x)) ⟨(i : Int), mop, marg, mdata⟩ rfl hi)
  unfold Mv.v at HMY
  have hcs : ((1 == mop) = false ∧ (2 == mop) = false) ∨ ((decide (0 ≤ marg) && decide (marg < (m.words.length : Int))) = false ∧ (((1 == mop) = true ∧ (2 == mop) = false) ∨ ((1 == mop) = false ∧ (2 == mop) = true))) := by
    by_cases h : mop = 1 ∨ mop = 2
    · rcases hno with ⟨a, b⟩ | hno
      · rcases h with h | h
        · exact absurd h a
        · exact absurd h b
      · refine .inr ⟨hno, ?_⟩
        rcases h with h | h
        · exact .inl (by subst h; decide)
        · exact .inr (by subst h; decide)
    · exact .inl ⟨by simp; exact fun e => h (.inl e.symm), by simp; exact fun e => h (.inr e.symm)⟩
  clear H h4 h5 h6 e4 d2 d4 d5 d6 d6' ee hno hents
  go_enter Try.func62, Try.ntmps62
  go_wp2
  go_wp2
  refine wp_region_more_lit (by kernel_rfl) (by kernel_rfl) ?_
  repeat (first | go_big_quiet_skip | (go_big_quiet_want; go_big_quiet_op; first | go_big_quiet_on | (apply Exists.intro; refine ⟨fun _ => ?_, ?_⟩; (focus (fail)); go_big_quiet_on)))
  refine wpQuiet_nil ?_
  intro osq dq
  go_wp2
  go_wp2
  refine wp_region_more_lit (by kernel_rfl) (by kernel_rfl) ?_
  repeat (first | go_big_quiet_skip | (go_big_quiet_want; go_big_quiet_op; first | go_big_quiet_on | (apply Exists.intro; refine ⟨fun _ => ?_, ?_⟩; (focus (fail)); go_big_quiet_on)))
  refine wpQuiet_nil ?_
  intro osq dq
  go_wp2
  go_loopg [48] 2 (fun gh s48 wr => ∃ k : Nat, k ≤ 2 ∧ 2 ≤ k + gh ∧ s48 = .int .i64 (k : Int) ∧ ∃ os d, wr = (w.alloc (.cells #[.int .i64 (i : Int), .int .i64 mop, .int .i64 marg, .int .i64 mdata] 34)).more os d)
  case atStart => exact ⟨0, by omega, by omega, by go_num, RowKit.Below.more (by repeat (first | exact Below.refl _ _ | apply Below.drew | apply Below.more1 | apply Below.alloc1))⟩
  case round =>
    obtain ⟨k, hk1, hk2, rfl, os, d, rfl⟩ := hrel
    rcases (by omega : k = 0 ∨ k = 1 ∨ k = 2) with rfl | rfl | rfl
    · rcases hcs with ⟨c1, c2⟩ | ⟨c1, ⟨c2, c3⟩ | ⟨c2, c3⟩⟩
      all_goals
        go_wp2_with (go_at_call 72; refine (HMY.out _ (by repeat (first | exact Only.refl _ _ | apply Only.alloc | apply Only.drew | apply Only.more))).mono ?_; rintro e w3 ⟨rfl, hb3⟩; rw [c1]; obtain ⟨os3, d3', rfl⟩ := hb3.more; clear hb3)
        go_roundg 1
        case measure => omega
        case rel => exact ⟨1, by omega, by omega, by go_num, RowKit.Below.more (by repeat (first | exact Below.refl _ _ | apply Below.drew | apply Below.more1 | apply Below.alloc1))⟩
    · rcases hcs with ⟨c1, c2⟩ | ⟨c1, ⟨c2, c3⟩ | ⟨c2, c3⟩⟩
      all_goals
        go_wp2_with (go_at_call 72; refine (HMY.out _ (by repeat (first | exact Only.refl _ _ | apply Only.alloc | apply Only.drew | apply Only.more))).mono ?_; rintro e w3 ⟨rfl, hb3⟩; rw [c1]; obtain ⟨os3, d3', rfl⟩ := hb3.more; clear hb3)
        go_roundg 0
        case measure => omega
        case rel => exact ⟨2, by omega, by omega, by go_num, RowKit.Below.more (by repeat (first | exact Below.refl _ _ | apply Below.drew | apply Below.more1 | apply Below.alloc1))⟩
    · go_wp2
      go_ret
      exact ⟨rfl, (by repeat (first | exact Below.refl _ _ | apply Below.drew | apply Below.more1 | apply Below.alloc1))⟩
end Go.Proofs.Ytbhbpfpggfcpgaa
