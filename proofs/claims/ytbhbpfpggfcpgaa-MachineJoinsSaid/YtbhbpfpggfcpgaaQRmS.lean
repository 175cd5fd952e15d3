/-
reclaimref03: a step of a thread (step), for any code whose instructions are among those that local and access are told for.
reclaimref03: whether a call may begin (may, for an address); a thread's registers are cleared.
How a later machine goes on from an earlier one (OS.Later). Plain.
The moves that did something, alone: the same run but for the moves' numbers (MachineIdle). Plain.
The document's machine with the machine's own calls goes as the machine of own calls (ORel). Plain.
-/
import Derived.Test.YtbhbpfpggfcpgaaQRmX
import Derived.Deep.MidRow
import Derived.Test.YtbhbpfpggfcpgaaQHis
namespace Go
open Go.RowKit
open Go.Proofs.Ytbhbpfpggfcpgaa

/-- an instruction without an access -/
inductive LocSt (i : Nat) : RM → Ins → RM → Prop
  | label (m : RM) (a b c d tgt : Int) : LocSt i m ⟨10, a, b, c, d, tgt⟩ (m.thr i RT.next)
  | arg (m : RM) (b c d tgt : Int) (hi : i < m.T.length) {ci : Nat} (hc : ci < m.calls.length) (hcall : m.T[i].call = (ci : Int)) (ra : Nat) (hra : ra < 48) : LocSt i m ⟨48, ra, b, c, d, tgt⟩ (m.thr i (RT.put ra (IntKind.u64.wrap m.calls[ci].arg) ∘ RT.next))
  | add (m : RM) (c d tgt : Int) (hi : i < m.T.length) (ra : Nat) (hra : ra < 48) (rb : Nat) (hrb : rb < 48) : LocSt i m ⟨17, ra, rb, c, d, tgt⟩ (m.thr i (RT.put ra (IntKind.u64.wrap (m.T[i].r.getD rb 0 + IntKind.u64.wrap d)) ∘ RT.next))
  | point (m : RM) (a b c d tgt : Int) (hi : i < m.T.length) {ci : Nat} (hc : ci < m.calls.length) (hcall : m.T[i].call = (ci : Int)) : LocSt i m ⟨27, a, b, c, d, tgt⟩ ((m.thr i RT.next).cal ci fun c => { c with pt := m.moves })
  | fin (m : RM) (b c tgt : Int) (hi : i < m.T.length) {ci : Nat} (hc : ci < m.calls.length) (hcall : m.T[i].call = (ci : Int)) (ra : Nat) (hra : ra < 48) : LocSt i m ⟨14, ra, b, c, 2, tgt⟩ (((m.thr i RT.next).cal ci (Cal.done m.moves (wrap64 (m.T[i].r.getD ra 0)))).thr i RT.idle)
/-- an access -/
inductive AccSt (i : Nat) : RM → Ins → RM → Prop
  | load (m : RM) (d tgt : Int) (hi : i < m.T.length) (ra : Nat) (hra : ra < 48) (rc : Nat) (hrc : rc < 48) {an : Nat} (han : an < m.words.length) (hr : m.T[i].r.getD rc 0 = (an : Int)) :
    AccSt i m ⟨1, ra, 0, rc, d, tgt⟩ { (m.thr i RT.next).thr i (RT.put ra m.words[an]) with trace := m.trace ++ [⟨m.moves, i, 1, an, 0, 0, m.words[an]⟩] }
  | yes (m : RM) (hi : i < m.T.length) (ra : Nat) (hra : ra < 48) (rd : Nat) (hrd : rd < 48) (tl : Nat) (rc : Nat) (hrc : rc < 48) {an : Nat} (han : an < m.words.length) (hr : m.T[i].r.getD rc 0 = (an : Int)) {ro rn : Int} (hro : m.T[i].r.getD ra 0 = ro) (hrn : m.T[i].r.getD rd 0 = rn) (heq : m.words[an] = ro) :
    AccSt i m ⟨3, ra, 0, rc, rd, tl⟩ { m.thr i RT.next with words := m.words.set an rn, trace := m.trace ++ [⟨m.moves, i, 3, an, ro, rn, ro⟩] }
  | no (m : RM) (hi : i < m.T.length) (ra : Nat) (hra : ra < 48) (rd : Nat) (hrd : rd < 48) (tl : Nat) (rc : Nat) (hrc : rc < 48) {an : Nat} (han : an < m.words.length) (hr : m.T[i].r.getD rc 0 = (an : Int)) {ro rn : Int} (hro : m.T[i].r.getD ra 0 = ro) (hrn : m.T[i].r.getD rd 0 = rn) (hne : m.words[an] ≠ ro) (htgt : tl < m.labels.length) :
    AccSt i m ⟨3, ra, 0, rc, rd, tl⟩ { (m.thr i RT.next).thr i (RT.goto m.labels[tl]) with trace := m.trace ++ [⟨m.moves, i, 3, an, ro, rn, m.words[an]⟩] }

/-- small enough -/
structure RM.Small (m : RM) : Prop where
  words : m.words.length ≤ 1000000
  trace : m.trace.length ≤ 1000000
  code : m.code.length ≤ 1000

/-- the instructions that a step makes: an access made? from here, to there, how many -/
inductive RRun (i : Nat) : Bool → RM → RM → Nat → Prop
  | idle (b : Bool) (m : RM) (hi : i < m.T.length) (hb : m.T[i].busy = false) : RRun i b m m 0
  | stop (m : RM) (hi : i < m.T.length) (hb : m.T[i].busy = true) {p : Nat} (hp : m.T[i].pos = (p : Int)) (hpl : p < m.code.length) (hk : m.code[p].kd ≤ 3) : RRun i true m m 0
  | acc {m m1 m2 : RM} {n : Nat} (hi : i < m.T.length) (hb : m.T[i].busy = true) {p : Nat} (hp : m.T[i].pos = (p : Int)) (hpl : p < m.code.length) (hk : m.code[p].kd ≤ 3) (hs : m.Small) (h1 : AccSt i m m.code[p] m1) (h2 : RRun i true m1 m2 n) : RRun i false m m2 (n + 1)
  | loc {b : Bool} {m m1 m2 : RM} {n : Nat} (hi : i < m.T.length) (hb : m.T[i].busy = true) {p : Nat} (hp : m.T[i].pos = (p : Int)) (hpl : p < m.code.length) (hk : 3 < m.code[p].kd) (hs : m.Small) (h1 : LocSt i m m.code[p] m1) (h2 : RRun i b m1 m2 n) : RRun i b m m2 (n + 1)
end Go
namespace Go.Proofs.Ytbhbpfpggfcpgaa
open Go.ChangeShapes Go.WideShapes Go.ChangeAt Go.RowKit Go.Shelf

theorem ROut.of_same {w w' : World} {base mb : Nat} {m' : RM} {v : RMV} (h : RMAt w' base mb m' v) (ho : Only (v.own mb) w w') : ROut w base mb v m' w' := ⟨v, h, ho, fun _ hk => .inl hk, fun _ _ => rfl⟩
theorem ROut.then {w wr w2 : World} {base mb : Nat} {m2 : RM} {v v1 : RMV} (hon : Only (v.own mb) w wr) (hnew : ∀ k, v1.own mb k → v.own mb k ∨ w.heap.size ≤ k) (hrow : ∀ j, j < 8 → v1.row j = v.row j) (k : ROut wr base mb v1 m2 w2) : ROut w base mb v m2 w2 := by
  obtain ⟨v2, k1, k2, k3, k4⟩ := k
  refine ⟨v2, k1, hon.trans k2 hnew, fun i hi => ?_, fun j hj => (k4 j hj).trans (hrow j hj)⟩
  rcases k3 i hi with h4 | h4
  · exact hnew i h4
  · have := hon.size; exact .inr (by omega)
theorem local_st {w : World} {base mb : Nat} {m m1 : RM} {v : RMV} {ins : Ins} (H : RMAt w base mb m v) {i : Nat} (hi : i < m.T.length) (hp : 0 ≤ m.T[i].pos ∧ m.T[i].pos ≤ 1000) (h : LocSt i m ins m1) :
    Calls Try.prog 77 #[.pointer (some ⟨mb, 0, none⟩), .int .i64 (i : Int), ins.v] w fun e w' => e = .returned (.tuple #[]) ∧ ROut w base mb v m1 w' := by
  cases h with
  | label a b c d tgt => exact (local_label H hi hp a b c d tgt).mono fun e w' ⟨h1, h2, h3⟩ => ⟨h1, ROut.of_same h2 h3⟩
  | arg b c d tgt hi hc hcall ra hra => exact (local_arg H hi hp b c d tgt hc hcall ra hra).mono fun e w' ⟨h1, h2, h3⟩ => ⟨h1, ROut.of_same h2 h3⟩
  | add c d tgt hi ra hra rb hrb => exact (local_add H hi hp c d tgt ra hra rb hrb).mono fun e w' ⟨h1, h2, h3⟩ => ⟨h1, ROut.of_same h2 h3⟩
  | point a b c d tgt hi hc hcall => exact (local_point H hi hp a b c d tgt hc hcall).mono fun e w' ⟨h1, h2, h3⟩ => ⟨h1, ROut.of_same h2 h3⟩
  | fin b c tgt hi hc hcall ra hra => exact (local_end H hi hp b c tgt hc hcall ra hra).mono fun e w' ⟨h1, h2, h3⟩ => ⟨h1, ROut.of_same h2 h3⟩
theorem access_st {w : World} {base mb : Nat} {m m1 : RM} {v : RMV} {ins : Ins} (H : RMAt w base mb m v) {i : Nat} (hi : i < m.T.length) (hp : 0 ≤ m.T[i].pos ∧ m.T[i].pos ≤ 1000) (hs : m.Small) (h : AccSt i m ins m1) :
    Calls Try.prog 76 #[.pointer (some ⟨mb, 0, none⟩), .int .i64 (i : Int), ins.v] w fun e w' => e = .returned (.tuple #[]) ∧ ROut w base mb v m1 w' := by
  cases h with
  | load d tgt hi ra hra rc hrc han hr => exact access_load H hi hp d tgt ra hra rc hrc han hr hs.words hs.trace
  | yes hi ra hra rd hrd tl rc hrc han hr hro hrn heq => exact access_yes H hi hp ra hra rd hrd tl rc hrc han hr hs.words hs.trace hro hrn heq
  | no hi ra hra rd hrd tl rc hrc han hr hro hrn hne htgt => exact access_no H hi hp ra hra rd hrd tl rc hrc han hr hs.words hs.trace hro hrn hne htgt

set_option maxRecDepth 100000 in
set_option maxHeartbeats 4000000 in
theorem step_ref {w : World} {base mb : Nat} {m m' : RM} {v : RMV} (H : RMAt w base mb m v) {i : Nat} (hi : i < m.T.length) {n : Nat} (hr : RRun i false m m' n) :
    Calls Try.prog 71 #[.pointer (some ⟨mb, 0, none⟩), .int .i64 (i : Int)] w fun e w' => e = .returned (.tuple #[]) ∧ ROut w base mb v m' w' := by
  obtain ⟨g, cap, e4, h1, h1', h2, h3, h4, h5, h6, h7⟩ := H.thr hi
  have b11 := H.b11
  rw [e4] at b11
  have lb := (H.lt mb (.inl rfl)).2
  have HH := Lib.hid H
  have HG := Lib.hid e4
  have HRR := Lib.hid hr
  unfold maxLen at h1'
  clear H h4 h5 h6 e4 hr
  go_enter Try.func71, Try.ntmps71
  go_wp2
  go_loopg [5] n (fun gh s5 wr => ∃ (b : Bool) (mc : RM), s5 = .bool b ∧ Hid (ROut w base mb v mc wr) ∧ Hid (RRun i b mc m' gh))
  case atStart => exact ⟨false, m, rfl, Lib.hid (ROut.post (ROut.refl HH.out) (Below.only0 (by repeat (first | exact Below.refl _ _ | apply Below.drew | apply Below.more1 | apply Below.alloc1 | (refine Below.setCell ?_ (by first | exact Nat.le_refl _ | (simp; done) | (simp; omega)) _))))), HRR⟩
  case round =>
    obtain ⟨b, mc, rfl, hO, hR⟩ := hrel
    obtain ⟨v1, hA, hon, hnew, hrow⟩ := hO.out
    have HOO := hO
    have HAA := Lib.hid hA
    have HRT := hR
    have er := hrow 4 (by omega)
    have lb1 := (hA.lt mb (.inl rfl)).2
    have lg1 := Nat.lt_of_lt_of_le h3 hon.size
    cases hR.out with
    | idle b mc hic hb =>
      obtain ⟨gT, capT, eT, c1, c1', c2, c3, c4, c5, c6, c7⟩ := hA.thr hic
      rw [eT, HG.out] at er
      simp only [Value.slice.injEq, Option.some.injEq, Addr.mk.injEq, and_true] at er
      obtain ⟨rfl, -, -⟩ := er
      have t0 := c6 0 _ (by omega) (RT.c0 _)
      rw [hb] at t0
      simp only [Nat.add_zero] at t0
      clear hA hon hnew hrow hO hR c4 c5 c6 eT
      go_wp2
      go_end0
      exact ⟨rfl, HOO.out.post (Below.only0 (by repeat (first | exact Below.refl _ _ | apply Below.drew | apply Below.more1 | apply Below.alloc1 | (refine Below.setCell ?_ (by first | exact Nat.le_refl _ | (simp; done) | (simp; omega)) _))))⟩
    | @stop _ hic hb p hp hpl hk =>
      obtain ⟨gT, capT, eT, c1, c1', c2, c3, c4, c5, c6, c7⟩ := hA.thr hic
      rw [eT, HG.out] at er
      simp only [Value.slice.injEq, Option.some.injEq, Addr.mk.injEq, and_true] at er
      obtain ⟨rfl, -, -⟩ := er
      have t0 := c6 0 _ (by omega) (RT.c0 _)
      rw [hb] at t0
      simp only [Nat.add_zero] at t0
      obtain ⟨gd, capd, ed, d1, d1', d2, d3, d4, d5, d6, d7⟩ := hA.row (i := 1) (by omega) (show 0 < m'.code.length by omega)
      change v1.row 1 = .slice (some ⟨gd, 0, none⟩) m'.code.length capd at ed
      change m'.code.length ≤ capd at d1
      have b8 := hA.b8
      rw [ed] at b8
      have dpos := c6 2 _ (by omega) (RT.c2 _)
      rw [hp] at dpos
      have i0 : wr.cell? ⟨gd, p * 6, none⟩ = some (.int .i64 m'.code[p].kd) := d6 (p * 6 + 0) _ (code_get m'.code p 0 hpl (by omega))
      have i1 : wr.cell? ⟨gd, p * 6 + 1, none⟩ = some (.int .i64 m'.code[p].a) := d6 (p * 6 + 1) _ (code_get m'.code p 1 hpl (by omega))
      have i2 : wr.cell? ⟨gd, p * 6 + 2, none⟩ = some (.int .i64 m'.code[p].b) := d6 (p * 6 + 2) _ (code_get m'.code p 2 hpl (by omega))
      have i3 : wr.cell? ⟨gd, p * 6 + 3, none⟩ = some (.int .i64 m'.code[p].c) := d6 (p * 6 + 3) _ (code_get m'.code p 3 hpl (by omega))
      have i4 : wr.cell? ⟨gd, p * 6 + 4, none⟩ = some (.int .i64 m'.code[p].d) := d6 (p * 6 + 4) _ (code_get m'.code p 4 hpl (by omega))
      have i5 : wr.cell? ⟨gd, p * 6 + 5, none⟩ = some (.int .i64 m'.code[p].tgt) := d6 (p * 6 + 5) _ (code_get m'.code p 5 hpl (by omega))
      obtain ⟨ins, hins⟩ : ∃ ins, m'.code[p] = ins := ⟨_, rfl⟩
      rw [hins] at i0 i1 i2 i3 i4 i5 hk
      unfold maxLen at d1'
      have e8 := fun q : LaterF (fun _ => False) wr => q.cell b8 lb1 (fun x => x)
      have epos := fun q : LaterF (fun _ => False) wr => q.cell dpos c3 (fun x => x)
      have j0 := fun q : LaterF (fun _ => False) wr => q.cell i0 d3 (fun x => x)
      have j1 := fun q : LaterF (fun _ => False) wr => q.cell i1 d3 (fun x => x)
      have j2 := fun q : LaterF (fun _ => False) wr => q.cell i2 d3 (fun x => x)
      have j3 := fun q : LaterF (fun _ => False) wr => q.cell i3 d3 (fun x => x)
      have j4 := fun q : LaterF (fun _ => False) wr => q.cell i4 d3 (fun x => x)
      have j5 := fun q : LaterF (fun _ => False) wr => q.cell i5 d3 (fun x => x)
      have hkd : decide (ins.kd ≤ 3) = true := by simpa using hk
      clear hA hon hnew hrow hO hR c4 c5 c6 eT d4 d5 d6 ed hp
      go_upto_region 3 with (fail)
      go_wp2
      refine wp_region_plan (fun wz => ∃ q : LaterF (fun _ => False) wr, wz = q.W) [10, 11] [0, 1, 2, 3, 4, 5, 6, 7, 8, 9] (.fork 10 [] (.tail 11) .none) oper0 (by kernel_rfl) (by kernel_rfl) (laterF_in (Only.refl _ _).drew) ?_
      simp only [wpPlan, List.map_cons, List.map_nil, List.getD_cons_zero, List.getD_cons_succ, List.drop_succ_cons, List.drop_zero]
      repeat (first | go_big_quiet_skip | (go_big_quiet_want; go_big_quiet_op; go_big_quiet_on))
      refine wpQuiet_nil ?_
      refine ⟨?_, trivial⟩
      go_wp2_with fail
      refine strict_on ?_
      refine ⟨?_, ?_⟩
      · exact laterF_in (by repeat (first | exact Only.refl _ _ | apply Only.alloc | apply Only.drew))
      repeat (first | go_big_quiet_skip | (go_big_quiet_want; go_big_quiet_op; go_big_quiet_on))
      refine wpQuiet_nil ?_
      go_wp2
      exact bodyPost_ret (v := .tuple #[]) (by simp [results, Try.results71]) rfl ⟨rfl, HOO.out.post (Below.only0 (by repeat (first | exact Below.refl _ _ | apply Below.drew | apply Below.more1 | apply Below.alloc1 | (refine Below.setCell ?_ (by first | exact Nat.le_refl _ | (simp; done) | (simp; omega)) _))))⟩
    | @acc _ m1 _ n1 hic hb p hp hpl hk hs hst hnx =>
      obtain ⟨gT, capT, eT, c1, c1', c2, c3, c4, c5, c6, c7⟩ := hA.thr hic
      rw [eT, HG.out] at er
      simp only [Value.slice.injEq, Option.some.injEq, Addr.mk.injEq, and_true] at er
      obtain ⟨rfl, -, -⟩ := er
      have t0 := c6 0 _ (by omega) (RT.c0 _)
      rw [hb] at t0
      simp only [Nat.add_zero] at t0
      obtain ⟨gd, capd, ed, d1, d1', d2, d3, d4, d5, d6, d7⟩ := hA.row (i := 1) (by omega) (show 0 < mc.code.length by omega)
      change v1.row 1 = .slice (some ⟨gd, 0, none⟩) mc.code.length capd at ed
      change mc.code.length ≤ capd at d1
      have b8 := hA.b8
      rw [ed] at b8
      have dpos := c6 2 _ (by omega) (RT.c2 _)
      rw [hp] at dpos
      have i0 : wr.cell? ⟨gd, p * 6, none⟩ = some (.int .i64 mc.code[p].kd) := d6 (p * 6 + 0) _ (code_get mc.code p 0 hpl (by omega))
      have i1 : wr.cell? ⟨gd, p * 6 + 1, none⟩ = some (.int .i64 mc.code[p].a) := d6 (p * 6 + 1) _ (code_get mc.code p 1 hpl (by omega))
      have i2 : wr.cell? ⟨gd, p * 6 + 2, none⟩ = some (.int .i64 mc.code[p].b) := d6 (p * 6 + 2) _ (code_get mc.code p 2 hpl (by omega))
      have i3 : wr.cell? ⟨gd, p * 6 + 3, none⟩ = some (.int .i64 mc.code[p].c) := d6 (p * 6 + 3) _ (code_get mc.code p 3 hpl (by omega))
      have i4 : wr.cell? ⟨gd, p * 6 + 4, none⟩ = some (.int .i64 mc.code[p].d) := d6 (p * 6 + 4) _ (code_get mc.code p 4 hpl (by omega))
      have i5 : wr.cell? ⟨gd, p * 6 + 5, none⟩ = some (.int .i64 mc.code[p].tgt) := d6 (p * 6 + 5) _ (code_get mc.code p 5 hpl (by omega))
      obtain ⟨ins, hins⟩ : ∃ ins, mc.code[p] = ins := ⟨_, rfl⟩
      rw [hins] at i0 i1 i2 i3 i4 i5 hk
      unfold maxLen at d1'
      have e8 := fun q : LaterF (fun _ => False) wr => q.cell b8 lb1 (fun x => x)
      have epos := fun q : LaterF (fun _ => False) wr => q.cell dpos c3 (fun x => x)
      have j0 := fun q : LaterF (fun _ => False) wr => q.cell i0 d3 (fun x => x)
      have j1 := fun q : LaterF (fun _ => False) wr => q.cell i1 d3 (fun x => x)
      have j2 := fun q : LaterF (fun _ => False) wr => q.cell i2 d3 (fun x => x)
      have j3 := fun q : LaterF (fun _ => False) wr => q.cell i3 d3 (fun x => x)
      have j4 := fun q : LaterF (fun _ => False) wr => q.cell i4 d3 (fun x => x)
      have j5 := fun q : LaterF (fun _ => False) wr => q.cell i5 d3 (fun x => x)
      rw [hins] at hst
      have HST := Lib.hid hst
      have HNX := Lib.hid hnx
      have hsc := hs.code
      have HPP := Lib.hid (show 0 ≤ mc.T[i].pos ∧ mc.T[i].pos ≤ 1000 by rw [hp]; omega)
      have HCA := Lib.hid (fun Wq (hq : Only (fun _ => False) wr Wq) => access_st (HAA.out.only hq (fun _ _ x => x)) hic HPP.out hs HST.out)
      unfold Ins.v at HCA
      have HTH := Lib.hid (fun w2 (k : ROut wr base mb v1 m1 w2) => ROut.then hon hnew hrow k)
      have hkd : decide (ins.kd ≤ 3) = true := by simp; omega
      clear hA hon hnew hrow hO hR c4 c5 c6 eT d4 d5 d6 ed hp hst hnx hs
      go_upto_region 3 with (fail)
      go_wp2
      refine wp_region_plan (fun wz => ∃ q : LaterF (fun _ => False) wr, wz = q.W) [10, 11] [0, 1, 2, 3, 4, 5, 6, 7, 8, 9] (.fork 10 [] (.tail 11) .none) oper0 (by kernel_rfl) (by kernel_rfl) (laterF_in (Only.refl _ _).drew) ?_
      simp only [wpPlan, List.map_cons, List.map_nil, List.getD_cons_zero, List.getD_cons_succ, List.drop_succ_cons, List.drop_zero]
      repeat (first | go_big_quiet_skip | (go_big_quiet_want; go_big_quiet_op; go_big_quiet_on))
      refine wpQuiet_nil ?_
      refine ⟨?_, trivial⟩
      go_wp2_with fail
      refine strict_on ?_
      refine ⟨?_, ?_⟩
      · exact laterF_in (by repeat (first | exact Only.refl _ _ | apply Only.alloc | apply Only.drew))
      repeat (first | go_big_quiet_skip | (go_big_quiet_want; go_big_quiet_op; go_big_quiet_on))
      refine wpQuiet_nil ?_
      go_wp2_with (go_at_call 76; refine (HCA.out _ (by repeat (first | exact Only.refl _ _ | apply Only.alloc | apply Only.drew | apply Only.more))).mono ?_; rintro e w3 ⟨rfl, ho3⟩; have HO3 := Lib.hid ho3; clear ho3)
      go_roundg n1
      case measure => omega
      case rel => exact ⟨true, m1, rfl, Lib.hid (HTH.out _ (ROut.pre (by repeat (first | exact Only.refl _ _ | apply Only.alloc | apply Only.drew | apply Only.more)) HO3.out)), HNX⟩
    | @loc _ _ m1 _ n1 hic hb p hp hpl hk hs hst hnx =>
      obtain ⟨gT, capT, eT, c1, c1', c2, c3, c4, c5, c6, c7⟩ := hA.thr hic
      rw [eT, HG.out] at er
      simp only [Value.slice.injEq, Option.some.injEq, Addr.mk.injEq, and_true] at er
      obtain ⟨rfl, -, -⟩ := er
      have t0 := c6 0 _ (by omega) (RT.c0 _)
      rw [hb] at t0
      simp only [Nat.add_zero] at t0
      obtain ⟨gd, capd, ed, d1, d1', d2, d3, d4, d5, d6, d7⟩ := hA.row (i := 1) (by omega) (show 0 < mc.code.length by omega)
      change v1.row 1 = .slice (some ⟨gd, 0, none⟩) mc.code.length capd at ed
      change mc.code.length ≤ capd at d1
      have b8 := hA.b8
      rw [ed] at b8
      have dpos := c6 2 _ (by omega) (RT.c2 _)
      rw [hp] at dpos
      have i0 : wr.cell? ⟨gd, p * 6, none⟩ = some (.int .i64 mc.code[p].kd) := d6 (p * 6 + 0) _ (code_get mc.code p 0 hpl (by omega))
      have i1 : wr.cell? ⟨gd, p * 6 + 1, none⟩ = some (.int .i64 mc.code[p].a) := d6 (p * 6 + 1) _ (code_get mc.code p 1 hpl (by omega))
      have i2 : wr.cell? ⟨gd, p * 6 + 2, none⟩ = some (.int .i64 mc.code[p].b) := d6 (p * 6 + 2) _ (code_get mc.code p 2 hpl (by omega))
      have i3 : wr.cell? ⟨gd, p * 6 + 3, none⟩ = some (.int .i64 mc.code[p].c) := d6 (p * 6 + 3) _ (code_get mc.code p 3 hpl (by omega))
      have i4 : wr.cell? ⟨gd, p * 6 + 4, none⟩ = some (.int .i64 mc.code[p].d) := d6 (p * 6 + 4) _ (code_get mc.code p 4 hpl (by omega))
      have i5 : wr.cell? ⟨gd, p * 6 + 5, none⟩ = some (.int .i64 mc.code[p].tgt) := d6 (p * 6 + 5) _ (code_get mc.code p 5 hpl (by omega))
      obtain ⟨ins, hins⟩ : ∃ ins, mc.code[p] = ins := ⟨_, rfl⟩
      rw [hins] at i0 i1 i2 i3 i4 i5 hk
      unfold maxLen at d1'
      have e8 := fun q : LaterF (fun _ => False) wr => q.cell b8 lb1 (fun x => x)
      have epos := fun q : LaterF (fun _ => False) wr => q.cell dpos c3 (fun x => x)
      have j0 := fun q : LaterF (fun _ => False) wr => q.cell i0 d3 (fun x => x)
      have j1 := fun q : LaterF (fun _ => False) wr => q.cell i1 d3 (fun x => x)
      have j2 := fun q : LaterF (fun _ => False) wr => q.cell i2 d3 (fun x => x)
      have j3 := fun q : LaterF (fun _ => False) wr => q.cell i3 d3 (fun x => x)
      have j4 := fun q : LaterF (fun _ => False) wr => q.cell i4 d3 (fun x => x)
      have j5 := fun q : LaterF (fun _ => False) wr => q.cell i5 d3 (fun x => x)
      rw [hins] at hst
      have HST := Lib.hid hst
      have HNX := Lib.hid hnx
      have hsc := hs.code
      have HPP := Lib.hid (show 0 ≤ mc.T[i].pos ∧ mc.T[i].pos ≤ 1000 by rw [hp]; omega)
      have HCA := Lib.hid (fun Wq (hq : Only (fun _ => False) wr Wq) => local_st (HAA.out.only hq (fun _ _ x => x)) hic HPP.out HST.out)
      unfold Ins.v at HCA
      have HTH := Lib.hid (fun w2 (k : ROut wr base mb v1 m1 w2) => ROut.then hon hnew hrow k)
      have hkd : decide (ins.kd ≤ 3) = false := by simp; omega
      clear hA hon hnew hrow hO hR c4 c5 c6 eT d4 d5 d6 ed hp hst hnx hs
      go_upto_region 3 with (fail)
      go_wp2
      refine wp_region_plan (fun wz => ∃ q : LaterF (fun _ => False) wr, wz = q.W) [10, 11] [0, 1, 2, 3, 4, 5, 6, 7, 8, 9] (.fork 10 [] (.tail 11) .none) oper0 (by kernel_rfl) (by kernel_rfl) (laterF_in (Only.refl _ _).drew) ?_
      simp only [wpPlan, List.map_cons, List.map_nil, List.getD_cons_zero, List.getD_cons_succ, List.drop_succ_cons, List.drop_zero]
      repeat (first | go_big_quiet_skip | (go_big_quiet_want; go_big_quiet_op; go_big_quiet_on))
      refine wpQuiet_nil ?_
      refine ⟨?_, trivial⟩
      go_wp2_with fail
      refine strict_on ?_
      refine ⟨?_, ?_⟩
      · exact laterF_in (by repeat (first | exact Only.refl _ _ | apply Only.alloc | apply Only.drew))
      repeat (first | go_big_quiet_skip | (go_big_quiet_want; go_big_quiet_op; go_big_quiet_on))
      refine wpQuiet_nil ?_
      go_wp2_with (go_at_call 77; refine (HCA.out _ (by repeat (first | exact Only.refl _ _ | apply Only.alloc | apply Only.drew | apply Only.more))).mono ?_; rintro e w3 ⟨rfl, ho3⟩; have HO3 := Lib.hid ho3; clear ho3)
      go_roundg n1
      case measure => omega
      case rel => exact ⟨b, m1, rfl, Lib.hid (HTH.out _ (ROut.pre (by repeat (first | exact Only.refl _ _ | apply Only.alloc | apply Only.drew | apply Only.more)) HO3.out)), HNX⟩
end Go.Proofs.Ytbhbpfpggfcpgaa
namespace Go
open Go.RowKit
open Go.Proofs.Ytbhbpfpggfcpgaa
/-- numbers into registers, one behind the other -/
def RT.puts : List Int → Nat → RT → RT
  | [], _, t => t
  | x :: l, k, t => RT.puts l (k + 1) (t.put k x)
theorem RT.puts_ok : ∀ (l : List Int) (k : Nat) (t : RT), t.ok → (RT.puts l k t).ok
  | [], _, _, h => h
  | x :: l, k, _t, h => RT.puts_ok l (k + 1) _ (RT.put_ok h k x)
theorem RT.puts_same : ∀ (l : List Int) (k : Nat) (t : RT), (RT.puts l k t).busy = t.busy ∧ (RT.puts l k t).call = t.call ∧ (RT.puts l k t).pos = t.pos
  | [], _, _ => ⟨rfl, rfl, rfl⟩
  | x :: l, k, t => RT.puts_same l (k + 1) (t.put k x)
end Go
namespace Go.Proofs.Ytbhbpfpggfcpgaa
open Go.ChangeShapes Go.WideShapes Go.ChangeAt Go.RowKit Go.Shelf

theorem thr_puts {base mb : Nat} {v : RMV} {g i : Nat} (hg : (v.row 4).rowBlock = some g) : ∀ (l : List Int) (k : Nat) (w : World) (m : RM), RMAt w base mb m v → i < m.T.length → k + l.length ≤ 48 →
    RMAt (w.setCells g (i * 658 + 3 + k) (u64s l)) base mb (m.thr i (RT.puts l k)) v := by
  intro l
  induction l with
  | nil =>
    intro k w m h hi _
    have : m.thr i (RT.puts [] k) = m := by
      rw [RM.thr_eq _ _ _ hi]
      show { m with T := m.T.set i m.T[i] } = m
      rw [List.set_getElem_self]
    rw [this]
    exact h
  | cons x l ih =>
    intro k w m h hi hk
    simp only [List.length_cons] at hk
    have h1 := thr_put h hg hi k (by omega) x
    have h2 := ih (k + 1) _ _ h1 (by rw [RM.thr_len]; exact hi) (by omega)
    rw [RM.thr_thr, ← Nat.add_assoc] at h2
    show RMAt (World.setCells (w.setCell ⟨g, i * 658 + 3 + k, none⟩ (.int .u64 x)) g (i * 658 + 3 + k + 1) (u64s l)) base mb (m.thr i (RT.puts l (k + 1) ∘ RT.put k x)) v
    exact h2
theorem setCells_only {F : Nat → Prop} {g : Nat} (hF : F g) : ∀ (l : List Value) (o : Nat) (w w1 : World), Only F w w1 → Only F w (w1.setCells g o l)
  | [], _, _, _, h => h
  | _ :: l, o, w, _, h => setCells_only hF l (o + 1) w _ (h.set (.inl hF) _)

set_option maxRecDepth 100000 in
set_option maxHeartbeats 4000000 in
theorem may_addr {w : World} {base mb : Nat} {m : RM} {v : RMV} (H : RMAt w base mb m v) (mv : Mv) {i : Nat} (hth : mv.th = (i : Int)) (hi : i < m.T.length) :
    Calls Try.prog 72 #[.pointer (some ⟨mb, 0, none⟩), mv.v, .int .i64 5] w fun e w' => e = .returned (.bool (decide (0 ≤ mv.arg) && decide (mv.arg < (m.words.length : Int)))) ∧ Below w.heap.size w w' := by
  obtain ⟨mth, mop, marg, mdata⟩ := mv
  simp only at hth
  subst hth
  unfold Mv.v
  obtain ⟨g, cap, e4, h1, h1', h2, h3, h4, h5, h6, h7⟩ := H.thr hi
  have b11 := H.b11
  rw [e4] at b11
  have lb := (H.lt mb (.inl rfl)).2
  obtain ⟨ow, cw, ew, w1, w2⟩ := (H.rows 0 (by omega)).form
  change v.row 0 = .slice ow m.words.length cw at ew
  have b7 := H.b7
  rw [ew] at b7
  obtain ⟨ur, hur⟩ : ∃ ur : Int, w.cell? ⟨g, i * 658 + 53, none⟩ = some (.int .i64 ur) := ⟨m.T[i].rc, h6 53 _ (by omega) (by
    have hok := H.tok _ (List.getElem_mem hi)
    unfold RT.cells
    rw [show 53 = 50 + 1 + 1 + 1 by omega]
    simp only [List.getElem?_cons_succ]
    rw [List.getElem?_append_right (by simp [u64s, hok.1])]
    simp [u64s, hok.1])⟩
  unfold maxLen at h1'
  have hcs : (decide (0 ≤ marg) = false) ∨ (decide (0 ≤ marg) = true) := by cases decide (0 ≤ marg) <;> simp
  clear H h4 h5 h6 e4 ew
  rcases hcs with q | q
  · rw [q]
    go_enter Try.func72, Try.ntmps72
    go_wp2
    go_wp2
    refine wp_region_more_lit (by kernel_rfl) (by kernel_rfl) ?_
    repeat (first | go_big_quiet_skip | (go_big_quiet_want; go_big_quiet_op; first | go_big_quiet_on | (apply Exists.intro; refine ⟨fun _ => ?_, ?_⟩; (focus (fail)); go_big_quiet_on)))
    refine wpQuiet_nil ?_
    intro osq dq
    go_wp2
    go_wp2
    refine wp_region_more_lit (by kernel_rfl) (by kernel_rfl) ?_
    repeat (first | go_big_quiet_skip | (go_big_quiet_want; go_big_quiet_op; first | go_big_quiet_on | (apply Exists.intro; refine ⟨fun _ => ?_, ?_⟩; (focus (fail)); go_big_quiet_on)))
    refine wpQuiet_nil ?_
    intro osq dq
    go_wp2
    go_ret
    exact ⟨rfl, (by repeat (first | exact Below.refl _ _ | apply Below.drew | apply Below.more1 | apply Below.alloc1))⟩
  · rw [q]
    go_enter Try.func72, Try.ntmps72
    go_wp2
    go_wp2
    refine wp_region_more_lit (by kernel_rfl) (by kernel_rfl) ?_
    repeat (first | go_big_quiet_skip | (go_big_quiet_want; go_big_quiet_op; first | go_big_quiet_on | (apply Exists.intro; refine ⟨fun _ => ?_, ?_⟩; (focus (fail)); go_big_quiet_on)))
    refine wpQuiet_nil ?_
    intro osq dq
    go_wp2
    go_wp2
    refine wp_region_more_lit (by kernel_rfl) (by kernel_rfl) ?_
    repeat (first | go_big_quiet_skip | (go_big_quiet_want; go_big_quiet_op; first | go_big_quiet_on | (apply Exists.intro; refine ⟨fun _ => ?_, ?_⟩; (focus (fail)); go_big_quiet_on)))
    refine wpQuiet_nil ?_
    intro osq dq
    go_wp2
    go_ret
    exact ⟨rfl, (by repeat (first | exact Below.refl _ _ | apply Below.drew | apply Below.more1 | apply Below.alloc1))⟩
end Go.Proofs.Ytbhbpfpggfcpgaa
namespace Go
open Go.RowKit
open Go.Proofs.Ytbhbpfpggfcpgaa

structure OS.Later (o o' : OS) : Prop where
  logp : ∀ (k : Nat) (a : Acc), o.log[k]? = some a → o'.log[k]? = some a
  logn : ∀ (k : Nat) (a : Acc), o.log.length ≤ k → o'.log[k]? = some a → (o.moves : Int) ≤ a.mv
  callp : ∀ (ci : Nat) (c : Cal), o.calls[ci]? = some c → ∃ c', o'.calls[ci]? = some c' ∧ c'.th = c.th ∧ c'.op = c.op ∧ c'.arg = c.arg ∧ c'.data = c.data ∧ c'.beg = c.beg ∧ (c' = c ∨ (c.en = -1 ∧ (o.moves : Int) ≤ c'.en ∧ c'.pt = c'.en))
  calln : ∀ (ci : Nat) (c' : Cal), o.calls.length ≤ ci → o'.calls[ci]? = some c' → (o.moves : Int) ≤ c'.beg
  mle : o.moves ≤ o'.moves

theorem OS.Later.refl (o : OS) : OS.Later o o :=
  ⟨fun _ _ h => h, fun k a hk h => by have := (List.getElem?_eq_some_iff.1 h).1; omega, fun ci c h => ⟨c, h, rfl, rfl, rfl, rfl, rfl, .inl rfl⟩, fun ci c hk h => by have := (List.getElem?_eq_some_iff.1 h).1; omega, Nat.le_refl _⟩
theorem OS.Later.len {o o' : OS} (h : OS.Later o o') : o.calls.length ≤ o'.calls.length ∧ o.log.length ≤ o'.log.length := by
  constructor
  · rcases Nat.eq_zero_or_pos o.calls.length with h0 | h0
    · omega
    · obtain ⟨c', hc, _⟩ := h.callp (o.calls.length - 1) _ (List.getElem?_eq_getElem (by omega))
      have := (List.getElem?_eq_some_iff.1 hc).1; omega
  · rcases Nat.eq_zero_or_pos o.log.length with h0 | h0
    · omega
    · have hc := h.logp (o.log.length - 1) _ (List.getElem?_eq_getElem (by omega))
      have := (List.getElem?_eq_some_iff.1 hc).1; omega
theorem OS.Later.move {l : List Int} {n : Nat} {pre : List Mv} {o o' : OS} (h : OS.Later o o') (hI : OS.Inv l n pre o') (hlt : pre.length < 65536) (mv : Mv) : OS.Later o (o'.move l.length mv).1 := by
  have hm := h.mle
  have hl := h.len
  rcases hI.way hlt mv with e | ⟨i, ci, se, t, c, ae, x, over, e, S, hi, hop, hs, hta, q1, q2, q3, q4, q5, q6, q7, q8⟩ | ⟨i, se, t, e, hi, hs, hta, hop, hmk⟩
  · rw [e]; exact ⟨h.logp, h.logn, h.callp, h.calln, Nat.le_succ_of_le hm⟩
  · rw [e]
    have hmo := S.moves
    refine ⟨fun k a ha => ?_, fun k a hk ha => ?_, fun cj d hd => ?_, fun cj d hk hd => ?_, by show o.moves ≤ (o'.step i se t).moves; rw [hmo]; omega⟩
    · show (o'.step i se t).log[k]? = _
      rw [S.log]
      have := h.logp k a ha
      rw [List.getElem?_append_left (List.getElem?_eq_some_iff.1 this).1]; exact this
    · have ha' : (o'.step i se t).log[k]? = some a := ha
      rw [S.log] at ha'
      by_cases hkl : k < o'.log.length
      · rw [List.getElem?_append_left hkl] at ha'
        exact h.logn k a hk ha'
      · have : k = o'.log.length := by
          have := (List.getElem?_eq_some_iff.1 ha').1
          simp at this; omega
        subst this
        simp at ha'
        subst ha'
        rw [S.emv.1]; omega
    · obtain ⟨d', p1, p2, p3, p4, p5, p6, p7⟩ := h.callp cj d hd
      show ∃ c', (o'.step i se t).calls[cj]? = some c' ∧ _
      rw [S.calls]
      cases over with
      | false => exact ⟨d', by simpa using p1, p2, p3, p4, p5, p6, p7⟩
      | true =>
        simp only [if_true]
        have hm2 := modify_at (ci := ci) (f := fun c => { c with en := o'.moves, pt := o'.moves, ak := 2, av := wrap64 (o'.at t.addr) }) p1
        by_cases ec : ci = cj
        · rw [if_pos ec] at hm2
          subst ec
          refine ⟨_, hm2, p2, p3, p4, p5, p6, .inr ⟨?_, by show (o.moves : Int) ≤ (o'.moves : Int); omega, rfl⟩⟩
          rw [q2] at p1
          cases p1
          rcases p7 with rfl | ⟨r1, r2, _⟩
          · exact q4
          · exact r1
        · rw [if_neg ec] at hm2
          exact ⟨d', hm2, p2, p3, p4, p5, p6, p7⟩
    · have hd' : (o'.step i se t).calls[cj]? = some d := hd
      rw [S.calls] at hd'
      cases over with
      | false => exact h.calln cj d hk (by simpa using hd')
      | true =>
        simp only [if_true] at hd'
        rcases modify_get hd' with ⟨rfl, d0, hd0, rfl⟩ | ⟨_, hd0⟩
        · exact h.calln cj d0 hk hd0
        · exact h.calln cj d hk hd0
  · rw [e]
    refine ⟨h.logp, h.logn, fun cj d hd => ?_, fun cj d hk hd => ?_, Nat.le_succ_of_le hm⟩
    · obtain ⟨d', p1, p2⟩ := h.callp cj d hd
      refine ⟨d', ?_, p2⟩
      show (o'.calls ++ [_])[cj]? = _
      rw [List.getElem?_append_left (List.getElem?_eq_some_iff.1 p1).1]; exact p1
    · have hd' : (o'.calls ++ [⟨mv.th, mv.op, mv.arg, mv.data, (o'.moves : Int), -1, -1, 0, 0⟩])[cj]? = some d := hd
      by_cases hkl : cj < o'.calls.length
      · rw [List.getElem?_append_left hkl] at hd'
        exact h.calln cj d hk hd'
      · have : cj = o'.calls.length := by
          have := (List.getElem?_eq_some_iff.1 hd').1
          simp at this; omega
        subst this
        simp at hd'
        subst hd'
        show (o.moves : Int) ≤ (o'.moves : Int); omega

theorem later_of (l : List Int) (n : Nat) (ms : List Mv) (hm : ms.length ≤ 65536) (k : Nat) (hk : k ≤ ms.length) : OS.Later (osOf l n (ms.take k)) (osOf l n ms) := by
  have : ∀ j, k ≤ j → j ≤ ms.length → OS.Later (osOf l n (ms.take k)) (osOf l n (ms.take j)) := by
    intro j hkj
    induction j with
    | zero => intro _; obtain rfl : k = 0 := by omega
              exact OS.Later.refl _
    | succ j ih =>
      intro hj
      by_cases e : k = j + 1
      · subst e; exact OS.Later.refl _
      · rw [take_next ms j (by omega), osOf_snoc]
        exact (ih (by omega) (by omega)).move (inv_of l n (ms.take j) (by simp; omega)) (by simp; omega) _
  have h := this ms.length hk (Nat.le_refl _)
  rwa [List.take_length] at h
theorem osOf_next (l : List Int) (n : Nat) (ms : List Mv) (k : Nat) (hk : k < ms.length) : osOf l n (ms.take (k + 1)) = ((osOf l n (ms.take k)).move l.length ms[k]).1 := by
  rw [take_next ms k hk, osOf_snoc]

/-! ### what a move m does, told by the last machine's calls -/

/-- at most one call ends at a move; who ends there answered the counter's word and counted it up -/
theorem ends_at (l : List Int) (n : Nat) (ms : List Mv) (hm : ms.length ≤ 65536) (k : Nat) (hk : k < ms.length) :
    ((∀ (ci : Nat) (c : Cal), (osOf l n ms).calls[ci]? = some c → c.en ≠ (k : Int)) ∧ (osOf l n (ms.take (k + 1))).words = (osOf l n (ms.take k)).words) ∨
    ∃ (ci : Nat) (c : Cal), (osOf l n ms).calls[ci]? = some c ∧ c.en = (k : Int) ∧ (∀ (cj : Nat) (d : Cal), (osOf l n ms).calls[cj]? = some d → d.en = (k : Int) → cj = ci) ∧
      c.av = wrap64 ((osOf l n (ms.take k)).at c.arg) ∧ (osOf l n (ms.take (k + 1))).words = if c.op = 2 then (osOf l n (ms.take k)).words.set c.arg.toNat (IntKind.u64.wrap ((osOf l n (ms.take k)).at c.arg + 1)) else (osOf l n (ms.take k)).words := by
  have hI := inv_of l n (ms.take k) (by simp; omega)
  have hI2 := inv_of l n (ms.take (k + 1)) (by simp; omega)
  have hL := later_of l n ms hm (k + 1) hk
  have hmk : (osOf l n (ms.take k)).moves = k := by rw [hI.moves]; simp; omega
  have hmk2 : (osOf l n (ms.take (k + 1))).moves = k + 1 := by rw [hI2.moves]; simp; omega
  have hnx := osOf_next l n ms k hk
  generalize hO : osOf l n ms = O at *
  generalize hP : osOf l n (ms.take k) = P at *
  generalize hQ : osOf l n (ms.take (k + 1)) = Q at *
  -- a call of the last that ends at k is one of Q's that ends at k
  have hback : ∀ (ci : Nat) (c : Cal), O.calls[ci]? = some c → c.en = (k : Int) → Q.calls[ci]? = some c := by
    intro ci c hc he
    by_cases hlt : ci < Q.calls.length
    · obtain ⟨c', h1, _, _, _, _, _, h2⟩ := hL.callp ci _ (List.getElem?_eq_getElem hlt)
      rw [hc] at h1
      cases h1
      rcases h2 with h2 | ⟨_, h2, _⟩
      · rw [h2]; exact List.getElem?_eq_getElem hlt
      · rw [hmk2] at h2; omega
    · have := hL.calln ci c (by omega) hc
      rw [hmk2] at this
      have hcall := (by rw [← hO] at hc; exact (inv_of l n ms hm).call ci c hc : callOk l n ms (osOf l n ms) ci c)
      obtain ⟨_, _, _, _, _, _, _, _, _, e9⟩ := hcall
      rcases e9 with ⟨e9, _⟩ | ⟨e9, _⟩ <;> omega
  -- no call of P ends at k
  have hno : ∀ (ci : Nat) (c : Cal), P.calls[ci]? = some c → c.en ≠ (k : Int) := by
    intro ci c hc he
    obtain ⟨_, _, _, _, _, _, _, _, _, e9⟩ := hI.call ci c hc
    rcases e9 with ⟨e9, _⟩ | ⟨_, e9, _⟩ <;> omega
  rcases hI.way (by simp; omega) ms[k] with e | ⟨i, ci, se, t, c, ae, x, over, e, S, hi, hop, hs, hta, q1, q2, q3, q4, q5, q6, q7, q8⟩ | ⟨i, se, t, e, hi, hs, hta, hop, hmk'⟩
  · rw [e] at hnx
    refine .inl ⟨fun ci c hc he => ?_, by rw [hnx]; rfl⟩
    have := hback ci c hc he
    rw [hnx] at this
    exact hno ci c this he
  · rw [e] at hnx
    have hnx' : Q = P.step i se t := hnx
    rw [← hnx'] at S
    cases over with
    | false =>
      refine .inl ⟨fun cj d hd he => ?_, (S.goes rfl).2⟩
      have := hback cj d hd he
      rw [S.calls] at this
      exact hno cj d (by simpa using this) he
    | true =>
      have hcq : Q.calls[ci]? = some { c with en := P.moves, pt := P.moves, ak := 2, av := wrap64 (P.at t.addr) } := by
        rw [S.calls]; simp only [if_true]
        have := modify_at (ci := ci) (f := fun c => { c with en := P.moves, pt := P.moves, ak := 2, av := wrap64 (P.at t.addr) }) q2
        rw [if_pos rfl] at this
        exact this
      obtain ⟨c', h1, h2, h3, h4, h5, h6, h7⟩ := hL.callp ci _ hcq
      have hc' : c' = { c with en := P.moves, pt := P.moves, ak := 2, av := wrap64 (P.at t.addr) } := by
        rcases h7 with h7 | ⟨h7, _⟩
        · exact h7
        · simp only at h7; omega
      subst hc'
      refine .inr ⟨ci, _, h1, by show (P.moves : Int) = k; rw [hmk], fun cj d hd he => ?_, by show wrap64 (P.at t.addr) = wrap64 (P.at c.arg); rw [q5], ?_⟩
      · have := hback cj d hd he
        rw [S.calls] at this
        simp only [if_true] at this
        rcases modify_get this with ⟨hj, _⟩ | ⟨_, h0⟩
        · exact hj
        · exact absurd he (hno cj d h0)
      · have := (S.ends rfl).2
        rw [this, q5]
  · rw [e] at hnx
    have hnx' : Q = P.begin i ms[k] t := hnx
    refine .inl ⟨fun cj d hd he => ?_, by rw [hnx']; rfl⟩
    have h0 := hback cj d hd he
    rw [hnx'] at h0
    have hd' : (P.calls ++ [⟨ms[k].th, ms[k].op, ms[k].arg, ms[k].data, (P.moves : Int), -1, -1, 0, 0⟩])[cj]? = some d := h0
    by_cases hkl : cj < P.calls.length
    · rw [List.getElem?_append_left hkl] at hd'
      exact hno cj d hd' he
    · have : cj = P.calls.length := by
        have := (List.getElem?_eq_some_iff.1 hd').1
        simp at this; omega
      subst this
      simp at hd'
      subst hd'
      simp only at he
      omega
end Go
namespace Go
open Go.RowKit
open Go.Proofs.Ytbhbpfpggfcpgaa

def Acc.ren (f : Nat → Nat) (a : Acc) : Acc := { a with mv := (f a.mv.toNat : Nat) }
def renI (f : Nat → Nat) (i : Int) : Int := if 0 ≤ i then (f i.toNat : Nat) else i
def Cal.ren (f : Nat → Nat) (c : Cal) : Cal := { c with beg := (f c.beg.toNat : Nat), en := renI f c.en, pt := renI f c.pt }
def OS.ren (f : Nat → Nat) (o : OS) (m : Nat) : OS := ⟨o.words, o.log.map (Acc.ren f), o.seats, m, o.calls.map (Cal.ren f)⟩

section
variable (l : List Int) (n : Nat) (ms : List Mv)
/-- did move number k do anything? -/
def didB (k : Nat) : Bool := match ms[k]? with
  | some mv => ((osOf l n (ms.take k)).move l.length mv).2
  | none => false
/-- those of the first k that did -/
def filM : Nat → List Mv
  | 0 => []
  | k + 1 => match ms[k]? with
    | some mv => if didB l n ms k = true then filM k ++ [mv] else filM k
    | none => filM k
def numM (k : Nat) : Nat := (filM l n ms k).length
end

section
variable {l : List Int} {n : Nat} {ms : List Mv}
theorem filM_le (k : Nat) : (filM l n ms k).length ≤ k := by
  induction k with
  | zero => exact Nat.le_refl _
  | succ k ih =>
    unfold filM
    split
    · split
      · simp; omega
      · omega
    · omega
theorem filM_yes {k : Nat} (hk : k < ms.length) (h : ((osOf l n (ms.take k)).move l.length ms[k]).2 = true) : filM l n ms (k + 1) = filM l n ms k ++ [ms[k]] := by
  have hd : didB l n ms k = true := by unfold didB; rw [List.getElem?_eq_getElem hk]; exact h
  show (match ms[k]? with | some mv => if didB l n ms k = true then filM l n ms k ++ [mv] else filM l n ms k | none => filM l n ms k) = _
  rw [List.getElem?_eq_getElem hk, hd]
  rfl
theorem filM_no {k : Nat} (hk : k < ms.length) (h : ((osOf l n (ms.take k)).move l.length ms[k]).2 = false) : filM l n ms (k + 1) = filM l n ms k := by
  have hd : didB l n ms k = false := by unfold didB; rw [List.getElem?_eq_getElem hk]; exact h
  show (match ms[k]? with | some mv => if didB l n ms k = true then filM l n ms k ++ [mv] else filM l n ms k | none => filM l n ms k) = _
  rw [List.getElem?_eq_getElem hk, hd]
  rfl

theorem map_modify' {α : Type} (r g g' : α → α) (h : ∀ x, r (g x) = g' (r x)) : ∀ (ls : List α) (i : Nat), (ls.modify i g).map r = (ls.map r).modify i g' := by
  intro ls
  induction ls with
  | nil => intro i; simp
  | cons x ls ih =>
    intro i
    cases i with
    | zero => simp [h]
    | succ i => simp [ih]

theorem ren_ends {f : Nat → Nat} {o : OS} {m : Nat} (hf : f o.moves = m) (last x : Int) : (o.ren f m).ends last x = (o.ends last x).map (Cal.ren f) := by
  unfold OS.ends OS.ren
  simp only
  rw [map_modify' (Cal.ren f) _ (fun c => { c with en := (m : Int), pt := (m : Int), ak := 2, av := wrap64 x })]
  intro c
  unfold Cal.ren renI
  simp [hf]

theorem ren_step {f : Nat → Nat} {o : OS} {m : Nat} (hf : f o.moves = m) (i : Nat) (se : OSeat) (t : Tk) : (o.ren f m).step i se t = (o.step i se t).ren f (m + 1) := by
  have hat : ∀ a, (o.ren f m).at a = o.at a := fun _ => rfl
  have he := fun last x => ren_ends (o := o) hf last x
  cases t with
  | look a =>
    simp only [OS.step, hat, he]
    simp [OS.ren, Acc.ren, hf]
  | bump a saw ld =>
    cases ld with
    | false =>
      simp only [OS.step, hat]
      simp [OS.ren, Acc.ren, hf]
    | true =>
      by_cases hs : o.at a = saw
      · simp only [OS.step, hat, he, if_pos hs]
        simp [OS.ren, Acc.ren, hf]
      · simp only [OS.step, hat, if_neg hs]
        simp [OS.ren, Acc.ren, hf]

theorem ren_begin {f : Nat → Nat} {o : OS} {m : Nat} (hf : f o.moves = m) (i : Nat) (mv : Mv) (t : Tk) : (o.ren f m).begin i mv t = (o.begin i mv t).ren f (m + 1) := by
  simp [OS.begin, OS.ren, Cal.ren, renI, hf]

/-- the moves that did something, alone -/
theorem idle_os (hm : ms.length ≤ 65536) (k : Nat) (hk : k ≤ ms.length) :
    osOf l n (filM l n ms k) = (osOf l n (ms.take k)).ren (numM l n ms) (numM l n ms k) ∧ numM l n ms k = (osOf l n (ms.take k)).calls.length + (osOf l n (ms.take k)).log.length := by
  induction k with
  | zero => exact ⟨by simp [filM, osOf, OS.goes, OS.init, OS.ren, numM], by simp [filM, osOf, OS.goes, OS.init, numM]⟩
  | succ k ih =>
    obtain ⟨ih1, ih2⟩ := ih (by omega)
    have hI := inv_of l n (ms.take k) (by simp; omega)
    have hmo : (osOf l n (ms.take k)).moves = k := by rw [hI.moves]; simp; omega
    have hlt : (ms.take k).length < 65536 := by simp; omega
    have hle := filM_le (l := l) (n := n) (ms := ms) k
    rw [osOf_next l n ms k (by omega)]
    rcases hI.way hlt ms[k] with e | ⟨i, ci, se, t, c, ae, x, over, e, S, hi, hop, hs, hta, _⟩ | ⟨i, se, t, e, hi, hs, hta, hop, hmk⟩
    · have hfil := filM_no (n := n) (l := l) (by omega : k < ms.length) (by rw [e])
      have hnum : numM l n ms (k + 1) = numM l n ms k := by unfold numM; rw [hfil]
      rw [e, hfil, hnum]
      exact ⟨ih1, ih2⟩
    · have hfil := filM_yes (n := n) (l := l) (by omega : k < ms.length) (by rw [e])
      have hnum : numM l n ms (k + 1) = numM l n ms k + 1 := by unfold numM; rw [hfil]; simp
      rw [e, hfil, hnum, osOf_snoc, ih1]
      constructor
      · have : ((osOf l n (ms.take k)).ren (numM l n ms) (numM l n ms k)).move l.length ms[k] = (((osOf l n (ms.take k)).ren (numM l n ms) (numM l n ms k)).step i se t, true) := by
          have hi' : ms[k].th.toNat = i := by omega
          unfold OS.move
          rw [if_neg (by show ¬ 65536 ≤ numM l n ms k; unfold numM; omega), if_neg (by omega), hi']
          show (match (osOf l n (ms.take k)).seats[i]? with | none => _ | some se => _) = _
          rw [hs]
          simp only [hta, if_pos hop]
        rw [this]
        exact ren_step (by rw [hmo]) i se t
      · show _ = ((osOf l n (ms.take k)).step i se t).calls.length + ((osOf l n (ms.take k)).step i se t).log.length
        rw [S.log, S.calls]
        cases over <;> simp <;> omega
    · have hfil := filM_yes (n := n) (l := l) (by omega : k < ms.length) (by rw [e])
      have hnum : numM l n ms (k + 1) = numM l n ms k + 1 := by unfold numM; rw [hfil]; simp
      rw [e, hfil, hnum, osOf_snoc, ih1]
      constructor
      · have : ((osOf l n (ms.take k)).ren (numM l n ms) (numM l n ms k)).move l.length ms[k] = (((osOf l n (ms.take k)).ren (numM l n ms) (numM l n ms k)).begin i ms[k] t, true) := by
          have hi' : ms[k].th.toNat = i := by omega
          unfold OS.move
          rw [if_neg (by show ¬ 65536 ≤ numM l n ms k; unfold numM; omega), if_neg (by omega), hi']
          show (match (osOf l n (ms.take k)).seats[i]? with | none => _ | some se => _) = _
          rw [hs]
          simp only [hta, if_neg hop, hmk]
        rw [this]
        exact ren_begin (by rw [hmo]) i ms[k] t
      · show _ = ((osOf l n (ms.take k)).begin i ms[k] t).calls.length + ((osOf l n (ms.take k)).begin i ms[k] t).log.length
        simp [OS.begin]; omega
end
end Go
namespace Go
open Go.RowKit
open Go.Proofs.Ytbhbpfpggfcpgaa

def ownCode : List Ins := [⟨10, 1, 0, 0, 0, 0⟩, ⟨48, 0, 0, 0, 0, 0⟩, ⟨1, 1, 0, 0, 0, 0⟩, ⟨27, 0, 0, 0, 0, 0⟩, ⟨14, 1, 0, 0, 2, 0⟩, ⟨10, 2, 0, 0, 0, 0⟩, ⟨48, 0, 0, 0, 0, 0⟩, ⟨10, 3, 0, 0, 0, 0⟩, ⟨1, 1, 0, 0, 0, 0⟩, ⟨17, 2, 1, 0, 1, 0⟩, ⟨3, 1, 0, 0, 2, 3⟩, ⟨27, 0, 0, 0, 0, 0⟩, ⟨14, 1, 0, 0, 2, 0⟩]
def ownLabels : List Int := [0, 0, 5, 7]
def ownEnts : List Ent := [⟨1, 1, 5⟩, ⟨2, 2, 5⟩]

/-- the thread i as t, other words, trace, calls -/
def RM.at (m : RM) (i : Nat) (t : RT) (ws : List Int) (tr : List Acc) (cs : List Cal) : RM := { m with T := m.T.set i t, words := ws, trace := tr, calls := cs }
section
variable {m : RM} {i : Nat} {t : RT} {ws : List Int} {tr : List Acc} {cs : List Cal}
theorem at_self (hi : i < m.T.length) : m.at i m.T[i] m.words m.trace m.calls = m := by
  have : m.T.set i m.T[i] = m.T := List.set_getElem_self hi
  unfold RM.at
  rw [this]
theorem at_len : (m.at i t ws tr cs).T.length = m.T.length := by simp [RM.at]
theorem at_T (hi : i < m.T.length) : (m.at i t ws tr cs).T[i]'(by rw [at_len]; exact hi) = t := by simp [RM.at]
theorem at_thr (hi : i < m.T.length) (f : RT → RT) : (m.at i t ws tr cs).thr i f = m.at i (f t) ws tr cs := by
  rw [RM.thr_eq _ _ _ (by rw [at_len]; exact hi), at_T hi]
  simp [RM.at]
theorem at_cal (ci : Nat) (f : Cal → Cal) : (m.at i t ws tr cs).cal ci f = m.at i t ws tr (cs.modify ci f) := rfl

theorem RRun.loc' {b : Bool} {m1 m2 : RM} {n p : Nat} {ins : Ins} (hi : i < m.T.length) (hb : t.busy = true) (hp : t.pos = (p : Int)) (hc : m.code[p]? = some ins) (hk : 3 < ins.kd) (hw : ws.length ≤ 1000000) (ht : tr.length ≤ 1000000) (hcl : m.code.length ≤ 1000)
    (h1 : LocSt i (m.at i t ws tr cs) ins m1) (h2 : RRun i b m1 m2 n) : RRun i b (m.at i t ws tr cs) m2 (n + 1) := by
  have hpl : p < m.code.length := (List.getElem?_eq_some_iff.1 hc).1
  have he : m.code[p] = ins := (List.getElem?_eq_some_iff.1 hc).2
  refine RRun.loc (by rw [at_len]; exact hi) (by rw [at_T hi]; exact hb) (p := p) (by rw [at_T hi]; exact hp) hpl (by show 3 < (m.code[p]).kd; rw [he]; exact hk) ⟨hw, ht, hcl⟩ ?_ h2
  show LocSt i _ m.code[p] _
  rw [he]; exact h1
theorem RRun.acc' {m1 m2 : RM} {n p : Nat} {ins : Ins} (hi : i < m.T.length) (hb : t.busy = true) (hp : t.pos = (p : Int)) (hc : m.code[p]? = some ins) (hk : ins.kd ≤ 3) (hw : ws.length ≤ 1000000) (ht : tr.length ≤ 1000000) (hcl : m.code.length ≤ 1000)
    (h1 : AccSt i (m.at i t ws tr cs) ins m1) (h2 : RRun i true m1 m2 n) : RRun i false (m.at i t ws tr cs) m2 (n + 1) := by
  have hpl : p < m.code.length := (List.getElem?_eq_some_iff.1 hc).1
  have he : m.code[p] = ins := (List.getElem?_eq_some_iff.1 hc).2
  refine RRun.acc (by rw [at_len]; exact hi) (by rw [at_T hi]; exact hb) (p := p) (by rw [at_T hi]; exact hp) hpl (by show (m.code[p]).kd ≤ 3; rw [he]; exact hk) ⟨hw, ht, hcl⟩ ?_ h2
  show AccSt i _ m.code[p] _
  rw [he]; exact h1
theorem RRun.stop' {p : Nat} {ins : Ins} (hi : i < m.T.length) (hb : t.busy = true) (hp : t.pos = (p : Int)) (hc : m.code[p]? = some ins) (hk : ins.kd ≤ 3) : RRun i true (m.at i t ws tr cs) (m.at i t ws tr cs) 0 := by
  have hpl : p < m.code.length := (List.getElem?_eq_some_iff.1 hc).1
  have he : m.code[p] = ins := (List.getElem?_eq_some_iff.1 hc).2
  exact RRun.stop _ (by rw [at_len]; exact hi) (by rw [at_T hi]; exact hb) (p := p) (by rw [at_T hi]; exact hp) hpl (by show (m.code[p]).kd ≤ 3; rw [he]; exact hk)
theorem RRun.idle' {b : Bool} (hi : i < m.T.length) (hb : t.busy = false) : RRun i b (m.at i t ws tr cs) (m.at i t ws tr cs) 0 := RRun.idle _ _ (by rw [at_len]; exact hi) (by rw [at_T hi]; exact hb)

/-! the instructions, over such a machine -/
theorem lc_label (hi : i < m.T.length) (a b c d tgt : Int) : LocSt i (m.at i t ws tr cs) ⟨10, a, b, c, d, tgt⟩ (m.at i t.next ws tr cs) := by
  have := LocSt.label (i := i) (m.at i t ws tr cs) a b c d tgt
  rwa [at_thr hi] at this
theorem lc_arg (hi : i < m.T.length) {ci : Nat} {c0 : Cal} (hc : cs[ci]? = some c0) (hcall : t.call = (ci : Int)) (ra : Nat) (hra : ra < 48) (b c d tgt : Int) : LocSt i (m.at i t ws tr cs) ⟨48, ra, b, c, d, tgt⟩ (m.at i (t.next.put ra (IntKind.u64.wrap c0.arg)) ws tr cs) := by
  have hcl : ci < cs.length := (List.getElem?_eq_some_iff.1 hc).1
  have := LocSt.arg (i := i) (m.at i t ws tr cs) b c d tgt (by rw [at_len]; exact hi) (ci := ci) hcl (by rw [at_T hi]; exact hcall) ra hra
  rw [at_thr hi] at this
  have he : (m.at i t ws tr cs).calls[ci]'hcl = c0 := (List.getElem?_eq_some_iff.1 hc).2
  rwa [he] at this
theorem lc_add (hi : i < m.T.length) (ra : Nat) (hra : ra < 48) (rb : Nat) (hrb : rb < 48) (c d tgt : Int) : LocSt i (m.at i t ws tr cs) ⟨17, ra, rb, c, d, tgt⟩ (m.at i (t.next.put ra (IntKind.u64.wrap (t.r.getD rb 0 + IntKind.u64.wrap d))) ws tr cs) := by
  have := LocSt.add (i := i) (m.at i t ws tr cs) c d tgt (by rw [at_len]; exact hi) ra hra rb hrb
  rw [at_thr hi, at_T hi] at this
  exact this
theorem lc_point (hi : i < m.T.length) {ci : Nat} (hc : ci < cs.length) (hcall : t.call = (ci : Int)) (a b c d tgt : Int) : LocSt i (m.at i t ws tr cs) ⟨27, a, b, c, d, tgt⟩ (m.at i t.next ws tr (cs.modify ci fun c => { c with pt := m.moves })) := by
  have := LocSt.point (i := i) (m.at i t ws tr cs) a b c d tgt (by rw [at_len]; exact hi) (ci := ci) hc (by rw [at_T hi]; exact hcall)
  rw [at_thr hi, at_cal] at this
  exact this
theorem lc_fin (hi : i < m.T.length) {ci : Nat} (hc : ci < cs.length) (hcall : t.call = (ci : Int)) (ra : Nat) (hra : ra < 48) (b c tgt : Int) : LocSt i (m.at i t ws tr cs) ⟨14, ra, b, c, 2, tgt⟩ (m.at i (RT.idle t.next) ws tr (cs.modify ci (Cal.done m.moves (wrap64 (t.r.getD ra 0))))) := by
  have := LocSt.fin (i := i) (m.at i t ws tr cs) b c tgt (by rw [at_len]; exact hi) (ci := ci) hc (by rw [at_T hi]; exact hcall) ra hra
  rw [at_thr hi, at_cal, at_thr hi, at_T hi] at this
  exact this
theorem ac_load (hi : i < m.T.length) (ra : Nat) (hra : ra < 48) (rc : Nat) (hrc : rc < 48) {an : Nat} {x : Int} (hx : ws[an]? = some x) (hr : t.r.getD rc 0 = (an : Int)) (d tgt : Int) :
    AccSt i (m.at i t ws tr cs) ⟨1, ra, 0, rc, d, tgt⟩ (m.at i (t.next.put ra x) ws (tr ++ [⟨m.moves, i, 1, an, 0, 0, x⟩]) cs) := by
  have han : an < ws.length := (List.getElem?_eq_some_iff.1 hx).1
  have := AccSt.load (i := i) (m.at i t ws tr cs) d tgt (by rw [at_len]; exact hi) ra hra rc hrc (an := an) han (by rw [at_T hi]; exact hr)
  rw [at_thr hi, at_thr hi] at this
  have he : (m.at i t ws tr cs).words[an]'han = x := (List.getElem?_eq_some_iff.1 hx).2
  rw [he] at this
  exact this
theorem ac_yes (hi : i < m.T.length) (ra : Nat) (hra : ra < 48) (rd : Nat) (hrd : rd < 48) (tl : Nat) (rc : Nat) (hrc : rc < 48) {an : Nat} {ro rn : Int} (hx : ws[an]? = some ro) (hr : t.r.getD rc 0 = (an : Int)) (hro : t.r.getD ra 0 = ro) (hrn : t.r.getD rd 0 = rn) :
    AccSt i (m.at i t ws tr cs) ⟨3, ra, 0, rc, rd, tl⟩ (m.at i t.next (ws.set an rn) (tr ++ [⟨m.moves, i, 3, an, ro, rn, ro⟩]) cs) := by
  have han : an < ws.length := (List.getElem?_eq_some_iff.1 hx).1
  have he : (m.at i t ws tr cs).words[an]'han = ro := (List.getElem?_eq_some_iff.1 hx).2
  have := AccSt.yes (i := i) (ro := ro) (rn := rn) (m.at i t ws tr cs) (by rw [at_len]; exact hi) ra hra rd hrd tl rc hrc (an := an) han (by rw [at_T hi]; exact hr) (by rw [at_T hi]; exact hro) (by rw [at_T hi]; exact hrn) he
  rw [at_thr hi] at this
  exact this
theorem ac_no (hi : i < m.T.length) (ra : Nat) (hra : ra < 48) (rd : Nat) (hrd : rd < 48) (tl : Nat) (rc : Nat) (hrc : rc < 48) {an : Nat} {x ro rn : Int} (hx : ws[an]? = some x) (hr : t.r.getD rc 0 = (an : Int)) (hro : t.r.getD ra 0 = ro) (hrn : t.r.getD rd 0 = rn) (hne : x ≠ ro) {lb : Int} (hlb : m.labels[tl]? = some lb) :
    AccSt i (m.at i t ws tr cs) ⟨3, ra, 0, rc, rd, tl⟩ (m.at i (t.next.goto lb) ws (tr ++ [⟨m.moves, i, 3, an, ro, rn, x⟩]) cs) := by
  have han : an < ws.length := (List.getElem?_eq_some_iff.1 hx).1
  have he : (m.at i t ws tr cs).words[an]'han = x := (List.getElem?_eq_some_iff.1 hx).2
  have hll : tl < m.labels.length := (List.getElem?_eq_some_iff.1 hlb).1
  have hle : m.labels[tl] = lb := (List.getElem?_eq_some_iff.1 hlb).2
  have := AccSt.no (i := i) (ro := ro) (rn := rn) (m.at i t ws tr cs) (by rw [at_len]; exact hi) ra hra rd hrd tl rc hrc (an := an) han (by rw [at_T hi]; exact hr) (by rw [at_T hi]; exact hro) (by rw [at_T hi]; exact hrn) (by rw [he]; exact hne) hll
  rw [at_thr hi, at_thr hi, he] at this
  rw [show (m.at i t ws tr cs).labels[tl]'hll = lb from hle] at this
  exact this
end
end Go
