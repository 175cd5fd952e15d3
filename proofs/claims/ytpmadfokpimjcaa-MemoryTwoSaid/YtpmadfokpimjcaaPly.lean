/-
MemoryPlays returns true.
-/
import Derived.Test.YtpmadfokpimjcaaPlyA
import Derived.Test.YtpmadfokpimjcaaBks
import Derived.Deep.RegionWith
import Derived.BigRegion
namespace Go.Proofs.Ytpmadfokpimjcaa
open Go.ChangeShapes Go.WideShapes Go.ChangeAt Go.RowKit

/-- both memories between ask and doc -/
structure MidM (w : World) (mb rb : Nat) (l : List Int) (sm sr : MemS) (S : Nat) (W : World) : Prop where
  m : ∃ vm vr, MemAt W w.heap.size mb sm vm ∧ RefAt W w.heap.size rb l sr vr ∧ (∀ i, vm.own mb i → ¬ vr.own rb i) ∧ ∀ i, vr.own rb i → i < S
  hb : Below w.heap.size w W
section
variable {w W W' : World} {mb rb S : Nat} {l : List Int} {st sm sr : MemS}
theorem PairM.below (h : PairM w mb rb l st W) (hb : Below W.heap.size W W') : PairM w mb rb l st W' := by
  obtain ⟨vm, vr, h1, h2, h3⟩ := h.m
  exact ⟨⟨vm, vr, h1.of_block fun k hk => hb.block k (h1.lt k hk).2, h2.of_block fun k hk => hb.block k (h2.lt k hk).2, h3⟩, h.hb.trans (hb.mono h.hb.size)⟩
theorem PairM.drew (h : PairM w mb rb l st W) : PairM w mb rb l st W.drew := h.below (Below.refl _ _).drew
theorem TellAt.keep {H : Nat} {t : TellS} {e : Ending} (h : TellAt H t e W) (ho : Only (fun k => k < H) W W') : TellAt H t e W' := by
  obtain ⟨vn, vw, vl, he, h1, h2, h3⟩ := h
  have nn : ∀ {b sz n : Nat} {v : Value} {xs : List Value}, W.RowV H b sz v n xs → W'.RowV H b sz v n xs := fun hr => hr.of_block fun k hk => ho.block k (hr.lt k hk).2 (fun hx => by have := (hr.lt k hk).1; omega)
  exact ⟨vn, vw, vl, he, nn h1, nn h2, nn h3⟩
theorem pm_ask (h : PairM w mb rb l st W) (hg : Good2 l st) (hl1 : st.log.length ≤ 2999999999999) (hn : l.length ≤ 8192) (kd t a n old x : Int) :
    Calls Try.prog 33 #[.pointer (some ⟨mb, 0, none⟩), .agg #[.int .i64 kd, .int .i64 t, .int .i64 a, .int .i64 n, .int .u64 old, .int .u64 x]] W fun e w' =>
    TellAt W.heap.size (tellF st ⟨kd, t, a, n, old, x⟩) e w' ∧ MidM w mb rb l (nextF st ⟨kd, t, a, n, old, x⟩) st W.heap.size w' := by
  obtain ⟨vm, vr, h1, h2, h3⟩ := h.m
  refine (ask_all h1 hg hl1 (by rw [hg.toGood.len]; omega) kd t a n old x).mono ?_
  rintro e w' ⟨ht, v', k1, k2, k3⟩
  refine ⟨ht, ⟨v', vr, k1, h2.of_block fun i hi => k2.block i (h2.lt i hi).2 (fun hx => h3 i hx hi), fun i hi hj => ?_, fun i hi => (h2.lt i hi).2⟩, h.hb.trans (k2.below (fun i hi => (h1.lt i hi).1) h.hb.size)⟩
  rcases k3 i hi with h4 | h4
  · exact h3 i h4 hj
  · have := (h2.lt i hj).2
    omega
theorem pm_doc {nx : MemS} (h : MidM w mb rb l nx st S W) (hg : Good2 l st) (hl1 : st.log.length ≤ 2999999999999) (hn : l.length ≤ 8192) (kd t a n old x : Int) (hx : nx = nextF st ⟨kd, t, a, n, old, x⟩) :
    Calls Try.prog 34 #[.pointer (some ⟨rb, 0, none⟩), .agg #[.int .i64 kd, .int .i64 t, .int .i64 a, .int .i64 n, .int .u64 old, .int .u64 x]] W fun e w' =>
    TellAt W.heap.size (tellF st ⟨kd, t, a, n, old, x⟩) e w' ∧ PairM w mb rb l (nextF st ⟨kd, t, a, n, old, x⟩) w' ∧ Only (fun k => k < S) W w' := by
  subst hx
  obtain ⟨vm, vr, h1, h2, h3, h4⟩ := h.m
  refine (doc_all h2 hg hl1 (by omega) kd t a n old x).mono ?_
  rintro e w' ⟨ht, v', k1, k2, k3⟩
  refine ⟨ht, ⟨⟨vm, v', h1.of_block fun i hi => k2.block i (h1.lt i hi).2 (fun hx => h3 i hi hx), k1, fun i hi hj => ?_⟩, h.hb.trans (k2.below (fun i hi => (h2.lt i hi).1) h.hb.size)⟩, k2.mono (fun k _ hk => h4 k hk)⟩
  rcases k3 i hj with h5 | h5
  · exact h3 i hi h5
  · have := (h1.lt i hi).2
    omega
theorem pm_same {H H' : Nat} {t : TellS} {v1 v2 : Value} (h1 : TellAt H t (.returned v1) W) (h2 : TellAt H' t (.returned v2) W) : Calls Try.prog 32 #[v1, v2] W fun e w' => e = .returned (.bool true) ∧ Below W.heap.size W w' := by
  obtain ⟨vn, vw, vl, he, a1, a2, a3⟩ := h1
  obtain ⟨un, uw, ul, hf, b1, b2, b3⟩ := h2
  cases he
  cases hf
  exact same_yes a1 b1 a2 b2 a3 b3
end

set_option maxRecDepth 100000 in
set_option maxHeartbeats 8000000 in
theorem ply_ok {w : World} {vx va : Value} {l : List Int} {ops : List OpS} (hs : w.Src 1 vx l.length (u64s l)) (hn : l.length ≤ 8192) (ho : OpsIn w va ops) (hm : ops.length ≤ 2999999999999) : Calls Try.prog 10 #[vx, va] w fun e w' => e = .returned (.bool true) ∧ Below w.heap.size w w' := by
  have HB := Lib.hid (begin_ok hs hn)
  obtain ⟨ox, cx, rfl⟩ : ∃ o c, vx = .slice o l.length c := by
    rcases hs.2 with ⟨rfl, h0⟩ | ⟨ad, c, rfl, hc, _⟩
    · exact ⟨none, 0, by rw [h0]⟩
    · exact ⟨some ad, c, rfl⟩
  obtain ⟨oo, co, rfl, hops⟩ := ho
  have HO := Lib.hid hops
  clear hs hops
  go_enter Try.func10, Try.ntmps10
  go_wp2_with fail
  refine HB.out.mono ?_
  rintro e w1 ⟨mb, rb, rfl, hp⟩
  have HP := Lib.hid hp
  clear hp HB
  go_wp2
  go_loopg [8] ops.length (fun g sl wr => ∃ k : Nat, k ≤ ops.length ∧ ops.length ≤ k + g ∧ sl = .int .i64 (k : Int) ∧ Hid (∃ st, Good2 l st ∧ st.log.length ≤ k ∧ PairM w mb rb l st wr))
  case atStart => exact ⟨0, by omega, by omega, rfl, Lib.hid ⟨_, Good2.start l, by simp, HP.out⟩⟩
  case round =>
    clear HP
    obtain ⟨k, hk, hg, rfl, hS⟩ := hrel
    obtain ⟨st, hgd, hll, hp⟩ := hS.out
    have HP := Lib.hid hp
    have HG := Lib.hid hgd
    by_cases hlk : k < ops.length
    · obtain ⟨b, off, rfl, d0, d1, d2, d3, d4, d5⟩ := op_cells HO.out hp.hb k hlk
      have HCL : Hid (∀ w9, Below w.heap.size w w9 → _) := fun w9 hb9 => op_cells HO.out hb9 k hlk
      have hlt := World.block_lt_of_cell? wr _ d0
      generalize ops[k].kd = z0 at *
      generalize ops[k].th = z1 at *
      generalize ops[k].ad = z2 at *
      generalize ops[k].n = z3 at *
      generalize ops[k].old = z4 at *
      generalize ops[k].w = z5 at *
      clear hp hgd hS
      go_upto_region 7 with (fail)
      go_region_with (first
        | (go_at_call 33; refine (pm_ask (by first | exact HP.out | exact HP.out.drew) HG.out (by omega) hn z0 z1 z2 z3 z4 z5).mono ?_; rintro e w2 ⟨ht, hmd⟩; have ht0 := ht; obtain ⟨vn, vw, vl, rfl, _, _, _⟩ := ht; obtain ⟨b', off', eb, f0, f1, f2, f3, f4, f5⟩ := HCL.out w2 hmd.hb; cases eb; have HT1 := Lib.hid ht0; have HMD := Lib.hid hmd; clear ht0 hmd)
        | (go_at_call 34; refine (pm_doc HMD.out HG.out (by omega) hn z0 z1 z2 z3 z4 z5 rfl).mono ?_; rintro e w3 ⟨ht, hpm, hon⟩; have ht0 := ht; obtain ⟨un, uw, ul, rfl, _, _, _⟩ := ht; have HT2 := Lib.hid ht0; have HT3 := Lib.hid (HT1.out.keep hon); have HPM := Lib.hid hpm; clear ht0 hpm hon)
        | (go_at_call 32; refine (pm_same HT3.out HT2.out).mono ?_; rintro e w4 ⟨rfl, hb4⟩; have HP4 := Lib.hid (HPM.out.below hb4); clear hb4))
      all_goals
        go_wp2
        go_roundg (ops.length - (k + 1))
        case measure => omega
        case rel => exact ⟨k + 1, by omega, by omega, by go_num, Lib.hid ⟨_, HG.out.next ⟨z0, z1, z2, z3, z4, z5⟩, by have := nextF_log st ⟨z0, z1, z2, z3, z4, z5⟩; omega, HP4.out⟩⟩
    · obtain rfl : k = ops.length := by omega
      have NX : Hid (nextF st ⟨7, 0, 0, 0, 0, 0⟩ = st) := by show nextF st ⟨7, 0, 0, 0, 0, 0⟩ = st; simp [nextF]
      have hwl := hgd.toGood.len
      have HWL := Lib.hid hwl
      clear hp hgd hS hwl
      go_upto_region 9 with (fail)
      go_region_with (first
        | (go_at_call 33; refine (pm_ask (by first | exact HP.out | exact HP.out.drew) HG.out (by omega) hn 7 0 0 0 0 0).mono ?_; rintro e w2 ⟨ht, hmd⟩; rw [NX.out] at hmd; have ht0 := ht; obtain ⟨vn, vw, vl, rfl, _, _, _⟩ := ht; have HT1 := Lib.hid ht0; have HMD := Lib.hid hmd; clear ht0 hmd)
        | (go_at_call 34; refine (pm_doc HMD.out HG.out (by omega) hn 7 0 0 0 0 0 NX.out.symm).mono ?_; rintro e w3 ⟨ht, hpm, hon⟩; rw [NX.out] at hpm; have ht0 := ht; obtain ⟨un, uw, ul, rfl, _, _, _⟩ := ht; have HT2 := Lib.hid ht0; have HT3 := Lib.hid (HT1.out.keep hon); have HPM := Lib.hid hpm; clear ht0 hpm hon)
        | (go_at_call 32; refine (pm_same HT3.out HT2.out).mono ?_; rintro e w4 ⟨rfl, hb4⟩; have HP4 := Lib.hid (HPM.out.below hb4); obtain ⟨vm4, vr4, p1, p2, p3⟩ := HP4.out.m; obtain ⟨ow, cw, ol, cl, oa, ca, rfl, l1, l2, l3, m1, m2, m3⟩ := p2.slices; obtain ⟨c0, c1, c2, c3, cz, clt⟩ := p2.head; simp only at c0 c1 c2 c3; have P1 := Lib.hid p1; have P2 := Lib.hid p2; clear hb4 p1 p2 p3)
        | (go_at_call 24; refine (words_mem P1.out (by rw [HWL.out]; omega)).mono ?_; rintro e w5 ⟨o5, c5, rfl, n5, m5, hr5, ho5⟩; have p2 := P2.out.of_block (w' := w5) (fun i hi => ho5.block i (P2.out.lt i hi).2 (fun hx => hx)); obtain ⟨g0, g1, g2, g3, gz, glt⟩ := p2.head; simp only at g0 g1 g2 g3; have HSW := Lib.hid (sameWords_yes hr5 p2.rn); have HB5 : Hid (Below w.heap.size w w5) := HP4.out.hb.trans (ho5.below (fun _ hx => hx.elim) HP4.out.hb.size); clear hr5 p2 ho5)
        | (go_at_call 23; refine HSW.out.mono ?_; rintro e w6 ⟨rfl, hb6⟩; have HB6 : Hid (Below w.heap.size w w6) := HB5.out.trans (hb6.mono HB5.out.size); clear hb6))
      all_goals
        go_wp2
        go_ret
        exact ⟨rfl, HB6.out⟩

set_option maxRecDepth 100000 in
theorem ply_long {w : World} {va : Value} (o : Option Addr) (n c : Nat) (hn : 8192 < n) (hm : n ≤ 9223372036854775807) : Calls Try.prog 10 #[.slice o n c, va] w fun e w' => e = .returned (.bool true) ∧ Below w.heap.size w w' := by
  go_enter Try.func10, Try.ntmps10
  go_wp2_with (go_at_call 31; refine (begin_long o n c hn hm).mono ?_; rintro e w1 ⟨rfl, rfl⟩)
  go_ret
  exact ⟨rfl, (by repeat (first | exact Below.refl _ _ | apply Below.drew | apply Below.more1 | apply Below.alloc1))⟩

theorem memoryPlays_walk {w : World} {vx va : Value} {l : List Int} {ops : List OpS} (hs : w.Src 1 vx l.length (u64s l)) (hl : l.length ≤ maxLen) (ho : OpsIn w va ops) (hm : ops.length ≤ 2999999999999) : Calls Try.prog 10 #[vx, va] w fun e w' => e = .returned (.bool true) ∧ Below w.heap.size w w' := by
  by_cases hn : l.length ≤ 8192
  · exact ply_ok hs hn ho hm
  · unfold maxLen at hl
    rcases hs.2 with ⟨rfl, h0⟩ | ⟨a, c, rfl, hc, _⟩
    · omega
    · exact ply_long (some a) l.length c (by omega) (by omega)
end Go.Proofs.Ytpmadfokpimjcaa
