/-
MemoryWriters returns true.
-/
import Derived.Test.YtpmadfokpimjcaaRep
import Derived.Test.YtpmadfokpimjcaaWrB
namespace Go.Proofs.Ytpmadfokpimjcaa
open Go.ChangeShapes Go.WideShapes Go.ChangeAt Go.RowKit

theorem items_zero_snoc (log : List Acc) (k : Nat) (h : k < log.length) : items log 0 (k + 1) = items log 0 k ++ [(k, log[k])] := by
  rw [items_snoc _ _ _ (Nat.zero_le _)]
  simp [List.getD, h]
theorem lastW_zero (a : Int) (log : List Acc) : lastW a (items log 0 0) = (-1, -1) := by simp [items_none, lastW]

set_option maxRecDepth 100000 in
set_option maxHeartbeats 4000000 in
theorem wri_ok {w : World} {vx va : Value} {l : List Int} {ops : List OpS} (hs : w.Src 1 vx l.length (u64s l)) (hn : l.length ≤ 8192) (ho : OpsIn w va ops) (hm : ops.length ≤ 2999999999999) (ad : Int) : Calls Try.prog 7 #[vx, va, .int .i64 ad] w fun e w' => e = .returned (.bool true) ∧ Below w.heap.size w w' := by
  have HM := Lib.hid (made_ok hs hn)
  obtain ⟨ox, cx, rfl⟩ : ∃ o c, vx = .slice o l.length c := by
    rcases hs.2 with ⟨rfl, h0⟩ | ⟨ad, c, rfl, hc, _⟩
    · exact ⟨none, 0, by rw [h0]⟩
    · exact ⟨some ad, c, rfl⟩
  obtain ⟨oo, co, rfl, hops⟩ := ho
  have HO := Lib.hid hops
  clear hs hops
  go_enter Try.func7, Try.ntmps7
  go_wp2_with fail
  refine HM.out.mono ?_
  rintro e w1 ⟨mb, v, rfl, hM, hb⟩
  have H1 := Lib.hid hM
  have B1 := Lib.hid hb
  clear hM hb
  go_wp2
  go_loopg [8] ops.length (fun g sl wr => ∃ k : Nat, k ≤ ops.length ∧ ops.length ≤ k + g ∧ sl = .int .i64 (k : Int) ∧ Hid (∃ v, MemAt wr w.heap.size mb (accs1 l (ops.take k)) v) ∧ Hid (Below w.heap.size w wr))
  case atStart => exact ⟨0, by omega, by omega, rfl, ⟨v, H1.out⟩, B1⟩
  case round =>
    obtain ⟨k, hk, hg, rfl, hMk, hBk⟩ := hrel
    by_cases hlk : k < ops.length
    · obtain ⟨b, off, rfl, hlt, c0, c1, c2, c3, c4, c5⟩ := HO.out k hlk
      have tr : ∀ j u, w.cell? ⟨b, j, none⟩ = some u → wr.cell? ⟨b, j, none⟩ = some u := fun j u hu => (hBk.out.cell (p := ⟨b, j, none⟩) hlt).trans hu
      have d0 := tr _ _ c0
      have d1 := tr _ _ c1
      have d2 := tr _ _ c2
      have d3 := tr _ _ c3
      have d4 := tr _ _ c4
      have d5 := tr _ _ c5
      simp only [Nat.add_zero] at d0
      clear c0 c1 c2 c3 c4 c5 tr
      obtain ⟨vk, hMk'⟩ := hMk.out
      have hln := accs1_len l (ops.take k)
      rw [List.length_take] at hln
      have hga := (accs1_good l (ops.take k)).ahead
      have HA := Lib.hid (access_any hMk' (by omega) (by omega) ops[k].kd ops[k].th ops[k].ad ops[k].n ops[k].old ops[k].w)
      have hnx : accF (accs1 l (ops.take k)) ⟨ops[k].kd, ops[k].th, ops[k].ad, ops[k].n, ops[k].old, ops[k].w⟩ = accs1 l (ops.take (k + 1)) := by
        rw [take_next ops k hlk, accs_snocF]
      have HN := Lib.hid hnx
      have HK := Lib.hid hMk'
      clear hMk' hln hga hnx
      generalize ops[k].kd = z0 at *
      generalize ops[k].th = z1 at *
      generalize ops[k].ad = z2 at *
      generalize ops[k].n = z3 at *
      generalize ops[k].old = z4 at *
      generalize ops[k].w = z5 at *
      go_wp2_with fail
      refine HA.out.mono ?_
      rintro e w2 ⟨rfl, v2, k1, k2, k3⟩
      rw [HN.out] at k1
      have hb2 : Below w.heap.size w w2 := hBk.out.trans (k2.below (fun i hi => (HK.out.lt i hi).1) hBk.out.size)
      have K1 := Lib.hid k1
      have B2 := Lib.hid hb2
      clear k1 k2 k3 hb2
      go_wp2
      go_roundg (ops.length - (k + 1))
      case measure => omega
      case rel => exact ⟨k + 1, by omega, by omega, by go_num, ⟨v2, K1.out⟩, B2⟩
    · obtain rfl : k = ops.length := by omega
      obtain ⟨vk, hMk'⟩ := hMk.out
      rw [List.take_length] at hMk'
      have hln := accs1_len l ops
      have hwl := (accs1_good l ops).len
      generalize accs1 l ops = st at *
      have HL := Lib.hid (logged_full hMk' (by omega) ((ops.length : Int) + 1) (by omega))
      have HK := Lib.hid hMk'
      clear hMk' hMk
      go_wp2_with fail
      refine HL.out.mono ?_
      rintro e w3 ⟨on, cn, ol, cl, rfl, n1, n2, n3, n4, hr1, hr2, hb3⟩
      have hM3 : MemAt w3 w.heap.size mb st vk := HK.out.of_block fun i hi => hb3.block i (HK.out.lt i hi).2
      have HC := Lib.hid (count_mem hM3)
      have HR2 := Lib.hid hr2
      have hB3 : Below w.heap.size w w3 := hBk.out.trans (hb3.mono hBk.out.size)
      have HB3 := Lib.hid hB3
      have hne : ((st.log.length : Int) != (st.log.length : Int)) = false := by simp
      by_cases had : 0 ≤ ad ∧ ad < (l.length : Int)
      · obtain ⟨j, rfl⟩ : ∃ j : Nat, ad = (j : Int) := ⟨ad.toNat, by omega⟩
        have hj : j < l.length := by omega
        have HW := Lib.hid (writer_any hM3 (by omega) j (by omega))
        have q1 : decide ((j : Int) < 0) = false := by simp
        have q2 : decide ((l.length : Int) ≤ (j : Int)) = false := by simp; omega
        have q3 : decide (l.length ≤ j) = false := by simp; omega
        clear hr1 hr2 hM3 hB3 hb3 had
        go_wp2_with (go_at_call 17; refine HC.out.mono ?_; rintro e w4 ⟨rfl, rfl⟩)
        refine HW.out.mono ?_
        rintro e w4 ⟨rfl, hb4⟩
        generalize hTN : lastW (j : Int) (items st.log 0 st.log.length) = TN
        have HTN := Lib.hid hTN
        clear hTN
        obtain ⟨tT, tN⟩ := TN
        have hr4 : w4.RowV w.heap.size 45 7 (.slice ol st.log.length cl) st.log.length (accs st.log) := (HR2.out.of_block fun i hi => hb4.block i (HR2.out.lt i hi).2).base_mono hBk.out.size
        have HB4 : Hid (Below w.heap.size w w4) := HB3.out.trans (hb4.mono HB3.out.size)
        have HR4 := Lib.hid hr4
        clear hr4 hb4
        simp only
        go_wp2_with (go_at_call 14; refine (num_any _ _).mono ?_; rintro e w5 ⟨rfl, rfl⟩)
        go_loopg [15, 16, 17] st.log.length (fun g s1 s2 s3 wr => ∃ (k : Nat) (t n : Int), k ≤ st.log.length ∧ st.log.length ≤ k + g ∧ s1 = .int .i64 t ∧ s2 = .int .i64 n ∧ s3 = .int .i64 (k : Int) ∧ Hid (lastW (j : Int) (items st.log 0 k) = (t, n)) ∧ ∃ os d, wr = w4.more os d)
        case atStart => exact ⟨0, -1, -1, by omega, by omega, rfl, rfl, rfl, Lib.hid (lastW_zero _ _), #[], w4.drawn, by simp [World.more]⟩
        case round =>
          obtain ⟨k, t, n, hk, hg, rfl, rfl, rfl, hLk, os, d, rfl⟩ := hrel
          by_cases hlk : k < st.log.length
          · obtain ⟨g2, d2, e2, _, _, s2, _, _, x2⟩ := HR4.out.some_form (by omega)
            cases e2
            have xa : ∀ j u, st.log[k].cells[j]? = some u → j < 7 → w4.cell? ⟨g2, k * 7 + j, none⟩ = some u := fun j u hu hj => x2 (k * 7 + j) u (by rw [accs_get st.log k j hlk hj]; simpa [hlk] using hu)
            have HX : Hid (lastW (j : Int) (items st.log 0 (k + 1)) = lastS (j : Int) (t, n) (k, st.log[k])) := by
              show lastW _ _ = _
              rw [items_zero_snoc st.log k hlk, lastW_snoc, hLk.out]
            generalize hz : st.log[k] = z at *
            obtain ⟨mv, th, kd, a, old, nw, saw⟩ := z
            have z0 := xa 0 _ rfl (by omega)
            have z1 := xa 1 _ rfl (by omega)
            have z2 := xa 2 _ rfl (by omega)
            have z3 := xa 3 _ rfl (by omega)
            have z4 := xa 4 _ rfl (by omega)
            have z5 := xa 5 _ rfl (by omega)
            have z6 := xa 6 _ rfl (by omega)
            simp only [Nat.add_zero] at z0
            simp only at z0 z1 z2 z3 z4 z5 z6
            clear xa x2 hz
            by_cases ha : a = (j : Int)
            · subst ha
              cases hb : accWr ⟨mv, th, kd, (j : Int), old, nw, saw⟩
              all_goals
                have HB := Lib.hid hb
                clear hb
                go_wp2_with (go_at_call 22; refine (writes_any ⟨mv, th, kd, (j : Int), old, nw, saw⟩ _).mono ?_; rintro e w1 ⟨rfl, hb1⟩; obtain ⟨os, d, rfl⟩ := hb1.more; clear hb1; rw [HB.out])
                go_roundg (st.log.length - (k + 1))
                case measure => omega
                case rel => first
                  | exact ⟨k + 1, t, n, by omega, by omega, rfl, rfl, by go_num, Lib.hid (by rw [HX.out]; unfold lastS; rw [if_neg (fun e => by have h1 := e.2; rw [HB.out] at h1; cases h1)]), RowKit.Below.more (by repeat (first | exact Below.refl _ _ | apply Below.drew | apply Below.more1 | apply Below.alloc1))⟩
                  | exact ⟨k + 1, th, (k : Int), by omega, by omega, rfl, rfl, by go_num, Lib.hid (by rw [HX.out]; unfold lastS; rw [if_pos ⟨rfl, HB.out⟩]), RowKit.Below.more (by repeat (first | exact Below.refl _ _ | apply Below.drew | apply Below.more1 | apply Below.alloc1))⟩
            · have hq : (a == (j : Int)) = false := by simpa using ha
              have HA := Lib.hid ha
              clear ha
              go_wp2
              go_roundg (st.log.length - (k + 1))
              case measure => omega
              case rel => exact ⟨k + 1, t, n, by omega, by omega, rfl, rfl, by go_num, Lib.hid (by rw [HX.out]; unfold lastS; rw [if_neg (fun e => HA.out e.1)]), RowKit.Below.more (by repeat (first | exact Below.refl _ _ | apply Below.drew | apply Below.more1 | apply Below.alloc1))⟩
          · obtain rfl : k = st.log.length := by omega
            have e1 := HTN.out.symm.trans hLk.out
            cases e1
            go_wp2_with (go_at_call 14; refine (num_any _ _).mono ?_; rintro e w5 ⟨rfl, rfl⟩)
            go_ret
            exact ⟨by simp, HB4.out.more1 _ _⟩
      · have had' : ad < 0 ∨ (l.length : Int) ≤ ad := by omega
        have HW := Lib.hid (writer_bad hM3 ad (by rw [hwl]; exact had'))
        clear hr1 hr2 hM3 hB3 hb3 had
        rcases had' with had' | had'
        all_goals
          go_wp2_with (go_at_call 17; refine HC.out.mono ?_; rintro e w4 ⟨rfl, rfl⟩)
          refine HW.out.mono ?_
          rintro e w4 ⟨rfl, hb4⟩
          have HB4 : Hid (Below w.heap.size w w4) := HB3.out.trans (hb4.mono HB3.out.size)
          clear hb4
          go_wp2_with (go_at_call 14; refine (num_any _ _).mono ?_; rintro e w5 ⟨rfl, rfl⟩)
          go_ret
          exact ⟨rfl, HB4.out⟩

theorem wri_long {w : World} {va : Value} (o : Option Addr) (n c : Nat) (ad : Int) (hn : 8192 < n) (hm : n ≤ 9223372036854775807) : Calls Try.prog 7 #[.slice o n c, va, .int .i64 ad] w fun e w' => e = .returned (.bool true) ∧ Below w.heap.size w w' := by
  go_enter Try.func7, Try.ntmps7
  go_wp2_with (go_at_call 18; refine (awake_any _).mono ?_; rintro e w1 ⟨rfl, hb1⟩; obtain ⟨os, d, rfl⟩ := hb1.more; clear hb1)
  go_ret
  exact ⟨rfl, (by repeat (first | exact Below.refl _ _ | apply Below.drew | apply Below.more1 | apply Below.alloc1))⟩

theorem memoryWriters_walk {w : World} {vx va : Value} {l : List Int} {ops : List OpS} (hs : w.Src 1 vx l.length (u64s l)) (hl : l.length ≤ maxLen) (ho : OpsIn w va ops) (hm : ops.length ≤ 2999999999999) (ad : Int) : Calls Try.prog 7 #[vx, va, .int .i64 ad] w fun e w' => e = .returned (.bool true) ∧ Below w.heap.size w w' := by
  by_cases hn : l.length ≤ 8192
  · exact wri_ok hs hn ho hm ad
  · unfold maxLen at hl
    rcases hs.2 with ⟨rfl, h0⟩ | ⟨a, c, rfl, hc, _⟩
    · omega
    · exact wri_long (some a) l.length c ad (by omega) (by omega)
end Go.Proofs.Ytpmadfokpimjcaa
