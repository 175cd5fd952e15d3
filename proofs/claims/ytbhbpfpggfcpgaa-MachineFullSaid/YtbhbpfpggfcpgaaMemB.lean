/-
memory.Memory: note.
-/
import Derived.Test.YtbhbpfpggfcpgaaMemA
import Derived.Deep.RegionHeld3
import Derived.Deep.RegionLaw
import Derived.Deep.DeepCutAuto
import Derived.Deep.Cut
namespace Go.Proofs.Ytbhbpfpggfcpgaa
open Go.ChangeShapes Go.WideShapes Go.ChangeAt Go.RowKit

theorem infoU64 : (Try.prog.info? 27).map (fun i => (i.zero, i.size, i.bytes)) = some (some (.int .u64 0), 1, 8) := by kernel_rfl
theorem infoAcc : (Try.prog.info? 66).map (fun i => (i.zero, i.size, i.bytes)) = some (some (.agg #[.int .i64 0, .int .i64 0, .int .i64 0, .int .i64 0, .int .u64 0, .int .u64 0, .int .u64 0]), 7, 56) := by kernel_rfl

set_option maxRecDepth 100000 in
set_option maxHeartbeats 2000000 in
theorem note_any {w : World} {base mb : Nat} {st : MemS} {v : MemV} (h : MemAt w base mb st v) (x : Acc) (ahd : Int) (hl1 : st.log.length ≤ 3000000000000) (hl2 : st.ahead.length ≤ 3000000000000) :
    Calls Try.prog 75 #[.pointer (some ⟨mb, 0, none⟩), .agg #[.int .i64 x.mv, .int .i64 x.th, .int .i64 x.kd, .int .i64 x.ad, .int .u64 x.old, .int .u64 x.nw, .int .u64 x.saw], .int .u64 ahd] w fun e w' =>
    e = .returned (.tuple #[]) ∧ MemOut w base mb v (st.note x ahd) w' := by
  obtain ⟨c0, c1, c2, c3, z, lt⟩ := h.head
  have hv := h.slices
  obtain ⟨ow, cw, ol, cl, oa, ca, rfl, l1, l2, l3, m1, m2, m3⟩ := hv
  obtain ⟨i0, hi, hz0, hz1, hz2⟩ := info_parts infoAcc
  have HI := Lib.hid hi
  have HZ0 := Lib.hid hz0
  have HZ1 := Lib.hid hz1
  have HZ2 := Lib.hid hz2
  clear hi hz0 hz1 hz2
  have S1 := Lib.hid (show ∀ u ∈ [Value.int .i64 st.move, .int .i64 x.th, .int .i64 x.kd, .int .i64 x.ad, .int .u64 x.old, .int .u64 x.nw, .int .u64 x.saw], u.oneCell' = true by simp [Value.oneCell'])
  have S2 := Lib.hid (show st.log.length + 1 ≤ maxLen by unfold maxLen; omega)
  have S3 := Lib.hid (show ((st.log.length + 1) + (st.log.length + 1) / 4 + 192) * 56 ≤ 281474976710656 by omega)
  go_enter Try.func75, Try.ntmps75
  go_upto_region 2 with (fail)
  go_cut [] (fun wx => MemOut w base mb ⟨.slice ow st.words.length cw, .slice ol st.log.length cl, .slice oa st.ahead.length ca⟩ { st with log := st.log ++ [{ x with mv := st.move }] } wx)
  case first =>
    go_region_law ((refine step_append_row _ (by rfl) _ _ 38 (by rfl) base 66 i0 _ 7 56 Try.underlying38 HI.out HZ0.out HZ1.out HZ2.out rfl (.slice ol st.log.length cl) st.log.length (accs st.log) (by rfl) (by repeat (first | exact h.rl | apply World.RowV.alloc | apply World.RowV.drew)) _ 1 _ (by rfl) (by repeat (first | apply World.Src.drew | exact World.Src.one rfl (by simp))) S1.out S2.out S3.out (by have := h.base_le; simp; omega) ?_; intro v' w1 hown hout; obtain ⟨o', c', rfl, hn', hm'⟩ := hown.form; obtain ⟨d0, d1, d2, d3, zz, lt1⟩ := hout.head (by repeat (first | exact h | apply MemAt.alloc | apply MemAt.drew)) h.m2; have H1 := Lib.hid (MemAt.app_log (v := ⟨.slice ow st.words.length cw, .slice ol st.log.length cl, .slice oa st.ahead.length ca⟩) (x := { x with mv := st.move }) (by repeat (first | exact h | apply MemAt.alloc | apply MemAt.drew)) hown hout); clear hown hout hm'))
    all_goals
      go_wp2
      go_meet
      exact MemOut.pre (by repeat (first | exact Only.refl _ _ | apply Only.alloc | apply Only.drew)) H1.out
  case rest =>
    have S5 := Lib.hid (show ∀ u ∈ [Value.int .u64 ahd], u.oneCell' = true by simp [Value.oneCell'])
    have S6 := Lib.hid (show st.ahead.length + 1 ≤ maxLen by unfold maxLen; omega)
    have S7 := Lib.hid (show ((st.ahead.length + 1) + (st.ahead.length + 1) / 4 + 192) * 8 ≤ 281474976710656 by omega)
    obtain ⟨j0, ji, jz0, jz1, jz2⟩ := info_parts infoU64
    have JI := Lib.hid ji
    have JZ0 := Lib.hid jz0
    have JZ1 := Lib.hid jz1
    have JZ2 := Lib.hid jz2
    clear ji jz0 jz1 jz2 c0 c1 c2 c3 z lt h
    obtain ⟨v2, k1, k2, k3⟩ := hcut
    have hm0 := k1.base_le
    obtain ⟨e0, e1, e2, e3, ee, el⟩ := k1.head
    obtain ⟨ow2, cw2, ol2, cl2, oa2, ca2, rfl, q1, q2, q3, r1, r2, r3⟩ := k1.slices
    have K1 := Lib.hid k1
    have K2 := Lib.hid k2
    have K3 := Lib.hid k3
    clear k1 k2 k3
    go_wp2_with (at_builtin; refine wpList_append_row _ rfl _ _ 28 rfl base 27 j0 _ 1 8 Try.underlying28 JI.out JZ0.out JZ1.out JZ2.out rfl (.slice oa2 st.ahead.length ca2) st.ahead.length (u64s st.ahead) rfl (K1.out.ra.alloc _) _ 1 _ rfl (World.Src.one rfl rfl) S5.out S6.out S7.out (by have := hm0; simp; omega) ?_; intro v' w1 hown hout; obtain ⟨o', c', rfl, hn', hm'⟩ := hown.form; obtain ⟨d0, d1, d2, d3, zz, lt1⟩ := hout.head (K1.out.alloc _) K1.out.m3; have H2 := Lib.hid (MemAt.app_ahead (st := { st with log := st.log ++ [{ x with mv := st.move }] }) (v := ⟨.slice ow2 st.words.length cw2, .slice ol2 (st.log ++ [{ x with mv := st.move }]).length cl2, .slice oa2 st.ahead.length ca2⟩) (K1.out.alloc _) hown hout); clear hown hout hm')
    go_end0
    exact ⟨rfl, MemOut.step K1.out K2.out K3.out (MemOut.pre ((Only.refl _ _).alloc _) H2.out)⟩
end Go.Proofs.Ytbhbpfpggfcpgaa
