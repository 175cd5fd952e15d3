/-
slices.Clone at []api.Call and []api.Shift.
-/
import Derived.Test.YtbhbpfpggfcpgaaMoveB
import Derived.Test.YtbhbpfpggfcpgaaLogA
namespace Go.Proofs.Ytbhbpfpggfcpgaa
open Go.ChangeShapes Go.WideShapes Go.ChangeAt Go.RowKit

set_option maxRecDepth 100000 in
theorem clone_cal {w : World} {vx : Value} {l : List Cal} (hs : w.Src 9 vx l.length (cals l)) (hn : l.length ≤ 3000000000000) : Calls Try.prog 54 #[vx] w (Cloned w 63 9 l.length (cals l)) := by
  obtain ⟨i0, hi, hz0, hz1, hz2⟩ := info_parts infoCall
  have HI := Lib.hid hi
  have HZ0 := Lib.hid hz0
  have HZ1 := Lib.hid hz1
  have HZ2 := Lib.hid hz2
  clear hi hz0 hz1 hz2
  have HS := Lib.hid hs
  rcases hs.2 with ⟨rfl, h0⟩ | ⟨ad, c, rfl, hc, _⟩
  · obtain rfl : l = [] := List.eq_nil_of_length_eq_zero h0
    have hq := fun w => Lib.run_eql_slice_nil (P := Try.prog) w 37 63 none 0 0 0 0 Try.underlying37
    clear hs HS
    go_enter Try.func54, Try.ntmps54
    go_wp2
    go_ret
    exact ⟨none, 0, rfl, Nat.le_refl _, by omega, World.RowV_none _ _ _ _ _, Only.refl _ _⟩
  · have hq := fun w => Lib.run_eql_slice_nil (P := Try.prog) w 37 63 (some ad) l.length c 0 0 Try.underlying37
    have S1 := Lib.hid (cals_one l)
    have S2 := Lib.hid (show 0 + l.length ≤ maxLen by unfold maxLen; omega)
    have S3 := Lib.hid (show ((0 + l.length) + (0 + l.length) / 4 + 192) * 72 ≤ 281474976710656 by omega)
    clear hs
    go_enter Try.func54, Try.ntmps54
    go_wp2_with (at_builtin; refine wpList_append_row _ rfl _ _ 37 rfl w.heap.size 63 i0 _ 9 72 Try.underlying37 HI.out HZ0.out HZ1.out HZ2.out rfl (.slice (some ⟨w.heap.size, 0, none⟩) 0 0) 0 [] rfl (World.RowV_none _ _ _ _ _) _ l.length (cals l) rfl (HS.out.alloc _) S1.out S2.out S3.out (by simp) ?_; intro v' w1 hown hout; obtain ⟨o', c', rfl, hn', hm'⟩ := hown.form; have H1 := Lib.hid hown; have H2 := Lib.hid hout; clear hown hout; unfold maxLen at hm')
    go_ret
    exact ⟨o', c', rfl, by omega, by omega, by simpa using H1.out, Only.trans ((Only.refl _ _).alloc _) (Only.out (F := fun _ => False) H2.out (by simp [Value.rowBlock])) (fun _ h => h.elim)⟩


set_option maxRecDepth 100000 in
theorem clone_shf {w : World} {vx : Value} {l : List Shf} (hs : w.Src 5 vx l.length (shfs l)) (hn : l.length ≤ 3000000000000) : Calls Try.prog 55 #[vx] w (Cloned w 132 5 l.length (shfs l)) := by
  obtain ⟨i0, hi, hz0, hz1, hz2⟩ := info_parts infoShift
  have HI := Lib.hid hi
  have HZ0 := Lib.hid hz0
  have HZ1 := Lib.hid hz1
  have HZ2 := Lib.hid hz2
  clear hi hz0 hz1 hz2
  have HS := Lib.hid hs
  rcases hs.2 with ⟨rfl, h0⟩ | ⟨ad, c, rfl, hc, _⟩
  · obtain rfl : l = [] := List.eq_nil_of_length_eq_zero h0
    have hq := fun w => Lib.run_eql_slice_nil (P := Try.prog) w 39 132 none 0 0 0 0 Try.underlying39
    clear hs HS
    go_enter Try.func55, Try.ntmps55
    go_wp2
    go_ret
    exact ⟨none, 0, rfl, Nat.le_refl _, by omega, World.RowV_none _ _ _ _ _, Only.refl _ _⟩
  · have hq := fun w => Lib.run_eql_slice_nil (P := Try.prog) w 39 132 (some ad) l.length c 0 0 Try.underlying39
    have S1 := Lib.hid (shfs_one l)
    have S2 := Lib.hid (show 0 + l.length ≤ maxLen by unfold maxLen; omega)
    have S3 := Lib.hid (show ((0 + l.length) + (0 + l.length) / 4 + 192) * 40 ≤ 281474976710656 by omega)
    clear hs
    go_enter Try.func55, Try.ntmps55
    go_wp2_with (at_builtin; refine wpList_append_row _ rfl _ _ 39 rfl w.heap.size 132 i0 _ 5 40 Try.underlying39 HI.out HZ0.out HZ1.out HZ2.out rfl (.slice (some ⟨w.heap.size, 0, none⟩) 0 0) 0 [] rfl (World.RowV_none _ _ _ _ _) _ l.length (shfs l) rfl (HS.out.alloc _) S1.out S2.out S3.out (by simp) ?_; intro v' w1 hown hout; obtain ⟨o', c', rfl, hn', hm'⟩ := hown.form; have H1 := Lib.hid hown; have H2 := Lib.hid hout; clear hown hout; unfold maxLen at hm')
    go_ret
    exact ⟨o', c', rfl, by omega, by omega, by simpa using H1.out, Only.trans ((Only.refl _ _).alloc _) (Only.out (F := fun _ => False) H2.out (by simp [Value.rowBlock])) (fun _ h => h.elim)⟩

end Go.Proofs.Ytbhbpfpggfcpgaa
