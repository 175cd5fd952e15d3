/-
reclaimlaw02.behind: words with the writes of a log made in their order.
-/
import Derived.Test.YtpmadfokpimjcaaRep
import Derived.Test.YtpmadfokpimjcaaTail
namespace Go.Proofs.Ytpmadfokpimjcaa
open Go.ChangeShapes Go.WideShapes Go.ChangeAt Go.RowKit

set_option maxRecDepth 100000 in
set_option maxHeartbeats 4000000 in
theorem behind_ok {w : World} {base : Nat} {vx vl : Value} {l : List Int} {log : List Acc} (hs : w.Src 1 vx l.length (u64s l)) (hn : l.length ≤ 3000000000000)
    (hlog : w.RowV base 45 7 vl log.length (accs log)) (hin : ∀ a ∈ log, 0 ≤ a.ad ∧ a.ad < (l.length : Int)) : Calls Try.prog 25 #[vx, vl] w fun e w' =>
    ∃ o c, e = .returned (.tuple #[.slice o l.length c, .bool true]) ∧ l.length ≤ c ∧ c ≤ 9223372036854775807 ∧ w'.RowV w.heap.size 23 1 (.slice o l.length c) l.length (u64s (log.foldl wrF l)) ∧ Below w.heap.size w w' := by
  have HS := Lib.hid hs
  have HL := Lib.hid hlog
  have HI := Lib.hid hin
  obtain ⟨ox, cx, rfl⟩ : ∃ o c, vx = .slice o l.length c := by
    rcases hs.2 with ⟨rfl, h0⟩ | ⟨ad, c, rfl, hc, _⟩
    · exact ⟨none, 0, by rw [h0]⟩
    · exact ⟨some ad, c, rfl⟩
  obtain ⟨ol, cl, rfl, hlc, hlm⟩ := hlog.form
  unfold maxLen at hlm
  obtain ⟨i0, hi, hz0, hz1, hz2⟩ := info_parts infoU64
  have HI0 := Lib.hid hi
  have HZ0 := Lib.hid hz0
  have HZ1 := Lib.hid hz1
  have HZ2 := Lib.hid hz2
  have S1 := Lib.hid (u64s_one l)
  have S2 := Lib.hid (show 0 + l.length ≤ maxLen by unfold maxLen; omega)
  have S3 := Lib.hid (show ((0 + l.length) + (0 + l.length) / 4 + 192) * 8 ≤ 281474976710656 by omega)
  clear hi hz0 hz1 hz2 hs hlog hin
  go_enter Try.func25, Try.ntmps25
  go_wp2_with (at_builtin; refine wpList_append_row _ rfl _ _ 22 rfl w.heap.size 23 i0 _ 1 8 Try.underlying22 HI0.out HZ0.out HZ1.out HZ2.out rfl (.slice none 0 0) 0 [] rfl (World.RowV_none _ _ _ _ _) _ l.length (u64s l) rfl HS.out S1.out S2.out S3.out (Nat.le_refl _) ?_; intro v' w5 hown hout; obtain ⟨o5, c5, rfl, hn5, hm5⟩ := hown.form; have HN5 := Lib.hid hown; have HO5 := Lib.hid hout; clear hown hout; unfold maxLen at hm5)
  have hb5 : Below w.heap.size w w5 := by
    have ho : w5.os = w.os ∧ w5.tape = w.tape ∧ w5.output = w.output := by
      rcases HO5.out with ⟨_, _, _, hg⟩ | ⟨_, _, hg⟩ <;> exact ⟨hg.os, hg.tape, hg.output⟩
    exact ⟨ho.1, ho.2.1, ho.2.2, HO5.out.size, fun k hk => HO5.out.block hk (by simp [Value.rowBlock])⟩
  have HB5 := Lib.hid hb5
  clear hb5
  go_loopg [7] log.length (fun g sl wr => ∃ k : Nat, k ≤ log.length ∧ log.length ≤ k + g ∧ sl = .int .i64 (k : Int) ∧ Hid (wr.RowV w.heap.size 23 1 (.slice o5 l.length c5) l.length (u64s ((log.take k).foldl wrF l))) ∧ Hid (Below w.heap.size w wr))
  case atStart => exact ⟨0, by omega, by omega, rfl, Lib.hid (by simpa using HN5.out), HB5⟩
  case round =>
    obtain ⟨k, hk, hg, rfl, hRk, hBk⟩ := hrel
    by_cases hlk : k < log.length
    · have hrl := HL.out.of_block fun i hi => hBk.out.block i (HL.out.lt i hi).2
      obtain ⟨g2, d2, e2, _, _, s2, t2, _, x2⟩ := hrl.some_form (by omega)
      have hg2 := (HL.out.lt _ t2).2
      cases e2
      have xa : ∀ j u, log[k].cells[j]? = some u → j < 7 → wr.cell? ⟨g2, k * 7 + j, none⟩ = some u := fun j u hu hj => x2 (k * 7 + j) u (by rw [accs_get log k j hlk hj]; simpa [hlk] using hu)
      have hws : (log.take (k + 1)).foldl wrF l = wrF ((log.take k).foldl wrF l) log[k] := by rw [take_next log k hlk, List.foldl_append]; rfl
      have hwl : ((log.take k).foldl wrF l).length = l.length := foldl_wrF_len _ _
      have hin := HI.out log[k] (List.getElem_mem _)
      generalize hz : log[k] = z at *
      obtain ⟨mv, th, kd, ad, old, nw, saw⟩ := z
      have z0 := xa 0 _ rfl (by omega)
      have z1 := xa 1 _ rfl (by omega)
      have z2 := xa 2 _ rfl (by omega)
      have z3 := xa 3 _ rfl (by omega)
      have z4 := xa 4 _ rfl (by omega)
      have z5 := xa 5 _ rfl (by omega)
      have z6 := xa 6 _ rfl (by omega)
      simp only [Nat.add_zero] at z0
      simp only at z0 z1 z2 z3 z4 z5 z6 hin
      obtain ⟨j, rfl⟩ : ∃ j : Nat, ad = (j : Int) := ⟨ad.toNat, by omega⟩
      have hj : j < l.length := by omega
      obtain ⟨g3, d3, e3, _, b3, s3, t3, f3, x3⟩ := hRk.out.some_form (by omega)
      cases e3
      have y3 := x3 j _ (u64s_get (by omega))
      have f3' := f3 j
      have HWS := Lib.hid hws
      have T3 := Lib.hid t3
      have B3 := Lib.hid b3
      generalize (log.take k).foldl wrF l = ws at *
      generalize ws.getD j 0 = y at *
      clear xa x2 x3 hz hws hwl t3 f3 b3 hrl hin t2
      have q1 : decide ((j : Int) < 0) = false := by simp
      have q2 : decide ((l.length : Int) ≤ (j : Int)) = false := by simp; omega
      have q3 : decide (l.length ≤ j) = false := by simp; omega
      cases hb : accWr ⟨mv, th, kd, (j : Int), old, nw, saw⟩
      · have HB := Lib.hid hb
        clear hb
        go_wp2_with (go_at_call 22; refine (writes_any ⟨mv, th, kd, (j : Int), old, nw, saw⟩ _).mono ?_; rintro e w1 ⟨rfl, hb1⟩; obtain ⟨os, d, rfl⟩ := hb1.more; clear hb1; rw [HB.out])
        go_roundg (log.length - (k + 1))
        case measure => omega
        case rel => exact ⟨k + 1, by omega, by omega, by go_num, Lib.hid (by rw [HWS.out]; unfold wrF; rw [HB.out]; exact hRk.out.more _ _), Lib.hid (hBk.out.more1 _ _)⟩
      · have HB := Lib.hid hb
        clear hb
        go_wp2_with (go_at_call 22; refine (writes_any ⟨mv, th, kd, (j : Int), old, nw, saw⟩ _).mono ?_; rintro e w1 ⟨rfl, hb1⟩; obtain ⟨os, d, rfl⟩ := hb1.more; clear hb1; rw [HB.out])
        go_wp2
        refine wp_region_more_tail 12 (by kernel_rfl) (by kernel_rfl) ?_
        simp only [List.take_succ_cons, List.take_zero, List.drop_succ_cons, List.drop_zero]
        repeat (first | go_big_quiet_skip | (go_big_quiet_want; go_big_quiet_op; first | go_big_quiet_on | (apply Exists.intro; refine ⟨fun _ => ?_, ?_⟩; (focus (fail)); go_big_quiet_on)))
        refine wpQuiet_nil ?_
        intro osq dq
        go_wp2
        go_roundg (log.length - (k + 1))
        case measure => omega
        case rel =>
          refine ⟨k + 1, by omega, by omega, by go_num, Lib.hid ?_, Lib.hid ?_⟩
          · rw [HWS.out]
            unfold wrF
            rw [if_pos HB.out]
            have := hRk.out.put T3.out j (by omega) (.int .u64 nw)
            simp only [u64s, List.map_set, Int.toNat_natCast] at this ⊢
            repeat (first | exact this | apply World.RowV.more)
          · repeat (first | exact hBk.out.setCell (by show w.heap.size ≤ g3; exact B3.out) _ | apply Below.more1)
    · obtain rfl : k = log.length := by omega
      have hR := hRk.out
      rw [List.take_length] at hR
      have HR := Lib.hid hR
      clear hR
      go_wp2
      exact bodyPost_ret (v := .tuple #[.slice o5 l.length c5, .bool true]) (by simp [results, Try.results25, go_sem]) rfl ⟨o5, c5, rfl, by omega, by omega, HR.out, hBk.out⟩
end Go.Proofs.Ytpmadfokpimjcaa
