/-
reclaimref02: After, Back, Writer, New.
-/
import Derived.Test.YtpmadfokpimjcaaRefA
import Derived.Test.YtpmadfokpimjcaaRep
import Derived.Test.YtpmadfokpimjcaaTail
import Derived.Test.YtpmadfokpimjcaaBackP
import Derived.Test.YtpmadfokpimjcaaFreP
import Derived.Test.YtpmadfokpimjcaaWri
namespace Go.Proofs.Ytpmadfokpimjcaa
open Go.ChangeShapes Go.WideShapes Go.ChangeAt Go.RowKit

/-- an append to a nil slice makes a block of its own -/
theorem _root_.Go.RowOut.fresh {w w' : World} {o : Option Addr} {v' : Value} {m : Nat} (ho : RowOut w w' (.slice o 0 0) v' 0 m) : Below w.heap.size w w' := by
  have h3 : w'.os = w.os ∧ w'.tape = w.tape ∧ w'.output = w.output := by
    rcases ho with ⟨_, _, _, hg⟩ | ⟨_, _, hg⟩ <;> exact ⟨hg.os, hg.tape, hg.output⟩
  refine ⟨h3.1, h3.2.1, h3.2.2, ho.size, fun k hk => ho.block hk ?_⟩
  cases o <;> simp [Value.rowBlock]

set_option maxRecDepth 100000 in
set_option maxHeartbeats 4000000 in
theorem after_ok {w : World} {base : Nat} {vx vl : Value} {l : List Int} {log : List Acc} (hs : w.Src 1 vx l.length (u64s l)) (hn : l.length ≤ 3000000000000)
    (hlog : w.RowV base 45 7 vl log.length (accs log)) (hin : ∀ a ∈ log, 0 ≤ a.ad ∧ a.ad < (l.length : Int)) : Calls Try.prog 53 #[vx, vl] w fun e w' =>
    ∃ o c, e = .returned (.slice o l.length c) ∧ l.length ≤ c ∧ c ≤ 9223372036854775807 ∧ w'.RowV w.heap.size 23 1 (.slice o l.length c) l.length (u64s (log.foldl wrF l)) ∧ Below w.heap.size w w' := by
  have HS := Lib.hid hs
  have HL := Lib.hid hlog
  have HI := Lib.hid hin
  obtain ⟨ox, cx, rfl⟩ : ∃ o c, vx = .slice o l.length c := by
    rcases hs.2 with ⟨rfl, h0⟩ | ⟨ad, c, rfl, hc, _⟩
    · exact ⟨none, 0, by rw [h0]⟩
    · exact ⟨some ad, c, rfl⟩
  obtain ⟨ol, cl, rfl, hlc, hlm⟩ := hlog.form
  unfold maxLen at hlm
  obtain ⟨i0, hi, hz0, hz1, hz2⟩ := info_parts infoU64
  have HI0 := Lib.hid hi
  have HZ0 := Lib.hid hz0
  have HZ1 := Lib.hid hz1
  have HZ2 := Lib.hid hz2
  have S1 := Lib.hid (u64s_one l)
  have S2 := Lib.hid (show 0 + l.length ≤ maxLen by unfold maxLen; omega)
  have S3 := Lib.hid (show ((0 + l.length) + (0 + l.length) / 4 + 192) * 8 ≤ 281474976710656 by omega)
  clear hi hz0 hz1 hz2 hs hlog hin
  go_enter Try.func53, Try.ntmps53
  go_wp2_with (at_builtin; refine wpList_append_row _ rfl _ _ 22 rfl w.heap.size 23 i0 _ 1 8 Try.underlying22 HI0.out HZ0.out HZ1.out HZ2.out rfl (.slice none 0 0) 0 [] rfl (World.RowV_none _ _ _ _ _) _ l.length (u64s l) rfl HS.out S1.out S2.out S3.out (Nat.le_refl _) ?_; intro v' w5 hown hout; obtain ⟨o5, c5, rfl, hn5, hm5⟩ := hown.form; have HN5 := Lib.hid hown; have HB5 := Lib.hid hout.fresh; clear hown hout; unfold maxLen at hm5)
  go_loopg [6] log.length (fun g sl wr => ∃ k : Nat, k ≤ log.length ∧ log.length ≤ k + g ∧ sl = .int .i64 (k : Int) ∧ Hid (wr.RowV w.heap.size 23 1 (.slice o5 l.length c5) l.length (u64s ((log.take k).foldl wrF l))) ∧ Hid (Below w.heap.size w wr))
  case atStart => exact ⟨0, by omega, by omega, rfl, Lib.hid (by simpa using HN5.out), HB5⟩
  case round =>
    obtain ⟨k, hk, hg, rfl, hRk, hBk⟩ := hrel
    by_cases hlk : k < log.length
    · have hrl := HL.out.of_block fun i hi => hBk.out.block i (HL.out.lt i hi).2
      obtain ⟨g2, d2, e2, _, _, s2, t2, _, x2⟩ := hrl.some_form (by omega)
      have hg2 := (HL.out.lt _ t2).2
      cases e2
      have xa : ∀ j u, log[k].cells[j]? = some u → j < 7 → wr.cell? ⟨g2, k * 7 + j, none⟩ = some u := fun j u hu hj => x2 (k * 7 + j) u (by rw [accs_get log k j hlk hj]; simpa [hlk] using hu)
      have hws : (log.take (k + 1)).foldl wrF l = wrF ((log.take k).foldl wrF l) log[k] := by rw [take_next log k hlk, List.foldl_append]; rfl
      have hwl : ((log.take k).foldl wrF l).length = l.length := foldl_wrF_len _ _
      have hin := HI.out log[k] (List.getElem_mem _)
      generalize hz : log[k] = z at *
      obtain ⟨mv, th, kd, ad, old, nw, saw⟩ := z
      have z0 := xa 0 _ rfl (by omega)
      have z1 := xa 1 _ rfl (by omega)
      have z2 := xa 2 _ rfl (by omega)
      have z3 := xa 3 _ rfl (by omega)
      have z4 := xa 4 _ rfl (by omega)
      have z5 := xa 5 _ rfl (by omega)
      have z6 := xa 6 _ rfl (by omega)
      simp only [Nat.add_zero] at z0
      simp only at z0 z1 z2 z3 z4 z5 z6 hin
      obtain ⟨j, rfl⟩ : ∃ j : Nat, ad = (j : Int) := ⟨ad.toNat, by omega⟩
      have hj : j < l.length := by omega
      obtain ⟨g3, d3, e3, _, b3, s3, t3, f3, x3⟩ := hRk.out.some_form (by omega)
      cases e3
      have y3 := x3 j _ (u64s_get (by omega))
      have f3' := f3 j
      have HWS := Lib.hid hws
      have T3 := Lib.hid t3
      have B3 := Lib.hid b3
      generalize (log.take k).foldl wrF l = ws at *
      generalize ws.getD j 0 = y at *
      clear xa x2 x3 hz hws hwl t3 f3 b3 hrl hin t2
      cases hb : accWr ⟨mv, th, kd, (j : Int), old, nw, saw⟩
      · have HB := Lib.hid hb
        clear hb
        go_wp2_with (go_at_call 54; refine (rwrites_any ⟨mv, th, kd, (j : Int), old, nw, saw⟩ _).mono ?_; rintro e w1 ⟨rfl, hb1⟩; obtain ⟨os, d, rfl⟩ := hb1.more; clear hb1; rw [HB.out])
        go_roundg (log.length - (k + 1))
        case measure => omega
        case rel => exact ⟨k + 1, by omega, by omega, by go_num, Lib.hid (by rw [HWS.out]; unfold wrF; rw [HB.out]; exact hRk.out.more _ _), Lib.hid (hBk.out.more1 _ _)⟩
      · have HB := Lib.hid hb
        clear hb
        go_wp2_with (go_at_call 54; refine (rwrites_any ⟨mv, th, kd, (j : Int), old, nw, saw⟩ _).mono ?_; rintro e w1 ⟨rfl, hb1⟩; obtain ⟨os, d, rfl⟩ := hb1.more; clear hb1; rw [HB.out])
        go_wp2
        refine wp_region_more_tail 12 (by kernel_rfl) (by kernel_rfl) ?_
        simp only [List.take_succ_cons, List.take_zero, List.drop_succ_cons, List.drop_zero]
        repeat (first | go_big_quiet_skip | (go_big_quiet_want; go_big_quiet_op; first | go_big_quiet_on | (apply Exists.intro; refine ⟨fun _ => ?_, ?_⟩; (focus (fail)); go_big_quiet_on)))
        refine wpQuiet_nil ?_
        intro osq dq
        go_wp2
        go_roundg (log.length - (k + 1))
        case measure => omega
        case rel =>
          refine ⟨k + 1, by omega, by omega, by go_num, Lib.hid ?_, Lib.hid ?_⟩
          · rw [HWS.out]
            unfold wrF
            rw [if_pos HB.out]
            have := hRk.out.put T3.out j (by omega) (.int .u64 nw)
            simp only [u64s, List.map_set, Int.toNat_natCast] at this ⊢
            repeat (first | exact this | apply World.RowV.more)
          · repeat (first | exact hBk.out.setCell (by show w.heap.size ≤ g3; exact B3.out) _ | apply Below.more1)
    · obtain rfl : k = log.length := by omega
      have hR := hRk.out
      rw [List.take_length] at hR
      have HR := Lib.hid hR
      clear hR
      go_wp2
      go_ret
      exact ⟨o5, c5, rfl, by omega, by omega, HR.out, hBk.out⟩

theorem rback_bad {w : World} {base rb : Nat} {l : List Int} {st : MemS} {v : RefV} (h : RefAt w base rb l st v) (c : Int) (hc : c < 0 ∨ (st.log.length : Int) < c) :
    Calls Try.prog 49 #[.pointer (some ⟨rb, 0, none⟩), .int .i64 c] w fun e w' => e = .returned (.int .i64 21) ∧ w = w' := by
  obtain ⟨c0, c1, c2, c3, z, lt⟩ := h.head
  obtain ⟨ow, cw, ol, cl, oa, ca, rfl, l1, l2, l3, m1, m2, m3⟩ := h.slices
  rcases hc with hc | hc
  all_goals
    go_enter Try.func49, Try.ntmps49
    go_wp2
    go_ret
    exact ⟨rfl, rfl⟩

/-- the document's memory, taken back -/
def MemS.replay (st : MemS) (l : List Int) (c : Nat) : MemS := { st with words := (st.log.take c).foldl wrF l, log := st.log.take c }

section
variable {w w1 w2 : World} {base rb : Nat} {l : List Int} {st : MemS} {v : RefV}
theorem _root_.Go.RefAt.setTrace (h : RefAt w base rb l st v) (hb1 : Below w.heap.size w w1) {vt' : Value} {lg : List Acc} (h5 : w1.RowV w.heap.size 45 7 vt' lg.length (accs lg)) :
    RefAt (w1.setCell ⟨rb, 2, none⟩ vt') base rb l { st with log := lg } { v with vt := vt' } := by
  have h1 := h.of_block (w' := w1) fun k hk => hb1.block k (h.lt k hk).2
  have hbl := h1.blk
  have lt := h.lt
  have hne : vt'.rowBlock ≠ some rb := fun e => by have := (h5.lt rb e).1; have := (lt rb (.inl rfl)).2; omega
  refine ⟨by simp [World.setCell, Array.getElem?_modify, hbl], h.ge, h1.rf.set (fun k hk e => h.m1 (by rw [hk]; exact congrArg some e)) _, h1.rn.set (fun k hk e => h.m2 (by rw [hk]; exact congrArg some e)) _,
    (h5.set (fun k hk e => hne (by rw [hk]; exact congrArg some e)) _).base_mono h.base_le, h.m1, h.m2, hne, h.fn, fun k hk e => ?_, fun k hk e => ?_⟩
  · have := (lt k (.inr (.inl hk))).2; have := (h5.lt k e).1; omega
  · have := (lt k (.inr (.inr (.inl hk)))).2; have := (h5.lt k e).1; omega
theorem _root_.Go.RefAt.setNow (h : RefAt w base rb l st v) (hb1 : Below w.heap.size w w1) {vn' : Value} {ws : List Int} (h5 : w1.RowV w.heap.size 23 1 vn' ws.length (u64s ws)) :
    RefAt (w1.setCell ⟨rb, 1, none⟩ vn') base rb l { st with words := ws } { v with vn := vn' } := by
  have h1 := h.of_block (w' := w1) fun k hk => hb1.block k (h.lt k hk).2
  have hbl := h1.blk
  have lt := h.lt
  have hne : vn'.rowBlock ≠ some rb := fun e => by have := (h5.lt rb e).1; have := (lt rb (.inl rfl)).2; omega
  refine ⟨by simp [World.setCell, Array.getElem?_modify, hbl], h.ge, h1.rf.set (fun k hk e => h.m1 (by rw [hk]; exact congrArg some e)) _, (h5.set (fun k hk e => hne (by rw [hk]; exact congrArg some e)) _).base_mono h.base_le,
    h1.rt.set (fun k hk e => h.m3 (by rw [hk]; exact congrArg some e)) _, h.m1, hne, h.m3, fun k hk e => ?_, h.ft, fun k hk e => ?_⟩
  · have := (lt k (.inr (.inl hk))).2; have := (h5.lt k e).1; omega
  · have := (lt k (.inr (.inr (.inr e)))).2; have := (h5.lt k hk).1; omega
theorem _root_.Go.RefAt.setFirst (h : RefAt w base rb l st v) (hb1 : Below w.heap.size w w1) {vf' : Value} {l' : List Int} (h5 : w1.RowV w.heap.size 23 1 vf' l'.length (u64s l')) :
    RefAt (w1.setCell ⟨rb, 0, none⟩ vf') base rb l' st { v with vf := vf' } := by
  have h1 := h.of_block (w' := w1) fun k hk => hb1.block k (h.lt k hk).2
  have hbl := h1.blk
  have lt := h.lt
  have hne : vf'.rowBlock ≠ some rb := fun e => by have := (h5.lt rb e).1; have := (lt rb (.inl rfl)).2; omega
  refine ⟨by simp [World.setCell, Array.getElem?_modify, hbl], h.ge, (h5.set (fun k hk e => hne (by rw [hk]; exact congrArg some e)) _).base_mono h.base_le, h1.rn.set (fun k hk e => h.m2 (by rw [hk]; exact congrArg some e)) _,
    h1.rt.set (fun k hk e => h.m3 (by rw [hk]; exact congrArg some e)) _, hne, h.m2, h.m3, fun k hk e => ?_, fun k hk e => ?_, h.nt⟩
  · have := (lt k (.inr (.inr (.inl e)))).2; have := (h5.lt k hk).1; omega
  · have := (lt k (.inr (.inr (.inr e)))).2; have := (h5.lt k hk).1; omega
theorem _root_.Go.RefAt.setBoth (h : RefAt w base rb l st v) (hb1 : Below w.heap.size w w1) {vt' vn' : Value} {lg : List Acc} {ws : List Int} (h5 : w1.RowV w.heap.size 45 7 vt' lg.length (accs lg))
    (hb2 : Below (w1.setCell ⟨rb, 2, none⟩ vt').heap.size (w1.setCell ⟨rb, 2, none⟩ vt') w2) (h6 : w2.RowV (w1.setCell ⟨rb, 2, none⟩ vt').heap.size 23 1 vn' ws.length (u64s ws)) :
    RefOut w base rb v l { st with words := ws, log := lg } (w2.setCell ⟨rb, 1, none⟩ vn') := by
  have k1 := h.setTrace hb1 h5
  have k2 := k1.setNow hb2 h6
  have hs1 := hb1.size
  have hsz : (w1.setCell ⟨rb, 2, none⟩ vt').heap.size = w1.heap.size := by simp [World.setCell]
  refine ⟨_, k2, ?_, ?_⟩
  · have o1 : Only (v.own rb) w (w1.setCell ⟨rb, 2, none⟩ vt') := (Only.of_below hb1).set (p := ⟨rb, 2, none⟩) (.inl (.inl rfl)) _
    have o2 := o1.trans (G := fun _ => False) ⟨hb2.os, hb2.tape, hb2.output, hb2.size, fun k hk _ => hb2.block k hk⟩ (fun _ hx => hx.elim)
    exact o2.set (p := ⟨rb, 1, none⟩) (.inl (.inl rfl)) _
  · rintro k (hk | hk | hk | hk)
    · exact .inl (.inl hk)
    · exact .inl (.inr (.inl hk))
    · have := (h6.lt k hk).1
      exact .inr (by omega)
    · have := (h5.lt k hk).1
      exact .inr (by omega)
end

set_option maxRecDepth 100000 in
set_option maxHeartbeats 4000000 in
theorem rback_ok {w : World} {base rb : Nat} {l : List Int} {st : MemS} {v : RefV} (h : RefAt w base rb l st v) (hin : ∀ a ∈ st.log, 0 ≤ a.ad ∧ a.ad < (l.length : Int)) (hl : st.log.length ≤ 3000000000000) (hn : l.length ≤ 3000000000000) (c : Nat) (hc : c ≤ st.log.length) :
    Calls Try.prog 49 #[.pointer (some ⟨rb, 0, none⟩), .int .i64 (c : Int)] w fun e w' => e = .returned (.int .i64 0) ∧ RefOut w base rb v l (MemS.replay st l c) w' := by
  obtain ⟨c0, c1, c2, c3, z, lt⟩ := h.head
  obtain ⟨ow, cw, ol, cl, oa, ca, rfl, l1, l2, l3, m1, m2, m3⟩ := h.slices
  have HH := Lib.hid h
  have HIN := Lib.hid hin
  have tl : (st.log.take c).length = c := by simp; omega
  have hsrc : w.Src 7 (.slice oa c ca) c (accs (st.log.take c)) := by
    rw [accs_take]
    exact (h.rt.shorter hc).src
  have HS := Lib.hid hsrc
  have TL := Lib.hid tl
  have hd0 : decide (st.log.length < c) = false := by simp; omega
  have hd1 : decide ((st.log.length : Int) < (c : Int)) = false := by simp; omega
  have hd2 : decide ((c : Int) < 0) = false := by simp
  have lca : c ≤ ca := by omega
  obtain ⟨i0, hi, hz0, hz1, hz2⟩ := info_parts infoAcc
  have HI := Lib.hid hi
  have HZ0 := Lib.hid hz0
  have HZ1 := Lib.hid hz1
  have HZ2 := Lib.hid hz2
  have S1 := Lib.hid (accs_one (st.log.take c))
  have S2 := Lib.hid (show 0 + c ≤ maxLen by unfold maxLen; omega)
  have S3 := Lib.hid (show ((0 + c) + (0 + c) / 4 + 192) * 56 ≤ 281474976710656 by omega)
  clear hi hz0 hz1 hz2 hsrc h hin tl
  rcases oa with _ | aa
  all_goals
    go_enter Try.func49, Try.ntmps49
    go_wp2_with (at_builtin; refine wpList_append_row _ rfl _ _ 40 rfl w.heap.size 45 i0 _ 7 56 Try.underlying40 HI.out HZ0.out HZ1.out HZ2.out rfl (.slice none 0 0) 0 [] rfl (World.RowV_none _ _ _ _ _) _ c (accs (st.log.take c)) rfl HS.out S1.out S2.out S3.out (Nat.le_refl _) ?_; intro v' w1 hown hout; simp only [Nat.zero_add, List.nil_append] at hown; obtain ⟨o5, c5, rfl, hn5, hm5⟩ := hown.form; obtain ⟨d0, d1, d2, d3, zz, lt1⟩ := hout.headR HH.out (by simp [Value.rowBlock]); have HN5 := Lib.hid hown; have HB5 := Lib.hid hout.fresh; clear hown hout; unfold maxLen at hm5)
    have hsz : (w1.setCell ⟨rb, 2, none⟩ (.slice o5 c c5)).heap.size = w1.heap.size := by simp [World.setCell]
    have htr : w1.RowV w.heap.size 45 7 (.slice o5 c c5) (st.log.take c).length (accs (st.log.take c)) := by rw [TL.out]; exact HN5.out
    have k1 := HH.out.setTrace HB5.out htr
    have hAf := after_ok k1.rf.src hn k1.rt (fun a ha => HIN.out a (List.mem_of_mem_take ha))
    simp only at hAf
    have HA := Lib.hid hAf
    have K1 := Lib.hid k1
    have HTR := Lib.hid htr
    clear hAf k1 htr hsz d0 d1 d2 d3 zz lt1
    refine HA.out.mono ?_
    rintro e w2 ⟨o6, c6, rfl, n6, m6, hr6, hb6⟩
    obtain ⟨f0, f1, f2, f3, ff, flt⟩ := (K1.out.of_block (w' := w2) fun k hk => hb6.block k (K1.out.lt k hk).2).head
    have hfin := HH.out.setBoth HB5.out HTR.out hb6 (ws := (st.log.take c).foldl wrF l) (vn' := .slice o6 l.length c6) (by rw [foldl_wrF_len]; exact hr6)
    have HF := Lib.hid hfin
    clear hfin hr6 hb6 c0 c1 c2 c3 z lt
    go_wp2
    go_ret
    exact ⟨rfl, HF.out⟩

theorem rwriter_bad {w : World} {base rb : Nat} {l : List Int} {st : MemS} {v : RefV} (h : RefAt w base rb l st v) (a : Int) (ha : a < 0 ∨ (st.words.length : Int) ≤ a) :
    Calls Try.prog 50 #[.pointer (some ⟨rb, 0, none⟩), .int .i64 a] w fun e w' => e = .returned (.tuple #[.int .i64 0, .int .i64 0, .int .i64 20]) ∧ w = w' := by
  have HA := Lib.hid (there_no h a ha)
  clear ha
  go_enter Try.func50, Try.ntmps50
  go_wp2_with (go_at_call 51; refine HA.out.mono ?_; rintro e w1 ⟨rfl, rfl⟩)
  go_ret3
  exact ⟨rfl, rfl⟩

set_option maxRecDepth 100000 in
set_option maxHeartbeats 4000000 in
theorem rwriter_ok {w : World} {base rb : Nat} {l : List Int} {st : MemS} {v : RefV} (h : RefAt w base rb l st v) (j : Nat) (hj : j < st.words.length) :
    Calls Try.prog 50 #[.pointer (some ⟨rb, 0, none⟩), .int .i64 (j : Int)] w (Wrote w st.log j) := by
  obtain ⟨c0, c1, c2, c3, z, lt⟩ := h.head
  obtain ⟨ow, cw, ol, cl, oa, ca, rfl, l1, l2, l3, m1, m2, m3⟩ := h.slices
  have HA := Lib.hid (there_yes h j hj)
  have HH := Lib.hid h
  clear h hj
  go_enter Try.func50, Try.ntmps50
  go_wp2_with (go_at_call 51; refine HA.out.mono ?_; rintro e w1 ⟨rfl, rfl⟩)
  clear HA
  go_loopg [7, 8, 9] st.log.length (fun g s1 s2 s3 wr => ∃ (k : Nat) (t n : Int), k ≤ st.log.length ∧ st.log.length ≤ k + g ∧ s1 = .int .i64 t ∧ s2 = .int .i64 n ∧ s3 = .int .i64 (k : Int) ∧ Hid (lastW (j : Int) (items st.log 0 k) = (t, n)) ∧ ∃ os d, wr = w.more os d)
  case atStart => exact ⟨0, -1, -1, by omega, by omega, rfl, rfl, rfl, Lib.hid (lastW_zero _ _), #[], w.drawn, by simp [World.more]⟩
  case round =>
    obtain ⟨k, t, n, hk, hg, rfl, rfl, rfl, hLk, os, d, rfl⟩ := hrel
    by_cases hlk : k < st.log.length
    · obtain ⟨g2, d2, e2, _, _, s2, _, _, x2⟩ := HH.out.rt.some_form (by show 0 < st.log.length; omega)
      simp only at e2
      cases e2
      have xa : ∀ j u, st.log[k].cells[j]? = some u → j < 7 → w.cell? ⟨g2, k * 7 + j, none⟩ = some u := fun j u hu hj => x2 (k * 7 + j) u (by rw [accs_get st.log k j hlk hj]; simpa [hlk] using hu)
      have HX : Hid (lastW (j : Int) (items st.log 0 (k + 1)) = lastS (j : Int) (t, n) (k, st.log[k])) := by
        show lastW _ _ = _
        rw [items_zero_snoc st.log k hlk, lastW_snoc, hLk.out]
      generalize hz : st.log[k] = zz at *
      obtain ⟨mv, th, kd, a, old, nw, saw⟩ := zz
      have z0 := xa 0 _ rfl (by omega)
      have z1 := xa 1 _ rfl (by omega)
      have z2 := xa 2 _ rfl (by omega)
      have z3 := xa 3 _ rfl (by omega)
      have z4 := xa 4 _ rfl (by omega)
      have z5 := xa 5 _ rfl (by omega)
      have z6 := xa 6 _ rfl (by omega)
      simp only [Nat.add_zero] at z0
      simp only at z0 z1 z2 z3 z4 z5 z6
      clear xa x2 hz
      by_cases ha : a = (j : Int)
      · subst ha
        cases hb : accWr ⟨mv, th, kd, (j : Int), old, nw, saw⟩
        all_goals
          have HB := Lib.hid hb
          clear hb
          go_wp2_with (go_at_call 54; refine (rwrites_any ⟨mv, th, kd, (j : Int), old, nw, saw⟩ _).mono ?_; rintro e w1 ⟨rfl, hb1⟩; obtain ⟨os, d, rfl⟩ := hb1.more; clear hb1; rw [HB.out])
          go_roundg (st.log.length - (k + 1))
          case measure => omega
          case rel => first
            | exact ⟨k + 1, t, n, by omega, by omega, rfl, rfl, by go_num, Lib.hid (by rw [HX.out]; unfold lastS; rw [if_neg (fun e => by have h1 := e.2; rw [HB.out] at h1; cases h1)]), RowKit.Below.more (by repeat (first | exact Below.refl _ _ | apply Below.drew | apply Below.more1 | apply Below.alloc1))⟩
            | exact ⟨k + 1, th, (k : Int), by omega, by omega, rfl, rfl, by go_num, Lib.hid (by rw [HX.out]; unfold lastS; rw [if_pos ⟨rfl, HB.out⟩]), RowKit.Below.more (by repeat (first | exact Below.refl _ _ | apply Below.drew | apply Below.more1 | apply Below.alloc1))⟩
      · have hq : (a == (j : Int)) = false := by simpa using ha
        have HA := Lib.hid ha
        clear ha
        go_wp2
        go_roundg (st.log.length - (k + 1))
        case measure => omega
        case rel => exact ⟨k + 1, t, n, by omega, by omega, rfl, rfl, by go_num, Lib.hid (by rw [HX.out]; unfold lastS; rw [if_neg (fun e => HA.out e.1)]), RowKit.Below.more (by repeat (first | exact Below.refl _ _ | apply Below.drew | apply Below.more1 | apply Below.alloc1))⟩
    · obtain rfl : k = st.log.length := by omega
      have HLK := Lib.hid hLk.out
      go_wp2
      go_ret3
      unfold Wrote
      rw [HLK.out]
      exact ⟨rfl, (by repeat (first | exact Below.refl _ _ | apply Below.drew | apply Below.more1 | apply Below.alloc1))⟩

theorem rnew_long {w : World} (o : Option Addr) (n c : Nat) (hn : 8192 < n) (hm : n ≤ 9223372036854775807) : Calls Try.prog 42 #[.slice o n c] w fun e w' => e = .returned (.tuple #[.pointer none, .int .i64 3]) ∧ w = w' := by
  go_enter Try.func42, Try.ntmps42
  go_wp2
  go_ret2
  exact ⟨rfl, rfl⟩

/-- a new memory of the document -/
def MadeRef (w : World) (l : List Int) (e : Ending) (w' : World) : Prop :=
  ∃ rb v, e = .returned (.tuple #[.pointer (some ⟨rb, 0, none⟩), .int .i64 0]) ∧ RefAt w' w.heap.size rb l ⟨l, [], [], 0⟩ v ∧ Below w.heap.size w w'
set_option maxRecDepth 100000 in
set_option maxHeartbeats 4000000 in
theorem rnew_ok {w : World} {vx : Value} {l : List Int} (hs : w.Src 1 vx l.length (u64s l)) (hn : l.length ≤ 8192) : Calls Try.prog 42 #[vx] w (MadeRef w l) := by
  have HS := Lib.hid hs
  obtain ⟨o, c, rfl⟩ : ∃ o c, vx = .slice o l.length c := by
    rcases hs.2 with ⟨rfl, h0⟩ | ⟨ad, c, rfl, hc, _⟩
    · exact ⟨none, 0, by rw [h0]⟩
    · exact ⟨some ad, c, rfl⟩
  obtain ⟨i0, hi, hz0, hz1, hz2⟩ := info_parts infoU64
  have HI0 := Lib.hid hi
  have HZ0 := Lib.hid hz0
  have HZ1 := Lib.hid hz1
  have HZ2 := Lib.hid hz2
  have S1 := Lib.hid (u64s_one l)
  have S2 := Lib.hid (show 0 + l.length ≤ maxLen by unfold maxLen; omega)
  have S3 := Lib.hid (show ((0 + l.length) + (0 + l.length) / 4 + 192) * 8 ≤ 281474976710656 by omega)
  clear hi hz0 hz1 hz2 hs
  go_enter Try.func42, Try.ntmps42
  have h0 : RefAt (w.alloc (.cells #[.slice none 0 0, .slice none 0 0, .slice none 0 0, .int .i64 0] 72)) w.heap.size w.heap.size [] ⟨[], [], [], 0⟩ ⟨.slice none 0 0, .slice none 0 0, .slice none 0 0⟩ :=
    ⟨heap_alloc_new w _, Nat.le_refl _, World.RowV_none _ _ _ _ _, World.RowV_none _ _ _ _ _, World.RowV_none _ _ _ _ _, by simp [Value.rowBlock], by simp [Value.rowBlock], by simp [Value.rowBlock], by simp [Value.rowBlock], by simp [Value.rowBlock], by simp [Value.rowBlock]⟩
  have H0 := Lib.hid h0
  clear h0
  go_wp2_with (first
    | (at_builtin; refine wpList_append_row _ rfl _ _ 22 rfl _ 23 i0 _ 1 8 Try.underlying22 HI0.out HZ0.out HZ1.out HZ2.out rfl (.slice none 0 0) 0 [] rfl (World.RowV_none _ _ _ _ _) _ l.length (u64s l) rfl HS2.out S1.out S2.out S3.out (Nat.le_refl _) ?_; intro v' w2 hown hout; simp only [Nat.zero_add, List.nil_append] at hown; obtain ⟨o2, c2, rfl, hn2, hm2⟩ := hown.form; have hb2 := hout.fresh; obtain ⟨e0, e1, e2, e3, ee, elt⟩ := (K1.out.of_block (w' := w2) fun k hk => hb2.block k (K1.out.lt k hk).2).head; have K2 := Lib.hid (K1.out.setNow hb2 (ws := l) (vn' := .slice o2 l.length c2) hown); have HB2 := Lib.hid hb2; clear hown hout hb2)
    | (at_builtin; refine wpList_append_row _ rfl _ _ 22 rfl (w.alloc (.cells #[.slice none 0 0, .slice none 0 0, .slice none 0 0, .int .i64 0] 72)).heap.size 23 i0 _ 1 8 Try.underlying22 HI0.out HZ0.out HZ1.out HZ2.out rfl (.slice none 0 0) 0 [] rfl (World.RowV_none _ _ _ _ _) _ l.length (u64s l) rfl (HS.out.alloc _) S1.out S2.out S3.out (Nat.le_refl _) ?_; intro v' w1 hown hout; simp only [Nat.zero_add, List.nil_append] at hown; obtain ⟨o1, c1, rfl, hn1, hm1⟩ := hown.form; have hb1 := hout.fresh; obtain ⟨d0, d1, d2, d3, dd, dlt⟩ := (H0.out.of_block (w' := w1) fun k hk => hb1.block k (H0.out.lt k hk).2).head; have K1 := Lib.hid (H0.out.setFirst hb1 (l' := l) (vf' := .slice o1 l.length c1) hown); have hw1 : Below w.heap.size w (w1.setCell ⟨w.heap.size, 0, none⟩ (.slice o1 l.length c1)) := ((Below.refl _ w).alloc1 _ |>.trans (hb1.mono (by simp))).setCell (Nat.le_refl _) _; have HS2 := Lib.hid (HS.out.below hw1); have HW1 := Lib.hid hw1; clear hown hout hb1 hw1))
  go_ret2
  exact ⟨_, _, rfl, K2.out, (HW1.out.trans (HB2.out.mono HW1.out.size)).setCell (Nat.le_refl _) _⟩
end Go.Proofs.Ytpmadfokpimjcaa
