/-
reclaimref02: there, note, Load, Store, Swap, Writes.
-/
import Derived.Test.YtpmadfokpimjcaaRefP
import Derived.Test.YtpmadfokpimjcaaMemE
namespace Go.Proofs.Ytpmadfokpimjcaa
open Go.ChangeShapes Go.WideShapes Go.ChangeAt Go.RowKit

theorem there_any {w : World} {base rb : Nat} {l : List Int} {st : MemS} {v : RefV} (h : RefAt w base rb l st v) (a : Int) : Calls Try.prog 51 #[.pointer (some ⟨rb, 0, none⟩), .int .i64 a] w fun e w' =>
    e = .returned (.bool (decide (0 ≤ a) && decide (a < (st.words.length : Int)))) ∧ w = w' := by
  obtain ⟨c0, c1, c2, c3, z, lt⟩ := h.head
  obtain ⟨ow, cw, ol, cl, oa, ca, rfl, l1, l2, l3, m1, m2, m3⟩ := h.slices
  by_cases h0 : 0 ≤ a
  all_goals
    go_enter Try.func51, Try.ntmps51
    go_wp2
    go_ret
    exact ⟨ret_bool (by first | (rw [Bool.eq_iff_iff]; simp <;> omega) | rw [Bool.eq_iff_iff]), rfl⟩
theorem there_yes {w : World} {base rb : Nat} {l : List Int} {st : MemS} {v : RefV} (h : RefAt w base rb l st v) (a : Nat) (ha : a < st.words.length) : Calls Try.prog 51 #[.pointer (some ⟨rb, 0, none⟩), .int .i64 (a : Int)] w fun e w' =>
    e = .returned (.bool true) ∧ w = w' := by
  have := there_any h (a : Int)
  rw [show (decide (0 ≤ (a : Int)) && decide ((a : Int) < (st.words.length : Int))) = true by simp; omega] at this
  exact this
theorem there_no {w : World} {base rb : Nat} {l : List Int} {st : MemS} {v : RefV} (h : RefAt w base rb l st v) (a : Int) (ha : a < 0 ∨ (st.words.length : Int) ≤ a) : Calls Try.prog 51 #[.pointer (some ⟨rb, 0, none⟩), .int .i64 a] w fun e w' =>
    e = .returned (.bool false) ∧ w = w' := by
  have := there_any h a
  rw [show (decide (0 ≤ a) && decide (a < (st.words.length : Int))) = false by rw [Bool.eq_false_iff]; simp; omega] at this
  exact this

set_option maxRecDepth 100000 in
set_option maxHeartbeats 2000000 in
theorem rnote_any {w : World} {base rb : Nat} {l : List Int} {st : MemS} {v : RefV} (h : RefAt w base rb l st v) (x : Acc) (hl1 : st.log.length ≤ 3000000000000) :
    Calls Try.prog 52 #[.pointer (some ⟨rb, 0, none⟩), .agg #[.int .i64 x.mv, .int .i64 x.th, .int .i64 x.kd, .int .i64 x.ad, .int .u64 x.old, .int .u64 x.nw, .int .u64 x.saw]] w fun e w' =>
    e = .returned (.tuple #[]) ∧ RefOut w base rb v l { st with log := st.log ++ [x] } w' := by
  obtain ⟨c0, c1, c2, c3, z, lt⟩ := h.head
  have hv := h.slices
  obtain ⟨ow, cw, ol, cl, oa, ca, rfl, l1, l2, l3, m1, m2, m3⟩ := hv
  obtain ⟨i0, hi, hz0, hz1, hz2⟩ := info_parts infoAcc
  have HI := Lib.hid hi
  have HZ0 := Lib.hid hz0
  have HZ1 := Lib.hid hz1
  have HZ2 := Lib.hid hz2
  clear hi hz0 hz1 hz2
  have S1 := Lib.hid (show ∀ u ∈ [Value.int .i64 x.mv, .int .i64 x.th, .int .i64 x.kd, .int .i64 x.ad, .int .u64 x.old, .int .u64 x.nw, .int .u64 x.saw], u.oneCell' = true by simp [Value.oneCell'])
  have S2 := Lib.hid (show st.log.length + 1 ≤ maxLen by unfold maxLen; omega)
  have S3 := Lib.hid (show ((st.log.length + 1) + (st.log.length + 1) / 4 + 192) * 56 ≤ 281474976710656 by omega)
  go_enter Try.func52, Try.ntmps52
  go_upto_region 1 with (fail)
  · go_region_law ((refine step_append_row _ (by rfl) _ _ 40 (by rfl) base 45 i0 _ 7 56 Try.underlying40 HI.out HZ0.out HZ1.out HZ2.out rfl (.slice oa st.log.length ca) st.log.length (accs st.log) (by rfl) (by repeat (first | exact h.rt | apply World.RowV.alloc | apply World.RowV.drew)) _ 1 _ (by rfl) (by repeat (first | apply World.Src.drew | exact World.Src.one rfl (by simp))) S1.out S2.out S3.out (by have := h.base_le; simp; omega) ?_; intro v' w1 hown hout; obtain ⟨o', c', rfl, hn', hm'⟩ := hown.form; obtain ⟨d0, d1, d2, d3, zz, lt1⟩ := hout.headR (by repeat (first | exact h | apply RefAt.alloc | apply RefAt.drew)) h.m3; have H1 := Lib.hid (RefAt.app (v := ⟨.slice ow l.length cw, .slice ol st.words.length cl, .slice oa st.log.length ca⟩) (x := x) (by repeat (first | exact h | apply RefAt.alloc | apply RefAt.drew)) hown hout); clear hown hout hm'))
    all_goals
      go_wp2
      go_end0
      refine ⟨rfl, ?_⟩
      exact RefOut.step (v0 := ⟨.slice ow l.length cw, .slice ol st.words.length cl, .slice oa st.log.length ca⟩) (by repeat (first | exact Only.refl _ _ | apply Only.alloc | apply Only.drew)) (fun _ hk => .inl hk) H1.out

theorem rload_bad {w : World} {base rb : Nat} {l : List Int} {st : MemS} {v : RefV} (h : RefAt w base rb l st v) (th a : Int) (ha : a < 0 ∨ (st.words.length : Int) ≤ a) : Calls Try.prog 46 #[.pointer (some ⟨rb, 0, none⟩), .int .i64 th, .int .i64 a] w fun e w' =>
    e = .returned (.tuple #[.int .u64 0, .int .i64 20]) ∧ w = w' := by
  have HA := Lib.hid (there_no h a ha)
  clear ha
  go_enter Try.func46, Try.ntmps46
  go_wp2_with (go_at_call 51; refine HA.out.mono ?_; rintro e w1 ⟨rfl, rfl⟩)
  go_ret2
  exact ⟨rfl, rfl⟩
theorem rstore_bad {w : World} {base rb : Nat} {l : List Int} {st : MemS} {v : RefV} (h : RefAt w base rb l st v) (th a x : Int) (ha : a < 0 ∨ (st.words.length : Int) ≤ a) : Calls Try.prog 47 #[.pointer (some ⟨rb, 0, none⟩), .int .i64 th, .int .i64 a, .int .u64 x] w fun e w' =>
    e = .returned (.int .i64 20) ∧ w = w' := by
  have HA := Lib.hid (there_no h a ha)
  clear ha
  go_enter Try.func47, Try.ntmps47
  go_wp2_with (go_at_call 51; refine HA.out.mono ?_; rintro e w1 ⟨rfl, rfl⟩)
  go_ret
  exact ⟨rfl, rfl⟩
theorem rswap_bad {w : World} {base rb : Nat} {l : List Int} {st : MemS} {v : RefV} (h : RefAt w base rb l st v) (th a x y : Int) (ha : a < 0 ∨ (st.words.length : Int) ≤ a) : Calls Try.prog 48 #[.pointer (some ⟨rb, 0, none⟩), .int .i64 th, .int .i64 a, .int .u64 x, .int .u64 y] w fun e w' =>
    e = .returned (.tuple #[.int .u64 0, .bool false, .int .i64 20]) ∧ w = w' := by
  have HA := Lib.hid (there_no h a ha)
  clear ha
  go_enter Try.func48, Try.ntmps48
  go_wp2_with (go_at_call 51; refine HA.out.mono ?_; rintro e w1 ⟨rfl, rfl⟩)
  go_ret3
  exact ⟨rfl, rfl⟩

/-- a word of the document's memory -/
theorem _root_.Go.RefAt.read {w : World} {base rb : Nat} {l : List Int} {st : MemS} {v : RefV} (h : RefAt w base rb l st v) {a : Nat} (ha : a < st.words.length) : ∃ g cg, v.vn = .slice (some ⟨g, 0, none⟩) st.words.length cg ∧ w.cell? ⟨g, a, none⟩ = some (.int .u64 (st.at a)) ∧ g < w.heap.size ∧ v.vn.rowBlock = some g ∧ w.frozen? ⟨g, a, none⟩ = false ∧ g ≠ rb := by
  obtain ⟨g, cg, e, h1, h2, h3, h4, h5, h6⟩ := h.rn.some_form (by omega)
  exact ⟨g, cg, e, h6 a _ (by simpa [MemS.at] using u64s_get (l := st.words) ha), h3, h4, h5 a, fun e => h.m2 (by rw [h4, e])⟩

set_option maxRecDepth 100000 in
theorem rload_ok {w : World} {base rb : Nat} {l : List Int} {st : MemS} {v : RefV} (h : RefAt w base rb l st v) (hl1 : st.log.length ≤ 3000000000000) (th : Int) (a : Nat) (ha : a < st.words.length) :
    Calls Try.prog 46 #[.pointer (some ⟨rb, 0, none⟩), .int .i64 th, .int .i64 (a : Int)] w fun e w' =>
    e = .returned (.tuple #[.int .u64 (st.at a), .int .i64 0]) ∧ RefOut w base rb v l (st.load th a) w' := by
  obtain ⟨c0, c1, c2, c3, z, lt⟩ := h.head
  obtain ⟨ow, cw, ol, cl, oa, ca, rfl, l1, l2, l3, m1, m2, m3⟩ := h.slices
  obtain ⟨g, cg, e, hg, gl, gb, gn, gc⟩ := h.read ha
  cases e
  have HA := Lib.hid (there_yes h a ha)
  have HN := Lib.hid (rnote_any h ⟨st.move, th, 1, a, 0, 0, st.at a⟩ hl1)
  clear gb
  go_enter Try.func46, Try.ntmps46
  go_wp2_with (first
    | (go_at_call 51; refine HA.out.mono ?_; rintro e w1 ⟨rfl, rfl⟩)
    | (go_at_call 52; refine HN.out.mono ?_; rintro e w1 ⟨rfl, hm⟩; have HM := Lib.hid hm; clear hm))
  go_ret2
  exact ⟨rfl, HM.out.of_eq rfl rfl rfl⟩

set_option maxRecDepth 100000 in
set_option maxHeartbeats 1000000 in
theorem rstore_ok {w : World} {base rb : Nat} {l : List Int} {st : MemS} {v : RefV} (h : RefAt w base rb l st v) (hl1 : st.log.length ≤ 3000000000000) (th : Int) (a : Nat) (x : Int) (ha : a < st.words.length) :
    Calls Try.prog 47 #[.pointer (some ⟨rb, 0, none⟩), .int .i64 th, .int .i64 (a : Int), .int .u64 x] w fun e w' =>
    e = .returned (.int .i64 0) ∧ RefOut w base rb v l (st.store th a x) w' := by
  obtain ⟨c0, c1, c2, c3, z, lt⟩ := h.head
  obtain ⟨ow, cw, ol, cl, oa, ca, rfl, l1, l2, l3, m1, m2, m3⟩ := h.slices
  obtain ⟨g, cg, e, hg, gl, gb, gn, gc⟩ := h.read ha
  cases e
  have HA := Lib.hid (there_yes h a ha)
  have hp := h.put gb ha x
  have HN := Lib.hid (rnote_any hp ⟨st.move, th, 2, a, 0, x, 0⟩ hl1)
  have HO := Lib.hid ((Only.refl (RefV.own ⟨.slice ow l.length cw, .slice (some ⟨g, 0, none⟩) st.words.length cl, .slice oa st.log.length ca⟩ rb) w).set (p := ⟨g, a, none⟩) (.inl (.inr (.inr (.inl gb)))) (.int .u64 x))
  clear gb hp
  have gc' : rb ≠ g := Ne.symm gc
  go_enter Try.func47, Try.ntmps47
  go_wp2_with (first
    | (go_at_call 51; refine HA.out.mono ?_; rintro e w1 ⟨rfl, rfl⟩)
    | (go_at_call 52; refine HN.out.mono ?_; rintro e w1 ⟨rfl, hm⟩; have HM := Lib.hid hm; clear hm))
  go_ret
  exact ⟨rfl, (RefOut.step HO.out (fun _ hk => .inl hk) HM.out).of_eq rfl rfl rfl⟩

set_option maxRecDepth 100000 in
set_option maxHeartbeats 1000000 in
theorem rswap_ok {w : World} {base rb : Nat} {l : List Int} {st : MemS} {v : RefV} (h : RefAt w base rb l st v) (hl1 : st.log.length ≤ 3000000000000) (th : Int) (a : Nat) (x y : Int) (ha : a < st.words.length) :
    Calls Try.prog 48 #[.pointer (some ⟨rb, 0, none⟩), .int .i64 th, .int .i64 (a : Int), .int .u64 x, .int .u64 y] w fun e w' =>
    e = .returned (.tuple #[.int .u64 (st.at a), .bool (decide (st.at a = x)), .int .i64 0]) ∧ RefOut w base rb v l (st.swap th a x y) w' := by
  obtain ⟨c0, c1, c2, c3, z, lt⟩ := h.head
  obtain ⟨ow, cw, ol, cl, oa, ca, rfl, l1, l2, l3, m1, m2, m3⟩ := h.slices
  obtain ⟨g, cg, e, hg, gl, gb, gn, gc⟩ := h.read ha
  cases e
  have HA := Lib.hid (there_yes h a ha)
  have gc' : rb ≠ g := Ne.symm gc
  by_cases hx : st.at a = x
  · have hs : Hid (st.swap th a x y = { st.note ⟨0, th, 3, a, x, y, st.at a⟩ (st.at a) with words := st.words.set a y }) := by unfold MemS.swap; rw [if_pos hx]; rfl
    have hb : (st.at a == x) = true := by simpa using hx
    have HD := Lib.hid (show decide (st.at a = x) = true by simpa using hx)
    have hp := h.put gb ha y
    have HN := Lib.hid (rnote_any hp ⟨st.move, th, 3, a, x, y, st.at a⟩ hl1)
    have HO := Lib.hid ((Only.refl (RefV.own ⟨.slice ow l.length cw, .slice (some ⟨g, 0, none⟩) st.words.length cl, .slice oa st.log.length ca⟩ rb) w).set (p := ⟨g, a, none⟩) (.inl (.inr (.inr (.inl gb)))) (.int .u64 y))
    clear gb hp hx
    generalize st.at a = sa at *
    go_enter Try.func48, Try.ntmps48
    go_wp2_with (first
      | (go_at_call 51; refine HA.out.mono ?_; rintro e w1 ⟨rfl, rfl⟩)
      | (go_at_call 52; refine HN.out.mono ?_; rintro e w1 ⟨rfl, hm⟩; have HM := Lib.hid hm; clear hm))
    go_ret3
    exact ⟨swap_end HD.out, by rw [hs.out]; exact (RefOut.step HO.out (fun _ hk => .inl hk) HM.out).of_eq rfl rfl rfl⟩
  · have hs : Hid (st.swap th a x y = st.note ⟨0, th, 3, a, x, y, st.at a⟩ (st.at a)) := by unfold MemS.swap; rw [if_neg hx]; rfl
    have hb : (st.at a == x) = false := by simpa using hx
    have HD := Lib.hid (show decide (st.at a = x) = false by simpa using hx)
    have HN := Lib.hid (rnote_any h ⟨st.move, th, 3, a, x, y, st.at a⟩ hl1)
    clear hx gb
    generalize st.at a = sa at *
    go_enter Try.func48, Try.ntmps48
    go_wp2_with (first
      | (go_at_call 51; refine HA.out.mono ?_; rintro e w1 ⟨rfl, rfl⟩)
      | (go_at_call 52; refine HN.out.mono ?_; rintro e w1 ⟨rfl, hm⟩; have HM := Lib.hid hm; clear hm))
    go_ret3
    exact ⟨swap_end HD.out, by rw [hs.out]; exact HM.out.of_eq rfl rfl rfl⟩

theorem rwrites_any (a : Acc) (w : World) : Calls Try.prog 54 #[.agg #[.int .i64 a.mv, .int .i64 a.th, .int .i64 a.kd, .int .i64 a.ad, .int .u64 a.old, .int .u64 a.nw, .int .u64 a.saw]] w fun e w' =>
    e = .returned (.bool (accWr a)) ∧ Below w.heap.size w w' := by
  obtain ⟨mv, th, kd, ad, old, nw, saw⟩ := a
  have E := Lib.hid (show accWr ⟨mv, th, kd, ad, old, nw, saw⟩ = (decide (kd = 3) && decide (saw = old) || decide (kd = 2)) from rfl)
  by_cases h2 : kd = 2
  · subst h2
    go_enter Try.func54, Try.ntmps54
    go_wp2
    go_ret
    exact ⟨by rw [E.out]; simp, (by repeat (first | exact Below.refl _ _ | apply Below.drew | apply Below.more1 | apply Below.alloc1))⟩
  · have hq : (kd == 2) = false := by simpa using h2
    have H2 := Lib.hid h2
    clear h2
    by_cases h3 : kd = 3
    · subst h3
      by_cases hs : saw = old
      · subst hs
        go_enter Try.func54, Try.ntmps54
        go_wp2
        go_ret
        exact ⟨by rw [E.out]; simp, (by repeat (first | exact Below.refl _ _ | apply Below.drew | apply Below.more1 | apply Below.alloc1))⟩
      · have hq2 : (saw == old) = false := by simpa using hs
        have HS := Lib.hid hs
        clear hs
        go_enter Try.func54, Try.ntmps54
        go_wp2
        go_ret
        exact ⟨by rw [E.out]; simp [HS.out], (by repeat (first | exact Below.refl _ _ | apply Below.drew | apply Below.more1 | apply Below.alloc1))⟩
    · have hq2 : (kd == 3) = false := by simpa using h3
      have H3 := Lib.hid h3
      clear h3
      go_enter Try.func54, Try.ntmps54
      go_wp2
      go_ret
      exact ⟨by rw [E.out]; simp [H2.out, H3.out], (by repeat (first | exact Below.refl _ _ | apply Below.drew | apply Below.more1 | apply Below.alloc1))⟩
end Go.Proofs.Ytpmadfokpimjcaa
