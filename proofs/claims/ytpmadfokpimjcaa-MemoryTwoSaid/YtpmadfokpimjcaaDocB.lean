/-
reclaimlaw02.doc: Now, Words, Count and Size.
-/
import Derived.Test.YtpmadfokpimjcaaDoc
namespace Go.Proofs.Ytpmadfokpimjcaa
open Go.ChangeShapes Go.WideShapes Go.ChangeAt Go.RowKit

theorem _root_.Go.RowKit.Below.undrew {B : Nat} {w w1 : World} (h : Below B w.drew w1) : Below B w w1 := ⟨h.os, h.tape, h.output, h.size, h.block⟩

set_option maxRecDepth 100000 in
set_option maxHeartbeats 4000000 in
theorem doc1 {w : World} {base rb : Nat} {l : List Int} {st : MemS} {v : RefV} (h : RefAt w base rb l st v) (t n old x : Int) (a : Int) :
    Calls Try.prog 34 #[.pointer (some ⟨rb, 0, none⟩), .agg #[.int .i64 1, .int .i64 t, .int .i64 a, .int .i64 n, .int .u64 old, .int .u64 x]] w fun e w' =>
    TellAt w.heap.size ⟨0, [], [], []⟩ e w' ∧ RefOut w base rb v l { st with move := n } w' := by
  obtain ⟨c0, c1, c2, c3, z, lt⟩ := h.head
  have HH := Lib.hid h
  clear h c0 c1 c2
  go_enter Try.func34, Try.ntmps34
  go_wp2
  refine bodyPost_ret (v := .agg #[.int .i64 0, .slice none 0 0, .slice none 0 0, .slice none 0 0]) (by simp [results, Try.results34, go_sem]) rfl ?_
  exact ⟨⟨_, _, _, rfl, World.RowV_none _ _ _ _ _, World.RowV_none _ _ _ _ _, World.RowV_none _ _ _ _ _⟩, v, (((HH.out.beat n).alloc _).alloc _).alloc _, ((((Only.refl _ _).set (p := ⟨rb, 3, none⟩) (.inl (.inl rfl)) _).alloc _).alloc _).alloc _, fun _ hk => .inl hk⟩

set_option maxRecDepth 100000 in
set_option maxHeartbeats 4000000 in
theorem doc10 {w : World} {base rb : Nat} {l : List Int} {st : MemS} {v : RefV} (h : RefAt w base rb l st v) (t n old x : Int) (a : Int) :
    Calls Try.prog 34 #[.pointer (some ⟨rb, 0, none⟩), .agg #[.int .i64 10, .int .i64 t, .int .i64 a, .int .i64 n, .int .u64 old, .int .u64 x]] w fun e w' =>
    TellAt w.heap.size ⟨0, [(st.log.length : Int), (st.words.length : Int)], [], []⟩ e w' ∧ RefOut w base rb v l st w' := by
  obtain ⟨c0, c1, c2, c3, z, lt⟩ := h.head
  have HH := Lib.hid h
  obtain ⟨ow, cw, ol, cl, oa, ca, rfl, l1, l2, l3, m1, m2, m3⟩ := h.slices
  clear h
  go_enter Try.func34, Try.ntmps34
  go_upto_region 32 with (fail)
  go_region
  all_goals
    go_wp2
    refine bodyPost_ret (v := .agg #[.int .i64 0, .slice (some ⟨w.heap.size + 1 + 1 + 1, 0, none⟩) 2 2, .slice none 0 0, .slice none 0 0]) (by simp [results, Try.results34, go_sem]) rfl ?_
    refine ⟨⟨_, _, _, rfl, World.RowV.drew (RowV_new (by simp) (by omega) (by omega) (by unfold maxLen; omega) rfl), World.RowV_none _ _ _ _ _, World.RowV_none _ _ _ _ _⟩, ref_below HH.out ?_⟩
    exact (by repeat (first | exact Below.refl _ _ | apply Below.drew | apply Below.more1 | apply Below.alloc1))

set_option maxRecDepth 100000 in
set_option maxHeartbeats 4000000 in
theorem doc9 {w : World} {base rb : Nat} {l : List Int} {st : MemS} {v : RefV} (h : RefAt w base rb l st v) (t n old x : Int) (a : Int) (hwl : st.words.length ≤ 3000000000000) :
    Calls Try.prog 34 #[.pointer (some ⟨rb, 0, none⟩), .agg #[.int .i64 9, .int .i64 t, .int .i64 a, .int .i64 n, .int .u64 old, .int .u64 x]] w fun e w' =>
    TellAt w.heap.size ⟨0, [], st.words, []⟩ e w' ∧ RefOut w base rb v l st w' := by
  obtain ⟨c0, c1, c2, c3, z, lt⟩ := h.head
  have HH := Lib.hid h
  have HSR := Lib.hid h.rn.src
  obtain ⟨ow, cw, ol, cl, oa, ca, rfl, l1, l2, l3, m1, m2, m3⟩ := h.slices
  obtain ⟨i0, hi, hz0, hz1, hz2⟩ := info_parts infoU64
  have HI := Lib.hid hi
  have HZ0 := Lib.hid hz0
  have HZ1 := Lib.hid hz1
  have HZ2 := Lib.hid hz2
  have S1 := Lib.hid (u64s_one st.words)
  have S2 := Lib.hid (show 0 + st.words.length ≤ maxLen by unfold maxLen; omega)
  have S3 := Lib.hid (show ((0 + st.words.length) + (0 + st.words.length) / 4 + 192) * 8 ≤ 281474976710656 by omega)
  clear hi hz0 hz1 hz2 h
  go_enter Try.func34, Try.ntmps34
  have HX := Lib.hid (AskBox.start w (.int .i64 9) (.int .i64 t) (.int .i64 a) (.int .i64 n) (.int .u64 old) (.int .u64 x) (.int .i64 0) (.slice none 0 0) (.slice none 0 0) (.slice none 0 0) (.int .i64 0) (.slice none 0 0) (.slice none 0 0) (.slice none 0 0))
  have hr0 : rb ≠ w.heap.size := by omega
  have hr1 : rb ≠ w.heap.size + 1 := by omega
  have hr2 : rb ≠ w.heap.size + 1 + 1 := by omega
  go_upto_region 30 with (fail)
  go_region_law ((refine step_append_row _ (by rfl) _ _ 22 (by rfl) (w.heap.size + 1 + 1 + 1) 23 i0 _ 1 8 Try.underlying22 HI.out HZ0.out HZ1.out HZ2.out rfl (.slice none 0 0) 0 [] (by rfl) (World.RowV_none _ _ _ _ _) _ st.words.length (u64s st.words) (by rfl) (by repeat (first | exact HSR.out | apply World.Src.alloc | apply World.Src.drew)) S1.out S2.out S3.out (by simp) ?_; intro v' w1 hown hout; simp only [Nat.zero_add, List.nil_append] at hown; obtain ⟨o1, c1, rfl, hn1, hm1⟩ := hown.form; have hb1 : Below (askW w (.int .i64 9) (.int .i64 t) (.int .i64 a) (.int .i64 n) (.int .u64 old) (.int .u64 x)).heap.size (askW w (.int .i64 9) (.int .i64 t) (.int .i64 a) (.int .i64 n) (.int .u64 old) (.int .u64 x)) w1 := (by first | exact hout.fresh | exact Below.undrew hout.fresh); have hx1 := HX.out.only (F := fun _ => False) (Only.of_below hb1) (fun _ hx => hx.elim); obtain ⟨⟨d0, d1, d2, d3, d4, d5⟩, ⟨e0, e1, e2, e3⟩, ⟨f0, f1, f2, f3⟩, fb, fc, flt⟩ := hx1.cells; have HB1 := Lib.hid hb1; have HN1 := Lib.hid hown; clear hown hout hx1 hb1; unfold maxLen at hm1))
  all_goals
    go_wp2
    refine bodyPost_ret (v := .agg #[.int .i64 0, .slice none 0 0, .slice o1 st.words.length c1, .slice none 0 0]) (by simp [results, Try.results34, go_sem, e0, e1, e2, e3]) rfl ?_
    refine ⟨⟨_, _, _, rfl, World.RowV_none _ _ _ _ _, ?_, World.RowV_none _ _ _ _ _⟩, ref_fin HH.out (ref_below (askW_ref HH.out) HB1.out) ?_⟩
    · refine ask_row (w1 := w1) HN1.out ?_ (by omega)
      repeat (first | with_reducible exact Only.refl _ _ | with_reducible apply Only.alloc | with_reducible apply askF1 | with_reducible apply askF2 | with_reducible apply Only.drew)
    · repeat (first | with_reducible exact Only.refl _ _ | with_reducible apply Only.alloc | with_reducible apply askF1 | with_reducible apply askF2 | with_reducible apply Only.drew)
end Go.Proofs.Ytpmadfokpimjcaa
