/-
memory.Memory: Store, Swap, Words.
-/
import Derived.Test.YtbhbpfpggfcpgaaMemC
namespace Go.Proofs.Ytbhbpfpggfcpgaa
open Go.ChangeShapes Go.WideShapes Go.ChangeAt Go.RowKit

theorem store_bad {w : World} {base mb : Nat} {st : MemS} {v : MemV} (h : MemAt w base mb st v) (th a x : Int) (ha : a < 0 ∨ (st.words.length : Int) ≤ a) : Calls Try.prog 64 #[.pointer (some ⟨mb, 0, none⟩), .int .i64 th, .int .i64 a, .int .u64 x] w fun e w' =>
    e = .returned (.int .i64 20) ∧ w = w' := by
  have HA := Lib.hid (has_no h a ha)
  clear ha
  go_enter Try.func64, Try.ntmps64
  go_wp2_with (go_at_call 74; refine HA.out.mono ?_; rintro e w1 ⟨rfl, rfl⟩)
  go_ret
  exact ⟨rfl, rfl⟩
theorem swap_bad {w : World} {base mb : Nat} {st : MemS} {v : MemV} (h : MemAt w base mb st v) (th a x y : Int) (ha : a < 0 ∨ (st.words.length : Int) ≤ a) : Calls Try.prog 66 #[.pointer (some ⟨mb, 0, none⟩), .int .i64 th, .int .i64 a, .int .u64 x, .int .u64 y] w fun e w' =>
    e = .returned (.tuple #[.int .u64 0, .bool false, .int .i64 20]) ∧ w = w' := by
  have HA := Lib.hid (has_no h a ha)
  clear ha
  go_enter Try.func66, Try.ntmps66
  go_wp2_with (go_at_call 74; refine HA.out.mono ?_; rintro e w1 ⟨rfl, rfl⟩)
  go_ret3
  exact ⟨rfl, rfl⟩

theorem swap_end {sa : Int} {b c : Bool} (h : c = b) : Ending.returned (.tuple #[.int .u64 sa, .bool b, .int .i64 0]) = .returned (.tuple #[.int .u64 sa, .bool c, .int .i64 0]) := by rw [h]

/-- behind a noted access the word is written -/
theorem note_then {w w1 : World} {base mb : Nat} {st : MemS} {v v1 : MemV} {acc : Acc} {ahd : Int} (h1 : MemAt w1 base mb (st.note acc ahd) v1) (h2 : Only (v.own mb) w w1) (h3 : ∀ k, v1.own mb k → v.own mb k ∨ w.heap.size ≤ k)
    {a g : Nat} (ha : a < st.words.length) (hg : v1.vw.rowBlock = some g) (x : Int) : MemOut w base mb v { st.note acc ahd with words := st.words.set a x } (w1.setCell ⟨g, a, none⟩ (.int .u64 x)) :=
  ⟨v1, h1.put_word (st := st.note acc ahd) ha hg x, h2.set (h3 g (.inr (.inl hg))) _, h3⟩

set_option maxRecDepth 100000 in
set_option maxHeartbeats 1000000 in
theorem store_ok {w : World} {base mb : Nat} {st : MemS} {v : MemV} (h : MemAt w base mb st v) (hl1 : st.log.length ≤ 3000000000000) (hl2 : st.ahead.length ≤ 3000000000000) (th : Int) (a : Nat) (x : Int) (ha : a < st.words.length) :
    Calls Try.prog 64 #[.pointer (some ⟨mb, 0, none⟩), .int .i64 th, .int .i64 (a : Int), .int .u64 x] w fun e w' =>
    e = .returned (.int .i64 0) ∧ MemOut w base mb v (st.store th a x) w' := by
  obtain ⟨c0, c1, c2, c3, z, lt⟩ := h.head
  obtain ⟨ow, cw, ol, cl, oa, ca, rfl, l1, l2, l3, m1, m2, m3⟩ := h.slices
  obtain ⟨g, cg, e, hg, gl, gb, gn, gc, gz⟩ := h.read ha
  cases e
  have HA := Lib.hid (has_yes h a ha)
  have HN := Lib.hid (note_any h ⟨0, th, 2, a, 0, x, 0⟩ (st.at a) hl1 hl2)
  clear gb
  go_enter Try.func64, Try.ntmps64
  go_wp2_with (first
    | (go_at_call 74; refine HA.out.mono ?_; rintro e w1 ⟨rfl, rfl⟩)
    | (go_at_call 75; fail))
  refine HN.out.mono ?_
  rintro e w1 ⟨rfl, v1, k1, k2, k3⟩
  obtain ⟨d0, d1, d2, d3, dz, dlt⟩ := k1.head
  obtain ⟨g2, cg2, e2, hg2, gl2, gb2, gn2, gc2, gz2⟩ := k1.read (a := a) ha
  rw [e2] at d0
  have hlen : (st.note ⟨0, th, 2, a, 0, x, 0⟩ (st.at a)).words.length = st.words.length := rfl
  rw [hlen] at d0 hg2
  have K := Lib.hid (note_then k1 k2 k3 ha gb2 x)
  clear e2 gb2 k1 k2 k3 d1 d2 d3 hlen c0 c1 c2 c3 z lt gc gz h
  go_wp2
  go_ret
  exact ⟨rfl, K.out⟩

set_option maxRecDepth 100000 in
set_option maxHeartbeats 1000000 in
theorem swap_ok {w : World} {base mb : Nat} {st : MemS} {v : MemV} (h : MemAt w base mb st v) (hl1 : st.log.length ≤ 3000000000000) (hl2 : st.ahead.length ≤ 3000000000000) (th : Int) (a : Nat) (x y : Int) (ha : a < st.words.length) :
    Calls Try.prog 66 #[.pointer (some ⟨mb, 0, none⟩), .int .i64 th, .int .i64 (a : Int), .int .u64 x, .int .u64 y] w fun e w' =>
    e = .returned (.tuple #[.int .u64 (st.at a), .bool (decide (st.at a = x)), .int .i64 0]) ∧ MemOut w base mb v (st.swap th a x y) w' := by
  obtain ⟨c0, c1, c2, c3, z, lt⟩ := h.head
  obtain ⟨ow, cw, ol, cl, oa, ca, rfl, l1, l2, l3, m1, m2, m3⟩ := h.slices
  obtain ⟨g, cg, e, hg, gl, gb, gn, gc, gz⟩ := h.read ha
  cases e
  have HA := Lib.hid (has_yes h a ha)
  have HN := Lib.hid (note_any h ⟨0, th, 3, a, x, y, st.at a⟩ (st.at a) hl1 hl2)
  clear gb
  by_cases hx : st.at a = x
  · have hs : Hid (st.swap th a x y = { st.note ⟨0, th, 3, a, x, y, st.at a⟩ (st.at a) with words := st.words.set a y }) := by unfold MemS.swap; rw [if_pos hx]; rfl
    have hb : (st.at a != x) = false := by simpa using hx
    have HD := Lib.hid (show decide (st.at a = x) = true by simpa using hx)
    have HX := Lib.hid hx
    clear hx
    generalize st.at a = sa at *
    go_enter Try.func66, Try.ntmps66
    go_wp2_with (first
      | (go_at_call 74; refine HA.out.mono ?_; rintro e w1 ⟨rfl, rfl⟩)
      | (go_at_call 75; fail))
    refine HN.out.mono ?_
    rintro e w1 ⟨rfl, v1, k1, k2, k3⟩
    obtain ⟨d0, d1, d2, d3, dz, dlt⟩ := k1.head
    obtain ⟨g2, cg2, e2, hg2, gl2, gb2, gn2, gc2, gz2⟩ := k1.read (a := a) ha
    rw [e2] at d0
    have hlen : (st.note ⟨0, th, 3, a, x, y, sa⟩ sa).words.length = st.words.length := rfl
    rw [hlen] at d0 hg2
    have K := Lib.hid (note_then k1 k2 k3 ha gb2 y)
    clear e2 gb2 k1 k2 k3 d1 d2 d3 hlen c0 c1 c2 c3 z lt gc gz h
    go_wp2
    go_ret3
    exact ⟨swap_end HD.out, by rw [hs.out]; exact K.out⟩
  · have hs : Hid (st.swap th a x y = st.note ⟨0, th, 3, a, x, y, st.at a⟩ (st.at a)) := by unfold MemS.swap; rw [if_neg hx]; rfl
    have hb : (st.at a != x) = true := by simpa using hx
    have HD := Lib.hid (show decide (st.at a = x) = false by simpa using hx)
    clear hx
    generalize st.at a = sa at *
    go_enter Try.func66, Try.ntmps66
    go_wp2_with (first
      | (go_at_call 74; refine HA.out.mono ?_; rintro e w1 ⟨rfl, rfl⟩)
      | (go_at_call 75; refine HN.out.mono ?_; rintro e w1 ⟨rfl, hm⟩; have HM := Lib.hid hm; clear hm))
    go_ret3
    exact ⟨swap_end HD.out, by rw [hs.out]; exact HM.out⟩

theorem words_mem {w : World} {base mb : Nat} {st : MemS} {v : MemV} (h : MemAt w base mb st v) (hn : st.words.length ≤ 3000000000000) : Calls Try.prog 56 #[.pointer (some ⟨mb, 0, none⟩)] w (Cloned w 27 1 st.words.length (u64s st.words)) := by
  obtain ⟨c0, c1, c2, c3, z, lt⟩ := h.head
  have HC := Lib.hid (clone_u64 h.rw.src hn)
  obtain ⟨ow, cw, ol, cl, oa, ca, rfl, l1, l2, l3, m1, m2, m3⟩ := h.slices
  go_enter Try.func56, Try.ntmps56
  go_wp2_with (go_at_call 67; refine HC.out.mono ?_; rintro e w1 ⟨o', c', rfl, hn', hm', hr, ho⟩; have HR := Lib.hid hr; have HO := Lib.hid ho; clear hr ho)
  go_ret
  exact ⟨o', c', rfl, hn', hm', HR.out, HO.out⟩
theorem words_nil (w : World) : Calls Try.prog 56 #[.pointer none] w fun e w' => e = .returned (.slice none 0 0) ∧ w = w' := by
  go_enter Try.func56, Try.ntmps56
  go_wp2
  go_ret
  exact ⟨rfl, rfl⟩
end Go.Proofs.Ytbhbpfpggfcpgaa
