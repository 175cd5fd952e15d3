/-
memory.Memory: note.
slices.Clone at []uint64 and []api.Access; memory.New, Words; Load, Store, Swap.
memory.Memory: Store, Swap, Words.
A region that draws its order: all operations but the last few read or call (a call may make memory of its own), and the last few come in one order behind them all. One walk, in the order of the text, serves every order.
-/
import Derived.Test.YtjcggokhminmoaaQMore
import Derived.Deep.RegionHeld3
import Derived.Deep.RegionLaw
import Derived.Deep.DeepCutAuto
import Derived.Deep.Cut
import Derived.WalkSpells
import Derived.StillTail
namespace Go.Proofs.Ytjcggokhminmoaa
open Go.ChangeShapes Go.WideShapes Go.ChangeAt Go.RowKit

theorem infoU64 : (Try.prog.info? 52).map (fun i => (i.zero, i.size, i.bytes)) = some (some (.int .u64 0), 1, 8) := by kernel_rfl
theorem infoAcc : (Try.prog.info? 56).map (fun i => (i.zero, i.size, i.bytes)) = some (some (.agg #[.int .i64 0, .int .i64 0, .int .i64 0, .int .i64 0, .int .u64 0, .int .u64 0, .int .u64 0]), 7, 56) := by kernel_rfl

set_option maxRecDepth 100000 in
set_option maxHeartbeats 2000000 in
theorem note_any {w : World} {base mb : Nat} {st : MemS} {v : MemV} (h : MemAt w base mb st v) (x : Acc) (ahd : Int) (hl1 : st.log.length ≤ 3000000000000) (hl2 : st.ahead.length ≤ 3000000000000) :
    Calls Try.prog 116 #[.pointer (some ⟨mb, 0, none⟩), .agg #[.int .i64 x.mv, .int .i64 x.th, .int .i64 x.kd, .int .i64 x.ad, .int .u64 x.old, .int .u64 x.nw, .int .u64 x.saw], .int .u64 ahd] w fun e w' =>
    e = .returned (.tuple #[]) ∧ MemOut w base mb v (st.note x ahd) w' := by
  obtain ⟨c0, c1, c2, c3, z, lt⟩ := h.head
  have hv := h.slices
  obtain ⟨ow, cw, ol, cl, oa, ca, rfl, l1, l2, l3, m1, m2, m3⟩ := hv
  obtain ⟨i0, hi, hz0, hz1, hz2⟩ := info_parts infoAcc
  have HI := Lib.hid hi
  have HZ0 := Lib.hid hz0
  have HZ1 := Lib.hid hz1
  have HZ2 := Lib.hid hz2
  clear hi hz0 hz1 hz2
  have S1 := Lib.hid (show ∀ u ∈ [Value.int .i64 st.move, .int .i64 x.th, .int .i64 x.kd, .int .i64 x.ad, .int .u64 x.old, .int .u64 x.nw, .int .u64 x.saw], u.oneCell' = true by simp [Value.oneCell'])
  have S2 := Lib.hid (show st.log.length + 1 ≤ maxLen by unfold maxLen; omega)
  have S3 := Lib.hid (show ((st.log.length + 1) + (st.log.length + 1) / 4 + 192) * 56 ≤ 281474976710656 by omega)
  go_enter Try.func116, Try.ntmps116
  go_upto_region 2 with (fail)
  go_cut [] (fun wx => MemOut w base mb ⟨.slice ow st.words.length cw, .slice ol st.log.length cl, .slice oa st.ahead.length ca⟩ { st with log := st.log ++ [{ x with mv := st.move }] } wx)
  case first =>
    go_region_law ((refine step_append_row _ (by rfl) _ _ 38 (by rfl) base 56 i0 _ 7 56 Try.underlying38 HI.out HZ0.out HZ1.out HZ2.out rfl (.slice ol st.log.length cl) st.log.length (accs st.log) (by rfl) (by repeat (first | exact h.rl | apply World.RowV.alloc | apply World.RowV.drew)) _ 1 _ (by rfl) (by repeat (first | apply World.Src.drew | exact World.Src.one rfl (by simp))) S1.out S2.out S3.out (by have := h.base_le; simp; omega) ?_; intro v' w1 hown hout; obtain ⟨o', c', rfl, hn', hm'⟩ := hown.form; obtain ⟨d0, d1, d2, d3, zz, lt1⟩ := hout.head (by repeat (first | exact h | apply MemAt.alloc | apply MemAt.drew)) h.m2; have H1 := Lib.hid (MemAt.app_log (v := ⟨.slice ow st.words.length cw, .slice ol st.log.length cl, .slice oa st.ahead.length ca⟩) (x := { x with mv := st.move }) (by repeat (first | exact h | apply MemAt.alloc | apply MemAt.drew)) hown hout); clear hown hout hm'))
    all_goals
      go_wp2
      go_meet
      exact MemOut.pre (by repeat (first | exact Only.refl _ _ | apply Only.alloc | apply Only.drew)) H1.out
  case rest =>
    have S5 := Lib.hid (show ∀ u ∈ [Value.int .u64 ahd], u.oneCell' = true by simp [Value.oneCell'])
    have S6 := Lib.hid (show st.ahead.length + 1 ≤ maxLen by unfold maxLen; omega)
    have S7 := Lib.hid (show ((st.ahead.length + 1) + (st.ahead.length + 1) / 4 + 192) * 8 ≤ 281474976710656 by omega)
    obtain ⟨j0, ji, jz0, jz1, jz2⟩ := info_parts infoU64
    have JI := Lib.hid ji
    have JZ0 := Lib.hid jz0
    have JZ1 := Lib.hid jz1
    have JZ2 := Lib.hid jz2
    clear ji jz0 jz1 jz2 c0 c1 c2 c3 z lt h
    obtain ⟨v2, k1, k2, k3⟩ := hcut
    have hm0 := k1.base_le
    obtain ⟨e0, e1, e2, e3, ee, el⟩ := k1.head
    obtain ⟨ow2, cw2, ol2, cl2, oa2, ca2, rfl, q1, q2, q3, r1, r2, r3⟩ := k1.slices
    have K1 := Lib.hid k1
    have K2 := Lib.hid k2
    have K3 := Lib.hid k3
    clear k1 k2 k3
    go_wp2_with (at_builtin; refine wpList_append_row _ rfl _ _ 40 rfl base 52 j0 _ 1 8 Try.underlying40 JI.out JZ0.out JZ1.out JZ2.out rfl (.slice oa2 st.ahead.length ca2) st.ahead.length (u64s st.ahead) rfl (K1.out.ra.alloc _) _ 1 _ rfl (World.Src.one rfl rfl) S5.out S6.out S7.out (by have := hm0; simp; omega) ?_; intro v' w1 hown hout; obtain ⟨o', c', rfl, hn', hm'⟩ := hown.form; obtain ⟨d0, d1, d2, d3, zz, lt1⟩ := hout.head (K1.out.alloc _) K1.out.m3; have H2 := Lib.hid (MemAt.app_ahead (st := { st with log := st.log ++ [{ x with mv := st.move }] }) (v := ⟨.slice ow2 st.words.length cw2, .slice ol2 (st.log ++ [{ x with mv := st.move }]).length cl2, .slice oa2 st.ahead.length ca2⟩) (K1.out.alloc _) hown hout); clear hown hout hm')
    go_end0
    exact ⟨rfl, MemOut.step K1.out K2.out K3.out (MemOut.pre ((Only.refl _ _).alloc _) H2.out)⟩
end Go.Proofs.Ytjcggokhminmoaa
namespace Go.Proofs.Ytjcggokhminmoaa
open Go.ChangeShapes Go.WideShapes Go.ChangeAt Go.RowKit

theorem u64s_one (l : List Int) : ∀ u ∈ u64s l, u.oneCell' = true := by
  intro u hu
  simp only [u64s, List.mem_map] at hu
  obtain ⟨x, _, rfl⟩ := hu
  rfl
theorem accs_one (l : List Acc) : ∀ u ∈ accs l, u.oneCell' = true := by
  intro u hu
  simp only [accs, List.mem_flatMap, Acc.cells] at hu
  obtain ⟨x, _, hx⟩ := hu
  simp at hx
  rcases hx with rfl | rfl | rfl | rfl | rfl | rfl | rfl <;> rfl

/-- a new slice with these cells -/
def Cloned (w : World) (t size n : Nat) (xs : List Value) (e : Ending) (w' : World) : Prop :=
  ∃ o c, e = .returned (.slice o n c) ∧ n ≤ c ∧ c ≤ 9223372036854775807 ∧ w'.RowV w.heap.size t size (.slice o n c) n xs ∧ Only (fun _ => False) w w'

set_option maxRecDepth 100000 in
theorem clone_u64 {w : World} {vx : Value} {l : List Int} (hs : w.Src 1 vx l.length (u64s l)) (hn : l.length ≤ 3000000000000) : Calls Try.prog 68 #[vx] w (Cloned w 52 1 l.length (u64s l)) := by
  obtain ⟨i0, hi, hz0, hz1, hz2⟩ := info_parts infoU64
  have HI := Lib.hid hi
  have HZ0 := Lib.hid hz0
  have HZ1 := Lib.hid hz1
  have HZ2 := Lib.hid hz2
  clear hi hz0 hz1 hz2
  have HS := Lib.hid hs
  rcases hs.2 with ⟨rfl, h0⟩ | ⟨ad, c, rfl, hc, _⟩
  · obtain rfl : l = [] := List.eq_nil_of_length_eq_zero h0
    have hq := fun w => Lib.run_eql_slice_nil (P := Try.prog) w 40 52 none 0 0 0 0 Try.underlying40
    clear hs HS
    go_enter Try.func68, Try.ntmps68
    go_wp2
    go_ret
    exact ⟨none, 0, rfl, Nat.le_refl _, by omega, World.RowV_none _ _ _ _ _, Only.refl _ _⟩
  · have hq := fun w => Lib.run_eql_slice_nil (P := Try.prog) w 40 52 (some ad) l.length c 0 0 Try.underlying40
    have S1 := Lib.hid (u64s_one l)
    have S2 := Lib.hid (show 0 + l.length ≤ maxLen by unfold maxLen; omega)
    have S3 := Lib.hid (show ((0 + l.length) + (0 + l.length) / 4 + 192) * 8 ≤ 281474976710656 by omega)
    clear hs
    go_enter Try.func68, Try.ntmps68
    go_wp2_with (at_builtin; refine wpList_append_row _ rfl _ _ 40 rfl w.heap.size 52 i0 _ 1 8 Try.underlying40 HI.out HZ0.out HZ1.out HZ2.out rfl (.slice (some ⟨w.heap.size, 0, none⟩) 0 0) 0 [] rfl (World.RowV_none _ _ _ _ _) _ l.length (u64s l) rfl (HS.out.alloc _) S1.out S2.out S3.out (by simp) ?_; intro v' w1 hown hout; obtain ⟨o', c', rfl, hn', hm'⟩ := hown.form; have H1 := Lib.hid hown; have H2 := Lib.hid hout; clear hown hout; unfold maxLen at hm')
    go_ret
    exact ⟨o', c', rfl, by omega, by omega, by simpa using H1.out, Only.trans ((Only.refl _ _).alloc _) (Only.out (F := fun _ => False) H2.out (by simp [Value.rowBlock])) (fun _ h => h.elim)⟩

theorem new_long {w : World} (o : Option Addr) (n c : Nat) (hn : 8192 < n) (hm : n ≤ 9223372036854775807) : Calls Try.prog 60 #[.slice o n c] w fun e w' => e = .returned (.tuple #[.pointer none, .int .i64 3]) ∧ w = w' := by
  go_enter Try.func60, Try.ntmps60
  go_wp2
  go_ret2
  exact ⟨rfl, rfl⟩

/-- a new memory -/
def MadeMem (w : World) (l : List Int) (e : Ending) (w' : World) : Prop :=
  ∃ mb v, e = .returned (.tuple #[.pointer (some ⟨mb, 0, none⟩), .int .i64 0]) ∧ MemAt w' w.heap.size mb ⟨l, [], [], 0⟩ v ∧ Only (fun _ => False) w w'

theorem new_ok {w : World} {vx : Value} {l : List Int} (hs : w.Src 1 vx l.length (u64s l)) (hn : l.length ≤ 8192) : Calls Try.prog 60 #[vx] w (MadeMem w l) := by
  have HC := Lib.hid (fun h => clone_u64 (w := w) (vx := vx) (l := l) hs h)
  obtain ⟨o, c, rfl⟩ : ∃ o c, vx = .slice o l.length c := by
    rcases hs.2 with ⟨rfl, h0⟩ | ⟨ad, c, rfl, hc, _⟩
    · exact ⟨none, 0, by rw [h0]⟩
    · exact ⟨some ad, c, rfl⟩
  clear hs
  go_enter Try.func60, Try.ntmps60
  go_wp2_with (go_at_call 68; refine (HC.out (by omega)).mono ?_; rintro e w1 ⟨o', c', rfl, hn', hm', hr, ho⟩; have HR := Lib.hid hr; have HO := Lib.hid ho; clear hr ho)
  go_ret2
  have hlt : ∀ k, (Value.slice o' l.length c').rowBlock = some k → w.heap.size ≤ k ∧ k < w1.heap.size := fun k hk => HR.out.lt k hk
  have hne : (Value.slice o' l.length c').rowBlock ≠ some w1.heap.size := fun e => by have := (hlt _ e).2; omega
  exact ⟨w1.heap.size, ⟨.slice o' l.length c', .slice none 0 0, .slice none 0 0⟩, rfl,
    ⟨heap_alloc_new w1 _, HO.out.size, HR.out.alloc _, World.RowV_none _ _ _ _ _, World.RowV_none _ _ _ _ _, hne, by simp [Value.rowBlock], by simp [Value.rowBlock], by simp [Value.rowBlock], by simp [Value.rowBlock], by simp [Value.rowBlock]⟩, HO.out.alloc _⟩

theorem load_bad {w : World} {base mb : Nat} {st : MemS} {v : MemV} (h : MemAt w base mb st v) (th a : Int) (ha : a < 0 ∨ (st.words.length : Int) ≤ a) : Calls Try.prog 109 #[.pointer (some ⟨mb, 0, none⟩), .int .i64 th, .int .i64 a] w fun e w' =>
    e = .returned (.tuple #[.int .u64 0, .int .i64 20]) ∧ w = w' := by
  have HA := Lib.hid (has_no h a ha)
  clear ha
  go_enter Try.func109, Try.ntmps109
  go_wp2_with (go_at_call 115; refine HA.out.mono ?_; rintro e w1 ⟨rfl, rfl⟩)
  go_ret2
  exact ⟨rfl, rfl⟩

set_option maxRecDepth 100000 in
theorem load_ok {w : World} {base mb : Nat} {st : MemS} {v : MemV} (h : MemAt w base mb st v) (hl1 : st.log.length ≤ 3000000000000) (hl2 : st.ahead.length ≤ 3000000000000) (th : Int) (a : Nat) (ha : a < st.words.length) :
    Calls Try.prog 109 #[.pointer (some ⟨mb, 0, none⟩), .int .i64 th, .int .i64 (a : Int)] w fun e w' =>
    e = .returned (.tuple #[.int .u64 (st.at a), .int .i64 0]) ∧ MemOut w base mb v (st.load th a) w' := by
  obtain ⟨c0, c1, c2, c3, z, lt⟩ := h.head
  obtain ⟨ow, cw, ol, cl, oa, ca, rfl, l1, l2, l3, m1, m2, m3⟩ := h.slices
  obtain ⟨g, cg, e, hg, gl, gb, gn, gc, gz⟩ := h.read ha
  cases e
  have HA := Lib.hid (has_yes h a ha)
  have HN := Lib.hid (note_any h ⟨0, th, 1, a, 0, 0, st.at a⟩ (st.at a) hl1 hl2)
  clear gb
  go_enter Try.func109, Try.ntmps109
  go_wp2_with (first
    | (go_at_call 115; refine HA.out.mono ?_; rintro e w1 ⟨rfl, rfl⟩)
    | (go_at_call 116; refine HN.out.mono ?_; rintro e w1 ⟨rfl, hm⟩; have HM := Lib.hid hm; clear hm))
  go_ret2
  exact ⟨rfl, HM.out⟩
end Go.Proofs.Ytjcggokhminmoaa
namespace Go.Proofs.Ytjcggokhminmoaa
open Go.ChangeShapes Go.WideShapes Go.ChangeAt Go.RowKit

theorem store_bad {w : World} {base mb : Nat} {st : MemS} {v : MemV} (h : MemAt w base mb st v) (th a x : Int) (ha : a < 0 ∨ (st.words.length : Int) ≤ a) : Calls Try.prog 121 #[.pointer (some ⟨mb, 0, none⟩), .int .i64 th, .int .i64 a, .int .u64 x] w fun e w' =>
    e = .returned (.int .i64 20) ∧ w = w' := by
  have HA := Lib.hid (has_no h a ha)
  clear ha
  go_enter Try.func121, Try.ntmps121
  go_wp2_with (go_at_call 115; refine HA.out.mono ?_; rintro e w1 ⟨rfl, rfl⟩)
  go_ret
  exact ⟨rfl, rfl⟩
theorem swap_bad {w : World} {base mb : Nat} {st : MemS} {v : MemV} (h : MemAt w base mb st v) (th a x y : Int) (ha : a < 0 ∨ (st.words.length : Int) ≤ a) : Calls Try.prog 111 #[.pointer (some ⟨mb, 0, none⟩), .int .i64 th, .int .i64 a, .int .u64 x, .int .u64 y] w fun e w' =>
    e = .returned (.tuple #[.int .u64 0, .bool false, .int .i64 20]) ∧ w = w' := by
  have HA := Lib.hid (has_no h a ha)
  clear ha
  go_enter Try.func111, Try.ntmps111
  go_wp2_with (go_at_call 115; refine HA.out.mono ?_; rintro e w1 ⟨rfl, rfl⟩)
  go_ret3
  exact ⟨rfl, rfl⟩

theorem swap_end {sa : Int} {b c : Bool} (h : c = b) : Ending.returned (.tuple #[.int .u64 sa, .bool b, .int .i64 0]) = .returned (.tuple #[.int .u64 sa, .bool c, .int .i64 0]) := by rw [h]

/-- behind a noted access the word is written -/
theorem note_then {w w1 : World} {base mb : Nat} {st : MemS} {v v1 : MemV} {acc : Acc} {ahd : Int} (h1 : MemAt w1 base mb (st.note acc ahd) v1) (h2 : Only (v.own mb) w w1) (h3 : ∀ k, v1.own mb k → v.own mb k ∨ w.heap.size ≤ k)
    {a g : Nat} (ha : a < st.words.length) (hg : v1.vw.rowBlock = some g) (x : Int) : MemOut w base mb v { st.note acc ahd with words := st.words.set a x } (w1.setCell ⟨g, a, none⟩ (.int .u64 x)) :=
  ⟨v1, h1.put_word (st := st.note acc ahd) ha hg x, h2.set (h3 g (.inr (.inl hg))) _, h3⟩

set_option maxRecDepth 100000 in
set_option maxHeartbeats 1000000 in
theorem store_ok {w : World} {base mb : Nat} {st : MemS} {v : MemV} (h : MemAt w base mb st v) (hl1 : st.log.length ≤ 3000000000000) (hl2 : st.ahead.length ≤ 3000000000000) (th : Int) (a : Nat) (x : Int) (ha : a < st.words.length) :
    Calls Try.prog 121 #[.pointer (some ⟨mb, 0, none⟩), .int .i64 th, .int .i64 (a : Int), .int .u64 x] w fun e w' =>
    e = .returned (.int .i64 0) ∧ MemOut w base mb v (st.store th a x) w' := by
  obtain ⟨c0, c1, c2, c3, z, lt⟩ := h.head
  obtain ⟨ow, cw, ol, cl, oa, ca, rfl, l1, l2, l3, m1, m2, m3⟩ := h.slices
  obtain ⟨g, cg, e, hg, gl, gb, gn, gc, gz⟩ := h.read ha
  cases e
  have HA := Lib.hid (has_yes h a ha)
  have HN := Lib.hid (note_any h ⟨0, th, 2, a, 0, x, 0⟩ (st.at a) hl1 hl2)
  clear gb
  go_enter Try.func121, Try.ntmps121
  go_wp2_with (first
    | (go_at_call 115; refine HA.out.mono ?_; rintro e w1 ⟨rfl, rfl⟩)
    | (go_at_call 116; fail))
  refine HN.out.mono ?_
  rintro e w1 ⟨rfl, v1, k1, k2, k3⟩
  obtain ⟨d0, d1, d2, d3, dz, dlt⟩ := k1.head
  obtain ⟨g2, cg2, e2, hg2, gl2, gb2, gn2, gc2, gz2⟩ := k1.read (a := a) ha
  rw [e2] at d0
  have hlen : (st.note ⟨0, th, 2, a, 0, x, 0⟩ (st.at a)).words.length = st.words.length := rfl
  rw [hlen] at d0 hg2
  have K := Lib.hid (note_then k1 k2 k3 ha gb2 x)
  clear e2 gb2 k1 k2 k3 d1 d2 d3 hlen c0 c1 c2 c3 z lt gc gz h
  go_wp2
  go_ret
  exact ⟨rfl, K.out⟩

set_option maxRecDepth 100000 in
set_option maxHeartbeats 1000000 in
theorem swap_ok {w : World} {base mb : Nat} {st : MemS} {v : MemV} (h : MemAt w base mb st v) (hl1 : st.log.length ≤ 3000000000000) (hl2 : st.ahead.length ≤ 3000000000000) (th : Int) (a : Nat) (x y : Int) (ha : a < st.words.length) :
    Calls Try.prog 111 #[.pointer (some ⟨mb, 0, none⟩), .int .i64 th, .int .i64 (a : Int), .int .u64 x, .int .u64 y] w fun e w' =>
    e = .returned (.tuple #[.int .u64 (st.at a), .bool (decide (st.at a = x)), .int .i64 0]) ∧ MemOut w base mb v (st.swap th a x y) w' := by
  obtain ⟨c0, c1, c2, c3, z, lt⟩ := h.head
  obtain ⟨ow, cw, ol, cl, oa, ca, rfl, l1, l2, l3, m1, m2, m3⟩ := h.slices
  obtain ⟨g, cg, e, hg, gl, gb, gn, gc, gz⟩ := h.read ha
  cases e
  have HA := Lib.hid (has_yes h a ha)
  have HN := Lib.hid (note_any h ⟨0, th, 3, a, x, y, st.at a⟩ (st.at a) hl1 hl2)
  clear gb
  by_cases hx : st.at a = x
  · have hs : Hid (st.swap th a x y = { st.note ⟨0, th, 3, a, x, y, st.at a⟩ (st.at a) with words := st.words.set a y }) := by unfold MemS.swap; rw [if_pos hx]; rfl
    have hb : (st.at a != x) = false := by simpa using hx
    have HD := Lib.hid (show decide (st.at a = x) = true by simpa using hx)
    have HX := Lib.hid hx
    clear hx
    generalize st.at a = sa at *
    go_enter Try.func111, Try.ntmps111
    go_wp2_with (first
      | (go_at_call 115; refine HA.out.mono ?_; rintro e w1 ⟨rfl, rfl⟩)
      | (go_at_call 116; fail))
    refine HN.out.mono ?_
    rintro e w1 ⟨rfl, v1, k1, k2, k3⟩
    obtain ⟨d0, d1, d2, d3, dz, dlt⟩ := k1.head
    obtain ⟨g2, cg2, e2, hg2, gl2, gb2, gn2, gc2, gz2⟩ := k1.read (a := a) ha
    rw [e2] at d0
    have hlen : (st.note ⟨0, th, 3, a, x, y, sa⟩ sa).words.length = st.words.length := rfl
    rw [hlen] at d0 hg2
    have K := Lib.hid (note_then k1 k2 k3 ha gb2 y)
    clear e2 gb2 k1 k2 k3 d1 d2 d3 hlen c0 c1 c2 c3 z lt gc gz h
    go_wp2
    go_ret3
    exact ⟨swap_end HD.out, by rw [hs.out]; exact K.out⟩
  · have hs : Hid (st.swap th a x y = st.note ⟨0, th, 3, a, x, y, st.at a⟩ (st.at a)) := by unfold MemS.swap; rw [if_neg hx]; rfl
    have hb : (st.at a != x) = true := by simpa using hx
    have HD := Lib.hid (show decide (st.at a = x) = false by simpa using hx)
    clear hx
    generalize st.at a = sa at *
    go_enter Try.func111, Try.ntmps111
    go_wp2_with (first
      | (go_at_call 115; refine HA.out.mono ?_; rintro e w1 ⟨rfl, rfl⟩)
      | (go_at_call 116; refine HN.out.mono ?_; rintro e w1 ⟨rfl, hm⟩; have HM := Lib.hid hm; clear hm))
    go_ret3
    exact ⟨swap_end HD.out, by rw [hs.out]; exact HM.out⟩

theorem words_mem {w : World} {base mb : Nat} {st : MemS} {v : MemV} (h : MemAt w base mb st v) (hn : st.words.length ≤ 3000000000000) : Calls Try.prog 48 #[.pointer (some ⟨mb, 0, none⟩)] w (Cloned w 52 1 st.words.length (u64s st.words)) := by
  obtain ⟨c0, c1, c2, c3, z, lt⟩ := h.head
  have HC := Lib.hid (clone_u64 h.rw.src hn)
  obtain ⟨ow, cw, ol, cl, oa, ca, rfl, l1, l2, l3, m1, m2, m3⟩ := h.slices
  go_enter Try.func48, Try.ntmps48
  go_wp2_with (go_at_call 68; refine HC.out.mono ?_; rintro e w1 ⟨o', c', rfl, hn', hm', hr, ho⟩; have HR := Lib.hid hr; have HO := Lib.hid ho; clear hr ho)
  go_ret
  exact ⟨o', c', rfl, hn', hm', HR.out, HO.out⟩
theorem words_nil (w : World) : Calls Try.prog 48 #[.pointer none] w fun e w' => e = .returned (.slice none 0 0) ∧ w = w' := by
  go_enter Try.func48, Try.ntmps48
  go_wp2
  go_ret
  exact ⟨rfl, rfl⟩
end Go.Proofs.Ytjcggokhminmoaa
namespace Go
open Go.RowKit

section
variable {P : Program} {ops : Array Oper} {md : Region.Mode} {C : World → Prop} {n : Nat} {L : Array Bool → Act → Prop}

/-- f operations of the head are still to come, in whatever order; then L. -/
def headAny (P : Program) (md : Region.Mode) (ops : Array Oper) (C : World → Prop) (n : Nat) (L : Array Bool → Act → Prop) : Nat → Array Bool → Act → Prop
  | 0, b, a => L b a
  | f + 1, b, a => (∃ i, i ∈ Region.ready md ops b) ∧ ∀ i, i ∈ Region.ready md ops b → i < n ∧ qOp P ops C i (headAny P md ops C n L f (b.setIfInBounds i true)) a

theorem headAny_sound {g : Nat} {Q : Exit → Act → World → Prop} (hL : ∀ b a w, C w → L b a → wpAny P md ops Q g b a w) :
    ∀ f b a w, C w → headAny P md ops C n L f b a → wpAny P md ops Q (f + g) b a w := by
  intro f
  induction f with
  | zero => intro b a w hw h; rw [Nat.zero_add]; exact hL _ _ _ hw h
  | succ f ih =>
    intro b a w hw h
    obtain ⟨⟨i0, hi0⟩, hall⟩ := h
    rw [show f + 1 + g = (f + g) + 1 by omega]
    refine ⟨fun he => ?_, fun i hi => wpOp_of_qOp hw (fun a' w' hw' h' => ih _ a' w' hw' h') (hall i hi).2⟩
    rw [he] at hi0
    cases hi0

/-- One operation of the head may be taken first. -/
theorem headAny_first {i : Nat} {o : Oper} {v : Value} (hi : ops[i]? = some o) (hsel : ∀ (j : Nat) (o : Oper) cs b, ops[j]? = some o → o.op ≠ .select cs b)
    (hs : Region.sinkB md ops n = true) (hc : Region.chainB md ops n = true) (hn : n < ops.size) (hin : i < n) (hend : ∀ b a, L b a → ∀ j ∈ Region.ready md ops b, n ≤ j) :
    ∀ f b a, HeadInv md ops n b → (∀ j oj, ops[j]? = some oj → j ≠ i → b.getD j true = false → (∀ e ∈ oj.after, Region.binds md e = true → e.on ≠ i) → o.apart ops oj = true) →
      i ∈ Region.ready md ops b → YieldsIn P ops C o v a → headAny P md ops C n L f (b.setIfInBounds i true) (a.put o.dst v) → headAny P md ops C n L (f + 1) b a := by
  intro f
  induction f with
  | zero =>
    intro b a inv hfree hr hy H
    refine ⟨⟨i, hr⟩, fun j hj => ?_⟩
    rcases Nat.lt_or_ge j n with hjn | hjn
    · refine ⟨hjn, ?_⟩
      by_cases e : j = i
      · subst e; exact hy.qOp hi H
      · exact absurd (hend _ _ H j (ready_mono hj e)) (by omega)
    · exact absurd hj (tail_waits hs hc hn inv _ i rfl hin (mem_ready.1 hr).1 j hjn)
  | succ f ih =>
    intro b a inv hfree hr hy H
    have hun := (mem_ready.1 hr).1
    refine ⟨⟨i, hr⟩, fun j hj => ?_⟩
    rcases Nat.lt_or_ge j n with hjn | hjn
    · refine ⟨hjn, ?_⟩
      by_cases e : j = i
      · subst e; exact hy.qOp hi H
      · obtain ⟨hjun, oj, hoj, hall⟩ := mem_ready.1 hj
        have hnot : ∀ x ∈ oj.after, Region.binds md x = true → x.on ≠ i := by
          intro x hx hb heq
          have := hall x hx hb
          rw [heq, getD_both hun] at this
          cases this
        have hq := qOp_put hoj (hfree j oj hoj e hjun hnot) (fun cs b => hsel i o cs b hi) (fun cs b => hsel j oj cs b hoj) hy (H.2 j (ready_mono hj e)).2
        refine qOp_mono (fun a' h3 => ih _ a' (inv.set hj hjn) ?_ (ready_mono hr (Ne.symm e)) h3.1 ?_) hq
        · intro k ok hk hki hku hno
          refine hfree k ok hk hki ?_ hno
          by_cases hjk : j = k
          · subst hjk; exact hjun
          · rwa [getD_set_ne true hjk] at hku
        · rw [Array.setIfInBounds_comm _ _ e]
          exact h3.2
    · exact absurd hj (tail_waits hs hc hn inv _ i rfl hin hun j hjn)

/-- The order of the text, as far as the head goes. -/
theorem headAny_text {g : Nat} {K : Act → Prop} (hsel : Region.noSelect ops = true) (hs : Region.sinkB md ops n = true) (hc : Region.chainB md ops n = true) (hn : n < ops.size) :
    ∀ (l : List Oper) (k : Nat) (b : Array Bool) (a : Act), (∀ j, j < l.length → l[j]? = ops[k + j]?) → k + l.length = n → HeadInv md ops n b →
      Region.lexHead md ops g l.length k b = true → wpQuiet P ops C K l a → headAny P md ops C n (fun b' a' => Region.seqB md ops g n b' = true ∧ K a') l.length b a := by
  intro l
  induction l with
  | nil =>
    intro k b a _ hk _ hB h
    obtain rfl : k = n := by simpa using hk
    exact ⟨hB, h⟩
  | cons o l ih =>
    intro k b a hl hk inv hB h
    have h0 : ops[k]? = some o := by simpa using (hl 0 (by simp)).symm
    simp only [List.length_cons] at hk hB
    simp only [Region.lexHead, Bool.and_eq_true] at hB
    obtain ⟨⟨hr, hf⟩, hB'⟩ := hB
    have hr' : k ∈ Region.ready md ops b := by simpa using hr
    have hq : qOp P ops C k (wpQuiet P ops C K l) a := by unfold qOp; simp only [h0]; exact h
    obtain ⟨v, hy, hK⟩ := yieldsIn_of_qOp h0 hq
    refine headAny_first h0 (Region.noSelect_spec hsel) hs hc hn (by omega) (fun b' a' hL => seqB_ready hL.1) l.length b a inv (Region.free_spec h0 hf) hr' hy ?_
    refine ih (k + 1) _ _ (fun j hj => ?_) (by omega) (inv.set hr' (by omega)) hB' hK
    have := hl (j + 1) (by simp; omega)
    simpa [Nat.add_assoc, Nat.add_comm 1 j] using this

theorem wp_region_more_tail {id : Nat} {Q : Exit → Act → World → Prop} {a : Act} {w : World} {l : List Oper} (n : Nat) (hm : P.follows .mixedOrders = true) (hB : Region.lexTailB .any l.toArray n = true)
    (h : wpQuiet P l.toArray (fun w' => ∃ g : Growth, w' = w.more g.os g.d) (fun a' => ∀ os d, wpList P l.toArray Q (l.drop n) a' (w.more os d)) (l.take n) a) : (Code.region id l.toArray true).wp P Q a w := by
  simp only [Region.lexTailB, Bool.and_eq_true, decide_eq_true_eq] at hB
  obtain ⟨⟨⟨⟨hsel, hn⟩, hs⟩, hc⟩, hlex⟩ := hB
  have hn' : n < l.length := by simpa using hn
  have htl : (l.take n).length = n := by simp; omega
  have hdl : (l.drop n).length = l.toArray.size - n := by simp
  have inv0 : HeadInv .any l.toArray n (Array.replicate l.toArray.size false) :=
    ⟨by simp, fun j oj _ hl => (by rw [getD_replicate_false] at hl; cases hl), fun t _ ht => getD_in (by simpa using ht) (getD_replicate_false _ _)⟩
  have H := headAny_text (md := .any) (g := l.toArray.size - n) hsel hs hc hn (l.take n) 0 _ a (fun j hj => by
    rw [htl] at hj
    simp [hj]) (by simpa using htl) inv0 (by rw [htl]; exact hlex) h
  refine wp_region_any hm ?_
  have hfin := headAny_sound (C := fun w' => ∃ g : Growth, w' = w.more g.os g.d) (Q := Q) (g := l.toArray.size - n) (fun b a' w' hw hL => by
    obtain ⟨g, rfl⟩ := hw
    have := wpAny_of_seq (md := .any) (Q' := Q) (l.drop n) n b a' (w.more g.os g.d) (fun j => by simp [List.getElem?_drop]) (by rw [hdl]; exact hL.1) (hL.2 _ _)
    rwa [hdl] at this) _ _ _ { w with drawn := w.drawn + 1 } ⟨⟨#[], w.drawn + 1⟩, by simp [World.more]⟩ H
  rw [htl, show n + (l.toArray.size - n) = l.toArray.size by omega] at hfin
  exact hfin
end
end Go
