/-
slices.Clone at []uint64 and []api.Access; memory.New, Words; Load, Store, Swap.
-/
import Derived.Test.YtbhbpfpggfcpgaaMemB
import Derived.WalkSpells
namespace Go.Proofs.Ytbhbpfpggfcpgaa
open Go.ChangeShapes Go.WideShapes Go.ChangeAt Go.RowKit

theorem u64s_one (l : List Int) : ∀ u ∈ u64s l, u.oneCell' = true := by
  intro u hu
  simp only [u64s, List.mem_map] at hu
  obtain ⟨x, _, rfl⟩ := hu
  rfl
theorem accs_one (l : List Acc) : ∀ u ∈ accs l, u.oneCell' = true := by
  intro u hu
  simp only [accs, List.mem_flatMap, Acc.cells] at hu
  obtain ⟨x, _, hx⟩ := hu
  simp at hx
  rcases hx with rfl | rfl | rfl | rfl | rfl | rfl | rfl <;> rfl

/-- a new slice with these cells -/
def Cloned (w : World) (t size n : Nat) (xs : List Value) (e : Ending) (w' : World) : Prop :=
  ∃ o c, e = .returned (.slice o n c) ∧ n ≤ c ∧ c ≤ 9223372036854775807 ∧ w'.RowV w.heap.size t size (.slice o n c) n xs ∧ Only (fun _ => False) w w'

set_option maxRecDepth 100000 in
theorem clone_u64 {w : World} {vx : Value} {l : List Int} (hs : w.Src 1 vx l.length (u64s l)) (hn : l.length ≤ 3000000000000) : Calls Try.prog 67 #[vx] w (Cloned w 27 1 l.length (u64s l)) := by
  obtain ⟨i0, hi, hz0, hz1, hz2⟩ := info_parts infoU64
  have HI := Lib.hid hi
  have HZ0 := Lib.hid hz0
  have HZ1 := Lib.hid hz1
  have HZ2 := Lib.hid hz2
  clear hi hz0 hz1 hz2
  have HS := Lib.hid hs
  rcases hs.2 with ⟨rfl, h0⟩ | ⟨ad, c, rfl, hc, _⟩
  · obtain rfl : l = [] := List.eq_nil_of_length_eq_zero h0
    have hq := fun w => Lib.run_eql_slice_nil (P := Try.prog) w 28 27 none 0 0 0 0 Try.underlying28
    clear hs HS
    go_enter Try.func67, Try.ntmps67
    go_wp2
    go_ret
    exact ⟨none, 0, rfl, Nat.le_refl _, by omega, World.RowV_none _ _ _ _ _, Only.refl _ _⟩
  · have hq := fun w => Lib.run_eql_slice_nil (P := Try.prog) w 28 27 (some ad) l.length c 0 0 Try.underlying28
    have S1 := Lib.hid (u64s_one l)
    have S2 := Lib.hid (show 0 + l.length ≤ maxLen by unfold maxLen; omega)
    have S3 := Lib.hid (show ((0 + l.length) + (0 + l.length) / 4 + 192) * 8 ≤ 281474976710656 by omega)
    clear hs
    go_enter Try.func67, Try.ntmps67
    go_wp2_with (at_builtin; refine wpList_append_row _ rfl _ _ 28 rfl w.heap.size 27 i0 _ 1 8 Try.underlying28 HI.out HZ0.out HZ1.out HZ2.out rfl (.slice (some ⟨w.heap.size, 0, none⟩) 0 0) 0 [] rfl (World.RowV_none _ _ _ _ _) _ l.length (u64s l) rfl (HS.out.alloc _) S1.out S2.out S3.out (by simp) ?_; intro v' w1 hown hout; obtain ⟨o', c', rfl, hn', hm'⟩ := hown.form; have H1 := Lib.hid hown; have H2 := Lib.hid hout; clear hown hout; unfold maxLen at hm')
    go_ret
    exact ⟨o', c', rfl, by omega, by omega, by simpa using H1.out, Only.trans ((Only.refl _ _).alloc _) (Only.out (F := fun _ => False) H2.out (by simp [Value.rowBlock])) (fun _ h => h.elim)⟩

theorem new_long {w : World} (o : Option Addr) (n c : Nat) (hn : 8192 < n) (hm : n ≤ 9223372036854775807) : Calls Try.prog 49 #[.slice o n c] w fun e w' => e = .returned (.tuple #[.pointer none, .int .i64 3]) ∧ w = w' := by
  go_enter Try.func49, Try.ntmps49
  go_wp2
  go_ret2
  exact ⟨rfl, rfl⟩

/-- a new memory -/
def MadeMem (w : World) (l : List Int) (e : Ending) (w' : World) : Prop :=
  ∃ mb v, e = .returned (.tuple #[.pointer (some ⟨mb, 0, none⟩), .int .i64 0]) ∧ MemAt w' w.heap.size mb ⟨l, [], [], 0⟩ v ∧ Only (fun _ => False) w w'

theorem new_ok {w : World} {vx : Value} {l : List Int} (hs : w.Src 1 vx l.length (u64s l)) (hn : l.length ≤ 8192) : Calls Try.prog 49 #[vx] w (MadeMem w l) := by
  have HC := Lib.hid (fun h => clone_u64 (w := w) (vx := vx) (l := l) hs h)
  obtain ⟨o, c, rfl⟩ : ∃ o c, vx = .slice o l.length c := by
    rcases hs.2 with ⟨rfl, h0⟩ | ⟨ad, c, rfl, hc, _⟩
    · exact ⟨none, 0, by rw [h0]⟩
    · exact ⟨some ad, c, rfl⟩
  clear hs
  go_enter Try.func49, Try.ntmps49
  go_wp2_with (go_at_call 67; refine (HC.out (by omega)).mono ?_; rintro e w1 ⟨o', c', rfl, hn', hm', hr, ho⟩; have HR := Lib.hid hr; have HO := Lib.hid ho; clear hr ho)
  go_ret2
  have hlt : ∀ k, (Value.slice o' l.length c').rowBlock = some k → w.heap.size ≤ k ∧ k < w1.heap.size := fun k hk => HR.out.lt k hk
  have hne : (Value.slice o' l.length c').rowBlock ≠ some w1.heap.size := fun e => by have := (hlt _ e).2; omega
  exact ⟨w1.heap.size, ⟨.slice o' l.length c', .slice none 0 0, .slice none 0 0⟩, rfl,
    ⟨heap_alloc_new w1 _, HO.out.size, HR.out.alloc _, World.RowV_none _ _ _ _ _, World.RowV_none _ _ _ _ _, hne, by simp [Value.rowBlock], by simp [Value.rowBlock], by simp [Value.rowBlock], by simp [Value.rowBlock], by simp [Value.rowBlock]⟩, HO.out.alloc _⟩

theorem load_bad {w : World} {base mb : Nat} {st : MemS} {v : MemV} (h : MemAt w base mb st v) (th a : Int) (ha : a < 0 ∨ (st.words.length : Int) ≤ a) : Calls Try.prog 65 #[.pointer (some ⟨mb, 0, none⟩), .int .i64 th, .int .i64 a] w fun e w' =>
    e = .returned (.tuple #[.int .u64 0, .int .i64 20]) ∧ w = w' := by
  have HA := Lib.hid (has_no h a ha)
  clear ha
  go_enter Try.func65, Try.ntmps65
  go_wp2_with (go_at_call 74; refine HA.out.mono ?_; rintro e w1 ⟨rfl, rfl⟩)
  go_ret2
  exact ⟨rfl, rfl⟩

set_option maxRecDepth 100000 in
theorem load_ok {w : World} {base mb : Nat} {st : MemS} {v : MemV} (h : MemAt w base mb st v) (hl1 : st.log.length ≤ 3000000000000) (hl2 : st.ahead.length ≤ 3000000000000) (th : Int) (a : Nat) (ha : a < st.words.length) :
    Calls Try.prog 65 #[.pointer (some ⟨mb, 0, none⟩), .int .i64 th, .int .i64 (a : Int)] w fun e w' =>
    e = .returned (.tuple #[.int .u64 (st.at a), .int .i64 0]) ∧ MemOut w base mb v (st.load th a) w' := by
  obtain ⟨c0, c1, c2, c3, z, lt⟩ := h.head
  obtain ⟨ow, cw, ol, cl, oa, ca, rfl, l1, l2, l3, m1, m2, m3⟩ := h.slices
  obtain ⟨g, cg, e, hg, gl, gb, gn, gc, gz⟩ := h.read ha
  cases e
  have HA := Lib.hid (has_yes h a ha)
  have HN := Lib.hid (note_any h ⟨0, th, 1, a, 0, 0, st.at a⟩ (st.at a) hl1 hl2)
  clear gb
  go_enter Try.func65, Try.ntmps65
  go_wp2_with (first
    | (go_at_call 74; refine HA.out.mono ?_; rintro e w1 ⟨rfl, rfl⟩)
    | (go_at_call 75; refine HN.out.mono ?_; rintro e w1 ⟨rfl, hm⟩; have HM := Lib.hid hm; clear hm))
  go_ret2
  exact ⟨rfl, HM.out⟩
end Go.Proofs.Ytbhbpfpggfcpgaa
