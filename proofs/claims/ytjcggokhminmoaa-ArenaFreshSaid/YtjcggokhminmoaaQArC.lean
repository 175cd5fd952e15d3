/-
arena.Shift; the part that takes: got, Ready, Step, Slot.
The part that takes: got, Ready, Slot.
The loop that puts a slot into the free list: pushing.step.
-/
import Derived.Test.YtjcggokhminmoaaQAddr
namespace Go.Proofs.Ytjcggokhminmoaa
open Go.ChangeShapes Go.WideShapes Go.ChangeAt Go.RowKit

theorem tr_slot {w : World} {base xb db ab tb : Nat} {st : MachS} {v : MachV} {s : ArS} {av : ArV} {o : Obj} (H : Tr w base xb db ab tb st v s av o) {n g : Nat} (hg : av.vsl.rowBlock = some g) (hn : n < s.slots.length) (x y : Int) :
    TrOut w base xb db ab tb v av st (s.put n x y) o ((w.setCell ⟨g, n * 2, none⟩ (.int .i64 x)).setCell ⟨g, n * 2 + 1, none⟩ (.int .i64 y)) := by
  have h1 := H.a.putSlot (i := n) (j := 0) hg hn (by omega) (x, s.slots[n].2) (.int .i64 x) rfl
  have h2 := h1.putSlot (i := n) (j := 1) hg (by simpa using hn) (by omega) (x, y) (.int .i64 y) (by simp [slotC])
  rw [show ({ ({ s with slots := s.slots.set n (x, s.slots[n].2) } : ArS) with slots := (s.slots.set n (x, s.slots[n].2)).set n (x, y) } : ArS) = s.put n x y by unfold ArS.put; simp] at h2
  have ho : Only (fun k => k = g) w ((w.setCell ⟨g, n * 2, none⟩ (.int .i64 x)).setCell ⟨g, n * 2 + 1, none⟩ (.int .i64 y)) := Only.set (F := fun k => k = g) (Only.set (F := fun k => k = g) (Only.refl _ w) (p := ⟨g, n * 2, none⟩) (.inl rfl) _) (p := ⟨g, n * 2 + 1, none⟩) (.inl rfl) _
  exact H.arena h2 ho (fun k hk => by subst hk; exact .inr (.inl hg)) (fun k hk => .inl hk)
theorem tr_slot3 {w : World} {base xb db ab tb : Nat} {st : MachS} {v : MachV} {s : ArS} {av : ArV} {o : Obj} (H : Tr w base xb db ab tb st v s av o) {n g : Nat} (hg : av.vsl.rowBlock = some g) (hn : n < s.slots.length) (x z y : Int) :
    TrOut w base xb db ab tb v av st (s.put n x y) o (((w.setCell ⟨g, n * 2, none⟩ (.int .i64 x)).setCell ⟨g, n * 2 + 1, none⟩ (.int .i64 z)).setCell ⟨g, n * 2 + 1, none⟩ (.int .i64 y)) := by
  have h1 := H.a.putSlot (i := n) (j := 0) hg hn (by omega) (x, s.slots[n].2) (.int .i64 x) rfl
  have h2 := h1.putSlot (i := n) (j := 1) hg (by simpa using hn) (by omega) (x, z) (.int .i64 z) (by simp [slotC])
  have h3 := h2.putSlot (i := n) (j := 1) hg (by simpa using hn) (by omega) (x, y) (.int .i64 y) (by simp [slotC])
  rw [show ({ ({ ({ s with slots := s.slots.set n (x, s.slots[n].2) } : ArS) with slots := (s.slots.set n (x, s.slots[n].2)).set n (x, z) } : ArS) with slots := ((s.slots.set n (x, s.slots[n].2)).set n (x, z)).set n (x, y) } : ArS) = s.put n x y by unfold ArS.put; simp] at h3
  have ho : Only (fun k => k = g) w (((w.setCell ⟨g, n * 2, none⟩ (.int .i64 x)).setCell ⟨g, n * 2 + 1, none⟩ (.int .i64 z)).setCell ⟨g, n * 2 + 1, none⟩ (.int .i64 y)) :=
    Only.set (F := fun k => k = g) (Only.set (F := fun k => k = g) (Only.set (F := fun k => k = g) (Only.refl _ w) (p := ⟨g, n * 2, none⟩) (.inl rfl) _) (p := ⟨g, n * 2 + 1, none⟩) (.inl rfl) _) (p := ⟨g, n * 2 + 1, none⟩) (.inl rfl) _
  exact H.arena h3 ho (fun k hk => by subst hk; exact .inr (.inl hg)) (fun k hk => .inl hk)

set_option maxRecDepth 100000 in
set_option maxHeartbeats 1000000 in
theorem ashift_any {w : World} {base xb db ab tb : Nat} {st : MachS} {v : MachV} {s : ArS} {av : ArV} {o : Obj} (H : Tr w base xb db ab tb st v s av o) (hf : st.d.shifts.length ≤ 3000000000000) (k tgt : Int) (ht : 0 ≤ tgt ∧ tgt ≤ 5) :
    Calls Try.prog 107 #[.pointer (some ⟨ab, 0, none⟩), .pointer (some ⟨db, 0, none⟩), .int .i64 k, .int .i64 tgt] w fun e w' => e = .returned (.tuple #[]) ∧ TrOut w base xb db ab tb v av { st with d := (s.shift st.d k tgt).2 } (s.shift st.d k tgt).1 o w' := by
  have HH := Lib.hid (has_any H.a k)
  cases hk : s.has k with
  | false =>
    have e1 : s.shift st.d k tgt = (s, st.d) := by unfold ArS.shift; rw [hk]; rfl
    rw [hk] at HH
    rw [e1]
    have HT := Lib.hid (TrStep.refl H).out
    clear H e1 hk hf
    go_enter Try.func107, Try.ntmps107
    go_wp2_with (go_at_call 45; refine HH.out.mono ?_; rintro e w1 ⟨rfl, rfl⟩)
    exact bodyPost_ret (v := .tuple #[]) (by simp [results, Try.results107]) rfl ⟨rfl, HT.out⟩
  | true =>
    rw [hk] at HH
    have hk' : 0 ≤ k ∧ k < (s.slots.length : Int) := by simpa [ArS.has] using hk
    obtain ⟨n, rfl⟩ : ∃ n : Nat, k = n := ⟨k.toNat, by omega⟩
    have hn : n < s.slots.length := by omega
    have e1 : s.shift st.d n tgt = (s.put n tgt (if tgt = 0 ∨ tgt = 3 then -1 else st.d.th), st.d.shift n s.slots[n].1 tgt) := by
      unfold ArS.shift
      rw [hk, if_pos (by simp; omega)]
      simp [ArS.put, ArS.slot, List.getD_eq_getElem?_getD, hn]
    rw [e1]
    obtain ⟨g, cap, e, h1, h2, h3, h4, h5, h6, h7, h8⟩ := H.a.slotAt hn
    obtain ⟨c0, c1, c2, c3, c4, c5, c6, c7, c8, z, lt⟩ := H.a.head
    rw [e] at c7
    have z0 := h6 (n * 2)
    have z1 := h6 (n * 2 + 1)
    have HTr := Lib.hid H
    have HTh := Lib.hid (fun os d => (dthread_any (H.more os d).m (H.more os d).d).mono (fun e w' hh => (⟨hh.1, hh.2 ▸ Below.refl _ _⟩ : e = .returned (.int .i64 st.d.th) ∧ Below (w.more os d).heap.size (w.more os d) w')))
    have H3 := Lib.hid h3
    have HF := Lib.hid hf
    obtain ⟨fr, hfr⟩ : ∃ fr, fr = s.slots[n].1 := ⟨_, rfl⟩
    rw [← hfr] at h7 ⊢
    unfold maxLen at h2
    have hcase : tgt = 0 ∨ tgt = 3 ∨ (tgt ≠ 0 ∧ tgt ≠ 3) := by omega
    obtain ⟨ht1, ht2⟩ := ht
    clear c0 c1 c2 c3 c4 c5 c6 c8 H hk e1 e h3 h6 hf hfr
    rcases hcase with rfl | rfl | ⟨d0, d3⟩
    · rw [if_pos (by decide)]
      go_enter Try.func107, Try.ntmps107
      go_wp2_with (go_at_call 45; refine HH.out.mono ?_; rintro e w1 ⟨rfl, rfl⟩)
      go_wp2
      refine wp_region_more_tail 10 (by kernel_rfl) (by kernel_rfl) ?_
      simp only [List.take_succ_cons, List.take_zero, List.drop_succ_cons, List.drop_zero]
      repeat (first | go_big_quiet_skip | (go_big_quiet_want; go_big_quiet_op; first | go_big_quiet_on | (apply Exists.intro; refine ⟨fun _ => ?_, ?_⟩; (focus (go_at_call 112; exact Calls.more_of (HTh.out _ _))); go_big_quiet_on)))
      refine wpQuiet_nil ?_
      intro osq dq
      go_upto_region 5 with (fail)
      refine gen_world ?_
      intro W1 hW1
      have HO := Lib.hid (show TrOut w base xb db ab tb v av st (s.put n 0 (-1)) o W1 by
        rw [hW1]
        exact (tr_slot3 HTr.out H3.out hn _ _ _).post ((Only.refl _ _).more osq dq))
      clear hW1
      obtain ⟨v1, av1, hs1⟩ := HO.out
      have HS := Lib.hid hs1
      go_wp2_with (go_at_call 113; refine (dshift_any HS.out.tr.m HS.out.tr.d HF.out HS.out.tr.md _ _ _).mono ?_; rintro e w2 ⟨rfl, hd⟩; have HD := Lib.hid hd; clear hd)
      go_end0
      exact ⟨rfl, HS.out.then (HS.out.tr.desk HD.out)⟩
    · rw [if_pos (by decide)]
      go_enter Try.func107, Try.ntmps107
      go_wp2_with (go_at_call 45; refine HH.out.mono ?_; rintro e w1 ⟨rfl, rfl⟩)
      go_wp2
      refine wp_region_more_tail 10 (by kernel_rfl) (by kernel_rfl) ?_
      simp only [List.take_succ_cons, List.take_zero, List.drop_succ_cons, List.drop_zero]
      repeat (first | go_big_quiet_skip | (go_big_quiet_want; go_big_quiet_op; first | go_big_quiet_on | (apply Exists.intro; refine ⟨fun _ => ?_, ?_⟩; (focus (go_at_call 112; exact Calls.more_of (HTh.out _ _))); go_big_quiet_on)))
      refine wpQuiet_nil ?_
      intro osq dq
      go_upto_region 5 with (fail)
      refine gen_world ?_
      intro W1 hW1
      have HO := Lib.hid (show TrOut w base xb db ab tb v av st (s.put n 3 (-1)) o W1 by
        rw [hW1]
        exact (tr_slot3 HTr.out H3.out hn _ _ _).post ((Only.refl _ _).more osq dq))
      clear hW1
      obtain ⟨v1, av1, hs1⟩ := HO.out
      have HS := Lib.hid hs1
      go_wp2_with (go_at_call 113; refine (dshift_any HS.out.tr.m HS.out.tr.d HF.out HS.out.tr.md _ _ _).mono ?_; rintro e w2 ⟨rfl, hd⟩; have HD := Lib.hid hd; clear hd)
      go_end0
      exact ⟨rfl, HS.out.then (HS.out.tr.desk HD.out)⟩
    · rw [if_neg (by omega)]
      have b0 : decide (tgt = 0) = false := by simpa using d0
      have b3 : decide (tgt = 3) = false := by simpa using d3
      have c0 : (tgt == 0) = false := by simpa using d0
      have c3 : (tgt == 3) = false := by simpa using d3
      go_enter Try.func107, Try.ntmps107
      go_wp2_with (go_at_call 45; refine HH.out.mono ?_; rintro e w1 ⟨rfl, rfl⟩)
      go_wp2
      refine wp_region_more_tail 10 (by kernel_rfl) (by kernel_rfl) ?_
      simp only [List.take_succ_cons, List.take_zero, List.drop_succ_cons, List.drop_zero]
      repeat (first | go_big_quiet_skip | (go_big_quiet_want; go_big_quiet_op; first | go_big_quiet_on | (apply Exists.intro; refine ⟨fun _ => ?_, ?_⟩; (focus (go_at_call 112; exact Calls.more_of (HTh.out _ _))); go_big_quiet_on)))
      refine wpQuiet_nil ?_
      intro osq dq
      go_upto_region 5 with (fail)
      refine gen_world ?_
      intro W1 hW1
      have HO := Lib.hid (show TrOut w base xb db ab tb v av st (s.put n tgt st.d.th) o W1 by
        rw [hW1]
        exact (tr_slot HTr.out H3.out hn _ _).post ((Only.refl _ _).more osq dq))
      clear hW1
      obtain ⟨v1, av1, hs1⟩ := HO.out
      have HS := Lib.hid hs1
      go_wp2_with (go_at_call 113; refine (dshift_any HS.out.tr.m HS.out.tr.d HF.out HS.out.tr.md _ _ _).mono ?_; rintro e w2 ⟨rfl, hd⟩; have HD := Lib.hid hd; clear hd)
      go_end0
      exact ⟨rfl, HS.out.then (HS.out.tr.desk HD.out)⟩
end Go.Proofs.Ytjcggokhminmoaa
namespace Go
open Go.RowKit
open Go.Proofs.Ytjcggokhminmoaa
def TkTake.obj (ab : Nat) (t : TkTake) : Obj := .cells #[.pointer (some ⟨ab, 0, none⟩), .int .i64 t.th, .int .i64 t.at', .int .u64 t.head, .int .u64 t.next, .int .i64 t.slot, .bool t.taken] 180 (0, 0)
end Go
namespace Go.Proofs.Ytjcggokhminmoaa
open Go.ChangeShapes Go.WideShapes Go.ChangeAt Go.RowKit

theorem _root_.Go.Proofs.Ytjcggokhminmoaa.Tr.cells {w : World} {base xb db ab tb : Nat} {st : MachS} {v : MachV} {s : ArS} {av : ArV} {o : Obj} (H : Tr w base xb db ab tb st v s av o) {w' : World} {o' : Obj} (ho : Only (fun k => k = tb) w w') (ht : w'.heap[tb]? = some o') : TrOut w base xb db ab tb v av st s o' w' := H.put ho ht
theorem only_tb {w w' : World} {tb j : Nat} (h : Only (fun k => k = tb) w w') (u : Value) : Only (fun k => k = tb) w (w'.setCell ⟨tb, j, none⟩ u) := Only.set (F := fun k => k = tb) h (p := ⟨tb, j, none⟩) (.inl rfl) u
theorem take_cells {w : World} {ab tb : Nat} {t : TkTake} (h : w.heap[tb]? = some (t.obj ab)) : w.cell? ⟨tb, 0, none⟩ = some (.pointer (some ⟨ab, 0, none⟩)) ∧ w.cell? ⟨tb, 1, none⟩ = some (.int .i64 t.th) ∧ w.cell? ⟨tb, 2, none⟩ = some (.int .i64 t.at') ∧
    w.cell? ⟨tb, 3, none⟩ = some (.int .u64 t.head) ∧ w.cell? ⟨tb, 4, none⟩ = some (.int .u64 t.next) ∧ w.cell? ⟨tb, 5, none⟩ = some (.int .i64 t.slot) ∧ w.cell? ⟨tb, 6, none⟩ = some (.bool t.taken) ∧ (∀ j, w.frozen? ⟨tb, j, none⟩ = false) ∧ tb < w.heap.size := by
  refine ⟨?_, ?_, ?_, ?_, ?_, ?_, ?_, fun j => ?_, (Array.getElem?_eq_some_iff.1 h).1⟩
  all_goals simp [World.cell?, World.frozen?, h, TkTake.obj]

set_option maxRecDepth 100000 in
theorem tgot_any {w : World} {base xb db ab tb : Nat} {st : MachS} {v : MachV} {s : ArS} {av : ArV} {t : TkTake} (H : Tr w base xb db ab tb st v s av (t.obj ab)) (hf : st.d.shifts.length ≤ 3000000000000) (k : Int) :
    Calls Try.prog 100 #[.pointer (some ⟨tb, 0, none⟩), .pointer (some ⟨db, 0, none⟩), .int .i64 k] w fun e w' => e = .returned (.bool true) ∧
      TrOut w base xb db ab tb v av { st with d := (TkTake.got s t st.d k).2.2.1 } (TkTake.got s t st.d k).1 ((TkTake.got s t st.d k).2.1.obj ab) w' := by
  obtain ⟨a0, a1, a2, a3, a4, a5, a6, az, alt⟩ := take_cells H.t
  have z5 := az 5
  have z6 := az 6
  have z2 := az 2
  have HH := Lib.hid H
  have HF := Lib.hid hf
  clear H hf az a1 a3 a4
  go_enter Try.func100, Try.ntmps100
  go_upto_region 2 with (fail)
  refine gen_world ?_
  intro W1 hW1
  have HO := Lib.hid (show TrOut w base xb db ab tb v av st s (({ t with slot := k, taken := true, at' := 0 } : TkTake).obj ab) W1 by
    rw [hW1]
    refine HH.out.put (only_tb (only_tb (only_tb (Only.refl _ w) _) _) _) ?_
    simp [World.setCell, Array.getElem?_modify, HH.out.t, TkTake.obj])
  clear hW1 a0 a2 a5 a6 z5 z6 z2 alt
  obtain ⟨v1, av1, hs1⟩ := HO.out
  have HS := Lib.hid hs1
  obtain ⟨b0, b1, b2, b3, b4, b5, b6, bz, blt⟩ := take_cells hs1.tr.t
  clear hs1 b1 b2 b3 b4 b5 b6
  go_wp2_with (go_at_call 107; refine (ashift_any HS.out.tr HF.out k 2 (by omega)).mono ?_; rintro e w2 ⟨rfl, hd⟩; have HD := Lib.hid hd; clear hd)
  go_ret
  exact ⟨rfl, HS.out.then HD.out⟩

theorem tslot_any {w : World} {ab tb : Nat} {t : TkTake} (h : w.heap[tb]? = some (t.obj ab)) : Calls Try.prog 94 #[.pointer (some ⟨tb, 0, none⟩)] w fun e w' => e = .returned (.int .i64 t.slotOf) ∧ w = w' := by
  obtain ⟨a0, a1, a2, a3, a4, a5, a6, az, alt⟩ := take_cells h
  unfold TkTake.slotOf
  cases ht : t.taken with
  | false =>
    rw [ht] at a6
    clear h ht
    go_enter Try.func94, Try.ntmps94
    go_wp2
    go_ret
    exact ⟨rfl, rfl⟩
  | true =>
    rw [ht] at a6
    clear h ht
    go_enter Try.func94, Try.ntmps94
    go_wp2
    go_ret
    exact ⟨rfl, rfl⟩

theorem below_of {w w' : World} {e : Ending} {x : Value} (h : e = .returned x ∧ w = w') : e = .returned x ∧ Below w.heap.size w w' := ⟨h.1, h.2 ▸ Below.refl _ _⟩

theorem tr_pop {w : World} {base xb db ab tb : Nat} {st : MachS} {v : MachV} {s : ArS} {av : ArV} {o : Obj} (H : Tr w base xb db ab tb st v s av o) {g i gc cu : Nat} {c : List Int} {k : Int} (hg : av.vca.rowBlock = some g) (hi : i < s.caches.length)
    (h8 : av.vcs[i]? = some (.slice (some ⟨gc, 0, none⟩) (c.length + 1) cu)) (hr : w.RowV base 3 1 (.slice (some ⟨gc, 0, none⟩) (c.length + 1) cu) (c.length + 1) (intsC (c ++ [k]))) :
    TrOut w base xb db ab tb v av st (s.setCache (i : Int) c) o (w.setCell ⟨g, i, none⟩ (.slice (some ⟨gc, 0, none⟩) c.length cu)) := by
  have hs := hr.shrink (m := c.length) (by omega)
  rw [show (intsC (c ++ [k])).take (c.length * 1) = intsC c by simp [intsC]] at hs
  have hrb : ∀ k, (Value.slice (some ⟨gc, 0, none⟩) c.length cu).rowBlock = some k → (Value.slice (some ⟨gc, 0, none⟩) (c.length + 1) cu).rowBlock = some k := fun k h => h
  have ha := H.a.putCache (w1 := w) hg hi hs (fun _ _ _ => rfl) (fun k hk => .inl ⟨_, h8, hrb k hk⟩)
  have ho : Only (fun k => k = g) w (w.setCell ⟨g, i, none⟩ (.slice (some ⟨gc, 0, none⟩) c.length cu)) := Only.set (F := fun k => k = g) (Only.refl _ w) (p := ⟨g, i, none⟩) (.inl rfl) _
  refine H.arena ha ho (fun k hk => by subst hk; exact .inr (.inr (.inl hg))) ?_
  rintro k (rfl | hk | hk | ⟨j, u, hu, hk⟩)
  · exact .inl (.inl rfl)
  · exact .inl (.inr (.inl hk))
  · exact .inl (.inr (.inr (.inl hk)))
  · have hu' : (av.vcs.set i (.slice (some ⟨gc, 0, none⟩) c.length cu))[j]? = some u := hu
    by_cases e : i = j
    · subst e
      rw [List.getElem?_set_self (by rw [H.a.len]; exact hi)] at hu'
      cases hu'
      exact .inl (.inr (.inr (.inr ⟨i, _, h8, hrb k hk⟩)))
    · rw [List.getElem?_set_ne e] at hu'
      exact .inl (.inr (.inr (.inr ⟨j, u, hu', hk⟩)))

set_option maxRecDepth 100000 in
set_option maxHeartbeats 2000000 in
theorem tready_any {w : World} {base xb db ab tb : Nat} {st : MachS} {v : MachV} {s : ArS} {av : ArV} {t : TkTake} (H : Tr w base xb db ab tb st v s av (t.obj ab)) (hf : st.d.Fits) {i : Nat} (hi : i < s.caches.length) (hth : t.th = (i : Int)) :
    Calls Try.prog 97 #[.pointer (some ⟨tb, 0, none⟩), .pointer (some ⟨db, 0, none⟩)] w fun e w' => e = .returned (.bool (t.ready s st.d).2.2.2) ∧
      TrOut w base xb db ab tb v av { st with d := (t.ready s st.d).2.2.1 } (t.ready s st.d).1 ((t.ready s st.d).2.1.obj ab) w' := by
  obtain ⟨a0, a1, a2, a3, a4, a5, a6, az, alt⟩ := take_cells H.t
  by_cases hat : t.at' = 0
  · have e1 : t.ready s st.d = (s, t, st.d, true) := by unfold TkTake.ready; rw [if_pos hat]
    rw [e1]
    rw [hat] at a2
    have HT := Lib.hid (TrStep.refl H).out
    clear H hf a0 a1 a3 a4 a5 a6 e1 hat hth
    go_enter Try.func97, Try.ntmps97
    go_wp2
    go_ret
    exact ⟨rfl, HT.out⟩
  · have hc : s.caches[i]? = some s.caches[i] := List.getElem?_eq_getElem hi
    obtain ⟨ec, eth⟩ := cache_eq hc
    obtain ⟨g, cap, u, e, h1, h2, h3, h4, h5, h6, h7, h8, h9⟩ := H.a.cacheCell hi
    obtain ⟨c0, c1, c2, c3, c4, c5, c6, c7, c8, z, lt⟩ := H.a.head
    rw [e] at c8
    rw [hth] at a1
    have z7 := h6 i
    have d0 : decide (t.at' = 0) = false := by simpa using hat
    have d1 : (t.at' == 0) = false := by simpa using hat
    have HT := Lib.hid (fun os d => (thread_any (H.more os d).a (i : Int)).mono fun e w' h => below_of h)
    rw [eth] at HT
    have HH := Lib.hid H
    have HF := Lib.hid hf.2.2
    have HAT := Lib.hid hat
    have HTH := Lib.hid hth
    have HC := Lib.hid hc
    have H3 := Lib.hid h3
    have H8 := Lib.hid h8
    have EC := Lib.hid ec
    unfold maxLen at h2
    obtain ⟨c, hcc⟩ : ∃ c, c = s.caches[i] := ⟨_, rfl⟩
    rw [← hcc] at h9 HC EC
    clear c0 c1 c2 c3 c4 c5 c6 c7 H hf hat hth hc h3 h8 e ec eth az z h6 hcc a3 a4 a5 a6
    rcases last_snoc c with rfl | ⟨c', k, rfl⟩
    · obtain ⟨ou, cu, rfl, y1, y2⟩ := h9.form
      have e1 : t.ready s st.d = (s, t, st.d, false) := by
        unfold TkTake.ready
        rw [if_neg HAT.out, HTH.out, EC.out]
        rfl
      rw [e1]
      clear h9 e1
      simp only [List.length_nil] at h7 y1
      go_enter Try.func97, Try.ntmps97
      go_wp2
      refine wp_region_more_lit (by kernel_rfl) (by kernel_rfl) ?_
      repeat (first | go_big_quiet_skip | (go_big_quiet_want; go_big_quiet_op; first | go_big_quiet_on | (apply Exists.intro; refine ⟨fun _ => ?_, ?_⟩; (focus (go_at_call 43; exact Calls.more_of (HT.out _ _))); go_big_quiet_on)))
      refine wpQuiet_nil ?_
      intro osq dq
      go_wp2
      go_ret
      exact ⟨rfl, (TrStep.keep HH.out ((Only.refl _ w).more _ _)).out⟩
    · have hlen : (c' ++ [k]).length = c'.length + 1 := by simp
      obtain ⟨gc, cu, rfl, y1, y2, y3, y4, y5, y6⟩ := h9.some_form (by omega)
      have y7 : cu ≤ 9223372036854775807 := by
        obtain ⟨_, _, he, _, hm⟩ := h9.form
        cases he
        exact hm
      have e1 : t.ready s st.d = TkTake.got (s.setCache (i : Int) c') t st.d k := by
        unfold TkTake.ready
        rw [if_neg HAT.out, HTH.out, EC.out]
        simp
      rw [e1]
      have y8 : w.cell? ⟨gc, c'.length, none⟩ = some (.int .i64 k) := y6 c'.length _ (by simp [intsC])
      have R9 := Lib.hid h9
      rw [hlen] at h7 y1 R9 H8 y4
      clear h9 e1 y2 y6 hlen
      go_enter Try.func97, Try.ntmps97
      go_wp2
      refine wp_region_more_lit (by kernel_rfl) (by kernel_rfl) ?_
      repeat (first | go_big_quiet_skip | (go_big_quiet_want; go_big_quiet_op; first | go_big_quiet_on | (apply Exists.intro; refine ⟨fun _ => ?_, ?_⟩; (focus (go_at_call 43; exact Calls.more_of (HT.out _ _))); go_big_quiet_on)))
      refine wpQuiet_nil ?_
      intro osq dq
      go_wp2
      refine wp_region_more_lit (by kernel_rfl) (by kernel_rfl) ?_
      repeat (first | go_big_quiet_skip | (go_big_quiet_want; go_big_quiet_op; first | go_big_quiet_on | (apply Exists.intro; refine ⟨fun _ => ?_, ?_⟩; (focus (fail)); go_big_quiet_on)))
      refine wpQuiet_nil ?_
      intro osq dq
      go_wp2
      refine wp_region_more_tail 15 (by kernel_rfl) (by kernel_rfl) ?_
      simp only [List.take_succ_cons, List.take_zero, List.drop_succ_cons, List.drop_zero]
      repeat (first | go_big_quiet_skip | (go_big_quiet_want; go_big_quiet_op; first | go_big_quiet_on | (apply Exists.intro; refine ⟨fun _ => ?_, ?_⟩; (focus (fail)); go_big_quiet_on)))
      refine wpQuiet_nil ?_
      intro osq dq
      go_upto_region 8 with (fail)
      refine gen_world ?_
      intro W1 hW1
      have HO := Lib.hid (show TrOut w base xb db ab tb v av st (s.setCache (i : Int) c') (t.obj ab) W1 by
        rw [hW1]
        exact (tr_pop HH.out H3.out hi H8.out R9.out).post ((((Only.refl _ _).more _ _).more _ _).more _ _))
      have ho1 : Only (fun k => k = g) w W1 := by
        rw [hW1]
        exact (((Only.set (F := fun k => k = g) (Only.refl _ w) (p := ⟨g, i, none⟩) (.inl rfl) _).more _ _).more _ _).more _ _
      have hgg : gc ≠ g := fun e => by
        have q1 := HH.out.a.ci i _ gc H8.out y4
        have q2 := HH.out.a.cc g H3.out
        rw [e, q2] at q1
        omega
      have x8 : W1.cell? ⟨gc, c'.length, none⟩ = some (.int .i64 k) := (ho1.cellAt (p := ⟨gc, c'.length, none⟩) y3 hgg).trans y8
      clear hW1 ho1 a0 a1 a2 c8 h4 h5 h7 z7 alt y8 y3 y5 hgg lt
      obtain ⟨v1, av1, hs1⟩ := HO.out
      have HS := Lib.hid hs1
      clear hs1
      go_wp2_with (go_at_call 100; refine (tgot_any HS.out.tr HF.out k).mono ?_; rintro e w2 ⟨rfl, hd⟩; have HD := Lib.hid hd; clear hd)
      go_ret
      exact ⟨rfl, HS.out.then HD.out⟩
end Go.Proofs.Ytjcggokhminmoaa
namespace Go
open Go.RowKit
open Go.Proofs.Ytjcggokhminmoaa
def TkPush.obj (ab : Nat) (ty : TypeId) (p : TkPush) : Obj := .cells #[.pointer (some ⟨ab, 0, none⟩), .int .i64 p.slot, .int .i64 p.at', .int .u64 p.head, .int .i64 p.th] ty (0, 0)
end Go
namespace Go.Proofs.Ytjcggokhminmoaa
open Go.ChangeShapes Go.WideShapes Go.ChangeAt Go.RowKit

theorem push_cells {w : World} {ab tb : Nat} {ty : TypeId} {p : TkPush} (h : w.heap[tb]? = some (p.obj ab ty)) : w.cell? ⟨tb, 0, none⟩ = some (.pointer (some ⟨ab, 0, none⟩)) ∧ w.cell? ⟨tb, 1, none⟩ = some (.int .i64 p.slot) ∧ w.cell? ⟨tb, 2, none⟩ = some (.int .i64 p.at') ∧
    w.cell? ⟨tb, 3, none⟩ = some (.int .u64 p.head) ∧ w.cell? ⟨tb, 4, none⟩ = some (.int .i64 p.th) ∧ (∀ j, w.frozen? ⟨tb, j, none⟩ = false) ∧ tb < w.heap.size := by
  refine ⟨?_, ?_, ?_, ?_, ?_, fun j => ?_, (Array.getElem?_eq_some_iff.1 h).1⟩
  all_goals simp [World.cell?, World.frozen?, h, TkPush.obj]

set_option maxRecDepth 100000 in
set_option maxHeartbeats 400000 in
theorem pstep_load {w : World} {base xb db ab tb : Nat} {ty : TypeId} {st : MachS} {v : MachV} {s : ArS} {av : ArV} {p : TkPush} (H : Tr w base xb db ab tb st v s av (p.obj ab ty)) (hf : st.d.Fits) (hat : p.at' = 1) :
    Calls Try.prog 119 #[.pointer (some ⟨tb, 0, none⟩), .pointer (some ⟨db, 0, none⟩)] w fun e w' => e = .returned (.bool (p.step s st.d).2.2.2) ∧
      TrOut w base xb db ab tb v av { st with d := (p.step s st.d).2.2.1 } (p.step s st.d).1 ((p.step s st.d).2.1.obj ab ty) w' := by
  obtain ⟨a0, a1, a2, a3, a4, az, alt⟩ := push_cells H.t
  have HA := Lib.hid (aaddr_any H.a 1 0)
  have HH := Lib.hid H
  rw [hat] at a2
  obtain ⟨hv, hh⟩ : ∃ hv, hv = st.d.word (s.addr 1 0) := ⟨_, rfl⟩
  have e1 : p.step s st.d = (s, { p with head := hv, at' := 2 }, st.d.load (s.addr 1 0), false) := by
    unfold TkPush.step
    rw [if_pos hat, hh]
  rw [e1]
  have HL := Lib.hid (fun os d => dload_any (H.more os d).m (H.more os d).d H.md hf (s.addr 1 0))
  rw [← hh] at HL
  have HAT := Lib.hid hat
  clear H hf hat e1 hh a1 a3 a4 az
  go_enter Try.func119, Try.ntmps119
  go_wp2_with (first
    | (go_at_call 102; refine HA.out.mono ?_; rintro e w1 ⟨rfl, hb1⟩; obtain ⟨os, d, rfl⟩ := hb1.more; clear hb1)
    | (go_at_call 101; refine (HL.out os d).mono ?_; rintro e w2 ⟨rfl, hq⟩; have HO := Lib.hid ((HH.out.more os d).desk hq); obtain ⟨v1, av1, hs1⟩ := HO.out; have HS := Lib.hid ((TrStep.keep HH.out ((Only.refl _ w).more os d)).trans hs1); obtain ⟨b0, b1, b2, b3, b4, bz, blt⟩ := push_cells hs1.tr.t; have z2 := bz 2; have z3 := bz 3; rw [HAT.out] at b2; clear hq HO hs1 b0 b1 b4 bz))
  go_ret
  refine ⟨rfl, HS.out.then (HS.out.tr.put ?_ ?_)⟩
  · repeat (first | exact Only.refl _ _ | apply only_tb)
  · simp [World.setCell, Array.getElem?_modify, HS.out.tr.t, TkPush.obj]

set_option maxRecDepth 100000 in
set_option maxHeartbeats 400000 in
theorem pstep_store {w : World} {base xb db ab tb : Nat} {ty : TypeId} {st : MachS} {v : MachV} {s : ArS} {av : ArV} {p : TkPush} (H : Tr w base xb db ab tb st v s av (p.obj ab ty)) (hf : st.d.Fits) (hat : p.at' = 2) :
    Calls Try.prog 119 #[.pointer (some ⟨tb, 0, none⟩), .pointer (some ⟨db, 0, none⟩)] w fun e w' => e = .returned (.bool (p.step s st.d).2.2.2) ∧
      TrOut w base xb db ab tb v av { st with d := (p.step s st.d).2.2.1 } (p.step s st.d).1 ((p.step s st.d).2.1.obj ab ty) w' := by
  obtain ⟨a0, a1, a2, a3, a4, az, alt⟩ := push_cells H.t
  have HA := Lib.hid (aaddr_any H.a 1 0)
  have HH := Lib.hid H
  rw [hat] at a2
  obtain ⟨x, hx⟩ : ∃ x, x = mkLink (hIdx p.head) := ⟨_, rfl⟩
  have e1 : p.step s st.d = (s, { p with at' := 3 }, st.d.store (s.addr 10 p.slot) x, false) := by
    unfold TkPush.step
    rw [if_neg (by omega), if_pos hat, hx]
  rw [e1]
  obtain ⟨er, hu⟩ := unhead_all p.head
  obtain ⟨er2, hl⟩ := link_all (hIdx p.head)
  rw [← hx] at hl
  have HU := Lib.hid hu
  have HN := Lib.hid hl
  have HA2 := Lib.hid (fun os d => aaddr_any (H.more os d).a 10 p.slot)
  have HL := Lib.hid (fun os d => dstore_any (H.more os d).m (H.more os d).d H.md hf (s.addr 10 p.slot) x)
  have HAT := Lib.hid hat
  have HF := Lib.hid hf
  clear H hf hat e1 hu hl hx a4 az
  go_enter Try.func119, Try.ntmps119
  go_upto_region 9 with (first
    | (go_at_call 102; refine HA.out.mono ?_; rintro e w1 ⟨rfl, hb1⟩; obtain ⟨os, d, rfl⟩ := hb1.more; clear hb1)
    | (go_at_call 103; refine (HU.out _).mono ?_; rintro e w3 ⟨rfl, rfl⟩)
    | (go_at_call 110; refine (HN.out _).mono ?_; rintro e w3 ⟨rfl, rfl⟩))
  refine gen_world ?_
  intro W1 hW1
  have ho1 : Only (fun _ => False) w W1 := by rw [hW1]; repeat (first | exact Only.refl _ _ | apply Only.more | apply Only.alloc | apply Only.drew)
  have HK := Lib.hid (TrStep.keep HH.out ho1)
  have HA3 := Lib.hid (fun os d => aaddr_any (HK.out.tr.more os d).a 10 p.slot)
  have HL3 := Lib.hid (fun os d => dstore_any (HK.out.tr.more os d).m (HK.out.tr.more os d).d HK.out.tr.md HF.out (s.addr 10 p.slot) x)
  obtain ⟨e0, e1, e2, e3, e4, ez, elt⟩ := push_cells HK.out.tr.t
  clear hW1 ho1 a0 a1 a2 a3 alt HA HA2 HL e2 e3 e4 ez
  go_wp2
  refine wp_region_more_tail 11 (by kernel_rfl) (by kernel_rfl) ?_
  simp only [List.take_succ_cons, List.take_zero, List.drop_succ_cons, List.drop_zero]
  repeat (first | go_big_quiet_skip | (go_big_quiet_want; go_big_quiet_op; first | go_big_quiet_on | (apply Exists.intro; refine ⟨fun _ => ?_, ?_⟩; (focus (go_at_call 102; exact Calls.more_of (HA3.out _ _))); go_big_quiet_on)))
  refine wpQuiet_nil ?_
  intro osq dq
  go_wp2_with (go_at_call 120; refine (HL3.out _ _).mono ?_; rintro e w2 ⟨rfl, hq⟩; have HO := Lib.hid ((HK.out.tr.more _ _).desk hq); obtain ⟨v1, av1, hs1⟩ := HO.out; have HS := Lib.hid (HK.out.trans ((TrStep.keep HK.out.tr ((Only.refl _ W1).more _ _)).trans hs1)); obtain ⟨b0, b1, b2, b3, b4, bz, blt⟩ := push_cells hs1.tr.t; have z2 := bz 2; rw [HAT.out] at b2; clear hq HO hs1 b0 b1 b3 b4 bz)
  go_ret
  refine ⟨rfl, HS.out.then (HS.out.tr.put ?_ ?_)⟩
  · repeat (first | exact Only.refl _ _ | apply only_tb)
  · simp [World.setCell, Array.getElem?_modify, HS.out.tr.t, TkPush.obj]

set_option maxRecDepth 100000 in
set_option maxHeartbeats 400000 in
theorem pstep_over {w : World} {base xb db ab tb : Nat} {ty : TypeId} {st : MachS} {v : MachV} {s : ArS} {av : ArV} {p : TkPush} (H : Tr w base xb db ab tb st v s av (p.obj ab ty)) (_hf : st.d.Fits) (h1 : p.at' ≠ 1) (h2 : p.at' ≠ 2) (h3 : p.at' ≠ 3) :
    Calls Try.prog 119 #[.pointer (some ⟨tb, 0, none⟩), .pointer (some ⟨db, 0, none⟩)] w fun e w' => e = .returned (.bool (p.step s st.d).2.2.2) ∧
      TrOut w base xb db ab tb v av { st with d := (p.step s st.d).2.2.1 } (p.step s st.d).1 ((p.step s st.d).2.1.obj ab ty) w' := by
  obtain ⟨a0, a1, a2, a3, a4, az, alt⟩ := push_cells H.t
  have HA := Lib.hid (aaddr_any H.a 1 0)
  have HH := Lib.hid H
  have e1 : p.step s st.d = (s, p, st.d, false) := by
    unfold TkPush.step
    rw [if_neg h1, if_neg h2, if_neg h3]
  rw [e1]
  have d1 : decide (p.at' = 1) = false := by simpa using h1
  have d2 : decide (p.at' = 2) = false := by simpa using h2
  have d3 : decide (p.at' = 3) = false := by simpa using h3
  have c1 : (p.at' == 1) = false := by simpa using h1
  have c2 : (p.at' == 2) = false := by simpa using h2
  have c3 : (p.at' == 3) = false := by simpa using h3
  clear H _hf e1 a1 a3 a4 az
  go_enter Try.func119, Try.ntmps119
  go_wp2_with (go_at_call 102; refine HA.out.mono ?_; rintro e w1 ⟨rfl, hb1⟩; obtain ⟨os, d, rfl⟩ := hb1.more; clear hb1)
  go_ret
  exact ⟨rfl, (TrStep.keep HH.out ((Only.refl _ w).more _ _)).out⟩

set_option maxRecDepth 100000 in
set_option maxHeartbeats 400000 in
theorem pstep_swap {w : World} {base xb db ab tb : Nat} {ty : TypeId} {st : MachS} {v : MachV} {s : ArS} {av : ArV} {p : TkPush} (H : Tr w base xb db ab tb st v s av (p.obj ab ty)) (hf : st.d.Fits) (hat : p.at' = 3) :
    Calls Try.prog 119 #[.pointer (some ⟨tb, 0, none⟩), .pointer (some ⟨db, 0, none⟩)] w fun e w' => e = .returned (.bool (p.step s st.d).2.2.2) ∧
      TrOut w base xb db ab tb v av { st with d := (p.step s st.d).2.2.1 } (p.step s st.d).1 ((p.step s st.d).2.1.obj ab ty) w' := by
  obtain ⟨a0, a1, a2, a3, a4, az, alt⟩ := push_cells H.t
  have HA := Lib.hid (aaddr_any H.a 1 0)
  have HH := Lib.hid H
  rw [hat] at a2
  obtain ⟨tg, htg⟩ : ∃ tg, tg = (hTag p.head + 1) % 4294967296 := ⟨_, rfl⟩
  obtain ⟨x, hx⟩ : ∃ x, x = mkHead tg p.slot := ⟨_, rfl⟩
  have hbd := tagUp_bd p.head
  rw [show tagUp p.head = tg from htg.symm] at hbd
  have e1 : p.step s st.d = if st.d.swaps (s.addr 1 0) p.head then ((s.shift (st.d.swap (s.addr 1 0) p.head x) p.slot 0).1, { p with at' := 0 }, (s.shift (st.d.swap (s.addr 1 0) p.head x) p.slot 0).2, true) else (s, { p with at' := 1 }, st.d.swap (s.addr 1 0) p.head x, false) := by
    unfold TkPush.step
    rw [if_neg (by omega), if_neg (by omega), if_pos hat, hx, htg]
    rfl
  rw [e1]
  obtain ⟨er, hu⟩ := unhead_all p.head
  obtain ⟨er3, hd⟩ := head_all tg p.slot hbd.1 hbd.2
  rw [← hx] at hd
  have HU := Lib.hid hu
  have HD := Lib.hid hd
  have HL := Lib.hid (fun os d => dswap_any (H.more os d).m (H.more os d).d H.md hf (s.addr 1 0) p.head x)
  have HAT := Lib.hid hat
  have HTG := Lib.hid htg.symm
  have HF : Hid ((st.d.swap (s.addr 1 0) p.head x).shifts.length ≤ 3000000000000) := Lib.hid (by
    have h1 := (few_swap st.d (s.addr 1 0) p.head x).2.2.1
    have h2 := hf.2.2
    omega)
  clear H hf hat e1 hu hd a4 az hbd htg hx
  cases hsw : st.d.swaps (s.addr 1 0) p.head with
  | true =>
    rw [hsw] at HL
    rw [if_pos rfl]
    clear hsw
    go_enter Try.func119, Try.ntmps119
    go_upto_region 16 with (first
      | (go_at_call 102; refine HA.out.mono ?_; rintro e w1 ⟨rfl, hb1⟩; obtain ⟨os, d, rfl⟩ := hb1.more; clear hb1)
      | (go_at_call 103; refine (HU.out _).mono ?_; rintro e w3 ⟨rfl, rfl⟩)
      | (go_at_call 105; rw [HTG.out]; refine (HD.out _).mono ?_; rintro e w3 ⟨rfl, rfl⟩)
      | (go_at_call 106; refine (HL.out os d).mono ?_; rintro e w2 ⟨rfl, hq⟩; have HO := Lib.hid ((HH.out.more os d).desk hq); obtain ⟨v1, av1, hs1⟩ := HO.out; have HS := Lib.hid ((TrStep.keep HH.out ((Only.refl _ w).more os d)).trans hs1); obtain ⟨b0, b1, b2, b3, b4, bz, blt⟩ := push_cells hs1.tr.t; have z2 := bz 2; have z3 := bz 3; rw [HAT.out] at b2; clear hq HO hs1 b1 b3 b4 bz))
    refine gen_world ?_
    intro W3 hW3
    have HO := Lib.hid (show TrOut w base xb db ab tb v av { st with d := st.d.swap (s.addr 1 0) p.head x } s (({ p with at' := 0 } : TkPush).obj ab ty) W3 by
      rw [hW3]
      refine HS.out.then (HS.out.tr.put (only_tb (Only.refl _ _) _) ?_)
      simp [World.setCell, Array.getElem?_modify, HS.out.tr.t, TkPush.obj])
    clear hW3 HS b0 b2 z2 z3 blt
    obtain ⟨v2, av2, hs2⟩ := HO.out
    have HS2 := Lib.hid hs2
    obtain ⟨b0, b1, b2, b3, b4, bz, blt⟩ := push_cells hs2.tr.t
    simp only at b1
    have HSH := Lib.hid (fun os d => ashift_any (HS2.out.tr.more os d) HF.out p.slot 0 (by omega))
    clear hs2 b2 b3 b4 bz HO
    go_wp2
    refine wp_region_more_tail 9 (by kernel_rfl) (by kernel_rfl) ?_
    simp only [List.take_succ_cons, List.take_zero, List.drop_succ_cons, List.drop_zero]
    repeat (first | go_big_quiet_skip | (go_big_quiet_want; go_big_quiet_op; first | go_big_quiet_on | (apply Exists.intro; refine ⟨fun _ => ?_, ?_⟩; (focus (fail)); go_big_quiet_on)))
    refine wpQuiet_nil ?_
    intro osq dq
    go_wp2_with (go_at_call 107; refine (HSH.out _ _).mono ?_; rintro e w4 ⟨rfl, hq⟩; have HG := Lib.hid (TrOut.pre ((Only.refl _ W3).more _ _) HS2.out.tr hq); clear hq)
    go_ret
    exact ⟨rfl, HS2.out.then HG.out⟩
  | false =>
    rw [hsw] at HL
    rw [if_neg (by decide)]
    clear hsw
    go_enter Try.func119, Try.ntmps119
    go_wp2_with (first
      | (go_at_call 102; refine HA.out.mono ?_; rintro e w1 ⟨rfl, hb1⟩; obtain ⟨os, d, rfl⟩ := hb1.more; clear hb1)
      | (go_at_call 103; refine (HU.out _).mono ?_; rintro e w3 ⟨rfl, rfl⟩)
      | (go_at_call 105; rw [HTG.out]; refine (HD.out _).mono ?_; rintro e w3 ⟨rfl, rfl⟩)
      | (go_at_call 106; refine (HL.out os d).mono ?_; rintro e w2 ⟨rfl, hq⟩; have HO := Lib.hid ((HH.out.more os d).desk hq); obtain ⟨v1, av1, hs1⟩ := HO.out; have HS := Lib.hid ((TrStep.keep HH.out ((Only.refl _ w).more os d)).trans hs1); obtain ⟨b0, b1, b2, b3, b4, bz, blt⟩ := push_cells hs1.tr.t; have z2 := bz 2; have z3 := bz 3; rw [HAT.out] at b2; clear hq HO hs1 b0 b1 b3 b4 bz))
    go_ret
    refine ⟨rfl, HS.out.then (HS.out.tr.put ?_ ?_)⟩
    · repeat (first | exact Only.refl _ _ | apply only_tb)
    · simp [World.setCell, Array.getElem?_modify, HS.out.tr.t, TkPush.obj]
end Go.Proofs.Ytjcggokhminmoaa
