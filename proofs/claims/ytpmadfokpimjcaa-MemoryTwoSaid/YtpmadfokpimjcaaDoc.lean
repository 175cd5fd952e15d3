/-
reclaimlaw02.doc: the kinds that have no loop.
-/
import Derived.Test.YtpmadfokpimjcaaAsk
namespace Go.Proofs.Ytpmadfokpimjcaa
open Go.ChangeShapes Go.WideShapes Go.ChangeAt Go.RowKit

section
variable {w w1 wf W : World} {base rb : Nat} {l : List Int} {st st' : MemS} {v : RefV} {a0 a1 a2 a3 a4 a5 : Value}
theorem askW_ref (h : RefAt w base rb l st v) : RefAt (askW w a0 a1 a2 a3 a4 a5) base rb l st v := ((h.alloc _).alloc _).alloc _
theorem ref_fin (h : RefAt w base rb l st v) (k : RefOut (askW w a0 a1 a2 a3 a4 a5) base rb v l st' w1) (hf : Only (AskF w) w1 wf) : RefOut w base rb v l st' wf := by
  obtain ⟨v1, k1, k2, k3⟩ := k
  have hs := askW_size (w := w) (a0 := a0) (a1 := a1) (a2 := a2) (a3 := a3) (a4 := a4) (a5 := a5)
  refine ⟨v1, k1.of_block (fun i hi => hf.block i (k1.lt i hi).2 (fun hF => ?_)), ?_, fun i hi => ?_⟩
  · have h2 := k3 i hi
    rw [hs] at h2
    rcases h2 with h3 | h3
    · have := (h.lt i h3).2
      rcases hF with hF | hF <;> omega
    · rcases hF with hF | hF <;> omega
  · exact ((askW_only (v.own rb)).trans k2 (fun i hi => .inl hi)).trans hf (fun i hi => .inr (by rcases hi with hi | hi <;> omega))
  · rcases k3 i hi with h3 | h3
    · exact .inl h3
    · rw [hs] at h3
      exact .inr (by omega)
theorem ref_same (h : RefAt w base rb l st v) : RefOut w base rb v l st w := ⟨v, h, Only.refl _ _, fun _ hk => .inl hk⟩
theorem ref_below (h : RefAt w base rb l st v) (hb : Below w.heap.size w w1) : RefOut w base rb v l st w1 :=
  ⟨v, h.of_block fun k hk => hb.block k (h.lt k hk).2, Only.of_below hb, fun _ hk => .inl hk⟩
theorem r_same {f : FuncId} {args : Array Value} {V : Ending} (h : RefAt W base rb l st v) (hc : Calls Try.prog f args W fun e w' => e = V ∧ W = w') : Calls Try.prog f args W fun e w' => e = V ∧ RefOut W base rb v l st w' :=
  hc.mono fun _ _ ⟨he, hw⟩ => ⟨he, hw ▸ ref_same h⟩
theorem r_writer (h : RefAt W base rb l st v) (j : Nat) (hj : j < st.words.length) : Calls Try.prog 50 #[.pointer (some ⟨rb, 0, none⟩), .int .i64 (j : Int)] W fun e w' =>
    e = .returned (.tuple #[.int .i64 (lastW j (items st.log 0 st.log.length)).1, .int .i64 (lastW j (items st.log 0 st.log.length)).2, .int .i64 0]) ∧ RefOut W base rb v l st w' :=
  (rwriter_ok h j hj).mono fun _ _ ⟨he, hb⟩ => ⟨he, ref_below h hb⟩
end

set_option maxRecDepth 100000 in
set_option maxHeartbeats 4000000 in
theorem doc2_ok {w : World} {base rb : Nat} {l : List Int} {st : MemS} {v : RefV} (h : RefAt w base rb l st v) (t n old x : Int) (a : Nat) (ha : a < st.words.length) (hl1 : st.log.length ≤ 2999999999999) :
    Calls Try.prog 34 #[.pointer (some ⟨rb, 0, none⟩), .agg #[.int .i64 2, .int .i64 t, .int .i64 (a : Int), .int .i64 n, .int .u64 old, .int .u64 x]] w fun e w' =>
    TellAt w.heap.size ⟨0, [], [st.at a], []⟩ e w' ∧ RefOut w base rb v l (st.load t a) w' := by
  have hW := askW_ref (a0 := .int .i64 2) (a1 := .int .i64 t) (a2 := .int .i64 (a : Int)) (a3 := .int .i64 n) (a4 := .int .u64 old) (a5 := .int .u64 x) h
  have HX := Lib.hid (AskBox.start w (.int .i64 2) (.int .i64 t) (.int .i64 (a : Int)) (.int .i64 n) (.int .u64 old) (.int .u64 x) (.int .i64 0) (.slice none 0 0) (.slice none 0 0) (.slice none 0 0) (.int .i64 0) (.slice none 0 0) (.slice none 0 0) (.slice none 0 0))
  have HH := Lib.hid h
  have HC := Lib.hid (rload_ok hW (by omega) t a ha)
  clear h hW
  go_enter Try.func34, Try.ntmps34
  go_wp2_with fail
  refine HC.out.mono ?_
  rintro e w1 ⟨rfl, hmo⟩
  have hx1 := HX.out.only hmo.choose_spec.2.1 (fun k hk => (HH.out.lt k hk).2)
  obtain ⟨⟨d0, d1, d2, d3, d4, d5⟩, ⟨e0, e1, e2, e3⟩, ⟨f0, f1, f2, f3⟩, fb, fc, lt⟩ := hx1.cells
  have HMO := Lib.hid hmo
  clear hmo hx1
  go_wp2_with (go_at_call 44; refine (flag_any _ _).mono ?_; rintro e w2 ⟨rfl, rfl⟩)
  refine bodyPost_ret (v := .agg #[.int .i64 0, .slice none 0 0, .slice (some ⟨w1.heap.size, 0, none⟩) 1 1, .slice none 0 0]) (by simp [results, Try.results34, go_sem, ↓IntWalk.iteOmega, e0, e1, e2, e3]) rfl ?_
  refine ⟨⟨_, _, _, rfl, World.RowV_none _ _ _ _ _, RowV_new (by simp [World.setCell]) (by omega) (by omega) (by unfold maxLen; omega) rfl, World.RowV_none _ _ _ _ _⟩, ref_fin HH.out HMO.out ?_⟩
  repeat (first | with_reducible exact Only.refl _ _ | with_reducible apply Only.alloc | with_reducible apply askF1 | with_reducible apply askF2)

set_option maxRecDepth 100000 in
set_option maxHeartbeats 4000000 in
theorem doc2_bad {w : World} {base rb : Nat} {l : List Int} {st : MemS} {v : RefV} (h : RefAt w base rb l st v) (t n old x : Int) (a : Int) (ha : a < 0 ∨ (st.words.length : Int) ≤ a) :
    Calls Try.prog 34 #[.pointer (some ⟨rb, 0, none⟩), .agg #[.int .i64 2, .int .i64 t, .int .i64 a, .int .i64 n, .int .u64 old, .int .u64 x]] w fun e w' =>
    TellAt w.heap.size ⟨20, [], [0], []⟩ e w' ∧ RefOut w base rb v l st w' := by
  have hW := askW_ref (a0 := .int .i64 2) (a1 := .int .i64 t) (a2 := .int .i64 a) (a3 := .int .i64 n) (a4 := .int .u64 old) (a5 := .int .u64 x) h
  have HX := Lib.hid (AskBox.start w (.int .i64 2) (.int .i64 t) (.int .i64 a) (.int .i64 n) (.int .u64 old) (.int .u64 x) (.int .i64 0) (.slice none 0 0) (.slice none 0 0) (.slice none 0 0) (.int .i64 0) (.slice none 0 0) (.slice none 0 0) (.slice none 0 0))
  have HH := Lib.hid h
  have HC := Lib.hid (r_same hW (rload_bad hW t a ha))
  clear h hW
  go_enter Try.func34, Try.ntmps34
  go_wp2_with fail
  refine HC.out.mono ?_
  rintro e w1 ⟨rfl, hmo⟩
  have hx1 := HX.out.only hmo.choose_spec.2.1 (fun k hk => (HH.out.lt k hk).2)
  obtain ⟨⟨d0, d1, d2, d3, d4, d5⟩, ⟨e0, e1, e2, e3⟩, ⟨f0, f1, f2, f3⟩, fb, fc, lt⟩ := hx1.cells
  have HMO := Lib.hid hmo
  clear hmo hx1
  go_wp2_with (go_at_call 44; refine (flag_any _ _).mono ?_; rintro e w2 ⟨rfl, rfl⟩)
  refine bodyPost_ret (v := .agg #[.int .i64 20, .slice none 0 0, .slice (some ⟨w1.heap.size, 0, none⟩) 1 1, .slice none 0 0]) (by simp [results, Try.results34, go_sem, ↓IntWalk.iteOmega, e0, e1, e2, e3]) rfl ?_
  refine ⟨⟨_, _, _, rfl, World.RowV_none _ _ _ _ _, RowV_new (by simp [World.setCell]) (by omega) (by omega) (by unfold maxLen; omega) rfl, World.RowV_none _ _ _ _ _⟩, ref_fin HH.out HMO.out ?_⟩
  repeat (first | with_reducible exact Only.refl _ _ | with_reducible apply Only.alloc | with_reducible apply askF1 | with_reducible apply askF2)

set_option maxRecDepth 100000 in
set_option maxHeartbeats 4000000 in
theorem doc3_ok {w : World} {base rb : Nat} {l : List Int} {st : MemS} {v : RefV} (h : RefAt w base rb l st v) (t n old x : Int) (a : Nat) (ha : a < st.words.length) (hl1 : st.log.length ≤ 2999999999999) :
    Calls Try.prog 34 #[.pointer (some ⟨rb, 0, none⟩), .agg #[.int .i64 3, .int .i64 t, .int .i64 (a : Int), .int .i64 n, .int .u64 old, .int .u64 x]] w fun e w' =>
    TellAt w.heap.size ⟨0, [], [], []⟩ e w' ∧ RefOut w base rb v l (st.store t a x) w' := by
  have hW := askW_ref (a0 := .int .i64 3) (a1 := .int .i64 t) (a2 := .int .i64 (a : Int)) (a3 := .int .i64 n) (a4 := .int .u64 old) (a5 := .int .u64 x) h
  have HX := Lib.hid (AskBox.start w (.int .i64 3) (.int .i64 t) (.int .i64 (a : Int)) (.int .i64 n) (.int .u64 old) (.int .u64 x) (.int .i64 0) (.slice none 0 0) (.slice none 0 0) (.slice none 0 0) (.int .i64 0) (.slice none 0 0) (.slice none 0 0) (.slice none 0 0))
  have HH := Lib.hid h
  have HC := Lib.hid (rstore_ok hW (by omega) t a x ha)
  clear h hW
  go_enter Try.func34, Try.ntmps34
  go_wp2_with fail
  refine HC.out.mono ?_
  rintro e w1 ⟨rfl, hmo⟩
  have hx1 := HX.out.only hmo.choose_spec.2.1 (fun k hk => (HH.out.lt k hk).2)
  obtain ⟨⟨d0, d1, d2, d3, d4, d5⟩, ⟨e0, e1, e2, e3⟩, ⟨f0, f1, f2, f3⟩, fb, fc, lt⟩ := hx1.cells
  have HMO := Lib.hid hmo
  clear hmo hx1
  go_wp2_with (go_at_call 44; refine (flag_any _ _).mono ?_; rintro e w2 ⟨rfl, rfl⟩)
  refine bodyPost_ret (v := .agg #[.int .i64 0, .slice none 0 0, .slice none 0 0, .slice none 0 0]) (by simp [results, Try.results34, go_sem, e0, e1, e2, e3]) rfl ?_
  refine ⟨⟨_, _, _, rfl, World.RowV_none _ _ _ _ _, World.RowV_none _ _ _ _ _, World.RowV_none _ _ _ _ _⟩, ref_fin HH.out HMO.out ?_⟩
  repeat (first | with_reducible exact Only.refl _ _ | with_reducible apply Only.alloc | with_reducible apply askF1 | with_reducible apply askF2)

set_option maxRecDepth 100000 in
set_option maxHeartbeats 4000000 in
theorem doc3_bad {w : World} {base rb : Nat} {l : List Int} {st : MemS} {v : RefV} (h : RefAt w base rb l st v) (t n old x : Int) (a : Int) (ha : a < 0 ∨ (st.words.length : Int) ≤ a) :
    Calls Try.prog 34 #[.pointer (some ⟨rb, 0, none⟩), .agg #[.int .i64 3, .int .i64 t, .int .i64 a, .int .i64 n, .int .u64 old, .int .u64 x]] w fun e w' =>
    TellAt w.heap.size ⟨20, [], [], []⟩ e w' ∧ RefOut w base rb v l st w' := by
  have hW := askW_ref (a0 := .int .i64 3) (a1 := .int .i64 t) (a2 := .int .i64 a) (a3 := .int .i64 n) (a4 := .int .u64 old) (a5 := .int .u64 x) h
  have HX := Lib.hid (AskBox.start w (.int .i64 3) (.int .i64 t) (.int .i64 a) (.int .i64 n) (.int .u64 old) (.int .u64 x) (.int .i64 0) (.slice none 0 0) (.slice none 0 0) (.slice none 0 0) (.int .i64 0) (.slice none 0 0) (.slice none 0 0) (.slice none 0 0))
  have HH := Lib.hid h
  have HC := Lib.hid (r_same hW (rstore_bad hW t a x ha))
  clear h hW
  go_enter Try.func34, Try.ntmps34
  go_wp2_with fail
  refine HC.out.mono ?_
  rintro e w1 ⟨rfl, hmo⟩
  have hx1 := HX.out.only hmo.choose_spec.2.1 (fun k hk => (HH.out.lt k hk).2)
  obtain ⟨⟨d0, d1, d2, d3, d4, d5⟩, ⟨e0, e1, e2, e3⟩, ⟨f0, f1, f2, f3⟩, fb, fc, lt⟩ := hx1.cells
  have HMO := Lib.hid hmo
  clear hmo hx1
  go_wp2_with (go_at_call 44; refine (flag_any _ _).mono ?_; rintro e w2 ⟨rfl, rfl⟩)
  refine bodyPost_ret (v := .agg #[.int .i64 20, .slice none 0 0, .slice none 0 0, .slice none 0 0]) (by simp [results, Try.results34, go_sem, e0, e1, e2, e3]) rfl ?_
  refine ⟨⟨_, _, _, rfl, World.RowV_none _ _ _ _ _, World.RowV_none _ _ _ _ _, World.RowV_none _ _ _ _ _⟩, ref_fin HH.out HMO.out ?_⟩
  repeat (first | with_reducible exact Only.refl _ _ | with_reducible apply Only.alloc | with_reducible apply askF1 | with_reducible apply askF2)

set_option maxRecDepth 100000 in
set_option maxHeartbeats 4000000 in
theorem doc4_yes {w : World} {base rb : Nat} {l : List Int} {st : MemS} {v : RefV} (h : RefAt w base rb l st v) (t n old x : Int) (a : Nat) (ha : a < st.words.length) (hq : st.at a = old) (hl1 : st.log.length ≤ 2999999999999) :
    Calls Try.prog 34 #[.pointer (some ⟨rb, 0, none⟩), .agg #[.int .i64 4, .int .i64 t, .int .i64 (a : Int), .int .i64 n, .int .u64 old, .int .u64 x]] w fun e w' =>
    TellAt w.heap.size ⟨0, [1], [st.at a], []⟩ e w' ∧ RefOut w base rb v l (st.swap t a old x) w' := by
  have hW := askW_ref (a0 := .int .i64 4) (a1 := .int .i64 t) (a2 := .int .i64 (a : Int)) (a3 := .int .i64 n) (a4 := .int .u64 old) (a5 := .int .u64 x) h
  have HX := Lib.hid (AskBox.start w (.int .i64 4) (.int .i64 t) (.int .i64 (a : Int)) (.int .i64 n) (.int .u64 old) (.int .u64 x) (.int .i64 0) (.slice none 0 0) (.slice none 0 0) (.slice none 0 0) (.int .i64 0) (.slice none 0 0) (.slice none 0 0) (.slice none 0 0))
  have HH := Lib.hid h
  have hsw := rswap_ok hW (by omega) t a old x ha
  rw [show decide (st.at a = old) = true by simpa using hq] at hsw
  have HC := Lib.hid hsw
  clear h hW hsw hq
  go_enter Try.func34, Try.ntmps34
  go_wp2_with fail
  refine HC.out.mono ?_
  rintro e w1 ⟨rfl, hmo⟩
  have hx1 := HX.out.only hmo.choose_spec.2.1 (fun k hk => (HH.out.lt k hk).2)
  obtain ⟨⟨d0, d1, d2, d3, d4, d5⟩, ⟨e0, e1, e2, e3⟩, ⟨f0, f1, f2, f3⟩, fb, fc, lt⟩ := hx1.cells
  have HMO := Lib.hid hmo
  clear hmo hx1
  go_wp2_with (go_at_call 44; refine (flag_any _ _).mono ?_; rintro e w2 ⟨rfl, rfl⟩)
  refine bodyPost_ret (v := .agg #[.int .i64 0, .slice (some ⟨w1.heap.size + 1, 0, none⟩) 1 1, .slice (some ⟨w1.heap.size, 0, none⟩) 1 1, .slice none 0 0]) (by simp [results, Try.results34, go_sem, ↓IntWalk.iteOmega, e0, e1, e2, e3]) rfl ?_
  refine ⟨⟨_, _, _, rfl, RowV_new (by simp [World.setCell]) (by omega) (by omega) (by unfold maxLen; omega) rfl, World.RowV.alloc (RowV_new (by simp [World.setCell]) (by omega) (by omega) (by unfold maxLen; omega) rfl) _, World.RowV_none _ _ _ _ _⟩, ref_fin HH.out HMO.out ?_⟩
  repeat (first | with_reducible exact Only.refl _ _ | with_reducible apply Only.alloc | with_reducible apply askF1 | with_reducible apply askF2)

set_option maxRecDepth 100000 in
set_option maxHeartbeats 4000000 in
theorem doc4_no {w : World} {base rb : Nat} {l : List Int} {st : MemS} {v : RefV} (h : RefAt w base rb l st v) (t n old x : Int) (a : Nat) (ha : a < st.words.length) (hq : ¬ st.at a = old) (hl1 : st.log.length ≤ 2999999999999) :
    Calls Try.prog 34 #[.pointer (some ⟨rb, 0, none⟩), .agg #[.int .i64 4, .int .i64 t, .int .i64 (a : Int), .int .i64 n, .int .u64 old, .int .u64 x]] w fun e w' =>
    TellAt w.heap.size ⟨0, [0], [st.at a], []⟩ e w' ∧ RefOut w base rb v l (st.swap t a old x) w' := by
  have hW := askW_ref (a0 := .int .i64 4) (a1 := .int .i64 t) (a2 := .int .i64 (a : Int)) (a3 := .int .i64 n) (a4 := .int .u64 old) (a5 := .int .u64 x) h
  have HX := Lib.hid (AskBox.start w (.int .i64 4) (.int .i64 t) (.int .i64 (a : Int)) (.int .i64 n) (.int .u64 old) (.int .u64 x) (.int .i64 0) (.slice none 0 0) (.slice none 0 0) (.slice none 0 0) (.int .i64 0) (.slice none 0 0) (.slice none 0 0) (.slice none 0 0))
  have HH := Lib.hid h
  have hsw := rswap_ok hW (by omega) t a old x ha
  rw [show decide (st.at a = old) = false by simpa using hq] at hsw
  have HC := Lib.hid hsw
  clear h hW hsw hq
  go_enter Try.func34, Try.ntmps34
  go_wp2_with fail
  refine HC.out.mono ?_
  rintro e w1 ⟨rfl, hmo⟩
  have hx1 := HX.out.only hmo.choose_spec.2.1 (fun k hk => (HH.out.lt k hk).2)
  obtain ⟨⟨d0, d1, d2, d3, d4, d5⟩, ⟨e0, e1, e2, e3⟩, ⟨f0, f1, f2, f3⟩, fb, fc, lt⟩ := hx1.cells
  have HMO := Lib.hid hmo
  clear hmo hx1
  go_wp2_with (go_at_call 44; refine (flag_any _ _).mono ?_; rintro e w2 ⟨rfl, rfl⟩)
  refine bodyPost_ret (v := .agg #[.int .i64 0, .slice (some ⟨w1.heap.size + 1, 0, none⟩) 1 1, .slice (some ⟨w1.heap.size, 0, none⟩) 1 1, .slice none 0 0]) (by simp [results, Try.results34, go_sem, ↓IntWalk.iteOmega, e0, e1, e2, e3]) rfl ?_
  refine ⟨⟨_, _, _, rfl, RowV_new (by simp [World.setCell]) (by omega) (by omega) (by unfold maxLen; omega) rfl, World.RowV.alloc (RowV_new (by simp [World.setCell]) (by omega) (by omega) (by unfold maxLen; omega) rfl) _, World.RowV_none _ _ _ _ _⟩, ref_fin HH.out HMO.out ?_⟩
  repeat (first | with_reducible exact Only.refl _ _ | with_reducible apply Only.alloc | with_reducible apply askF1 | with_reducible apply askF2)

set_option maxRecDepth 100000 in
set_option maxHeartbeats 4000000 in
theorem doc4_bad {w : World} {base rb : Nat} {l : List Int} {st : MemS} {v : RefV} (h : RefAt w base rb l st v) (t n old x : Int) (a : Int) (ha : a < 0 ∨ (st.words.length : Int) ≤ a) :
    Calls Try.prog 34 #[.pointer (some ⟨rb, 0, none⟩), .agg #[.int .i64 4, .int .i64 t, .int .i64 a, .int .i64 n, .int .u64 old, .int .u64 x]] w fun e w' =>
    TellAt w.heap.size ⟨20, [0], [0], []⟩ e w' ∧ RefOut w base rb v l st w' := by
  have hW := askW_ref (a0 := .int .i64 4) (a1 := .int .i64 t) (a2 := .int .i64 a) (a3 := .int .i64 n) (a4 := .int .u64 old) (a5 := .int .u64 x) h
  have HX := Lib.hid (AskBox.start w (.int .i64 4) (.int .i64 t) (.int .i64 a) (.int .i64 n) (.int .u64 old) (.int .u64 x) (.int .i64 0) (.slice none 0 0) (.slice none 0 0) (.slice none 0 0) (.int .i64 0) (.slice none 0 0) (.slice none 0 0) (.slice none 0 0))
  have HH := Lib.hid h
  have HC := Lib.hid (r_same hW (rswap_bad hW t a old x ha))
  clear h hW
  go_enter Try.func34, Try.ntmps34
  go_wp2_with fail
  refine HC.out.mono ?_
  rintro e w1 ⟨rfl, hmo⟩
  have hx1 := HX.out.only hmo.choose_spec.2.1 (fun k hk => (HH.out.lt k hk).2)
  obtain ⟨⟨d0, d1, d2, d3, d4, d5⟩, ⟨e0, e1, e2, e3⟩, ⟨f0, f1, f2, f3⟩, fb, fc, lt⟩ := hx1.cells
  have HMO := Lib.hid hmo
  clear hmo hx1
  go_wp2_with (go_at_call 44; refine (flag_any _ _).mono ?_; rintro e w2 ⟨rfl, rfl⟩)
  refine bodyPost_ret (v := .agg #[.int .i64 20, .slice (some ⟨w1.heap.size + 1, 0, none⟩) 1 1, .slice (some ⟨w1.heap.size, 0, none⟩) 1 1, .slice none 0 0]) (by simp [results, Try.results34, go_sem, ↓IntWalk.iteOmega, e0, e1, e2, e3]) rfl ?_
  refine ⟨⟨_, _, _, rfl, RowV_new (by simp [World.setCell]) (by omega) (by omega) (by unfold maxLen; omega) rfl, World.RowV.alloc (RowV_new (by simp [World.setCell]) (by omega) (by omega) (by unfold maxLen; omega) rfl) _, World.RowV_none _ _ _ _ _⟩, ref_fin HH.out HMO.out ?_⟩
  repeat (first | with_reducible exact Only.refl _ _ | with_reducible apply Only.alloc | with_reducible apply askF1 | with_reducible apply askF2)

set_option maxRecDepth 100000 in
set_option maxHeartbeats 4000000 in
theorem doc5_ok {w : World} {base rb : Nat} {l : List Int} {st : MemS} {v : RefV} (h : RefAt w base rb l st v) (t n old x : Int) (a : Int) (c : Nat) (hc : c ≤ st.log.length) (hn : n = (c : Int)) (hin : ∀ a ∈ st.log, 0 ≤ a.ad ∧ a.ad < (l.length : Int)) (hwl : l.length ≤ 3000000000000) (hl1 : st.log.length ≤ 2999999999999) :
    Calls Try.prog 34 #[.pointer (some ⟨rb, 0, none⟩), .agg #[.int .i64 5, .int .i64 t, .int .i64 a, .int .i64 n, .int .u64 old, .int .u64 x]] w fun e w' =>
    TellAt w.heap.size ⟨0, [], [], []⟩ e w' ∧ RefOut w base rb v l (MemS.replay st l c) w' := by
  have hW := askW_ref (a0 := .int .i64 5) (a1 := .int .i64 t) (a2 := .int .i64 a) (a3 := .int .i64 n) (a4 := .int .u64 old) (a5 := .int .u64 x) h
  have HX := Lib.hid (AskBox.start w (.int .i64 5) (.int .i64 t) (.int .i64 a) (.int .i64 n) (.int .u64 old) (.int .u64 x) (.int .i64 0) (.slice none 0 0) (.slice none 0 0) (.slice none 0 0) (.int .i64 0) (.slice none 0 0) (.slice none 0 0) (.slice none 0 0))
  have HH := Lib.hid h
  subst hn
  have HC := Lib.hid (rback_ok hW hin (by omega) hwl c hc)
  clear h hW
  go_enter Try.func34, Try.ntmps34
  go_wp2_with fail
  refine HC.out.mono ?_
  rintro e w1 ⟨rfl, hmo⟩
  have hx1 := HX.out.only hmo.choose_spec.2.1 (fun k hk => (HH.out.lt k hk).2)
  obtain ⟨⟨d0, d1, d2, d3, d4, d5⟩, ⟨e0, e1, e2, e3⟩, ⟨f0, f1, f2, f3⟩, fb, fc, lt⟩ := hx1.cells
  have HMO := Lib.hid hmo
  clear hmo hx1
  go_wp2_with (go_at_call 44; refine (flag_any _ _).mono ?_; rintro e w2 ⟨rfl, rfl⟩)
  refine bodyPost_ret (v := .agg #[.int .i64 0, .slice none 0 0, .slice none 0 0, .slice none 0 0]) (by simp [results, Try.results34, go_sem, e0, e1, e2, e3]) rfl ?_
  refine ⟨⟨_, _, _, rfl, World.RowV_none _ _ _ _ _, World.RowV_none _ _ _ _ _, World.RowV_none _ _ _ _ _⟩, ref_fin HH.out HMO.out ?_⟩
  repeat (first | with_reducible exact Only.refl _ _ | with_reducible apply Only.alloc | with_reducible apply askF1 | with_reducible apply askF2)

set_option maxRecDepth 100000 in
set_option maxHeartbeats 4000000 in
theorem doc5_bad {w : World} {base rb : Nat} {l : List Int} {st : MemS} {v : RefV} (h : RefAt w base rb l st v) (t n old x : Int) (a : Int) (hn : n < 0 ∨ (st.log.length : Int) < n) :
    Calls Try.prog 34 #[.pointer (some ⟨rb, 0, none⟩), .agg #[.int .i64 5, .int .i64 t, .int .i64 a, .int .i64 n, .int .u64 old, .int .u64 x]] w fun e w' =>
    TellAt w.heap.size ⟨21, [], [], []⟩ e w' ∧ RefOut w base rb v l st w' := by
  have hW := askW_ref (a0 := .int .i64 5) (a1 := .int .i64 t) (a2 := .int .i64 a) (a3 := .int .i64 n) (a4 := .int .u64 old) (a5 := .int .u64 x) h
  have HX := Lib.hid (AskBox.start w (.int .i64 5) (.int .i64 t) (.int .i64 a) (.int .i64 n) (.int .u64 old) (.int .u64 x) (.int .i64 0) (.slice none 0 0) (.slice none 0 0) (.slice none 0 0) (.int .i64 0) (.slice none 0 0) (.slice none 0 0) (.slice none 0 0))
  have HH := Lib.hid h
  have HC := Lib.hid (r_same hW (rback_bad hW n hn))
  clear h hW
  go_enter Try.func34, Try.ntmps34
  go_wp2_with fail
  refine HC.out.mono ?_
  rintro e w1 ⟨rfl, hmo⟩
  have hx1 := HX.out.only hmo.choose_spec.2.1 (fun k hk => (HH.out.lt k hk).2)
  obtain ⟨⟨d0, d1, d2, d3, d4, d5⟩, ⟨e0, e1, e2, e3⟩, ⟨f0, f1, f2, f3⟩, fb, fc, lt⟩ := hx1.cells
  have HMO := Lib.hid hmo
  clear hmo hx1
  go_wp2_with (go_at_call 44; refine (flag_any _ _).mono ?_; rintro e w2 ⟨rfl, rfl⟩)
  refine bodyPost_ret (v := .agg #[.int .i64 21, .slice none 0 0, .slice none 0 0, .slice none 0 0]) (by simp [results, Try.results34, go_sem, e0, e1, e2, e3]) rfl ?_
  refine ⟨⟨_, _, _, rfl, World.RowV_none _ _ _ _ _, World.RowV_none _ _ _ _ _, World.RowV_none _ _ _ _ _⟩, ref_fin HH.out HMO.out ?_⟩
  repeat (first | with_reducible exact Only.refl _ _ | with_reducible apply Only.alloc | with_reducible apply askF1 | with_reducible apply askF2)

set_option maxRecDepth 100000 in
set_option maxHeartbeats 4000000 in
theorem doc6_ok {w : World} {base rb : Nat} {l : List Int} {st : MemS} {v : RefV} (h : RefAt w base rb l st v) (t n old x : Int) (a : Nat) (ha : a < st.words.length) :
    Calls Try.prog 34 #[.pointer (some ⟨rb, 0, none⟩), .agg #[.int .i64 6, .int .i64 t, .int .i64 (a : Int), .int .i64 n, .int .u64 old, .int .u64 x]] w fun e w' =>
    TellAt w.heap.size ⟨0, [(lastW a (items st.log 0 st.log.length)).1, (lastW a (items st.log 0 st.log.length)).2], [], []⟩ e w' ∧ RefOut w base rb v l st w' := by
  have hW := askW_ref (a0 := .int .i64 6) (a1 := .int .i64 t) (a2 := .int .i64 (a : Int)) (a3 := .int .i64 n) (a4 := .int .u64 old) (a5 := .int .u64 x) h
  have HX := Lib.hid (AskBox.start w (.int .i64 6) (.int .i64 t) (.int .i64 (a : Int)) (.int .i64 n) (.int .u64 old) (.int .u64 x) (.int .i64 0) (.slice none 0 0) (.slice none 0 0) (.slice none 0 0) (.int .i64 0) (.slice none 0 0) (.slice none 0 0) (.slice none 0 0))
  have HH := Lib.hid h
  generalize hTN : lastW (a : Int) (items st.log 0 st.log.length) = TN
  obtain ⟨tT, tN⟩ := TN
  have hcw := r_writer hW a ha
  rw [hTN] at hcw
  clear hTN
  have HC := Lib.hid hcw
  clear hcw
  clear h hW
  go_enter Try.func34, Try.ntmps34
  go_wp2_with fail
  refine HC.out.mono ?_
  rintro e w1 ⟨rfl, hmo⟩
  simp only
  have hx1 := HX.out.only hmo.choose_spec.2.1 (fun k hk => (HH.out.lt k hk).2)
  obtain ⟨⟨d0, d1, d2, d3, d4, d5⟩, ⟨e0, e1, e2, e3⟩, ⟨f0, f1, f2, f3⟩, fb, fc, lt⟩ := hx1.cells
  have HMO := Lib.hid hmo
  clear hmo hx1
  go_wp2_with (go_at_call 44; refine (flag_any _ _).mono ?_; rintro e w2 ⟨rfl, rfl⟩)
  refine bodyPost_ret (v := .agg #[.int .i64 0, .slice (some ⟨w1.heap.size, 0, none⟩) 2 2, .slice none 0 0, .slice none 0 0]) (by simp [results, Try.results34, go_sem, ↓IntWalk.iteOmega, e0, e1, e2, e3]) rfl ?_
  refine ⟨⟨_, _, _, rfl, RowV_new (by simp [World.setCell]) (by omega) (by omega) (by unfold maxLen; omega) rfl, World.RowV_none _ _ _ _ _, World.RowV_none _ _ _ _ _⟩, ref_fin HH.out HMO.out ?_⟩
  repeat (first | with_reducible exact Only.refl _ _ | with_reducible apply Only.alloc | with_reducible apply askF1 | with_reducible apply askF2)

set_option maxRecDepth 100000 in
set_option maxHeartbeats 4000000 in
theorem doc6_bad {w : World} {base rb : Nat} {l : List Int} {st : MemS} {v : RefV} (h : RefAt w base rb l st v) (t n old x : Int) (a : Int) (ha : a < 0 ∨ (st.words.length : Int) ≤ a) :
    Calls Try.prog 34 #[.pointer (some ⟨rb, 0, none⟩), .agg #[.int .i64 6, .int .i64 t, .int .i64 a, .int .i64 n, .int .u64 old, .int .u64 x]] w fun e w' =>
    TellAt w.heap.size ⟨20, [0, 0], [], []⟩ e w' ∧ RefOut w base rb v l st w' := by
  have hW := askW_ref (a0 := .int .i64 6) (a1 := .int .i64 t) (a2 := .int .i64 a) (a3 := .int .i64 n) (a4 := .int .u64 old) (a5 := .int .u64 x) h
  have HX := Lib.hid (AskBox.start w (.int .i64 6) (.int .i64 t) (.int .i64 a) (.int .i64 n) (.int .u64 old) (.int .u64 x) (.int .i64 0) (.slice none 0 0) (.slice none 0 0) (.slice none 0 0) (.int .i64 0) (.slice none 0 0) (.slice none 0 0) (.slice none 0 0))
  have HH := Lib.hid h
  have HC := Lib.hid (r_same hW (rwriter_bad hW a ha))
  clear h hW
  go_enter Try.func34, Try.ntmps34
  go_wp2_with fail
  refine HC.out.mono ?_
  rintro e w1 ⟨rfl, hmo⟩
  have hx1 := HX.out.only hmo.choose_spec.2.1 (fun k hk => (HH.out.lt k hk).2)
  obtain ⟨⟨d0, d1, d2, d3, d4, d5⟩, ⟨e0, e1, e2, e3⟩, ⟨f0, f1, f2, f3⟩, fb, fc, lt⟩ := hx1.cells
  have HMO := Lib.hid hmo
  clear hmo hx1
  go_wp2_with (go_at_call 44; refine (flag_any _ _).mono ?_; rintro e w2 ⟨rfl, rfl⟩)
  refine bodyPost_ret (v := .agg #[.int .i64 20, .slice (some ⟨w1.heap.size, 0, none⟩) 2 2, .slice none 0 0, .slice none 0 0]) (by simp [results, Try.results34, go_sem, ↓IntWalk.iteOmega, e0, e1, e2, e3]) rfl ?_
  refine ⟨⟨_, _, _, rfl, RowV_new (by simp [World.setCell]) (by omega) (by omega) (by unfold maxLen; omega) rfl, World.RowV_none _ _ _ _ _, World.RowV_none _ _ _ _ _⟩, ref_fin HH.out HMO.out ?_⟩
  repeat (first | with_reducible exact Only.refl _ _ | with_reducible apply Only.alloc | with_reducible apply askF1 | with_reducible apply askF2)

set_option maxRecDepth 100000 in
set_option maxHeartbeats 4000000 in
theorem docX {w : World} {base rb : Nat} {l : List Int} {st : MemS} {v : RefV} (h : RefAt w base rb l st v) (t n old x : Int) (a kd : Int) (q1 : (kd == 1) = false) (q2 : (kd == 2) = false) (q3 : (kd == 3) = false) (q4 : (kd == 4) = false) (q5 : (kd == 5) = false) (q6 : (kd == 6) = false) (q7 : (kd == 7) = false) (q8 : (kd == 8) = false) (q9 : (kd == 9) = false) (q10 : (kd == 10) = false) :
    Calls Try.prog 34 #[.pointer (some ⟨rb, 0, none⟩), .agg #[.int .i64 kd, .int .i64 t, .int .i64 a, .int .i64 n, .int .u64 old, .int .u64 x]] w fun e w' =>
    TellAt w.heap.size ⟨0, [], [], []⟩ e w' ∧ RefOut w base rb v l st w' := by
  have hW := askW_ref (a0 := .int .i64 kd) (a1 := .int .i64 t) (a2 := .int .i64 a) (a3 := .int .i64 n) (a4 := .int .u64 old) (a5 := .int .u64 x) h
  have _HX := Lib.hid (AskBox.start w (.int .i64 kd) (.int .i64 t) (.int .i64 a) (.int .i64 n) (.int .u64 old) (.int .u64 x) (.int .i64 0) (.slice none 0 0) (.slice none 0 0) (.slice none 0 0) (.int .i64 0) (.slice none 0 0) (.slice none 0 0) (.slice none 0 0))
  have HH := Lib.hid h
  have HC := Lib.hid (ref_same hW)
  clear h hW
  go_enter Try.func34, Try.ntmps34
  go_wp2
  refine bodyPost_ret (v := .agg #[.int .i64 0, .slice none 0 0, .slice none 0 0, .slice none 0 0]) (by simp [results, Try.results34, go_sem]) rfl ?_
  refine ⟨⟨_, _, _, rfl, World.RowV_none _ _ _ _ _, World.RowV_none _ _ _ _ _, World.RowV_none _ _ _ _ _⟩, ref_fin HH.out HC.out ?_⟩
  exact Only.refl _ _
end Go.Proofs.Ytpmadfokpimjcaa
