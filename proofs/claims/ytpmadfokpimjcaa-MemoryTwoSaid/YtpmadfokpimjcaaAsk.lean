/-
reclaimlaw02.ask.
-/
import Derived.Test.YtpmadfokpimjcaaAskP
namespace Go.Proofs.Ytpmadfokpimjcaa
open Go.ChangeShapes Go.WideShapes Go.ChangeAt Go.RowKit

theorem flag_any (b : Bool) (w : World) : Calls Try.prog 44 #[.bool b] w fun e w' => e = .returned (.int .i64 (if b = true then 1 else 0)) ∧ w = w' := by
  cases b
  all_goals
    go_enter Try.func44, Try.ntmps44
    go_wp2
    go_ret
    exact ⟨rfl, rfl⟩
/-- behind which entry a look is left -/
def stopF (a : Int) : Nat := (a.tmod 8).natAbs
theorem stop_any (k t a n old x : Int) (w : World) : Calls Try.prog 45 #[.agg #[.int .i64 k, .int .i64 t, .int .i64 a, .int .i64 n, .int .u64 old, .int .u64 x]] w fun e w' => e = .returned (.int .i64 (stopF a : Int)) ∧ Below w.heap.size w w' := by
  have E := Lib.hid (show stopF a = (a.tmod 8).natAbs from rfl)
  have hr : -8 < a.tmod 8 ∧ a.tmod 8 < 8 := by
    rcases Int.lt_or_le a 0 with h | h
    · obtain ⟨y, rfl⟩ : ∃ y : Int, a = -y := ⟨-a, by omega⟩
      rw [Int.neg_tmod, Int.tmod_eq_emod_of_nonneg (by omega)]
      omega
    · rw [Int.tmod_eq_emod_of_nonneg h]
      omega
  obtain ⟨q, hq⟩ : ∃ q, q = a.tmod 8 := ⟨_, rfl⟩
  rw [← hq] at hr
  have Q := Lib.hid hq
  by_cases h0 : q < 0
  all_goals
    go_enter Try.func45, Try.ntmps45
    rw [hq] at h0
    go_wp2
    go_ret
    exact ⟨congrArg (fun z => Ending.returned (Value.int .i64 z)) (by rw [E.out]; omega), (by repeat (first | exact Below.refl _ _ | apply Below.drew | apply Below.more1 | apply Below.alloc1))⟩
def numsL (log : List Acc) (s m : Nat) : List Int := (items log s (s + m)).map fun x => (x.1 : Int)
def logL (log : List Acc) (s m : Nat) : List Acc := (items log s (s + m)).map (·.2)
theorem numsL_len (log : List Acc) (s m : Nat) : (numsL log s m).length = m := by simp [numsL, items_len]
theorem logL_len (log : List Acc) (s m : Nat) : (logL log s m).length = m := by simp [logL, items_len]
section
variable {W : World} {base mb : Nat} {st : MemS} {v : MemV}
theorem c_same {f : FuncId} {args : Array Value} {V : Ending} (h : MemAt W base mb st v) (hc : Calls Try.prog f args W fun e w' => e = V ∧ W = w') : Calls Try.prog f args W fun e w' => e = V ∧ MemOut W base mb v st w' :=
  hc.mono fun _e _w' ⟨he, hw⟩ => ⟨he, hw ▸ mem_same h⟩
theorem c_now (h : MemAt W base mb st v) (x : Int) : Calls Try.prog 26 #[.pointer (some ⟨mb, 0, none⟩), .int .i64 x] W fun e w' => e = .returned (.tuple #[]) ∧ MemOut W base mb v { st with move := x } w' :=
  (now_mem h x).mono fun _e _w' ⟨he, hm, ho⟩ => ⟨he, v, hm, ho, fun _ hk => .inl hk⟩
theorem c_writer (h : MemAt W base mb st v) (hl : st.log.length ≤ 3000000000000) (j : Nat) (hj : j < st.words.length) : Calls Try.prog 27 #[.pointer (some ⟨mb, 0, none⟩), .int .i64 (j : Int)] W fun e w' =>
    e = .returned (.tuple #[.int .i64 (lastW j (items st.log 0 st.log.length)).1, .int .i64 (lastW j (items st.log 0 st.log.length)).2, .int .i64 0]) ∧ MemOut W base mb v st w' :=
  (writer_any h hl j hj).mono fun _e _w' ⟨he, hb⟩ => ⟨he, mem_below h hb⟩
theorem c_writerb (h : MemAt W base mb st v) (a : Int) (ha : a < 0 ∨ (st.words.length : Int) ≤ a) : Calls Try.prog 27 #[.pointer (some ⟨mb, 0, none⟩), .int .i64 a] W fun e w' =>
    e = .returned (.tuple #[.int .i64 0, .int .i64 0, .int .i64 20]) ∧ MemOut W base mb v st w' :=
  (writer_bad h a ha).mono fun _e _w' ⟨he, hb⟩ => ⟨he, mem_below h hb⟩
theorem c_words (h : MemAt W base mb st v) (hn : st.words.length ≤ 3000000000000) : Calls Try.prog 24 #[.pointer (some ⟨mb, 0, none⟩)] W fun e w' =>
    ∃ o c, e = .returned (.slice o st.words.length c) ∧ st.words.length ≤ c ∧ c ≤ 9223372036854775807 ∧ w'.RowV W.heap.size 23 1 (.slice o st.words.length c) st.words.length (u64s st.words) ∧ MemOut W base mb v st w' :=
  (words_mem h hn).mono fun _e _w' ⟨o, c, he, l1, l2, hr, ho⟩ => ⟨o, c, he, l1, l2, hr, MemOut.same h ho⟩
theorem c_logged (h : MemAt W base mb st v) (hl : st.log.length ≤ 3000000000000) (s : Nat) (fr most : Int) (hs : (fr = (s : Int)) ∨ (fr < 0 ∧ s = 0)) (m : Nat) (hm : m = min (st.log.length - s) most.toNat) :
    Calls Try.prog 21 #[.pointer (some ⟨mb, 0, none⟩), .int .i64 fr, .int .i64 most] W fun e w' => ∃ on cn ol cl, e = .returned (.tuple #[.slice on m cn, .slice ol m cl, .bool true]) ∧ m ≤ cn ∧ m ≤ cl ∧ cn ≤ 9223372036854775807 ∧ cl ≤ 9223372036854775807 ∧
      w'.RowV W.heap.size 3 1 (.slice on m cn) m (i64s (numsL st.log s m)) ∧ w'.RowV W.heap.size 45 7 (.slice ol m cl) m (accs (logL st.log s m)) ∧ MemOut W base mb v st w' := by
  refine (logged_any h hl s fr most hs).mono ?_
  rintro e w' ⟨on, cn, ol, cl, he, h1, h2, h3⟩
  rw [← hm] at he h1 h2
  obtain ⟨o1, c1, e1, q1, r1⟩ := h1.form
  obtain ⟨o2, c2, e2, q2, r2⟩ := h2.form
  cases e1
  cases e2
  unfold maxLen at r1 r2
  have en : nums (items st.log s (s + m)) = i64s (numsL st.log s m) := by simp [nums, i64s, numsL]
  rw [en] at h1
  exact ⟨on, cn, ol, cl, he, q1, q2, by omega, by omega, h1, h2, mem_below h h3⟩
end

set_option maxRecDepth 100000 in
set_option maxHeartbeats 4000000 in
theorem ask1 {w : World} {base mb : Nat} {st : MemS} {v : MemV} (h : MemAt w base mb st v) (t n old x : Int) (a : Int) :
    Calls Try.prog 33 #[.pointer (some ⟨mb, 0, none⟩), .agg #[.int .i64 1, .int .i64 t, .int .i64 a, .int .i64 n, .int .u64 old, .int .u64 x]] w fun e w' =>
    TellAt w.heap.size ⟨0, [], [], []⟩ e w' ∧ MemOut w base mb v { st with move := n } w' := by
  have hW := askW_mem (a0 := .int .i64 1) (a1 := .int .i64 t) (a2 := .int .i64 a) (a3 := .int .i64 n) (a4 := .int .u64 old) (a5 := .int .u64 x) h
  have HX := Lib.hid (AskBox.start w (.int .i64 1) (.int .i64 t) (.int .i64 a) (.int .i64 n) (.int .u64 old) (.int .u64 x) (.int .i64 0) (.slice none 0 0) (.slice none 0 0) (.slice none 0 0) (.int .i64 0) (.slice none 0 0) (.slice none 0 0) (.slice none 0 0))
  have HH := Lib.hid h
  have HC := Lib.hid (c_now hW n)
  clear h hW
  go_enter Try.func33, Try.ntmps33
  go_wp2_with fail
  refine HC.out.mono ?_
  rintro e w1 ⟨rfl, hmo⟩
  have hx1 := HX.out.only hmo.choose_spec.2.1 (fun k hk => (HH.out.lt k hk).2)
  obtain ⟨⟨d0, d1, d2, d3, d4, d5⟩, ⟨e0, e1, e2, e3⟩, ⟨f0, f1, f2, f3⟩, fb, fc, lt⟩ := hx1.cells
  have HMO := Lib.hid hmo
  clear hmo hx1
  go_wp2_with (first
    | (go_at_call 14; refine (num_any _ _).mono ?_; rintro e w2 ⟨rfl, rfl⟩)
    | (go_at_call 44; refine (flag_any _ _).mono ?_; rintro e w2 ⟨rfl, rfl⟩))
  refine bodyPost_ret (v := .agg #[.int .i64 0, .slice none 0 0, .slice none 0 0, .slice none 0 0]) (by simp [results, Try.results33, go_sem, e0, e1, e2, e3]) rfl ?_
  refine ⟨⟨_, _, _, rfl, World.RowV_none _ _ _ _ _, World.RowV_none _ _ _ _ _, World.RowV_none _ _ _ _ _⟩, ask_fin HH.out HMO.out ?_⟩
  repeat (first | with_reducible exact Only.refl _ _ | with_reducible apply Only.alloc | with_reducible apply askF1 | with_reducible apply askF2)

set_option maxRecDepth 100000 in
set_option maxHeartbeats 4000000 in
theorem ask2_ok {w : World} {base mb : Nat} {st : MemS} {v : MemV} (h : MemAt w base mb st v) (t n old x : Int) (a : Nat) (ha : a < st.words.length) (hl1 : st.log.length ≤ 2999999999999) (hl2 : st.ahead.length ≤ 2999999999999) :
    Calls Try.prog 33 #[.pointer (some ⟨mb, 0, none⟩), .agg #[.int .i64 2, .int .i64 t, .int .i64 (a : Int), .int .i64 n, .int .u64 old, .int .u64 x]] w fun e w' =>
    TellAt w.heap.size ⟨0, [], [st.at a], []⟩ e w' ∧ MemOut w base mb v (st.load t a) w' := by
  have hW := askW_mem (a0 := .int .i64 2) (a1 := .int .i64 t) (a2 := .int .i64 (a : Int)) (a3 := .int .i64 n) (a4 := .int .u64 old) (a5 := .int .u64 x) h
  have HX := Lib.hid (AskBox.start w (.int .i64 2) (.int .i64 t) (.int .i64 (a : Int)) (.int .i64 n) (.int .u64 old) (.int .u64 x) (.int .i64 0) (.slice none 0 0) (.slice none 0 0) (.slice none 0 0) (.int .i64 0) (.slice none 0 0) (.slice none 0 0) (.slice none 0 0))
  have HH := Lib.hid h
  have HC := Lib.hid (load_ok hW (by omega) (by omega) t a ha)
  clear h hW
  go_enter Try.func33, Try.ntmps33
  go_wp2_with fail
  refine HC.out.mono ?_
  rintro e w1 ⟨rfl, hmo⟩
  have hx1 := HX.out.only hmo.choose_spec.2.1 (fun k hk => (HH.out.lt k hk).2)
  obtain ⟨⟨d0, d1, d2, d3, d4, d5⟩, ⟨e0, e1, e2, e3⟩, ⟨f0, f1, f2, f3⟩, fb, fc, lt⟩ := hx1.cells
  have HMO := Lib.hid hmo
  clear hmo hx1
  go_wp2_with (first
    | (go_at_call 14; refine (num_any _ _).mono ?_; rintro e w2 ⟨rfl, rfl⟩)
    | (go_at_call 44; refine (flag_any _ _).mono ?_; rintro e w2 ⟨rfl, rfl⟩))
  refine bodyPost_ret (v := .agg #[.int .i64 0, .slice none 0 0, .slice (some ⟨w1.heap.size, 0, none⟩) 1 1, .slice none 0 0]) (by simp [results, Try.results33, go_sem, ↓IntWalk.iteOmega, e0, e1, e2, e3]) rfl ?_
  refine ⟨⟨_, _, _, rfl, World.RowV_none _ _ _ _ _, RowV_new (by simp [World.setCell]) (by omega) (by omega) (by unfold maxLen; omega) rfl, World.RowV_none _ _ _ _ _⟩, ask_fin HH.out HMO.out ?_⟩
  repeat (first | with_reducible exact Only.refl _ _ | with_reducible apply Only.alloc | with_reducible apply askF1 | with_reducible apply askF2)

set_option maxRecDepth 100000 in
set_option maxHeartbeats 4000000 in
theorem ask2_bad {w : World} {base mb : Nat} {st : MemS} {v : MemV} (h : MemAt w base mb st v) (t n old x : Int) (a : Int) (ha : a < 0 ∨ (st.words.length : Int) ≤ a) :
    Calls Try.prog 33 #[.pointer (some ⟨mb, 0, none⟩), .agg #[.int .i64 2, .int .i64 t, .int .i64 a, .int .i64 n, .int .u64 old, .int .u64 x]] w fun e w' =>
    TellAt w.heap.size ⟨20, [], [0], []⟩ e w' ∧ MemOut w base mb v st w' := by
  have hW := askW_mem (a0 := .int .i64 2) (a1 := .int .i64 t) (a2 := .int .i64 a) (a3 := .int .i64 n) (a4 := .int .u64 old) (a5 := .int .u64 x) h
  have HX := Lib.hid (AskBox.start w (.int .i64 2) (.int .i64 t) (.int .i64 a) (.int .i64 n) (.int .u64 old) (.int .u64 x) (.int .i64 0) (.slice none 0 0) (.slice none 0 0) (.slice none 0 0) (.int .i64 0) (.slice none 0 0) (.slice none 0 0) (.slice none 0 0))
  have HH := Lib.hid h
  have HC := Lib.hid (c_same hW (load_bad hW t a ha))
  clear h hW
  go_enter Try.func33, Try.ntmps33
  go_wp2_with fail
  refine HC.out.mono ?_
  rintro e w1 ⟨rfl, hmo⟩
  have hx1 := HX.out.only hmo.choose_spec.2.1 (fun k hk => (HH.out.lt k hk).2)
  obtain ⟨⟨d0, d1, d2, d3, d4, d5⟩, ⟨e0, e1, e2, e3⟩, ⟨f0, f1, f2, f3⟩, fb, fc, lt⟩ := hx1.cells
  have HMO := Lib.hid hmo
  clear hmo hx1
  go_wp2_with (first
    | (go_at_call 14; refine (num_any _ _).mono ?_; rintro e w2 ⟨rfl, rfl⟩)
    | (go_at_call 44; refine (flag_any _ _).mono ?_; rintro e w2 ⟨rfl, rfl⟩))
  refine bodyPost_ret (v := .agg #[.int .i64 20, .slice none 0 0, .slice (some ⟨w1.heap.size, 0, none⟩) 1 1, .slice none 0 0]) (by simp [results, Try.results33, go_sem, ↓IntWalk.iteOmega, e0, e1, e2, e3]) rfl ?_
  refine ⟨⟨_, _, _, rfl, World.RowV_none _ _ _ _ _, RowV_new (by simp [World.setCell]) (by omega) (by omega) (by unfold maxLen; omega) rfl, World.RowV_none _ _ _ _ _⟩, ask_fin HH.out HMO.out ?_⟩
  repeat (first | with_reducible exact Only.refl _ _ | with_reducible apply Only.alloc | with_reducible apply askF1 | with_reducible apply askF2)

set_option maxRecDepth 100000 in
set_option maxHeartbeats 4000000 in
theorem ask3_ok {w : World} {base mb : Nat} {st : MemS} {v : MemV} (h : MemAt w base mb st v) (t n old x : Int) (a : Nat) (ha : a < st.words.length) (hl1 : st.log.length ≤ 2999999999999) (hl2 : st.ahead.length ≤ 2999999999999) :
    Calls Try.prog 33 #[.pointer (some ⟨mb, 0, none⟩), .agg #[.int .i64 3, .int .i64 t, .int .i64 (a : Int), .int .i64 n, .int .u64 old, .int .u64 x]] w fun e w' =>
    TellAt w.heap.size ⟨0, [], [], []⟩ e w' ∧ MemOut w base mb v (st.store t a x) w' := by
  have hW := askW_mem (a0 := .int .i64 3) (a1 := .int .i64 t) (a2 := .int .i64 (a : Int)) (a3 := .int .i64 n) (a4 := .int .u64 old) (a5 := .int .u64 x) h
  have HX := Lib.hid (AskBox.start w (.int .i64 3) (.int .i64 t) (.int .i64 (a : Int)) (.int .i64 n) (.int .u64 old) (.int .u64 x) (.int .i64 0) (.slice none 0 0) (.slice none 0 0) (.slice none 0 0) (.int .i64 0) (.slice none 0 0) (.slice none 0 0) (.slice none 0 0))
  have HH := Lib.hid h
  have HC := Lib.hid (store_ok hW (by omega) (by omega) t a x ha)
  clear h hW
  go_enter Try.func33, Try.ntmps33
  go_wp2_with fail
  refine HC.out.mono ?_
  rintro e w1 ⟨rfl, hmo⟩
  have hx1 := HX.out.only hmo.choose_spec.2.1 (fun k hk => (HH.out.lt k hk).2)
  obtain ⟨⟨d0, d1, d2, d3, d4, d5⟩, ⟨e0, e1, e2, e3⟩, ⟨f0, f1, f2, f3⟩, fb, fc, lt⟩ := hx1.cells
  have HMO := Lib.hid hmo
  clear hmo hx1
  go_wp2_with (first
    | (go_at_call 14; refine (num_any _ _).mono ?_; rintro e w2 ⟨rfl, rfl⟩)
    | (go_at_call 44; refine (flag_any _ _).mono ?_; rintro e w2 ⟨rfl, rfl⟩))
  refine bodyPost_ret (v := .agg #[.int .i64 0, .slice none 0 0, .slice none 0 0, .slice none 0 0]) (by simp [results, Try.results33, go_sem, e0, e1, e2, e3]) rfl ?_
  refine ⟨⟨_, _, _, rfl, World.RowV_none _ _ _ _ _, World.RowV_none _ _ _ _ _, World.RowV_none _ _ _ _ _⟩, ask_fin HH.out HMO.out ?_⟩
  repeat (first | with_reducible exact Only.refl _ _ | with_reducible apply Only.alloc | with_reducible apply askF1 | with_reducible apply askF2)

set_option maxRecDepth 100000 in
set_option maxHeartbeats 4000000 in
theorem ask3_bad {w : World} {base mb : Nat} {st : MemS} {v : MemV} (h : MemAt w base mb st v) (t n old x : Int) (a : Int) (ha : a < 0 ∨ (st.words.length : Int) ≤ a) :
    Calls Try.prog 33 #[.pointer (some ⟨mb, 0, none⟩), .agg #[.int .i64 3, .int .i64 t, .int .i64 a, .int .i64 n, .int .u64 old, .int .u64 x]] w fun e w' =>
    TellAt w.heap.size ⟨20, [], [], []⟩ e w' ∧ MemOut w base mb v st w' := by
  have hW := askW_mem (a0 := .int .i64 3) (a1 := .int .i64 t) (a2 := .int .i64 a) (a3 := .int .i64 n) (a4 := .int .u64 old) (a5 := .int .u64 x) h
  have HX := Lib.hid (AskBox.start w (.int .i64 3) (.int .i64 t) (.int .i64 a) (.int .i64 n) (.int .u64 old) (.int .u64 x) (.int .i64 0) (.slice none 0 0) (.slice none 0 0) (.slice none 0 0) (.int .i64 0) (.slice none 0 0) (.slice none 0 0) (.slice none 0 0))
  have HH := Lib.hid h
  have HC := Lib.hid (c_same hW (store_bad hW t a x ha))
  clear h hW
  go_enter Try.func33, Try.ntmps33
  go_wp2_with fail
  refine HC.out.mono ?_
  rintro e w1 ⟨rfl, hmo⟩
  have hx1 := HX.out.only hmo.choose_spec.2.1 (fun k hk => (HH.out.lt k hk).2)
  obtain ⟨⟨d0, d1, d2, d3, d4, d5⟩, ⟨e0, e1, e2, e3⟩, ⟨f0, f1, f2, f3⟩, fb, fc, lt⟩ := hx1.cells
  have HMO := Lib.hid hmo
  clear hmo hx1
  go_wp2_with (first
    | (go_at_call 14; refine (num_any _ _).mono ?_; rintro e w2 ⟨rfl, rfl⟩)
    | (go_at_call 44; refine (flag_any _ _).mono ?_; rintro e w2 ⟨rfl, rfl⟩))
  refine bodyPost_ret (v := .agg #[.int .i64 20, .slice none 0 0, .slice none 0 0, .slice none 0 0]) (by simp [results, Try.results33, go_sem, e0, e1, e2, e3]) rfl ?_
  refine ⟨⟨_, _, _, rfl, World.RowV_none _ _ _ _ _, World.RowV_none _ _ _ _ _, World.RowV_none _ _ _ _ _⟩, ask_fin HH.out HMO.out ?_⟩
  repeat (first | with_reducible exact Only.refl _ _ | with_reducible apply Only.alloc | with_reducible apply askF1 | with_reducible apply askF2)

set_option maxRecDepth 100000 in
set_option maxHeartbeats 4000000 in
theorem ask4_yes {w : World} {base mb : Nat} {st : MemS} {v : MemV} (h : MemAt w base mb st v) (t n old x : Int) (a : Nat) (ha : a < st.words.length) (hq : st.at a = old) (hl1 : st.log.length ≤ 2999999999999) (hl2 : st.ahead.length ≤ 2999999999999) :
    Calls Try.prog 33 #[.pointer (some ⟨mb, 0, none⟩), .agg #[.int .i64 4, .int .i64 t, .int .i64 (a : Int), .int .i64 n, .int .u64 old, .int .u64 x]] w fun e w' =>
    TellAt w.heap.size ⟨0, [1], [st.at a], []⟩ e w' ∧ MemOut w base mb v (st.swap t a old x) w' := by
  have hW := askW_mem (a0 := .int .i64 4) (a1 := .int .i64 t) (a2 := .int .i64 (a : Int)) (a3 := .int .i64 n) (a4 := .int .u64 old) (a5 := .int .u64 x) h
  have HX := Lib.hid (AskBox.start w (.int .i64 4) (.int .i64 t) (.int .i64 (a : Int)) (.int .i64 n) (.int .u64 old) (.int .u64 x) (.int .i64 0) (.slice none 0 0) (.slice none 0 0) (.slice none 0 0) (.int .i64 0) (.slice none 0 0) (.slice none 0 0) (.slice none 0 0))
  have HH := Lib.hid h
  have hsw := swap_ok hW (by omega) (by omega) t a old x ha
  rw [show decide (st.at a = old) = true by simpa using hq] at hsw
  have HC := Lib.hid hsw
  clear h hW hsw hq
  go_enter Try.func33, Try.ntmps33
  go_wp2_with fail
  refine HC.out.mono ?_
  rintro e w1 ⟨rfl, hmo⟩
  have hx1 := HX.out.only hmo.choose_spec.2.1 (fun k hk => (HH.out.lt k hk).2)
  obtain ⟨⟨d0, d1, d2, d3, d4, d5⟩, ⟨e0, e1, e2, e3⟩, ⟨f0, f1, f2, f3⟩, fb, fc, lt⟩ := hx1.cells
  have HMO := Lib.hid hmo
  clear hmo hx1
  go_wp2_with (first
    | (go_at_call 14; refine (num_any _ _).mono ?_; rintro e w2 ⟨rfl, rfl⟩)
    | (go_at_call 44; refine (flag_any _ _).mono ?_; rintro e w2 ⟨rfl, rfl⟩))
  refine bodyPost_ret (v := .agg #[.int .i64 0, .slice (some ⟨w1.heap.size + 1, 0, none⟩) 1 1, .slice (some ⟨w1.heap.size, 0, none⟩) 1 1, .slice none 0 0]) (by simp [results, Try.results33, go_sem, ↓IntWalk.iteOmega, e0, e1, e2, e3]) rfl ?_
  refine ⟨⟨_, _, _, rfl, RowV_new (by simp [World.setCell]) (by omega) (by omega) (by unfold maxLen; omega) rfl, World.RowV.alloc (RowV_new (by simp [World.setCell]) (by omega) (by omega) (by unfold maxLen; omega) rfl) _, World.RowV_none _ _ _ _ _⟩, ask_fin HH.out HMO.out ?_⟩
  repeat (first | with_reducible exact Only.refl _ _ | with_reducible apply Only.alloc | with_reducible apply askF1 | with_reducible apply askF2)

set_option maxRecDepth 100000 in
set_option maxHeartbeats 4000000 in
theorem ask4_no {w : World} {base mb : Nat} {st : MemS} {v : MemV} (h : MemAt w base mb st v) (t n old x : Int) (a : Nat) (ha : a < st.words.length) (hq : ¬ st.at a = old) (hl1 : st.log.length ≤ 2999999999999) (hl2 : st.ahead.length ≤ 2999999999999) :
    Calls Try.prog 33 #[.pointer (some ⟨mb, 0, none⟩), .agg #[.int .i64 4, .int .i64 t, .int .i64 (a : Int), .int .i64 n, .int .u64 old, .int .u64 x]] w fun e w' =>
    TellAt w.heap.size ⟨0, [0], [st.at a], []⟩ e w' ∧ MemOut w base mb v (st.swap t a old x) w' := by
  have hW := askW_mem (a0 := .int .i64 4) (a1 := .int .i64 t) (a2 := .int .i64 (a : Int)) (a3 := .int .i64 n) (a4 := .int .u64 old) (a5 := .int .u64 x) h
  have HX := Lib.hid (AskBox.start w (.int .i64 4) (.int .i64 t) (.int .i64 (a : Int)) (.int .i64 n) (.int .u64 old) (.int .u64 x) (.int .i64 0) (.slice none 0 0) (.slice none 0 0) (.slice none 0 0) (.int .i64 0) (.slice none 0 0) (.slice none 0 0) (.slice none 0 0))
  have HH := Lib.hid h
  have hsw := swap_ok hW (by omega) (by omega) t a old x ha
  rw [show decide (st.at a = old) = false by simpa using hq] at hsw
  have HC := Lib.hid hsw
  clear h hW hsw hq
  go_enter Try.func33, Try.ntmps33
  go_wp2_with fail
  refine HC.out.mono ?_
  rintro e w1 ⟨rfl, hmo⟩
  have hx1 := HX.out.only hmo.choose_spec.2.1 (fun k hk => (HH.out.lt k hk).2)
  obtain ⟨⟨d0, d1, d2, d3, d4, d5⟩, ⟨e0, e1, e2, e3⟩, ⟨f0, f1, f2, f3⟩, fb, fc, lt⟩ := hx1.cells
  have HMO := Lib.hid hmo
  clear hmo hx1
  go_wp2_with (first
    | (go_at_call 14; refine (num_any _ _).mono ?_; rintro e w2 ⟨rfl, rfl⟩)
    | (go_at_call 44; refine (flag_any _ _).mono ?_; rintro e w2 ⟨rfl, rfl⟩))
  refine bodyPost_ret (v := .agg #[.int .i64 0, .slice (some ⟨w1.heap.size + 1, 0, none⟩) 1 1, .slice (some ⟨w1.heap.size, 0, none⟩) 1 1, .slice none 0 0]) (by simp [results, Try.results33, go_sem, ↓IntWalk.iteOmega, e0, e1, e2, e3]) rfl ?_
  refine ⟨⟨_, _, _, rfl, RowV_new (by simp [World.setCell]) (by omega) (by omega) (by unfold maxLen; omega) rfl, World.RowV.alloc (RowV_new (by simp [World.setCell]) (by omega) (by omega) (by unfold maxLen; omega) rfl) _, World.RowV_none _ _ _ _ _⟩, ask_fin HH.out HMO.out ?_⟩
  repeat (first | with_reducible exact Only.refl _ _ | with_reducible apply Only.alloc | with_reducible apply askF1 | with_reducible apply askF2)

set_option maxRecDepth 100000 in
set_option maxHeartbeats 4000000 in
theorem ask4_bad {w : World} {base mb : Nat} {st : MemS} {v : MemV} (h : MemAt w base mb st v) (t n old x : Int) (a : Int) (ha : a < 0 ∨ (st.words.length : Int) ≤ a) :
    Calls Try.prog 33 #[.pointer (some ⟨mb, 0, none⟩), .agg #[.int .i64 4, .int .i64 t, .int .i64 a, .int .i64 n, .int .u64 old, .int .u64 x]] w fun e w' =>
    TellAt w.heap.size ⟨20, [0], [0], []⟩ e w' ∧ MemOut w base mb v st w' := by
  have hW := askW_mem (a0 := .int .i64 4) (a1 := .int .i64 t) (a2 := .int .i64 a) (a3 := .int .i64 n) (a4 := .int .u64 old) (a5 := .int .u64 x) h
  have HX := Lib.hid (AskBox.start w (.int .i64 4) (.int .i64 t) (.int .i64 a) (.int .i64 n) (.int .u64 old) (.int .u64 x) (.int .i64 0) (.slice none 0 0) (.slice none 0 0) (.slice none 0 0) (.int .i64 0) (.slice none 0 0) (.slice none 0 0) (.slice none 0 0))
  have HH := Lib.hid h
  have HC := Lib.hid (c_same hW (swap_bad hW t a old x ha))
  clear h hW
  go_enter Try.func33, Try.ntmps33
  go_wp2_with fail
  refine HC.out.mono ?_
  rintro e w1 ⟨rfl, hmo⟩
  have hx1 := HX.out.only hmo.choose_spec.2.1 (fun k hk => (HH.out.lt k hk).2)
  obtain ⟨⟨d0, d1, d2, d3, d4, d5⟩, ⟨e0, e1, e2, e3⟩, ⟨f0, f1, f2, f3⟩, fb, fc, lt⟩ := hx1.cells
  have HMO := Lib.hid hmo
  clear hmo hx1
  go_wp2_with (first
    | (go_at_call 14; refine (num_any _ _).mono ?_; rintro e w2 ⟨rfl, rfl⟩)
    | (go_at_call 44; refine (flag_any _ _).mono ?_; rintro e w2 ⟨rfl, rfl⟩))
  refine bodyPost_ret (v := .agg #[.int .i64 20, .slice (some ⟨w1.heap.size + 1, 0, none⟩) 1 1, .slice (some ⟨w1.heap.size, 0, none⟩) 1 1, .slice none 0 0]) (by simp [results, Try.results33, go_sem, ↓IntWalk.iteOmega, e0, e1, e2, e3]) rfl ?_
  refine ⟨⟨_, _, _, rfl, RowV_new (by simp [World.setCell]) (by omega) (by omega) (by unfold maxLen; omega) rfl, World.RowV.alloc (RowV_new (by simp [World.setCell]) (by omega) (by omega) (by unfold maxLen; omega) rfl) _, World.RowV_none _ _ _ _ _⟩, ask_fin HH.out HMO.out ?_⟩
  repeat (first | with_reducible exact Only.refl _ _ | with_reducible apply Only.alloc | with_reducible apply askF1 | with_reducible apply askF2)

set_option maxRecDepth 100000 in
set_option maxHeartbeats 4000000 in
theorem ask5_ok {w : World} {base mb : Nat} {st : MemS} {v : MemV} (h : MemAt w base mb st v) (t n old x : Int) (a : Int) (c : Nat) (hc : c ≤ st.log.length) (hn : n = (c : Int)) (hf : Fine st) (hl1 : st.log.length ≤ 2999999999999) :
    Calls Try.prog 33 #[.pointer (some ⟨mb, 0, none⟩), .agg #[.int .i64 5, .int .i64 t, .int .i64 a, .int .i64 n, .int .u64 old, .int .u64 x]] w fun e w' =>
    TellAt w.heap.size ⟨0, [], [], []⟩ e w' ∧ MemOut w base mb v (st.back c) w' := by
  have hW := askW_mem (a0 := .int .i64 5) (a1 := .int .i64 t) (a2 := .int .i64 a) (a3 := .int .i64 n) (a4 := .int .u64 old) (a5 := .int .u64 x) h
  have HX := Lib.hid (AskBox.start w (.int .i64 5) (.int .i64 t) (.int .i64 a) (.int .i64 n) (.int .u64 old) (.int .u64 x) (.int .i64 0) (.slice none 0 0) (.slice none 0 0) (.slice none 0 0) (.int .i64 0) (.slice none 0 0) (.slice none 0 0) (.slice none 0 0))
  have HH := Lib.hid h
  subst hn
  have HC := Lib.hid (back_ok hW hf (by omega) c hc)
  clear h hW
  go_enter Try.func33, Try.ntmps33
  go_wp2_with fail
  refine HC.out.mono ?_
  rintro e w1 ⟨rfl, hmo⟩
  have hx1 := HX.out.only hmo.choose_spec.2.1 (fun k hk => (HH.out.lt k hk).2)
  obtain ⟨⟨d0, d1, d2, d3, d4, d5⟩, ⟨e0, e1, e2, e3⟩, ⟨f0, f1, f2, f3⟩, fb, fc, lt⟩ := hx1.cells
  have HMO := Lib.hid hmo
  clear hmo hx1
  go_wp2_with (first
    | (go_at_call 14; refine (num_any _ _).mono ?_; rintro e w2 ⟨rfl, rfl⟩)
    | (go_at_call 44; refine (flag_any _ _).mono ?_; rintro e w2 ⟨rfl, rfl⟩))
  refine bodyPost_ret (v := .agg #[.int .i64 0, .slice none 0 0, .slice none 0 0, .slice none 0 0]) (by simp [results, Try.results33, go_sem, e0, e1, e2, e3]) rfl ?_
  refine ⟨⟨_, _, _, rfl, World.RowV_none _ _ _ _ _, World.RowV_none _ _ _ _ _, World.RowV_none _ _ _ _ _⟩, ask_fin HH.out HMO.out ?_⟩
  repeat (first | with_reducible exact Only.refl _ _ | with_reducible apply Only.alloc | with_reducible apply askF1 | with_reducible apply askF2)

set_option maxRecDepth 100000 in
set_option maxHeartbeats 4000000 in
theorem ask5_bad {w : World} {base mb : Nat} {st : MemS} {v : MemV} (h : MemAt w base mb st v) (t n old x : Int) (a : Int) (hn : n < 0 ∨ (st.log.length : Int) < n) :
    Calls Try.prog 33 #[.pointer (some ⟨mb, 0, none⟩), .agg #[.int .i64 5, .int .i64 t, .int .i64 a, .int .i64 n, .int .u64 old, .int .u64 x]] w fun e w' =>
    TellAt w.heap.size ⟨21, [], [], []⟩ e w' ∧ MemOut w base mb v st w' := by
  have hW := askW_mem (a0 := .int .i64 5) (a1 := .int .i64 t) (a2 := .int .i64 a) (a3 := .int .i64 n) (a4 := .int .u64 old) (a5 := .int .u64 x) h
  have HX := Lib.hid (AskBox.start w (.int .i64 5) (.int .i64 t) (.int .i64 a) (.int .i64 n) (.int .u64 old) (.int .u64 x) (.int .i64 0) (.slice none 0 0) (.slice none 0 0) (.slice none 0 0) (.int .i64 0) (.slice none 0 0) (.slice none 0 0) (.slice none 0 0))
  have HH := Lib.hid h
  have HC := Lib.hid (c_same hW (back_bad hW n hn))
  clear h hW
  go_enter Try.func33, Try.ntmps33
  go_wp2_with fail
  refine HC.out.mono ?_
  rintro e w1 ⟨rfl, hmo⟩
  have hx1 := HX.out.only hmo.choose_spec.2.1 (fun k hk => (HH.out.lt k hk).2)
  obtain ⟨⟨d0, d1, d2, d3, d4, d5⟩, ⟨e0, e1, e2, e3⟩, ⟨f0, f1, f2, f3⟩, fb, fc, lt⟩ := hx1.cells
  have HMO := Lib.hid hmo
  clear hmo hx1
  go_wp2_with (first
    | (go_at_call 14; refine (num_any _ _).mono ?_; rintro e w2 ⟨rfl, rfl⟩)
    | (go_at_call 44; refine (flag_any _ _).mono ?_; rintro e w2 ⟨rfl, rfl⟩))
  refine bodyPost_ret (v := .agg #[.int .i64 21, .slice none 0 0, .slice none 0 0, .slice none 0 0]) (by simp [results, Try.results33, go_sem, e0, e1, e2, e3]) rfl ?_
  refine ⟨⟨_, _, _, rfl, World.RowV_none _ _ _ _ _, World.RowV_none _ _ _ _ _, World.RowV_none _ _ _ _ _⟩, ask_fin HH.out HMO.out ?_⟩
  repeat (first | with_reducible exact Only.refl _ _ | with_reducible apply Only.alloc | with_reducible apply askF1 | with_reducible apply askF2)

set_option maxRecDepth 100000 in
set_option maxHeartbeats 4000000 in
theorem ask6_ok {w : World} {base mb : Nat} {st : MemS} {v : MemV} (h : MemAt w base mb st v) (t n old x : Int) (a : Nat) (ha : a < st.words.length) (hl1 : st.log.length ≤ 2999999999999) :
    Calls Try.prog 33 #[.pointer (some ⟨mb, 0, none⟩), .agg #[.int .i64 6, .int .i64 t, .int .i64 (a : Int), .int .i64 n, .int .u64 old, .int .u64 x]] w fun e w' =>
    TellAt w.heap.size ⟨0, [(lastW a (items st.log 0 st.log.length)).1, (lastW a (items st.log 0 st.log.length)).2], [], []⟩ e w' ∧ MemOut w base mb v st w' := by
  have hW := askW_mem (a0 := .int .i64 6) (a1 := .int .i64 t) (a2 := .int .i64 (a : Int)) (a3 := .int .i64 n) (a4 := .int .u64 old) (a5 := .int .u64 x) h
  have HX := Lib.hid (AskBox.start w (.int .i64 6) (.int .i64 t) (.int .i64 (a : Int)) (.int .i64 n) (.int .u64 old) (.int .u64 x) (.int .i64 0) (.slice none 0 0) (.slice none 0 0) (.slice none 0 0) (.int .i64 0) (.slice none 0 0) (.slice none 0 0) (.slice none 0 0))
  have HH := Lib.hid h
  generalize hTN : lastW (a : Int) (items st.log 0 st.log.length) = TN
  obtain ⟨tT, tN⟩ := TN
  have HTN := Lib.hid hTN
  have hcw := c_writer hW (by omega) a ha
  rw [hTN] at hcw
  clear hTN
  have HC := Lib.hid hcw
  clear hcw
  clear h hW
  go_enter Try.func33, Try.ntmps33
  go_wp2_with fail
  refine HC.out.mono ?_
  rintro e w1 ⟨rfl, hmo⟩
  simp only
  have hx1 := HX.out.only hmo.choose_spec.2.1 (fun k hk => (HH.out.lt k hk).2)
  obtain ⟨⟨d0, d1, d2, d3, d4, d5⟩, ⟨e0, e1, e2, e3⟩, ⟨f0, f1, f2, f3⟩, fb, fc, lt⟩ := hx1.cells
  have HMO := Lib.hid hmo
  clear hmo hx1
  go_wp2_with (first
    | (go_at_call 14; refine (num_any _ _).mono ?_; rintro e w2 ⟨rfl, rfl⟩)
    | (go_at_call 44; refine (flag_any _ _).mono ?_; rintro e w2 ⟨rfl, rfl⟩))
  refine bodyPost_ret (v := .agg #[.int .i64 0, .slice (some ⟨w1.heap.size, 0, none⟩) 2 2, .slice none 0 0, .slice none 0 0]) (by simp [results, Try.results33, go_sem, ↓IntWalk.iteOmega, e0, e1, e2, e3]) rfl ?_
  refine ⟨⟨_, _, _, rfl, RowV_new (by simp [World.setCell]) (by omega) (by omega) (by unfold maxLen; omega) rfl, World.RowV_none _ _ _ _ _, World.RowV_none _ _ _ _ _⟩, ask_fin HH.out HMO.out ?_⟩
  repeat (first | with_reducible exact Only.refl _ _ | with_reducible apply Only.alloc | with_reducible apply askF1 | with_reducible apply askF2)

set_option maxRecDepth 100000 in
set_option maxHeartbeats 4000000 in
theorem ask6_bad {w : World} {base mb : Nat} {st : MemS} {v : MemV} (h : MemAt w base mb st v) (t n old x : Int) (a : Int) (ha : a < 0 ∨ (st.words.length : Int) ≤ a) :
    Calls Try.prog 33 #[.pointer (some ⟨mb, 0, none⟩), .agg #[.int .i64 6, .int .i64 t, .int .i64 a, .int .i64 n, .int .u64 old, .int .u64 x]] w fun e w' =>
    TellAt w.heap.size ⟨20, [0, 0], [], []⟩ e w' ∧ MemOut w base mb v st w' := by
  have hW := askW_mem (a0 := .int .i64 6) (a1 := .int .i64 t) (a2 := .int .i64 a) (a3 := .int .i64 n) (a4 := .int .u64 old) (a5 := .int .u64 x) h
  have HX := Lib.hid (AskBox.start w (.int .i64 6) (.int .i64 t) (.int .i64 a) (.int .i64 n) (.int .u64 old) (.int .u64 x) (.int .i64 0) (.slice none 0 0) (.slice none 0 0) (.slice none 0 0) (.int .i64 0) (.slice none 0 0) (.slice none 0 0) (.slice none 0 0))
  have HH := Lib.hid h
  have HC := Lib.hid (c_writerb hW a ha)
  clear h hW
  go_enter Try.func33, Try.ntmps33
  go_wp2_with fail
  refine HC.out.mono ?_
  rintro e w1 ⟨rfl, hmo⟩
  have hx1 := HX.out.only hmo.choose_spec.2.1 (fun k hk => (HH.out.lt k hk).2)
  obtain ⟨⟨d0, d1, d2, d3, d4, d5⟩, ⟨e0, e1, e2, e3⟩, ⟨f0, f1, f2, f3⟩, fb, fc, lt⟩ := hx1.cells
  have HMO := Lib.hid hmo
  clear hmo hx1
  go_wp2_with (first
    | (go_at_call 14; refine (num_any _ _).mono ?_; rintro e w2 ⟨rfl, rfl⟩)
    | (go_at_call 44; refine (flag_any _ _).mono ?_; rintro e w2 ⟨rfl, rfl⟩))
  refine bodyPost_ret (v := .agg #[.int .i64 20, .slice (some ⟨w1.heap.size, 0, none⟩) 2 2, .slice none 0 0, .slice none 0 0]) (by simp [results, Try.results33, go_sem, ↓IntWalk.iteOmega, e0, e1, e2, e3]) rfl ?_
  refine ⟨⟨_, _, _, rfl, RowV_new (by simp [World.setCell]) (by omega) (by omega) (by unfold maxLen; omega) rfl, World.RowV_none _ _ _ _ _, World.RowV_none _ _ _ _ _⟩, ask_fin HH.out HMO.out ?_⟩
  repeat (first | with_reducible exact Only.refl _ _ | with_reducible apply Only.alloc | with_reducible apply askF1 | with_reducible apply askF2)

set_option maxRecDepth 100000 in
set_option maxHeartbeats 4000000 in
theorem ask9 {w : World} {base mb : Nat} {st : MemS} {v : MemV} (h : MemAt w base mb st v) (t n old x : Int) (a : Int) (hwl : st.words.length ≤ 3000000000000) :
    Calls Try.prog 33 #[.pointer (some ⟨mb, 0, none⟩), .agg #[.int .i64 9, .int .i64 t, .int .i64 a, .int .i64 n, .int .u64 old, .int .u64 x]] w fun e w' =>
    TellAt w.heap.size ⟨0, [], st.words, []⟩ e w' ∧ MemOut w base mb v st w' := by
  have hW := askW_mem (a0 := .int .i64 9) (a1 := .int .i64 t) (a2 := .int .i64 a) (a3 := .int .i64 n) (a4 := .int .u64 old) (a5 := .int .u64 x) h
  have HX := Lib.hid (AskBox.start w (.int .i64 9) (.int .i64 t) (.int .i64 a) (.int .i64 n) (.int .u64 old) (.int .u64 x) (.int .i64 0) (.slice none 0 0) (.slice none 0 0) (.slice none 0 0) (.int .i64 0) (.slice none 0 0) (.slice none 0 0) (.slice none 0 0))
  have HH := Lib.hid h
  have HC := Lib.hid (c_words hW hwl)
  clear h hW
  go_enter Try.func33, Try.ntmps33
  go_wp2_with fail
  refine HC.out.mono ?_
  rintro e w1 ⟨o1, c1, rfl, hn1, hm1, hrow, hmo⟩
  have hx1 := HX.out.only hmo.choose_spec.2.1 (fun k hk => (HH.out.lt k hk).2)
  obtain ⟨⟨d0, d1, d2, d3, d4, d5⟩, ⟨e0, e1, e2, e3⟩, ⟨f0, f1, f2, f3⟩, fb, fc, lt⟩ := hx1.cells
  have HMO := Lib.hid hmo
  clear hmo hx1
  have HR := Lib.hid hrow
  clear hrow
  go_wp2_with (first
    | (go_at_call 14; refine (num_any _ _).mono ?_; rintro e w2 ⟨rfl, rfl⟩)
    | (go_at_call 44; refine (flag_any _ _).mono ?_; rintro e w2 ⟨rfl, rfl⟩))
  refine bodyPost_ret (v := .agg #[.int .i64 0, .slice none 0 0, .slice o1 st.words.length c1, .slice none 0 0]) (by simp [results, Try.results33, go_sem, e0, e1, e2, e3]) rfl ?_
  refine ⟨⟨_, _, _, rfl, World.RowV_none _ _ _ _ _, ?_, World.RowV_none _ _ _ _ _⟩, ask_fin HH.out HMO.out ?_⟩
  · refine ask_row (w1 := w1) HR.out ?_ (by rw [askW_size]; omega)
    repeat (first | with_reducible exact Only.refl _ _ | with_reducible apply Only.alloc | with_reducible apply askF1 | with_reducible apply askF2)
  repeat (first | with_reducible exact Only.refl _ _ | with_reducible apply Only.alloc | with_reducible apply askF1 | with_reducible apply askF2)

set_option maxRecDepth 100000 in
set_option maxHeartbeats 4000000 in
theorem ask10 {w : World} {base mb : Nat} {st : MemS} {v : MemV} (h : MemAt w base mb st v) (t n old x : Int) (a : Int) :
    Calls Try.prog 33 #[.pointer (some ⟨mb, 0, none⟩), .agg #[.int .i64 10, .int .i64 t, .int .i64 a, .int .i64 n, .int .u64 old, .int .u64 x]] w fun e w' =>
    TellAt w.heap.size ⟨0, [(st.log.length : Int), (st.words.length : Int)], [], []⟩ e w' ∧ MemOut w base mb v st w' := by
  have hW := askW_mem (a0 := .int .i64 10) (a1 := .int .i64 t) (a2 := .int .i64 a) (a3 := .int .i64 n) (a4 := .int .u64 old) (a5 := .int .u64 x) h
  have HX := Lib.hid (AskBox.start w (.int .i64 10) (.int .i64 t) (.int .i64 a) (.int .i64 n) (.int .u64 old) (.int .u64 x) (.int .i64 0) (.slice none 0 0) (.slice none 0 0) (.slice none 0 0) (.int .i64 0) (.slice none 0 0) (.slice none 0 0) (.slice none 0 0))
  have HH := Lib.hid h
  have hn0 := count_mem hW
  unfold askW at hn0
  have HN := Lib.hid hn0
  clear hn0
  have HC := Lib.hid (c_same hW (size_mem hW))
  clear h hW
  go_enter Try.func33, Try.ntmps33
  go_wp2_with (go_at_call 17; refine HN.out.mono ?_; rintro e w2 ⟨rfl, rfl⟩)
  refine HC.out.mono ?_
  rintro e w1 ⟨rfl, hmo⟩
  have hx1 := HX.out.only hmo.choose_spec.2.1 (fun k hk => (HH.out.lt k hk).2)
  obtain ⟨⟨d0, d1, d2, d3, d4, d5⟩, ⟨e0, e1, e2, e3⟩, ⟨f0, f1, f2, f3⟩, fb, fc, lt⟩ := hx1.cells
  have HMO := Lib.hid hmo
  clear hmo hx1
  go_wp2_with (first
    | (go_at_call 14; refine (num_any _ _).mono ?_; rintro e w2 ⟨rfl, rfl⟩)
    | (go_at_call 44; refine (flag_any _ _).mono ?_; rintro e w2 ⟨rfl, rfl⟩))
  refine bodyPost_ret (v := .agg #[.int .i64 0, .slice (some ⟨w1.heap.size, 0, none⟩) 2 2, .slice none 0 0, .slice none 0 0]) (by simp [results, Try.results33, go_sem, ↓IntWalk.iteOmega, e0, e1, e2, e3]) rfl ?_
  refine ⟨⟨_, _, _, rfl, RowV_new (by simp [World.setCell]) (by omega) (by omega) (by unfold maxLen; omega) rfl, World.RowV_none _ _ _ _ _, World.RowV_none _ _ _ _ _⟩, ask_fin HH.out HMO.out ?_⟩
  repeat (first | with_reducible exact Only.refl _ _ | with_reducible apply Only.alloc | with_reducible apply askF1 | with_reducible apply askF2)

set_option maxRecDepth 100000 in
set_option maxHeartbeats 4000000 in
theorem ask7 {w : World} {base mb : Nat} {st : MemS} {v : MemV} (h : MemAt w base mb st v) (t n old x : Int) (a : Int) (s : Nat) (hs : (n = (s : Int)) ∨ (n < 0 ∧ s = 0)) (m : Nat) (hm : m = min (st.log.length - s) ((st.log.length : Int) + 1).toNat) (hl1 : st.log.length ≤ 2999999999999) :
    Calls Try.prog 33 #[.pointer (some ⟨mb, 0, none⟩), .agg #[.int .i64 7, .int .i64 t, .int .i64 a, .int .i64 n, .int .u64 old, .int .u64 x]] w fun e w' =>
    TellAt w.heap.size ⟨0, numsL st.log s m, [], logL st.log s m⟩ e w' ∧ MemOut w base mb v st w' := by
  have hW := askW_mem (a0 := .int .i64 7) (a1 := .int .i64 t) (a2 := .int .i64 a) (a3 := .int .i64 n) (a4 := .int .u64 old) (a5 := .int .u64 x) h
  have HX := Lib.hid (AskBox.start w (.int .i64 7) (.int .i64 t) (.int .i64 a) (.int .i64 n) (.int .u64 old) (.int .u64 x) (.int .i64 0) (.slice none 0 0) (.slice none 0 0) (.slice none 0 0) (.int .i64 0) (.slice none 0 0) (.slice none 0 0) (.slice none 0 0))
  have HH := Lib.hid h
  have hn0 := count_mem hW
  unfold askW at hn0
  have HN := Lib.hid hn0
  clear hn0
  have HC := Lib.hid (c_logged hW (by omega) s n ((st.log.length : Int) + 1) hs m hm)
  clear h hW hm hs
  go_enter Try.func33, Try.ntmps33
  go_wp2_with (go_at_call 17; refine HN.out.mono ?_; rintro e w2 ⟨rfl, rfl⟩)
  refine HC.out.mono ?_
  rintro e w1 ⟨on, cn, ol, cl, rfl, n1, n2, n3, n4, r1, r2, hmo⟩
  have hx1 := HX.out.only hmo.choose_spec.2.1 (fun k hk => (HH.out.lt k hk).2)
  obtain ⟨⟨d0, d1, d2, d3, d4, d5⟩, ⟨e0, e1, e2, e3⟩, ⟨f0, f1, f2, f3⟩, fb, fc, lt⟩ := hx1.cells
  have HR1 := Lib.hid r1
  have HR2 := Lib.hid r2
  have HSZ := Lib.hid (askW_size (w := w) (a0 := .int .i64 7) (a1 := .int .i64 t) (a2 := .int .i64 a) (a3 := .int .i64 n) (a4 := .int .u64 old) (a5 := .int .u64 x))
  have HMO := Lib.hid hmo
  clear hmo hx1 r1 r2
  go_wp2_with (first
    | (go_at_call 14; refine (num_any _ _).mono ?_; rintro e w2 ⟨rfl, rfl⟩)
    | (go_at_call 44; refine (flag_any _ _).mono ?_; rintro e w2 ⟨rfl, rfl⟩))
  refine bodyPost_ret (v := .agg #[.int .i64 0, .slice on m cn, .slice none 0 0, .slice ol m cl]) (by simp [results, Try.results33, go_sem, e0, e1, e2, e3]) rfl ?_
  refine ⟨⟨_, _, _, rfl, ?_, World.RowV_none _ _ _ _ _, ?_⟩, ask_fin HH.out HMO.out ?_⟩
  · rw [numsL_len]
    refine ask_row (w1 := w1) HR1.out ?_ (by rw [HSZ.out]; omega)
    repeat (first | with_reducible exact Only.refl _ _ | with_reducible apply Only.alloc | with_reducible apply askF1 | with_reducible apply askF2)
  · rw [logL_len]
    refine ask_row (w1 := w1) HR2.out ?_ (by rw [HSZ.out]; omega)
    repeat (first | with_reducible exact Only.refl _ _ | with_reducible apply Only.alloc | with_reducible apply askF1 | with_reducible apply askF2)
  repeat (first | with_reducible exact Only.refl _ _ | with_reducible apply Only.alloc | with_reducible apply askF1 | with_reducible apply askF2)

set_option maxRecDepth 100000 in
set_option maxHeartbeats 4000000 in
theorem ask8 {w : World} {base mb : Nat} {st : MemS} {v : MemV} (h : MemAt w base mb st v) (t n old x : Int) (a : Int) (s : Nat) (hs : (n = (s : Int)) ∨ (n < 0 ∧ s = 0)) (m : Nat) (hm : m = min (st.log.length - s) (stopF a : Int).toNat) (hl1 : st.log.length ≤ 2999999999999) :
    Calls Try.prog 33 #[.pointer (some ⟨mb, 0, none⟩), .agg #[.int .i64 8, .int .i64 t, .int .i64 a, .int .i64 n, .int .u64 old, .int .u64 x]] w fun e w' =>
    TellAt w.heap.size ⟨0, numsL st.log s m, [], logL st.log s m⟩ e w' ∧ MemOut w base mb v st w' := by
  have hW := askW_mem (a0 := .int .i64 8) (a1 := .int .i64 t) (a2 := .int .i64 a) (a3 := .int .i64 n) (a4 := .int .u64 old) (a5 := .int .u64 x) h
  have HX := Lib.hid (AskBox.start w (.int .i64 8) (.int .i64 t) (.int .i64 a) (.int .i64 n) (.int .u64 old) (.int .u64 x) (.int .i64 0) (.slice none 0 0) (.slice none 0 0) (.slice none 0 0) (.int .i64 0) (.slice none 0 0) (.slice none 0 0) (.slice none 0 0))
  have HH := Lib.hid h
  have hn0 := count_mem hW
  unfold askW at hn0
  have HN := Lib.hid hn0
  clear hn0
  have HC := Lib.hid (fun os d => c_logged (hW.more os d) (by omega) s n (stopF a : Int) hs m hm)
  clear h hW hm hs
  go_enter Try.func33, Try.ntmps33
  go_wp2_with (first | (go_at_call 17; refine HN.out.mono ?_; rintro e w2 ⟨rfl, rfl⟩) | (go_at_call 45; refine (stop_any _ _ _ _ _ _ _).mono ?_; rintro e w1 ⟨rfl, hb1⟩; obtain ⟨os, d, rfl⟩ := hb1.more; clear hb1))
  refine (HC.out os d).mono ?_
  rintro e w1 ⟨on, cn, ol, cl, rfl, n1, n2, n3, n4, r1, r2, hmo1⟩
  have hmo := MemOut.pre ((Only.refl _ (askW w (.int .i64 8) (.int .i64 t) (.int .i64 a) (.int .i64 n) (.int .u64 old) (.int .u64 x))).more os d) hmo1
  have hx1 := HX.out.only hmo.choose_spec.2.1 (fun k hk => (HH.out.lt k hk).2)
  obtain ⟨⟨d0, d1, d2, d3, d4, d5⟩, ⟨e0, e1, e2, e3⟩, ⟨f0, f1, f2, f3⟩, fb, fc, lt⟩ := hx1.cells
  have HR1 := Lib.hid r1
  have HR2 := Lib.hid r2
  have HSZ : Hid (((askW w (.int .i64 8) (.int .i64 t) (.int .i64 a) (.int .i64 n) (.int .u64 old) (.int .u64 x)).more os d).heap.size = w.heap.size + 1 + 1 + 1 + os.size) := by show _ = _; rw [World.size_more, askW_size]
  have HMO := Lib.hid hmo
  clear hmo hmo1 hx1 r1 r2
  go_wp2_with (first
    | (go_at_call 14; refine (num_any _ _).mono ?_; rintro e w2 ⟨rfl, rfl⟩)
    | (go_at_call 44; refine (flag_any _ _).mono ?_; rintro e w2 ⟨rfl, rfl⟩))
  refine bodyPost_ret (v := .agg #[.int .i64 0, .slice on m cn, .slice none 0 0, .slice ol m cl]) (by simp [results, Try.results33, go_sem, e0, e1, e2, e3]) rfl ?_
  refine ⟨⟨_, _, _, rfl, ?_, World.RowV_none _ _ _ _ _, ?_⟩, ask_fin HH.out HMO.out ?_⟩
  · rw [numsL_len]
    refine ask_row (w1 := w1) HR1.out ?_ (by rw [HSZ.out]; omega)
    repeat (first | with_reducible exact Only.refl _ _ | with_reducible apply Only.alloc | with_reducible apply askF1 | with_reducible apply askF2)
  · rw [logL_len]
    refine ask_row (w1 := w1) HR2.out ?_ (by rw [HSZ.out]; omega)
    repeat (first | with_reducible exact Only.refl _ _ | with_reducible apply Only.alloc | with_reducible apply askF1 | with_reducible apply askF2)
  repeat (first | with_reducible exact Only.refl _ _ | with_reducible apply Only.alloc | with_reducible apply askF1 | with_reducible apply askF2)

set_option maxRecDepth 100000 in
set_option maxHeartbeats 4000000 in
theorem askX {w : World} {base mb : Nat} {st : MemS} {v : MemV} (h : MemAt w base mb st v) (t n old x : Int) (a kd : Int) (q1 : (kd == 1) = false) (q2 : (kd == 2) = false) (q3 : (kd == 3) = false) (q4 : (kd == 4) = false) (q5 : (kd == 5) = false) (q6 : (kd == 6) = false) (q7 : (kd == 7) = false) (q8 : (kd == 8) = false) (q9 : (kd == 9) = false) (q10 : (kd == 10) = false) :
    Calls Try.prog 33 #[.pointer (some ⟨mb, 0, none⟩), .agg #[.int .i64 kd, .int .i64 t, .int .i64 a, .int .i64 n, .int .u64 old, .int .u64 x]] w fun e w' =>
    TellAt w.heap.size ⟨0, [], [], []⟩ e w' ∧ MemOut w base mb v st w' := by
  have hW := askW_mem (a0 := .int .i64 kd) (a1 := .int .i64 t) (a2 := .int .i64 a) (a3 := .int .i64 n) (a4 := .int .u64 old) (a5 := .int .u64 x) h
  have _HX := Lib.hid (AskBox.start w (.int .i64 kd) (.int .i64 t) (.int .i64 a) (.int .i64 n) (.int .u64 old) (.int .u64 x) (.int .i64 0) (.slice none 0 0) (.slice none 0 0) (.slice none 0 0) (.int .i64 0) (.slice none 0 0) (.slice none 0 0) (.slice none 0 0))
  have HH := Lib.hid h
  have HC := Lib.hid (mem_same hW)
  clear h hW
  go_enter Try.func33, Try.ntmps33
  go_wp2_with (first
    | (go_at_call 14; refine (num_any _ _).mono ?_; rintro e w2 ⟨rfl, rfl⟩)
    | (go_at_call 44; refine (flag_any _ _).mono ?_; rintro e w2 ⟨rfl, rfl⟩))
  refine bodyPost_ret (v := .agg #[.int .i64 0, .slice none 0 0, .slice none 0 0, .slice none 0 0]) (by simp [results, Try.results33, go_sem]) rfl ?_
  refine ⟨⟨_, _, _, rfl, World.RowV_none _ _ _ _ _, World.RowV_none _ _ _ _ _, World.RowV_none _ _ _ _ _⟩, ask_fin HH.out HC.out ?_⟩
  exact Only.refl _ _
end Go.Proofs.Ytpmadfokpimjcaa
