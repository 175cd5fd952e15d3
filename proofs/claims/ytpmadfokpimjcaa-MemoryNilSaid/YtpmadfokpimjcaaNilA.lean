/-
The memory that is not there: logged over it, and its other calls.
-/
import Derived.Test.YtpmadfokpimjcaaLogB
import Derived.Test.YtpmadfokpimjcaaMemE
namespace Go.Proofs.Ytpmadfokpimjcaa
open Go.ChangeShapes Go.WideShapes Go.ChangeAt Go.RowKit Go.Shelf

theorem load_nil (w : World) (t a : Int) : Calls Try.prog 16 #[.pointer none, .int .i64 t, .int .i64 a] w fun e w' => e = .returned (.tuple #[.int .u64 0, .int .i64 20]) ∧ w = w' := by
  go_enter Try.func16, Try.ntmps16
  go_wp2_with (go_at_call 38; refine (has_nil _ _).mono ?_; rintro e w1 ⟨rfl, rfl⟩)
  go_ret2
  exact ⟨rfl, rfl⟩
theorem store_nil (w : World) (t a x : Int) : Calls Try.prog 36 #[.pointer none, .int .i64 t, .int .i64 a, .int .u64 x] w fun e w' => e = .returned (.int .i64 20) ∧ w = w' := by
  go_enter Try.func36, Try.ntmps36
  go_wp2_with (go_at_call 38; refine (has_nil _ _).mono ?_; rintro e w1 ⟨rfl, rfl⟩)
  go_ret
  exact ⟨rfl, rfl⟩
theorem swap_nil (w : World) (t a o x : Int) : Calls Try.prog 35 #[.pointer none, .int .i64 t, .int .i64 a, .int .u64 o, .int .u64 x] w fun e w' => e = .returned (.tuple #[.int .u64 0, .bool false, .int .i64 20]) ∧ w = w' := by
  go_enter Try.func35, Try.ntmps35
  go_wp2_with (go_at_call 38; refine (has_nil _ _).mono ?_; rintro e w1 ⟨rfl, rfl⟩)
  exact bodyPost_ret (v := .tuple #[.int .u64 0, .bool false, .int .i64 20]) (by simp [results, Try.results35, go_sem]) rfl ⟨rfl, rfl⟩
theorem writer_nil (w : World) (a : Int) : Calls Try.prog 27 #[.pointer none, .int .i64 a] w fun e w' => e = .returned (.tuple #[.int .i64 0, .int .i64 0, .int .i64 20]) ∧ Below w.heap.size w w' := by
  go_enter Try.func27, Try.ntmps27
  go_wp2_with (go_at_call 38; refine (has_nil _ _).mono ?_; rintro e w1 ⟨rfl, rfl⟩)
  exact bodyPost_ret (v := .tuple #[.int .i64 0, .int .i64 0, .int .i64 20]) (by simp [results, Try.results27, go_sem]) rfl ⟨rfl, (by repeat (first | exact Below.refl _ _ | apply Below.drew | apply Below.more1 | apply Below.alloc1))⟩
theorem back_nil0 (w : World) : Calls Try.prog 29 #[.pointer none, .int .i64 0] w fun e w' => e = .returned (.int .i64 0) ∧ w = w' := by
  go_enter Try.func29, Try.ntmps29
  go_wp2_with (go_at_call 17; refine (count_nil _).mono ?_; rintro e w1 ⟨rfl, rfl⟩)
  go_ret
  exact ⟨rfl, rfl⟩
theorem back_nil1 (w : World) (n : Int) (hn : n ≠ 0) : Calls Try.prog 29 #[.pointer none, .int .i64 n] w fun e w' => e = .returned (.int .i64 21) ∧ w = w' := by
  have hc : n < 0 ∨ 0 < n := by omega
  rcases hc with hc | hc
  all_goals
    go_enter Try.func29, Try.ntmps29
    go_wp2_with (go_at_call 17; refine (count_nil _).mono ?_; rintro e w1 ⟨rfl, rfl⟩)
    go_ret
    exact ⟨rfl, rfl⟩

attribute [local go_sem] Oper.semAt_some

theorem log1_nil {w : World} (Bm Bf : Nat) (n : Nat) (_Foot : World → Nat → Prop)
    (hBm : w.cell? ⟨Bm, 0, none⟩ = some (.pointer none))
    (l : Nat) (J Jx : List (Nat × Acc) → World → Prop) (W : World) (hW : Below w.heap.size w W) (h0 : J [] W) :
    CallsIn Fence.wide n Try.prog 40 #[.func (.yield l) #[] #[], .pointer (some ⟨Bm, 0, none⟩), .pointer (some ⟨Bf, 0, none⟩)] W fun e W' => (∃ v, e = .returned v) ∧
      ((∃ xs, xs = [] ∧ J xs W') ∨ (∃ pre, False ∧ Jx pre W')) := by
  have lBm := World.block_lt_of_cell? w _ hBm
  have hBm' : W.cell? ⟨Bm, 0, none⟩ = some (.pointer none) := (hW.cell (p := ⟨Bm, 0, none⟩) lBm).trans hBm
  refine callsIn_of_wp Try.func40 rfl trivial ?_ rfl
  simp only [Try.ntmps40, List.size_toArray, List.length_cons, List.length_nil, Nat.reduceAdd, Nat.reduceSub, Array.replicate_succ, Array.replicate_zero, List.push_toArray, List.append_toArray, List.nil_append, List.cons_append]
  gi_wp2
  refine bodyPost_ret (results_none rfl _ _ _) rfl ?_
  exact ⟨⟨_, rfl⟩, h0⟩
theorem log_stops_nil {w : World} (Bm Bf : Nat) (n : Nat) (Foot : World → Nat → Prop) (hBm : w.cell? ⟨Bm, 0, none⟩ = some (.pointer none)) :
    SeqStopsK Fence.wide n Try.prog 40 #[.pointer (some ⟨Bm, 0, none⟩), .pointer (some ⟨Bf, 0, none⟩)] encItem (LogKp Foot) (fun xs => xs = []) (fun _ => False) 0 w :=
  fun l J Jx W hW _ _ _ h0 => log1_nil Bm Bf n Foot hBm l J Jx W hW h0

def LoggedNil (w : World) (e : Ending) (w' : World) : Prop :=
  ∃ on cn ol cl, e = .returned (.tuple #[.slice on 0 cn, .slice ol 0 cl, .bool true]) ∧ cn ≤ 9223372036854775807 ∧ cl ≤ 9223372036854775807 ∧ Below w.heap.size w w'

set_option maxRecDepth 100000 in
set_option maxHeartbeats 2000000 in
theorem loggednil_in {w : World} (fr most : Int) (n : Nat) (hn : 4 ≤ n) :
    CallsIn Fence.wide n Try.prog 21 #[.pointer none, .int .i64 fr, .int .i64 most] w (LoggedNil w) := by
  have h1 : 1 ≤ n := by omega
  refine callsIn_of_wp_marks Try.func21 rfl trivial ?_ rfl
  simp only [Try.ntmps21, List.size_toArray, List.length_cons, List.length_nil, Nat.reduceAdd, Nat.reduceSub, Array.replicate_succ, Array.replicate_zero, List.push_toArray, List.append_toArray, List.nil_append, List.cons_append]
  have hq := fun a b w => iter_nil a b w
  gi_wp2_with (refine ⟨trivial, ?_⟩; gi_at_call 28; refine (callsIn_wide.2 (log_any _ _ _)).mono ?_; rintro e w1 ⟨rfl, rfl⟩)
  obtain ⟨W0, hW0⟩ : ∃ W0, W0 = (((((w.alloc (.cells #[.int .i64 most] 3)).alloc (.cells #[.pointer none] 24)).alloc (.cells #[.int .i64 fr] 3)).alloc (.cells #[.slice none 0 0] 39)).alloc (.cells #[.slice none 0 0] 40)) := ⟨_, rfl⟩
  have hsz : W0.heap.size = w.heap.size + 1 + 1 + 1 + 1 + 1 := by rw [hW0]; simp
  have bm : Boxed W0 w.heap.size 3 (.int .i64 most) := by rw [hW0]; exact ((((Boxed.new _ _ _).alloc _).alloc _).alloc _).alloc _
  have bp : Boxed W0 (w.heap.size + 1) 24 (.pointer none) := by
    rw [hW0]; have := Boxed.new (w.alloc (.cells #[.int .i64 most] 3)) 24 (.pointer none); rw [World.size_alloc] at this; exact ((this.alloc _).alloc _).alloc _
  have bn : Boxed W0 (w.heap.size + 1 + 1 + 1) 39 (.slice none 0 0) := by
    rw [hW0]; have := Boxed.new (((w.alloc (.cells #[.int .i64 most] 3)).alloc (.cells #[.pointer none] 24)).alloc (.cells #[.int .i64 fr] 3)) 39 (.slice none 0 0); rw [World.size_alloc, World.size_alloc, World.size_alloc] at this; exact this.alloc _
  have bl : Boxed W0 (w.heap.size + 1 + 1 + 1 + 1) 40 (.slice none 0 0) := by
    rw [hW0]; have := Boxed.new ((((w.alloc (.cells #[.int .i64 most] 3)).alloc (.cells #[.pointer none] 24)).alloc (.cells #[.int .i64 fr] 3)).alloc (.cells #[.slice none 0 0] 39)) 40 (.slice none 0 0); rw [World.size_alloc, World.size_alloc, World.size_alloc, World.size_alloc] at this; exact this
  have hb0 : Below w.heap.size w W0 := by rw [hW0]; exact ((((((Below.refl _ w).alloc1 _).alloc1 _).alloc1 _).alloc1 _).alloc1 _)
  rw [← hW0]
  clear hW0
  have hI0 : LogI w W0.heap.size w.heap.size (w.heap.size + 1 + 1 + 1) (w.heap.size + 1 + 1 + 1 + 1) most [] W0 :=
    ⟨_, _, bn, bl, bm, World.RowV_none _ _ _ _ _, World.RowV_none _ _ _ _ _, by simp [Value.rowBlock], hb0, Nat.le_refl _, .inr rfl, by omega⟩
  refine wpIn_rangeFunc_ownH rfl h1 (gf := 40) (lb := #[.pointer (some ⟨w.heap.size + 1, 0, none⟩), .pointer (some ⟨w.heap.size + 1 + 1, 0, none⟩)]) rfl trivial (enters_of Try.func40 (by kernel_rfl) rfl)
    (log_stops_nil (w.heap.size + 1) (w.heap.size + 1 + 1) (n - 1) (LogFoot (w.heap.size + 1 + 1 + 1) (w.heap.size + 1 + 1 + 1 + 1)) bp.cell) LogKp.trans (fun W l o o' hl' ho hc _ => LogKp.putObj (by omega) (by omega) o o' ho hc) (Below.refl _ _) (fun _ => rfl)
    (LogI w W0.heap.size w.heap.size (w.heap.size + 1 + 1 + 1) (w.heap.size + 1 + 1 + 1 + 1) most)
    (fun _ _ _ => False)
    LogI.ownFrom (fun c ps W W' row h _ _ => h.elim) hI0
    (fun _ _ _ => True) (fun x a' => fun _ _ _ _ _ _ _ => trivial) ?assign ?body ?done ?stop
  case assign =>
    intro l pre x W K hI hK
    obtain ⟨vn, vl, hV⟩ := hI
    simp only [encItem]
    gi_wp2
    exact hK _ _ ((KeepsOthers.alloc _ _).from _) (LogKp.alloc hV.bn.lt hV.bl.lt _) ⟨vn, vl, hV.of_grown (World.grownBy_alloc _ _ none) (fun r e => by cases e)⟩ trivial
  case body =>
    rintro l pre x a' W hl' hr hI _ hlt
    omega
  case done =>
    rintro D xs W hD rfl hI hK
    obtain ⟨vn, vl, hV⟩ := hI
    obtain ⟨on, cn, rfl, f1, f2⟩ := hV.rn.form
    obtain ⟨ol, cl, rfl, f3, f4⟩ := hV.rl.form
    simp only [List.length_nil] at hV f1 f2 f3 f4
    obtain ⟨b1, b2, b3⟩ := boxF hV.bn
    obtain ⟨b4, b5, b6⟩ := boxF hV.bl
    have HL := Lib.hid (fun W2 (hg : W.grownBy W2 (some D)) => (hV.of_grown hg (fun r e => by cases e; exact ⟨hD, _, hK, rfl⟩)).hb)
    have HK := Lib.hid hK
    unfold maxLen at f2 f4
    clear hV hK hI0 bm bp bn bl hb0 hsz
    gi_wp2
    gi_region
    gi_wp2
    refine ⟨by simp, .inl ⟨_, _, rfl, run_takeDeferred HK.out, ?_⟩⟩
    exact ⟨.tuple #[.slice on 0 cn, .slice ol 0 cl, .bool true], by simp [results, Try.results21, go_sem], on, cn, ol, cl, rfl, by omega, by omega, HL.out _ (grown_drew_put W D _)⟩
  case stop =>
    rintro D c ps W hD hp hf hK
    exact hf.elim

theorem logged_nil {w : World} (fr most : Int) : Calls Try.prog 21 #[.pointer none, .int .i64 fr, .int .i64 most] w (LoggedNil w) :=
  callsIn_wide.1 (loggednil_in fr most 9 (by omega))
end Go.Proofs.Ytpmadfokpimjcaa
