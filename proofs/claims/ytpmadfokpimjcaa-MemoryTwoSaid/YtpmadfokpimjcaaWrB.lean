/-
memory.Writer: the last write of a word.
-/
import Derived.Test.YtpmadfokpimjcaaWrP
import Derived.Maps.OwnIn
namespace Go.Proofs.Ytpmadfokpimjcaa
open Go.ChangeShapes Go.WideShapes Go.ChangeAt Go.RowKit Go.Shelf

theorem writer_bad {w : World} {base mb : Nat} {st : MemS} {v : MemV} (h : MemAt w base mb st v) (a : Int) (ha : a < 0 ∨ (st.words.length : Int) ≤ a) :
    Calls Try.prog 27 #[.pointer (some ⟨mb, 0, none⟩), .int .i64 a] w fun e w' => e = .returned (.tuple #[.int .i64 0, .int .i64 0, .int .i64 20]) ∧ Below w.heap.size w w' := by
  have hB : MemAt (w.alloc (.cells #[.int .i64 a] 3)) base mb st v := h.alloc _
  have HH := Lib.hid (has_no hB a ha)
  clear hB ha h
  go_enter Try.func27, Try.ntmps27
  go_wp2_with (go_at_call 38; refine HH.out.mono ?_; rintro e w1 ⟨rfl, rfl⟩)
  exact bodyPost_ret (v := .tuple #[.int .i64 0, .int .i64 0, .int .i64 20]) (by simp [results, Try.results27, go_sem]) rfl ⟨rfl, (by repeat (first | exact Below.refl _ _ | apply Below.drew | apply Below.more1 | apply Below.alloc1))⟩

attribute [local go_sem] Oper.semAt_some

def Wrote (w : World) (log : List Acc) (a : Int) (e : Ending) (w' : World) : Prop :=
  e = .returned (.tuple #[.int .i64 (lastW a (items log 0 log.length)).1, .int .i64 (lastW a (items log 0 log.length)).2, .int .i64 0]) ∧ Below w.heap.size w w'

theorem iter_nilW (a b : Value) (w : World) : (binOp BinOp.eql 57 (.func (.func 40) #[] #[a, b]) Value.nilFunc).run Try.prog w = .ok (.bool false) w := by
  kernel_rfl

/-- the frame and the box of a round of Writer -/
def WrAx (w : World) (mb : Nat) (j : Int) (x : Nat × Acc) (a' : Act) (W : World) : Prop :=
  ∃ Bx, W.heap[Bx]? = some (.cells #[.int .i64 x.2.mv, .int .i64 x.2.th, .int .i64 x.2.kd, .int .i64 x.2.ad, .int .u64 x.2.old, .int .u64 x.2.nw, .int .u64 x.2.saw] 45 (0, 0)) ∧ a' = { tmps := #[.pointer (some ⟨mb, 0, none⟩), .int .i64 j, undef, .pointer (some ⟨w.heap.size, 0, none⟩), .int .i64 0, .int .i64 0, .int .i64 0, .pointer (some ⟨w.heap.size + 1, 0, none⟩), .pointer (some ⟨w.heap.size + 1 + 1, 0, none⟩), .int .i64 (x.1 : Int), .pointer (some ⟨Bx, 0, none⟩), undef, .pointer (some ⟨mb, 0, none⟩), .int .i64 j, .bool true, .bool false, .pointer (some ⟨mb, 0, none⟩), .func (.func 40) #[] #[.pointer (some ⟨w.heap.size + 1 + 1 + 1, 0, none⟩), .pointer (some ⟨w.heap.size + 1 + 1 + 1 + 1, 0, none⟩)], .int .i64 (x.1 : Int), .agg #[.int .i64 x.2.mv, .int .i64 x.2.th, .int .i64 x.2.kd, .int .i64 x.2.ad, .int .u64 x.2.old, .int .u64 x.2.nw, .int .u64 x.2.saw], undef, undef, undef, undef, undef, undef, undef, undef, undef, undef, undef, undef, undef, undef, undef, undef, undef, undef, undef, undef, undef, undef, undef, undef, undef, undef, undef], defers := [] }
theorem WrAx.ownFrom (w : World) (mb : Nat) (j : Int) (x : Nat × Acc) (a' : Act) (H : Nat) : OwnFrom H (fun (_ : Unit) W => WrAx w mb j x a' W) := by
  rintro _ W W' row ⟨Bx, h1, h2⟩ hg hr
  refine ⟨Bx, ?_, h2⟩
  rw [hg.block Bx (Array.getElem?_eq_some_iff.1 h1).1 (fun e => ?_)]
  · exact h1
  · obtain ⟨_, o, ho, hc⟩ := hr Bx e.symm
    rw [h1] at ho
    cases ho
    cases hc

set_option maxRecDepth 100000 in
set_option maxHeartbeats 2000000 in
theorem writer_in {w : World} {base mb : Nat} {st : MemS} {v : MemV} (h : MemAt w base mb st v) (hl : st.log.length ≤ 3000000000000) (j : Nat) (hj : j < st.words.length) (n : Nat) (hn : 4 ≤ n) :
    CallsIn Fence.wide n Try.prog 27 #[.pointer (some ⟨mb, 0, none⟩), .int .i64 (j : Int)] w (Wrote w st.log j) := by
  have h1 : 1 ≤ n := by omega
  have hB : MemAt (w.alloc (.cells #[.int .i64 (j : Int)] 3)) base mb st v := h.alloc _
  have HH := Lib.hid (has_yes hB j hj)
  have HM := Lib.hid h
  clear hB hj h
  refine callsIn_of_wp_marks Try.func27 rfl trivial ?_ rfl
  simp only [Try.ntmps27, List.size_toArray, List.length_cons, List.length_nil, Nat.reduceAdd, Nat.reduceSub, Array.replicate_succ, Array.replicate_zero, List.push_toArray, List.append_toArray, List.nil_append, List.cons_append]
  have hq := fun a b w => iter_nilW a b w
  gi_wp2_with (first
    | (refine ⟨trivial, ?_⟩; gi_at_call 38; refine (callsIn_wide.2 HH.out).mono ?_; rintro e w1 ⟨rfl, rfl⟩)
    | (refine ⟨trivial, ?_⟩; gi_at_call 28; refine (callsIn_wide.2 (log_any _ _ _)).mono ?_; rintro e w1 ⟨rfl, rfl⟩))
  have hM : MemAt (((((w.alloc (.cells #[.int .i64 (j : Int)] 3)).alloc (.cells #[.int .i64 (-1)] 3)).alloc (.cells #[.int .i64 (-1)] 3)).alloc (.cells #[.pointer (some ⟨mb, 0, none⟩)] 24)).alloc (.cells #[.int .i64 0] 3)) base mb st v :=
    ((((HM.out.alloc _).alloc _).alloc _).alloc _).alloc _
  obtain ⟨W0, hW0⟩ : ∃ W0, W0 = (((((w.alloc (.cells #[.int .i64 (j : Int)] 3)).alloc (.cells #[.int .i64 (-1)] 3)).alloc (.cells #[.int .i64 (-1)] 3)).alloc (.cells #[.pointer (some ⟨mb, 0, none⟩)] 24)).alloc (.cells #[.int .i64 0] 3)) := ⟨_, rfl⟩
  have hsz : W0.heap.size = w.heap.size + 1 + 1 + 1 + 1 + 1 := by rw [hW0]; simp
  have ba : Boxed W0 w.heap.size 3 (.int .i64 (j : Int)) := by rw [hW0]; exact ((((Boxed.new _ _ _).alloc _).alloc _).alloc _).alloc _
  have bt : Boxed W0 (w.heap.size + 1) 3 (.int .i64 (-1)) := by
    rw [hW0]; have := Boxed.new (w.alloc (.cells #[.int .i64 (j : Int)] 3)) 3 (.int .i64 (-1)); rw [World.size_alloc] at this; exact ((this.alloc _).alloc _).alloc _
  have bn : Boxed W0 (w.heap.size + 1 + 1) 3 (.int .i64 (-1)) := by
    rw [hW0]; have := Boxed.new ((w.alloc (.cells #[.int .i64 (j : Int)] 3)).alloc (.cells #[.int .i64 (-1)] 3)) 3 (.int .i64 (-1)); rw [World.size_alloc, World.size_alloc] at this; exact (this.alloc _).alloc _
  have bp : Boxed W0 (w.heap.size + 1 + 1 + 1) 24 (.pointer (some ⟨mb, 0, none⟩)) := by
    rw [hW0]; have := Boxed.new (((w.alloc (.cells #[.int .i64 (j : Int)] 3)).alloc (.cells #[.int .i64 (-1)] 3)).alloc (.cells #[.int .i64 (-1)] 3)) 24 (.pointer (some ⟨mb, 0, none⟩)); rw [World.size_alloc, World.size_alloc, World.size_alloc] at this; exact this.alloc _
  have bf : Boxed W0 (w.heap.size + 1 + 1 + 1 + 1) 3 (.int .i64 0) := by
    rw [hW0]; have := Boxed.new ((((w.alloc (.cells #[.int .i64 (j : Int)] 3)).alloc (.cells #[.int .i64 (-1)] 3)).alloc (.cells #[.int .i64 (-1)] 3)).alloc (.cells #[.pointer (some ⟨mb, 0, none⟩)] 24)) 3 (.int .i64 0); rw [World.size_alloc, World.size_alloc, World.size_alloc, World.size_alloc] at this; exact this
  have hb0 : Below w.heap.size w W0 := by rw [hW0]; exact ((((((Below.refl _ w).alloc1 _).alloc1 _).alloc1 _).alloc1 _).alloc1 _)
  rw [← hW0] at hM ⊢
  clear hW0 HH HM
  have hF : ∀ W, Below W0.heap.size W0 W → ∀ k, WrFoot (w.heap.size + 1) (w.heap.size + 1 + 1) W k → k < W0.heap.size := by
    rintro W hW k (hk | hk) <;> omega
  have hI0 : WrI w W0.heap.size w.heap.size (w.heap.size + 1) (w.heap.size + 1 + 1) j [] W0 :=
    ⟨ba, bt, bn, hb0, Nat.le_refl _, by omega⟩
  refine wpIn_rangeFunc_ownH rfl h1 (gf := 40) (lb := #[.pointer (some ⟨w.heap.size + 1 + 1 + 1, 0, none⟩), .pointer (some ⟨w.heap.size + 1 + 1 + 1 + 1, 0, none⟩)]) rfl trivial (enters_of Try.func40 (by kernel_rfl) rfl)
    (log_stops hM hl (w.heap.size + 1 + 1 + 1) (w.heap.size + 1 + 1 + 1 + 1) 0 0 (.inl rfl) (n - 1) (by omega) (WrFoot (w.heap.size + 1) (w.heap.size + 1 + 1)) hF bp.cell bf.cell) LogKp.trans (fun W l o o' _ ho hc _ => WrKp.putObj o o' ho hc) (Below.refl _ _) (fun _ => rfl)
    (WrI w W0.heap.size w.heap.size (w.heap.size + 1) (w.heap.size + 1 + 1) j)
    (fun _ _ _ => False)
    WrI.ownFrom (fun c ps W W' row h _ _ => h.elim) hI0
    (WrAx w mb j) (fun x a' => WrAx.ownFrom _ _ _ _ _ _) ?assign ?body ?done ?stop
  case assign =>
    intro l pre x W K hI hK
    simp only [encItem]
    gi_wp2
    exact hK _ _ ((KeepsOthers.alloc _ _).from _) (WrKp.alloc _ _) (hI.of_grown (World.grownBy_alloc _ _ none) (fun r e => by cases e)) ⟨W.heap.size, heap_alloc_new W _, rfl⟩
  case body =>
    rintro l pre x a' W hl' hr hI ⟨Bx, hB, rfl⟩ hlt
    obtain ⟨z0, z1, z2, z3, z4, z5, z6⟩ := boxA hB
    obtain ⟨b1, b2, b3⟩ := boxF hI.ba
    obtain ⟨b4, b5, b6⟩ := boxF hI.bt
    obtain ⟨b7, b8, b9⟩ := boxF hI.bn
    have HI := Lib.hid hI
    clear hI hr hM hI0 hF bp ba bf bn bt hb0 hB hsz
    obtain ⟨i, mv, th, kd, ad, old, nw, saw⟩ := x
    simp only at z0 z1 z2 z3 z4 z5 z6
    have hne1 : w.heap.size + 1 ≠ w.heap.size + 1 + 1 := by omega
    have hne2 : w.heap.size + 1 + 1 ≠ w.heap.size + 1 := by omega
    by_cases h2 : kd = 2
    · subst h2
      have HA := Lib.hid (show accWr ⟨mv, th, 2, ad, old, nw, saw⟩ = true by simp [accWr])
      by_cases ha : ad = (j : Int)
      · subst ha
        gi_wp2
        exact ⟨HI.out.keepsPut _ _, WrKp.put _ _ _, HI.out.put (x := (i, _)) ⟨rfl, HA.out⟩⟩
      · have hq : (ad == (j : Int)) = false := by simpa using ha
        have HN := Lib.hid ha
        clear ha
        gi_wp2
        exact ⟨KeepsFrom.refl _ _, WrKp.refl _, HI.out.skip (x := (i, _)) (fun e => HN.out e.1)⟩
    · have hq2 : (kd == 2) = false := by simpa using h2
      have H2 := Lib.hid h2
      clear h2
      by_cases h3 : kd = 3
      · subst h3
        by_cases hs : saw = old
        · subst hs
          have HA := Lib.hid (show accWr ⟨mv, th, 3, ad, saw, nw, saw⟩ = true by simp [accWr])
          by_cases ha : ad = (j : Int)
          · subst ha
            gi_wp2
            exact ⟨HI.out.keepsPut _ _, WrKp.put _ _ _, HI.out.put (x := (i, _)) ⟨rfl, HA.out⟩⟩
          · have hq : (ad == (j : Int)) = false := by simpa using ha
            have HN := Lib.hid ha
            clear ha
            gi_wp2
            exact ⟨KeepsFrom.refl _ _, WrKp.refl _, HI.out.skip (x := (i, _)) (fun e => HN.out e.1)⟩
        · have hq3 : (saw == old) = false := by simpa using hs
          have HA := Lib.hid (show accWr ⟨mv, th, 3, ad, old, nw, saw⟩ = false by simp [accWr, hs])
          clear hs
          by_cases ha : ad = (j : Int)
          · subst ha
            gi_wp2
            exact ⟨KeepsFrom.refl _ _, WrKp.refl _, HI.out.skip (x := (i, _)) (fun e => by rw [HA.out] at e; exact Bool.noConfusion e.2)⟩
          · have hq : (ad == (j : Int)) = false := by simpa using ha
            clear ha
            gi_wp2
            exact ⟨KeepsFrom.refl _ _, WrKp.refl _, HI.out.skip (x := (i, _)) (fun e => by rw [HA.out] at e; exact Bool.noConfusion e.2)⟩
      · have hq3 : (kd == 3) = false := by simpa using h3
        have HA := Lib.hid (show accWr ⟨mv, th, kd, ad, old, nw, saw⟩ = false by simp [accWr, h3, H2.out])
        clear h3
        by_cases ha : ad = (j : Int)
        · subst ha
          gi_wp2
          exact ⟨KeepsFrom.refl _ _, WrKp.refl _, HI.out.skip (x := (i, _)) (fun e => by rw [HA.out] at e; exact Bool.noConfusion e.2)⟩
        · have hq : (ad == (j : Int)) = false := by simpa using ha
          clear ha
          gi_wp2
          exact ⟨KeepsFrom.refl _ _, WrKp.refl _, HI.out.skip (x := (i, _)) (fun e => by rw [HA.out] at e; exact Bool.noConfusion e.2)⟩
  case done =>
    rintro D xs W hD rfl hI hK
    obtain ⟨b4, b5, b6⟩ := boxF hI.bt
    obtain ⟨b7, b8, b9⟩ := boxF hI.bn
    have HL := Lib.hid (fun W2 (hg : W.grownBy W2 (some D)) => (hI.of_grown hg (fun r e => by cases e; exact hD)).hb)
    have HK := Lib.hid hK
    clear hI hK hM hI0 hF bp ba bf bn bt hb0 hsz
    gi_wp2
    gi_region
    gi_wp2
    refine ⟨by simp, .inl ⟨_, _, rfl, run_takeDeferred HK.out, ?_⟩⟩
    exact ⟨.tuple #[.int .i64 _, .int .i64 _, .int .i64 0], by simp [results, Try.results27, go_sem], rfl, HL.out _ (grown_drew_put W D _)⟩
  case stop =>
    rintro D c ps W hD hp hf hK
    exact hf.elim

theorem writer_any {w : World} {base mb : Nat} {st : MemS} {v : MemV} (h : MemAt w base mb st v) (hl : st.log.length ≤ 3000000000000) (j : Nat) (hj : j < st.words.length) :
    Calls Try.prog 27 #[.pointer (some ⟨mb, 0, none⟩), .int .i64 (j : Int)] w (Wrote w st.log j) :=
  callsIn_wide.1 (writer_in h hl j hj 9 (by omega))
end Go.Proofs.Ytpmadfokpimjcaa
