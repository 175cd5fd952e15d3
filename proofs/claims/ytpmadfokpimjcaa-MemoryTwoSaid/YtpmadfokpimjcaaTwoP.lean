/-
Two pairs of memories, in turns. Plain.
-/
import Derived.Test.YtpmadfokpimjcaaPly
namespace Go.Proofs.Ytpmadfokpimjcaa
open Go.ChangeShapes Go.WideShapes Go.ChangeAt Go.RowKit

/-- two pairs, all four apart; what the first pair's document owns lies below S -/
structure QuadM (w : World) (mb rb : Nat) (l : List Int) (sm sr : MemS) (nb qb : Nat) (k : List Int) (sn sq : MemS) (S : Nat) (W : World) : Prop where
  m : ∃ vm vr vn vq, MemAt W w.heap.size mb sm vm ∧ RefAt W w.heap.size rb l sr vr ∧ MemAt W w.heap.size nb sn vn ∧ RefAt W w.heap.size qb k sq vq ∧
    (∀ i, vm.own mb i → ¬ vr.own rb i) ∧ (∀ i, vm.own mb i → ¬ vn.own nb i) ∧ (∀ i, vm.own mb i → ¬ vq.own qb i) ∧ (∀ i, vr.own rb i → ¬ vn.own nb i) ∧ (∀ i, vr.own rb i → ¬ vq.own qb i) ∧ (∀ i, vn.own nb i → ¬ vq.own qb i) ∧
    ∀ i, vr.own rb i → i < S
  hb : Below w.heap.size w W
section
variable {w W W' : World} {mb rb nb qb S : Nat} {l k : List Int} {st sm sr sn sq : MemS}
theorem QuadM.below (h : QuadM w mb rb l sm sr nb qb k sn sq S W) (hb : Below W.heap.size W W') : QuadM w mb rb l sm sr nb qb k sn sq S W' := by
  obtain ⟨vm, vr, vn, vq, h1, h2, h3, h4, d⟩ := h.m
  exact ⟨⟨vm, vr, vn, vq, h1.of_block fun i hi => hb.block i (h1.lt i hi).2, h2.of_block fun i hi => hb.block i (h2.lt i hi).2, h3.of_block fun i hi => hb.block i (h3.lt i hi).2, h4.of_block fun i hi => hb.block i (h4.lt i hi).2, d⟩, h.hb.trans (hb.mono h.hb.size)⟩
theorem QuadM.drew (h : QuadM w mb rb l sm sr nb qb k sn sq S W) : QuadM w mb rb l sm sr nb qb k sn sq S W.drew := h.below (Below.refl _ _).drew
theorem QuadM.swap (h : QuadM w mb rb l sm sr nb qb k sn sq S W) : QuadM w nb qb k sn sq mb rb l sm sr W.heap.size W := by
  obtain ⟨vm, vr, vn, vq, h1, h2, h3, h4, d1, d2, d3, d4, d5, d6, _⟩ := h.m
  exact ⟨⟨vn, vq, vm, vr, h3, h4, h1, h2, d6, fun i a b => d2 i b a, fun i a b => d4 i b a, fun i a b => d3 i b a, fun i a b => d5 i b a, d1, fun i hi => (h4.lt i hi).2⟩, h.hb⟩
theorem qm_ask (h : QuadM w mb rb l st st nb qb k sn sq S W) (hg : Good2 l st) (hl1 : st.log.length ≤ 2999999999999) (hn : l.length ≤ 8192) (kd t a n old x : Int) :
    Calls Try.prog 33 #[.pointer (some ⟨mb, 0, none⟩), .agg #[.int .i64 kd, .int .i64 t, .int .i64 a, .int .i64 n, .int .u64 old, .int .u64 x]] W fun e w' =>
    TellAt W.heap.size (tellF st ⟨kd, t, a, n, old, x⟩) e w' ∧ QuadM w mb rb l (nextF st ⟨kd, t, a, n, old, x⟩) st nb qb k sn sq W.heap.size w' := by
  obtain ⟨vm, vr, vn, vq, h1, h2, h3, h4, d1, d2, d3, d4, d5, d6, _⟩ := h.m
  refine (ask_all h1 hg hl1 (by rw [hg.toGood.len]; omega) kd t a n old x).mono ?_
  rintro e w' ⟨ht, v', k1, k2, k3⟩
  refine ⟨ht, ⟨v', vr, vn, vq, k1, h2.of_block fun i hi => k2.block i (h2.lt i hi).2 (fun hx => d1 i hx hi), h3.of_block fun i hi => k2.block i (h3.lt i hi).2 (fun hx => d2 i hx hi), h4.of_block fun i hi => k2.block i (h4.lt i hi).2 (fun hx => d3 i hx hi),
    fun i hi hj => ?_, fun i hi hj => ?_, fun i hi hj => ?_, d4, d5, d6, fun i hi => (h2.lt i hi).2⟩, h.hb.trans (k2.below (fun i hi => (h1.lt i hi).1) h.hb.size)⟩
  · rcases k3 i hi with h5 | h5
    · exact d1 i h5 hj
    · have := (h2.lt i hj).2; omega
  · rcases k3 i hi with h5 | h5
    · exact d2 i h5 hj
    · have := (h3.lt i hj).2; omega
  · rcases k3 i hi with h5 | h5
    · exact d3 i h5 hj
    · have := (h4.lt i hj).2; omega
theorem qm_doc {nx : MemS} (h : QuadM w mb rb l nx st nb qb k sn sq S W) (hg : Good2 l st) (hl1 : st.log.length ≤ 2999999999999) (hn : l.length ≤ 8192) (kd t a n old x : Int) (hx : nx = nextF st ⟨kd, t, a, n, old, x⟩) :
    Calls Try.prog 34 #[.pointer (some ⟨rb, 0, none⟩), .agg #[.int .i64 kd, .int .i64 t, .int .i64 a, .int .i64 n, .int .u64 old, .int .u64 x]] W fun e w' =>
    TellAt W.heap.size (tellF st ⟨kd, t, a, n, old, x⟩) e w' ∧ QuadM w mb rb l (nextF st ⟨kd, t, a, n, old, x⟩) (nextF st ⟨kd, t, a, n, old, x⟩) nb qb k sn sq w'.heap.size w' ∧ Only (fun i => i < S) W w' := by
  subst hx
  obtain ⟨vm, vr, vn, vq, h1, h2, h3, h4, d1, d2, d3, d4, d5, d6, d7⟩ := h.m
  refine (doc_all h2 hg hl1 (by omega) kd t a n old x).mono ?_
  rintro e w' ⟨ht, v', k1, k2, k3⟩
  refine ⟨ht, ⟨⟨vm, v', vn, vq, h1.of_block fun i hi => k2.block i (h1.lt i hi).2 (fun hx => d1 i hi hx), k1, h3.of_block fun i hi => k2.block i (h3.lt i hi).2 (fun hx => d4 i hx hi), h4.of_block fun i hi => k2.block i (h4.lt i hi).2 (fun hx => d5 i hx hi),
    fun i hi hj => ?_, d2, d3, fun i hi hj => ?_, fun i hi hj => ?_, d6, fun i hi => (k1.lt i hi).2⟩, h.hb.trans (k2.below (fun i hi => (h2.lt i hi).1) h.hb.size)⟩, k2.mono (fun i _ hi => d7 i hi)⟩
  · rcases k3 i hj with h5 | h5
    · exact d1 i hi h5
    · have := (h1.lt i hi).2; omega
  · rcases k3 i hi with h5 | h5
    · exact d4 i h5 hj
    · have := (h3.lt i hj).2; omega
  · rcases k3 i hi with h5 | h5
    · exact d5 i h5 hj
    · have := (h4.lt i hj).2; omega
end
end Go.Proofs.Ytpmadfokpimjcaa
