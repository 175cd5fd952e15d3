/-
What a call of a script is told. Plain.
-/
import Derived.Test.YtpmadfokpimjcaaRefB
import Derived.Test.YtpmadfokpimjcaaBksP
import Derived.Test.YtpmadfokpimjcaaOneP
namespace Go.Proofs.Ytpmadfokpimjcaa
open Go.ChangeShapes Go.WideShapes Go.ChangeAt Go.RowKit

def i64s (l : List Int) : List Value := l.map (Value.int .i64)
/-- what a call answered -/
structure TellS where
  code : Int
  nums : List Int
  words : List Int
  log : List Acc
/-- an answer that lies in the heap from H on -/
def TellAt (H : Nat) (t : TellS) (e : Ending) (w' : World) : Prop :=
  ∃ vn vw vl, e = .returned (.agg #[.int .i64 t.code, vn, vw, vl]) ∧ w'.RowV H 3 1 vn t.nums.length (i64s t.nums) ∧ w'.RowV H 23 1 vw t.words.length (u64s t.words) ∧ w'.RowV H 45 7 vl t.log.length (accs t.log)

/-- the three blocks of ask and doc: the call, the answer to be, the answer -/
structure AskBox (w W : World) (a0 a1 a2 a3 a4 a5 b0 b1 b2 b3 c0 c1 c2 c3 : Value) : Prop where
  h0 : W.heap[w.heap.size]? = some (.cells #[a0, a1, a2, a3, a4, a5] 38 (0, 0))
  h1 : W.heap[w.heap.size + 1]? = some (.cells #[b0, b1, b2, b3] 68 (0, 0))
  h2 : W.heap[w.heap.size + 1 + 1]? = some (.cells #[c0, c1, c2, c3] 68 (0, 0))
section
variable {w W W' : World} {a0 a1 a2 a3 a4 a5 b0 b1 b2 b3 c0 c1 c2 c3 : Value}
theorem AskBox.start (w : World) (a0 a1 a2 a3 a4 a5 b0 b1 b2 b3 c0 c1 c2 c3 : Value) :
    AskBox w (((w.alloc (.cells #[a0, a1, a2, a3, a4, a5] 38)).alloc (.cells #[b0, b1, b2, b3] 68)).alloc (.cells #[c0, c1, c2, c3] 68)) a0 a1 a2 a3 a4 a5 b0 b1 b2 b3 c0 c1 c2 c3 := by
  have e0 := heap_alloc_new w (.cells #[a0, a1, a2, a3, a4, a5] 38)
  have e1 := heap_alloc_new (w.alloc (.cells #[a0, a1, a2, a3, a4, a5] 38)) (.cells #[b0, b1, b2, b3] 68)
  have e2 := heap_alloc_new ((w.alloc (.cells #[a0, a1, a2, a3, a4, a5] 38)).alloc (.cells #[b0, b1, b2, b3] 68)) (.cells #[c0, c1, c2, c3] 68)
  simp only [World.size_alloc] at e1 e2
  refine ⟨?_, ?_, e2⟩
  · rw [Below.heap_alloc _ _ _ (by simp; omega), Below.heap_alloc _ _ _ (by simp)]
    exact e0
  · rw [Below.heap_alloc _ _ _ (by simp)]
    exact e1
theorem AskBox.only {F : Nat → Prop} (h : AskBox w W a0 a1 a2 a3 a4 a5 b0 b1 b2 b3 c0 c1 c2 c3) (ho : Only F W W') (hF : ∀ k, F k → k < w.heap.size) : AskBox w W' a0 a1 a2 a3 a4 a5 b0 b1 b2 b3 c0 c1 c2 c3 :=
  ⟨box_only h.h0 ho (fun hx => by have := hF _ hx; omega), box_only h.h1 ho (fun hx => by have := hF _ hx; omega), box_only h.h2 ho (fun hx => by have := hF _ hx; omega)⟩
theorem AskBox.cells (h : AskBox w W a0 a1 a2 a3 a4 a5 b0 b1 b2 b3 c0 c1 c2 c3) :
    (W.cell? ⟨w.heap.size, 0, none⟩ = some a0 ∧ W.cell? ⟨w.heap.size, 1, none⟩ = some a1 ∧ W.cell? ⟨w.heap.size, 2, none⟩ = some a2 ∧ W.cell? ⟨w.heap.size, 3, none⟩ = some a3 ∧ W.cell? ⟨w.heap.size, 4, none⟩ = some a4 ∧ W.cell? ⟨w.heap.size, 5, none⟩ = some a5) ∧
    (W.cell? ⟨w.heap.size + 1, 0, none⟩ = some b0 ∧ W.cell? ⟨w.heap.size + 1, 1, none⟩ = some b1 ∧ W.cell? ⟨w.heap.size + 1, 2, none⟩ = some b2 ∧ W.cell? ⟨w.heap.size + 1, 3, none⟩ = some b3) ∧
    (W.cell? ⟨w.heap.size + 1 + 1, 0, none⟩ = some c0 ∧ W.cell? ⟨w.heap.size + 1 + 1, 1, none⟩ = some c1 ∧ W.cell? ⟨w.heap.size + 1 + 1, 2, none⟩ = some c2 ∧ W.cell? ⟨w.heap.size + 1 + 1, 3, none⟩ = some c3) ∧
    (∀ j, W.frozen? ⟨w.heap.size + 1, j, none⟩ = false) ∧ (∀ j, W.frozen? ⟨w.heap.size + 1 + 1, j, none⟩ = false) ∧ w.heap.size + 1 + 1 < W.heap.size :=
  ⟨⟨by simp [World.cell?, h.h0], by simp [World.cell?, h.h0], by simp [World.cell?, h.h0], by simp [World.cell?, h.h0], by simp [World.cell?, h.h0], by simp [World.cell?, h.h0]⟩,
   ⟨by simp [World.cell?, h.h1], by simp [World.cell?, h.h1], by simp [World.cell?, h.h1], by simp [World.cell?, h.h1]⟩,
   ⟨by simp [World.cell?, h.h2], by simp [World.cell?, h.h2], by simp [World.cell?, h.h2], by simp [World.cell?, h.h2]⟩,
   fun j => by simp [World.frozen?, h.h1], fun j => by simp [World.frozen?, h.h2], (Array.getElem?_eq_some_iff.1 h.h2).1⟩
end

def AskF (w : World) (k : Nat) : Prop := k = w.heap.size + 1 ∨ k = w.heap.size + 1 + 1
/-- the world of ask and doc once their three blocks are made -/
def askW (w : World) (a0 a1 a2 a3 a4 a5 : Value) : World :=
  ((w.alloc (.cells #[a0, a1, a2, a3, a4, a5] 38)).alloc (.cells #[.int .i64 0, .slice none 0 0, .slice none 0 0, .slice none 0 0] 68)).alloc (.cells #[.int .i64 0, .slice none 0 0, .slice none 0 0, .slice none 0 0] 68)
section
variable {w w1 wf : World} {base mb : Nat} {st st' : MemS} {v : MemV} {a0 a1 a2 a3 a4 a5 : Value}
theorem askW_size : (askW w a0 a1 a2 a3 a4 a5).heap.size = w.heap.size + 1 + 1 + 1 := by simp [askW]
theorem askW_only (F : Nat → Prop) : Only F w (askW w a0 a1 a2 a3 a4 a5) := (((Only.refl _ _).alloc _).alloc _).alloc _
theorem askW_mem (h : MemAt w base mb st v) : MemAt (askW w a0 a1 a2 a3 a4 a5) base mb st v := ((h.alloc _).alloc _).alloc _
theorem ask_fin (h : MemAt w base mb st v) (k : MemOut (askW w a0 a1 a2 a3 a4 a5) base mb v st' w1) (hf : Only (AskF w) w1 wf) : MemOut w base mb v st' wf := by
  obtain ⟨v1, k1, k2, k3⟩ := k
  have hs := askW_size (w := w) (a0 := a0) (a1 := a1) (a2 := a2) (a3 := a3) (a4 := a4) (a5 := a5)
  refine ⟨v1, k1.only hf (fun i hi hF => ?_), ?_, fun i hi => ?_⟩
  · have h2 := k3 i hi
    rw [hs] at h2
    rcases h2 with h3 | h3
    · have := (h.lt i h3).2
      rcases hF with hF | hF <;> omega
    · rcases hF with hF | hF <;> omega
  · exact ((askW_only (v.own mb)).trans k2 (fun i hi => .inl hi)).trans hf (fun i hi => .inr (by rcases hi with hi | hi <;> omega))
  · rcases k3 i hi with h3 | h3
    · exact .inl h3
    · rw [hs] at h3
      exact .inr (by omega)
theorem ask_row {B e size n : Nat} {u : Value} {xs : List Value} (h : w1.RowV B e size u n xs) (hf : Only (AskF w) w1 wf) (hB : w.heap.size + 1 + 1 + 1 ≤ B) : wf.RowV w.heap.size e size u n xs :=
  (h.of_block fun k hk => hf.block k (h.lt k hk).2 (fun hF => by have := (h.lt k hk).1; rcases hF with hF | hF <;> omega)).base_mono (by omega)
theorem mem_same (h : MemAt w base mb st v) : MemOut w base mb v st w := ⟨v, h, Only.refl _ _, fun _ hk => .inl hk⟩
theorem mem_below (h : MemAt w base mb st v) (hb : Below w.heap.size w w1) : MemOut w base mb v st w1 :=
  ⟨v, h.of_block fun k hk => hb.block k (h.lt k hk).2, Only.of_below hb, fun _ hk => .inl hk⟩
end
theorem askF1 {w a b : World} (h : Only (AskF w) a b) (j : Nat) (u : Value) : Only (AskF w) a (b.setCell ⟨w.heap.size + 1, j, none⟩ u) := h.set (p := ⟨w.heap.size + 1, j, none⟩) (.inl (.inl rfl)) u
theorem askF2 {w a b : World} (h : Only (AskF w) a b) (j : Nat) (u : Value) : Only (AskF w) a (b.setCell ⟨w.heap.size + 1 + 1, j, none⟩ u) := h.set (p := ⟨w.heap.size + 1 + 1, j, none⟩) (.inl (.inr rfl)) u
end Go.Proofs.Ytpmadfokpimjcaa
