/-
Rows for MemoryFresh. Plain.
-/
import Derived.Test.YtpmadfokpimjcaaBeh
namespace Go
open Go.RowKit
section
variable {w w' : World} {base : Nat} {e : TypeId} {size : Nat}
/-- s[:c] -/
theorem World.RowV.shorter {o : Option Addr} {n cap : Nat} {xs : List Value} (h : w.RowV base e size (.slice o n cap) n xs) {c : Nat} (hc : c ≤ n) : w.RowV base e size (.slice o c cap) c (xs.take (c * size)) := by
  have hle := Nat.mul_le_mul_right size hc
  refine ⟨by rw [List.length_take, h.1]; omega, ?_⟩
  rcases h.2 with ⟨o', e', rfl⟩ | ⟨g, cap', cur, e', hb, hgg, hn, hcp, hm, hs, ht⟩
  · cases e'
    obtain rfl : c = 0 := by omega
    exact .inl ⟨o, rfl, rfl⟩
  · cases e'
    exact .inr ⟨g, cap, cur, rfl, hb, hgg, by omega, hcp, hm, hs, by rw [← ht, List.take_take, Nat.min_eq_left hle]⟩
end
/-- the words that were handed in, k of them counted up -/
structure Giv (l : List Int) (k : Nat) (xs : List Int) : Prop where
  len : xs.length = l.length + 1
  last : xs.getD l.length 0 = 77
  new : ∀ i, i < k → i < l.length → xs.getD i 0 = IntKind.u64.wrap (l.getD i 0 + 1)
  old : ∀ i, k ≤ i → i < l.length → xs.getD i 0 = l.getD i 0
theorem Giv.start (l : List Int) : Giv l 0 (l ++ [77]) := by
  refine ⟨by simp, by simp, fun i hi => by omega, fun i _ hi => ?_⟩
  simp [List.getD, List.getElem?_append_left hi]
theorem Giv.step {l xs : List Int} {k : Nat} (h : Giv l k xs) (hk : k < l.length) : Giv l (k + 1) (xs.set k (IntKind.u64.wrap (xs.getD k 0 + 1))) := by
  have hl := h.len
  refine ⟨by simp [hl], ?_, fun i hi hil => ?_, fun i hi hil => ?_⟩
  · rw [← h.last]
    simp [List.getD, show k ≠ l.length by omega]
  · by_cases e : k = i
    · subst e
      rw [h.old k (Nat.le_refl _) hk]
      simp [List.getD, show k < xs.length by omega]
    · rw [← h.new i (by omega) hil]
      simp [List.getD, e]
  · rw [← h.old i (by omega) hil]
    simp [List.getD, show k ≠ i by omega]
/-- k elements written over -/
def fillL (p : Int) (k : Nat) (ws : List Int) : List Int := List.replicate k p ++ ws.drop k
theorem fillL_len (p : Int) (k : Nat) (ws : List Int) (h : k ≤ ws.length) : (fillL p k ws).length = ws.length := by simp [fillL]; omega
theorem fillL_step (p : Int) (k : Nat) (ws : List Int) (h : k < ws.length) : (fillL p k ws).set k p = fillL p (k + 1) ws := by
  unfold fillL
  rw [List.set_append_right _ _ (by simp), List.length_replicate, Nat.sub_self, List.drop_eq_getElem_cons h, List.set_cons_zero, List.replicate_succ', List.append_assoc]
  rfl
theorem fillL_all (p : Int) (ws : List Int) : fillL p ws.length ws = List.replicate ws.length p := by simp [fillL]

/-- two rows and what has been put behind each -/
structure TwoRow (W : World) (T H n : Nat) (va vb vx vy : Value) (p q s t : Int) (i j : Nat) : Prop where
  a : W.RowV H T 1 va n (u64s (List.replicate n p))
  b : W.RowV H T 1 vb n (u64s (List.replicate n q))
  x : W.RowV H T 1 vx (n + i) (u64s (List.replicate n p ++ List.replicate i s))
  y : W.RowV H T 1 vy (n + j) (u64s (List.replicate n q ++ List.replicate j t))
  ax : (∃ o c, va = .slice o n c ∧ vx = .slice o (n + i) c) ∨ ∀ k, va.rowBlock = some k → vx.rowBlock ≠ some k
  by' : (∃ o c, vb = .slice o n c ∧ vy = .slice o (n + j) c) ∨ ∀ k, vb.rowBlock = some k → vy.rowBlock ≠ some k
  xy : ∀ k, vx.rowBlock = some k → vy.rowBlock ≠ some k
  xb : ∀ k, vx.rowBlock = some k → vb.rowBlock ≠ some k
  ya : ∀ k, vy.rowBlock = some k → va.rowBlock ≠ some k
section
variable {W W' : World} {T H n : Nat} {va vb vx vy : Value} {p q s t : Int} {i j : Nat}
theorem TwoRow.swap (h : TwoRow W T H n va vb vx vy p q s t i j) : TwoRow W T H n vb va vy vx q p t s j i :=
  ⟨h.b, h.a, h.y, h.x, h.by', h.ax, fun k hk e => h.xy k e hk, h.ya, h.xb⟩
theorem TwoRow.stepX (h : TwoRow W T H n va vb vx vy p q s t i j) {o : Obj} {vx' : Value} (hown : W'.RowV H T 1 vx' (n + i + 1) (u64s (List.replicate n p ++ List.replicate i s) ++ [.int .u64 s])) (ho : RowOut (W.alloc o) W' vx vx' (n + i) 1) :
    TwoRow W' T H n va vb vx' vy p q s t (i + 1) j := by
  have e1 : (W.alloc o).heap.size = W.heap.size + 1 := by simp
  have hx : u64s (List.replicate n p ++ List.replicate i s) ++ [.int .u64 s] = u64s (List.replicate n p ++ List.replicate (i + 1) s) := by simp [u64s, List.replicate_succ']
  rw [hx] at hown
  have nn : ∀ k, vx'.rowBlock = some k → vx.rowBlock = some k ∨ k = W.heap.size + 1 := fun k hk => by have := ho.news hk; rwa [e1] at this
  have la : ∀ k, va.rowBlock = some k → k < W.heap.size := fun k hk => (h.a.lt k hk).2
  have lb : ∀ k, vb.rowBlock = some k → k < W.heap.size := fun k hk => (h.b.lt k hk).2
  have ly : ∀ k, vy.rowBlock = some k → k < W.heap.size := fun k hk => (h.y.lt k hk).2
  have hA : W'.RowV H T 1 va n (u64s (List.replicate n p)) ∧ ((∃ o c, va = .slice o n c ∧ vx' = .slice o (n + (i + 1)) c) ∨ ∀ k, va.rowBlock = some k → vx'.rowBlock ≠ some k) := by
    rcases h.ax with ⟨oa, ca, e2, e3⟩ | hne
    · rcases ho with ⟨h1, h2, h3, hg⟩ | ⟨h1, h2, hg⟩
      · subst e2
        subst e3
        have hroom : n + i + 1 ≤ ca := h2
        obtain ⟨o', c', rfl, q1, q2⟩ := hown.form
        have hc : c' = ca := h3
        subst hc
        have ho' : o' = oa := by
          obtain ⟨g', d', e4, _⟩ := hown.some_form (by omega)
          cases e4
          rcases h.x.2 with ⟨o3, e5, _⟩ | ⟨g, cap, cur, e5, _⟩
          · simp only [Value.slice.injEq] at e5
            omega
          · simp only [Value.slice.injEq] at e5
            obtain ⟨rfl, _, rfl⟩ := e5
            have : g' = g := by simpa [Value.rowBlock, show c' ≠ 0 by omega] using h1
            rw [this]
        subst ho'
        have hs := hown.shorter (c := n) (by omega)
        have ht : (u64s (List.replicate n p ++ List.replicate (i + 1) s)).take (n * 1) = u64s (List.replicate n p) := by
          simp [u64s]
        rw [ht] at hs
        exact ⟨hs, .inl ⟨o', c', rfl, rfl⟩⟩
      · refine ⟨(h.a.alloc o).of_block fun k hk => hg.block k (by rw [e1]; have := la k hk; omega) (by simp), .inr fun k hk e => ?_⟩
        rw [h1, e1] at e
        cases e
        have := la _ hk
        omega
    · refine ⟨(h.a.alloc o).out ho (fun k hk => hne k hk), .inr fun k hk e => ?_⟩
      rcases nn k e with h4 | h4
      · exact hne k hk h4
      · have := la k hk
        omega
  refine ⟨hA.1, (h.b.alloc o).out ho (fun k hk e => h.xb k e hk), hown, (h.y.alloc o).out ho (fun k hk e => h.xy k e hk), hA.2, h.by', fun k hk e => ?_, fun k hk e => ?_, h.ya⟩
  · rcases nn k hk with h4 | h4
    · exact h.xy k h4 e
    · have := ly k e
      omega
  · rcases nn k hk with h4 | h4
    · exact h.xb k h4 e
    · have := lb k e
      omega
theorem TwoRow.stepY (h : TwoRow W T H n va vb vx vy p q s t i j) {o : Obj} {vy' : Value} (hown : W'.RowV H T 1 vy' (n + j + 1) (u64s (List.replicate n q ++ List.replicate j t) ++ [.int .u64 t])) (ho : RowOut (W.alloc o) W' vy vy' (n + j) 1) :
    TwoRow W' T H n va vb vx vy' p q s t i (j + 1) := (h.swap.stepX hown ho).swap
end
theorem RowOut.below {W W' : World} {o : Obj} {v v' : Value} {n m B : Nat} (ho : RowOut (W.alloc o) W' v v' n m) (hb : ∀ k, v.rowBlock = some k → B ≤ k) (hs : B ≤ W.heap.size) : Below B W W' := by
  have e1 : (W.alloc o).heap.size = W.heap.size + 1 := by simp
  have hz := ho.size
  rw [e1] at hz
  have h3 : W'.os = W.os ∧ W'.tape = W.tape ∧ W'.output = W.output := by
    rcases ho with ⟨_, _, _, hg⟩ | ⟨_, _, hg⟩ <;> exact ⟨hg.os, hg.tape, hg.output⟩
  refine ⟨h3.1, h3.2.1, h3.2.2, by omega, fun k hk => ?_⟩
  rw [ho.block (by rw [e1]; omega) (fun e => by have := hb k e; omega), Below.heap_alloc _ _ _ (by omega)]
theorem two_right (p s : Int) (n m i : Nat) (h0 : n ≤ i) (h : i < n + m) : (u64s (List.replicate n p ++ List.replicate m s))[i]? = some (.int .u64 s) := by
  rw [u64s, List.map_append, List.map_replicate, List.map_replicate, List.getElem?_append_right (by rw [List.length_replicate]; exact h0), List.length_replicate, List.getElem?_replicate, if_pos (by omega)]
end Go
