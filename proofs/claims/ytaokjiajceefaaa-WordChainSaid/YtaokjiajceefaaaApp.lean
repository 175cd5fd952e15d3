/-
Rows of words in blocks of their own (RowAt), and what an append leaves (AppOut): in place where there is room, in a new block where there is none.
-/
import Derived.Test.YtaokjiajceefaaaCells
import Derived.Maps.AppendAt
namespace Go
open Go.RowKit

/-- block b begins with n words: word j is f j -/
def RowAt (w : World) (b n : Nat) (f : Nat → Int) : Prop :=
  ∃ cs e, w.heap[b]? = some (.cells cs e (0, 0)) ∧ ∀ j, j < n → cs[j]? = some (.int .u64 (f j))

section
variable {w w' : World} {b n : Nat} {f g : Nat → Int}

theorem RowAt.lt (h : RowAt w b n f) : b < w.heap.size := by
  obtain ⟨cs, e, h1, _⟩ := h
  exact (Array.getElem?_eq_some_iff.1 h1).1
theorem RowAt.cell (h : RowAt w b n f) : ∀ j, j < n → w.cell? ⟨b, j, none⟩ = some (.int .u64 (f j)) := by
  intro j hj
  obtain ⟨cs, e, h1, h2⟩ := h
  simp [World.cell?, h1, h2 j hj]
theorem RowAt.free (h : RowAt w b n f) (j : Nat) : w.frozen? ⟨b, j, none⟩ = false := by
  obtain ⟨cs, e, h1, h2⟩ := h
  simp [World.frozen?, h1]
theorem RowAt.congr (h : RowAt w b n f) (hg : ∀ j, j < n → f j = g j) : RowAt w b n g := by
  obtain ⟨cs, e, h1, h2⟩ := h
  exact ⟨cs, e, h1, fun j hj => by rw [h2 j hj, hg j hj]⟩
theorem RowAt.of_block (h : RowAt w b n f) (hb : w'.heap[b]? = w.heap[b]?) : RowAt w' b n f := by
  obtain ⟨cs, e, h1, h2⟩ := h
  exact ⟨cs, e, by rw [hb, h1], h2⟩
theorem RowAt.set (h : RowAt w b n f) (k : Nat) (v : Int) : RowAt (w.setCell ⟨b, k, none⟩ (.int .u64 v)) b n (updF f k v) := by
  obtain ⟨cs, e, h1, h2⟩ := h
  refine ⟨cs.setIfInBounds k (.int .u64 v), e, ?_, ?_⟩
  · simp [World.setCell, Array.getElem?_modify, h1]
  · intro j hj
    have hs : j < cs.size := by
      rcases Nat.lt_or_ge j cs.size with h | h
      · exact h
      · have := h2 j hj; rw [Array.getElem?_eq_none h] at this; cases this
    rw [Array.getElem?_setIfInBounds]
    unfold updF
    by_cases e : k = j
    · subst e; simp [hs]
    · rw [if_neg e, if_neg (Ne.symm e)]; exact h2 j hj
theorem RowAt.set_other (h : RowAt w b n f) {p : Addr} (hp : b ≠ p.block) (v : Value) : RowAt (w.setCell p v) b n f :=
  h.of_block (Below.heap_setCell _ _ _ _ hp)
theorem RowAt.more (h : RowAt w b n f) (os : Array Obj) (d : Nat) : RowAt (w.more os d) b n f := h.of_block (World.heap_more _ _ _ _ h.lt)
theorem RowAt.alloc (h : RowAt w b n f) (o : Obj) : RowAt (w.alloc o) b n f := h.of_block (Below.heap_alloc _ _ _ h.lt)
theorem RowAt.grown (h : RowAt w b n f) {row : Option Nat} (hg : w.grownBy w' row) (hr : some b ≠ row) : RowAt w' b n f := h.of_block (hg.block _ h.lt hr)
theorem RowAt.made (w : World) (n : Nat) (f : Nat → Int) (t : TypeId) (h : b = w.heap.size) : RowAt (w.alloc (.cells (intCells .u64 n f) t)) b n f := by
  subst h
  exact ⟨_, _, heap_alloc_new w _, fun j hj => intCells_lt _ _ _ _ hj⟩
theorem RowAt.of_own {base e : Nat} {v : Value} {xs : List Value} {m : Nat} (h : w.ownsRow base e 1 v m xs) (hb : v.ownBlock = some b) (hx : ∀ j, j < n → xs[j]? = some (.int .u64 (f j))) : RowAt w b n f := by
  rcases h.2 with ⟨rfl, _⟩ | ⟨g', cap, cur, rfl, _, hgg, _, _, _, htake⟩
  · simp [Value.ownBlock] at hb
  · simp [Value.ownBlock] at hb
    subst hb
    refine ⟨cur, e, hgg, fun j hj => ?_⟩
    have := hx j hj
    rw [← htake, List.getElem?_take] at this
    split at this
    · simpa using this
    · cases this
theorem ownsRow_of_row {base e : Nat} {cs : Array Value} (hb : base ≤ b) (h : w.heap[b]? = some (.cells cs e (0, 0))) (hm : cs.size ≤ maxLen) :
    w.ownsRow base e 1 (.slice (some ⟨b, 0, none⟩) cs.size cs.size) cs.size cs.toList := by
  refine ⟨by simp, .inr ⟨b, cs.size, cs, rfl, hb, h, Nat.le_refl _, hm, by simp, List.take_of_length_le (by simp)⟩⟩
end

def Value.capOf : Value → Nat
  | .slice _ _ c => c
  | _ => 0

/-- what an append leaves of the world: either there was room, and the row's block alone is written, or there was none, and a new block is made -/
def AppOut (w w' : World) (v v' : Value) (n m : Nat) : Prop :=
  (v'.ownBlock = v.ownBlock ∧ n + m ≤ v.capOf ∧ v'.capOf = v.capOf ∧ w.grownBy w' v.ownBlock) ∨ (v'.ownBlock = some w.heap.size ∧ v.capOf < n + m ∧ w.grownBy w' none)

section
variable {P : Program} (w : World)
theorem run_append_out (base : Nat) (t ty e : TypeId) (i : TypeInfo) (z : Value) (size bytes : Nat) (ht : P.underlying t = some (.slice e)) (hi : P.info? e = some i) (hz : i.zero = some z)
    (hsize : i.size = size) (hby : i.bytes = bytes) (hzs : z.cells.size = size) (hsz : 0 < size)
    (v : Value) (n : Nat) (xs : List Value) (hown : w.ownsRow base e size v n xs)
    (a : Addr) (m c : Nat) (news : List Value) (hl : news.length = m * size) (hnews : ∀ j u, news[j]? = some u → w.cell? (a.add j) = some u) (h1 : ∀ u ∈ news, u.oneCell' = true)
    (h63 : n + m ≤ maxLen) (hbytes : (n + m) * bytes ≤ 140737488355328) (hbase : base ≤ w.heap.size) :
    ∃ v' w', (Builtin.append_ #[t, t] ty #[v, .slice (some a) m c]).run P w = .ok v' w' ∧ w'.ownsRow base e size v' (n + m) (xs ++ news) ∧ AppOut w w' v v' n m := by
  obtain ⟨v', w', hr, h2, h3, h4, h5⟩ := run_append_own_at (P := P) w base t ty e i z size bytes ht hi hz hsize hby hzs hsz v n xs hown a m c news hl hnews h1 h63 hbytes hbase
  refine ⟨v', w', hr, h2, ?_⟩
  subst hsize
  subst hby
  have hsmall : n + m ≤ 9223372036854775807 := by simp only [maxLen] at h63; omega
  rcases hown.2 with ⟨rfl, rfl⟩ | ⟨g, cap, cur, rfl, hbg, hg, hnc, hcm, hcs, htake⟩
  · have hx : xs = [] := List.eq_nil_of_length_eq_zero (by simpa using hown.1)
    subst hx
    by_cases hm : m = 0
    · subst hm
      obtain rfl := h4.2 ⟨rfl, rfl⟩
      exact .inl ⟨rfl, by simp [Value.capOf], rfl, h3⟩
    · have hr' := run_append_nil (P := P) w t ty e i z ht hi hz a m c news hl hnews (by omega) (by omega) (by have hb := hbytes; simp only [Nat.zero_add] at hb; omega)
      rw [hr'] at hr
      cases hr
      exact .inr ⟨rfl, by simp [Value.capOf]; omega, ⟨rfl, rfl, rfl, by simp, fun k hk _ => Below.heap_alloc w.drew _ k hk⟩⟩
  · by_cases hroom : n + m ≤ cap
    · have hfit : n * i.size + news.length ≤ cur.size := by rw [hl, hcs, ← Nat.add_mul]; exact Nat.mul_le_mul_right _ hroom
      have hr' := run_append_room (P := P) w t ty e i ht hi g n cap cur hg a m c news hl hnews h1 hroom hfit
      rw [hr'] at hr
      cases hr
      exact .inl ⟨rfl, hroom, rfl, h3⟩
    · have holds : ∀ j u, xs[j]? = some u → w.cell? ((⟨g, 0, none⟩ : Addr).add j) = some u := hown.cells (g := g) rfl
      have hr' := run_append_grow (P := P) w t ty e i z ht hi hz ⟨g, 0, none⟩ n cap xs hown.1 holds a m c news hl hnews (by omega) (by omega) (growslice_fits (by omega) hbytes)
      rw [hr'] at hr
      cases hr
      exact .inr ⟨rfl, by simp [Value.capOf]; omega, ⟨rfl, rfl, rfl, by simp, fun k hk _ => Below.heap_alloc w.drew _ k hk⟩⟩

theorem wpList_append_out {ops : Array Oper} {rest : List Oper} {o : Oper} {a : Act} {Q : Exit → Act → World → Prop} (hgd : o.guard = none) (s x : Operand) (t : TypeId)
    (ho : o.op = .call { callee := .builtin .append, args := #[s, x], argTypes := #[t, t] })
    (base : Nat) (e : TypeId) (i : TypeInfo) (z : Value) (size bytes : Nat) (ht : P.underlying t = some (.slice e)) (hi : P.info? e = some i) (hz : i.zero = some z)
    (hsize : i.size = size) (hby : i.bytes = bytes) (hzs : z.cells.size = size) (hsz : 0 < size)
    (v : Value) (n : Nat) (xs : List Value) (hs : a.eval s = v) (hown : w.ownsRow base e size v n xs)
    (ad : Addr) (m c : Nat) (news : List Value) (hx : a.eval x = .slice (some ad) m c) (hl : news.length = m * size) (hnews : ∀ j u, news[j]? = some u → w.cell? (ad.add j) = some u) (h1 : ∀ u ∈ news, u.oneCell' = true)
    (h63 : n + m ≤ maxLen) (hbytes : (n + m) * bytes ≤ 140737488355328) (hbase : base ≤ w.heap.size)
    (h : ∀ v' w', w'.ownsRow base e size v' (n + m) (xs ++ news) → AppOut w w' v v' n m → wpList P ops Q rest (a.put o.dst v') w') :
    wpList P ops Q (o :: rest) a w := by
  refine wpList_plain hgd fun K hK => ?_
  obtain ⟨v', w', hr, h2, h3⟩ := run_append_out (P := P) w base t o.type e i z size bytes ht hi hz hsize hby hzs hsz v n xs hown ad m c news hl hnews h1 h63 hbytes hbase
  unfold Oper.wp execOp
  simp only [ho, resolve, invoke, builtin, Sem.run_bind, Sem.run_pure, Result.andThen_ok, List.map_toArray, List.map_cons, List.map_nil, hs, hx, hr]
  exact hK _ _ (h v' w' h2 h3)
end
end Go
