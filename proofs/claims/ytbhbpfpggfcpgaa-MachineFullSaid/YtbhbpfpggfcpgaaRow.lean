/-
Rows: a slice that reads as a list of cells and whose block is the program's own (RowV), or that holds nothing; what an append leaves of it (run_append_row).
-/
import Derived.Test.YtbhbpfpggfcpgaaMore
import Derived.Maps.AppendAt
import Derived.Deep.DeepAppendWide
namespace Go
open Go.RowKit

/-- the slice v has n elements of type e (size cells each), the cells xs: it is empty and has no room, or it begins its block, a block from base on, and the cells up to its capacity are its own -/
def World.RowV (w : World) (base : Nat) (e : TypeId) (size : Nat) (v : Value) (n : Nat) (xs : List Value) : Prop :=
  xs.length = n * size ∧
  ((∃ o, v = .slice o 0 0 ∧ n = 0) ∨
   ∃ g cap cur, v = .slice (some ⟨g, 0, none⟩) n cap ∧ base ≤ g ∧ w.heap[g]? = some (.cells cur e (0, 0)) ∧ n ≤ cap ∧ 0 < cap ∧ cap ≤ maxLen ∧ cap * size ≤ cur.size ∧ cur.toList.take (n * size) = xs)

/-- the block that an append may write to -/
def Value.rowBlock : Value → Option Nat
  | .slice (some a) _ c => if c = 0 then none else some a.block
  | _ => none
def Value.roomOf : Value → Nat
  | .slice _ _ c => c
  | _ => 0

section
variable {w w' : World} {base : Nat} {e : TypeId} {size : Nat} {v : Value} {n : Nat} {xs : List Value}

theorem World.RowV_none (w : World) (base : Nat) (e : TypeId) (size : Nat) (o : Option Addr) : w.RowV base e size (.slice o 0 0) 0 [] := ⟨by simp, .inl ⟨o, rfl, rfl⟩⟩

theorem World.RowV.lt (h : w.RowV base e size v n xs) : ∀ k, v.rowBlock = some k → base ≤ k ∧ k < w.heap.size := by
  intro k hk
  rcases h.2 with ⟨o, rfl, _⟩ | ⟨g, cap, cur, rfl, hb, hg, _, hc, _⟩
  · cases o <;> simp [Value.rowBlock] at hk
  · simp [Value.rowBlock, Nat.ne_of_gt hc] at hk
    subst hk
    exact ⟨hb, (Array.getElem?_eq_some_iff.1 hg).1⟩

theorem World.RowV.of_block (h : w.RowV base e size v n xs) (hb : ∀ k, v.rowBlock = some k → w'.heap[k]? = w.heap[k]?) : w'.RowV base e size v n xs := by
  refine ⟨h.1, ?_⟩
  rcases h.2 with hn | ⟨g, cap, cur, rfl, hbs, hgg, hnc, hc, rest⟩
  · exact .inl hn
  · refine .inr ⟨g, cap, cur, rfl, hbs, ?_, hnc, hc, rest⟩
    rw [hb g (by simp [Value.rowBlock, Nat.ne_of_gt hc])]
    exact hgg

theorem World.RowV.more (h : w.RowV base e size v n xs) (os : Array Obj) (d : Nat) : (w.more os d).RowV base e size v n xs :=
  h.of_block fun k hk => World.heap_more _ _ _ _ (h.lt k hk).2
theorem World.RowV.alloc (h : w.RowV base e size v n xs) (o : Obj) : (w.alloc o).RowV base e size v n xs :=
  h.of_block fun k hk => Below.heap_alloc _ _ _ (h.lt k hk).2
theorem World.RowV.drew (h : w.RowV base e size v n xs) : w.drew.RowV base e size v n xs := h
theorem World.RowV.set (h : w.RowV base e size v n xs) {p : Addr} (hp : ∀ k, v.rowBlock = some k → k ≠ p.block) (u : Value) : (w.setCell p u).RowV base e size v n xs :=
  h.of_block fun k hk => Below.heap_setCell _ _ _ _ (hp k hk)
theorem World.RowV.grown {row : Option Nat} (h : w.RowV base e size v n xs) (hg : w.grownBy w' row) (hr : ∀ k, v.rowBlock = some k → some k ≠ row) : w'.RowV base e size v n xs :=
  h.of_block fun k hk => hg.block k (h.lt k hk).2 (hr k hk)

theorem World.RowV.base_mono {b' : Nat} (h : w.RowV base e size v n xs) (hb : b' ≤ base) : w.RowV b' e size v n xs := by
  refine ⟨h.1, ?_⟩
  rcases h.2 with hn | ⟨g, cap, cur, rfl, hbs, rest⟩
  · exact .inl hn
  · exact .inr ⟨g, cap, cur, rfl, Nat.le_trans hb hbs, rest⟩
theorem World.RowV.form (h : w.RowV base e size v n xs) : ∃ o cap, v = .slice o n cap ∧ n ≤ cap ∧ cap ≤ maxLen := by
  rcases h.2 with ⟨o, rfl, rfl⟩ | ⟨g, cap, cur, rfl, hb, hg, hn, hc, hm, _⟩
  · exact ⟨o, 0, rfl, Nat.le_refl _, Nat.zero_le _⟩
  · exact ⟨_, cap, rfl, hn, hm⟩

theorem World.RowV.some_form (h : w.RowV base e size v n xs) (hn : 0 < n) : ∃ g cap, v = .slice (some ⟨g, 0, none⟩) n cap ∧ n ≤ cap ∧ base ≤ g ∧ g < w.heap.size ∧ v.rowBlock = some g ∧ (∀ j, w.frozen? ⟨g, j, none⟩ = false) ∧ ∀ j u, xs[j]? = some u → w.cell? ⟨g, j, none⟩ = some u := by
  rcases h.2 with ⟨o, rfl, rfl⟩ | ⟨g, cap, cur, rfl, hb, hg, hn', hc, hm, hs, ht⟩
  · omega
  · refine ⟨g, cap, rfl, hn', hb, (Array.getElem?_eq_some_iff.1 hg).1, by simp [Value.rowBlock, Nat.ne_of_gt hc], fun j => by simp [World.frozen?, hg], fun j u hu => ?_⟩
    rw [← ht, List.getElem?_take] at hu
    split at hu
    · simpa [World.cell?, hg] using hu
    · cases hu

theorem add_none (g j : Nat) : (⟨g, 0, none⟩ : Addr).add j = ⟨g, j, none⟩ := by unfold Addr.add; split <;> simp_all

/-- a store into the row -/
theorem World.RowV.put (h : w.RowV base e size v n xs) {g : Nat} (hg : v.rowBlock = some g) (j : Nat) (hj : j < n * size) (u : Value) : (w.setCell ⟨g, j, none⟩ u).RowV base e size v n (xs.set j u) := by
  refine ⟨by simpa using h.1, ?_⟩
  rcases h.2 with ⟨o, rfl, rfl⟩ | ⟨g', cap, cur, rfl, hb, hgg, hn', hc, hm, hs, ht⟩
  · cases o <;> simp [Value.rowBlock] at hg
  · simp [Value.rowBlock, Nat.ne_of_gt hc] at hg
    subst hg
    refine .inr ⟨g', cap, cur.setIfInBounds j u, rfl, hb, ?_, hn', hc, hm, by simpa using hs, ?_⟩
    · simp [World.setCell, Array.getElem?_modify, hgg]
    · rw [← ht]
      apply List.ext_getElem?
      intro i
      simp only [Array.toList_setIfInBounds, List.getElem?_take, List.getElem?_set, List.length_take, Array.length_toList]
      have hle := Nat.le_trans (Nat.mul_le_mul_right size hn') hs
      have hm' : min (n * size) cur.size = n * size := Nat.min_eq_left hle
      rw [hm']
      by_cases e : j = i
      · subst e
        rw [if_pos hj, if_pos rfl, if_pos rfl, if_pos hj, if_pos (by omega)]
      · rw [if_neg e, if_neg e]
end

/-- what an append leaves of the world: there was room, and the row's block alone is written; or there was none, and a new block is made -/
def RowOut (w w' : World) (v v' : Value) (n m : Nat) : Prop :=
  (v'.rowBlock = v.rowBlock ∧ n + m ≤ v.roomOf ∧ v'.roomOf = v.roomOf ∧ w.grownBy w' v.rowBlock) ∨ (v'.rowBlock = some w.heap.size ∧ v.roomOf < n + m ∧ w.grownBy w' none)

theorem RowOut.block {w w' : World} {v v' : Value} {n m : Nat} (h : RowOut w w' v v' n m) {k : Nat} (hk : k < w.heap.size) (hne : v.rowBlock ≠ some k) : w'.heap[k]? = w.heap[k]? := by
  rcases h with ⟨_, _, _, hg⟩ | ⟨_, _, hg⟩
  · exact hg.block k hk (Ne.symm hne)
  · exact hg.block k hk (by simp)
theorem RowOut.size {w w' : World} {v v' : Value} {n m : Nat} (h : RowOut w w' v v' n m) : w.heap.size ≤ w'.heap.size := by
  rcases h with ⟨_, _, _, hg⟩ | ⟨_, _, hg⟩ <;> exact hg.size
theorem RowOut.news {w w' : World} {v v' : Value} {n m : Nat} (h : RowOut w w' v v' n m) {k : Nat} (hk : v'.rowBlock = some k) : v.rowBlock = some k ∨ k = w.heap.size := by
  rcases h with ⟨h1, _, _, hg⟩ | ⟨h1, _, hg⟩
  · exact .inl (by rw [← h1]; exact hk)
  · exact .inr (by rw [h1] at hk; cases hk; rfl)
theorem World.RowV.out {w w' : World} {base e size n m n1 : Nat} {u v v' : Value} {xs : List Value} (h : w.RowV base e size u n xs) (ho : RowOut w w' v v' n1 m) (hne : ∀ k, u.rowBlock = some k → v.rowBlock ≠ some k) : w'.RowV base e size u n xs :=
  h.of_block fun k hk => ho.block (h.lt k hk).2 (hne k hk)

section
variable {P : Program} (w : World)
theorem run_append_row (base : Nat) (t ty e : TypeId) (i : TypeInfo) (z : Value) (size bytes : Nat) (ht : P.underlying t = some (.slice e)) (hi : P.info? e = some i) (hz : i.zero = some z)
    (hsize : i.size = size) (hby : i.bytes = bytes) (hzs : z.cells.size = size)
    (v : Value) (n : Nat) (xs : List Value) (hown : w.RowV base e size v n xs)
    (a : Addr) (m c : Nat) (news : List Value) (hl : news.length = m * size) (hnews : ∀ j u, news[j]? = some u → w.cell? (a.add j) = some u) (h1 : ∀ u ∈ news, u.oneCell' = true)
    (h63 : n + m ≤ maxLen) (hbytes : ((n + m) + (n + m) / 4 + 192) * bytes ≤ 281474976710656) (hbase : base ≤ w.heap.size) :
    ∃ v' w', (Builtin.append_ #[t, t] ty #[v, .slice (some a) m c]).run P w = .ok v' w' ∧ w'.RowV base e size v' (n + m) (xs ++ news) ∧ RowOut w w' v v' n m := by
  subst hsize
  subst hby
  have hsmall : n + m ≤ 9223372036854775807 := by simp only [maxLen] at h63; omega
  have hlen : (xs ++ news).length = (n + m) * i.size := by rw [List.length_append, hown.1, hl, Nat.add_mul]
  -- what the growing arm leaves, whatever was there before
  have grown : ∀ (old : Nat), old < n + m →
      (w.drew.alloc (.cells (xs.toArray ++ news.toArray ++ Builtin.zeroCells z.cells (grownCap w (n + m) old e - (n + m))) e)).RowV base e i.size
        (.slice (some ⟨w.heap.size, 0, none⟩) (n + m) (grownCap w (n + m) old e)) (n + m) (xs ++ news) ∧
      w.grownBy (w.drew.alloc (.cells (xs.toArray ++ news.toArray ++ Builtin.zeroCells z.cells (grownCap w (n + m) old e - (n + m))) e)) none := by
    intro old ho
    have hge := grownCap_ge w (n + m) old e
    have hcm : grownCap w (n + m) old e ≤ maxLen := grownCap_le_maxLen w (n + m) old e h63
    refine ⟨⟨hlen, .inr ⟨w.heap.size, _, _, rfl, hbase, heap_alloc_new w.drew _, hge, by omega, hcm, ?_, ?_⟩⟩, ⟨rfl, rfl, rfl, by simp, fun k hk _ => Below.heap_alloc w.drew _ k hk⟩⟩
    · apply Nat.le_of_eq
      simp only [Array.size_append, List.size_toArray, size_zeroCells, hzs, hown.1, hl, ← Nat.add_mul]
      congr 1
      omega
    · simp only [Array.toList_append, List.append_assoc]
      rw [← List.append_assoc, ← hlen]
      exact List.take_left
  rcases hown.2 with ⟨o, rfl, rfl⟩ | ⟨g, cap, cur, rfl, hbg, hg, hnc, hc0, hcm, hcs, htake⟩
  · have hx : xs = [] := List.eq_nil_of_length_eq_zero (by simpa using hown.1)
    subst hx
    by_cases hm : m = 0
    · subst hm
      have hn : news = [] := List.eq_nil_of_length_eq_zero (by simpa using hl)
      subst hn
      refine ⟨.slice o 0 0, w, ?_, World.RowV_none w base e i.size o, .inl ⟨rfl, by simp [Value.roomOf], rfl, ⟨rfl, rfl, rfl, Nat.le_refl _, fun _ _ _ => rfl⟩⟩⟩
      cases o <;> simp [Builtin.append_, run_underlying ht, sizeOf, typeInfo, hi, Builtin.lenOf, Builtin.firstCells, loadCells, loadCellsFrom, storeCells]
    · have hgr := grown 0 (by omega)
      simp only [Nat.zero_add, List.nil_append, Array.empty_append] at hgr ⊢
      cases o with
      | none =>
        have hr := run_append_nil (P := P) w t ty e i z ht hi hz a m c news hl hnews (by omega) (by omega) (by have hb := hbytes; simp only [Nat.zero_add] at hb; exact Nat.le_trans (Nat.mul_le_mul_right _ (by omega)) hb)
        exact ⟨_, _, hr, hgr.1, .inr ⟨by simp [Value.rowBlock]; have := grownCap_ge w m 0 e; omega, by simp [Value.roomOf]; omega, hgr.2⟩⟩
      | some b =>
        have hr := run_append_grow (P := P) w t ty e i z ht hi hz b 0 0 [] (by simp) (by simp) a m c news hl hnews (by omega) (by omega) (growslice_fits_wide (by omega) hbytes)
        simp only [Nat.zero_add, Array.empty_append] at hr
        exact ⟨_, _, hr, hgr.1, .inr ⟨by simp [Value.rowBlock]; have := grownCap_ge w m 0 e; omega, by simp [Value.roomOf]; omega, hgr.2⟩⟩
  · by_cases hroom : n + m ≤ cap
    · have hfit : n * i.size + news.length ≤ cur.size := by rw [hl, ← Nat.add_mul]; exact Nat.le_trans (Nat.mul_le_mul_right _ hroom) hcs
      have hr := run_append_room (P := P) w t ty e i ht hi g n cap cur hg a m c news hl hnews h1 hroom hfit
      refine ⟨_, _, hr, ⟨hlen, .inr ⟨g, cap, _, rfl, hbg, setRow_heap w g cur _ e _ hg, hroom, hc0, hcm, ?_, ?_⟩⟩, .inl ⟨by simp [Value.rowBlock], hroom, rfl, ⟨rfl, rfl, rfl, by simp, fun k _ hk => setRow_other w g k _ (fun e => hk (by simp [Value.rowBlock, e, Nat.ne_of_gt hc0]))⟩⟩⟩
      · simp only [List.size_toArray, List.length_append, List.length_take, List.length_drop, Array.length_toList]
        omega
      · rw [htake, ← hlen]
        exact List.take_left
    · have holds : ∀ j u, xs[j]? = some u → w.cell? ((⟨g, 0, none⟩ : Addr).add j) = some u := by
        intro j u hu
        rw [add_none]
        rw [← htake, List.getElem?_take] at hu
        split at hu
        · simpa [World.cell?, hg] using hu
        · cases hu
      have hr := run_append_grow (P := P) w t ty e i z ht hi hz ⟨g, 0, none⟩ n cap xs hown.1 holds a m c news hl hnews (by omega) (by omega) (growslice_fits_wide (by omega) hbytes)
      have hgr := grown cap (by omega)
      exact ⟨_, _, hr, hgr.1, .inr ⟨by simp [Value.rowBlock]; have := grownCap_ge w (n + m) cap e; omega, by simp [Value.roomOf]; omega, hgr.2⟩⟩

/-- the source holds nothing: nil or empty -/
theorem run_append_row_none (t ty e : TypeId) (i : TypeInfo) (ht : P.underlying t = some (.slice e)) (hi : P.info? e = some i) (v : Value) {base size : Nat} (n : Nat) (xs : List Value) (hown : w.RowV base e size v n xs) :
    (Builtin.append_ #[t, t] ty #[v, .slice none 0 0]).run P w = .ok v w := by
  rcases hown.2 with ⟨o, rfl, rfl⟩ | ⟨g, cap, cur, rfl, hbg, hg, hnc, hc0, hcm, hcs, htake⟩
  · cases o <;> simp [Builtin.append_, run_underlying ht, sizeOf, typeInfo, hi, Builtin.lenOf, Builtin.firstCells, loadCells, loadCellsFrom, storeCells]
  · simp [Builtin.append_, run_underlying ht, sizeOf, typeInfo, hi, Builtin.lenOf, Builtin.firstCells, loadCells, storeCells, hnc]

/-- a slice that can be read: n elements, the cells xs -/
def World.Src (w : World) (size : Nat) (v : Value) (n : Nat) (xs : List Value) : Prop :=
  xs.length = n * size ∧ ((v = .slice none 0 0 ∧ n = 0) ∨ ∃ ad c, v = .slice (some ad) n c ∧ n ≤ c ∧ ∀ j u, xs[j]? = some u → w.cell? (ad.add j) = some u)

theorem World.RowV.src {w : World} {base e size n : Nat} {v : Value} {xs : List Value} (h : w.RowV base e size v n xs) : w.Src size v n xs := by
  refine ⟨h.1, ?_⟩
  rcases h.2 with ⟨o, rfl, rfl⟩ | ⟨g, cap, cur, rfl, hb, hg, hn', hc, hm, hs, ht⟩
  · cases o with
    | none => exact .inl ⟨rfl, rfl⟩
    | some a =>
      refine .inr ⟨a, 0, rfl, Nat.le_refl _, fun j u hu => ?_⟩
      have hx : xs = [] := List.eq_nil_of_length_eq_zero (by simpa using h.1)
      subst hx
      simp at hu
  · refine .inr ⟨_, cap, rfl, hn', fun j u hu => ?_⟩
    rw [add_none]
    rw [← ht, List.getElem?_take] at hu
    split at hu
    · simpa [World.cell?, hg] using hu
    · cases hu

theorem run_append_src (base : Nat) (t ty e : TypeId) (i : TypeInfo) (z : Value) (size bytes : Nat) (ht : P.underlying t = some (.slice e)) (hi : P.info? e = some i) (hz : i.zero = some z)
    (hsize : i.size = size) (hby : i.bytes = bytes) (hzs : z.cells.size = size)
    (v : Value) (n : Nat) (xs : List Value) (hown : w.RowV base e size v n xs)
    (x : Value) (m : Nat) (news : List Value) (hx : w.Src size x m news) (h1 : ∀ u ∈ news, u.oneCell' = true)
    (h63 : n + m ≤ maxLen) (hbytes : ((n + m) + (n + m) / 4 + 192) * bytes ≤ 281474976710656) (hbase : base ≤ w.heap.size) :
    ∃ v' w', (Builtin.append_ #[t, t] ty #[v, x]).run P w = .ok v' w' ∧ w'.RowV base e size v' (n + m) (xs ++ news) ∧ RowOut w w' v v' n m := by
  rcases hx.2 with ⟨rfl, rfl⟩ | ⟨ad, c, rfl, _, hc⟩
  · have hn : news = [] := List.eq_nil_of_length_eq_zero (by simpa using hx.1)
    subst hn
    refine ⟨v, w, run_append_row_none w t ty e i ht hi v n xs hown, by simpa using hown, .inl ⟨rfl, ?_, rfl, ⟨rfl, rfl, rfl, Nat.le_refl _, fun _ _ _ => rfl⟩⟩⟩
    obtain ⟨o, cap, rfl, hn, _⟩ := hown.form
    exact hn
  · exact run_append_row w base t ty e i z size bytes ht hi hz hsize hby hzs v n xs hown ad m c news hx.1 hc h1 h63 hbytes hbase

theorem wpList_append_row {ops : Array Oper} {rest : List Oper} {o : Oper} {a : Act} {Q : Exit → Act → World → Prop} (hgd : o.guard = none) (s x : Operand) (t : TypeId)
    (ho : o.op = .call { callee := .builtin .append, args := #[s, x], argTypes := #[t, t] })
    (base : Nat) (e : TypeId) (i : TypeInfo) (z : Value) (size bytes : Nat) (ht : P.underlying t = some (.slice e)) (hi : P.info? e = some i) (hz : i.zero = some z)
    (hsize : i.size = size) (hby : i.bytes = bytes) (hzs : z.cells.size = size)
    (v : Value) (n : Nat) (xs : List Value) (hs : a.eval s = v) (hown : w.RowV base e size v n xs)
    (vx : Value) (m : Nat) (news : List Value) (hx : a.eval x = vx) (hsrc : w.Src size vx m news) (h1 : ∀ u ∈ news, u.oneCell' = true)
    (h63 : n + m ≤ maxLen) (hbytes : ((n + m) + (n + m) / 4 + 192) * bytes ≤ 281474976710656) (hbase : base ≤ w.heap.size)
    (h : ∀ v' w', w'.RowV base e size v' (n + m) (xs ++ news) → RowOut w w' v v' n m → wpList P ops Q rest (a.put o.dst v') w') :
    wpList P ops Q (o :: rest) a w := by
  refine wpList_plain hgd fun K hK => ?_
  obtain ⟨v', w', hr, h2, h3⟩ := run_append_src (P := P) w base t o.type e i z size bytes ht hi hz hsize hby hzs v n xs hown vx m news hsrc h1 h63 hbytes hbase
  unfold Oper.wp execOp
  simp only [ho, resolve, invoke, builtin, Sem.run_bind, Sem.run_pure, Result.andThen_ok, List.map_toArray, List.map_cons, List.map_nil, hs, hx, hr]
  exact hK _ _ (h v' w' h2 h3)

theorem step_append_row {ops : Array Oper} {o : Oper} {a : Act} {K : Act → World → Prop} {Q : Exit → Act → World → Prop} {E : Prop} (hgd : o.guard = none) (s x : Operand) (t : TypeId)
    (ho : o.op = .call { callee := .builtin .append, args := #[s, x], argTypes := #[t, t] })
    (base : Nat) (e : TypeId) (i : TypeInfo) (z : Value) (size bytes : Nat) (ht : P.underlying t = some (.slice e)) (hi : P.info? e = some i) (hz : i.zero = some z)
    (hsize : i.size = size) (hby : i.bytes = bytes) (hzs : z.cells.size = size)
    (v : Value) (n : Nat) (xs : List Value) (hs : a.eval s = v) (hown : w.RowV base e size v n xs)
    (vx : Value) (m : Nat) (news : List Value) (hx : a.eval x = vx) (hsrc : w.Src size vx m news) (h1 : ∀ u ∈ news, u.oneCell' = true)
    (h63 : n + m ≤ maxLen) (hbytes : ((n + m) + (n + m) / 4 + 192) * bytes ≤ 281474976710656) (hbase : base ≤ w.heap.size)
    (h : ∀ v' w', w'.RowV base e size v' (n + m) (xs ++ news) → RowOut w w' v v' n m → K (a.put o.dst v') w') :
    if Region.wanted o (yielded ops a.tmps) = true then Oper.wp P o a w K Q else E := by
  have hw : Region.wanted o (yielded ops a.tmps) = true := by simp [Region.wanted, hgd]
  rw [if_pos hw]
  obtain ⟨v', w', hr, h2, h3⟩ := run_append_src (P := P) w base t o.type e i z size bytes ht hi hz hsize hby hzs v n xs hown vx m news hsrc h1 h63 hbytes hbase
  unfold Oper.wp execOp
  simp only [ho, resolve, invoke, builtin, Sem.run_bind, Sem.run_pure, Result.andThen_ok, List.map_toArray, List.map_cons, List.map_nil, hs, hx, hr]
  exact h v' w' h2 h3

/-- one element's cells in a new block: the source of append(s, x) -/
theorem World.Src.one {w : World} {k H : Nat} {cs : Array Value} {t : TypeId} (h : cs.size = k) (hH : w.heap.size = H) : (w.alloc (.cells cs t)).Src k (.slice (some ⟨H, 0, none⟩) 1 1) 1 cs.toList := by
  subst hH
  refine ⟨by simpa using h, .inr ⟨_, 1, rfl, Nat.le_refl _, fun j u hu => ?_⟩⟩
  rw [add_none]
  rw [cell_of_row _ _ _ _ _ (0, 0) (heap_alloc_new w (.cells cs t))]
  simpa using hu
theorem World.Src.of_block {w w' : World} {k n : Nat} {v : Value} {xs : List Value} (h : w.Src k v n xs) (hb : ∀ b, b < w.heap.size → w'.heap[b]? = w.heap[b]?) : w'.Src k v n xs := by
  refine ⟨h.1, ?_⟩
  rcases h.2 with h0 | ⟨ad, c, rfl, hc, hx⟩
  · exact .inl h0
  · refine .inr ⟨ad, c, rfl, hc, fun j u hu => ?_⟩
    have := hx j u hu
    rw [World.cell?_of_block (hb _ (World.block_lt_of_cell? w _ this))]
    exact this
theorem World.Src.alloc {w : World} {k n : Nat} {v : Value} {xs : List Value} (h : w.Src k v n xs) (o : Obj) : (w.alloc o).Src k v n xs := h.of_block fun _ hb => Below.heap_alloc _ _ _ hb
theorem World.Src.more {w : World} {k n : Nat} {v : Value} {xs : List Value} (h : w.Src k v n xs) (os : Array Obj) (d : Nat) : (w.more os d).Src k v n xs := h.of_block fun _ hb => World.heap_more _ _ _ _ hb
theorem World.Src.below {w w' : World} {k n : Nat} {v : Value} {xs : List Value} (h : w.Src k v n xs) (hb : Below w.heap.size w w') : w'.Src k v n xs := h.of_block hb.block
theorem World.Src.drew {w : World} {k n : Nat} {v : Value} {xs : List Value} (h : w.Src k v n xs) : w.drew.Src k v n xs := h
end
end Go
