/-
ArenaWhole, plain: what the law counts (ind), out of what always holds.
-/
import Derived.Test.YtjcggokhminmoaaQArSr
import Derived.Test.YtjcggokhminmoaaQArLw
namespace Go
open Go.RowKit
open Go.Proofs.Ytjcggokhminmoaa
/-- 1 where a number is among S -/
def ind (N : Nat) (S : List Int) : List Int := (List.range N).map fun k : Nat => if (k : Int) ∈ S then 1 else 0
theorem ind_len (N : Nat) (S : List Int) : (ind N S).length = N := by simp [ind]
theorem ind_at (N : Nat) (S : List Int) (k : Nat) (h : k < N) : (ind N S).getD k 0 = if (k : Int) ∈ S then 1 else 0 := by simp [ind, List.getD_eq_getElem?_getD, h]
theorem ind_cell (N : Nat) (S : List Int) (k : Nat) (h : k < N) : (intsC (ind N S))[k]? = some (.int .i64 (if (k : Int) ∈ S then 1 else 0)) := by simp [intsC, ind, h]
theorem ind_zero (N : Nat) : intsC (ind N []) = List.replicate N (.int .i64 0) := by
  apply List.ext_getElem
  · simp [intsC, ind]
  · intro i h1 h2
    simp [intsC, ind]
theorem ind_set (N : Nat) (S : List Int) (k : Nat) : (intsC (ind N S)).set k (.int .i64 1) = intsC (ind N (S ++ [(k : Int)])) := by
  apply List.ext_getElem?
  intro j
  rw [List.getElem?_set]
  by_cases hj : j < N
  · rw [ind_cell N (S ++ [(k : Int)]) j hj]
    split
    · rename_i e
      subst e
      rw [if_pos (by simpa [intsC, ind] using hj)]
      simp
    · rename_i e
      rw [ind_cell N S j hj]
      have : ((j : Int) ∈ S ++ [(k : Int)]) = ((j : Int) ∈ S) := by simp; omega
      simp only [this]
  · have h1 : (intsC (ind N (S ++ [(k : Int)])))[j]? = none := List.getElem?_eq_none (by simp [intsC, ind]; omega)
    have h2 : (intsC (ind N S))[j]? = none := List.getElem?_eq_none (by simp [intsC, ind]; omega)
    rw [h1, h2]
    split
    · rw [if_neg (by simp [intsC, ind]; omega)]
    · rfl
/-- the caches looked at: the first t, and i of the next one -/
def cseen (cs : List (List Int)) (t i : Nat) : List Int := (cs.take t).flatten ++ ((cs.getD t []).take i)
section
variable {W : List Int} {s : ArS} {ts : Nat → Option (Bool × ATk)} {mv : Nat}
theorem natsI_mem {L : List Nat} {k : Nat} : (k : Int) ∈ natsI L ↔ k ∈ L := by
  unfold natsI
  constructor
  · intro h
    obtain ⟨j, hj, e⟩ := List.mem_map.1 h
    have : j = k := by omega
    exact this ▸ hj
  · intro h
    exact List.mem_map.2 ⟨k, h, rfl⟩
/-- a slot that a cache holds is not among those looked at before -/
theorem cseen_new (H : AInv W s ts mv) {t i : Nat} {c : List Int} (hc : s.caches[t]? = some c) (hi : i < c.length) : c[i] ∉ cseen s.caches t i ∧ ∃ k : Nat, c[i] = (k : Int) ∧ k < s.n ∧ s.slots[k]? = some (1, (t : Int)) := by
  obtain ⟨h1, h2, h3⟩ := H.cache t c hc
  obtain ⟨k, e, hk⟩ := h3 c[i] (List.getElem_mem hi)
  refine ⟨fun hm => ?_, k, e, (getD_n hk).1, hk⟩
  have hd : s.caches.getD t [] = c := getD_of hc
  unfold cseen at hm
  rw [hd] at hm
  rcases List.mem_append.1 hm with hm | hm
  · obtain ⟨d, hd1, hd2⟩ := List.mem_flatten.1 hm
    obtain ⟨j, hj, rfl⟩ := List.getElem_of_mem hd1
    have hjt : j < t := by simp at hj; omega
    have hjl : j < s.caches.length := by simp at hj; omega
    rw [List.getElem_take] at hd2
    obtain ⟨k2, e2, hk2⟩ := (H.cache j _ (List.getElem?_eq_getElem hjl)).2.2 _ hd2
    obtain rfl : k = k2 := by omega
    rw [hk] at hk2
    have := Option.some.inj hk2
    have := congrArg Prod.snd this
    simp only at this
    omega
  · obtain ⟨j, hj, e2⟩ := List.getElem_of_mem hm
    rw [List.getElem_take] at e2
    have hji : j < i := by simp at hj; omega
    exact absurd e2 (List.pairwise_iff_getElem.1 h1 j i (by omega) hi hji)
theorem cseen_next {cs : List (List Int)} {t i : Nat} {c : List Int} (hc : cs[t]? = some c) (hi : i < c.length) : cseen cs t (i + 1) = cseen cs t i ++ [c[i]] := by
  have hd : cs.getD t [] = c := getD_of hc
  unfold cseen
  rw [hd, List.take_succ_eq_append_getElem hi, List.append_assoc]
theorem cseen_turn {cs : List (List Int)} {t : Nat} {c : List Int} (hc : cs[t]? = some c) : cseen cs t c.length = cseen cs (t + 1) 0 := by
  have hd : cs.getD t [] = c := getD_of hc
  have hl := (List.getElem?_eq_some_iff.1 hc).1
  have e : cs[t] = c := by rw [List.getElem?_eq_getElem hl] at hc; exact Option.some.inj hc
  unfold cseen
  rw [hd, List.take_length, List.take_zero, List.append_nil, List.take_succ_eq_append_getElem hl, List.flatten_append, e]
  simp
theorem natsI_next {L : List Nat} {i : Nat} (h : i < L.length) : natsI (L.take (i + 1)) = natsI (L.take i) ++ [(L[i] : Int)] := by
  unfold natsI
  rw [List.take_succ_eq_append_getElem h, List.map_append]
  rfl
theorem cseen_zero (cs : List (List Int)) : cseen cs 0 0 = [] := by simp [cseen]
theorem cseen_all (H : AInv W s ts mv) {k : Nat} (hk : k < s.n) : ((k : Int) ∈ cseen s.caches s.caches.length 0) ↔ s.st k = 1 := by
  unfold cseen
  rw [List.take_length, List.take_zero, List.append_nil]
  constructor
  · intro h
    obtain ⟨d, hd1, hd2⟩ := List.mem_flatten.1 h
    obtain ⟨j, hj, rfl⟩ := List.getElem_of_mem hd1
    obtain ⟨k2, e2, hk2⟩ := (H.cache j _ (List.getElem?_eq_getElem hj)).2.2 _ hd2
    obtain rfl : k = k2 := by omega
    exact st_of hk2
  · intro h
    obtain ⟨⟨y1, y2⟩, hy⟩ := slot_some hk
    have h1 := st_of hy
    simp only at h1
    obtain rfl : y1 = 1 := by omega
    obtain ⟨i, c, _, h3, h4⟩ := H.cached k y2 hy
    exact List.mem_flatten.2 ⟨c, List.mem_of_getElem? h3, h4⟩
end
end Go
