/-
The arena as it is made, and the words at the beginning: AInv holds. Plain.
-/
import Derived.Test.YtjcggokhminmoaaQPmG
import Derived.Test.YtjcggokhminmoaaQFirst
namespace Go
open Go.RowKit
open Go.Proofs.Ytjcggokhminmoaa

/-- the arena that New makes: the slots below u linked -/
def arNew (c0 c1 c2 c3 c4 c5 c6 : Int) (u : Nat) : ArS := ⟨c0, c1, c2, c3, c4, c5, c6, (List.range c5.toNat).map (fun i => (if i < u then 3 else 0, -1)), List.replicate c0.toNat []⟩
/-- the words that go with it -/
def arWords (s : ArS) (u : Nat) : List Int := (List.range s.size).map (firstW s.sb u s.n)
section
variable {c0 c1 c2 c3 c4 c5 c6 : Int} {u : Nat}
theorem arNew_ok (h : okCfg c0 c1 c2 c3 c4 c5 c6 = true) : (arNew c0 c1 c2 c3 c4 c5 c6 u).Ok := by
  obtain ⟨b0, b1, b2, b3, b4, b5, b6, bm⟩ := ok_bounds h
  exact ⟨h, by simp [arNew]; omega, by simp [arNew]; omega⟩
theorem arNew_slot (s : ArS) (hs : s = arNew c0 c1 c2 c3 c4 c5 c6 u) {k : Nat} (hk : k < s.n) : s.slots[k]? = some (if k < u then 3 else 0, -1) := by
  subst hs
  have hk' : k < c5.toNat := by simpa [arNew, ArS.n] using hk
  simp [arNew, hk']
theorem arWords_get (s : ArS) (u x : Nat) (hx : x < s.size) : (arWords s u).getD x 0 = firstW s.sb u s.n x := by
  unfold arWords
  simp [List.getD_eq_getElem?_getD, hx]
theorem chain_up {s : ArS} {W : List Int} {u n : Nat} (hn : s.n = n) : ∀ (m k : Nat), k + m = n → u ≤ k → (∀ j, u ≤ j → j < n → s.spare W j = if j + 1 < n then (j : Int) + 2 else 0) → Chain s W (if k < n then (k : Int) else -1) (List.range' k m) := by
  intro m
  induction m with
  | zero =>
    intro k hk _ _
    rw [if_neg (by omega)]
    rfl
  | succ m ih =>
    intro k hk hu hs
    rw [if_pos (by omega), List.range'_succ]
    refine ⟨rfl, by omega, ?_⟩
    have h1 := ih (k + 1) (by omega) (by omega) hs
    rw [hs k hu (by omega)]
    by_cases e : k + 1 < n
    · rw [if_pos e] at h1 ⊢
      rw [show (k : Int) + 2 - 1 = ((k + 1 : Nat) : Int) by push_cast; omega]
      exact h1
    · rw [if_neg e] at h1 ⊢
      exact h1
theorem ainv_init (h : okCfg c0 c1 c2 c3 c4 c5 c6 = true) (hu : (u : Int) ≤ c5) (s : ArS) (hs : s = arNew c0 c1 c2 c3 c4 c5 c6 u) : AInv (arWords s u) s (fun _ => none) 0 := by
  have hok : s.Ok := by rw [hs]; exact arNew_ok h
  obtain ⟨n1, n2, n3, n4, n5, n6, n7, n8, n9, n10, n11⟩ := ok_small hok
  have hb5 : 9 ≤ s.sb := by
    obtain ⟨b0, b1, b2, b3, b4, b5, b6, bm⟩ := ok_bounds hok.cfg
    have := baseF_bd b1 b5 b6 bm 9
    omega
  have hun : u ≤ s.n := by
    have := hok.slots
    have e5 : s.c5 = c5 := by rw [hs]; rfl
    unfold ArS.n
    omega
  have hw0 : wHead (arWords s u) = if u < s.n then (u : Int) + 1 else 0 := by
    unfold wHead
    rw [arWords_get s u 0 (by omega)]
    rfl
  have hsp : ∀ k, k < s.n → s.spare (arWords s u) k = if u ≤ k ∧ k + 1 < s.n then (k : Int) + 2 else 0 := by
    intro k hk
    unfold ArS.spare
    rw [arWords_get s u _ (by omega)]
    unfold firstW
    rw [if_neg (by omega), if_neg (by omega)]
    by_cases e : u ≤ k ∧ k + 1 < s.n
    · rw [if_pos e, if_pos (by omega)]
      push_cast
      omega
    · rw [if_neg e, if_neg (by omega)]
  have hix : linkIndex (wHead (arWords s u)) = if u < s.n then (u : Int) else -1 := by
    rw [hw0]
    unfold linkIndex
    split <;> omega
  have hhd : HeadOk s (wHead (arWords s u)) := ⟨by rw [hw0]; split <;> omega, by rw [hw0]; split <;> omega, by rw [hix]; split <;> omega⟩
  have hst : ∀ k, k < s.n → s.st k = if k < u then 3 else 0 := fun k hk => (getD_n (arNew_slot s hs hk)).2
  refine ⟨hok, by simp [arWords], hhd, fun k hk => ?_, ⟨List.range' u (s.n - u), ?_, List.nodup_range' .., fun k hk => ?_⟩, fun i c hc => ?_, fun k x hk => ?_, ?_, fun i rd tk e => by cases e⟩
  · rw [hsp k hk]
    split
    · exact ⟨by omega, by omega⟩
    · exact ⟨by omega, by omega⟩
  · rw [hix]
    refine chain_up rfl (s.n - u) u (by omega) (Nat.le_refl _) fun j h1 h2 => ?_
    rw [hsp j h2]
    by_cases e : j + 1 < s.n
    · rw [if_pos ⟨h1, e⟩, if_pos e]
    · rw [if_neg (fun x => e x.2), if_neg e]
  · rw [hst k hk, List.mem_range'_1]
    split <;> omega
  · have hcn : c = [] := by
      rw [hs] at hc
      simp only [arNew, List.getElem?_replicate] at hc
      split at hc
      · exact (Option.some.inj hc).symm
      · cases hc
    subst hcn
    exact ⟨List.nodup_nil, by simpa using n10, fun x hx => by cases hx⟩
  · have hkn := (getD_n hk).1
    rw [arNew_slot s hs hkn] at hk
    have := congrArg Prod.fst (Option.some.inj hk)
    simp only at this
    split at this <;> omega
  · rw [hhd.tag n2, hw0]
    split <;> omega
end
end Go
