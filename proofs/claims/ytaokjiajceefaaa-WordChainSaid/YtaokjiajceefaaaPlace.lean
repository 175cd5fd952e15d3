/-
Places one behind the other: plain facts.
-/
import Derived.Test.YtaokjiajceefaaaPlan
namespace Go.Proofs.Ytaokjiajceefaaa
open Go.ChangeShapes Go.WideShapes Go.ChangeAt Go.RowKit

def plI (a1 a2 a5 a6 : Int) (n : Nat) (x : Int) : Int := if n = 8 then (x - baseF a1 a2 a5 a6 8) / a2 else x - baseF a1 a2 a5 a6 n
def plK (a1 a2 a5 a6 : Int) (n : Nat) (x : Int) : Int := if n = 8 then (x - baseF a1 a2 a5 a6 8) % a2 else 0

/-- the place of the address ahead of x (at 0: no place) -/
def LastIs (a1 a2 a5 a6 x lr li lk : Int) : Prop :=
  (x = 0 ∧ lr = 0 ∧ li = 0 ∧ lk = 0) ∨ ∃ n : Nat, n < 13 ∧ inReg a1 a2 a5 a6 n (x - 1) ∧ lr = (n : Int) + 1 ∧ li = plI a1 a2 a5 a6 n (x - 1) ∧ lk = plK a1 a2 a5 a6 n (x - 1)

theorem inReg_unique {a1 a2 a5 a6 x : Int} (h1 : 1 ≤ a1 ∧ a1 ≤ 16) (h5 : 1 ≤ a5 ∧ a5 ≤ 1024) (h6 : 1 ≤ a6 ∧ a6 ≤ 64) (hm : 3 ≤ a1 * a2 ∧ a1 * a2 ≤ 128) {n m : Nat}
    (hn : inReg a1 a2 a5 a6 n x) (hm' : inReg a1 a2 a5 a6 m x) : n = m := by
  obtain ⟨n1, n2⟩ := hn
  obtain ⟨m1, m2⟩ := hm'
  rcases Nat.lt_trichotomy n m with h | h | h
  · have := baseF_mono h1 h5 h6 hm (show n + 1 ≤ m by omega); omega
  · exact h
  · have := baseF_mono h1 h5 h6 hm (show m + 1 ≤ n by omega); omega

theorem div_next (q a2 : Int) (h2 : 3 ≤ a2 ∧ a2 ≤ 8) (_hq : 1 ≤ q) :
    (q / a2 = (q - 1) / a2 ∧ q % a2 = (q - 1) % a2 + 1) ∨ (q / a2 = (q - 1) / a2 + 1 ∧ q % a2 = 0) := by
  rcases (by omega : a2 = 3 ∨ a2 = 4 ∨ a2 = 5 ∨ a2 = 6 ∨ a2 = 7 ∨ a2 = 8) with rfl | rfl | rfl | rfl | rfl | rfl <;> omega

theorem place_ok {a0 a1 a2 a3 a4 a5 a6 x : Int} (h : okCfg a0 a1 a2 a3 a4 a5 a6 = true) {n : Nat} (hn : n < 13) (hr : inReg a1 a2 a5 a6 n x) :
    addrOk a1 a2 a5 a6 ((n : Int) + 1) (plI a1 a2 a5 a6 n x) (plK a1 a2 a5 a6 n x) = true ∧ addrAt a1 a2 a5 a6 ((n : Int) + 1) (plI a1 a2 a5 a6 n x) (plK a1 a2 a5 a6 n x) = x ∧
    (0 ≤ plI a1 a2 a5 a6 n x ∧ plI a1 a2 a5 a6 n x ≤ 1024) ∧ (0 ≤ plK a1 a2 a5 a6 n x ∧ plK a1 a2 a5 a6 n x ≤ 8) := by
  obtain ⟨b0, b1, b2, b3, b4, b5, b6, bm⟩ := ok_bounds h
  obtain ⟨r1, r2⟩ := hr
  have hb' := manyI_bd b1 b5 b6 bm ((n : Int) + 1)
  have hs : baseF a1 a2 a5 a6 (n + 1) = baseF a1 a2 a5 a6 n + manyI a1 a2 a5 a6 ((n : Int) + 1) := rfl
  by_cases h8 : n = 8
  · subst h8
    have hm9 : manyI a1 a2 a5 a6 (((8 : Nat) : Int) + 1) = a1 * a2 := rfl
    have q0 : 0 ≤ x - baseF a1 a2 a5 a6 8 := by omega
    have q1 : x - baseF a1 a2 a5 a6 8 < a1 * a2 := by omega
    have d0 : 0 ≤ (x - baseF a1 a2 a5 a6 8) / a2 := Int.ediv_nonneg q0 (by omega)
    have d1 : (x - baseF a1 a2 a5 a6 8) / a2 < a1 := Int.ediv_lt_of_lt_mul (by omega) q1
    have e0 : 0 ≤ (x - baseF a1 a2 a5 a6 8) % a2 := Int.emod_nonneg _ (by omega)
    have e1 : (x - baseF a1 a2 a5 a6 8) % a2 < a2 := Int.emod_lt_of_pos _ (by omega)
    have s0 : (x - baseF a1 a2 a5 a6 8) / a2 * a2 + (x - baseF a1 a2 a5 a6 8) % a2 = x - baseF a1 a2 a5 a6 8 := by
      rw [Int.mul_comm]; exact Int.mul_ediv_add_emod _ _
    simp only [plI, plK, if_true]
    refine ⟨?_, ?_, by omega, by omega⟩
    · simp only [addrOk, Bool.and_eq_true, decide_eq_true_eq]
      rw [if_pos (by omega)]
      simp only [Bool.and_eq_true, decide_eq_true_eq]
      refine ⟨⟨⟨⟨by omega, by omega⟩, by omega⟩, by omega⟩, by omega, by omega⟩
    · unfold addrAt
      rw [if_pos (by omega), show (((8 : Nat) : Int) + 1 - 1).toNat = 8 by omega]
      omega
  · simp only [plI, plK, if_neg h8]
    refine ⟨?_, ?_, by omega, by omega⟩
    · simp only [addrOk, Bool.and_eq_true, decide_eq_true_eq]
      rw [if_neg (by omega)]
      simp only [Bool.and_eq_true, decide_eq_true_eq]
      refine ⟨⟨⟨⟨by omega, by omega⟩, by omega⟩, by omega⟩, trivial, by omega⟩
    · unfold addrAt
      rw [if_neg (by omega), show ((n : Int) + 1 - 1).toNat = n by omega]
      omega

theorem place_at {a0 a1 a2 a3 a4 a5 a6 x : Int} (h : okCfg a0 a1 a2 a3 a4 a5 a6 = true) {n : Nat} (hn : n < 13) (hr : inReg a1 a2 a5 a6 n x) :
    AtIs a0 a1 a2 a3 a4 a5 a6 x ((n : Int) + 1) (plI a1 a2 a5 a6 n x) (plK a1 a2 a5 a6 n x) := by
  by_cases h8 : n = 8
  · subst h8
    exact ⟨fun w => at_nine a0 a1 a2 a3 a4 a5 a6 x h hr w, fun w => rat_nine a0 a1 a2 a3 a4 a5 a6 x h hr w⟩
  · simp only [plI, plK, if_neg h8]
    exact ⟨fun w => at_one a0 a1 a2 a3 a4 a5 a6 x n h hn h8 hr w, fun w => rat_one a0 a1 a2 a3 a4 a5 a6 x n h hn h8 hr w⟩

/-- The next place, and how it stands to the last one. -/
theorem next_place {a0 a1 a2 a3 a4 a5 a6 x lr li lk : Int} (h : okCfg a0 a1 a2 a3 a4 a5 a6 = true) (hx0 : 0 ≤ x) (hx : x < baseF a1 a2 a5 a6 13) (hl : LastIs a1 a2 a5 a6 x lr li lk) :
    ∃ r i k, AtIs a0 a1 a2 a3 a4 a5 a6 x r i k ∧ addrOk a1 a2 a5 a6 r i k = true ∧ addrAt a1 a2 a5 a6 r i k = x ∧ LastIs a1 a2 a5 a6 (x + 1) r i k ∧
      ((r = lr ∧ i = li ∧ k = lk + 1) ∨ (r = lr ∧ i = li + 1 ∧ k = 0) ∨ (r = lr + 1 ∧ i = 0 ∧ k = 0)) ∧ (0 ≤ lr ∧ lr ≤ 13) ∧ (0 ≤ li ∧ li ≤ 1024) ∧ (0 ≤ lk ∧ lk ≤ 8) := by
  obtain ⟨b0, b1, b2, b3, b4, b5, b6, bm⟩ := ok_bounds h
  obtain ⟨n, hn, hr⟩ := inReg_some hx0 13 hx
  obtain ⟨o1, o2, _, _⟩ := place_ok h hn hr
  refine ⟨_, _, _, place_at h hn hr, o1, o2, .inr ⟨n, hn, by rw [show x + 1 - 1 = x by omega]; exact hr, rfl, by rw [show x + 1 - 1 = x by omega], by rw [show x + 1 - 1 = x by omega]⟩, ?_⟩
  rcases hl with ⟨rfl, rfl, rfl, rfl⟩ | ⟨n', hn', hr', rfl, rfl, rfl⟩
  · have h1 : inReg a1 a2 a5 a6 0 0 := ⟨by simp [baseF], by simp [baseF, manyI]⟩
    obtain rfl := inReg_unique b1 b5 b6 bm hr h1
    exact ⟨.inr (.inr ⟨rfl, by simp [plI, baseF], by simp [plK]⟩), by omega, by omega, by omega⟩
  · obtain ⟨_, _, l3, l4⟩ := place_ok h hn' hr'
    refine ⟨?_, by omega, l3, l4⟩
    have hs : baseF a1 a2 a5 a6 (n' + 1) = baseF a1 a2 a5 a6 n' + manyI a1 a2 a5 a6 ((n' : Int) + 1) := rfl
    by_cases hin : x < baseF a1 a2 a5 a6 (n' + 1)
    · have hx' : inReg a1 a2 a5 a6 n' x := ⟨by have := hr'.1; omega, hin⟩
      obtain rfl := inReg_unique b1 b5 b6 bm hr hx'
      by_cases h8 : n = 8
      · subst h8
        simp only [plI, plK, if_true]
        have hq : 1 ≤ x - baseF a1 a2 a5 a6 8 := by have := hr'.1; omega
        have := div_next (x - baseF a1 a2 a5 a6 8) a2 b2 hq
        rw [show x - 1 - baseF a1 a2 a5 a6 8 = x - baseF a1 a2 a5 a6 8 - 1 by omega]
        rcases this with ⟨e1, e2⟩ | ⟨e1, e2⟩
        · exact .inl ⟨trivial, e1, e2⟩
        · exact .inr (.inl ⟨trivial, e1, e2⟩)
      · simp only [plI, plK, if_neg h8]
        exact .inr (.inl ⟨trivial, by omega, trivial⟩)
    · have hxe : x = baseF a1 a2 a5 a6 (n' + 1) := by have := hr'.2; omega
      have hb' := manyI_bd b1 b5 b6 bm (((n' + 1 : Nat) : Int) + 1)
      have hs' : baseF a1 a2 a5 a6 (n' + 1 + 1) = baseF a1 a2 a5 a6 (n' + 1) + manyI a1 a2 a5 a6 (((n' + 1 : Nat) : Int) + 1) := rfl
      have hx' : inReg a1 a2 a5 a6 (n' + 1) x := ⟨by omega, by omega⟩
      obtain rfl := inReg_unique b1 b5 b6 bm hr hx'
      refine .inr (.inr ⟨by omega, ?_, ?_⟩)
      · unfold plI
        split
        · rename_i h8; rw [h8] at hxe; rw [hxe]; simp
        · omega
      · unfold plK
        split
        · rename_i h8; rw [h8] at hxe; rw [hxe]; simp
        · rfl

theorem last_end {a0 a1 a2 a3 a4 a5 a6 lr li lk : Int} (h : okCfg a0 a1 a2 a3 a4 a5 a6 = true) (hl : LastIs a1 a2 a5 a6 (baseF a1 a2 a5 a6 13) lr li lk) : lr = 13 ∧ li = a5 - 1 ∧ lk = 0 := by
  obtain ⟨b0, b1, b2, b3, b4, b5, b6, bm⟩ := ok_bounds h
  have hb := baseF_bd b1 b5 b6 bm 13
  rcases hl with ⟨h0, _⟩ | ⟨n, hn, hr, rfl, rfl, rfl⟩
  · omega
  · have hs : baseF a1 a2 a5 a6 13 = baseF a1 a2 a5 a6 12 + a5 := by rfl
    have hx' : inReg a1 a2 a5 a6 12 (baseF a1 a2 a5 a6 13 - 1) := ⟨by omega, by show _ < baseF a1 a2 a5 a6 13; omega⟩
    obtain rfl := inReg_unique b1 b5 b6 bm hr hx'
    refine ⟨by omega, ?_, rfl⟩
    show baseF a1 a2 a5 a6 13 - 1 - baseF a1 a2 a5 a6 12 = _
    omega

theorem size_sum {a1 a2 a5 a6 : Int} : baseF a1 a2 a5 a6 13 = 6 + a6 + a1 + a1 * a2 + 4 * a5 := by
  have : baseF a1 a2 a5 a6 13 = 0 + 1 + 1 + 1 + 1 + 1 + 1 + a6 + a1 + a1 * a2 + a5 + a5 + a5 + a5 := rfl
  omega

end Go.Proofs.Ytaokjiajceefaaa
