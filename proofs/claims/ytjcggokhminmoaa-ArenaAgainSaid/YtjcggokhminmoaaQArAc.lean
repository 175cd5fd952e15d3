/-
ArenaAgain, plain: the whole chain, from the beginning on.
-/
import Derived.Test.YtjcggokhminmoaaQArLw
namespace Go
open Go.RowKit
open Go.Proofs.Ytjcggokhminmoaa
section
variable {ab : Nat} {a0 a1 a2 a3 a4 a5 a6 : Int}
theorem arP_sti : StI (arP ab a0 a1 a2 a3 a4 a5 a6 0) := by
  intro k y hy
  have hy' : (arNew a0 a1 a2 a3 a4 a5 a6 0).slots[k]? = some y := hy
  have hk := (List.getElem?_eq_some_iff.1 hy').1
  have := arNew_slot (c0 := a0) (c1 := a1) (c2 := a2) (c3 := a3) (c4 := a4) (c5 := a5) (c6 := a6) (u := 0) _ rfl hk
  rw [this] at hy'
  rw [← Option.some.inj hy']
  exact .inl rfl
theorem restN_good {p : PM (arK ab)} (h : p.Good) (i : Int) : ∀ m, (restN p i m).Good := by
  intro m
  induction m generalizing p with
  | zero => exact h
  | succ m ih =>
    show (if p.busyB i then restN (p.move (stepMv i)).1 i m else p).Good
    split
    · exact ih (PM.Good.move (arK_ok ab) h _)
    · exact h
theorem agA_good {p : PM (arK ab)} (h : p.Good) : ∀ k, (agA p k).Good
  | 0 => h
  | k + 1 => restN_good (agA_good h k) _ _
theorem agB_good {p : PM (arK ab)} (h : p.Good) : ∀ k, (agB p k).Good
  | 0 => h
  | k + 1 => by
    show (if (agB p k).s.st k = 2 then restN ((agB p k).move ⟨((agB p k).s.slot k).2, 11, k, 0⟩).1 ((agB p k).s.slot k).2 400 else agB p k).Good
    split
    · exact restN_good (PM.Good.move (arK_ok ab) (agB_good h k) _) _ _
    · exact agB_good h k
theorem agC_good {p : PM (arK ab)} (h : p.Good) : ∀ k, (agC p k).Good
  | 0 => h
  | k + 1 => restN_good (PM.Good.move (arK_ok ab) (agC_good h k) _) _ _
theorem agD_good {p : PM (arK ab)} (h : p.Good) : ∀ k, (agD p k).Good
  | 0 => h
  | k + 1 => restN_good (PM.Good.move (arK_ok ab) (agD_good h k) _) _ _
/-- the stages of the law, from p1 on -/
structure AgAll (p1 p2 p3 p4 : PM (arK ab)) (T N : Nat) : Prop where
  g1 : p1.Good
  g2 : p2.Good
  g3 : p3.Good
  g4 : p4.Good
  e2 : p2 = agA p1 T
  e3 : p3 = agB p2 N
  e4 : p4 = agC p3 T
  nB : ∀ k, k < N → (agB p2 k).s.n = N
  cnt : cntUpto p4.s.slots 0 p4.s.slots.length = N
  n4 : p4.s.n = N
  d : ∀ n, n ≤ N → AgD p4 n
  next : ∀ n, n < N → ∃ (c : Cal) (k : Nat), (agD p4 (n + 1)).callR 0 = (c, true) ∧ c.ak = 2 ∧ c.av = (k : Int) ∧ k < N ∧ k ∉ agSeen p4 n ∧ agSeen p4 (n + 1) = k :: agSeen p4 n
  last : ∃ c : Cal, (agD p4 (N + 1)).callR 0 = (c, true) ∧ c.ak = 4
theorem st_out {s : ArS} {j : Nat} (h : s.n ≤ j) : s.st j = 0 := by
  unfold ArS.st
  rw [List.getD_eq_getElem?_getD, List.getElem?_eq_none (by unfold ArS.n at h; exact h)]
  rfl
theorem cnt_all {l : List (Int × Int)} (h : ∀ (k : Nat) (y : Int × Int), l[k]? = some y → y.1 = 0) : cntUpto l 0 l.length = l.length := by
  unfold cntUpto
  rw [List.take_length, List.filter_eq_self.2]
  intro y hy
  obtain ⟨k, hk, rfl⟩ := List.getElem_of_mem hy
  simpa using h k _ (List.getElem?_eq_getElem hk)
theorem ag_all (h : okCfg a0 a1 a2 a3 a4 a5 a6 = true) {ms : List Mv} (hl : ms.length ≤ 50000) {T N : Nat} (hT : a0 = (T : Int)) (hN : a5 = (N : Int)) :
    ∃ p2 p3 p4, AgAll ((arP ab a0 a1 a2 a3 a4 a5 a6 0).goes ms) p2 p3 p4 T N := by
  obtain ⟨b0, b1, b2, b3, b4, b5, b6, bm⟩ := ok_bounds h
  have hA1 := arP_ahN (ab := ab) (u := 0) h (by omega) ms
  have hS1 := (arP_sti (ab := ab) (a0 := a0) (a1 := a1) (a2 := a2) (a3 := a3) (a4 := a4) (a5 := a5) (a6 := a6)).runs (arP_ah h (by omega)) ms
  have hG1 := arP_goodN (ab := ab) (u := 0) h ms
  have hL1 := arP_len (ab := ab) (a0 := a0) (a1 := a1) (a2 := a2) (a3 := a3) (a4 := a4) (a5 := a5) (a6 := a6) (u := 0) ms
  have hM1 := PM.moves_goes (arP ab a0 a1 a2 a3 a4 a5 a6 0) ms
  have hM0 : (arP ab a0 a1 a2 a3 a4 a5 a6 0).moves = 0 := rfl
  have hN1 : ((arP ab a0 a1 a2 a3 a4 a5 a6 0).goes ms).s.n = N := by
    have key : ∀ (ms : List Mv) (p : PM (arK ab)), AH p → (p.goes ms).s.n = p.s.n := by
      intro ms
      induction ms with
      | nil => exact fun _ _ => rfl
      | cons m ms ih =>
        intro p hA
        show ((p.move m).1.goes ms).s.n = _
        rw [ih _ (hA.move m)]
        exact (AH.goes (I := fun q : PM (arK ab) => q.s.n = p.s.n) (fun _ _ _ h => h) (fun q i se t o _ _ _ _ k _ h => by rw [k.s, (astep_same k.st).1]; exact h) (fun _ _ _ _ _ _ _ _ _ _ _ _ _ h => h) hA rfl m).2
    rw [key ms _ (arP_ah h (by omega))]
    show (arNew a0 a1 a2 a3 a4 a5 a6 0).n = N
    simp [arNew, ArS.n]
    omega
  generalize (arP ab a0 a1 a2 a3 a4 a5 a6 0).goes ms = p1 at *
  have hT1 : p1.seats.length = T := by omega
  obtain ⟨hA2, hS2, hL2, hI2, hM2⟩ := agA_idle hA1 hS1 (by omega)
  rw [hT1] at hA2 hS2 hL2 hI2 hM2
  have hN2 : (agA p1 T).s.n = N := by
    have key : ∀ k, k ≤ T → (agA p1 k).s.n = N := by
      intro k
      induction k with
      | zero => exact fun _ => hN1
      | succ k ih =>
        intro hk
        obtain ⟨x1, x2, x3, x4, x5⟩ := agA_ok hA1 hS1 k (by omega) (by omega)
        have e : agA p1 (k + 1) = restN (agA p1 k) k 195 := by
          obtain ⟨b1, b2, b3, b4⟩ := rest_ind (I := fun _ => True) (i := k) (fun _ _ _ _ _ _ _ _ _ => trivial) 195 x1 trivial (by omega) (fun se t hs ht => need_small x1.pa hs ht)
          show restN (agA p1 k) k (195 + 205) = _
          exact restN_more _ 195 205 _ b3
        rw [e]
        exact (rest_ind (I := fun q : PM (arK ab) => q.s.n = N) (i := k) (fun q se t o _ _ _ kk hq => by rw [kk.s, (astep_same kk.st).1]; exact hq) 195 x1 (ih (by omega)) (by omega) (fun se t hs ht => need_small x1.pa hs ht)).2.1
    exact key T (Nat.le_refl _)
  have hB : ∀ k, k ≤ N → _ := fun k hk => agB_ok hA2 hS2 hI2 k (by rw [hN2]; exact hk) (by omega)
  obtain ⟨hA3, hS3, hI3, hL3, hN3, hT3, hM3⟩ := hB N (Nat.le_refl _)
  have hst3 : ∀ j, (agB (agA p1 T) N).s.st j ≠ 2 := fun j => by
    by_cases hj : j < N
    · exact hT3 j hj
    · have e0 := st_out (s := (agB (agA p1 T) N).s) (j := j) (Nat.le_trans (Nat.le_of_eq (hN3.trans hN2)) (Nat.le_of_not_lt hj))
      intro e
      exact absurd (e.symm.trans e0) (by decide)
  obtain ⟨hA4, hS4, hI4, hL4, hN4, hT4, hC4, hM4⟩ := agC_ok hA3 hS3 hI3 hst3 T (by rw [hL3, hL2]; omega) (by omega)
  have hNN : (agC (agB (agA p1 T) N) T).s.n = N := by rw [hN4, hN3, hN2]
  have hfree := agC_free hA4 hS4 hT4 (fun j hj => hC4 j (by rw [hL4, hL3, hL2] at hj; exact hj))
  have hcs : ∀ (j : Nat) (c : List Int), (agC (agB (agA p1 T) N) T).s.caches[j]? = some c → c = [] := fun j c hc => by
    have hj := (List.getElem?_eq_some_iff.1 hc).1
    rw [← hA4.pa.len, hL4, hL3, hL2] at hj
    rw [hC4 j hj] at hc
    exact (Option.some.inj hc).symm
  have h0 : 0 < (agC (agB (agA p1 T) N) T).seats.length := by rw [hL4, hL3, hL2]; omega
  have hd : ∀ n, n ≤ N → AgD (agC (agB (agA p1 T) N) T) n := by
    intro n
    induction n with
    | zero => exact fun _ => agD_zero hA4 hI4 hcs hfree
    | succ n ih => exact fun hn => (agD_next (ih (by omega)) h0 (by omega) (by rw [hNN]; omega)).1
  refine ⟨_, _, _, ⟨hG1, agA_good hG1 T, agB_good (agA_good hG1 T) N, agC_good (agB_good (agA_good hG1 T) N) T, rfl, rfl, rfl, fun k hk => ?_, ?_, hNN, hd, fun n hn => ?_, ?_⟩⟩
  · obtain ⟨_, _, _, _, y, _, _⟩ := hB k (by omega)
    rw [y, hN2]
  · rw [cnt_all (fun k y hy => ?_)]
    · exact hNN
    · have hk := (getD_n hy).1
      rw [← st_of hy]
      exact hfree k hk
  · obtain ⟨_, c, k, h1, h2, h3, h4, h5⟩ := agD_next (hd n (by omega)) h0 (by omega) (by rw [hNN]; exact hn)
    refine ⟨c, k, h1, h2, h3, by rw [hNN] at h4; exact h4, h5, ?_⟩
    show ((agD _ (n + 1)).callR 0).1.av.toNat :: _ = _
    rw [h1]
    simp only
    rw [h3, Int.toNat_natCast]
  · have := agD_last (by rw [hNN]; exact hd N (Nat.le_refl _)) h0 (by rw [hNN]; omega)
    rw [hNN] at this
    exact this
end
end Go
