/-
ArenaHonest, plain: a take that ends; the trace of one that answers Full.
-/
import Derived.Test.YtjcggokhminmoaaQArLw
namespace Go
open Go.RowKit
open Go.Proofs.Ytjcggokhminmoaa
section
variable {ab : Nat} {p : PM (arK ab)}
theorem cnt_none {l : List (Int × Int)} (h : ∀ (k : Nat) (y : Int × Int), l[k]? = some y → y.1 ≠ 0) : cntUpto l 0 l.length = 0 := by
  unfold cntUpto
  rw [List.take_length, List.filter_eq_nil_iff.2]
  · rfl
  · intro y hy
    obtain ⟨k, hk, rfl⟩ := List.getElem_of_mem hy
    simpa using h k _ (List.getElem?_eq_getElem hk)
/-- a call that this move ends, if it is a take -/
theorem hon_move (hA : AH p) (hH : HonI p) {mv : Mv} (hb : p.busyB mv.th = true) (hq : (p.move mv).1.busyB mv.th = false) {c : Cal} (hc : (p.move mv).1.callR mv.th = (c, true)) (hop : c.op = 10) :
    c.ak = 2 ∨ (c.ak = 4 ∧ cntUpto (p.move mv).1.s.slots 0 (p.move mv).1.s.slots.length = 0 ∧ (p.move mv).1.s.cache mv.th = []) := by
  have h0 : 0 ≤ mv.th := by
    rcases Int.lt_or_le mv.th 0 with h | h
    · rw [busyB_out p mv.th (.inl h)] at hb; cases hb
    · exact h
  obtain ⟨i, hi⟩ : ∃ i : Nat, mv.th = (i : Int) := ⟨mv.th.toNat, by omega⟩
  rw [hi] at hb hq hc ⊢
  obtain ⟨se, t, hs, ht⟩ := (busyB_iff p i).1 hb
  rcases p.move_cases mv with ⟨_, e⟩ | ⟨_, e⟩ | ⟨hm, j, sj, tj, hth, hsj, htj, _, e⟩ | ⟨_, j, sj, tj, hth, hsj, htj, _, _, e⟩
  · rw [e] at hq
    exact absurd (hb.symm.trans hq) (by decide)
  · rw [e] at hq
    have : p.skip.busyB (i : Int) = p.busyB (i : Int) := rfl
    rw [this] at hq
    exact absurd (hb.symm.trans hq) (by decide)
  · obtain rfl : j = i := by omega
    rw [hs] at hsj
    cases hsj
    rw [ht] at htj
    cases htj
    rw [e] at hq hc ⊢
    obtain ⟨o, k⟩ := pm_astep hA.pa hs ht
    obtain ⟨l, d, K⟩ := hA.call hs ht k
    have hl := (List.getElem?_eq_some_iff.1 K.at').1
    have hil := (List.getElem?_eq_some_iff.1 hs).1
    have hq6 : (p.step j se t).seats[j]? = some ⟨o.tk, true, se.last, (o.ans.getD (se.ak, se.av)).1, (o.ans.getD (se.ak, se.av)).2⟩ := by rw [k.seats, List.getElem?_set_self hil]
    have hno : o.tk = none := by
      cases ho : o.tk with
      | none => rfl
      | some t2 =>
        exfalso
        have := (busyB_iff (p.step j se t) j).2 ⟨_, t2, hq6, ho⟩
        rw [hq] at this
        cases this
    have hcr : (p.step j se t).callR j = ({ d with en := p.moves, ak := (o.ans.getD (1, 0)).1, av := (o.ans.getD (1, 0)).2 }, true) := by
      unfold PM.callR
      rw [if_neg (by omega), Int.toNat_natCast, hq6]
      simp only
      rw [K.last, if_neg (by omega), K.calls, hno]
      simp only [Option.isNone_none, if_true, Int.toNat_natCast]
      rw [getD_of (List.getElem?_set_self hl)]
    rw [hcr] at hc
    cases hc
    simp only at hop ⊢
    have hop2 : t.op = 10 := by rw [← K.op]; exact hop
    rcases hH.ends hA.pa hs ht k hno hop2 with ⟨v, h1⟩ | ⟨h1, h2, h3, _, _⟩
    · rw [h1]; exact .inl rfl
    · rw [h1]
      refine .inr ⟨rfl, ?_, ?_⟩
      · rw [k.s]
        exact cnt_none (fun kk y hy => by have hk := (getD_n hy).1; rw [← st_of hy]; exact h2 kk hk)
      · rw [k.s]
        exact (cache_eq h3).1
  · obtain rfl : j = i := by omega
    rw [hs] at hsj
    cases hsj
    rw [ht] at htj
    cases htj
/-- is the load seen, among the first k of the trace -/
def honC (c : Cal) (a : Acc) : Bool := (a.mv == c.en) && ((a.th == c.th) && ((a.kd == 1) && ((a.ad == 0) && (a.saw % 4294967296 == 0))))
def honB (log : List Acc) (c : Cal) : Nat → Bool
  | 0 => false
  | k + 1 => honB log c k || (match log[k]? with
    | some a => honC c a
    | none => false)
theorem honB_next {log : List Acc} {c : Cal} {k : Nat} {a : Acc} (h : log[k]? = some a) : honB log c (k + 1) = (honB log c k || honC c a) := by
  show (_ || _) = _
  rw [h]
theorem honB_mono (log : List Acc) (c : Cal) : ∀ (j k : Nat), honB log c j = true → honB log c (j + k) = true
  | _, 0, h => h
  | j, k + 1, h => by
    show (honB log c (j + k) || _) = true
    rw [honB_mono log c j k h]
    rfl
theorem honB_yes (h : HonI p) {j : Nat} {c : Cal} (hj : p.calls[j]? = some c) (hc : c.ak = 4) : honB p.log c p.log.length = true := by
  obtain ⟨x, a, hx, h1, h2, h3, h4, h5⟩ := h.full j c hj hc
  have hl := (List.getElem?_eq_some_iff.1 hx).1
  have e : honB p.log c (x + 1) = true := by
    rw [honB_next hx]
    simp [honC, h1, h2, h3, h4, h5]
  have := honB_mono p.log c (x + 1) (p.log.length - (x + 1)) e
  rwa [show x + 1 + (p.log.length - (x + 1)) = p.log.length by omega] at this
end
end Go
