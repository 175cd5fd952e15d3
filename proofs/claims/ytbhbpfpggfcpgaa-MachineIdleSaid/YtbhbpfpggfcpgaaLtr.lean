/-
How a later machine goes on from an earlier one (OS.Later). Plain.
-/
import Derived.Test.YtbhbpfpggfcpgaaHis
namespace Go
open Go.RowKit
open Go.Proofs.Ytbhbpfpggfcpgaa

structure OS.Later (o o' : OS) : Prop where
  logp : ∀ (k : Nat) (a : Acc), o.log[k]? = some a → o'.log[k]? = some a
  logn : ∀ (k : Nat) (a : Acc), o.log.length ≤ k → o'.log[k]? = some a → (o.moves : Int) ≤ a.mv
  callp : ∀ (ci : Nat) (c : Cal), o.calls[ci]? = some c → ∃ c', o'.calls[ci]? = some c' ∧ c'.th = c.th ∧ c'.op = c.op ∧ c'.arg = c.arg ∧ c'.data = c.data ∧ c'.beg = c.beg ∧ (c' = c ∨ (c.en = -1 ∧ (o.moves : Int) ≤ c'.en ∧ c'.pt = c'.en))
  calln : ∀ (ci : Nat) (c' : Cal), o.calls.length ≤ ci → o'.calls[ci]? = some c' → (o.moves : Int) ≤ c'.beg
  mle : o.moves ≤ o'.moves

theorem OS.Later.refl (o : OS) : OS.Later o o :=
  ⟨fun _ _ h => h, fun k a hk h => by have := (List.getElem?_eq_some_iff.1 h).1; omega, fun ci c h => ⟨c, h, rfl, rfl, rfl, rfl, rfl, .inl rfl⟩, fun ci c hk h => by have := (List.getElem?_eq_some_iff.1 h).1; omega, Nat.le_refl _⟩
theorem OS.Later.len {o o' : OS} (h : OS.Later o o') : o.calls.length ≤ o'.calls.length ∧ o.log.length ≤ o'.log.length := by
  constructor
  · rcases Nat.eq_zero_or_pos o.calls.length with h0 | h0
    · omega
    · obtain ⟨c', hc, _⟩ := h.callp (o.calls.length - 1) _ (List.getElem?_eq_getElem (by omega))
      have := (List.getElem?_eq_some_iff.1 hc).1; omega
  · rcases Nat.eq_zero_or_pos o.log.length with h0 | h0
    · omega
    · have hc := h.logp (o.log.length - 1) _ (List.getElem?_eq_getElem (by omega))
      have := (List.getElem?_eq_some_iff.1 hc).1; omega
theorem OS.Later.move {l : List Int} {n : Nat} {pre : List Mv} {o o' : OS} (h : OS.Later o o') (hI : OS.Inv l n pre o') (hlt : pre.length < 65536) (mv : Mv) : OS.Later o (o'.move l.length mv).1 := by
  have hm := h.mle
  have hl := h.len
  rcases hI.way hlt mv with e | ⟨i, ci, se, t, c, ae, x, over, e, S, hi, hop, hs, hta, q1, q2, q3, q4, q5, q6, q7, q8⟩ | ⟨i, se, t, e, hi, hs, hta, hop, hmk⟩
  · rw [e]; exact ⟨h.logp, h.logn, h.callp, h.calln, Nat.le_succ_of_le hm⟩
  · rw [e]
    have hmo := S.moves
    refine ⟨fun k a ha => ?_, fun k a hk ha => ?_, fun cj d hd => ?_, fun cj d hk hd => ?_, by show o.moves ≤ (o'.step i se t).moves; rw [hmo]; omega⟩
    · show (o'.step i se t).log[k]? = _
      rw [S.log]
      have := h.logp k a ha
      rw [List.getElem?_append_left (List.getElem?_eq_some_iff.1 this).1]; exact this
    · have ha' : (o'.step i se t).log[k]? = some a := ha
      rw [S.log] at ha'
      by_cases hkl : k < o'.log.length
      · rw [List.getElem?_append_left hkl] at ha'
        exact h.logn k a hk ha'
      · have : k = o'.log.length := by
          have := (List.getElem?_eq_some_iff.1 ha').1
          simp at this; omega
        subst this
        simp at ha'
        subst ha'
        rw [S.emv.1]; omega
    · obtain ⟨d', p1, p2, p3, p4, p5, p6, p7⟩ := h.callp cj d hd
      show ∃ c', (o'.step i se t).calls[cj]? = some c' ∧ _
      rw [S.calls]
      cases over with
      | false => exact ⟨d', by simpa using p1, p2, p3, p4, p5, p6, p7⟩
      | true =>
        simp only [if_true]
        have hm2 := modify_at (ci := ci) (f := fun c => { c with en := o'.moves, pt := o'.moves, ak := 2, av := wrap64 (o'.at t.addr) }) p1
        by_cases ec : ci = cj
        · rw [if_pos ec] at hm2
          subst ec
          refine ⟨_, hm2, p2, p3, p4, p5, p6, .inr ⟨?_, by show (o.moves : Int) ≤ (o'.moves : Int); omega, rfl⟩⟩
          rw [q2] at p1
          cases p1
          rcases p7 with rfl | ⟨r1, r2, _⟩
          · exact q4
          · exact r1
        · rw [if_neg ec] at hm2
          exact ⟨d', hm2, p2, p3, p4, p5, p6, p7⟩
    · have hd' : (o'.step i se t).calls[cj]? = some d := hd
      rw [S.calls] at hd'
      cases over with
      | false => exact h.calln cj d hk (by simpa using hd')
      | true =>
        simp only [if_true] at hd'
        rcases modify_get hd' with ⟨rfl, d0, hd0, rfl⟩ | ⟨_, hd0⟩
        · exact h.calln cj d0 hk hd0
        · exact h.calln cj d hk hd0
  · rw [e]
    refine ⟨h.logp, h.logn, fun cj d hd => ?_, fun cj d hk hd => ?_, Nat.le_succ_of_le hm⟩
    · obtain ⟨d', p1, p2⟩ := h.callp cj d hd
      refine ⟨d', ?_, p2⟩
      show (o'.calls ++ [_])[cj]? = _
      rw [List.getElem?_append_left (List.getElem?_eq_some_iff.1 p1).1]; exact p1
    · have hd' : (o'.calls ++ [⟨mv.th, mv.op, mv.arg, mv.data, (o'.moves : Int), -1, -1, 0, 0⟩])[cj]? = some d := hd
      by_cases hkl : cj < o'.calls.length
      · rw [List.getElem?_append_left hkl] at hd'
        exact h.calln cj d hk hd'
      · have : cj = o'.calls.length := by
          have := (List.getElem?_eq_some_iff.1 hd').1
          simp at this; omega
        subst this
        simp at hd'
        subst hd'
        show (o.moves : Int) ≤ (o'.moves : Int); omega

theorem later_of (l : List Int) (n : Nat) (ms : List Mv) (hm : ms.length ≤ 65536) (k : Nat) (hk : k ≤ ms.length) : OS.Later (osOf l n (ms.take k)) (osOf l n ms) := by
  have : ∀ j, k ≤ j → j ≤ ms.length → OS.Later (osOf l n (ms.take k)) (osOf l n (ms.take j)) := by
    intro j hkj
    induction j with
    | zero => intro _; obtain rfl : k = 0 := by omega
              exact OS.Later.refl _
    | succ j ih =>
      intro hj
      by_cases e : k = j + 1
      · subst e; exact OS.Later.refl _
      · rw [take_next ms j (by omega), osOf_snoc]
        exact (ih (by omega) (by omega)).move (inv_of l n (ms.take j) (by simp; omega)) (by simp; omega) _
  have h := this ms.length hk (Nat.le_refl _)
  rwa [List.take_length] at h
theorem osOf_next (l : List Int) (n : Nat) (ms : List Mv) (k : Nat) (hk : k < ms.length) : osOf l n (ms.take (k + 1)) = ((osOf l n (ms.take k)).move l.length ms[k]).1 := by
  rw [take_next ms k hk, osOf_snoc]

/-! ### what a move m does, told by the last machine's calls -/

/-- at most one call ends at a move; who ends there answered the counter's word and counted it up -/
theorem ends_at (l : List Int) (n : Nat) (ms : List Mv) (hm : ms.length ≤ 65536) (k : Nat) (hk : k < ms.length) :
    ((∀ (ci : Nat) (c : Cal), (osOf l n ms).calls[ci]? = some c → c.en ≠ (k : Int)) ∧ (osOf l n (ms.take (k + 1))).words = (osOf l n (ms.take k)).words) ∨
    ∃ (ci : Nat) (c : Cal), (osOf l n ms).calls[ci]? = some c ∧ c.en = (k : Int) ∧ (∀ (cj : Nat) (d : Cal), (osOf l n ms).calls[cj]? = some d → d.en = (k : Int) → cj = ci) ∧
      c.av = wrap64 ((osOf l n (ms.take k)).at c.arg) ∧ (osOf l n (ms.take (k + 1))).words = if c.op = 2 then (osOf l n (ms.take k)).words.set c.arg.toNat (IntKind.u64.wrap ((osOf l n (ms.take k)).at c.arg + 1)) else (osOf l n (ms.take k)).words := by
  have hI := inv_of l n (ms.take k) (by simp; omega)
  have hI2 := inv_of l n (ms.take (k + 1)) (by simp; omega)
  have hL := later_of l n ms hm (k + 1) hk
  have hmk : (osOf l n (ms.take k)).moves = k := by rw [hI.moves]; simp; omega
  have hmk2 : (osOf l n (ms.take (k + 1))).moves = k + 1 := by rw [hI2.moves]; simp; omega
  have hnx := osOf_next l n ms k hk
  generalize hO : osOf l n ms = O at *
  generalize hP : osOf l n (ms.take k) = P at *
  generalize hQ : osOf l n (ms.take (k + 1)) = Q at *
  -- a call of the last that ends at k is one of Q's that ends at k
  have hback : ∀ (ci : Nat) (c : Cal), O.calls[ci]? = some c → c.en = (k : Int) → Q.calls[ci]? = some c := by
    intro ci c hc he
    by_cases hlt : ci < Q.calls.length
    · obtain ⟨c', h1, _, _, _, _, _, h2⟩ := hL.callp ci _ (List.getElem?_eq_getElem hlt)
      rw [hc] at h1
      cases h1
      rcases h2 with h2 | ⟨_, h2, _⟩
      · rw [h2]; exact List.getElem?_eq_getElem hlt
      · rw [hmk2] at h2; omega
    · have := hL.calln ci c (by omega) hc
      rw [hmk2] at this
      have hcall := (by rw [← hO] at hc; exact (inv_of l n ms hm).call ci c hc : callOk l n ms (osOf l n ms) ci c)
      obtain ⟨_, _, _, _, _, _, _, _, _, e9⟩ := hcall
      rcases e9 with ⟨e9, _⟩ | ⟨e9, _⟩ <;> omega
  -- no call of P ends at k
  have hno : ∀ (ci : Nat) (c : Cal), P.calls[ci]? = some c → c.en ≠ (k : Int) := by
    intro ci c hc he
    obtain ⟨_, _, _, _, _, _, _, _, _, e9⟩ := hI.call ci c hc
    rcases e9 with ⟨e9, _⟩ | ⟨_, e9, _⟩ <;> omega
  rcases hI.way (by simp; omega) ms[k] with e | ⟨i, ci, se, t, c, ae, x, over, e, S, hi, hop, hs, hta, q1, q2, q3, q4, q5, q6, q7, q8⟩ | ⟨i, se, t, e, hi, hs, hta, hop, hmk'⟩
  · rw [e] at hnx
    refine .inl ⟨fun ci c hc he => ?_, by rw [hnx]; rfl⟩
    have := hback ci c hc he
    rw [hnx] at this
    exact hno ci c this he
  · rw [e] at hnx
    have hnx' : Q = P.step i se t := hnx
    rw [← hnx'] at S
    cases over with
    | false =>
      refine .inl ⟨fun cj d hd he => ?_, (S.goes rfl).2⟩
      have := hback cj d hd he
      rw [S.calls] at this
      exact hno cj d (by simpa using this) he
    | true =>
      have hcq : Q.calls[ci]? = some { c with en := P.moves, pt := P.moves, ak := 2, av := wrap64 (P.at t.addr) } := by
        rw [S.calls]; simp only [if_true]
        have := modify_at (ci := ci) (f := fun c => { c with en := P.moves, pt := P.moves, ak := 2, av := wrap64 (P.at t.addr) }) q2
        rw [if_pos rfl] at this
        exact this
      obtain ⟨c', h1, h2, h3, h4, h5, h6, h7⟩ := hL.callp ci _ hcq
      have hc' : c' = { c with en := P.moves, pt := P.moves, ak := 2, av := wrap64 (P.at t.addr) } := by
        rcases h7 with h7 | ⟨h7, _⟩
        · exact h7
        · simp only at h7; omega
      subst hc'
      refine .inr ⟨ci, _, h1, by show (P.moves : Int) = k; rw [hmk], fun cj d hd he => ?_, by show wrap64 (P.at t.addr) = wrap64 (P.at c.arg); rw [q5], ?_⟩
      · have := hback cj d hd he
        rw [S.calls] at this
        simp only [if_true] at this
        rcases modify_get this with ⟨hj, _⟩ | ⟨_, h0⟩
        · exact hj
        · exact absurd he (hno cj d h0)
      · have := (S.ends rfl).2
        rw [this, q5]
  · rw [e] at hnx
    have hnx' : Q = P.begin i ms[k] t := hnx
    refine .inl ⟨fun cj d hd he => ?_, by rw [hnx']; rfl⟩
    have h0 := hback cj d hd he
    rw [hnx'] at h0
    have hd' : (P.calls ++ [⟨ms[k].th, ms[k].op, ms[k].arg, ms[k].data, (P.moves : Int), -1, -1, 0, 0⟩])[cj]? = some d := h0
    by_cases hkl : cj < P.calls.length
    · rw [List.getElem?_append_left hkl] at hd'
      exact hno cj d hd' he
    · have : cj = P.calls.length := by
        have := (List.getElem?_eq_some_iff.1 hd').1
        simp at this; omega
      subst this
      simp at hd'
      subst hd'
      simp only at he
      omega
end Go
