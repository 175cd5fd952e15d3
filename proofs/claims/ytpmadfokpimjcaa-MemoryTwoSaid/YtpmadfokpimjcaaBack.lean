/-
memory.Back.
-/
import Derived.Test.YtpmadfokpimjcaaBackP
import Derived.Test.YtpmadfokpimjcaaLogA
import Derived.Test.YtpmadfokpimjcaaTail
namespace Go.Proofs.Ytpmadfokpimjcaa
open Go.ChangeShapes Go.WideShapes Go.ChangeAt Go.RowKit

theorem back_bad {w : World} {base mb : Nat} {st : MemS} {v : MemV} (h : MemAt w base mb st v) (c : Int) (hc : c < 0 ∨ (st.log.length : Int) < c) :
    Calls Try.prog 29 #[.pointer (some ⟨mb, 0, none⟩), .int .i64 c] w fun e w' => e = .returned (.int .i64 21) ∧ w = w' := by
  have HC := Lib.hid (count_mem h)
  rcases hc with hc | hc
  all_goals
    go_enter Try.func29, Try.ntmps29
    go_wp2_with (go_at_call 17; refine HC.out.mono ?_; rintro e w1 ⟨rfl, rfl⟩)
    go_ret
    exact ⟨rfl, rfl⟩

set_option maxRecDepth 100000 in
set_option maxHeartbeats 4000000 in
theorem back_ok {w : World} {base mb : Nat} {st : MemS} {v : MemV} (h : MemAt w base mb st v) (hf : Fine st) (hl : st.log.length ≤ 3000000000000) (c : Nat) (hc : c ≤ st.log.length) :
    Calls Try.prog 29 #[.pointer (some ⟨mb, 0, none⟩), .int .i64 (c : Int)] w fun e w' => e = .returned (.int .i64 0) ∧ MemOut w base mb v (st.back c) w' := by
  have HC := Lib.hid (count_mem h)
  have HM := Lib.hid h
  have HF := Lib.hid hf
  have hd0 : decide (st.log.length < c) = false := by simp; omega
  have hd1 : decide ((st.log.length : Int) < (c : Int)) = false := by simp; omega
  have hd2 : decide ((c : Int) < 0) = false := by simp
  obtain ⟨c0, c1, c2, c3, z, lt⟩ := h.head
  obtain ⟨ow, cw, ol, cl, oa, ca, rfl, l1, l2, l3, m1, m2, m3⟩ := h.slices
  have L2 := Lib.hid l2
  have L3 := Lib.hid l3
  clear h hf
  go_enter Try.func29, Try.ntmps29
  go_wp2_with (go_at_call 17; refine HC.out.mono ?_; rintro e w1 ⟨rfl, rfl⟩)
  clear c0 c1 c2 c3 z lt HC
  go_loopg [5] st.log.length (fun g sl wr => ∃ (p : Nat) (x : Int), c ≤ p ∧ p ≤ st.log.length ∧ p ≤ c + g ∧ x = (p : Int) - 1 ∧ sl = .int .i64 x ∧ Hid (MemAt wr base mb { st with words := undoN st (st.log.length - p) } ⟨.slice ow st.words.length cw, .slice ol st.log.length cl, .slice oa st.ahead.length ca⟩) ∧ Hid (Only (MemV.own ⟨.slice ow st.words.length cw, .slice ol st.log.length cl, .slice oa st.ahead.length ca⟩ mb) w wr))
  case atStart => exact ⟨st.log.length, (st.log.length : Int) - 1, hc, Nat.le_refl _, by omega, rfl, by first | rfl | go_num, by rw [Nat.sub_self]; exact HM, Lib.hid (Only.refl _ _)⟩
  case round =>
    obtain ⟨p, x, hcp, hpl, hg, hx, rfl, hMk, hOk⟩ := hrel
    by_cases hpc : c < p
    · obtain ⟨q, rfl⟩ : ∃ q, p = q + 1 := ⟨p - 1, by omega⟩
      obtain rfl : x = (q : Int) := by omega
      clear hx
      have hq : q < st.log.length := by omega
      obtain ⟨c0, c1, c2, c3, z, lt⟩ := hMk.out.head
      obtain ⟨ga, da, ea, _, _, sa, _, _, xa⟩ := hMk.out.ra.some_form (by have := HF.out.ahead; show 0 < st.ahead.length; omega)
      obtain ⟨gl, dl, el, _, _, sl, _, _, xl⟩ := hMk.out.rl.some_form (by show 0 < st.log.length; omega)
      have had := HF.out.addr (st.log.getD q default) (by rw [show st.log.getD q default = st.log[q] by simp [List.getD, hq]]; exact List.getElem_mem _)
      have hwl := undoN_len st (st.log.length - (q + 1))
      obtain ⟨gw, dw, ew, _, _, sw, tw, zw, xw⟩ := hMk.out.rw.some_form (by show 0 < (undoN st (st.log.length - (q + 1))).length; omega)
      have ya := xa q _ (u64s_get (by have := HF.out.ahead; show q < st.ahead.length; omega))
      have yl := xl (q * 7 + 3) _ (accs_get st.log q 3 hq (by omega))
      simp only [hwl] at ea el ew ya yl c0 c1 c2
      cases ea
      cases el
      cases ew
      have hun : undoN st (st.log.length - q) = (undoN st (st.log.length - (q + 1))).set (st.log.getD q default).ad.toNat (st.ahead.getD q 0) := by
        rw [show st.log.length - q = (st.log.length - (q + 1)) + 1 by omega]
        show (undoN st _).set _ _ = _
        rw [show st.log.length - 1 - (st.log.length - (q + 1)) = q by omega]
        rfl
      have HUN := Lib.hid hun
      have TW := Lib.hid tw
      have HWL := Lib.hid hwl
      clear xa xl hun tw hwl
      generalize st.log.getD q default = a at *
      generalize st.ahead.getD q 0 = ah at *
      obtain ⟨mv, th, kd, ad, old, nw, saw⟩ := a
      simp only at yl had
      obtain ⟨j, rfl⟩ : ∃ j : Nat, ad = (j : Int) := ⟨ad.toNat, by omega⟩
      have hj : j < st.words.length := by omega
      have yw := xw j _ (u64s_get (by show j < (undoN st _).length; rw [HWL.out]; exact hj))
      have zw' := zw j
      generalize (undoN st (st.log.length - (q + 1))).getD j 0 = yy at yw
      clear xw zw
      have hqa : q < st.ahead.length := by rw [HF.out.ahead]; exact hq
      go_wp2
      refine wp_region_more_tail 20 (by kernel_rfl) (by kernel_rfl) ?_
      simp only [List.take_succ_cons, List.take_zero, List.drop_succ_cons, List.drop_zero]
      repeat (first | go_big_quiet_skip | (go_big_quiet_want; go_big_quiet_op; first | go_big_quiet_on | (apply Exists.intro; refine ⟨fun _ => ?_, ?_⟩; (focus (fail)); go_big_quiet_on)))
      refine wpQuiet_nil ?_
      intro osq dq
      go_wp2
      go_roundg (q - c)
      case measure => omega
      case rel =>
        refine ⟨q, (q : Int) - 1, by omega, by omega, by omega, rfl, by go_num, Lib.hid ?_, Lib.hid ?_⟩
        · have hu := HUN.out
          simp only [Int.toNat_natCast] at hu
          rw [hu]
          exact (hMk.out.undo TW.out (by show j < (undoN st _).length; rw [HWL.out]; exact hj) ah).more osq dq
        · exact (hOk.out.set (p := ⟨gw, j, none⟩) (.inl (.inr (.inl TW.out))) _).more osq dq
    · obtain rfl : p = c := by omega
      have hd : decide ((p : Int) ≤ x) = false := by simp; omega
      clear hx
      obtain ⟨c0, c1, c2, c3, z, lt⟩ := hMk.out.head
      simp only at c0 c1 c2 c3
      have lc2 : p ≤ cl := by have := L2.out; omega
      have lc3 : p ≤ ca := by have := L3.out; have := HF.out.ahead; omega
      have FIN : Hid (∀ w', w' = (wr.setCell ⟨mb, 1, none⟩ (.slice ol p p)).setCell ⟨mb, 2, none⟩ (.slice oa p p) → MemOut w base mb ⟨.slice ow st.words.length cw, .slice ol st.log.length cl, .slice oa st.ahead.length ca⟩ (st.back p) w') := by
        rintro w' rfl
        refine ⟨⟨.slice ow st.words.length cw, .slice ol p p, .slice oa p p⟩, ?_, (hOk.out.set (p := ⟨mb, 1, none⟩) (.inl (.inl rfl)) _).set (p := ⟨mb, 2, none⟩) (.inl (.inl rfl)) _, ?_⟩
        · have h1 := hMk.out
          have hwl := undoN_len st (st.log.length - p)
          rw [← hwl] at h1 ⊢
          exact h1.cut HF.out.ahead (by show p ≤ st.log.length; omega)
        · rintro k (hk | hk | hk | hk)
          · exact .inl (.inl hk)
          · exact .inl (.inr (.inl hk))
          · exact .inl (.inr (.inr (.inl (rowBlock_cut lc2 hk))))
          · exact .inl (.inr (.inr (.inr (rowBlock_cut lc3 hk))))
      rcases ol with _ | al
      all_goals rcases oa with _ | aa
      all_goals
        go_wp2
        go_ret
        exact ⟨rfl, FIN.out _ rfl⟩
end Go.Proofs.Ytpmadfokpimjcaa
