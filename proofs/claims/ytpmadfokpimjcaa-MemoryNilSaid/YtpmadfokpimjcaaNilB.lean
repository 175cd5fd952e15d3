/-
MemoryNil returns true.
-/
import Derived.Test.YtpmadfokpimjcaaNilA
import Derived.Test.YtpmadfokpimjcaaBack
import Derived.Test.YtpmadfokpimjcaaWrB
namespace Go.Proofs.Ytpmadfokpimjcaa
open Go.ChangeShapes Go.WideShapes Go.ChangeAt Go.RowKit

/-- the world of MemoryNil: the list of the two, and the memory that New did not make -/
structure NS (w : World) (lb mb : Nat) (W : World) : Prop where
  hb : Below w.heap.size w W
  hl : W.heap[lb]? = some (.cells #[.pointer none, .pointer (some ⟨mb, 0, none⟩)] 24 (0, 0))
  hm : ∃ v mv, MemAt W w.heap.size mb ⟨[], [], [], mv⟩ v ∧ ∀ k, v.own mb k → k ≠ lb
section
variable {w W W' : World} {lb mb : Nat} {p : Option Addr}
theorem NS.below (h : NS w lb mb W) (hb : Below W.heap.size W W') : NS w lb mb W' := by
  obtain ⟨v, mv, h1, h2⟩ := h.hm
  have hs := h.hb.size
  exact ⟨h.hb.trans (hb.mono hs), by rw [hb.block _ (Array.getElem?_eq_some_iff.1 h.hl).1]; exact h.hl, v, mv, h1.of_block fun k hk => hb.block k (h1.lt k hk).2, h2⟩
theorem NS.out (h : NS w lb mb W) {v : MemV} {st : MemS} {mv : Int} (h1 : MemAt W w.heap.size mb st v) (h2 : ∀ k, v.own mb k → k ≠ lb) (ho : MemOut W w.heap.size mb v ⟨[], [], [], mv⟩ W') : NS w lb mb W' := by
  obtain ⟨v', k1, k2, k3⟩ := ho
  have hs := h.hb.size
  have hlb := (Array.getElem?_eq_some_iff.1 h.hl).1
  refine ⟨h.hb.trans (k2.below (fun i hi => (h1.lt i hi).1) hs), ?_, v', mv, k1, fun k hk => ?_⟩
  · rw [k2.block lb hlb (fun hx => h2 lb hx rfl)]
    exact h.hl
  · rcases k3 k hk with h3 | h3
    · exact h2 k h3
    · omega
theorem ns_now (h : NS w lb mb W) (hp : p = none ∨ p = some ⟨mb, 0, none⟩) (x : Int) : Calls Try.prog 26 #[.pointer p, .int .i64 x] W fun e w' => e = .returned (.tuple #[]) ∧ NS w lb mb w' := by
  rcases hp with rfl | rfl
  · exact (now_nil W x).mono fun e w' ⟨he, hw⟩ => ⟨he, hw ▸ h⟩
  · obtain ⟨v, mv, h1, h2⟩ := h.hm
    exact (now_mem h1 x).mono fun e w' ⟨he, hm, ho⟩ => ⟨he, h.out h1 h2 ⟨v, hm, ho, fun k hk => .inl hk⟩⟩
theorem ns_load (h : NS w lb mb W) (hp : p = none ∨ p = some ⟨mb, 0, none⟩) (t a : Int) : Calls Try.prog 16 #[.pointer p, .int .i64 t, .int .i64 a] W fun e w' => e = .returned (.tuple #[.int .u64 0, .int .i64 20]) ∧ NS w lb mb w' := by
  rcases hp with rfl | rfl
  · exact (load_nil W t a).mono fun e w' ⟨he, hw⟩ => ⟨he, hw ▸ h⟩
  · obtain ⟨v, mv, h1, h2⟩ := h.hm
    exact (load_bad h1 t a (by simp; omega)).mono fun e w' ⟨he, hw⟩ => ⟨he, hw ▸ h⟩
theorem ns_store (h : NS w lb mb W) (hp : p = none ∨ p = some ⟨mb, 0, none⟩) (t a x : Int) : Calls Try.prog 36 #[.pointer p, .int .i64 t, .int .i64 a, .int .u64 x] W fun e w' => e = .returned (.int .i64 20) ∧ NS w lb mb w' := by
  rcases hp with rfl | rfl
  · exact (store_nil W t a x).mono fun e w' ⟨he, hw⟩ => ⟨he, hw ▸ h⟩
  · obtain ⟨v, mv, h1, h2⟩ := h.hm
    exact (store_bad h1 t a x (by simp; omega)).mono fun e w' ⟨he, hw⟩ => ⟨he, hw ▸ h⟩
theorem ns_swap (h : NS w lb mb W) (hp : p = none ∨ p = some ⟨mb, 0, none⟩) (t a o x : Int) : Calls Try.prog 35 #[.pointer p, .int .i64 t, .int .i64 a, .int .u64 o, .int .u64 x] W fun e w' => e = .returned (.tuple #[.int .u64 0, .bool false, .int .i64 20]) ∧ NS w lb mb w' := by
  rcases hp with rfl | rfl
  · exact (swap_nil W t a o x).mono fun e w' ⟨he, hw⟩ => ⟨he, hw ▸ h⟩
  · obtain ⟨v, mv, h1, h2⟩ := h.hm
    exact (swap_bad h1 t a o x (by simp; omega)).mono fun e w' ⟨he, hw⟩ => ⟨he, hw ▸ h⟩
theorem ns_writer (h : NS w lb mb W) (hp : p = none ∨ p = some ⟨mb, 0, none⟩) (a : Int) : Calls Try.prog 27 #[.pointer p, .int .i64 a] W fun e w' => e = .returned (.tuple #[.int .i64 0, .int .i64 0, .int .i64 20]) ∧ NS w lb mb w' := by
  rcases hp with rfl | rfl
  · exact (writer_nil W a).mono fun e w' ⟨he, hw⟩ => ⟨he, h.below hw⟩
  · obtain ⟨v, mv, h1, h2⟩ := h.hm
    exact (writer_bad h1 a (by simp; omega)).mono fun e w' ⟨he, hw⟩ => ⟨he, h.below hw⟩
theorem ns_size (h : NS w lb mb W) (hp : p = none ∨ p = some ⟨mb, 0, none⟩) : Calls Try.prog 15 #[.pointer p] W fun e w' => e = .returned (.int .i64 0) ∧ NS w lb mb w' := by
  rcases hp with rfl | rfl
  · exact (size_nil W).mono fun e w' ⟨he, hw⟩ => ⟨he, hw ▸ h⟩
  · obtain ⟨v, mv, h1, h2⟩ := h.hm
    exact (size_mem h1).mono fun e w' ⟨he, hw⟩ => ⟨he, hw ▸ h⟩
theorem ns_count (h : NS w lb mb W) (hp : p = none ∨ p = some ⟨mb, 0, none⟩) : Calls Try.prog 17 #[.pointer p] W fun e w' => e = .returned (.int .i64 0) ∧ NS w lb mb w' := by
  rcases hp with rfl | rfl
  · exact (count_nil W).mono fun e w' ⟨he, hw⟩ => ⟨he, hw ▸ h⟩
  · obtain ⟨v, mv, h1, h2⟩ := h.hm
    exact (count_mem h1).mono fun e w' ⟨he, hw⟩ => ⟨he, hw ▸ h⟩
theorem ns_words (h : NS w lb mb W) (hp : p = none ∨ p = some ⟨mb, 0, none⟩) : Calls Try.prog 24 #[.pointer p] W fun e w' => ∃ o c, e = .returned (.slice o 0 c) ∧ c ≤ 9223372036854775807 ∧ NS w lb mb w' := by
  rcases hp with rfl | rfl
  · exact (words_nil W).mono fun e w' ⟨he, hw⟩ => ⟨none, 0, he, by omega, hw ▸ h⟩
  · obtain ⟨v, mv, h1, h2⟩ := h.hm
    exact (words_mem h1 (by simp)).mono fun e w' ⟨o, c, he, _, hm, _, ho⟩ => ⟨o, c, he, hm, h.below (ho.below (fun _ hx => hx.elim) (Nat.le_refl _))⟩
theorem ns_logged (h : NS w lb mb W) (hp : p = none ∨ p = some ⟨mb, 0, none⟩) (fr : Int) : Calls Try.prog 21 #[.pointer p, .int .i64 fr, .int .i64 1] W fun e w' =>
    ∃ on cn ol cl, e = .returned (.tuple #[.slice on 0 cn, .slice ol 0 cl, .bool true]) ∧ cn ≤ 9223372036854775807 ∧ cl ≤ 9223372036854775807 ∧ NS w lb mb w' := by
  rcases hp with rfl | rfl
  · exact (logged_nil fr 1).mono fun e w' ⟨on, cn, ol, cl, he, h1, h2, hb⟩ => ⟨on, cn, ol, cl, he, h1, h2, h.below hb⟩
  · obtain ⟨v, mv, h1, h2⟩ := h.hm
    refine (logged_any h1 (by simp) fr.toNat fr 1 (by omega)).mono ?_
    rintro e w' ⟨on, cn, ol, cl, he, k1, k2, k3⟩
    have hc : min (([] : List Acc).length - fr.toNat) (1 : Int).toNat = 0 := by simp
    rw [hc] at he k1 k2
    obtain ⟨o1, c1, e1, q1, r1⟩ := k1.form
    obtain ⟨o2, c2, e2, q2, r2⟩ := k2.form
    cases e1
    cases e2
    unfold maxLen at r1 r2
    exact ⟨on, cn, ol, cl, he, by omega, by omega, h.below k3⟩
theorem ns_back (h : NS w lb mb W) (hp : p = none ∨ p = some ⟨mb, 0, none⟩) (n : Int) : Calls Try.prog 29 #[.pointer p, .int .i64 n] W fun e w' => e = .returned (.int .i64 (if n = 0 then 0 else 21)) ∧ NS w lb mb w' := by
  by_cases hn : n = 0
  · subst hn
    rw [if_pos rfl]
    rcases hp with rfl | rfl
    · exact (back_nil0 W).mono fun e w' ⟨he, hw⟩ => ⟨he, hw ▸ h⟩
    · obtain ⟨v, mv, h1, h2⟩ := h.hm
      exact (back_ok h1 ⟨rfl, fun a ha => by cases ha⟩ (by simp) 0 (by simp)).mono fun e w' ⟨he, ho⟩ => ⟨he, h.out h1 h2 (mv := mv) ho⟩
  · rw [if_neg hn]
    rcases hp with rfl | rfl
    · exact (back_nil1 W n hn).mono fun e w' ⟨he, hw⟩ => ⟨he, hw ▸ h⟩
    · obtain ⟨v, mv, h1, h2⟩ := h.hm
      exact (back_bad h1 n (by simp; omega)).mono fun e w' ⟨he, hw⟩ => ⟨he, hw ▸ h⟩
theorem NS.more (h : NS w lb mb W) (os : Array Obj) (d : Nat) : NS w lb mb (W.more os d) := h.below ((Below.refl _ _).more1 _ _)
end

set_option maxRecDepth 100000 in
set_option maxHeartbeats 8000000 in
theorem memoryNil_walk (w : World) (t a x n : Int) : Calls Try.prog 12 #[.int .i64 t, .int .i64 a, .int .u64 x, .int .i64 n] w fun e w' => e = .returned (.bool true) ∧ Below w.heap.size w w' := by
  go_enter Try.func12, Try.ntmps12
  go_wp2
  have h0 : NS w (w.heap.size + 1) w.heap.size ((w.alloc (.cells #[.slice none 0 0, .slice none 0 0, .slice none 0 0, .int .i64 0] 75)).alloc (.cells #[.pointer none, .pointer (some ⟨w.heap.size, 0, none⟩)] 24)) := by
    refine ⟨(by repeat (first | exact Below.refl _ _ | apply Below.drew | apply Below.more1 | apply Below.alloc1)), ?_, ⟨.slice none 0 0, .slice none 0 0, .slice none 0 0⟩, 0, MemAt.alloc (v := ⟨.slice none 0 0, .slice none 0 0, .slice none 0 0⟩) (st := ⟨[], [], [], 0⟩) ⟨heap_alloc_new w _, Nat.le_refl _, World.RowV_none _ _ _ _ _, World.RowV_none _ _ _ _ _, World.RowV_none _ _ _ _ _, by simp [Value.rowBlock], by simp [Value.rowBlock], by simp [Value.rowBlock], by simp [Value.rowBlock], by simp [Value.rowBlock], by simp [Value.rowBlock]⟩ _, ?_⟩
    · have := heap_alloc_new (w.alloc (.cells #[.slice none 0 0, .slice none 0 0, .slice none 0 0, .int .i64 0] 75)) (.cells #[.pointer none, .pointer (some ⟨w.heap.size, 0, none⟩)] 24)
      rw [World.size_alloc] at this
      exact this
    · rintro k (hk | hk | hk | hk)
      · omega
      · simp [Value.rowBlock] at hk
      · simp [Value.rowBlock] at hk
      · simp [Value.rowBlock] at hk
  have H0 := Lib.hid h0
  clear h0
  go_loopg [11] 2 (fun g sl wr => ∃ k : Nat, k ≤ 2 ∧ 2 ≤ k + g ∧ sl = .int .i64 (k : Int) ∧ Hid (NS w (w.heap.size + 1) w.heap.size wr))
  case atStart => exact ⟨0, by omega, by omega, rfl, H0⟩
  case round =>
    obtain ⟨k, hk, hg, rfl, HNS⟩ := hrel
    by_cases hk2 : k < 2
    · obtain ⟨p, hp, hc⟩ : ∃ p, (p = none ∨ p = some ⟨w.heap.size, 0, none⟩) ∧ wr.cell? ⟨w.heap.size + 1, k, none⟩ = some (.pointer p) := by
        have hl := HNS.out.hl
        have hk' : k = 0 ∨ k = 1 := by omega
        rcases hk' with rfl | rfl
        · exact ⟨none, .inl rfl, by simp [World.cell?, hl]⟩
        · exact ⟨_, .inr rfl, by simp [World.cell?, hl]⟩
      have HP := Lib.hid hp
      clear hp
      by_cases hn : n = 0
      · subst hn
        go_wp2_with (first
          | (go_at_call 26; refine (ns_now HNS.out HP.out _).mono ?_; rintro e w1 ⟨rfl, hns⟩; have HNS := Lib.hid hns; clear hns)
          | (go_at_call 16; refine (ns_load HNS.out HP.out _ _).mono ?_; rintro e w1 ⟨rfl, hns⟩; have HNS := Lib.hid hns; clear hns)
          | (go_at_call 36; refine (ns_store HNS.out HP.out _ _ _).mono ?_; rintro e w1 ⟨rfl, hns⟩; have HNS := Lib.hid hns; clear hns)
          | (go_at_call 35; refine (ns_swap HNS.out HP.out _ _ _ _).mono ?_; rintro e w1 ⟨rfl, hns⟩; have HNS := Lib.hid hns; clear hns)
          | (go_at_call 27; refine (ns_writer HNS.out HP.out _).mono ?_; rintro e w1 ⟨rfl, hns⟩; have HNS := Lib.hid hns; clear hns)
          | (go_at_call 15; refine (ns_size HNS.out HP.out).mono ?_; rintro e w1 ⟨rfl, hns⟩; have HNS := Lib.hid hns; clear hns)
          | (go_at_call 17; refine (ns_count HNS.out HP.out).mono ?_; rintro e w1 ⟨rfl, hns⟩; have HNS := Lib.hid hns; clear hns)
          | (go_at_call 24; refine (ns_words HNS.out HP.out).mono ?_; rintro e w1 ⟨ow, cw, rfl, lw, hns⟩; have HNS := Lib.hid hns; clear hns)
          | (go_at_call 21; refine (ns_logged HNS.out HP.out _).mono ?_; rintro e w1 ⟨on, cn, ol, cl, rfl, ln, ll, hns⟩; have HNS := Lib.hid hns; clear hns)
          | (go_at_call 29; refine (ns_back HNS.out HP.out _).mono ?_; rintro e w1 ⟨rfl, hns⟩; rw [if_pos rfl]; have HNS := Lib.hid hns; clear hns)
          | (go_at_call 14; refine (num_any _ _).mono ?_; rintro e w2 ⟨rfl, rfl⟩))
        go_roundg (2 - (k + 1))
        case measure => omega
        case rel => exact ⟨k + 1, by omega, by omega, by go_num, HNS⟩
      · have hq : (n != 0) = true := by simpa using hn
        have HN := Lib.hid hn
        clear hn
        go_wp2_with (first
          | (go_at_call 26; refine (ns_now HNS.out HP.out _).mono ?_; rintro e w1 ⟨rfl, hns⟩; have HNS := Lib.hid hns; clear hns)
          | (go_at_call 16; refine (ns_load HNS.out HP.out _ _).mono ?_; rintro e w1 ⟨rfl, hns⟩; have HNS := Lib.hid hns; clear hns)
          | (go_at_call 36; refine (ns_store HNS.out HP.out _ _ _).mono ?_; rintro e w1 ⟨rfl, hns⟩; have HNS := Lib.hid hns; clear hns)
          | (go_at_call 35; refine (ns_swap HNS.out HP.out _ _ _ _).mono ?_; rintro e w1 ⟨rfl, hns⟩; have HNS := Lib.hid hns; clear hns)
          | (go_at_call 27; refine (ns_writer HNS.out HP.out _).mono ?_; rintro e w1 ⟨rfl, hns⟩; have HNS := Lib.hid hns; clear hns)
          | (go_at_call 15; refine (ns_size HNS.out HP.out).mono ?_; rintro e w1 ⟨rfl, hns⟩; have HNS := Lib.hid hns; clear hns)
          | (go_at_call 17; refine (ns_count HNS.out HP.out).mono ?_; rintro e w1 ⟨rfl, hns⟩; have HNS := Lib.hid hns; clear hns)
          | (go_at_call 24; refine (ns_words HNS.out HP.out).mono ?_; rintro e w1 ⟨ow, cw, rfl, lw, hns⟩; have HNS := Lib.hid hns; clear hns)
          | (go_at_call 21; refine (ns_logged HNS.out HP.out _).mono ?_; rintro e w1 ⟨on, cn, ol, cl, rfl, ln, ll, hns⟩; have HNS := Lib.hid hns; clear hns)
          | (go_at_call 29; refine (ns_back HNS.out HP.out _).mono ?_; rintro e w1 ⟨rfl, hns⟩; rw [if_neg HN.out]; have HNS := Lib.hid hns; clear hns)
          | (go_at_call 14; refine (num_any _ _).mono ?_; rintro e w2 ⟨rfl, rfl⟩))
        go_roundg (2 - (k + 1))
        case measure => omega
        case rel => exact ⟨k + 1, by omega, by omega, by go_num, HNS⟩
    · obtain rfl : k = 2 := by omega
      have HB := Lib.hid HNS.out.hb
      go_wp2_with (go_at_call 18; refine (awake_any _).mono ?_; rintro e w1 ⟨rfl, hb1⟩; have HB1 := Lib.hid hb1; clear hb1)
      go_ret
      exact ⟨rfl, HB.out.trans (HB1.out.mono HB.out.size)⟩
end Go.Proofs.Ytpmadfokpimjcaa
