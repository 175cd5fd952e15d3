/-
arena.Cached, Count.
-/
import Derived.Test.YtjcggokhminmoaaQArG
namespace Go.Proofs.Ytjcggokhminmoaa
open Go.ChangeShapes Go.WideShapes Go.ChangeAt Go.RowKit

set_option maxRecDepth 100000 in
theorem clone_int {w : World} {vx : Value} {l : List Int} (hs : w.Src 1 vx l.length (intsC l)) (hn : l.length ≤ 3000000000000) : Calls Try.prog 44 #[vx] w (Cloned w 3 1 l.length (intsC l)) := by
  obtain ⟨i0, hi, hz0, hz1, hz2⟩ := info_parts infoIntG
  have HI := Lib.hid hi
  have HZ0 := Lib.hid hz0
  have HZ1 := Lib.hid hz1
  have HZ2 := Lib.hid hz2
  clear hi hz0 hz1 hz2
  have HS := Lib.hid hs
  rcases hs.2 with ⟨rfl, h0⟩ | ⟨ad, c, rfl, hc, _⟩
  · obtain rfl : l = [] := List.eq_nil_of_length_eq_zero h0
    have hq := fun w => Lib.run_eql_slice_nil (P := Try.prog) w 53 3 none 0 0 0 0 Try.underlying53
    clear hs HS
    go_enter Try.func44, Try.ntmps44
    go_wp2
    go_ret
    exact ⟨none, 0, rfl, Nat.le_refl _, by omega, World.RowV_none _ _ _ _ _, Only.refl _ _⟩
  · have hq := fun w => Lib.run_eql_slice_nil (P := Try.prog) w 53 3 (some ad) l.length c 0 0 Try.underlying53
    have S1 := Lib.hid (intsC_one l)
    have S2 := Lib.hid (show 0 + l.length ≤ maxLen by unfold maxLen; omega)
    have S3 := Lib.hid (show ((0 + l.length) + (0 + l.length) / 4 + 192) * 8 ≤ 281474976710656 by omega)
    clear hs
    go_enter Try.func44, Try.ntmps44
    go_wp2_with (at_builtin; refine wpList_append_row _ rfl _ _ 53 rfl w.heap.size 3 i0 _ 1 8 Try.underlying53 HI.out HZ0.out HZ1.out HZ2.out rfl (.slice (some ⟨w.heap.size, 0, none⟩) 0 0) 0 [] rfl (World.RowV_none _ _ _ _ _) _ l.length (intsC l) rfl (HS.out.alloc _) S1.out S2.out S3.out (by simp) ?_; intro v' w1 hown hout; obtain ⟨o', c', rfl, hn', hm'⟩ := hown.form; have H1 := Lib.hid hown; have H2 := Lib.hid hout; clear hown hout; unfold maxLen at hm')
    go_ret
    exact ⟨o', c', rfl, by omega, by omega, by simpa using H1.out, Only.trans ((Only.refl _ _).alloc _) (Only.out (F := fun _ => False) H2.out (by simp [Value.rowBlock])) (fun _ h => h.elim)⟩

theorem acached_any {w : World} {base ab : Nat} {s : ArS} {av : ArV} (H : ArAt w base ab s av) (hcl : ∀ c ∈ s.caches, c.length ≤ 3000000000000) (t : Int) : Calls Try.prog 23 #[.pointer (some ⟨ab, 0, none⟩), .int .i64 t] w (Cloned w 3 1 (s.cache t).length (intsC (s.cache t))) := by
  have HT := Lib.hid (thread_any H t)
  cases ht : s.thread t with
  | false =>
    rw [ht] at HT
    have ec : s.cache t = [] := by unfold ArS.cache; rw [ht]; rfl
    rw [ec]
    clear H ht ec hcl
    go_enter Try.func23, Try.ntmps23
    go_wp2_with (go_at_call 43; refine HT.out.mono ?_; rintro e w1 ⟨rfl, rfl⟩)
    go_ret
    exact ⟨none, 0, rfl, Nat.le_refl _, by omega, World.RowV_none _ _ _ _ _, Only.refl _ _⟩
  | true =>
    rw [ht] at HT
    have hi' : 0 ≤ t ∧ t < (s.caches.length : Int) := by simpa [ArS.thread] using ht
    obtain ⟨i, rfl⟩ : ∃ i : Nat, t = i := ⟨t.toNat, by omega⟩
    have hi : i < s.caches.length := by omega
    have hc : s.caches[i]? = some s.caches[i] := List.getElem?_eq_getElem hi
    obtain ⟨ec, eth⟩ := cache_eq hc
    rw [ec]
    obtain ⟨g, cap, u, e, h1, h2, h3, h4, h5, h6, h7, h8, h9⟩ := H.cacheCell hi
    obtain ⟨c0, c1, c2, c3, c4, c5, c6, c7, c8, z, lt⟩ := H.head
    rw [e] at c8
    obtain ⟨c, hcc⟩ : ∃ c, c = s.caches[i] := ⟨_, rfl⟩
    rw [← hcc] at h9 ⊢
    have hsm : c.length ≤ 3000000000000 := hcl c (by rw [hcc]; exact List.getElem_mem hi)
    have HC := Lib.hid (clone_int h9.src hsm)
    unfold maxLen at h2
    clear c0 c1 c2 c3 c4 c5 c6 c7 z H ht hc ec eth h3 h8 h9 h6 e hcc hsm hcl
    go_enter Try.func23, Try.ntmps23
    go_wp2_with (first
      | (go_at_call 43; refine HT.out.mono ?_; rintro e w1 ⟨rfl, rfl⟩)
      | (go_at_call 44; refine HC.out.mono ?_; rintro e w1 ⟨o1, k1, rfl, y1, y2, y3, y4⟩))
    go_ret
    exact ⟨o1, k1, rfl, y1, y2, y3, y4⟩

/-- how many slots are in a state -/
def cntUpto (l : List (Int × Int)) (x : Int) (k : Nat) : Nat := ((l.take k).filter fun y => decide (y.1 = x)).length
theorem cntUpto_succ (l : List (Int × Int)) (x : Int) (k : Nat) (hk : k < l.length) : cntUpto l x (k + 1) = cntUpto l x k + if l[k].1 = x then 1 else 0 := by
  unfold cntUpto
  rw [List.take_add_one, List.getElem?_eq_getElem hk, List.filter_append, List.length_append]
  congr 1
  simp only [Option.toList_some, List.filter_cons, List.filter_nil]
  by_cases e : l[k].1 = x <;> simp [e]
theorem cntUpto_le (l : List (Int × Int)) (x : Int) (k : Nat) : cntUpto l x k ≤ k := by
  unfold cntUpto
  exact Nat.le_trans (List.length_filter_le ..) (by simp; omega)
end Go.Proofs.Ytjcggokhminmoaa
