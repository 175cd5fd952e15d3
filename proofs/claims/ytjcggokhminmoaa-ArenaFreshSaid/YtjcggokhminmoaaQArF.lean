/-
The part that gives a cache back: Ready, again, Step.
-/
import Derived.Test.YtjcggokhminmoaaQArG
namespace Go.Proofs.Ytjcggokhminmoaa
open Go.ChangeShapes Go.WideShapes Go.ChangeAt Go.RowKit

/-- where a cache that is not empty lies -/
theorem Tr.cacheAt {w : World} {base xb db ab tb : Nat} {st : MachS} {v : MachV} {s : ArS} {av : ArV} {o : Obj} (H : Tr w base xb db ab tb st v s av o) {i : Nat} {c : List Int} {k : Int} (hc : s.caches[i]? = some (c ++ [k])) :
    ∃ g cap gc cu, w.cell? ⟨ab, 8, none⟩ = some (.slice (some ⟨g, 0, none⟩) s.caches.length cap) ∧ s.caches.length ≤ cap ∧ cap ≤ 9223372036854775807 ∧ g < w.heap.size ∧ w.cell? ⟨g, i, none⟩ = some (.slice (some ⟨gc, 0, none⟩) (c.length + 1) cu) ∧ w.frozen? ⟨g, i, none⟩ = false ∧
      c.length + 1 ≤ cu ∧ cu ≤ 9223372036854775807 ∧ gc < w.heap.size ∧ w.cell? ⟨gc, c.length, none⟩ = some (.int .i64 k) ∧ gc ≠ g ∧ av.vca.rowBlock = some g ∧ av.vcs[i]? = some (.slice (some ⟨gc, 0, none⟩) (c.length + 1) cu) ∧
      w.RowV base 3 1 (.slice (some ⟨gc, 0, none⟩) (c.length + 1) cu) (c.length + 1) (intsC (c ++ [k])) ∧ i < s.caches.length := by
  have hi := (List.getElem?_eq_some_iff.1 hc).1
  have hci := (List.getElem?_eq_some_iff.1 hc).2
  obtain ⟨g, cap, u, e, h1, h2, h3, h4, h5, h6, h7, h8, h9⟩ := H.a.cacheCell hi
  obtain ⟨c0, c1, c2, c3, c4, c5, c6, c7, c8, z, lt⟩ := H.a.head
  rw [e] at c8
  rw [hci] at h9
  have hlen : (c ++ [k]).length = c.length + 1 := by simp
  rw [hlen] at h9
  obtain ⟨gc, cu, rfl, y1, y2, y3, y4, y5, y6⟩ := h9.some_form (by omega)
  have y7 : cu ≤ 9223372036854775807 := by
    obtain ⟨_, _, he, _, hm⟩ := h9.form
    cases he
    exact hm
  refine ⟨g, cap, gc, cu, c8, h1, h2, h4, h7, h6 i, y1, y7, y3, y6 c.length _ (by simp [intsC]), fun x => ?_, h3, h8, h9, hi⟩
  have q1 := H.a.ci i _ gc h8 y4
  have q2 := H.a.cc g h3
  rw [x, q2] at q1
  omega

set_option maxRecDepth 100000 in
set_option maxHeartbeats 1000000 in
theorem again_any {w : World} {base xb db ab tb : Nat} {st : MachS} {v : MachV} {s : ArS} {av : ArV} {p : TkPush} (H : Tr w base xb db ab tb st v s av (p.obj ab 185)) {i : Nat} {c : List Int} {k : Int} (hc : s.caches[i]? = some (c ++ [k])) (hth : p.th = (i : Int)) :
    Calls Try.prog 124 #[.pointer (some ⟨tb, 0, none⟩)] w fun e w' => e = .returned (.tuple #[]) ∧ TrOut w base xb db ab tb v av st s (({ p with slot := k, at' := 1 } : TkPush).obj ab 185) w' := by
  obtain ⟨a0, a1, a2, a3, a4, az, alt⟩ := push_cells H.t
  rw [hth] at a4
  obtain ⟨g, cap, gc, cu, b1, b2, b3, b4, b5, b6, b7, b8, b9, b10, b11, b12, b13, b14, b15⟩ := H.cacheAt hc
  have lt := (H.a.lt ab (.inl rfl)).2
  have z1 := az 1
  have z2 := az 2
  have HH := Lib.hid H
  clear H hc hth a3 az b11 b12 b13 b14 b6
  go_enter Try.func124, Try.ntmps124
  go_wp2
  refine wp_region_more_lit (by kernel_rfl) (by kernel_rfl) ?_
  repeat (first | go_big_quiet_skip | (go_big_quiet_want; go_big_quiet_op; first | go_big_quiet_on | (apply Exists.intro; refine ⟨fun _ => ?_, ?_⟩; (focus (fail)); go_big_quiet_on)))
  refine wpQuiet_nil ?_
  intro osq dq
  go_wp2
  go_end0
  refine ⟨rfl, TrOut.post (HH.out.put (only_tb (only_tb (Only.refl _ w) _) _) ?_) ((Only.refl _ _).more osq dq)⟩
  simp [World.setCell, Array.getElem?_modify, HH.out.t, TkPush.obj]

set_option maxRecDepth 100000 in
set_option maxHeartbeats 1000000 in
theorem fready_any {w : World} {base xb db ab tb : Nat} {st : MachS} {v : MachV} {s : ArS} {av : ArV} {p : TkPush} (H : Tr w base xb db ab tb st v s av (p.obj ab 185)) {i : Nat} (hi : i < s.caches.length) (hth : p.th = (i : Int)) :
    Calls Try.prog 122 #[.pointer (some ⟨tb, 0, none⟩), .pointer (some ⟨db, 0, none⟩)] w fun e w' => e = .returned (.bool (p.flushReady s st.d).2.2.2) ∧
      TrOut w base xb db ab tb v av { st with d := (p.flushReady s st.d).2.2.1 } (p.flushReady s st.d).1 ((p.flushReady s st.d).2.1.obj ab 185) w' := by
  obtain ⟨a0, a1, a2, a3, a4, az, alt⟩ := push_cells H.t
  rw [hth] at a4
  obtain ⟨c, hc⟩ : ∃ c, s.caches[i]? = some c := ⟨_, List.getElem?_eq_getElem hi⟩
  obtain ⟨ec, eth⟩ := cache_eq hc
  have HT := Lib.hid (fun os d => (thread_any (H.more os d).a (i : Int)).mono fun e w' h => below_of h)
  rw [eth] at HT
  have lt := (H.a.lt ab (.inl rfl)).2
  rcases last_snoc c with rfl | ⟨c', k, rfl⟩
  · have e1 : p.flushReady s st.d = (s, p, st.d, true) := by
      unfold TkPush.flushReady
      rw [hth, ec]
      rfl
    rw [e1]
    obtain ⟨g, cap, u, e, h1, h2, h3, h4, h5, h6, h7, h8, h9⟩ := H.a.cacheCell hi
    obtain ⟨c0, c1, c2, c3, c4, c5, c6, c7, c8, z, lt2⟩ := H.a.head
    rw [e] at c8
    rw [(List.getElem?_eq_some_iff.1 hc).2] at h9
    obtain ⟨ou, cu, rfl, y1, y2⟩ := h9.form
    simp only [List.length_nil] at h7
    unfold maxLen at h2
    have HH := Lib.hid H
    clear H hc hth ec eth e1 a1 a2 a3 az c0 c1 c2 c3 c4 c5 c6 c7 z lt2 h3 h8 h9 h6 e
    go_enter Try.func122, Try.ntmps122
    go_wp2
    refine wp_region_more_lit (by kernel_rfl) (by kernel_rfl) ?_
    repeat (first | go_big_quiet_skip | (go_big_quiet_want; go_big_quiet_op; first | go_big_quiet_on | (apply Exists.intro; refine ⟨fun _ => ?_, ?_⟩; (focus (go_at_call 43; exact Calls.more_of (HT.out _ _))); go_big_quiet_on)))
    refine wpQuiet_nil ?_
    intro osq dq
    go_wp2
    go_ret
    exact ⟨rfl, (TrStep.keep HH.out ((Only.refl _ w).more _ _)).out⟩
  · have e1 : p.flushReady s st.d = (s, { p with slot := k, at' := 1 }, st.d, false) := by
      unfold TkPush.flushReady
      rw [hth, ec]
      simp
    rw [e1]
    obtain ⟨g, cap, gc, cu, b1, b2, b3, b4, b5, b6, b7, b8, b9, b10, b11, b12, b13, b14, b15⟩ := H.cacheAt hc
    have HA := Lib.hid (fun os d => again_any (H.more os d) hc hth)
    have HH := Lib.hid H
    clear H hc hth ec eth e1 a1 a2 a3 az b6 b11 b12 b13 b14 b10 b9
    go_enter Try.func122, Try.ntmps122
    go_wp2
    refine wp_region_more_lit (by kernel_rfl) (by kernel_rfl) ?_
    repeat (first | go_big_quiet_skip | (go_big_quiet_want; go_big_quiet_op; first | go_big_quiet_on | (apply Exists.intro; refine ⟨fun _ => ?_, ?_⟩; (focus (go_at_call 43; exact Calls.more_of (HT.out _ _))); go_big_quiet_on)))
    refine wpQuiet_nil ?_
    intro osq dq
    go_wp2_with (go_at_call 124; refine (HA.out _ _).mono ?_; rintro e w2 ⟨rfl, hq⟩; have HG := Lib.hid (TrOut.pre ((Only.refl _ w).more _ _) HH.out hq); clear hq)
    go_ret
    exact ⟨rfl, HG.out⟩

theorem pstep_keeps (s : ArS) (p : TkPush) (d : DeskS) : (p.step s d).1.caches = s.caches ∧ (p.step s d).2.1.th = p.th := by
  unfold TkPush.step
  split
  · exact ⟨rfl, rfl⟩
  · split
    · exact ⟨rfl, rfl⟩
    · split
      · simp only
        split
        · refine ⟨?_, rfl⟩
          unfold ArS.shift
          split <;> rfl
        · exact ⟨rfl, rfl⟩
      · exact ⟨rfl, rfl⟩

set_option maxRecDepth 100000 in
set_option maxHeartbeats 1000000 in
theorem fstep_any {w : World} {base xb db ab tb : Nat} {st : MachS} {v : MachV} {s : ArS} {av : ArV} {p : TkPush} (H : Tr w base xb db ab tb st v s av (p.obj ab 185)) (hf : st.d.Fits) {i : Nat} (hth : p.th = (i : Int)) (hne : p.at' ≠ 0 → ∃ c k, s.caches[i]? = some (c ++ [k])) :
    Calls Try.prog 123 #[.pointer (some ⟨tb, 0, none⟩), .pointer (some ⟨db, 0, none⟩)] w fun e w' => e = .returned (.bool (p.flushStep s st.d).2.2.2) ∧
      TrOut w base xb db ab tb v av { st with d := (p.flushStep s st.d).2.2.1 } (p.flushStep s st.d).1 ((p.flushStep s st.d).2.1.obj ab 185) w' := by
  obtain ⟨a0, a1, a2, a3, a4, az, alt⟩ := push_cells H.t
  by_cases hat : p.at' = 0
  · have e1 : p.flushStep s st.d = (s, p, st.d, true) := by unfold TkPush.flushStep; rw [if_pos hat]
    rw [e1]
    rw [hat] at a2
    have HT := Lib.hid (TrStep.refl H).out
    clear H hf e1 a0 a1 a3 a4 az hat hne
    go_enter Try.func123, Try.ntmps123
    go_wp2
    go_ret
    exact ⟨rfl, HT.out⟩
  · obtain ⟨c, k, hc⟩ := hne hat
    obtain ⟨k1, k2⟩ := pstep_keeps s p st.d
    have HP := Lib.hid (pstep_any H hf)
    have d0 : decide (p.at' = 0) = false := by simpa using hat
    have c0 : (p.at' == 0) = false := by simpa using hat
    obtain ⟨s', p', d', b, hr⟩ : ∃ s' p' d' b, p.step s st.d = (s', p', d', b) := ⟨_, _, _, _, rfl⟩
    rw [hr] at HP k1 k2
    simp only at HP k1 k2
    have e1 : p.flushStep s st.d = if b = true then (match ((s'.cache p.th).dropLast).getLast? with | none => (s'.setCache p.th (s'.cache p.th).dropLast, p', d', true) | some q => (s'.setCache p.th (s'.cache p.th).dropLast, { p' with slot := q, at' := 1 }, d', false)) else (s', p', d', b) := by
      unfold TkPush.flushStep
      rw [if_neg hat, hr]
      rfl
    cases b with
    | false =>
      rw [e1, if_neg (by decide)]
      clear H hf e1 a1 a3 a4 az hat hc hr k1 k2 hth
      go_enter Try.func123, Try.ntmps123
      go_wp2_with (go_at_call 119; refine HP.out.mono ?_; rintro e w2 ⟨rfl, hq⟩; have HT := Lib.hid hq; clear hq)
      go_ret
      exact ⟨rfl, HT.out⟩
    | true =>
      rw [if_pos rfl] at e1
      have hc' : s'.caches[i]? = some (c ++ [k]) := by rw [k1]; exact hc
      obtain ⟨ec, eth⟩ := cache_eq hc'
      have hth' : p'.th = (i : Int) := k2.trans hth
      obtain ⟨pf, bf, e2, hcase⟩ : ∃ pf bf, p.flushStep s st.d = (s'.setCache (i : Int) c, pf, d', bf) ∧ ((c = [] ∧ pf = p' ∧ bf = true) ∨ ∃ c2 q, c = c2 ++ [q] ∧ pf = { p' with slot := q, at' := 1 } ∧ bf = false) := by
        rw [e1, hth, ec, List.dropLast_concat]
        rcases last_snoc c with rfl | ⟨c2, q, rfl⟩
        · exact ⟨_, _, rfl, .inl ⟨rfl, rfl, rfl⟩⟩
        · refine ⟨_, _, ?_, .inr ⟨c2, q, rfl, rfl, rfl⟩⟩
          simp
      rw [e2]
      have HCA := Lib.hid hcase
      clear hcase
      have HC := Lib.hid hc'
      have HTH := Lib.hid hth'
      clear H hf e1 e2 a1 a3 a4 az hat hc hr k1 k2 hth hc' ec eth hth'
      go_enter Try.func123, Try.ntmps123
      go_upto_region 5 with (go_at_call 119; refine HP.out.mono ?_; rintro e w2 ⟨rfl, hq⟩; have HT := Lib.hid hq; clear hq)
      obtain ⟨v1, av1, hs1⟩ := HT.out
      have HS := Lib.hid hs1
      clear hs1 HT HP a0 a2 alt d0 c0
      obtain ⟨a0, a1, a2, a3, a4, az, alt⟩ := push_cells HS.out.tr.t
      rw [HTH.out] at a4
      obtain ⟨g, cap, gc, cu, b1, b2, b3, b4, b5, b6, b7, b8, b9, b10, b11, b12, b13, b14, b15⟩ := HS.out.tr.cacheAt HC.out
      have lt := (HS.out.tr.a.lt ab (.inl rfl)).2
      have H12 := Lib.hid b12
      have H13 := Lib.hid b13
      have H14 := Lib.hid b14
      clear a1 a2 a3 az b12 b13 b14 b10 b11 b9
      go_wp2
      refine wp_region_more_lit (by kernel_rfl) (by kernel_rfl) ?_
      repeat (first | go_big_quiet_skip | (go_big_quiet_want; go_big_quiet_op; first | go_big_quiet_on | (apply Exists.intro; refine ⟨fun _ => ?_, ?_⟩; (focus (fail)); go_big_quiet_on)))
      refine wpQuiet_nil ?_
      intro osq dq
      go_wp2
      refine wp_region_more_tail 18 (by kernel_rfl) (by kernel_rfl) ?_
      simp only [List.take_succ_cons, List.take_zero, List.drop_succ_cons, List.drop_zero]
      repeat (first | go_big_quiet_skip | (go_big_quiet_want; go_big_quiet_op; first | go_big_quiet_on | (apply Exists.intro; refine ⟨fun _ => ?_, ?_⟩; (focus (fail)); go_big_quiet_on)))
      refine wpQuiet_nil ?_
      intro osq dq
      go_upto_region 7 with (fail)
      refine gen_world ?_
      intro W3 hW3
      have HO := Lib.hid (show TrOut w2 base xb db ab tb v1 av1 { st with d := d' } (s'.setCache (i : Int) c) (p'.obj ab 185) W3 by
        rw [hW3]
        exact (tr_pop HS.out.tr H12.out b15 H13.out H14.out).post (((Only.refl _ _).more _ _).more _ _))
      clear hW3 a0 a4 alt b1 b4 b5 b6 lt
      obtain ⟨v3, av3, hs3⟩ := HO.out
      have HS3 := Lib.hid (HS.out.trans hs3)
      clear hs3 HO
      rcases HCA.out with ⟨rfl, rfl, rfl⟩ | ⟨c2, q, rfl, rfl, rfl⟩
      · simp only [List.length_nil]
        simp only [List.length_nil] at b7
        go_wp2
        go_ret
        exact ⟨rfl, HS3.out.out⟩
      · have hl2 : (c2 ++ [q]).length = c2.length + 1 := by simp
        have hcq : (s'.setCache (i : Int) (c2 ++ [q])).caches[i]? = some (c2 ++ [q]) := by
          show (s'.caches.set (i : Int).toNat (c2 ++ [q]))[i]? = _
          rw [Int.toNat_natCast, List.getElem?_set_self b15]
        have HAg := Lib.hid (again_any HS3.out.tr hcq HTH.out)
        rw [hl2] at b7
        have x1 : decide (((c2.length + 1 + 1 : Nat) : Int) = 1) = false := by simp; omega
        have x2 : decide ((c2.length : Int) + 1 + 1 = 1) = false := by simp; omega
        go_wp2_with (go_at_call 124; refine HAg.out.mono ?_; rintro e w4 ⟨rfl, hq⟩; have HG := Lib.hid hq; clear hq)
        go_ret
        exact ⟨rfl, HS3.out.then HG.out⟩
end Go.Proofs.Ytjcggokhminmoaa
