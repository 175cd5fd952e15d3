/-
The part that gives a slot back: Ready, Step.
-/
import Derived.Test.YtjcggokhminmoaaQArC
import Derived.Test.YtjcggokhminmoaaQMixF
namespace Go.Proofs.Ytjcggokhminmoaa
open Go.ChangeShapes Go.WideShapes Go.ChangeAt Go.RowKit

theorem pstep_any {w : World} {base xb db ab tb : Nat} {ty : TypeId} {st : MachS} {v : MachV} {s : ArS} {av : ArV} {p : TkPush} (H : Tr w base xb db ab tb st v s av (p.obj ab ty)) (hf : st.d.Fits) :
    Calls Try.prog 119 #[.pointer (some ⟨tb, 0, none⟩), .pointer (some ⟨db, 0, none⟩)] w fun e w' => e = .returned (.bool (p.step s st.d).2.2.2) ∧
      TrOut w base xb db ab tb v av { st with d := (p.step s st.d).2.2.1 } (p.step s st.d).1 ((p.step s st.d).2.1.obj ab ty) w' := by
  by_cases h1 : p.at' = 1
  · exact pstep_load H hf h1
  · by_cases h2 : p.at' = 2
    · exact pstep_store H hf h2
    · by_cases h3 : p.at' = 3
      · exact pstep_swap H hf h3
      · exact pstep_over H hf h1 h2 h3

set_option maxRecDepth 100000 in
theorem gstep_any {w : World} {base xb db ab tb : Nat} {st : MachS} {v : MachV} {s : ArS} {av : ArV} {p : TkPush} (H : Tr w base xb db ab tb st v s av (p.obj ab 184)) (hf : st.d.Fits) :
    Calls Try.prog 118 #[.pointer (some ⟨tb, 0, none⟩), .pointer (some ⟨db, 0, none⟩)] w fun e w' => e = .returned (.bool (p.giveStep s st.d).2.2.2) ∧
      TrOut w base xb db ab tb v av { st with d := (p.giveStep s st.d).2.2.1 } (p.giveStep s st.d).1 ((p.giveStep s st.d).2.1.obj ab 184) w' := by
  obtain ⟨a0, a1, a2, a3, a4, az, alt⟩ := push_cells H.t
  by_cases hat : p.at' = 0
  · have e1 : p.giveStep s st.d = (s, p, st.d, true) := by unfold TkPush.giveStep; rw [if_pos hat]
    rw [e1]
    rw [hat] at a2
    have HT := Lib.hid (TrStep.refl H).out
    clear H hf e1 a0 a1 a3 a4 az hat
    go_enter Try.func118, Try.ntmps118
    go_wp2
    go_ret
    exact ⟨rfl, HT.out⟩
  · have e1 : p.giveStep s st.d = p.step s st.d := by unfold TkPush.giveStep; rw [if_neg hat]
    rw [e1]
    have HP := Lib.hid (pstep_any H hf)
    have d0 : decide (p.at' = 0) = false := by simpa using hat
    have c0 : (p.at' == 0) = false := by simpa using hat
    obtain ⟨b, hb⟩ : ∃ b, b = (p.step s st.d).2.2.2 := ⟨_, rfl⟩
    rw [← hb] at HP ⊢
    clear H hf e1 a0 a1 a3 a4 az hat hb
    go_enter Try.func118, Try.ntmps118
    go_wp2_with (go_at_call 119; refine HP.out.mono ?_; rintro e w2 ⟨rfl, hq⟩; have HT := Lib.hid hq; clear hq)
    go_ret
    exact ⟨rfl, HT.out⟩

theorem tr_push {w wa w5 : World} {base xb db ab tb : Nat} {st : MachS} {v : MachV} {s : ArS} {av : ArV} {o : Obj} (H : Tr w base xb db ab tb st v s av o) {g i : Nat} {u v' : Value} {c : List Int} {k : Int} (hg : av.vca.rowBlock = some g) (hi : i < s.caches.length)
    (h8 : av.vcs[i]? = some u) (hwa : Only (fun _ => False) w wa) (hown : w5.RowV base 3 1 v' (c.length + 1) (intsC c ++ [.int .i64 k])) (hout : RowOut wa w5 u v' c.length 1) :
    TrOut w base xb db ab tb v av st (s.setCache (i : Int) (c ++ [k])) o (w5.setCell ⟨g, i, none⟩ v') := by
  have hsz := hwa.size
  have hr : w5.RowV base 3 1 v' (c ++ [k]).length (intsC (c ++ [k])) := by
    rw [show intsC (c ++ [k]) = intsC c ++ [.int .i64 k] by simp [intsC], show (c ++ [k]).length = c.length + 1 by simp]
    exact hown
  have ha := H.a.putCache (w1 := w5) hg hi hr (fun j hj hn => (hout.block (Nat.lt_of_lt_of_le hj hsz) (hn u h8)).trans (hwa.block j hj (fun x => x))) (fun j hj => by
    rcases hout.news hj with h | h
    · exact .inl ⟨u, h8, h⟩
    · exact .inr (by omega))
  have ho5 : Only (fun j => u.rowBlock = some j) w w5 := Only.trans (hwa.mono fun _ _ x => x.elim) (Only.out (F := fun j => u.rowBlock = some j) hout (fun k hk => hk)) (fun _ h => .inl h)
  have ho : Only (fun j => j = g ∨ u.rowBlock = some j) w (w5.setCell ⟨g, i, none⟩ v') := Only.set (F := fun j => j = g ∨ u.rowBlock = some j) (ho5.mono fun _ _ h => .inr h) (p := ⟨g, i, none⟩) (.inl (.inl rfl)) _
  refine H.arena ha ho (fun j hj => ?_) ?_
  · rcases hj with rfl | hj
    · exact .inr (.inr (.inl hg))
    · exact .inr (.inr (.inr ⟨i, u, h8, hj⟩))
  · rintro j (rfl | hk | hk | ⟨j', u', hu, hk⟩)
    · exact .inl (.inl rfl)
    · exact .inl (.inr (.inl hk))
    · exact .inl (.inr (.inr (.inl hk)))
    · have hu' : (av.vcs.set i v')[j']? = some u' := hu
      by_cases e : i = j'
      · subst e
        rw [List.getElem?_set_self (by rw [H.a.len]; exact hi)] at hu'
        cases hu'
        rcases hout.news hk with h | h
        · exact .inl (.inr (.inr (.inr ⟨i, u, h8, h⟩)))
        · exact .inr (by omega)
      · rw [List.getElem?_set_ne e] at hu'
        exact .inl (.inr (.inr (.inr ⟨j', u', hu', hk⟩)))
theorem infoIntG : (Try.prog.info? 3).map (fun i => (i.zero, i.size, i.bytes)) = some (some (.int .i64 0), 1, 8) := by kernel_rfl

set_option maxRecDepth 100000 in
set_option maxHeartbeats 1000000 in
theorem gready_any {w : World} {base xb db ab tb : Nat} {st : MachS} {v : MachV} {s : ArS} {av : ArV} {p : TkPush} (H : Tr w base xb db ab tb st v s av (p.obj ab 184)) (hf : st.d.Fits) {i : Nat} (hi : i < s.caches.length) (hth : p.th = (i : Int)) :
    Calls Try.prog 117 #[.pointer (some ⟨tb, 0, none⟩), .pointer (some ⟨db, 0, none⟩)] w fun e w' => e = .returned (.bool (p.giveReady s st.d).2.2.2) ∧
      TrOut w base xb db ab tb v av { st with d := (p.giveReady s st.d).2.2.1 } (p.giveReady s st.d).1 ((p.giveReady s st.d).2.1.obj ab 184) w' := by
  obtain ⟨a0, a1, a2, a3, a4, az, alt⟩ := push_cells H.t
  by_cases hat : p.at' = 0
  · have e1 : p.giveReady s st.d = (s, p, st.d, true) := by unfold TkPush.giveReady; rw [if_pos hat]
    rw [e1]
    rw [hat] at a2
    have HT := Lib.hid (TrStep.refl H).out
    clear H hf e1 a0 a1 a3 a4 az hat
    go_enter Try.func117, Try.ntmps117
    go_wp2
    go_ret
    exact ⟨rfl, HT.out⟩
  · have hc : s.caches[i]? = some s.caches[i] := List.getElem?_eq_getElem hi
    obtain ⟨ec, eth⟩ := cache_eq hc
    obtain ⟨g, cap, u, e, h1, h2, h3, h4, h5, h6, h7, h8, h9⟩ := H.a.cacheCell hi
    obtain ⟨c0, c1, c2, c3, c4, c5, c6, c7, c8, z, lt⟩ := H.a.head
    rw [e] at c8
    rw [hth] at a4
    have z7 := h6 i
    have d0 : decide (p.at' = 0) = false := by simpa using hat
    have d1 : (p.at' == 0) = false := by simpa using hat
    obtain ⟨c, hcc⟩ : ∃ c, c = s.caches[i] := ⟨_, rfl⟩
    rw [← hcc] at h9 hc ec
    obtain ⟨ou, cu, rfl, y1, y2⟩ := h9.form
    have HH := Lib.hid H
    have HF := Lib.hid hf
    have HTH := Lib.hid hth
    have HC := Lib.hid hc
    unfold maxLen at h2 y2
    by_cases hfull : s.c4 ≤ (c.length : Int)
    · have e1 : p.giveReady s st.d = (s, p, st.d, false) := by
        unfold TkPush.giveReady
        rw [if_neg hat, hth, ec, if_pos hfull]
      rw [e1]
      have q1 : decide (s.c4 ≤ (c.length : Int)) = true := by simpa using hfull
      have q2 : decide ((c.length : Int) ≥ s.c4) = true := by simpa using hfull
      clear c0 c1 c2 c3 c5 c6 c7 H hf hat hth hc h3 h8 h9 e ec eth az z h6 hcc a3 e1
      go_enter Try.func117, Try.ntmps117
      go_wp2
      refine wp_region_more_lit (by kernel_rfl) (by kernel_rfl) ?_
      repeat (first | go_big_quiet_skip | (go_big_quiet_want; go_big_quiet_op; first | go_big_quiet_on | (apply Exists.intro; refine ⟨fun _ => ?_, ?_⟩; (focus (fail)); go_big_quiet_on)))
      refine wpQuiet_nil ?_
      intro osq dq
      go_wp2
      go_ret
      exact ⟨rfl, (TrStep.keep HH.out ((Only.refl _ w).more _ _)).out⟩
    · obtain ⟨sh, hsh⟩ : ∃ sh, sh = (s.setCache (i : Int) (c ++ [p.slot])).shift st.d p.slot 1 := ⟨_, rfl⟩
      have e1 : p.giveReady s st.d = (sh.1, { p with at' := 0 }, sh.2, true) := by
        unfold TkPush.giveReady
        rw [if_neg hat, hth, ec, if_neg hfull, hsh]
      rw [e1]
      have q1 : decide (s.c4 ≤ (c.length : Int)) = false := by simpa using hfull
      have q2 : decide ((c.length : Int) ≥ s.c4) = false := by simpa using hfull
      have H3 := Lib.hid h3
      have hc64 : (c.length : Int) < 64 := by
        have := (ok_small H.a.ok).2.2.2.2.2.2.2.2.2.2
        omega
      have HSH := Lib.hid hsh
      clear c0 c1 c2 c3 c5 c6 c7 H hf hat hth h3 h8 h9 e ec eth az z h6 a3 e1 hsh hcc hc
      go_enter Try.func117, Try.ntmps117
      go_wp2
      refine wp_region_more_lit (by kernel_rfl) (by kernel_rfl) ?_
      repeat (first | go_big_quiet_skip | (go_big_quiet_want; go_big_quiet_op; first | go_big_quiet_on | (apply Exists.intro; refine ⟨fun _ => ?_, ?_⟩; (focus (fail)); go_big_quiet_on)))
      refine wpQuiet_nil ?_
      intro osq dq
      go_upto_region 5 with (fail)
      refine gen_world ?_
      intro W1 hW1
      have HK := Lib.hid (TrStep.keep HH.out (w1 := W1) (by rw [hW1]; exact (Only.refl _ w).more _ _))
      clear hW1 a0 a1 a2 a4 alt c4 c8 lt h4 h7 z7 h5
      obtain ⟨a0, a1, a2, a3, a4, az, alt⟩ := push_cells HK.out.tr.t
      rw [HTH.out] at a4
      obtain ⟨g', cap', u', e', h1', h2', h3', h4', h5', h6', h7', h8', h9'⟩ := HK.out.tr.a.cacheCell hi
      obtain ⟨c0, c1, c2, c3, c4, c5, c6, c7, c8, z, lt⟩ := HK.out.tr.a.head
      obtain rfl : g' = g := by rw [H3.out] at h3'; exact (Option.some.inj h3').symm
      have hcx : s.caches[i] = c := by
        have := HC.out
        rw [List.getElem?_eq_getElem hi] at this
        exact Option.some.inj this
      rw [hcx] at h9'
      obtain ⟨o2, c2', rfl, y1', y2'⟩ := h9'.form
      rw [e'] at c8
      have n1 : ¬ (Value.slice o2 c.length c2').rowBlock = some tb := fun x => HK.out.tr.at' (.inr (.inr (.inr ⟨i, _, h8', x⟩)))
      have n2 : ¬ (Value.slice o2 c.length c2').rowBlock = some ab := fun x => HK.out.tr.a.ni h8' _ x rfl
      have n3 : ¬ (Value.slice o2 c.length c2').rowBlock = some g' := fun x => by
        have k1 := HK.out.tr.a.ci i _ g' h8' x
        have k2 := HK.out.tr.a.cc g' h3'
        omega
      have f0 := fun q : LaterF (fun k => (Value.slice o2 c.length c2').rowBlock = some k) W1 => q.cell a0 alt n1
      have f1 := fun q : LaterF (fun k => (Value.slice o2 c.length c2').rowBlock = some k) W1 => q.cell a1 alt n1
      have f4 := fun q : LaterF (fun k => (Value.slice o2 c.length c2').rowBlock = some k) W1 => q.cell a4 alt n1
      have f8 := fun q : LaterF (fun k => (Value.slice o2 c.length c2').rowBlock = some k) W1 => q.cell c8 lt n2
      have fi := fun q : LaterF (fun k => (Value.slice o2 c.length c2').rowBlock = some k) W1 => q.cell h7' h4' n3
      have fz := fun q : LaterF (fun k => (Value.slice o2 c.length c2').rowBlock = some k) W1 => q.frozen (h6' i) h4' n3
      obtain ⟨i0, ii, iz0, iz1, iz2⟩ := info_parts infoIntG
      have HII := Lib.hid ii
      have HZ0 := Lib.hid iz0
      have HZ1 := Lib.hid iz1
      have HZ2 := Lib.hid iz2
      have S1 := Lib.hid (show ∀ u ∈ [Value.int .i64 p.slot], u.oneCell' = true by simp [Value.oneCell'])
      have S2 := Lib.hid (show c.length + 1 ≤ maxLen by unfold maxLen; omega)
      have S3 := Lib.hid (show ((c.length + 1) + (c.length + 1) / 4 + 192) * 8 ≤ 281474976710656 by omega)
      have R9 := Lib.hid h9'
      have H8 := Lib.hid h8'
      have hbase : base ≤ W1.heap.size := Nat.le_trans HK.out.tr.a.ge (Nat.le_of_lt lt)
      unfold maxLen at h2' y2'
      clear a0 a1 a2 a3 a4 az c0 c1 c2 c3 c4 c5 c6 c7 c8 z h3' h7' h6' h8' h9' e' hcx ii iz0 iz1 iz2 n1 n2 n3
      go_wp2
      refine wp_region_plan (fun wz => ∃ q : LaterF (fun k => (Value.slice o2 c.length c2').rowBlock = some k) W1, wz = q.W) [31, 32, 34] [0, 1, 2, 3, 4, 5, 6, 7, 8, 9, 10, 11, 12, 13, 14, 15, 16, 17, 18, 19, 20, 21, 22, 23, 24, 25, 26, 27, 28, 29, 30] (.fork 31 [] (.fork 32 [] (.tail 33) .none) .none) oper0 (by kernel_rfl) (by kernel_rfl) (laterF_in (Only.refl _ _).drew) ?_
      simp only [wpPlan, List.map_cons, List.map_nil, List.getD_cons_zero, List.getD_cons_succ, List.drop_succ_cons, List.drop_zero]
      repeat (first | go_big_quiet_skip | (go_big_quiet_want; go_big_quiet_op; go_big_quiet_on))
      refine wpQuiet_nil ?_
      refine ⟨?_, trivial⟩
      go_wp2_with fail
      refine strict_on ?_
      refine ⟨?_, ?_⟩
      · exact laterF_in (by repeat (first | exact Only.refl _ _ | apply Only.alloc | apply Only.drew))
      repeat (first | go_big_quiet_skip | (go_big_quiet_want; go_big_quiet_op; go_big_quiet_on))
      refine wpQuiet_nil ?_
      refine ⟨?_, trivial⟩
      go_wp2_with (at_builtin; refine wpList_append_row _ rfl _ _ 53 rfl base 3 i0 _ 1 8 Try.underlying53 HII.out HZ0.out HZ1.out HZ2.out rfl (.slice o2 c.length c2') c.length (intsC c) rfl (by repeat (first | exact R9.out | apply World.RowV.alloc | apply World.RowV.drew)) _ 1 _ rfl (by repeat (first | apply World.Src.drew | exact World.Src.one rfl rfl)) S1.out S2.out S3.out (by simp; omega) ?_; intro v' w5 hown hout; have HWN := Lib.hid hown; have HWO := Lib.hid hout; clear hown hout)
      refine strict_on ?_
      refine ⟨?_, ?_⟩
      · refine laterF_in (Only.trans ?_ (Only.out HWO.out (F := fun k => (Value.slice o2 c.length c2').rowBlock = some k) (fun k hk => hk)) (fun k hk => .inl hk))
        repeat (first | exact Only.refl _ _ | apply Only.alloc | apply Only.drew)
      repeat (first | go_big_quiet_skip | (go_big_quiet_want; go_big_quiet_op; go_big_quiet_on))
      refine wpQuiet_nil ?_
      have HO5 := Lib.hid (show Only (fun k => (Value.slice o2 c.length c2').rowBlock = some k) W1 w5 by
        refine Only.trans ?_ (Only.out HWO.out (F := fun k => (Value.slice o2 c.length c2').rowBlock = some k) (fun k hk => hk)) (fun k hk => .inl hk)
        repeat (first | exact Only.refl _ _ | apply Only.alloc | apply Only.drew))
      have m0 : w5.cell? ⟨g', i, none⟩ = some (.slice o2 c.length c2') := fi ⟨w5, HO5.out⟩
      have m1 : w5.frozen? ⟨g', i, none⟩ = false := fz ⟨w5, HO5.out⟩
      have m2 : g' < w5.heap.size := Nat.lt_of_lt_of_le h4' HO5.out.size
      obtain ⟨ov, cv, ev, _, _⟩ := HWN.out.form
      subst ev
      clear f0 f1 f4 f8 fi fz
      go_upto_region 6 with (fail)
      refine gen_world ?_
      intro W6 hW6
      have HO6 := Lib.hid (show TrOut w base xb db ab tb v av st (s.setCache (i : Int) (c ++ [p.slot])) (p.obj ab 184) W6 by
        rw [hW6]
        exact HK.out.then (tr_push HK.out.tr H3.out hi H8.out (by repeat (first | exact Only.refl _ _ | apply Only.alloc | apply Only.drew)) HWN.out HWO.out))
      clear hW6 m0 m1 m2 HWN HWO HO5 R9 HK h4' h5' alt lt
      obtain ⟨v6, av6, hs6⟩ := HO6.out
      have HS6 := Lib.hid hs6
      obtain ⟨b0, b1, b2, b3, b4, bz, blt⟩ := push_cells hs6.tr.t
      have HS7 := Lib.hid (fun os d => ashift_any (HS6.out.tr.more os d) HF.out.2.2 p.slot 1 (by omega))
      rw [← HSH.out] at HS7
      clear hs6 b2 b3 b4 bz HO6
      go_wp2
      refine wp_region_more_tail 11 (by kernel_rfl) (by kernel_rfl) ?_
      simp only [List.take_succ_cons, List.take_zero, List.drop_succ_cons, List.drop_zero]
      repeat (first | go_big_quiet_skip | (go_big_quiet_want; go_big_quiet_op; first | go_big_quiet_on | (apply Exists.intro; refine ⟨fun _ => ?_, ?_⟩; (focus (fail)); go_big_quiet_on)))
      refine wpQuiet_nil ?_
      intro osq dq
      go_wp2_with (go_at_call 107; refine (HS7.out _ _).mono ?_; rintro e w7 ⟨rfl, hq⟩; have HG := Lib.hid (TrOut.pre ((Only.refl _ W6).more _ _) HS6.out.tr hq); obtain ⟨v8, av8, hs8⟩ := HG.out; have HS8 := Lib.hid (HS6.out.trans hs8); obtain ⟨d0, d1, d2, d3, d4, dz, dlt⟩ := push_cells hs8.tr.t; have z2 := dz 2; clear hq HG hs8 b0 b1 blt d0 d1 d3 d4 dz)
      go_ret
      refine ⟨rfl, HS8.out.then (HS8.out.tr.put ?_ ?_)⟩
      · repeat (first | exact Only.refl _ _ | apply only_tb)
      · simp [World.setCell, Array.getElem?_modify, HS8.out.tr.t, TkPush.obj]
end Go.Proofs.Ytjcggokhminmoaa
