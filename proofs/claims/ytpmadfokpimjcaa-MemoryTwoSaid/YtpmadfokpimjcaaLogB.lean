/-
reclaimlaw02.logged: the entries of a log, up to most of them.
-/
import Derived.Test.YtpmadfokpimjcaaLogP
import Derived.Maps.OwnIn
namespace Go.Proofs.Ytpmadfokpimjcaa
open Go.ChangeShapes Go.WideShapes Go.ChangeAt Go.RowKit Go.Shelf

attribute [local go_sem] Oper.semAt_some

theorem iter_nil (a b : Value) (w : World) : (binOp BinOp.eql 57 (.func (.func 40) #[] #[a, b]) Value.nilFunc).run Try.prog w = .ok (.bool false) w := by
  kernel_rfl
theorem infoInt : (Try.prog.info? 3).map (fun i => (i.zero, i.size, i.bytes)) = some (some (.int .i64 0), 1, 8) := by kernel_rfl

theorem wpListIn_append_row {F : Fence} {nF : Nat} {P : Program} (w : World) {ops : Array Oper} {rest : List Oper} {o : Oper} {a : Act} {Q : Exit → Act → World → Prop} (hgd : o.guard = none) (s x : Operand) (t : TypeId)
    (ho : o.op = .call { callee := .builtin .append, args := #[s, x], argTypes := #[t, t] })
    (base : Nat) (e : TypeId) (i : TypeInfo) (z : Value) (size bytes : Nat) (ht : P.underlying t = some (.slice e)) (hi : P.info? e = some i) (hz : i.zero = some z)
    (hsize : i.size = size) (hby : i.bytes = bytes) (hzs : z.cells.size = size)
    (v : Value) (n : Nat) (xs : List Value) (hs : a.eval s = v) (hown : w.RowV base e size v n xs)
    (vx : Value) (m : Nat) (news : List Value) (hx : a.eval x = vx) (hsrc : w.Src size vx m news) (h1 : ∀ u ∈ news, u.oneCell' = true)
    (h63 : n + m ≤ maxLen) (hbytes : ((n + m) + (n + m) / 4 + 192) * bytes ≤ 281474976710656) (hbase : base ≤ w.heap.size)
    (h : ∀ v' w', w'.RowV base e size v' (n + m) (xs ++ news) → RowOut w w' v v' n m → wpListIn F nF P ops Q rest (a.put o.dst v') w') :
    wpListIn F nF P ops Q (o :: rest) a w := by
  refine wpListIn_plain hgd fun K hK => ?_
  obtain ⟨v', w', hr, h2, h3⟩ := run_append_src (P := P) w base t o.type e i z size bytes ht hi hz hsize hby hzs v n xs hown vx m news hsrc h1 h63 hbytes hbase
  unfold Oper.wpIn
  refine ⟨by simp [Oper.about, ho, resolve, Target.leads, Sem.run_pure], ?_⟩
  rw [Oper.semAt_plain F _ _ (by rw [ho]; intro c hc'; cases hc')]
  simp [execOp, ho, resolve, invoke, builtin, hs, hx, hr, Result.andThen]
  exact hK _ _ (h v' w' h2 h3)

/-- the frame and the box of a round of logged -/
def LogAx (w : World) (mb : Nat) (fr most : Int) (x : Nat × Acc) (a' : Act) (W : World) : Prop :=
  ∃ Bx, W.heap[Bx]? = some (.cells #[.int .i64 x.2.mv, .int .i64 x.2.th, .int .i64 x.2.kd, .int .i64 x.2.ad, .int .u64 x.2.old, .int .u64 x.2.nw, .int .u64 x.2.saw] 45 (0, 0)) ∧ a' = { tmps := #[.pointer (some ⟨mb, 0, none⟩), .int .i64 fr, .int .i64 most, undef, undef, .pointer (some ⟨w.heap.size, 0, none⟩), .slice none 0 0, .slice none 0 0, .bool false, .func (.func 40) #[] #[.pointer (some ⟨w.heap.size + 1, 0, none⟩), .pointer (some ⟨w.heap.size + 1 + 1, 0, none⟩)], .pointer (some ⟨w.heap.size + 1 + 1 + 1, 0, none⟩), .pointer (some ⟨w.heap.size + 1 + 1 + 1 + 1, 0, none⟩), .int .i64 (x.1 : Int), .pointer (some ⟨Bx, 0, none⟩), .pointer (some ⟨mb, 0, none⟩), .int .i64 fr, .func (.func 40) #[] #[.pointer (some ⟨w.heap.size + 1, 0, none⟩), .pointer (some ⟨w.heap.size + 1 + 1, 0, none⟩)], .func (.func 40) #[] #[.pointer (some ⟨w.heap.size + 1, 0, none⟩), .pointer (some ⟨w.heap.size + 1 + 1, 0, none⟩)], .bool false, .func (.func 40) #[] #[.pointer (some ⟨w.heap.size + 1, 0, none⟩), .pointer (some ⟨w.heap.size + 1 + 1, 0, none⟩)], .int .i64 (x.1 : Int), .agg #[.int .i64 x.2.mv, .int .i64 x.2.th, .int .i64 x.2.kd, .int .i64 x.2.ad, .int .u64 x.2.old, .int .u64 x.2.nw, .int .u64 x.2.saw], undef, undef, undef, undef, undef, undef, undef, undef, undef, undef, undef, undef, undef, undef], defers := [] }
theorem LogAx.ownFrom (w : World) (mb : Nat) (fr most : Int) (x : Nat × Acc) (a' : Act) (H : Nat) : OwnFrom H (fun (_ : Unit) W => LogAx w mb fr most x a' W) := by
  rintro _ W W' row ⟨Bx, h1, h2⟩ hg hr
  refine ⟨Bx, ?_, h2⟩
  rw [hg.block Bx (Array.getElem?_eq_some_iff.1 h1).1 (fun e => ?_)]
  · exact h1
  · obtain ⟨_, o, ho, hc⟩ := hr Bx e.symm
    rw [h1] at ho
    cases ho
    cases hc
theorem LogKp.alloc {nb lb : Nat} {W : World} (hn : nb < W.heap.size) (hl : lb < W.heap.size) (o : Obj) : LogKp (LogFoot nb lb) W (W.alloc o) := by
  have c : ∀ b, b < W.heap.size → (W.alloc o).cell? ⟨b, 0, none⟩ = W.cell? ⟨b, 0, none⟩ := fun b hb => World.cell?_of_block (Below.heap_alloc _ _ _ hb)
  refine ⟨by simp, fun k o' ho _ _ => by rw [Below.heap_alloc _ _ _ (Array.getElem?_eq_some_iff.1 ho).1]; exact ho, fun k hk => .inl ?_⟩
  rcases hk with hk | hk | ⟨v, hv, hk⟩ | ⟨v, hv, hk⟩
  · exact .inl hk
  · exact .inr (.inl hk)
  · exact .inr (.inr (.inl ⟨v, by rw [← c nb hn]; exact hv, hk⟩))
  · exact .inr (.inr (.inr ⟨v, by rw [← c lb hl]; exact hv, hk⟩))
theorem LogKp.putObj {nb lb l : Nat} {W : World} (hn : nb ≠ l) (hl : lb ≠ l) (o o' : Obj) (ho : W.heap[l]? = some o) (hc : o.isCells = false) : LogKp (LogFoot nb lb) W (W.putObj l o') := by
  have c : ∀ b, b ≠ l → (W.putObj l o').cell? ⟨b, 0, none⟩ = W.cell? ⟨b, 0, none⟩ := fun b hb => World.cell?_of_block (World.putObj_heap_other hb)
  refine ⟨by simp, fun k o2 h2 h3 _ => ?_, fun k hk => .inl ?_⟩
  · have hk : k ≠ l := fun e => by subst e; rw [ho] at h2; cases h2; rw [hc] at h3; cases h3
    rw [World.putObj_heap_other hk]
    exact h2
  · rcases hk with hk | hk | ⟨v, hv, hk⟩ | ⟨v, hv, hk⟩
    · exact .inl hk
    · exact .inr (.inl hk)
    · exact .inr (.inr (.inl ⟨v, by rw [← c nb hn]; exact hv, hk⟩))
    · exact .inr (.inr (.inr ⟨v, by rw [← c lb hl]; exact hv, hk⟩))

set_option maxRecDepth 100000 in
set_option maxHeartbeats 2000000 in
theorem logged_in {w : World} {base mb : Nat} {st : MemS} {v : MemV} (h : MemAt w base mb st v) (hl : st.log.length ≤ 3000000000000) (s : Nat) (fr most : Int) (hs : (fr = (s : Int)) ∨ (fr < 0 ∧ s = 0)) (n : Nat) (hn : 4 ≤ n) :
    CallsIn Fence.wide n Try.prog 21 #[.pointer (some ⟨mb, 0, none⟩), .int .i64 fr, .int .i64 most] w (Logged w st.log s most) := by
  have h1 : 1 ≤ n := by omega
  refine callsIn_of_wp_marks Try.func21 rfl trivial ?_ rfl
  simp only [Try.ntmps21, List.size_toArray, List.length_cons, List.length_nil, Nat.reduceAdd, Nat.reduceSub, Array.replicate_succ, Array.replicate_zero, List.push_toArray, List.append_toArray, List.nil_append, List.cons_append]
  have hq := fun a b w => iter_nil a b w
  gi_wp2_with (refine ⟨trivial, ?_⟩; gi_at_call 28; refine (callsIn_wide.2 (log_any _ _ _)).mono ?_; rintro e w1 ⟨rfl, rfl⟩)
  have hM : MemAt (((((w.alloc (.cells #[.int .i64 most] 3)).alloc (.cells #[.pointer (some ⟨mb, 0, none⟩)] 24)).alloc (.cells #[.int .i64 fr] 3)).alloc (.cells #[.slice none 0 0] 39)).alloc (.cells #[.slice none 0 0] 40)) base mb st v :=
    ((((h.alloc _).alloc _).alloc _).alloc _).alloc _
  obtain ⟨W0, hW0⟩ : ∃ W0, W0 = (((((w.alloc (.cells #[.int .i64 most] 3)).alloc (.cells #[.pointer (some ⟨mb, 0, none⟩)] 24)).alloc (.cells #[.int .i64 fr] 3)).alloc (.cells #[.slice none 0 0] 39)).alloc (.cells #[.slice none 0 0] 40)) := ⟨_, rfl⟩
  have hsz : W0.heap.size = w.heap.size + 1 + 1 + 1 + 1 + 1 := by rw [hW0]; simp
  have bm : Boxed W0 w.heap.size 3 (.int .i64 most) := by rw [hW0]; exact ((((Boxed.new _ _ _).alloc _).alloc _).alloc _).alloc _
  have bp : Boxed W0 (w.heap.size + 1) 24 (.pointer (some ⟨mb, 0, none⟩)) := by
    rw [hW0]; have := Boxed.new (w.alloc (.cells #[.int .i64 most] 3)) 24 (.pointer (some ⟨mb, 0, none⟩)); rw [World.size_alloc] at this; exact ((this.alloc _).alloc _).alloc _
  have bf : Boxed W0 (w.heap.size + 1 + 1) 3 (.int .i64 fr) := by
    rw [hW0]; have := Boxed.new ((w.alloc (.cells #[.int .i64 most] 3)).alloc (.cells #[.pointer (some ⟨mb, 0, none⟩)] 24)) 3 (.int .i64 fr); rw [World.size_alloc, World.size_alloc] at this; exact (this.alloc _).alloc _
  have bn : Boxed W0 (w.heap.size + 1 + 1 + 1) 39 (.slice none 0 0) := by
    rw [hW0]; have := Boxed.new (((w.alloc (.cells #[.int .i64 most] 3)).alloc (.cells #[.pointer (some ⟨mb, 0, none⟩)] 24)).alloc (.cells #[.int .i64 fr] 3)) 39 (.slice none 0 0); rw [World.size_alloc, World.size_alloc, World.size_alloc] at this; exact this.alloc _
  have bl : Boxed W0 (w.heap.size + 1 + 1 + 1 + 1) 40 (.slice none 0 0) := by
    rw [hW0]; have := Boxed.new ((((w.alloc (.cells #[.int .i64 most] 3)).alloc (.cells #[.pointer (some ⟨mb, 0, none⟩)] 24)).alloc (.cells #[.int .i64 fr] 3)).alloc (.cells #[.slice none 0 0] 39)) 40 (.slice none 0 0); rw [World.size_alloc, World.size_alloc, World.size_alloc, World.size_alloc] at this; exact this
  have hb0 : Below w.heap.size w W0 := by rw [hW0]; exact ((((((Below.refl _ w).alloc1 _).alloc1 _).alloc1 _).alloc1 _).alloc1 _)
  rw [← hW0] at hM ⊢
  clear hW0
  have hF : ∀ W, Below W0.heap.size W0 W → ∀ k, LogFoot (w.heap.size + 1 + 1 + 1) (w.heap.size + 1 + 1 + 1 + 1) W k → k < W0.heap.size := by
    rintro W hW k (hk | hk | ⟨u, hu, hk⟩ | ⟨u, hu, hk⟩)
    · omega
    · omega
    · rw [hW.cell (p := ⟨w.heap.size + 1 + 1 + 1, 0, none⟩) (show w.heap.size + 1 + 1 + 1 < W0.heap.size by omega), bn.cell] at hu
      cases hu
      simp [Value.rowBlock] at hk
    · rw [hW.cell (p := ⟨w.heap.size + 1 + 1 + 1 + 1, 0, none⟩) (show w.heap.size + 1 + 1 + 1 + 1 < W0.heap.size by omega), bl.cell] at hu
      cases hu
      simp [Value.rowBlock] at hk
  have hI0 : LogI w W0.heap.size w.heap.size (w.heap.size + 1 + 1 + 1) (w.heap.size + 1 + 1 + 1 + 1) most [] W0 :=
    ⟨_, _, bn, bl, bm, World.RowV_none _ _ _ _ _, World.RowV_none _ _ _ _ _, by simp [Value.rowBlock], hb0, Nat.le_refl _, .inr rfl, by omega⟩
  refine wpIn_rangeFunc_ownH rfl h1 (gf := 40) (lb := #[.pointer (some ⟨w.heap.size + 1, 0, none⟩), .pointer (some ⟨w.heap.size + 1 + 1, 0, none⟩)]) rfl trivial (enters_of Try.func40 (by kernel_rfl) rfl)
    (log_stops hM hl (w.heap.size + 1) (w.heap.size + 1 + 1) s fr hs (n - 1) (by omega) (LogFoot (w.heap.size + 1 + 1 + 1) (w.heap.size + 1 + 1 + 1 + 1)) hF bp.cell bf.cell) LogKp.trans (fun W l o o' hl' ho hc _ => LogKp.putObj (by omega) (by omega) o o' ho hc) (Below.refl _ _) (fun _ => rfl)
    (LogI w W0.heap.size w.heap.size (w.heap.size + 1 + 1 + 1) (w.heap.size + 1 + 1 + 1 + 1) most)
    (LogIx w W0.heap.size w.heap.size (w.heap.size + 1 + 1 + 1) (w.heap.size + 1 + 1 + 1 + 1) most)
    LogI.ownFrom (fun c ps W W' row ⟨pre, x, e1, e2, hI, e3⟩ hg hr => ⟨pre, x, e1, e2, LogI.ownFrom pre W W' row hI hg hr, e3⟩) hI0
    (LogAx w mb fr most) (fun x a' => LogAx.ownFrom _ _ _ _ _ _ _) ?assign ?body ?done ?stop
  case assign =>
    intro l pre x W K hI hK
    obtain ⟨vn, vl, hV⟩ := hI
    simp only [encItem]
    gi_wp2
    exact hK _ _ ((KeepsOthers.alloc _ _).from _) (LogKp.alloc hV.bn.lt hV.bl.lt _) ⟨vn, vl, hV.of_grown (World.grownBy_alloc _ _ none) (fun r e => by cases e)⟩ ⟨W.heap.size, heap_alloc_new W _, rfl⟩
  case body =>
    rintro l pre x a' W hl' hr ⟨vn, vl, hV⟩ ⟨Bx, hB, rfl⟩ hlt
    obtain ⟨on, cn, rfl, f1, f2⟩ := hV.rn.form
    obtain ⟨ol, cl, rfl, f3, f4⟩ := hV.rl.form
    unfold maxLen at f2 f4
    obtain ⟨b1, b2, b3⟩ := boxF hV.bn
    obtain ⟨b4, b5, b6⟩ := boxF hV.bl
    obtain ⟨b7, b8, b9⟩ := boxF hV.bm
    have t0 : W.cell? ⟨Bx, 0, none⟩ = some (.int .i64 x.2.mv) := by simp [World.cell?, hB]
    have hne : w.heap.size + 1 + 1 + 1 ≠ Bx := fun e => by
      have := hV.bn
      unfold Boxed at this
      rw [e, hB] at this
      simp at this
    have hne' : Bx ≠ w.heap.size + 1 + 1 + 1 := Ne.symm hne
    have HV := Lib.hid hV
    have HB := Lib.hid hB
    clear hV hr hM hI0 hF bm bp bf bn bl hb0 h hB hsz t0
    by_cases hm : (pre.length : Int) < most
    · obtain ⟨i0, hi, hz0, hz1, hz2⟩ := info_parts infoInt
      obtain ⟨j0, ji, jz0, jz1, jz2⟩ := info_parts infoAcc
      have HI := Lib.hid hi
      have HZ0 := Lib.hid hz0
      have HZ1 := Lib.hid hz1
      have HZ2 := Lib.hid hz2
      have JI := Lib.hid ji
      have JZ0 := Lib.hid jz0
      have JZ1 := Lib.hid jz1
      have JZ2 := Lib.hid jz2
      have S1 := Lib.hid (show ∀ u ∈ [Value.int .i64 (x.1 : Int)], u.oneCell' = true by simp [Value.oneCell'])
      have S2 := Lib.hid (show pre.length + 1 ≤ maxLen by unfold maxLen; omega)
      have S3 := Lib.hid (show ((pre.length + 1) + (pre.length + 1) / 4 + 192) * 8 ≤ 281474976710656 by omega)
      have S4 := Lib.hid (show ((pre.length + 1) + (pre.length + 1) / 4 + 192) * 56 ≤ 281474976710656 by omega)
      have S5 := Lib.hid (show ∀ u ∈ x.2.cells, u.oneCell' = true by simp [Acc.cells, Value.oneCell'])
      have HH := Lib.hid (show W0.heap.size ≤ W.heap.size + 1 from Nat.le_succ_of_le HV.out.hH)
      clear hi hz0 hz1 hz2 ji jz0 jz1 jz2
      gi_wp2_with (first
        | (gi_at_builtin; refine wpListIn_append_row _ rfl _ _ 39 rfl W0.heap.size 3 i0 _ 1 8 Try.underlying39 HI.out HZ0.out HZ1.out HZ2.out rfl (.slice on pre.length cn) pre.length (nums pre) rfl (HV.out.rn.alloc _) _ 1 _ rfl (World.Src.one rfl rfl) S1.out S2.out S3.out (by have := HH.out; simp; omega) ?_; intro v1 w1 hown1 hout1; obtain ⟨o1, c1, rfl, q1, q2⟩ := hown1.form; obtain ⟨m1, m2, m3, m4, m5⟩ := HV.out.mid hout1 HB.out; obtain ⟨p1, p2, p3⟩ := boxF m1; obtain ⟨p4, p5, p6⟩ := boxF m2; have HO1 := Lib.hid hown1; have HU1 := Lib.hid hout1; obtain ⟨r0, r1, r2, r3, r4, r5, r6⟩ := boxA m3; clear hown1 hout1 m1 m2 m3 q2)
        | (gi_at_builtin; refine wpListIn_append_row _ rfl _ _ 40 rfl W0.heap.size 45 j0 _ 7 56 Try.underlying40 JI.out JZ0.out JZ1.out JZ2.out rfl (.slice ol pre.length cl) pre.length (ents pre) rfl (HV.out.row2 HU1.out _ _) _ 1 _ rfl (World.Src.one rfl (by simp [World.setCell])) S5.out S2.out S4.out (by have := HH.out; have := HU1.out.size; simp [World.setCell] at this ⊢; omega) ?_; intro v2 w2 hown2 hout2; obtain ⟨o2, c2, rfl, q3, q4⟩ := hown2.form; obtain ⟨g1, g2, g3⟩ := boxF (HV.out.mid2 HU1.out hout2); have HS := Lib.hid (HV.out.step x hm HO1.out HU1.out hown2 hout2); clear hown2 hout2 q4))
      exact ⟨HS.out.2.2, HS.out.2.1, _, _, HS.out.1⟩
    · gi_wp2
      exact ⟨KeepsFrom.refl _ _, pre, x, rfl, rfl, ⟨_, _, HV.out⟩, by omega⟩
  case done =>
    rintro D xs W hD rfl hI hK
    obtain ⟨vn, vl, hV⟩ := hI
    obtain ⟨on, cn, rfl, f1, f2⟩ := hV.rn.form
    obtain ⟨ol, cl, rfl, f3, f4⟩ := hV.rl.form
    obtain ⟨b1, b2, b3⟩ := boxF hV.bn
    obtain ⟨b4, b5, b6⟩ := boxF hV.bl
    have HL := Lib.hid (fun W2 (hg : W.grownBy W2 (some D)) => (hV.of_grown hg (fun r e => by cases e; exact ⟨hD, _, hK, rfl⟩)).logged_all rfl)
    have HK := Lib.hid hK
    clear hV hK hM hI0 hF bm bp bf bn bl hb0 h hsz
    gi_wp2
    gi_region
    gi_wp2
    refine ⟨by simp, .inl ⟨_, _, rfl, run_takeDeferred HK.out, ?_⟩⟩
    exact ⟨.tuple #[.slice on _ cn, .slice ol _ cl, .bool true], by simp [results, Try.results21, go_sem], HL.out _ (grown_drew_put W D _)⟩
  case stop =>
    rintro D c ps W hD hp ⟨pre, x, rfl, rfl, ⟨vn, vl, hV⟩, hm⟩ hK
    obtain ⟨on, cn, rfl, f1, f2⟩ := hV.rn.form
    obtain ⟨ol, cl, rfl, f3, f4⟩ := hV.rl.form
    obtain ⟨b1, b2, b3⟩ := boxF hV.bn
    obtain ⟨b4, b5, b6⟩ := boxF hV.bl
    have HL := Lib.hid (fun W2 (hg : W.grownBy W2 (some D)) => (hV.of_grown hg (fun r e => by cases e; exact ⟨hD, _, hK, rfl⟩)).logged_some hp hm)
    have HK := Lib.hid hK
    clear hV hK hM hI0 hF bm bp bf bn bl hb0 h hsz hp hm
    gi_wp2
    gi_region
    gi_wp2
    refine ⟨by simp, .inl ⟨_, _, rfl, run_takeDeferred HK.out, ?_⟩⟩
    exact ⟨.tuple #[.slice on _ cn, .slice ol _ cl, .bool true], by simp [results, Try.results21, go_sem], HL.out _ (grown_drew_put W D _)⟩

theorem logged_any {w : World} {base mb : Nat} {st : MemS} {v : MemV} (h : MemAt w base mb st v) (hl : st.log.length ≤ 3000000000000) (s : Nat) (fr most : Int) (hs : (fr = (s : Int)) ∨ (fr < 0 ∧ s = 0)) :
    Calls Try.prog 21 #[.pointer (some ⟨mb, 0, none⟩), .int .i64 fr, .int .i64 most] w (Logged w st.log s most) :=
  callsIn_wide.1 (logged_in h hl s fr most hs 9 (by omega))
end Go.Proofs.Ytpmadfokpimjcaa
