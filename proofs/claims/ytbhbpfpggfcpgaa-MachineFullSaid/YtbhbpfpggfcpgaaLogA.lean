/-
slices.Clone at []api.Access; memory.Log and what its iterator gives.
-/
import Derived.Test.YtbhbpfpggfcpgaaMemD
import Derived.RangeFuncNested
import Derived.RangeFuncBound
import Derived.RangeFuncCalls
import Derived.RangeFuncLeaves
import Derived.Shelf.Abstract
import Derived.Shelf.RegionOpen
import Derived.OwnWalkIn
import Derived.TacticsInMore
import Derived.LoopNIn
import Derived.LoopIn
namespace Go.Proofs.Ytbhbpfpggfcpgaa
open Go.ChangeShapes Go.WideShapes Go.ChangeAt Go.RowKit Go.Shelf

attribute [local go_sem] Oper.semAt_some

set_option maxRecDepth 100000 in
theorem clone_acc {w : World} {vx : Value} {l : List Acc} (hs : w.Src 7 vx l.length (accs l)) (hn : l.length ≤ 3000000000000) : Calls Try.prog 70 #[vx] w (Cloned w 66 7 l.length (accs l)) := by
  obtain ⟨i0, hi, hz0, hz1, hz2⟩ := info_parts infoAcc
  have HI := Lib.hid hi
  have HZ0 := Lib.hid hz0
  have HZ1 := Lib.hid hz1
  have HZ2 := Lib.hid hz2
  clear hi hz0 hz1 hz2
  have HS := Lib.hid hs
  rcases hs.2 with ⟨rfl, h0⟩ | ⟨ad, c, rfl, hc, _⟩
  · obtain rfl : l = [] := List.eq_nil_of_length_eq_zero h0
    have hq := fun w => Lib.run_eql_slice_nil (P := Try.prog) w 38 66 none 0 0 0 0 Try.underlying38
    clear hs HS
    go_enter Try.func70, Try.ntmps70
    go_wp2
    go_ret
    exact ⟨none, 0, rfl, Nat.le_refl _, by omega, World.RowV_none _ _ _ _ _, Only.refl _ _⟩
  · have hq := fun w => Lib.run_eql_slice_nil (P := Try.prog) w 38 66 (some ad) l.length c 0 0 Try.underlying38
    have S1 := Lib.hid (accs_one l)
    have S2 := Lib.hid (show 0 + l.length ≤ maxLen by unfold maxLen; omega)
    have S3 := Lib.hid (show ((0 + l.length) + (0 + l.length) / 4 + 192) * 56 ≤ 281474976710656 by omega)
    clear hs
    go_enter Try.func70, Try.ntmps70
    go_wp2_with (at_builtin; refine wpList_append_row _ rfl _ _ 38 rfl w.heap.size 66 i0 _ 7 56 Try.underlying38 HI.out HZ0.out HZ1.out HZ2.out rfl (.slice (some ⟨w.heap.size, 0, none⟩) 0 0) 0 [] rfl (World.RowV_none _ _ _ _ _) _ l.length (accs l) rfl (HS.out.alloc _) S1.out S2.out S3.out (by simp) ?_; intro v' w1 hown hout; obtain ⟨o', c', rfl, hn', hm'⟩ := hown.form; have H1 := Lib.hid hown; have H2 := Lib.hid hout; clear hown hout; unfold maxLen at hm')
    go_ret
    exact ⟨o', c', rfl, by omega, by omega, by simpa using H1.out, Only.trans ((Only.refl _ _).alloc _) (Only.out (F := fun _ => False) H2.out (by simp [Value.rowBlock])) (fun _ h => h.elim)⟩


theorem log_any (p : Option Addr) (from_ : Int) (w : World) : Calls Try.prog 57 #[.pointer p, .int .i64 from_] w fun e w' =>
    e = .returned (.func (.func 69) #[] #[.pointer (some ⟨w.heap.size, 0, none⟩), .pointer (some ⟨w.heap.size + 1, 0, none⟩)]) ∧ w' = (w.alloc (.cells #[.pointer p] 93)).alloc (.cells #[.int .i64 from_] 3) := by
  go_enter Try.func57, Try.ntmps57
  go_wp2
  go_ret
  exact ⟨rfl, rfl⟩

/-- what a round of a loop over the log keeps: it may write what Foot tells, and what is new -/
structure LogKp (Foot : World → Nat → Prop) (A B : World) : Prop where
  size : A.heap.size ≤ B.heap.size
  block : ∀ k o, A.heap[k]? = some o → o.isCells = true → ¬ Foot A k → B.heap[k]? = some o
  foot : ∀ k, Foot B k → Foot A k ∨ A.heap.size ≤ k
theorem LogKp.trans {Foot : World → Nat → Prop} {A B C : World} (h : LogKp Foot A B) (k : LogKp Foot B C) : LogKp Foot A C :=
  ⟨Nat.le_trans h.size k.size, fun i o ho hc hn => k.block i o (h.block i o ho hc hn) hc (fun hf => by
      rcases h.foot i hf with h1 | h1
      · exact hn h1
      · have := (Array.getElem?_eq_some_iff.1 ho).1; omega),
    fun i hi => by
      rcases k.foot i hi with h1 | h1
      · exact h.foot i h1
      · exact .inr (Nat.le_trans h.size h1)⟩

instance : Inhabited Acc := ⟨⟨0, 0, 0, 0, 0, 0, 0⟩⟩
/-- the entries from s up to k -/
def items (log : List Acc) (s k : Nat) : List (Nat × Acc) := (List.range' s (k - s)).map fun i => (i, log.getD i default)
theorem items_len (log : List Acc) (s k : Nat) : (items log s k).length = k - s := by simp [items]
theorem items_snoc (log : List Acc) (s k : Nat) (h : s ≤ k) : items log s (k + 1) = items log s k ++ [(k, log.getD k default)] := by
  unfold items
  rw [show k + 1 - s = (k - s) + 1 by omega, List.range'_concat, List.map_append]
  simp only [List.map_cons, List.map_nil]
  rw [show s + 1 * (k - s) = k by omega]
theorem items_none (log : List Acc) (s k : Nat) (h : k ≤ s) : items log s k = [] := by
  unfold items
  rw [show k - s = 0 by omega]
  rfl
theorem items_prefix (log : List Acc) (s k n : Nat) (h : k ≤ n) : items log s k <+: items log s n := by
  by_cases hs : s ≤ k
  · unfold items
    rw [show n - s = (k - s) + (n - k) by omega, ← List.range'_append_1, List.map_append]
    exact List.prefix_append _ _
  · rw [items_none log s k (by omega)]
    exact List.nil_prefix
def encItem (x : Nat × Acc) : Array Value := #[.int .i64 (x.1 : Int), .agg #[.int .i64 x.2.mv, .int .i64 x.2.th, .int .i64 x.2.kd, .int .i64 x.2.ad, .int .u64 x.2.old, .int .u64 x.2.nw, .int .u64 x.2.saw]]

theorem accs_get (l : List Acc) : ∀ (i j : Nat), i < l.length → j < 7 → (accs l)[i * 7 + j]? = (l.getD i default).cells[j]? := by
  induction l with
  | nil => intro i j h; simp at h
  | cons a l ih =>
    intro i j hi hj
    have e : accs (a :: l) = a.cells ++ accs l := by simp [accs]
    rw [e]
    cases i with
    | zero =>
      rw [List.getElem?_append_left (by simp [Acc.cells]; omega)]
      simp
    | succ i =>
      rw [List.getElem?_append_right (by simp [Acc.cells]; omega)]
      have : (i + 1) * 7 + j - a.cells.length = i * 7 + j := by simp [Acc.cells]; omega
      rw [this, ih i j (by simpa using hi) hj]
      simp

set_option maxRecDepth 100000 in
set_option maxHeartbeats 1000000 in
/-- what the iterator of a memory's log does -/
theorem log1_in {w : World} {base mb : Nat} {st : MemS} {v : MemV} (h : MemAt w base mb st v) (hl : st.log.length ≤ 3000000000000) (Bm Bf : Nat) (s : Nat) (fr : Int) (hs : (fr = (s : Int)) ∨ (fr < 0 ∧ s = 0)) (n : Nat) (hn : 1 ≤ n)
    (Foot : World → Nat → Prop) (hF : ∀ W, Below w.heap.size w W → ∀ k, Foot W k → k < w.heap.size)
    (hBm : w.cell? ⟨Bm, 0, none⟩ = some (.pointer (some ⟨mb, 0, none⟩))) (hBf : w.cell? ⟨Bf, 0, none⟩ = some (.int .i64 fr))
    (l : Nat) (J Jx : List (Nat × Acc) → World → Prop) (W : World) (hW : Below w.heap.size w W) (hJ : AbidesFrom W.heap.size J)
    (hY : ∀ pre x W1, J pre W1 → pre.length < st.log.length → YieldAt Fence.wide (n - 1) Try.prog l (encItem x) W1 fun e W' =>
      (e = .returned (.bool true) ∧ J (pre ++ [x]) W' ∧ LogKp Foot W1 W') ∨ (e = .returned (.bool false) ∧ Jx (pre ++ [x]) W')) (h0 : J [] W) :
    CallsIn Fence.wide n Try.prog 69 #[.func (.yield l) #[] #[], .pointer (some ⟨Bm, 0, none⟩), .pointer (some ⟨Bf, 0, none⟩)] W fun e W' => (∃ v, e = .returned v) ∧
      ((∃ xs, xs = items st.log s st.log.length ∧ J xs W') ∨ (∃ pre, pre <+: items st.log s st.log.length ∧ Jx pre W')) := by
  have lBm := World.block_lt_of_cell? w _ hBm
  have lBf := World.block_lt_of_cell? w _ hBf
  have hBm' : W.cell? ⟨Bm, 0, none⟩ = some (.pointer (some ⟨mb, 0, none⟩)) := (hW.cell (p := ⟨Bm, 0, none⟩) lBm).trans hBm
  have hBf' : W.cell? ⟨Bf, 0, none⟩ = some (.int .i64 fr) := (hW.cell (p := ⟨Bf, 0, none⟩) lBf).trans hBf
  have hM : MemAt W base mb st v := h.of_block fun k hk => hW.block k (h.lt k hk).2
  obtain ⟨c0, c1, c2, c3, z, lt⟩ := hM.head
  have HC := Lib.hid (clone_acc hM.rl.src hl)
  obtain ⟨ow, cw, ol, cl, oa, ca, rfl, l1, l2, l3, m1, m2, m3⟩ := hM.slices
  clear h hM hBm hBf
  have hx : ∀ w1 : World, Only (fun _ => False) W w1 → w1.cell? ⟨Bf, 0, none⟩ = some (.int .i64 fr) := fun w1 ho => (ho.cellAt (p := ⟨Bf, 0, none⟩) (Nat.lt_of_lt_of_le lBf hW.size) (fun x => x)).trans hBf'
  have HX := Lib.hid hx
  have HW := Lib.hid hW
  have HJ := Lib.hid hJ
  have HY := Lib.hid hY
  have HF := Lib.hid hF
  have H0 := Lib.hid h0
  clear hx hW hJ hY hF h0 hBf'
  have hs' : (fr = (s : Int) ∧ 0 < s) ∨ (fr = 0 ∧ s = 0) ∨ (fr < 0 ∧ s = 0) := by omega
  clear hs
  have hs'' : (fr = (s : Int) ∧ 0 < s ∧ Hid (s = s)) ∨ (fr = 0 ∧ 0 ≤ s ∧ Hid (s = 0)) ∨ (fr < 0 ∧ 0 ≤ s ∧ Hid (s = 0)) := by
    rcases hs' with ⟨h1, h2⟩ | ⟨h1, h2⟩ | ⟨h1, h2⟩
    · exact .inl ⟨h1, h2, Lib.hid rfl⟩
    · exact .inr (.inl ⟨h1, Nat.zero_le _, Lib.hid h2⟩)
    · exact .inr (.inr ⟨h1, Nat.zero_le _, Lib.hid h2⟩)
  clear hs'
  rcases hs'' with ⟨rfl, hs0, hs1⟩ | ⟨rfl, hs0, hs1⟩ | ⟨hfr, hs0, hs1⟩
  all_goals
    refine callsIn_of_wp Try.func69 rfl trivial ?_ rfl
    simp only [Try.ntmps69, List.size_toArray, List.length_cons, List.length_nil, Nat.reduceAdd, Nat.reduceSub, Array.replicate_succ, Array.replicate_zero, List.push_toArray, List.append_toArray, List.nil_append, List.cons_append]
    gi_wp2_with (refine ⟨trivial, ?_⟩; gi_at_call 70; refine (callsIn_wide.2 HC.out).mono ?_; rintro e w1 ⟨o', c', rfl, hn', hm', hr, ho⟩; have hBf1 := HX.out w1 ho; have HR := Lib.hid hr; have HO := Lib.hid ho; clear hr ho)
    have hg : W.grownBy w1 none := ⟨HO.out.os, HO.out.tape, HO.out.output, HO.out.size, fun k hk _ => HO.out.block k hk (fun x => x)⟩
    have HJ1 := Lib.hid (HJ.out [] W w1 none H0.out hg (fun r e => by cases e))
    have HC1 : Hid (∀ C, (Value.slice o' st.log.length c').rowBlock = some C → ¬ Foot w1 C) := fun C hC hf => by
      have h1 := HF.out w1 (HW.out.trans ((Only.below HO.out (fun _ h => h.elim) (Nat.le_refl _)).mono HW.out.size)) C hf
      have h2 := (HR.out.lt C hC).1
      have := HW.out.size
      omega
    clear hg hBf1 hBm' c0 c1 c2 c3 z lt HX H0
    gi_loopw [5] (fun p wr => ∃ k : Nat, p = .int .i64 (k : Int) ∧ s ≤ k ∧ Hid (k ≤ st.log.length ∨ k = s) ∧ Hid (J (items st.log s k) wr) ∧ Hid (wr.RowV W.heap.size 66 7 (.slice o' st.log.length c') st.log.length (accs st.log)) ∧ Hid (∀ C, (Value.slice o' st.log.length c').rowBlock = some C → ¬ Foot wr C))
      (fun p _ => st.log.length - (intOf p).toNat)
    case atStart =>
      refine ⟨s, ?_, Nat.le_refl _, Lib.hid (.inr rfl), by rw [items_none _ _ _ (Nat.le_refl _)]; exact HJ1, HR, HC1⟩
      first
      | rfl
      | (rw [hs1.out]; rfl)
    case round =>
      obtain ⟨k, rfl, hk, hks, hJk, hRk, hCk⟩ := hrel
      by_cases hlt : k < st.log.length
      · obtain ⟨C, cap, e, h1, h2, h3, h4, h5, h6⟩ := hRk.out.some_form (by omega)
        cases e
        have hc0 := h6 (k * 7 + 0) _ (accs_get st.log k 0 hlt (by omega))
        have hc1 := h6 (k * 7 + 1) _ (accs_get st.log k 1 hlt (by omega))
        have hc2 := h6 (k * 7 + 2) _ (accs_get st.log k 2 hlt (by omega))
        have hc3 := h6 (k * 7 + 3) _ (accs_get st.log k 3 hlt (by omega))
        have hc4 := h6 (k * 7 + 4) _ (accs_get st.log k 4 hlt (by omega))
        have hc5 := h6 (k * 7 + 5) _ (accs_get st.log k 5 hlt (by omega))
        have hc6 := h6 (k * 7 + 6) _ (accs_get st.log k 6 hlt (by omega))
        have hsn := Lib.hid (items_snoc st.log s k hk)
        obtain ⟨fn, tmps, assign, body, hy, hR⟩ := HY.out (items st.log s k) (k, st.log.getD k default) wr hJk.out (by rw [items_len]; omega)
        simp only [encItem] at hy
        generalize st.log.getD k default = x at *
        simp only [Nat.add_zero] at hc0
        clear h5 h6
        gi_wp2
        refine hR.mono ?_
        rintro e W3 (⟨rfl, hJ3, hk3⟩ | ⟨rfl, hJx3⟩)
        · gi_wp2
          go_roundw
          case rel =>
            refine ⟨k + 1, by go_num, by omega, Lib.hid (.inl (by omega)), by rw [hsn.out]; exact hJ3, ?_, ?_⟩
            · refine hRk.out.of_block fun i hi => ?_
              have hi' : i = C := by rw [h4] at hi; cases hi; rfl
              subst hi'
              rcases hRk.out.2 with ⟨o, _, h0'⟩ | ⟨g', cap', cur, e', _, hgg, _⟩
              · omega
              · cases e'
                rw [hgg]
                exact hk3.block _ _ hgg rfl (hCk.out _ h4)
            · intro i hi hf
              have hi' : i = C := by rw [h4] at hi; cases hi; rfl
              subst hi'
              rcases hk3.foot _ hf with h5 | h5
              · exact hCk.out _ h4 h5
              · omega
          case measure => simp [intOf]; omega
        · gi_wp2
          refine bodyPost_ret (results_none rfl _ _ _) rfl ?_
          exact ⟨⟨_, rfl⟩, .inr ⟨_, by rw [← hsn.out]; exact items_prefix _ _ _ _ (by omega), hJx3⟩⟩
      · gi_wp2
        go_end0
        refine ⟨⟨_, rfl⟩, .inl ⟨items st.log s k, ?_, hJk.out⟩⟩
        rcases hks.out with h1 | h1
        · rw [show k = st.log.length by omega]
        · rw [items_none _ _ _ (by omega), items_none _ _ _ (by omega)]

/-- what memory.Log hands back gives the log, from an entry on -/
theorem log_stops {w : World} {base mb : Nat} {st : MemS} {v : MemV} (h : MemAt w base mb st v) (hl : st.log.length ≤ 3000000000000) (Bm Bf : Nat) (s : Nat) (fr : Int) (hs : (fr = (s : Int)) ∨ (fr < 0 ∧ s = 0)) (n : Nat) (hn : 1 ≤ n)
    (Foot : World → Nat → Prop) (hF : ∀ W, Below w.heap.size w W → ∀ k, Foot W k → k < w.heap.size)
    (hBm : w.cell? ⟨Bm, 0, none⟩ = some (.pointer (some ⟨mb, 0, none⟩))) (hBf : w.cell? ⟨Bf, 0, none⟩ = some (.int .i64 fr)) :
    SeqStopsK Fence.wide n Try.prog 69 #[.pointer (some ⟨Bm, 0, none⟩), .pointer (some ⟨Bf, 0, none⟩)] encItem (LogKp Foot) (fun xs => xs = items st.log s st.log.length) (fun pre => pre <+: items st.log s st.log.length) st.log.length w :=
  fun l J Jx W hW hJ _ hY h0 => log1_in h hl Bm Bf s fr hs n hn Foot hF hBm hBf l J Jx W hW hJ hY h0
end Go.Proofs.Ytbhbpfpggfcpgaa
