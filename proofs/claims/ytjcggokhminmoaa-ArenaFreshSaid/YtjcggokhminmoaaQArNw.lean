/-
arena.New: the arena as it is made.
-/
import Derived.Test.YtjcggokhminmoaaQArCa
import Derived.Test.YtjcggokhminmoaaQArIn
namespace Go
open Go.RowKit
open Go.Proofs.Ytjcggokhminmoaa

/-- the arena on its way: the slots below k are laid -/
def arPart (c0 c1 c2 c3 c4 c5 c6 : Int) (u k : Nat) : ArS := ⟨c0, c1, c2, c3, c4, c5, c6, (List.range c5.toNat).map (fun i => if i < k then (if i < u then 3 else 0, -1) else (0, 0)), List.replicate c0.toNat []⟩
section
variable {c0 c1 c2 c3 c4 c5 c6 : Int} {u k : Nat}
theorem arPart_ok (h : okCfg c0 c1 c2 c3 c4 c5 c6 = true) : (arPart c0 c1 c2 c3 c4 c5 c6 u k).Ok := by
  obtain ⟨b0, b1, b2, b3, b4, b5, b6, bm⟩ := ok_bounds h
  exact ⟨h, by simp [arPart]; omega, by simp [arPart]; omega⟩
theorem arPart_end (h : c5.toNat ≤ k) : arPart c0 c1 c2 c3 c4 c5 c6 u k = arNew c0 c1 c2 c3 c4 c5 c6 u := by
  unfold arPart arNew
  simp only [ArS.mk.injEq, true_and, and_true]
  apply List.ext_getElem
  · simp
  · intro i h1 h2
    have : i < k := by simp at h1; omega
    simp [this]
theorem arPart_len : (arPart c0 c1 c2 c3 c4 c5 c6 u k).slots.length = c5.toNat := by simp [arPart]
theorem arPart_step (_hk : k < c5.toNat) : { arPart c0 c1 c2 c3 c4 c5 c6 u k with slots := (arPart c0 c1 c2 c3 c4 c5 c6 u k).slots.set k (if k < u then 3 else 0, -1) } = arPart c0 c1 c2 c3 c4 c5 c6 u (k + 1) := by
  unfold arPart
  simp only [ArS.mk.injEq, true_and, and_true]
  apply List.ext_getElem
  · simp
  · intro i h1 h2
    rw [List.getElem_set]
    by_cases e : k = i
    · subst e
      simp
    · rw [if_neg e]
      have : (i < k) = (i < k + 1) := propext (by omega)
      simp only [List.getElem_map, List.getElem_range, this]
theorem arPart_zero : slotsC (arPart c0 c1 c2 c3 c4 c5 c6 u 0).slots = List.replicate (c5.toNat * 2) (.int .i64 0) := by
  apply List.ext_getElem?
  intro i
  by_cases hi : i < c5.toNat * 2
  · have h1 : i / 2 < (arPart c0 c1 c2 c3 c4 c5 c6 u 0).slots.length := by rw [arPart_len]; omega
    have h2 := slotsC_get (arPart c0 c1 c2 c3 c4 c5 c6 u 0).slots (i / 2) (i % 2) h1 (by omega)
    rw [show i / 2 * 2 + i % 2 = i by omega] at h2
    rw [h2, List.getElem?_replicate, if_pos hi]
    have h3 : (arPart c0 c1 c2 c3 c4 c5 c6 u 0).slots[i / 2] = (0, 0) := by simp [arPart]
    rw [h3]
    rcases Nat.mod_two_eq_zero_or_one i with e | e <;> rw [e] <;> rfl
  · rw [List.getElem?_eq_none (by rw [slotsC_len, arPart_len]; omega), List.getElem?_eq_none (by simp; omega)]
end
theorem made_two (n : Nat) : (madeCells (Value.agg #[.int .i64 0, .int .i64 0]).cells (n * 2)).toList = List.replicate (n * 2) (.int .i64 0) := by
  unfold madeCells
  apply List.ext_getElem
  · simp
  · intro i h1 h2
    simp only [Array.getElem_toList, List.getElem_replicate, Value.cells]
    rcases Nat.mod_two_eq_zero_or_one i with e | e <;> simp [e]
theorem made_nils (n : Nat) : (madeCells (Value.slice none 0 0).cells (n * 1)).toList = List.replicate n (.slice none 0 0) := by
  unfold madeCells
  apply List.ext_getElem
  · simp
  · intro i h1 h2
    simp [Value.cells, Nat.mod_one]
theorem World.RowV.fromOwns {w : World} {base e size n : Nat} {v : Value} {xs : List Value} (h : w.ownsRow base e size v n xs) (hn : 0 < n) : w.RowV base e size v n xs := by
  refine ⟨h.1, ?_⟩
  rcases h.2 with ⟨_, h0⟩ | ⟨g, cap, cur, e1, hb, hg, h1, h2, h3, h4⟩
  · omega
  · exact .inr ⟨g, cap, cur, e1, hb, hg, h1, by omega, h2, by rw [h3]; exact Nat.le_refl _, h4⟩
/-- two writes of one slot -/
theorem ArAt.putTwo {w : World} {base ab g i : Nat} {s : ArS} {v : ArV} (h : ArAt w base ab s v) (hg : v.vsl.rowBlock = some g) (hi : i < s.slots.length) (x y : Int) :
    ArAt ((w.setCell ⟨g, i * 2, none⟩ (.int .i64 x)).setCell ⟨g, i * 2 + 1, none⟩ (.int .i64 y)) base ab { s with slots := s.slots.set i (x, y) } v := by
  have h1 := h.putSlot (i := i) (j := 0) hg hi (by omega) (x, s.slots[i].2) (.int .i64 x) rfl
  have h2 := h1.putSlot (i := i) (j := 1) hg (by simpa using hi) (by omega) (x, y) (.int .i64 y) (by simp [slotC])
  simpa using h2
theorem ArAt.putThree {w : World} {base ab g i : Nat} {s : ArS} {v : ArV} (h : ArAt w base ab s v) (hg : v.vsl.rowBlock = some g) (hi : i < s.slots.length) (x z y : Int) :
    ArAt (((w.setCell ⟨g, i * 2, none⟩ (.int .i64 z)).setCell ⟨g, i * 2 + 1, none⟩ (.int .i64 y)).setCell ⟨g, i * 2, none⟩ (.int .i64 x)) base ab { s with slots := s.slots.set i (x, y) } v := by
  have h2 := h.putTwo hg hi z y
  have h3 := h2.putSlot (i := i) (j := 0) hg (by simpa using hi) (by omega) (x, y) (.int .i64 x) (by simp [slotC])
  simpa using h3
end Go
namespace Go.Proofs.Ytjcggokhminmoaa
open Go.ChangeShapes Go.WideShapes Go.ChangeAt Go.RowKit

theorem infoSlotA : (Try.prog.info? 87).map (fun i => (i.zero, i.size, i.bytes)) = some (some (.agg #[.int .i64 0, .int .i64 0]), 2, 16) := by kernel_rfl
theorem infoInts : (Try.prog.info? 53).map (fun i => (i.zero, i.size, i.bytes)) = some (some (.slice none 0 0), 1, 24) := by kernel_rfl

theorem arPart_at {W : World} {base ab g1 g2 n t u : Nat} {a1 a2 a3 a4 a6 : Int} (hok : okCfg (t : Int) a1 a2 a3 a4 (n : Int) a6 = true)
    (hblk : W.heap[ab]? = some (.cells #[.int .i64 (t : Int), .int .i64 a1, .int .i64 a2, .int .i64 a3, .int .i64 a4, .int .i64 (n : Int), .int .i64 a6, .slice (some ⟨g1, 0, none⟩) n n, .slice (some ⟨g2, 0, none⟩) t t] 85 (0, 0))) (hge : base ≤ ab)
    (r1 : W.RowV base 87 2 (.slice (some ⟨g1, 0, none⟩) n n) n (List.replicate (n * 2) (.int .i64 0))) (r2 : W.RowV base 53 1 (.slice (some ⟨g2, 0, none⟩) t t) t (List.replicate t (.slice none 0 0))) (h12 : g1 ≠ g2) (h1 : g1 ≠ ab) (h2 : g2 ≠ ab) :
    ArAt W base ab (arPart (t : Int) a1 a2 a3 a4 (n : Int) a6 u 0) ⟨.slice (some ⟨g1, 0, none⟩) n n, .slice (some ⟨g2, 0, none⟩) t t, List.replicate t (.slice none 0 0), fun k => if k = ab then 0 else if k = g1 then 1 else 2⟩ := by
  have e1 : ∀ {g m k : Nat}, (Value.slice (some ⟨g, 0, none⟩) m m).rowBlock = some k → k = g := fun {g m k} h => by
    simp only [Value.rowBlock] at h
    split at h
    · cases h
    · exact (Option.some.inj h).symm
  refine ⟨hblk, hge, ?_, ?_, by simp [arPart], fun i v l hv hl => ?_, if_pos rfl, fun k hk => ?_, fun k hk => ?_, fun i v k hv hk => ?_, arPart_ok hok⟩
  · rw [arPart_zero, arPart_len, Int.toNat_natCast]
    exact r1
  · show W.RowV base _ 1 _ (List.replicate (t : Int).toNat ([] : List Int)).length _
    rw [List.length_replicate, Int.toNat_natCast]
    exact r2
  · have hv' : v = .slice none 0 0 := by
      simp only [List.getElem?_replicate] at hv
      split at hv
      · exact (Option.some.inj hv).symm
      · cases hv
    have hl' : l = [] := by
      simp only [arPart, List.getElem?_replicate] at hl
      split at hl
      · exact (Option.some.inj hl).symm
      · cases hl
    subst hv' hl'
    exact World.RowV_none _ _ _ _ _
  · obtain rfl := e1 hk
    show (if k = ab then 0 else if k = k then 1 else 2) = 1
    rw [if_neg h1, if_pos rfl]
  · obtain rfl := e1 hk
    show (if k = ab then 0 else if k = g1 then 1 else 2) = 2
    rw [if_neg h2, if_neg (Ne.symm h12)]
  · simp only [List.getElem?_replicate] at hv
    split at hv
    · rw [← Option.some.inj hv] at hk
      cases hk
    · cases hv
/-- while the slots are laid -/
def NwI (w : World) (ab : Nat) (s : ArS) (wr : World) : Prop := (∃ av, ArAt wr w.heap.size ab s av) ∧ Only (fun _ => False) w wr
def NewA (w : World) (s : ArS) (e : Ending) (w' : World) : Prop :=
  ∃ ab av, e = .returned (.tuple #[.pointer (some ⟨ab, 0, none⟩), .int .i64 0]) ∧ ArAt w' w.heap.size ab s av ∧ Only (fun _ => False) w w'

theorem arnew_cfg (a0 a1 a2 a3 a4 a5 a6 u : Int) (hok : okCfg a0 a1 a2 a3 a4 a5 a6 = false) (w : World) : Calls Try.prog 11 #[.agg #[.int .i64 a0, .int .i64 a1, .int .i64 a2, .int .i64 a3, .int .i64 a4, .int .i64 a5, .int .i64 a6], .int .i64 u] w fun e w' => e = .returned (.tuple #[.pointer none, .int .i64 1]) ∧ Below w.heap.size w w' := by
  have HC := Lib.hid (fun w => check_any a0 a1 a2 a3 a4 a5 a6 w)
  have he : cfgErr a0 a1 a2 a3 a4 a5 a6 = 1 := by unfold cfgErr; rw [hok]; rfl
  rw [he] at HC
  clear he hok
  go_enter Try.func11, Try.ntmps11
  go_wp2_with (go_at_call 31; refine (HC.out _).mono ?_; rintro e w1 ⟨rfl, hb1⟩; obtain ⟨os, d, rfl⟩ := hb1.more; clear hb1)
  go_ret2
  exact ⟨rfl, (by repeat (first | exact Below.refl _ _ | apply Below.drew | apply Below.more1 | apply Below.alloc1))⟩
theorem arnew_bad (a0 a1 a2 a3 a4 a5 a6 u : Int) (hok : okCfg a0 a1 a2 a3 a4 a5 a6 = true) (hu : u < 0 ∨ a5 < u) (w : World) : Calls Try.prog 11 #[.agg #[.int .i64 a0, .int .i64 a1, .int .i64 a2, .int .i64 a3, .int .i64 a4, .int .i64 a5, .int .i64 a6], .int .i64 u] w fun e w' => e = .returned (.tuple #[.pointer none, .int .i64 2]) ∧ Below w.heap.size w w' := by
  have HC := Lib.hid (fun w => check_any a0 a1 a2 a3 a4 a5 a6 w)
  have he : cfgErr a0 a1 a2 a3 a4 a5 a6 = 0 := by unfold cfgErr; rw [hok]; rfl
  rw [he] at HC
  clear he hok
  by_cases h0 : u < 0
  · go_enter Try.func11, Try.ntmps11
    go_wp2_with (go_at_call 31; refine (HC.out _).mono ?_; rintro e w1 ⟨rfl, hb1⟩; obtain ⟨os, d, rfl⟩ := hb1.more; clear hb1)
    go_ret2
    exact ⟨rfl, (by repeat (first | exact Below.refl _ _ | apply Below.drew | apply Below.more1 | apply Below.alloc1))⟩
  · have hd : decide (u < 0) = false := decide_eq_false h0
    have hu2 : a5 < u := by omega
    go_enter Try.func11, Try.ntmps11
    go_wp2_with (go_at_call 31; refine (HC.out _).mono ?_; rintro e w1 ⟨rfl, hb1⟩; obtain ⟨os, d, rfl⟩ := hb1.more; clear hb1)
    go_ret2
    exact ⟨rfl, (by repeat (first | exact Below.refl _ _ | apply Below.drew | apply Below.more1 | apply Below.alloc1))⟩
set_option maxRecDepth 100000 in
set_option maxHeartbeats 2000000 in
theorem arnew_ok (a0 a1 a2 a3 a4 a5 a6 : Int) (u n t : Nat) (hok : okCfg a0 a1 a2 a3 a4 a5 a6 = true) (hn : Hid (a5 = (n : Int))) (ht : Hid (a0 = (t : Int))) (hu : u ≤ n) (w : World) :
    Calls Try.prog 11 #[.agg #[.int .i64 a0, .int .i64 a1, .int .i64 a2, .int .i64 a3, .int .i64 a4, .int .i64 a5, .int .i64 a6], .int .i64 (u : Int)] w (NewA w (arNew a0 a1 a2 a3 a4 a5 a6 u)) := by
  obtain ⟨b0, b1, b2, b3, b4, b5, b6, bm⟩ := ok_bounds hok
  obtain rfl : a5 = (n : Int) := hn.out
  obtain rfl : a0 = (t : Int) := ht.out
  have HC := Lib.hid (fun w => check_any (t : Int) a1 a2 a3 a4 (n : Int) a6 w)
  have he : cfgErr (t : Int) a1 a2 a3 a4 (n : Int) a6 = 0 := by unfold cfgErr; rw [hok]; rfl
  rw [he] at HC
  have HOK := Lib.hid hok
  obtain ⟨i0, ii, iz0, iz1, iz2⟩ := info_parts infoSlotA
  have HII := Lib.hid ii
  have HZ0 := Lib.hid iz0
  have HZ1 := Lib.hid iz1
  have HZ2 := Lib.hid iz2
  obtain ⟨j0, ji, jz0, jz1, jz2⟩ := info_parts infoInts
  have HJI := Lib.hid ji
  have HJ0 := Lib.hid jz0
  have HJ1 := Lib.hid jz1
  have HJ2 := Lib.hid jz2
  have hd : decide ((u : Int) < 0) = false := by simp
  have hd2 : decide ((n : Int) < (u : Int)) = false := by simp; omega
  have HT1 := Lib.hid (show 0 < t by omega)
  have HN1 := Lib.hid (show 0 < n by omega)
  clear he hok ii iz0 iz1 iz2 ji jz0 jz1 jz2
  go_enter Try.func11, Try.ntmps11
  go_upto_region 6 with (go_at_call 31; refine (HC.out _).mono ?_; rintro e w1 ⟨rfl, hb1⟩; obtain ⟨os, d, rfl⟩ := hb1.more; clear hb1)
  refine gen_world ?_
  intro W0 hW0
  have HW0 : Hid (Only (fun _ => False) w W0) := Lib.hid (by rw [hW0]; exact (Below.only0 (by repeat (first | exact Below.refl _ _ | apply Below.drew | apply Below.more1 | apply Below.alloc1 | (refine Below.setCell ?_ (by first | exact Nat.le_refl _ | (simp; done) | (simp; omega)) _)))))
  have hbx : W0.heap[w.heap.size]? = some (.cells #[.int .i64 (t : Int), .int .i64 a1, .int .i64 a2, .int .i64 a3, .int .i64 a4, .int .i64 (n : Int), .int .i64 a6] 23 (0, 0)) := by rw [hW0]; exact (World.heap_more _ _ _ _ (by simp)).trans (heap_alloc_new w _)
  have hl5 := (Array.getElem?_eq_some_iff.1 hbx).1
  have k0 : W0.cell? ⟨w.heap.size, 0, none⟩ = some (.int .i64 (t : Int)) := by simp [World.cell?, hbx]
  have k1 : W0.cell? ⟨w.heap.size, 1, none⟩ = some (.int .i64 a1) := by simp [World.cell?, hbx]
  have k2 : W0.cell? ⟨w.heap.size, 2, none⟩ = some (.int .i64 a2) := by simp [World.cell?, hbx]
  have k3 : W0.cell? ⟨w.heap.size, 3, none⟩ = some (.int .i64 a3) := by simp [World.cell?, hbx]
  have k4 : W0.cell? ⟨w.heap.size, 4, none⟩ = some (.int .i64 a4) := by simp [World.cell?, hbx]
  have k5 : W0.cell? ⟨w.heap.size, 5, none⟩ = some (.int .i64 (n : Int)) := by simp [World.cell?, hbx]
  have k6 : W0.cell? ⟨w.heap.size, 6, none⟩ = some (.int .i64 a6) := by simp [World.cell?, hbx]
  have q0 := fun q : LaterF (fun _ => False) W0 => q.cell k0 hl5 (fun x => x)
  have q1 := fun q : LaterF (fun _ => False) W0 => q.cell k1 hl5 (fun x => x)
  have q2 := fun q : LaterF (fun _ => False) W0 => q.cell k2 hl5 (fun x => x)
  have q3 := fun q : LaterF (fun _ => False) W0 => q.cell k3 hl5 (fun x => x)
  have q4 := fun q : LaterF (fun _ => False) W0 => q.cell k4 hl5 (fun x => x)
  have q5 := fun q : LaterF (fun _ => False) W0 => q.cell k5 hl5 (fun x => x)
  have q6 := fun q : LaterF (fun _ => False) W0 => q.cell k6 hl5 (fun x => x)
  clear k0 k1 k2 k3 k4 k5 k6 hW0 hbx HC hd hd2
  refine wp_region_plan (fun wz => ∃ g : LaterF (fun _ => False) W0, wz = g.W) [3, 6, 8] [0, 1, 2, 4, 5] (.fork 3 [] (.fork 6 [] (.tail 7) .none) (.fork 6 [] (.fork 3 [] (.tail 7) .none) .none)) oper0 (by kernel_rfl) (by kernel_rfl) (laterF_in (Only.refl _ _).drew) ?_
  simp only [wpPlan, List.map_cons, List.map_nil, List.getD_cons_zero, List.getD_cons_succ, List.drop_succ_cons, List.drop_zero]
  repeat (first | go_big_quiet_skip | (go_big_quiet_want; go_big_quiet_op; go_big_quiet_on))
  refine wpQuiet_nil ?_
  refine ⟨?_, ?_, trivial⟩
  · skip
    go_wp2_with (at_make; refine wpList_make_full _ rfl _ _ 82 rfl W0.heap.size 87 i0 (.agg #[.int .i64 0, .int .i64 0]) 2 Try.underlying82 HII.out HZ0.out HZ1.out _ _ _ _ n rfl rfl rfl rfl (by rw [HZ2.out]; omega) (by unfold maxLen; omega) (Nat.le_refl _) ?_; intro w1 hown hg; have HR1 := Lib.hid (World.RowV.fromOwns hown HN1.out); have HG1 := Lib.hid hg; clear hown hg)
    refine strict_on ?_
    refine ⟨?_, ?_⟩
    · exact laterF_in ((Only.refl _ W0).drew.trans (G := fun _ => False) ⟨HG1.out.os, HG1.out.tape, HG1.out.output, HG1.out.size, fun k hk _ => HG1.out.block k hk (fun e => by cases e)⟩ (fun _ x => x.elim))
    repeat (first | go_big_quiet_skip | (go_big_quiet_want; go_big_quiet_op; go_big_quiet_on))
    refine wpQuiet_nil ?_
    try with_reducible refine ⟨?_, trivial⟩
    go_wp2_with (at_make; refine wpList_make_full _ rfl _ _ 83 rfl W0.heap.size 53 j0 (.slice none 0 0) 1 Try.underlying83 HJI.out HJ0.out HJ1.out _ _ _ _ t rfl rfl rfl rfl (by rw [HJ2.out]; omega) (by unfold maxLen; omega) (by have := HG1.out.size; simpa using this) ?_; intro w2 hown hg; have HR2 := Lib.hid (World.RowV.fromOwns hown HT1.out); have HG2 := Lib.hid hg; clear hown hg)
    refine strict_on ?_
    refine ⟨?_, ?_⟩
    · exact laterF_in ((Only.refl _ W0).drew.trans (G := fun _ => False) ⟨HG2.out.os.trans HG1.out.os, HG2.out.tape.trans HG1.out.tape, HG2.out.output.trans HG1.out.output, Nat.le_trans HG1.out.size HG2.out.size, fun k hk _ => (HG2.out.block k (Nat.lt_of_lt_of_le hk HG1.out.size) (fun e => by cases e)).trans (HG1.out.block k hk (fun e => by cases e))⟩ (fun _ x => x.elim))
    repeat (first | go_big_quiet_skip | (go_big_quiet_want; go_big_quiet_op; go_big_quiet_on))
    refine wpQuiet_nil ?_
    try with_reducible refine ⟨?_, trivial⟩
    go_upto_region 7 with (fail)
    refine gen_world ?_
    intro W hW
    have HN : Hid (NwI w w2.heap.size (arPart (t : Int) a1 a2 a3 a4 (n : Int) a6 u 0) W) := Lib.hid (by
      have o1 : Only (fun _ => False) W0 w1 := (Only.refl _ W0).drew.trans (G := fun _ => False) ⟨HG1.out.os, HG1.out.tape, HG1.out.output, HG1.out.size, fun k hk _ => HG1.out.block k hk (fun e => by cases e)⟩ (fun _ x => x.elim)
      have o2 : Only (fun _ => False) w1 w2 := ⟨HG2.out.os, HG2.out.tape, HG2.out.output, HG2.out.size, fun k hk _ => HG2.out.block k hk (fun e => by cases e)⟩
      have o3 : Only (fun _ => False) w2 W := by rw [hW]; exact (Only.refl _ _).alloc _
      have z0 := HW0.out.size
      have zd : W0.drew.heap.size = W0.heap.size := rfl
      have z1 : W0.drew.heap.size < w1.heap.size := (HR1.out.lt _ (by simp [Value.rowBlock]; omega)).2
      have z2 : w1.heap.size < w2.heap.size := (HR2.out.lt _ (by simp [Value.rowBlock]; omega)).2
      have hR1 := HR1.out
      have hR2 := HR2.out
      rw [made_two] at hR1
      rw [made_nils] at hR2
      refine ⟨⟨_, arPart_at HOK.out (g1 := W0.drew.heap.size) (g2 := w1.heap.size) ?_ (by omega) ?_ ?_ (by omega) (by omega) (by omega)⟩, ((HW0.out.trans o1 (fun _ x => x.elim)).trans o2 (fun _ x => x.elim)).trans o3 (fun _ x => x.elim)⟩
      · rw [hW]; exact heap_alloc_new _ _
      · exact ((hR1.of_block fun k hk => o2.block k (hR1.lt k hk).2 (fun x => x)).of_block fun k hk => o3.block k (by have := (hR1.lt k hk).2; omega) (fun x => x)).base_mono (by omega)
      · exact (hR2.of_block fun k hk => o3.block k (hR2.lt k hk).2 (fun x => x)).base_mono (by omega))
    clear hW HR1 HR2 HG1 HG2
    generalize w2.heap.size = ab at *
    obtain ⟨av0, hA0⟩ := HN.out.1
    obtain ⟨c0, c1, c2, c3, c4, c5, c6, c7, c8, z, lt⟩ := hA0.head
    obtain ⟨g0, cp0, e0, _⟩ := hA0.slotAt (i := 0) (by rw [arPart_len, Int.toNat_natCast]; exact HN1.out)
    rw [arPart_len, Int.toNat_natCast] at e0
    rw [e0] at c7
    clear c0 c1 c2 c3 c4 c5 c6 c8 e0 hA0
    go_wp2
    go_loopg [36] n (fun gh s36 wr => ∃ k : Nat, k ≤ n ∧ n ≤ k + gh ∧ s36 = .int .i64 (k : Int) ∧ Hid (NwI w ab (arPart (t : Int) a1 a2 a3 a4 (n : Int) a6 u k) wr))
    case atStart => exact ⟨0, by omega, by omega, by go_num, HN⟩
    case round =>
      obtain ⟨k, hk1, hk2, rfl, hI⟩ := hrel
      obtain ⟨⟨av, hA⟩, hO⟩ := hI.out
      by_cases hlt : k < n
      · have hkl : k < (arPart (t : Int) a1 a2 a3 a4 (n : Int) a6 u k).slots.length := by rw [arPart_len, Int.toNat_natCast]; exact hlt
        obtain ⟨g, cap, e, h1, h2, h3, h4, h5, h6, h7, h8⟩ := hA.slotAt hkl
        obtain ⟨d0, d1, d2, d3, d4, d5, d6, d7, d8, dz, dlt⟩ := hA.head
        rw [e, arPart_len, Int.toNat_natCast] at d7
        have hk7 := h6 (k * 2)
        have hk8 := h6 (k * 2 + 1)
        have HA := Lib.hid hA
        have HO := Lib.hid hO
        have H3 := Lib.hid h3
        have HKL := Lib.hid hkl
        have HST := Lib.hid (arPart_step (c0 := (t : Int)) (c1 := a1) (c2 := a2) (c3 := a3) (c4 := a4) (c5 := (n : Int)) (c6 := a6) (u := u) (k := k) (by rw [Int.toNat_natCast]; exact hlt))
        have hgb := (hA.lt g (.inr (.inl h3))).1
        unfold maxLen at h2
        replace h7 : ∃ x, wr.cell? ⟨g, k * 2, none⟩ = some (.int .i64 x) := ⟨_, h7⟩
        replace h8 : ∃ x, wr.cell? ⟨g, k * 2 + 1, none⟩ = some (.int .i64 x) := ⟨_, h8⟩
        obtain ⟨x7, h7⟩ := h7
        obtain ⟨x8, h8⟩ := h8
        clear d0 d1 d2 d3 d4 d5 d6 d8 hA hO hI h3 hkl e HN h6
        by_cases hku : k < u
        · rw [if_pos hku] at HST
          go_wp2
          go_roundg (n - (k + 1))
          case measure => omega
          case rel =>
            refine ⟨k + 1, by omega, by omega, by go_num, Lib.hid ⟨⟨av, ?_⟩, ?_⟩⟩
            · rw [← HST.out]
              exact HA.out.putThree H3.out HKL.out 3 0 (-1)
            · exact ((HO.out.set (.inr hgb) _).set (.inr hgb) _).set (.inr hgb) _
        · rw [if_neg hku] at HST
          go_wp2
          go_roundg (n - (k + 1))
          case measure => omega
          case rel =>
            refine ⟨k + 1, by omega, by omega, by go_num, Lib.hid ⟨⟨av, ?_⟩, ?_⟩⟩
            · rw [← HST.out]
              exact HA.out.putTwo H3.out HKL.out 0 (-1)
            · exact (HO.out.set (.inr hgb) _).set (.inr hgb) _
      · obtain rfl : k = n := by omega
        rw [arPart_end (by rw [Int.toNat_natCast]; exact Nat.le_refl _)] at hA
        have HA := Lib.hid hA
        have HO := Lib.hid hO
        clear hA hO hI HN
        go_wp2
        go_ret2
        exact ⟨ab, av, rfl, HA.out, HO.out⟩
  · skip
    go_wp2_with (at_make; refine wpList_make_full _ rfl _ _ 83 rfl W0.heap.size 53 j0 (.slice none 0 0) 1 Try.underlying83 HJI.out HJ0.out HJ1.out _ _ _ _ t rfl rfl rfl rfl (by rw [HJ2.out]; omega) (by unfold maxLen; omega) (Nat.le_refl _) ?_; intro w1 hown hg; have HR1 := Lib.hid (World.RowV.fromOwns hown HT1.out); have HG1 := Lib.hid hg; clear hown hg)
    refine strict_on ?_
    refine ⟨?_, ?_⟩
    · exact laterF_in ((Only.refl _ W0).drew.trans (G := fun _ => False) ⟨HG1.out.os, HG1.out.tape, HG1.out.output, HG1.out.size, fun k hk _ => HG1.out.block k hk (fun e => by cases e)⟩ (fun _ x => x.elim))
    repeat (first | go_big_quiet_skip | (go_big_quiet_want; go_big_quiet_op; go_big_quiet_on))
    refine wpQuiet_nil ?_
    try with_reducible refine ⟨?_, trivial⟩
    go_wp2_with (at_make; refine wpList_make_full _ rfl _ _ 82 rfl W0.heap.size 87 i0 (.agg #[.int .i64 0, .int .i64 0]) 2 Try.underlying82 HII.out HZ0.out HZ1.out _ _ _ _ n rfl rfl rfl rfl (by rw [HZ2.out]; omega) (by unfold maxLen; omega) (by have := HG1.out.size; simpa using this) ?_; intro w2 hown hg; have HR2 := Lib.hid (World.RowV.fromOwns hown HN1.out); have HG2 := Lib.hid hg; clear hown hg)
    refine strict_on ?_
    refine ⟨?_, ?_⟩
    · exact laterF_in ((Only.refl _ W0).drew.trans (G := fun _ => False) ⟨HG2.out.os.trans HG1.out.os, HG2.out.tape.trans HG1.out.tape, HG2.out.output.trans HG1.out.output, Nat.le_trans HG1.out.size HG2.out.size, fun k hk _ => (HG2.out.block k (Nat.lt_of_lt_of_le hk HG1.out.size) (fun e => by cases e)).trans (HG1.out.block k hk (fun e => by cases e))⟩ (fun _ x => x.elim))
    repeat (first | go_big_quiet_skip | (go_big_quiet_want; go_big_quiet_op; go_big_quiet_on))
    refine wpQuiet_nil ?_
    try with_reducible refine ⟨?_, trivial⟩
    go_upto_region 7 with (fail)
    refine gen_world ?_
    intro W hW
    have HN : Hid (NwI w w2.heap.size (arPart (t : Int) a1 a2 a3 a4 (n : Int) a6 u 0) W) := Lib.hid (by
      have o1 : Only (fun _ => False) W0 w1 := (Only.refl _ W0).drew.trans (G := fun _ => False) ⟨HG1.out.os, HG1.out.tape, HG1.out.output, HG1.out.size, fun k hk _ => HG1.out.block k hk (fun e => by cases e)⟩ (fun _ x => x.elim)
      have o2 : Only (fun _ => False) w1 w2 := ⟨HG2.out.os, HG2.out.tape, HG2.out.output, HG2.out.size, fun k hk _ => HG2.out.block k hk (fun e => by cases e)⟩
      have o3 : Only (fun _ => False) w2 W := by rw [hW]; exact (Only.refl _ _).alloc _
      have z0 := HW0.out.size
      have zd : W0.drew.heap.size = W0.heap.size := rfl
      have z1 : W0.drew.heap.size < w1.heap.size := (HR1.out.lt _ (by simp [Value.rowBlock]; omega)).2
      have z2 : w1.heap.size < w2.heap.size := (HR2.out.lt _ (by simp [Value.rowBlock]; omega)).2
      have hR1 := HR1.out
      have hR2 := HR2.out
      rw [made_nils] at hR1
      rw [made_two] at hR2
      refine ⟨⟨_, arPart_at HOK.out (g1 := w1.heap.size) (g2 := W0.drew.heap.size) ?_ (by omega) ?_ ?_ (by omega) (by omega) (by omega)⟩, ((HW0.out.trans o1 (fun _ x => x.elim)).trans o2 (fun _ x => x.elim)).trans o3 (fun _ x => x.elim)⟩
      · rw [hW]; exact heap_alloc_new _ _
      · exact (hR2.of_block fun k hk => o3.block k (hR2.lt k hk).2 (fun x => x)).base_mono (by omega)
      · exact ((hR1.of_block fun k hk => o2.block k (hR1.lt k hk).2 (fun x => x)).of_block fun k hk => o3.block k (by have := (hR1.lt k hk).2; omega) (fun x => x)).base_mono (by omega))
    clear hW HR1 HR2 HG1 HG2
    generalize w2.heap.size = ab at *
    obtain ⟨av0, hA0⟩ := HN.out.1
    obtain ⟨c0, c1, c2, c3, c4, c5, c6, c7, c8, z, lt⟩ := hA0.head
    obtain ⟨g0, cp0, e0, _⟩ := hA0.slotAt (i := 0) (by rw [arPart_len, Int.toNat_natCast]; exact HN1.out)
    rw [arPart_len, Int.toNat_natCast] at e0
    rw [e0] at c7
    clear c0 c1 c2 c3 c4 c5 c6 c8 e0 hA0
    go_wp2
    go_loopg [36] n (fun gh s36 wr => ∃ k : Nat, k ≤ n ∧ n ≤ k + gh ∧ s36 = .int .i64 (k : Int) ∧ Hid (NwI w ab (arPart (t : Int) a1 a2 a3 a4 (n : Int) a6 u k) wr))
    case atStart => exact ⟨0, by omega, by omega, by go_num, HN⟩
    case round =>
      obtain ⟨k, hk1, hk2, rfl, hI⟩ := hrel
      obtain ⟨⟨av, hA⟩, hO⟩ := hI.out
      by_cases hlt : k < n
      · have hkl : k < (arPart (t : Int) a1 a2 a3 a4 (n : Int) a6 u k).slots.length := by rw [arPart_len, Int.toNat_natCast]; exact hlt
        obtain ⟨g, cap, e, h1, h2, h3, h4, h5, h6, h7, h8⟩ := hA.slotAt hkl
        obtain ⟨d0, d1, d2, d3, d4, d5, d6, d7, d8, dz, dlt⟩ := hA.head
        rw [e, arPart_len, Int.toNat_natCast] at d7
        have hk7 := h6 (k * 2)
        have hk8 := h6 (k * 2 + 1)
        have HA := Lib.hid hA
        have HO := Lib.hid hO
        have H3 := Lib.hid h3
        have HKL := Lib.hid hkl
        have HST := Lib.hid (arPart_step (c0 := (t : Int)) (c1 := a1) (c2 := a2) (c3 := a3) (c4 := a4) (c5 := (n : Int)) (c6 := a6) (u := u) (k := k) (by rw [Int.toNat_natCast]; exact hlt))
        have hgb := (hA.lt g (.inr (.inl h3))).1
        unfold maxLen at h2
        replace h7 : ∃ x, wr.cell? ⟨g, k * 2, none⟩ = some (.int .i64 x) := ⟨_, h7⟩
        replace h8 : ∃ x, wr.cell? ⟨g, k * 2 + 1, none⟩ = some (.int .i64 x) := ⟨_, h8⟩
        obtain ⟨x7, h7⟩ := h7
        obtain ⟨x8, h8⟩ := h8
        clear d0 d1 d2 d3 d4 d5 d6 d8 hA hO hI h3 hkl e HN h6
        by_cases hku : k < u
        · rw [if_pos hku] at HST
          go_wp2
          go_roundg (n - (k + 1))
          case measure => omega
          case rel =>
            refine ⟨k + 1, by omega, by omega, by go_num, Lib.hid ⟨⟨av, ?_⟩, ?_⟩⟩
            · rw [← HST.out]
              exact HA.out.putThree H3.out HKL.out 3 0 (-1)
            · exact ((HO.out.set (.inr hgb) _).set (.inr hgb) _).set (.inr hgb) _
        · rw [if_neg hku] at HST
          go_wp2
          go_roundg (n - (k + 1))
          case measure => omega
          case rel =>
            refine ⟨k + 1, by omega, by omega, by go_num, Lib.hid ⟨⟨av, ?_⟩, ?_⟩⟩
            · rw [← HST.out]
              exact HA.out.putTwo H3.out HKL.out 0 (-1)
            · exact (HO.out.set (.inr hgb) _).set (.inr hgb) _
      · obtain rfl : k = n := by omega
        rw [arPart_end (by rw [Int.toNat_natCast]; exact Nat.le_refl _)] at hA
        have HA := Lib.hid hA
        have HO := Lib.hid hO
        clear hA hO hI HN
        go_wp2
        go_ret2
        exact ⟨ab, av, rfl, HA.out, HO.out⟩
end Go.Proofs.Ytjcggokhminmoaa
