/-
ArenaAgain returns true.
-/
import Derived.Test.YtjcggokhminmoaaQArLw
import Derived.Test.YtjcggokhminmoaaQArAc
import Derived.Test.YtjcggokhminmoaaQMixF
namespace Go.Proofs.Ytjcggokhminmoaa
open Go.ChangeShapes Go.WideShapes Go.ChangeAt Go.RowKit Go.Shelf

set_option maxRecDepth 100000 in
set_option maxHeartbeats 2000000 in
theorem again_out {w : World} (a0 a1 a2 a3 a4 a5 a6 : Int) {om : Option Addr} {nm cm : Nat} (h : okCfg a0 a1 a2 a3 a4 a5 a6 = false ∨ (okCfg a0 a1 a2 a3 a4 a5 a6 = true ∧ 50000 < nm)) :
    Calls Try.prog 9 #[.agg #[.int .i64 a0, .int .i64 a1, .int .i64 a2, .int .i64 a3, .int .i64 a4, .int .i64 a5, .int .i64 a6], .slice om nm cm] w fun e w' => e = .returned (.bool true) ∧ Below w.heap.size w w' := by
  have HC := Lib.hid (fun w => config_any a0 a1 a2 a3 a4 a5 a6 w)
  have HW := Lib.hid awake_any
  rcases h with h | ⟨hok, h⟩
  · rw [h] at HC
    clear h
    go_enter Try.func9, Try.ntmps9
    go_wp2_with (first
      | (go_at_call 12; refine (HC.out _).mono ?_; rintro e w1 ⟨rfl, hb1⟩; obtain ⟨os, d, rfl⟩ := hb1.more; clear hb1)
      | (go_at_call 17; refine (HW.out _).mono ?_; rintro e w2 ⟨rfl, ho⟩; have HO := Lib.hid ho; clear ho))
    go_ret
    exact ⟨rfl, (Only.trans (Below.only0 (by repeat (first | exact Below.refl _ _ | apply Below.drew | apply Below.more1 | apply Below.alloc1 | (refine Below.setCell ?_ (by first | exact Nat.le_refl _ | (simp; done) | (simp; omega)) _)))) HO.out (fun _ x => x.elim)).belowF⟩
  · rw [hok] at HC
    have hd : decide ((50000 : Int) < (nm : Int)) = true := by simp; omega
    clear hok h
    go_enter Try.func9, Try.ntmps9
    go_wp2_with (first
      | (go_at_call 12; refine (HC.out _).mono ?_; rintro e w1 ⟨rfl, hb1⟩; obtain ⟨os, d, rfl⟩ := hb1.more; clear hb1)
      | (go_at_call 17; refine (HW.out _).mono ?_; rintro e w2 ⟨rfl, ho⟩; have HO := Lib.hid ho; clear ho))
    go_ret
    exact ⟨rfl, (Only.trans (Below.only0 (by repeat (first | exact Below.refl _ _ | apply Below.drew | apply Below.more1 | apply Below.alloc1 | (refine Below.setCell ?_ (by first | exact Nat.le_refl _ | (simp; done) | (simp; omega)) _)))) HO.out (fun _ x => x.elim)).belowF⟩

theorem lw_count {W0 w0 wr : World} {a0 a1 a2 a3 a4 a5 a6 : Int} {tb ab xb : Nat} {kit : Value} {p : PM (arK ab)} (h : LwI W0 a0 a1 a2 a3 a4 a5 a6 tb ab xb kit w0 p wr) (x : Int) : Calls Try.prog 29 #[.pointer (some ⟨ab, 0, none⟩), .int .i64 x] wr fun e w' =>
    e = .returned (.int .i64 (cntUpto p.s.slots x p.s.slots.length : Int)) ∧ Below wr.heap.size wr w' := by
  obtain ⟨av, h1, h2⟩ := tab_arena h.tab
  exact acount_any h1 x
theorem infoBoolA : (Try.prog.info? 4).map (fun i => (i.zero, i.size, i.bytes)) = some (some (.bool false), 1, 1) := by kernel_rfl
/-- which slots are among l -/
def seenC (N : Nat) (l : List Nat) : List Value := (List.range N).map fun k => .bool (decide (k ∈ l))
theorem seenC_get (N : Nat) (l : List Nat) (k : Nat) (h : k < N) : (seenC N l)[k]? = some (.bool (decide (k ∈ l))) := by simp [seenC, h]
theorem seenC_set (N : Nat) (l : List Nat) (k : Nat) : (seenC N l).set k (.bool true) = seenC N (k :: l) := by
  apply List.ext_getElem?
  intro j
  rw [List.getElem?_set]
  by_cases hj : j < N
  · rw [seenC_get N (k :: l) j hj]
    split
    · rename_i e
      subst e
      rw [if_pos (by simpa [seenC] using hj)]
      simp
    · rename_i e
      rw [seenC_get N l j hj]
      have : (j ∈ k :: l) = (j ∈ l) := by simp [Ne.symm e]
      simp only [this]
  · have h1 : (seenC N (k :: l))[j]? = none := List.getElem?_eq_none (by simp [seenC]; omega)
    have h2 : (seenC N l)[j]? = none := List.getElem?_eq_none (by simp [seenC]; omega)
    rw [h1, h2]
    split
    · rw [if_neg (by simp [seenC]; omega)]
    · rfl
theorem made_false (N : Nat) : (madeCells (Value.bool false).cells (N * 1)).toList = seenC N [] := by
  unfold madeCells
  apply List.ext_getElem
  · simp [seenC]
  · intro i h1 h2
    simp [seenC, Value.cells, Nat.mod_one]

/-- in the last loop: the machine, the table, the numbers that were told -/
structure AgW (w0 : World) (a0 a1 a2 a3 a4 a5 a6 : Int) (tb g ab xb : Nat) (kit : Value) (N : Nat) (p : PM (arK ab)) (l : List Nat) (wr : World) : Prop where
  tab : TabI ab w0 xb kit p (fun k => k = tb ∨ k = g) wr
  blk : wr.heap[tb]? = some (tabO a0 a1 a2 a3 a4 a5 a6 ab xb)
  row : wr.RowV w0.heap.size 4 1 (.slice (some ⟨g, 0, none⟩) N N) N (seenC N l)
section
variable {w0 wr w' : World} {a0 a1 a2 a3 a4 a5 a6 : Int} {tb g ab xb N : Nat} {kit : Value} {p : PM (arK ab)} {l : List Nat}
theorem rowb {u : Value} {g : Nat} (h : u = Value.slice (some ⟨g, 0, none⟩) N N) : ∀ k, u.rowBlock = some k → k = g := fun k hk => by
  subst h
  simp only [Value.rowBlock] at hk
  split at hk
  · cases hk
  · exact (Option.some.inj hk).symm
theorem AgW.only (h : AgW w0 a0 a1 a2 a3 a4 a5 a6 tb g ab xb kit N p l wr) (ho : Only (fun _ => False) wr w') : AgW w0 a0 a1 a2 a3 a4 a5 a6 tb g ab xb kit N p l w' :=
  ⟨h.tab.only ho, ho.blockF h.blk (fun x => x), h.row.of_block fun k hk => ho.block k (h.row.lt k hk).2 (fun x => x)⟩
theorem ag_move (h : AgW w0 a0 a1 a2 a3 a4 a5 a6 tb g ab xb kit N p l wr) (hG : p.Good) (mv : Mv) : Calls Try.prog 21 #[.pointer (some ⟨xb, 0, none⟩), mv.v] wr fun e w' => e = .returned (.bool (p.move mv).2) ∧ AgW w0 a0 a1 a2 a3 a4 a5 a6 tb g ab xb kit N (p.move mv).1 l w' := by
  refine (tab_move h.tab hG mv).mono ?_
  rintro e w' ⟨he, h1, h2⟩
  exact ⟨he, h1, (h2 tb (.inl rfl)).trans h.blk, h.row.of_block fun k hk => h2 k (.inr (rowb rfl k hk))⟩
theorem ag_rest (h : AgW w0 a0 a1 a2 a3 a4 a5 a6 tb g ab xb kit N p l wr) (hG : p.Good) (th : Int) : Calls Try.prog 27 #[.pointer (some ⟨tb, 0, none⟩), .int .i64 th] wr fun e w' => e = .returned (.tuple #[]) ∧ AgW w0 a0 a1 a2 a3 a4 a5 a6 tb g ab xb kit N (restN p th 400) l w' := by
  refine (rest_any h.tab hG h.blk (.inl rfl) th).mono ?_
  rintro e w' ⟨he, h1, h2⟩
  exact ⟨he, h1, (h2 tb (.inl rfl)).trans h.blk, h.row.of_block fun k hk => h2 k (.inr (rowb rfl k hk))⟩
theorem ag_call (h : AgW w0 a0 a1 a2 a3 a4 a5 a6 tb g ab xb kit N p l wr) (hG : p.Good) (t : Int) : Calls Try.prog 26 #[.pointer (some ⟨xb, 0, none⟩), .int .i64 t] wr fun e w' => e = .returned (.tuple #[(p.callR t).1.v, .bool (p.callR t).2]) ∧ Below wr.heap.size wr w' := tab_call h.tab hG t
end

set_option maxRecDepth 100000 in
set_option maxHeartbeats 8000000 in
theorem again_in {w : World} (a0 a1 a2 a3 a4 a5 a6 : Int) {om : Option Addr} {cm : Nat} {ms : List Mv} (hok : okCfg a0 a1 a2 a3 a4 a5 a6 = true) (hl : ms.length ≤ 50000) (hm : MvsIn w (.slice om ms.length cm) ms) :
    Calls Try.prog 9 #[.agg #[.int .i64 a0, .int .i64 a1, .int .i64 a2, .int .i64 a3, .int .i64 a4, .int .i64 a5, .int .i64 a6], .slice om ms.length cm] w fun e w' => e = .returned (.bool true) ∧ Below w.heap.size w w' := by
  obtain ⟨T, rfl⟩ : ∃ T : Nat, a0 = (T : Int) := ⟨a0.toNat, by have := (ok_bounds hok).1; omega⟩
  obtain ⟨N, rfl⟩ : ∃ N : Nat, a5 = (N : Int) := ⟨a5.toNat, by have := (ok_bounds hok).2.2.2.2.2.1; omega⟩
  have hT16 : 0 < T ∧ T ≤ 16 := by have := (ok_bounds hok).1; omega
  have hN10 : 0 < N ∧ N ≤ 1024 := by have := (ok_bounds hok).2.2.2.2.2.1; omega
  have HC := Lib.hid (fun w => config_any (T : Int) a1 a2 a3 a4 (N : Int) a6 w)
  rw [hok] at HC
  have HW := Lib.hid awake_any
  have HT := Lib.hid (fun w => table_any (T : Int) a1 a2 a3 a4 (N : Int) a6 hok w)
  have HOK := Lib.hid hok
  have hd : decide ((50000 : Int) < (ms.length : Int)) = false := by simp; omega
  have HALL := Lib.hid (fun ab => ag_all (ab := ab) hok hl rfl rfl)
  obtain ⟨om', cm', e', _, hm2, hm3⟩ := hm
  cases e'
  have HM := Lib.hid hm3
  unfold maxLen at hm2
  clear hok hm3
  go_enter Try.func9, Try.ntmps9
  go_upto_region 3 with (go_at_call 12; refine (HC.out _).mono ?_; rintro e w1 ⟨rfl, hb1⟩; obtain ⟨os, d, rfl⟩ := hb1.more; clear hb1)
  refine gen_world ?_
  intro W0 hW0
  have HW0 : Hid (Only (fun _ => False) w W0) := Lib.hid (by rw [hW0]; exact (Below.only0 (by repeat (first | exact Below.refl _ _ | apply Below.drew | apply Below.more1 | apply Below.alloc1 | (refine Below.setCell ?_ (by first | exact Nat.le_refl _ | (simp; done) | (simp; omega)) _)))))
  have hcb : W0.heap[w.heap.size]? = some (cfgO (T : Int) a1 a2 a3 a4 (N : Int) a6) := by rw [hW0]; exact (World.heap_more _ _ _ _ (by simp)).trans (heap_alloc_new w _)
  obtain ⟨k0, k1, k2, k3, k4, k5, k6, kl⟩ := boxC hcb
  have HCB := Lib.hid hcb
  clear hW0 hcb HC
  go_upto_region 6 with (first
    | (go_at_call 19; refine (HT.out _).mono ?_; rintro e w1 hr; obtain ⟨tb, ab, xb, kit, w0, rfl, hL⟩ := LwI.start hr; have HL := Lib.hid hL; clear hr hL)
    | (go_at_call 17; refine (HW.out _).mono ?_; rintro e w2 ⟨rfl, ho⟩; have HL2 := Lib.hid (HL.out.only ho); clear ho))
  obtain ⟨p2, p3, p4, hall⟩ := HALL.out ab
  have HA := Lib.hid hall
  clear HL HT HW k0 k1 k2 k3 k4 k5 k6 kl hall HALL
  go_wp2
  go_loopg [6] ms.length (fun gh s8 wr => ∃ k : Nat, k ≤ ms.length ∧ ms.length ≤ k + gh ∧ s8 = .int .i64 (k : Int) ∧ Hid (LwI W0 (T : Int) a1 a2 a3 a4 (N : Int) a6 tb ab xb kit w0 ((arP ab (T : Int) a1 a2 a3 a4 (N : Int) a6 0).goes (ms.take k)) wr))
  case atStart => exact ⟨0, by omega, by omega, by go_num, HL2⟩
  case round =>
    obtain ⟨k, hk1, hk2, rfl, hI⟩ := hrel
    clear HL2
    obtain ⟨k0, k1, k2, k3, k4, k5, k6, k7, k8, kl⟩ := boxT hI.out.blk
    by_cases hlt : k < ms.length
    · clear k0 k1 k2 k3 k4 k5 k6 k7
      have hw : Only (fun _ => False) w wr := HW0.out.trans hI.out.on (fun _ x => x.elim)
      obtain ⟨b, off, rfl, hb, m0, m1, m2, m3⟩ := HM.out k hlt
      replace m0 := (hw.cellAt (p := ⟨b, off + k * 4 + 0, none⟩) hb (fun x => x)).trans m0
      replace m1 := (hw.cellAt (p := ⟨b, off + k * 4 + 1, none⟩) hb (fun x => x)).trans m1
      replace m2 := (hw.cellAt (p := ⟨b, off + k * 4 + 2, none⟩) hb (fun x => x)).trans m2
      replace m3 := (hw.cellAt (p := ⟨b, off + k * 4 + 3, none⟩) hb (fun x => x)).trans m3
      simp only [Nat.add_zero] at m0
      have hbr : b < wr.heap.size := Nat.lt_of_lt_of_le hb hw.size
      have q8 := fun q : LaterF (fun _ => False) wr => q.cell k8 kl (fun x => x)
      have r0 := fun q : LaterF (fun _ => False) wr => q.cell m0 hbr (fun x => x)
      have r1 := fun q : LaterF (fun _ => False) wr => q.cell m1 hbr (fun x => x)
      have r2 := fun q : LaterF (fun _ => False) wr => q.cell m2 hbr (fun x => x)
      have r3 := fun q : LaterF (fun _ => False) wr => q.cell m3 hbr (fun x => x)
      have HG := Lib.hid (arP_goodN (ab := ab) (u := 0) HOK.out (ms.take k))
      have HTN := Lib.hid (take_next ms k hlt)
      clear k8 m0 m1 m2 m3 hw HM kl
      generalize ms[k] = mk at *
      obtain ⟨mth, mop, marg, mdata⟩ := mk
      simp only at r0 r1 r2 r3
      go_wp2
      refine wp_region_plan (fun wz => ∃ q : LaterF (fun _ => False) wr, wz = q.W) [8] [0, 1, 2, 3, 4, 5, 6, 7] (.tail 8) oper0 (by kernel_rfl) (by kernel_rfl) (laterF_in (Only.refl _ _).drew) ?_
      simp only [wpPlan, List.map_cons, List.map_nil, List.getD_cons_zero, List.getD_cons_succ, List.drop_succ_cons, List.drop_zero]
      repeat (first | go_big_quiet_skip | (go_big_quiet_want; go_big_quiet_op; go_big_quiet_on))
      refine wpQuiet_nil ?_
      go_wp2_with (go_at_call 21; refine (lw_move (hI.out.only (Only.refl _ wr).drew) HG.out ⟨mth, mop, marg, mdata⟩).mono ?_; rintro e w3 ⟨rfl, hmo⟩; have HNX := Lib.hid hmo; clear hmo)
      go_roundg (ms.length - (k + 1))
      case measure => omega
      case rel => exact ⟨k + 1, by omega, by omega, by go_num, by rw [HTN.out, PM.goes_snoc]; exact HNX⟩
    · obtain rfl : k = ms.length := by omega
      rw [List.take_length] at hI
      generalize (arP ab (T : Int) a1 a2 a3 a4 (N : Int) a6 0).goes ms = p1 at *
      have HL3 : Hid (LwI W0 (T : Int) a1 a2 a3 a4 (N : Int) a6 tb ab xb kit w0 (agA p1 0) wr) := hI
      clear k0 k1 k2 k3 k4 k5 k6 k7 k8 kl HM hI
      clear hlt hk1 hk2
      go_wp2
      go_loopg [7] T (fun gh s7 wr => ∃ k : Nat, k ≤ T ∧ T ≤ k + gh ∧ s7 = .int .i64 (k : Int) ∧ Hid (LwI W0 (T : Int) a1 a2 a3 a4 (N : Int) a6 tb ab xb kit w0 (agA p1 k) wr))
      case atStart => exact ⟨0, by omega, by omega, by go_num, HL3⟩
      case round =>
        obtain ⟨k, hk1, hk2, rfl, hI⟩ := hrel
        clear HL3
        obtain ⟨k0, k1, k2, k3, k4, k5, k6, kl⟩ := boxC (hI.out.on.blockF HCB.out (fun x => x))
        clear k1 k2 k3 k4 k6
        by_cases hlt : k < T
        · have HR := Lib.hid (lw_rest hI.out (agA_good HA.out.g1 k) k)
          go_wp2_with (go_at_call 27; refine HR.out.mono ?_; rintro e w3 ⟨rfl, h3⟩; have HI3 := Lib.hid h3; clear h3)
          go_roundg (T - (k + 1))
          case measure => omega
          case rel => exact ⟨k + 1, by omega, by omega, by go_num, HI3⟩
        · obtain rfl : k = T := by omega
          have HL4 : Hid (LwI W0 (k : Int) a1 a2 a3 a4 (N : Int) a6 tb ab xb kit w0 (agB p2 0) wr) := Lib.hid (by rw [HA.out.e2]; exact hI.out)
          clear hI hlt hk1 hk2
          go_wp2
          go_loopg [8] N (fun gh s8 wr => ∃ j : Nat, j ≤ N ∧ N ≤ j + gh ∧ s8 = .int .i64 (j : Int) ∧ Hid (LwI W0 (k : Int) a1 a2 a3 a4 (N : Int) a6 tb ab xb kit w0 (agB p2 j) wr))
          case atStart => exact ⟨0, by omega, by omega, by go_num, HL4⟩
          case round =>
            clear k0 k5 kl
            obtain ⟨j, hj1, hj2, rfl, hI⟩ := hrel
            clear HL4
            obtain ⟨k0, k1, k2, k3, k4, k5, k6, kl⟩ := boxC (hI.out.on.blockF HCB.out (fun x => x))
            obtain ⟨x0, x1, x2, x3, x4, x5, x6, x7, x8, xl⟩ := boxT hI.out.blk
            clear k1 k2 k3 k4 k6 x0 x1 x2 x3 x4 x5 x6
            by_cases hlt : j < N
            · have hhas : (agB p2 j).s.state (j : Int) = (((agB p2 j).s.slot j).1, ((agB p2 j).s.slot j).2, 0) := by
                have hn := HA.out.nB j hlt
                unfold ArS.state
                rw [if_pos]
                unfold ArS.has
                unfold ArS.n at hn
                rw [hn]
                simp; omega
              have hst : ((agB p2 j).s.slot j).1 = (agB p2 j).s.st j := by unfold ArS.slot ArS.st; rw [Int.toNat_natCast]
              have HS := Lib.hid (lw_state hI.out j)
              rw [hhas, hst] at HS
              have HG := Lib.hid (agB_good HA.out.g2 j)
              have HAG : Hid (agB p2 (j + 1) = if (agB p2 j).s.st j = 2 then restN ((agB p2 j).move ⟨((agB p2 j).s.slot j).2, 11, j, 0⟩).1 ((agB p2 j).s.slot j).2 400 else agB p2 j) := Lib.hid rfl
              clear hhas hst
              generalize ((agB p2 j).s.slot j).2 = h at *
              by_cases h2 : (agB p2 j).s.st j = 2
              · rw [if_pos h2] at HAG
                rw [h2] at HS
                have HM2 := Lib.hid (fun w1 (h1 : Below wr.heap.size wr w1) => lw_move (hI.out.below h1) HG.out ⟨h, 11, j, 0⟩)
                have HG2 := Lib.hid (PM.Good.move (arK_ok ab) HG.out ⟨h, 11, j, 0⟩)
                clear h2
                go_wp2_with (first
                  | (go_at_call 28; refine HS.out.mono ?_; rintro e w3 ⟨rfl, hb1⟩; have HB1 := Lib.hid hb1; obtain ⟨os, d, rfl⟩ := hb1.more; clear hb1)
                  | (go_at_call 21; refine (HM2.out _ HB1.out).mono ?_; rintro e w4 ⟨rfl, h4⟩; have HR := Lib.hid (lw_rest h4 HG2.out h); clear h4)
                  | (go_at_call 27; refine HR.out.mono ?_; rintro e w5 ⟨rfl, h5⟩; have HI3 := Lib.hid h5; clear h5))
                go_roundg (N - (j + 1))
                case measure => omega
                case rel => exact ⟨j + 1, by omega, by omega, by go_num, by rw [HAG.out]; exact HI3⟩
              · rw [if_neg h2] at HAG
                have d1 : decide ((agB p2 j).s.st j = 2) = false := by simpa using h2
                have d2 : ((agB p2 j).s.st j == 2) = false := by simpa using h2
                clear h2
                generalize (agB p2 j).s.st j = sv at *
                have HI2 := Lib.hid (fun w1 (h1 : Below wr.heap.size wr w1) => hI.out.below h1)
                go_wp2_with (go_at_call 28; refine HS.out.mono ?_; rintro e w3 ⟨rfl, hb1⟩; have HI3 := Lib.hid (HI2.out _ hb1); clear hb1)
                go_roundg (N - (j + 1))
                case measure => omega
                case rel => exact ⟨j + 1, by omega, by omega, by go_num, by rw [HAG.out]; exact HI3⟩
            · obtain rfl : j = N := by omega
              have HL5 : Hid (LwI W0 (k : Int) a1 a2 a3 a4 (j : Int) a6 tb ab xb kit w0 (agC p3 0) wr) := Lib.hid (by rw [HA.out.e3]; exact hI.out)
              clear hI hlt hj1 hj2 x7 x8 xl
              go_wp2
              go_loopg [12] k (fun gh s12 wr => ∃ i : Nat, i ≤ k ∧ k ≤ i + gh ∧ s12 = .int .i64 (i : Int) ∧ Hid (LwI W0 (k : Int) a1 a2 a3 a4 (j : Int) a6 tb ab xb kit w0 (agC p3 i) wr))
              case atStart => exact ⟨0, by omega, by omega, by go_num, HL5⟩
              case round =>
                clear k0 k5 kl
                obtain ⟨i, hi1, hi2, rfl, hI⟩ := hrel
                clear HL5
                obtain ⟨k0, k1, k2, k3, k4, k5, k6, kl⟩ := boxC (hI.out.on.blockF HCB.out (fun x => x))
                obtain ⟨x0, x1, x2, x3, x4, x5, x6, x7, x8, xl⟩ := boxT hI.out.blk
                clear k1 k2 k3 k4 k6 x0 x1 x2 x3 x4 x5 x6
                by_cases hlt : i < k
                · have HG := Lib.hid (agC_good HA.out.g3 i)
                  have HM2 := Lib.hid (lw_move hI.out HG.out ⟨i, 12, 0, 0⟩)
                  have HG2 := Lib.hid (PM.Good.move (arK_ok ab) HG.out ⟨i, 12, 0, 0⟩)
                  go_wp2_with (first
                    | (go_at_call 21; refine HM2.out.mono ?_; rintro e w4 ⟨rfl, h4⟩; have HR := Lib.hid (lw_rest h4 HG2.out i); clear h4)
                    | (go_at_call 27; refine HR.out.mono ?_; rintro e w5 ⟨rfl, h5⟩; have HI3 := Lib.hid h5; clear h5))
                  go_roundg (k - (i + 1))
                  case measure => omega
                  case rel => exact ⟨i + 1, by omega, by omega, by go_num, HI3⟩
                · obtain rfl : i = k := by omega
                  have HL6 : Hid (LwI W0 (i : Int) a1 a2 a3 a4 (j : Int) a6 tb ab xb kit w0 p4 wr) := Lib.hid (by rw [HA.out.e4]; exact hI.out)
                  clear hI hlt hi1 hi2
                  have HCO : Hid (∀ os d, Calls Try.prog 29 #[.pointer (some ⟨ab, 0, none⟩), .int .i64 0] (wr.more os d) fun e w' => e = .returned (.int .i64 (j : Int)) ∧ Below (wr.more os d).heap.size (wr.more os d) w') := Lib.hid (fun os d => by
                    have := lw_count (HL6.out.only ((Only.refl (fun _ => False) wr).more os d)) 0
                    rw [HA.out.cnt] at this
                    exact this)
                  obtain ⟨i0, ii, iz0, iz1, iz2⟩ := info_parts infoBoolA
                  have HII := Lib.hid ii
                  have HZ0 := Lib.hid iz0
                  have HZ1 := Lib.hid iz1
                  have HZ2 := Lib.hid iz2
                  have hw0 := tab_lt HL6.out.tab
                  have hdj : ((j : Int) != (j : Int)) = false := by simp
                  have HTT := Lib.hid (fun w1 (h1 : Only (fun _ => False) wr w1) => HL6.out.only h1)
                  have HWW := Lib.hid (HW0.out.trans HL6.out.on0 (fun _ x => x.elim))
                  clear ii iz0 iz1 iz2
                  go_upto_region 26 with (fail)
                  go_wp2
                  refine wp_region_more_lit (by kernel_rfl) (by kernel_rfl) ?_
                  repeat (first | go_big_quiet_skip | (go_big_quiet_want; go_big_quiet_op; first | go_big_quiet_on | (apply Exists.intro; refine ⟨fun _ => ?_, ?_⟩; (focus (go_at_call 29; exact Calls.more_of (HCO.out _ _))); go_big_quiet_on)))
                  refine wpQuiet_nil ?_
                  intro osq dq
                  go_upto_region 29 with (at_make; refine wpList_make_full _ rfl _ _ 79 rfl w0.heap.size 4 i0 (.bool false) 1 Try.underlying79 HII.out HZ0.out HZ1.out _ _ _ _ j rfl rfl rfl rfl (by rw [HZ2.out]; omega) (by unfold maxLen; omega) (by first | (rw [World.size_more]; omega) | (simp; omega) | omega) ?_; intro w3 hown hg; have HN3 := Lib.hid (World.RowV.fromOwns hown hN10.1); have HG3 := Lib.hid hg; clear hown hg)
                  rw [made_false] at HN3
                  have HI5 : Hid (AgW w0 (i : Int) a1 a2 a3 a4 (j : Int) a6 tb (wr.more osq dq).heap.size ab xb kit j (agD p4 0) (agSeen p4 0) w3) := Lib.hid (by
                    have o1 : Only (fun _ => False) wr (wr.more osq dq) := (Only.refl _ _).more _ _
                    have o2 : Only (fun _ => False) (wr.more osq dq) w3 := ⟨HG3.out.os, HG3.out.tape, HG3.out.output, HG3.out.size, fun k hk _ => HG3.out.block k hk (fun e => by cases e)⟩
                    have o3 := o1.trans o2 (fun _ x => x.elim)
                    have hlt3 := (HN3.out.lt _ (by simp only [Value.rowBlock]; rw [if_neg (by omega)])).2
                    refine ⟨HL6.out.tab.other (H := fun _ => False) o3 (fun _ x => x.elim) (fun _ x => x.elim) (fun q hq => ?_), o3.blockF HL6.out.blk (fun x => x), HN3.out⟩
                    rcases hq with hq | hq
                    · exact .inl hq
                    · subst hq
                      exact .inr ⟨o1.size, hlt3⟩)
                  have HND := Lib.hid (fun n => agD_good HA.out.g4 n)
                  have HWB : Hid (∀ (w1 : World) (q : PM (arK ab)) (l : List Nat), AgW w0 (i : Int) a1 a2 a3 a4 (j : Int) a6 tb (wr.more osq dq).heap.size ab xb kit j q l w1 → Only (fun _ => False) w w1) := Lib.hid (fun w1 q l h1 => HWW.out.trans h1.tab.on (fun _ x => x.elim))
                  have HCBW := Lib.hid (HL6.out.on0.blockF HCB.out (fun x => x))
                  have htg : tb < wr.heap.size + osq.size := Nat.lt_of_lt_of_le xl (Nat.le_add_right _ _)
                  clear HN3 HG3 HTT HCO HL6 hdj x7 x8 xl k0 k5 kl HII HZ0 HZ1 HZ2
                  rw [World.size_more] at HI5 HWB
                  generalize wr.heap.size + osq.size = g at *
                  go_wp2
                  go_loopg [14] (j + 1) (fun gh s14 wr => ∃ n : Nat, n ≤ j ∧ j + 1 ≤ n + gh ∧ s14 = .int .i64 (n : Int) ∧ Hid (AgW w0 (i : Int) a1 a2 a3 a4 (j : Int) a6 tb g ab xb kit j (agD p4 n) (agSeen p4 n) wr))
                  case atStart => exact ⟨0, by omega, by omega, by go_num, HI5⟩
                  case round =>
                    obtain ⟨n, hn1, hn2, rfl, hI⟩ := hrel
                    clear HI5
                    have HWR := Lib.hid (HWB.out _ _ _ hI.out)
                    have hcb := hI.out.tab.on.blockF HCBW.out (fun x => x)
                    obtain ⟨k0, k1, k2, k3, k4, k5, k6, kl⟩ := boxC hcb
                    obtain ⟨x0, x1, x2, x3, x4, x5, x6, x7, x8, xl⟩ := boxT hI.out.blk
                    clear k0 k1 k2 k3 k4 k6 x0 x1 x2 x3 x4 x5 x6 x7 hcb
                    have HM2 := Lib.hid (ag_move hI.out (HND.out n) ⟨0, 10, 0, 0⟩)
                    have HG2 := Lib.hid (PM.Good.move (arK_ok ab) (HND.out n) ⟨0, 10, 0, 0⟩)
                    have HR2 : Hid (∀ w1, AgW w0 (i : Int) a1 a2 a3 a4 (j : Int) a6 tb g ab xb kit j ((agD p4 n).move ⟨0, 10, 0, 0⟩).1 (agSeen p4 n) w1 → Calls Try.prog 27 #[.pointer (some ⟨tb, 0, none⟩), .int .i64 0] w1 fun e w' => e = .returned (.tuple #[]) ∧ AgW w0 (i : Int) a1 a2 a3 a4 (j : Int) a6 tb g ab xb kit j (agD p4 (n + 1)) (agSeen p4 n) w') := Lib.hid (fun w1 h1 => ag_rest h1 HG2.out 0)
                    have HC2 := Lib.hid (fun w1 (h1 : AgW w0 (i : Int) a1 a2 a3 a4 (j : Int) a6 tb g ab xb kit j (agD p4 (n + 1)) (agSeen p4 n) w1) => ag_call h1 (HND.out (n + 1)) 0)
                    by_cases hlt : n < j
                    · obtain ⟨c, v, hc, hak, hav, hv, hnot, hseen⟩ := HA.out.next n hlt
                      have HSE := Lib.hid hseen
                      have HNT := Lib.hid hnot
                      obtain ⟨cth, cop, carg, cdata, cbeg, cen, cpt, cak, cav⟩ := c
                      simp only at hak hav
                      subst hak
                      subst hav
                      rw [hc] at HC2
                      simp only [Cal.v] at HC2
                      have dn : decide ((n : Int) < (j : Int)) = true := by simp; omega
                      have dn2 : decide ((n : Int) ≤ (j : Int)) = true := by simp; omega
                      have dn3 : decide ((n : Int) = (j : Int)) = false := by simp; omega
                      have dn4 : ((n : Int) == (j : Int)) = false := by simp; omega
                      have dv1 : decide ((v : Int) < 0) = false := by simp
                      have dv2 : decide ((j : Int) ≤ (v : Int)) = false := by simp; omega
                      clear hc hseen hnot
                      go_upto_region 35 with (first
                        | (go_at_call 21; refine HM2.out.mono ?_; rintro e w4 ⟨rfl, h4⟩; have HR := Lib.hid (HR2.out _ h4); clear h4)
                        | (go_at_call 27; refine HR.out.mono ?_; rintro e w5 ⟨rfl, h5⟩; have HI3 := Lib.hid h5; obtain ⟨x0, x1, x2, x3, x4, x5, x6, x7, x8', xl'⟩ := boxT h5.blk; clear x0 x1 x2 x3 x4 x5 x6 x7 h5)
                        | (go_at_call 26; refine (HC2.out _ HI3.out).mono ?_; rintro e w6 ⟨rfl, h6⟩; have HO6 := Lib.hid (Below.only0 h6); clear h6))
                      refine gen_world ?_
                      intro W hW
                      have HI6 := Lib.hid (show AgW w0 (i : Int) a1 a2 a3 a4 (j : Int) a6 tb g ab xb kit j (agD p4 (n + 1)) (agSeen p4 n) W from HI3.out.only (by rw [hW]; exact HO6.out.alloc _))
                      have hxb : W.heap[w6.heap.size]? = some (.cells #[.int .i64 cth, .int .i64 cop, .int .i64 carg, .int .i64 cdata, .int .i64 cbeg, .int .i64 cen, .int .i64 cpt, .int .i64 2, .int .i64 (v : Int)] 50 (0, 0)) := by rw [hW]; exact heap_alloc_new _ _
                      have y7 : W.cell? ⟨w6.heap.size, 7, none⟩ = some (.int .i64 2) := by simp only [World.cell?, hxb]; rfl
                      have y8 : W.cell? ⟨w6.heap.size, 8, none⟩ = some (.int .i64 (v : Int)) := by simp only [World.cell?, hxb]; rfl
                      have yl := (Array.getElem?_eq_some_iff.1 hxb).1
                      clear hxb hW HI3 HO6 HR x8 xl x8' xl' k5 kl
                      generalize w6.heap.size = yb at *
                      obtain ⟨k0, k1, k2, k3, k4, k5, k6, kl⟩ := boxC (HI6.out.tab.on.blockF HCBW.out (fun x => x))
                      clear k0 k1 k2 k3 k4 k6
                      obtain ⟨g', cg, e, u1, u2, u3, u4, u5, u6⟩ := HI6.out.row.some_form hN10.1
                      cases e
                      have ui := u6 v _ (seenC_get j (agSeen p4 n) v hv)
                      rw [decide_eq_false HNT.out] at ui
                      clear u6
                      go_wp2
                      go_roundg (j + 1 - (n + 1))
                      case measure => omega
                      case rel =>
                        refine ⟨n + 1, by omega, by omega, by go_num, Lib.hid ⟨HI6.out.tab.set (.inr rfl) u2 _, ?_, ?_⟩⟩
                        · exact (Below.heap_setCell _ _ _ _ (by show tb ≠ g; omega)).trans HI6.out.blk
                        · rw [HSE.out, ← seenC_set]
                          exact HI6.out.row.put u4 v (by omega) _
                    · obtain rfl : n = j := by omega
                      obtain ⟨c, hc, hak⟩ := HA.out.last
                      obtain ⟨cth, cop, carg, cdata, cbeg, cen, cpt, cak, cav⟩ := c
                      simp only at hak
                      subst hak
                      rw [hc] at HC2
                      simp only [Cal.v] at HC2
                      have dn : decide ((n : Int) < (n : Int)) = false := by simp
                      have dn2 : decide ((n : Int) ≤ (n : Int)) = true := by simp
                      have dn4 : ((n : Int) == (n : Int)) = true := by simp
                      clear hc
                      go_upto_region 35 with (first
                        | (go_at_call 21; refine HM2.out.mono ?_; rintro e w4 ⟨rfl, h4⟩; have HR := Lib.hid (HR2.out _ h4); clear h4)
                        | (go_at_call 27; refine HR.out.mono ?_; rintro e w5 ⟨rfl, h5⟩; have HI3 := Lib.hid h5; obtain ⟨x0, x1, x2, x3, x4, x5, x6, x7, x8', xl'⟩ := boxT h5.blk; clear x0 x1 x2 x3 x4 x5 x6 x7 h5)
                        | (go_at_call 26; refine (HC2.out _ HI3.out).mono ?_; rintro e w6 ⟨rfl, h6⟩; have HO6 := Lib.hid (Below.only0 h6); clear h6))
                      refine gen_world ?_
                      intro W hW
                      have HI6 := Lib.hid (show AgW w0 (i : Int) a1 a2 a3 a4 (n : Int) a6 tb g ab xb kit n (agD p4 (n + 1)) (agSeen p4 n) W from HI3.out.only (by rw [hW]; exact HO6.out.alloc _))
                      have hxb : W.heap[w6.heap.size]? = some (.cells #[.int .i64 cth, .int .i64 cop, .int .i64 carg, .int .i64 cdata, .int .i64 cbeg, .int .i64 cen, .int .i64 cpt, .int .i64 4, .int .i64 cav] 50 (0, 0)) := by rw [hW]; exact heap_alloc_new _ _
                      have y7 : W.cell? ⟨w6.heap.size, 7, none⟩ = some (.int .i64 4) := by simp only [World.cell?, hxb]; rfl
                      have yl := (Array.getElem?_eq_some_iff.1 hxb).1
                      clear hxb hW HI3 HO6 HR x8 xl x8' xl' k5 kl
                      generalize w6.heap.size = yb at *
                      obtain ⟨k0, k1, k2, k3, k4, k5, k6, kl⟩ := boxC (HI6.out.tab.on.blockF HCBW.out (fun x => x))
                      clear k0 k1 k2 k3 k4 k6
                      go_wp2
                      go_ret
                      exact ⟨rfl, (HWB.out _ _ _ HI6.out).belowF⟩
theorem again_walk (a0 a1 a2 a3 a4 a5 a6 : Int) {w : World} {ms : List Mv} {om : Option Addr} {cm : Nat} (hm : MvsIn w (.slice om ms.length cm) ms) (_hcm : ms.length ≤ cm ∧ cm ≤ maxLen ∧ (om = none → cm = 0)) :
    Calls Try.prog 9 #[.agg #[.int .i64 a0, .int .i64 a1, .int .i64 a2, .int .i64 a3, .int .i64 a4, .int .i64 a5, .int .i64 a6], .slice om ms.length cm] w fun e w' => e = .returned (.bool true) ∧ Below w.heap.size w w' := by
  cases hok : okCfg a0 a1 a2 a3 a4 a5 a6 with
  | false => exact again_out _ _ _ _ _ _ _ (.inl hok)
  | true =>
    by_cases hl : 50000 < ms.length
    · exact again_out _ _ _ _ _ _ _ (.inr ⟨hok, hl⟩)
    · exact again_in _ _ _ _ _ _ _ hok (by omega) hm
end Go.Proofs.Ytjcggokhminmoaa
