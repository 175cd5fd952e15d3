/-
reclaimref03: Spoilt, of runs that Spoil made.
-/
import Derived.Test.YtbhbpfpggfcpgaaQSpo
import Derived.Test.YtbhbpfpggfcpgaaQPlE
namespace Go.Proofs.Ytbhbpfpggfcpgaa
open Go.ChangeShapes Go.WideShapes Go.ChangeAt Go.RowKit Go.Shelf

theorem app_left {α : Type} (f g : Nat → α) (N m i : Nat) (h : i < N) : ((List.range N).map f ++ (List.range m).map g)[i]? = some (f i) := by
  rw [List.getElem?_append_left (by simpa using h)]
  simp [h]
theorem app_right {α : Type} (f g : Nat → α) (N m i : Nat) (h : N ≤ i) (h2 : i < N + m) : ((List.range N).map f ++ (List.range m).map g)[i]? = some (g (i - N)) := by
  rw [List.getElem?_append_right (by simpa using h)]
  simp [show i - N < m by omega]
theorem spCell0 (r : RunS) (mark : Int) (m i j : Nat) (hj : j < 9) : (i < r.calls.length → ((spEnd r mark m m m m).xs 0)[i * 9 + j]? = (mkC mark i).cells[j]?) ∧ (r.calls.length ≤ i → i < r.calls.length + m → ((spEnd r mark m m m m).xs 0)[i * 9 + j]? = (tlC mark (i - r.calls.length)).cells[j]?) := by
  have hl : (spEnd r mark m m m m).calls.length = r.calls.length + m := by simp [spEnd]
  refine ⟨fun h => ?_, fun h h2 => ?_⟩
  · show (cals (spEnd r mark m m m m).calls)[i * 9 + j]? = _
    rw [cals_get3 _ i j (by omega) hj]
    have := app_left (mkC mark) (tlC mark) r.calls.length m i h
    rw [(List.getElem?_eq_some_iff.1 this).2.symm]
    rfl
  · show (cals (spEnd r mark m m m m).calls)[i * 9 + j]? = _
    rw [cals_get3 _ i j (by omega) hj]
    have := app_right (mkC mark) (tlC mark) r.calls.length m i h h2
    rw [(List.getElem?_eq_some_iff.1 this).2.symm]
    rfl
theorem spCell1 (r : RunS) (mark : Int) (m i j : Nat) (hj : j < 7) : (i < r.trace.length → ((spEnd r mark m m m m).xs 1)[i * 7 + j]? = (mkT mark i).cells[j]?) ∧ (r.trace.length ≤ i → i < r.trace.length + m → ((spEnd r mark m m m m).xs 1)[i * 7 + j]? = (tlT mark (i - r.trace.length)).cells[j]?) := by
  have hl : (spEnd r mark m m m m).trace.length = r.trace.length + m := by simp [spEnd]
  refine ⟨fun h => ?_, fun h h2 => ?_⟩
  · show (accs (spEnd r mark m m m m).trace)[i * 7 + j]? = _
    rw [accs_get3 _ i j (by omega) hj]
    have := app_left (mkT mark) (tlT mark) r.trace.length m i h
    rw [(List.getElem?_eq_some_iff.1 this).2.symm]
    rfl
  · show (accs (spEnd r mark m m m m).trace)[i * 7 + j]? = _
    rw [accs_get3 _ i j (by omega) hj]
    have := app_right (mkT mark) (tlT mark) r.trace.length m i h h2
    rw [(List.getElem?_eq_some_iff.1 this).2.symm]
    rfl
theorem spCell2 (r : RunS) (mark : Int) (m i j : Nat) (hj : j < 5) : (i < r.shifts.length → ((spEnd r mark m m m m).xs 2)[i * 5 + j]? = (mkS mark i).cells[j]?) ∧ (r.shifts.length ≤ i → i < r.shifts.length + m → ((spEnd r mark m m m m).xs 2)[i * 5 + j]? = (tlS mark (i - r.shifts.length)).cells[j]?) := by
  have hl : (spEnd r mark m m m m).shifts.length = r.shifts.length + m := by simp [spEnd]
  refine ⟨fun h => ?_, fun h h2 => ?_⟩
  · show (shfs (spEnd r mark m m m m).shifts)[i * 5 + j]? = _
    rw [shfs_get3 _ i j (by omega) hj]
    have := app_left (mkS mark) (tlS mark) r.shifts.length m i h
    rw [(List.getElem?_eq_some_iff.1 this).2.symm]
    rfl
  · show (shfs (spEnd r mark m m m m).shifts)[i * 5 + j]? = _
    rw [shfs_get3 _ i j (by omega) hj]
    have := app_right (mkS mark) (tlS mark) r.shifts.length m i h h2
    rw [(List.getElem?_eq_some_iff.1 this).2.symm]
    rfl
theorem spCell3 (r : RunS) (mark : Int) (m i : Nat) : (i < r.words.length → ((spEnd r mark m m m m).xs 3)[i]? = some (.int .u64 (mark + i))) ∧ (r.words.length ≤ i → i < r.words.length + m → ((spEnd r mark m m m m).xs 3)[i]? = some (.int .u64 (mark + 1000000))) := by
  refine ⟨fun h => ?_, fun h h2 => ?_⟩
  · show (u64s (spEnd r mark m m m m).words)[i]? = _
    unfold u64s
    rw [List.getElem?_map, show (spEnd r mark m m m m).words[i]? = _ from app_left (mkW mark) (tlW mark) r.words.length m i h]
    rfl
  · show (u64s (spEnd r mark m m m m).words)[i]? = _
    unfold u64s
    rw [List.getElem?_map, show (spEnd r mark m m m m).words[i]? = _ from app_right (mkW mark) (tlW mark) r.words.length m i h h2]
    rfl

set_option maxRecDepth 100000 in
set_option maxHeartbeats 4000000 in
theorem spoilt_yes {mark : Int} {w : World} {x : RunVs} {r : RunS} {m : Nat} (hx : ∀ i, i < 4 → w.Src (runSz i) (x.row i) (r.len i + m) ((spEnd r mark m m m m).xs i)) (hsm : RunS.small r) (hm1 : 0 ≤ mark) (hm2 : mark ≤ 10000) (hm : m ≤ 70)
    (za zt zb zc : Option Addr) (na nt nb nc : Nat) :
    Calls Try.prog 31 #[x.v, .agg #[.slice za r.calls.length na, .slice zt r.trace.length nt, .slice zb r.shifts.length nb, .slice zc r.words.length nc], .int .i64 mark] w fun e w' => e = .returned (.bool true) ∧ Below w.heap.size w w' := by
  obtain ⟨s1, s2, s3, s4⟩ := hsm
  have H0 := Lib.hid (hx 0 (by omega))
  have H1 := Lib.hid (hx 1 (by omega))
  have H2 := Lib.hid (hx 2 (by omega))
  have H3 := Lib.hid (hx 3 (by omega))
  obtain ⟨x1, x2, x3, x4⟩ := x
  obtain ⟨oa, ca, e1⟩ := H0.out.form
  obtain ⟨ot, ct, e2⟩ := H1.out.form
  obtain ⟨ob, cb, e3⟩ := H2.out.form
  obtain ⟨oc, cc, e4⟩ := H3.out.form
  change x1 = .slice oa (r.calls.length + m) ca at e1
  change x2 = .slice ot (r.trace.length + m) ct at e2
  change x3 = .slice ob (r.shifts.length + m) cb at e3
  change x4 = .slice oc (r.words.length + m) cc at e4
  subst e1 e2 e3 e4
  unfold RunVs.v
  clear hx
  go_enter Try.func31, Try.ntmps31
  go_wp2
  go_loopg [7] (r.calls.length + m) (fun g sl wr => ∃ j : Nat, j ≤ r.calls.length + m ∧ r.calls.length + m ≤ j + g ∧ sl = .int .i64 (j : Int) ∧ ∃ os d, wr = ((w.alloc (.cells #[.slice oa (r.calls.length + m) ca, .slice ot (r.trace.length + m) ct, .slice ob (r.shifts.length + m) cb, .slice oc (r.words.length + m) cc] 41)).alloc (.cells #[.slice za r.calls.length na, .slice zt r.trace.length nt, .slice zb r.shifts.length nb, .slice zc r.words.length nc] 41)).more os d)
  case atStart => exact ⟨0, by omega, by omega, by go_num, RowKit.Below.more (by repeat (first | exact Below.refl _ _ | apply Below.drew | apply Below.more1 | apply Below.alloc1))⟩
  case round =>
    obtain ⟨j, hj1, hj2, rfl, os, d, rfl⟩ := hrel
    by_cases hlt : j < r.calls.length + m
    · obtain ⟨g1, f1, d1, e1, s1', x1⟩ := H0.out.some_form (by show 0 < r.calls.length + m; omega) (by decide)
      cases e1
      have hd : decide ((j : Int) < ((r.calls.length + m : Nat) : Int)) = true := by simp; omega
      have hd2 : decide ((j : Int) < (r.calls.length : Int) + (m : Int)) = true := by simp; omega
      by_cases hin : j < r.calls.length
      · have q1 : decide ((j : Int) < (r.calls.length : Int)) = true := by simp; omega
        have q2 : decide ((r.calls.length : Int) ≤ (j : Int)) = false := by simp; omega
        have q3 : decide (j < r.calls.length) = true := by simp; omega
        have q4 : decide (r.calls.length ≤ j) = false := by simp; omega
        have xa : ∀ t u, (mkC mark j).cells[t]? = some u → t < 9 → w.cell? ⟨g1, f1 + j * 9 + t, none⟩ = some u := fun t u hu ht => by rw [Nat.add_assoc]; exact x1 (j * 9 + t) u (by show ((spEnd r mark m m m m).xs 0)[j * 9 + t]? = _; rw [(spCell0 r mark m j t ht).1 hin]; exact hu)
        have y0 := xa 0 _ rfl (by omega)
        have y1 := xa 1 _ rfl (by omega)
        have y2 := xa 2 _ rfl (by omega)
        have y3 := xa 3 _ rfl (by omega)
        have y4 := xa 4 _ rfl (by omega)
        have y5 := xa 5 _ rfl (by omega)
        have y6 := xa 6 _ rfl (by omega)
        have y7 := xa 7 _ rfl (by omega)
        have y8 := xa 8 _ rfl (by omega)
        simp only [Nat.add_zero] at y0
        simp only [mkC] at y0 y1 y2 y3 y4 y5 y6 y7 y8
        clear x1 xa
        go_wp2
        refine wp_region_more_lit (by kernel_rfl) (by kernel_rfl) ?_
        repeat (first | go_big_quiet_skip | (go_big_quiet_want; go_big_quiet_op; first | go_big_quiet_on | (apply Exists.intro; refine ⟨fun _ => ?_, ?_⟩; (focus (fail)); go_big_quiet_on)))
        refine wpQuiet_nil ?_
        intro osq dq
        go_wp2
        go_roundg (r.calls.length + m - (j + 1))
        case measure => omega
        case rel => exact ⟨j + 1, by omega, by omega, by go_num, RowKit.Below.more (by repeat (first | exact Below.refl _ _ | apply Below.drew | apply Below.more1 | apply Below.alloc1))⟩
      · have q1 : decide ((j : Int) < (r.calls.length : Int)) = false := by simp; omega
        have q2 : decide ((r.calls.length : Int) ≤ (j : Int)) = true := by simp; omega
        have q3 : decide (j < r.calls.length) = false := by simp; omega
        have q4 : decide (r.calls.length ≤ j) = true := by simp; omega
        have xa : ∀ t u, (tlC mark (j - r.calls.length)).cells[t]? = some u → t < 9 → w.cell? ⟨g1, f1 + j * 9 + t, none⟩ = some u := fun t u hu ht => by rw [Nat.add_assoc]; exact x1 (j * 9 + t) u (by show ((spEnd r mark m m m m).xs 0)[j * 9 + t]? = _; rw [(spCell0 r mark m j t ht).2 (by omega) (by omega)]; exact hu)
        have y0 := xa 0 _ rfl (by omega)
        have y1 := xa 1 _ rfl (by omega)
        have y2 := xa 2 _ rfl (by omega)
        have y3 := xa 3 _ rfl (by omega)
        have y4 := xa 4 _ rfl (by omega)
        have y5 := xa 5 _ rfl (by omega)
        have y6 := xa 6 _ rfl (by omega)
        have y7 := xa 7 _ rfl (by omega)
        have y8 := xa 8 _ rfl (by omega)
        simp only [Nat.add_zero] at y0
        simp only [tlC] at y0 y1 y2 y3 y4 y5 y6 y7 y8
        have hqe : ((j - r.calls.length : Nat) : Int) = (j : Int) - (r.calls.length : Int) := by omega
        rw [hqe] at y0
        clear x1 xa
        go_wp2
        refine wp_region_more_lit (by kernel_rfl) (by kernel_rfl) ?_
        repeat (first | go_big_quiet_skip | (go_big_quiet_want; go_big_quiet_op; first | go_big_quiet_on | (apply Exists.intro; refine ⟨fun _ => ?_, ?_⟩; (focus (fail)); go_big_quiet_on)))
        refine wpQuiet_nil ?_
        intro osq dq
        go_wp2
        go_roundg (r.calls.length + m - (j + 1))
        case measure => omega
        case rel => exact ⟨j + 1, by omega, by omega, by go_num, RowKit.Below.more (by repeat (first | exact Below.refl _ _ | apply Below.drew | apply Below.more1 | apply Below.alloc1))⟩
    · obtain rfl : j = r.calls.length + m := by omega
      clear hj1 hj2 hlt
      go_wp2
      go_loopg [8] (r.trace.length + m) (fun g sl wr => ∃ j : Nat, j ≤ r.trace.length + m ∧ r.trace.length + m ≤ j + g ∧ sl = .int .i64 (j : Int) ∧ ∃ os d, wr = ((w.alloc (.cells #[.slice oa (r.calls.length + m) ca, .slice ot (r.trace.length + m) ct, .slice ob (r.shifts.length + m) cb, .slice oc (r.words.length + m) cc] 41)).alloc (.cells #[.slice za r.calls.length na, .slice zt r.trace.length nt, .slice zb r.shifts.length nb, .slice zc r.words.length nc] 41)).more os d)
      case atStart => exact ⟨0, by omega, by omega, by go_num, RowKit.Below.more (by repeat (first | exact Below.refl _ _ | apply Below.drew | apply Below.more1 | apply Below.alloc1))⟩
      case round =>
        obtain ⟨j, hj1, hj2, rfl, os, d, rfl⟩ := hrel
        by_cases hlt : j < r.trace.length + m
        · obtain ⟨g1, f1, d1, e1, s1', x1⟩ := H1.out.some_form (by show 0 < r.trace.length + m; omega) (by decide)
          cases e1
          have hd : decide ((j : Int) < ((r.trace.length + m : Nat) : Int)) = true := by simp; omega
          have hd2 : decide ((j : Int) < (r.trace.length : Int) + (m : Int)) = true := by simp; omega
          by_cases hin : j < r.trace.length
          · have q1 : decide ((j : Int) < (r.trace.length : Int)) = true := by simp; omega
            have q2 : decide ((r.trace.length : Int) ≤ (j : Int)) = false := by simp; omega
            have q3 : decide (j < r.trace.length) = true := by simp; omega
            have q4 : decide (r.trace.length ≤ j) = false := by simp; omega
            have xa : ∀ t u, (mkT mark j).cells[t]? = some u → t < 7 → w.cell? ⟨g1, f1 + j * 7 + t, none⟩ = some u := fun t u hu ht => by rw [Nat.add_assoc]; exact x1 (j * 7 + t) u (by show ((spEnd r mark m m m m).xs 1)[j * 7 + t]? = _; rw [(spCell1 r mark m j t ht).1 hin]; exact hu)
            have y0 := xa 0 _ rfl (by omega)
            have y1 := xa 1 _ rfl (by omega)
            have y2 := xa 2 _ rfl (by omega)
            have y3 := xa 3 _ rfl (by omega)
            have y4 := xa 4 _ rfl (by omega)
            have y5 := xa 5 _ rfl (by omega)
            have y6 := xa 6 _ rfl (by omega)
            simp only [Nat.add_zero] at y0
            simp only [mkT] at y0 y1 y2 y3 y4 y5 y6
            clear x1 xa
            go_wp2
            refine wp_region_more_lit (by kernel_rfl) (by kernel_rfl) ?_
            repeat (first | go_big_quiet_skip | (go_big_quiet_want; go_big_quiet_op; first | go_big_quiet_on | (apply Exists.intro; refine ⟨fun _ => ?_, ?_⟩; (focus (fail)); go_big_quiet_on)))
            refine wpQuiet_nil ?_
            intro osq dq
            go_wp2
            go_roundg (r.trace.length + m - (j + 1))
            case measure => omega
            case rel => exact ⟨j + 1, by omega, by omega, by go_num, RowKit.Below.more (by repeat (first | exact Below.refl _ _ | apply Below.drew | apply Below.more1 | apply Below.alloc1))⟩
          · have q1 : decide ((j : Int) < (r.trace.length : Int)) = false := by simp; omega
            have q2 : decide ((r.trace.length : Int) ≤ (j : Int)) = true := by simp; omega
            have q3 : decide (j < r.trace.length) = false := by simp; omega
            have q4 : decide (r.trace.length ≤ j) = true := by simp; omega
            have xa : ∀ t u, (tlT mark (j - r.trace.length)).cells[t]? = some u → t < 7 → w.cell? ⟨g1, f1 + j * 7 + t, none⟩ = some u := fun t u hu ht => by rw [Nat.add_assoc]; exact x1 (j * 7 + t) u (by show ((spEnd r mark m m m m).xs 1)[j * 7 + t]? = _; rw [(spCell1 r mark m j t ht).2 (by omega) (by omega)]; exact hu)
            have y0 := xa 0 _ rfl (by omega)
            have y1 := xa 1 _ rfl (by omega)
            have y2 := xa 2 _ rfl (by omega)
            have y3 := xa 3 _ rfl (by omega)
            have y4 := xa 4 _ rfl (by omega)
            have y5 := xa 5 _ rfl (by omega)
            have y6 := xa 6 _ rfl (by omega)
            simp only [Nat.add_zero] at y0
            simp only [tlT] at y0 y1 y2 y3 y4 y5 y6
            have hqe : ((j - r.trace.length : Nat) : Int) = (j : Int) - (r.trace.length : Int) := by omega
            rw [hqe] at y0
            clear x1 xa
            go_wp2
            refine wp_region_more_lit (by kernel_rfl) (by kernel_rfl) ?_
            repeat (first | go_big_quiet_skip | (go_big_quiet_want; go_big_quiet_op; first | go_big_quiet_on | (apply Exists.intro; refine ⟨fun _ => ?_, ?_⟩; (focus (fail)); go_big_quiet_on)))
            refine wpQuiet_nil ?_
            intro osq dq
            go_wp2
            go_roundg (r.trace.length + m - (j + 1))
            case measure => omega
            case rel => exact ⟨j + 1, by omega, by omega, by go_num, RowKit.Below.more (by repeat (first | exact Below.refl _ _ | apply Below.drew | apply Below.more1 | apply Below.alloc1))⟩
        · obtain rfl : j = r.trace.length + m := by omega
          clear hj1 hj2 hlt
          go_wp2
          go_loopg [9] (r.shifts.length + m) (fun g sl wr => ∃ j : Nat, j ≤ r.shifts.length + m ∧ r.shifts.length + m ≤ j + g ∧ sl = .int .i64 (j : Int) ∧ ∃ os d, wr = ((w.alloc (.cells #[.slice oa (r.calls.length + m) ca, .slice ot (r.trace.length + m) ct, .slice ob (r.shifts.length + m) cb, .slice oc (r.words.length + m) cc] 41)).alloc (.cells #[.slice za r.calls.length na, .slice zt r.trace.length nt, .slice zb r.shifts.length nb, .slice zc r.words.length nc] 41)).more os d)
          case atStart => exact ⟨0, by omega, by omega, by go_num, RowKit.Below.more (by repeat (first | exact Below.refl _ _ | apply Below.drew | apply Below.more1 | apply Below.alloc1))⟩
          case round =>
            obtain ⟨j, hj1, hj2, rfl, os, d, rfl⟩ := hrel
            by_cases hlt : j < r.shifts.length + m
            · obtain ⟨g1, f1, d1, e1, s1', x1⟩ := H2.out.some_form (by show 0 < r.shifts.length + m; omega) (by decide)
              cases e1
              have hd : decide ((j : Int) < ((r.shifts.length + m : Nat) : Int)) = true := by simp; omega
              have hd2 : decide ((j : Int) < (r.shifts.length : Int) + (m : Int)) = true := by simp; omega
              by_cases hin : j < r.shifts.length
              · have q1 : decide ((j : Int) < (r.shifts.length : Int)) = true := by simp; omega
                have q2 : decide ((r.shifts.length : Int) ≤ (j : Int)) = false := by simp; omega
                have q3 : decide (j < r.shifts.length) = true := by simp; omega
                have q4 : decide (r.shifts.length ≤ j) = false := by simp; omega
                have xa : ∀ t u, (mkS mark j).cells[t]? = some u → t < 5 → w.cell? ⟨g1, f1 + j * 5 + t, none⟩ = some u := fun t u hu ht => by rw [Nat.add_assoc]; exact x1 (j * 5 + t) u (by show ((spEnd r mark m m m m).xs 2)[j * 5 + t]? = _; rw [(spCell2 r mark m j t ht).1 hin]; exact hu)
                have y0 := xa 0 _ rfl (by omega)
                have y1 := xa 1 _ rfl (by omega)
                have y2 := xa 2 _ rfl (by omega)
                have y3 := xa 3 _ rfl (by omega)
                have y4 := xa 4 _ rfl (by omega)
                simp only [Nat.add_zero] at y0
                simp only [mkS] at y0 y1 y2 y3 y4
                clear x1 xa
                go_wp2
                refine wp_region_more_lit (by kernel_rfl) (by kernel_rfl) ?_
                repeat (first | go_big_quiet_skip | (go_big_quiet_want; go_big_quiet_op; first | go_big_quiet_on | (apply Exists.intro; refine ⟨fun _ => ?_, ?_⟩; (focus (fail)); go_big_quiet_on)))
                refine wpQuiet_nil ?_
                intro osq dq
                go_wp2
                go_roundg (r.shifts.length + m - (j + 1))
                case measure => omega
                case rel => exact ⟨j + 1, by omega, by omega, by go_num, RowKit.Below.more (by repeat (first | exact Below.refl _ _ | apply Below.drew | apply Below.more1 | apply Below.alloc1))⟩
              · have q1 : decide ((j : Int) < (r.shifts.length : Int)) = false := by simp; omega
                have q2 : decide ((r.shifts.length : Int) ≤ (j : Int)) = true := by simp; omega
                have q3 : decide (j < r.shifts.length) = false := by simp; omega
                have q4 : decide (r.shifts.length ≤ j) = true := by simp; omega
                have xa : ∀ t u, (tlS mark (j - r.shifts.length)).cells[t]? = some u → t < 5 → w.cell? ⟨g1, f1 + j * 5 + t, none⟩ = some u := fun t u hu ht => by rw [Nat.add_assoc]; exact x1 (j * 5 + t) u (by show ((spEnd r mark m m m m).xs 2)[j * 5 + t]? = _; rw [(spCell2 r mark m j t ht).2 (by omega) (by omega)]; exact hu)
                have y0 := xa 0 _ rfl (by omega)
                have y1 := xa 1 _ rfl (by omega)
                have y2 := xa 2 _ rfl (by omega)
                have y3 := xa 3 _ rfl (by omega)
                have y4 := xa 4 _ rfl (by omega)
                simp only [Nat.add_zero] at y0
                simp only [tlS] at y0 y1 y2 y3 y4
                have hqe : ((j - r.shifts.length : Nat) : Int) = (j : Int) - (r.shifts.length : Int) := by omega
                rw [hqe] at y0
                clear x1 xa
                go_wp2
                refine wp_region_more_lit (by kernel_rfl) (by kernel_rfl) ?_
                repeat (first | go_big_quiet_skip | (go_big_quiet_want; go_big_quiet_op; first | go_big_quiet_on | (apply Exists.intro; refine ⟨fun _ => ?_, ?_⟩; (focus (fail)); go_big_quiet_on)))
                refine wpQuiet_nil ?_
                intro osq dq
                go_wp2
                go_roundg (r.shifts.length + m - (j + 1))
                case measure => omega
                case rel => exact ⟨j + 1, by omega, by omega, by go_num, RowKit.Below.more (by repeat (first | exact Below.refl _ _ | apply Below.drew | apply Below.more1 | apply Below.alloc1))⟩
            · obtain rfl : j = r.shifts.length + m := by omega
              clear hj1 hj2 hlt
              go_wp2
              go_loopg [10] (r.words.length + m) (fun g sl wr => ∃ j : Nat, j ≤ r.words.length + m ∧ r.words.length + m ≤ j + g ∧ sl = .int .i64 (j : Int) ∧ ∃ os d, wr = ((w.alloc (.cells #[.slice oa (r.calls.length + m) ca, .slice ot (r.trace.length + m) ct, .slice ob (r.shifts.length + m) cb, .slice oc (r.words.length + m) cc] 41)).alloc (.cells #[.slice za r.calls.length na, .slice zt r.trace.length nt, .slice zb r.shifts.length nb, .slice zc r.words.length nc] 41)).more os d)
              case atStart => exact ⟨0, by omega, by omega, by go_num, RowKit.Below.more (by repeat (first | exact Below.refl _ _ | apply Below.drew | apply Below.more1 | apply Below.alloc1))⟩
              case round =>
                obtain ⟨j, hj1, hj2, rfl, os, d, rfl⟩ := hrel
                by_cases hlt : j < r.words.length + m
                · obtain ⟨g1, f1, d1, e1, s1', x1⟩ := H3.out.some_form (by show 0 < r.words.length + m; omega) (by decide)
                  cases e1
                  have hd : decide ((j : Int) < ((r.words.length + m : Nat) : Int)) = true := by simp; omega
                  have hd2 : decide ((j : Int) < (r.words.length : Int) + (m : Int)) = true := by simp; omega
                  by_cases hin : j < r.words.length
                  · have q1 : decide ((j : Int) < (r.words.length : Int)) = true := by simp; omega
                    have q2 : decide ((r.words.length : Int) ≤ (j : Int)) = false := by simp; omega
                    have q3 : decide (j < r.words.length) = true := by simp; omega
                    have q4 : decide (r.words.length ≤ j) = false := by simp; omega
                    have y0 : w.cell? ⟨g1, f1 + j, none⟩ = some (.int .u64 (mark + (j : Int))) := x1 j _ ((spCell3 r mark m j).1 hin)
                    clear x1
                    go_wp2
                    go_roundg (r.words.length + m - (j + 1))
                    case measure => omega
                    case rel => exact ⟨j + 1, by omega, by omega, by go_num, RowKit.Below.more (by repeat (first | exact Below.refl _ _ | apply Below.drew | apply Below.more1 | apply Below.alloc1))⟩
                  · have q1 : decide ((j : Int) < (r.words.length : Int)) = false := by simp; omega
                    have q2 : decide ((r.words.length : Int) ≤ (j : Int)) = true := by simp; omega
                    have q3 : decide (j < r.words.length) = false := by simp; omega
                    have q4 : decide (r.words.length ≤ j) = true := by simp; omega
                    have y0 : w.cell? ⟨g1, f1 + j, none⟩ = some (.int .u64 (mark + 1000000)) := x1 j _ ((spCell3 r mark m j).2 (by omega) (by omega))
                    clear x1
                    go_wp2
                    go_roundg (r.words.length + m - (j + 1))
                    case measure => omega
                    case rel => exact ⟨j + 1, by omega, by omega, by go_num, RowKit.Below.more (by repeat (first | exact Below.refl _ _ | apply Below.drew | apply Below.more1 | apply Below.alloc1))⟩
                · obtain rfl : j = r.words.length + m := by omega
                  clear hj1 hj2 hlt
                  go_wp2
                  go_ret
                  exact ⟨rfl, (by repeat (first | exact Below.refl _ _ | apply Below.drew | apply Below.more1 | apply Below.alloc1))⟩
end Go.Proofs.Ytbhbpfpggfcpgaa
