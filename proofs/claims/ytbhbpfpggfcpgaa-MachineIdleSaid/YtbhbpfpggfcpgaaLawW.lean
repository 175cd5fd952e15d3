/-
What the laws about runs begin with: the script and its run, as they lie (LawW). inCall.
-/
import Derived.Test.YtbhbpfpggfcpgaaFit
import Derived.Test.YtbhbpfpggfcpgaaHis
namespace Go.Proofs.Ytbhbpfpggfcpgaa
open Go.ChangeShapes Go.WideShapes Go.ChangeAt Go.RowKit Go.Shelf

/-- the script's box and the run's box, and what they hold; W is what all that follows keeps -/
structure LawW (w W : World) (Bs Br : Nat) (n : Nat) (l : List Int) (ms : List Mv) (ox : Option Addr) (cx : Nat) (om : Option Addr) (cm : Nat) (x : RunVs) (r : RunS) : Prop where
  scr : W.heap[Bs]? = some (.cells #[.int .i64 (n : Int), .slice ox l.length cx, .slice om ms.length cm] 45 (0, 0))
  rbx : W.heap[Br]? = some (.cells #[x.va, x.vt, x.vb, x.vc] 41 (0, 0))
  run : RunAt W w.heap.size x r
  src : W.Src 1 (.slice ox l.length cx) l.length (u64s l)
  mvs : MvsIn W (.slice om ms.length cm) ms
  be : Below w.heap.size w W

theorem _root_.Go.World.heap_more_ge (w : World) (os : Array Obj) (d k : Nat) (h : w.heap.size ≤ k) : (w.more os d).heap[k]? = os[k - w.heap.size]? := by
  unfold World.more
  exact Array.getElem?_append_right h

theorem LawW.of {w : World} {n : Nat} {l : List Int} {ms : List Mv} {ox : Option Addr} {cx : Nat} {om : Option Addr} {cm : Nat} {x : RunVs} {r : RunS} {S0 : Obj} {os : Array Obj} {d : Nat}
    (hr : RunAt ((w.alloc S0).more os d) (w.alloc S0).heap.size x r) (hs : w.Src 1 (.slice ox l.length cx) l.length (u64s l)) (hm : MvsIn w (.slice om ms.length cm) ms) :
    LawW w (((w.alloc (.cells #[.int .i64 (n : Int), .slice ox l.length cx, .slice om ms.length cm] 45)).more os d).alloc (.cells #[x.va, x.vt, x.vb, x.vc] 41)) w.heap.size (w.heap.size + 1 + os.size) n l ms ox cx om cm x r := by
  have hb : Below w.heap.size w (((w.alloc (.cells #[.int .i64 (n : Int), .slice ox l.length cx, .slice om ms.length cm] 45)).more os d).alloc (.cells #[x.va, x.vt, x.vb, x.vc] 41)) := (by repeat (first | exact Below.refl _ _ | apply Below.drew | apply Below.more1 | apply Below.alloc1))
  refine ⟨?_, ?_, ?_, hs.below hb, hm.of_block hb.block hb.size, hb⟩
  · rw [Below.heap_alloc _ _ _ (by simp [World.size_more]; omega), World.heap_more _ _ _ _ (by simp)]
    exact heap_alloc_new w _
  · exact heap_alloc_at (by simp [World.size_more])
  · refine (hr.of_block fun k hk => ?_).base_mono (by simp)
    have := hr.lt k hk
    simp only [World.size_alloc] at this
    rw [Below.heap_alloc _ _ _ (by simp [World.size_more] at this ⊢; omega)]
    rw [World.heap_more_ge _ _ _ _ (by simp; omega), World.heap_more_ge _ _ _ _ (by simp; omega)]
    simp

section
variable {w W : World} {Bs Br n : Nat} {l : List Int} {ms : List Mv} {ox : Option Addr} {cx : Nat} {om : Option Addr} {cm : Nat} {x : RunVs} {r : RunS}
theorem LawW.scells (h : LawW w W Bs Br n l ms ox cx om cm x r) : W.cell? ⟨Bs, 0, none⟩ = some (.int .i64 (n : Int)) ∧ W.cell? ⟨Bs, 1, none⟩ = some (.slice ox l.length cx) ∧ W.cell? ⟨Bs, 2, none⟩ = some (.slice om ms.length cm) ∧ Bs < W.heap.size :=
  ⟨by simp [World.cell?, h.scr], by simp [World.cell?, h.scr], by simp [World.cell?, h.scr], (Array.getElem?_eq_some_iff.1 h.scr).1⟩
theorem LawW.rcells (h : LawW w W Bs Br n l ms ox cx om cm x r) : W.cell? ⟨Br, 0, none⟩ = some x.va ∧ W.cell? ⟨Br, 1, none⟩ = some x.vt ∧ W.cell? ⟨Br, 2, none⟩ = some x.vb ∧ W.cell? ⟨Br, 3, none⟩ = some x.vc ∧ Br < W.heap.size :=
  ⟨by simp [World.cell?, h.rbx], by simp [World.cell?, h.rbx], by simp [World.cell?, h.rbx], by simp [World.cell?, h.rbx], (Array.getElem?_eq_some_iff.1 h.rbx).1⟩
end

theorem accs_get' (l : List Acc) (i j : Nat) (hi : i < l.length) (hj : j < 7) : (accs l)[i * 7 + j]? = l[i].cells[j]? := flat_get (f := Acc.cells) (k := 7) (fun _ => rfl) l i j hi hj

set_option maxRecDepth 100000 in
set_option maxHeartbeats 2000000 in
theorem incall_ok {w : World} {va : Value} {base : Nat} {cs : List Cal} (hs : w.RowV base 63 9 va cs.length (cals cs)) (hn : cs.length ≤ 1000000) (th mv : Int) (hin : inCall cs th mv) :
    Calls Try.prog 28 #[va, .int .i64 th, .int .i64 mv] w fun e w' => e = .returned (.bool true) ∧ Below w.heap.size w w' := by
  obtain ⟨ci, c, hc, q1, q2, q3⟩ := hin
  have hlt := (List.getElem?_eq_some_iff.1 hc).1
  obtain ⟨g, cap, rfl, f1, f2, f3, f4, f5, f6⟩ := hs.some_form (by omega)
  have HS := Lib.hid f6
  have HC := Lib.hid hc
  have HQ := Lib.hid (And.intro q1 (And.intro q2 q3))
  clear hs f4 f6 hc q1 q2 q3
  go_enter Try.func28, Try.ntmps28
  go_wp2
  go_loopg [11] ci (fun gh sl wr => ∃ k : Nat, k ≤ ci ∧ ci ≤ k + gh ∧ sl = .int .i64 (k : Int) ∧ ∃ os d, wr = w.more os d)
  case atStart => exact ⟨0, by omega, by omega, by go_num, RowKit.Below.more (Below.refl _ _)⟩
  case round =>
    obtain ⟨k, hk1, hk2, rfl, os, d, rfl⟩ := hrel
    have hkl : k < cs.length := by omega
    have c0 := HS.out (k * 9 + 0) _ (cals_get cs k 0 hkl (by omega))
    have c1 := HS.out (k * 9 + 1) _ (cals_get cs k 1 hkl (by omega))
    have c2 := HS.out (k * 9 + 2) _ (cals_get cs k 2 hkl (by omega))
    have c3 := HS.out (k * 9 + 3) _ (cals_get cs k 3 hkl (by omega))
    have c4 := HS.out (k * 9 + 4) _ (cals_get cs k 4 hkl (by omega))
    have c5 := HS.out (k * 9 + 5) _ (cals_get cs k 5 hkl (by omega))
    have c6 := HS.out (k * 9 + 6) _ (cals_get cs k 6 hkl (by omega))
    have c7 := HS.out (k * 9 + 7) _ (cals_get cs k 7 hkl (by omega))
    have c8 := HS.out (k * 9 + 8) _ (cals_get cs k 8 hkl (by omega))
    have HK := Lib.hid (show k = ci → cs[k] = c from fun e => by subst e; have := HC.out; rw [List.getElem?_eq_getElem hkl] at this; exact Option.some.inj this)
    generalize cs[k] = ck at *
    simp only [Nat.add_zero] at c0
    have hb : ((ck.th == th) = false ∧ Hid (k ≠ ci)) ∨ ((ck.th == th) = true ∧ decide (ck.beg < mv) = false ∧ Hid (k ≠ ci)) ∨ ((ck.th == th) = true ∧ decide (ck.beg < mv) = true ∧ decide (ck.en < 0) = true) ∨
        ((ck.th == th) = true ∧ decide (ck.beg < mv) = true ∧ decide (ck.en < 0) = false ∧ decide (mv ≤ ck.en) = true) ∨ ((ck.th == th) = true ∧ decide (ck.beg < mv) = true ∧ decide (ck.en < 0) = false ∧ decide (mv ≤ ck.en) = false ∧ Hid (k ≠ ci)) := by
      obtain ⟨q1, q2, q3⟩ := HQ.out
      by_cases a1 : ck.th = th
      · by_cases a2 : ck.beg < mv
        · by_cases a3 : ck.en < 0
          · exact .inr (.inr (.inl ⟨by simpa using a1, by simpa using a2, by simpa using a3⟩))
          · by_cases a4 : mv ≤ ck.en
            · exact .inr (.inr (.inr (.inl ⟨by simpa using a1, by simpa using a2, by simpa using a3, by simpa using a4⟩)))
            · exact .inr (.inr (.inr (.inr ⟨by simpa using a1, by simpa using a2, by simpa using a3, by simpa using a4, Lib.hid (fun e => by have := HK.out e; subst this; omega)⟩)))
        · exact .inr (.inl ⟨by simpa using a1, by simpa using a2, Lib.hid (fun e => by have := HK.out e; subst this; exact a2 q2)⟩)
      · exact .inl ⟨by simpa using a1, Lib.hid (fun e => by have := HK.out e; subst this; exact a1 q1)⟩
    rcases hb with ⟨b1, b2⟩ | ⟨b1, b2, b3⟩ | ⟨b1, b2, b3⟩ | ⟨b1, b2, b3, b4⟩ | ⟨b1, b2, b3, b4, b5⟩
    · have hne := b2.out
      go_wp2
      go_roundg (ci - (k + 1))
      case measure => omega
      case rel => exact ⟨k + 1, by omega, by omega, by go_num, RowKit.Below.more (by repeat (first | exact Below.refl _ _ | apply Below.drew | apply Below.more1 | apply Below.alloc1))⟩
    · have hne := b3.out
      go_wp2
      go_roundg (ci - (k + 1))
      case measure => omega
      case rel => exact ⟨k + 1, by omega, by omega, by go_num, RowKit.Below.more (by repeat (first | exact Below.refl _ _ | apply Below.drew | apply Below.more1 | apply Below.alloc1))⟩
    · go_wp2
      go_ret
      exact ⟨rfl, (by repeat (first | exact Below.refl _ _ | apply Below.drew | apply Below.more1 | apply Below.alloc1))⟩
    · go_wp2
      go_ret
      exact ⟨rfl, (by repeat (first | exact Below.refl _ _ | apply Below.drew | apply Below.more1 | apply Below.alloc1))⟩
    · have hne := b5.out
      go_wp2
      go_roundg (ci - (k + 1))
      case measure => omega
      case rel => exact ⟨k + 1, by omega, by omega, by go_num, RowKit.Below.more (by repeat (first | exact Below.refl _ _ | apply Below.drew | apply Below.more1 | apply Below.alloc1))⟩
end Go.Proofs.Ytbhbpfpggfcpgaa
