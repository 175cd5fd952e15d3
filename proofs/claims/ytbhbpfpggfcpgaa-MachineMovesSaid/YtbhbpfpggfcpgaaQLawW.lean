/-
What the laws about runs begin with: the script and its run, as they lie (LawW). inCall.
Lists of moves that are laid anew (mvsC): as a source, as a row.
The document's machine (reclaimref03.Machine) as data, and where it lies in the heap (RMAt).
-/
import Derived.Test.YtbhbpfpggfcpgaaQFit
import Derived.Test.YtbhbpfpggfcpgaaQInS
namespace Go.Proofs.Ytbhbpfpggfcpgaa
open Go.ChangeShapes Go.WideShapes Go.ChangeAt Go.RowKit Go.Shelf

/-- the script's box and the run's box, and what they hold; W is what all that follows keeps -/
structure LawW (w W : World) (Bs Br : Nat) (n : Nat) (l : List Int) (ms : List Mv) (ox : Option Addr) (cx : Nat) (om : Option Addr) (cm : Nat) (x : RunVs) (r : RunS) : Prop where
  scr : W.heap[Bs]? = some (.cells #[.int .i64 (n : Int), .slice ox l.length cx, .slice om ms.length cm] 45 (0, 0))
  rbx : W.heap[Br]? = some (.cells #[x.va, x.vt, x.vb, x.vc] 41 (0, 0))
  run : RunAt W w.heap.size x r
  src : W.Src 1 (.slice ox l.length cx) l.length (u64s l)
  mvs : MvsIn W (.slice om ms.length cm) ms
  be : Below w.heap.size w W

theorem _root_.Go.World.heap_more_ge (w : World) (os : Array Obj) (d k : Nat) (h : w.heap.size ≤ k) : (w.more os d).heap[k]? = os[k - w.heap.size]? := by
  unfold World.more
  exact Array.getElem?_append_right h

theorem LawW.of {w : World} {n : Nat} {l : List Int} {ms : List Mv} {ox : Option Addr} {cx : Nat} {om : Option Addr} {cm : Nat} {x : RunVs} {r : RunS} {S0 : Obj} {os : Array Obj} {d : Nat}
    (hr : RunAt ((w.alloc S0).more os d) (w.alloc S0).heap.size x r) (hs : w.Src 1 (.slice ox l.length cx) l.length (u64s l)) (hm : MvsIn w (.slice om ms.length cm) ms) :
    LawW w (((w.alloc (.cells #[.int .i64 (n : Int), .slice ox l.length cx, .slice om ms.length cm] 45)).more os d).alloc (.cells #[x.va, x.vt, x.vb, x.vc] 41)) w.heap.size (w.heap.size + 1 + os.size) n l ms ox cx om cm x r := by
  have hb : Below w.heap.size w (((w.alloc (.cells #[.int .i64 (n : Int), .slice ox l.length cx, .slice om ms.length cm] 45)).more os d).alloc (.cells #[x.va, x.vt, x.vb, x.vc] 41)) := (by repeat (first | exact Below.refl _ _ | apply Below.drew | apply Below.more1 | apply Below.alloc1))
  refine ⟨?_, ?_, ?_, hs.below hb, hm.of_block hb.block hb.size, hb⟩
  · rw [Below.heap_alloc _ _ _ (by simp [World.size_more]; omega), World.heap_more _ _ _ _ (by simp)]
    exact heap_alloc_new w _
  · exact heap_alloc_at (by simp [World.size_more])
  · refine (hr.of_block fun k hk => ?_).base_mono (by simp)
    have := hr.lt k hk
    simp only [World.size_alloc] at this
    rw [Below.heap_alloc _ _ _ (by simp [World.size_more] at this ⊢; omega)]
    rw [World.heap_more_ge _ _ _ _ (by simp; omega), World.heap_more_ge _ _ _ _ (by simp; omega)]
    simp

section
variable {w W : World} {Bs Br n : Nat} {l : List Int} {ms : List Mv} {ox : Option Addr} {cx : Nat} {om : Option Addr} {cm : Nat} {x : RunVs} {r : RunS}
theorem LawW.scells (h : LawW w W Bs Br n l ms ox cx om cm x r) : W.cell? ⟨Bs, 0, none⟩ = some (.int .i64 (n : Int)) ∧ W.cell? ⟨Bs, 1, none⟩ = some (.slice ox l.length cx) ∧ W.cell? ⟨Bs, 2, none⟩ = some (.slice om ms.length cm) ∧ Bs < W.heap.size :=
  ⟨by simp [World.cell?, h.scr], by simp [World.cell?, h.scr], by simp [World.cell?, h.scr], (Array.getElem?_eq_some_iff.1 h.scr).1⟩
theorem LawW.rcells (h : LawW w W Bs Br n l ms ox cx om cm x r) : W.cell? ⟨Br, 0, none⟩ = some x.va ∧ W.cell? ⟨Br, 1, none⟩ = some x.vt ∧ W.cell? ⟨Br, 2, none⟩ = some x.vb ∧ W.cell? ⟨Br, 3, none⟩ = some x.vc ∧ Br < W.heap.size :=
  ⟨by simp [World.cell?, h.rbx], by simp [World.cell?, h.rbx], by simp [World.cell?, h.rbx], by simp [World.cell?, h.rbx], (Array.getElem?_eq_some_iff.1 h.rbx).1⟩
end

theorem accs_get' (l : List Acc) (i j : Nat) (hi : i < l.length) (hj : j < 7) : (accs l)[i * 7 + j]? = l[i].cells[j]? := flat_get (f := Acc.cells) (k := 7) (fun _ => rfl) l i j hi hj

set_option maxRecDepth 100000 in
set_option maxHeartbeats 2000000 in
theorem incall_ok {w : World} {va : Value} {base : Nat} {cs : List Cal} (hs : w.RowV base 63 9 va cs.length (cals cs)) (hn : cs.length ≤ 1000000) (th mv : Int) (hin : inCall cs th mv) :
    Calls Try.prog 28 #[va, .int .i64 th, .int .i64 mv] w fun e w' => e = .returned (.bool true) ∧ Below w.heap.size w w' := by
  obtain ⟨ci, c, hc, q1, q2, q3⟩ := hin
  have hlt := (List.getElem?_eq_some_iff.1 hc).1
  obtain ⟨g, cap, rfl, f1, f2, f3, f4, f5, f6⟩ := hs.some_form (by omega)
  have HS := Lib.hid f6
  have HC := Lib.hid hc
  have HQ := Lib.hid (And.intro q1 (And.intro q2 q3))
  clear hs f4 f6 hc q1 q2 q3
  go_enter Try.func28, Try.ntmps28
  go_wp2
  go_loopg [11] ci (fun gh sl wr => ∃ k : Nat, k ≤ ci ∧ ci ≤ k + gh ∧ sl = .int .i64 (k : Int) ∧ ∃ os d, wr = w.more os d)
  case atStart => exact ⟨0, by omega, by omega, by go_num, RowKit.Below.more (Below.refl _ _)⟩
  case round =>
    obtain ⟨k, hk1, hk2, rfl, os, d, rfl⟩ := hrel
    have hkl : k < cs.length := by omega
    have c0 := HS.out (k * 9 + 0) _ (cals_get cs k 0 hkl (by omega))
    have c1 := HS.out (k * 9 + 1) _ (cals_get cs k 1 hkl (by omega))
    have c2 := HS.out (k * 9 + 2) _ (cals_get cs k 2 hkl (by omega))
    have c3 := HS.out (k * 9 + 3) _ (cals_get cs k 3 hkl (by omega))
    have c4 := HS.out (k * 9 + 4) _ (cals_get cs k 4 hkl (by omega))
    have c5 := HS.out (k * 9 + 5) _ (cals_get cs k 5 hkl (by omega))
    have c6 := HS.out (k * 9 + 6) _ (cals_get cs k 6 hkl (by omega))
    have c7 := HS.out (k * 9 + 7) _ (cals_get cs k 7 hkl (by omega))
    have c8 := HS.out (k * 9 + 8) _ (cals_get cs k 8 hkl (by omega))
    have HK := Lib.hid (show k = ci → cs[k] = c from fun e => by subst e; have := HC.out; rw [List.getElem?_eq_getElem hkl] at this; exact Option.some.inj this)
    generalize cs[k] = ck at *
    simp only [Nat.add_zero] at c0
    have hb : ((ck.th == th) = false ∧ Hid (k ≠ ci)) ∨ ((ck.th == th) = true ∧ decide (ck.beg < mv) = false ∧ Hid (k ≠ ci)) ∨ ((ck.th == th) = true ∧ decide (ck.beg < mv) = true ∧ decide (ck.en < 0) = true) ∨
        ((ck.th == th) = true ∧ decide (ck.beg < mv) = true ∧ decide (ck.en < 0) = false ∧ decide (mv ≤ ck.en) = true) ∨ ((ck.th == th) = true ∧ decide (ck.beg < mv) = true ∧ decide (ck.en < 0) = false ∧ decide (mv ≤ ck.en) = false ∧ Hid (k ≠ ci)) := by
      obtain ⟨q1, q2, q3⟩ := HQ.out
      by_cases a1 : ck.th = th
      · by_cases a2 : ck.beg < mv
        · by_cases a3 : ck.en < 0
          · exact .inr (.inr (.inl ⟨by simpa using a1, by simpa using a2, by simpa using a3⟩))
          · by_cases a4 : mv ≤ ck.en
            · exact .inr (.inr (.inr (.inl ⟨by simpa using a1, by simpa using a2, by simpa using a3, by simpa using a4⟩)))
            · exact .inr (.inr (.inr (.inr ⟨by simpa using a1, by simpa using a2, by simpa using a3, by simpa using a4, Lib.hid (fun e => by have := HK.out e; subst this; omega)⟩)))
        · exact .inr (.inl ⟨by simpa using a1, by simpa using a2, Lib.hid (fun e => by have := HK.out e; subst this; exact a2 q2)⟩)
      · exact .inl ⟨by simpa using a1, Lib.hid (fun e => by have := HK.out e; subst this; exact a1 q1)⟩
    rcases hb with ⟨b1, b2⟩ | ⟨b1, b2, b3⟩ | ⟨b1, b2, b3⟩ | ⟨b1, b2, b3, b4⟩ | ⟨b1, b2, b3, b4, b5⟩
    · have hne := b2.out
      go_wp2
      go_roundg (ci - (k + 1))
      case measure => omega
      case rel => exact ⟨k + 1, by omega, by omega, by go_num, RowKit.Below.more (by repeat (first | exact Below.refl _ _ | apply Below.drew | apply Below.more1 | apply Below.alloc1))⟩
    · have hne := b3.out
      go_wp2
      go_roundg (ci - (k + 1))
      case measure => omega
      case rel => exact ⟨k + 1, by omega, by omega, by go_num, RowKit.Below.more (by repeat (first | exact Below.refl _ _ | apply Below.drew | apply Below.more1 | apply Below.alloc1))⟩
    · go_wp2
      go_ret
      exact ⟨rfl, (by repeat (first | exact Below.refl _ _ | apply Below.drew | apply Below.more1 | apply Below.alloc1))⟩
    · go_wp2
      go_ret
      exact ⟨rfl, (by repeat (first | exact Below.refl _ _ | apply Below.drew | apply Below.more1 | apply Below.alloc1))⟩
    · have hne := b5.out
      go_wp2
      go_roundg (ci - (k + 1))
      case measure => omega
      case rel => exact ⟨k + 1, by omega, by omega, by go_num, RowKit.Below.more (by repeat (first | exact Below.refl _ _ | apply Below.drew | apply Below.more1 | apply Below.alloc1))⟩
end Go.Proofs.Ytbhbpfpggfcpgaa
namespace Go
open Go.RowKit
open Go.Proofs.Ytbhbpfpggfcpgaa

def mvsC (l : List Mv) : List Value := l.flatMap Mv.cells
theorem mvsC_len (l : List Mv) : (mvsC l).length = l.length * 4 := by
  induction l with
  | nil => rfl
  | cons m l ih => simp only [mvsC, List.flatMap_cons, List.length_append, List.length_cons] at ih ⊢; rw [ih]; simp [Mv.cells]; omega
theorem mvsC_get (l : List Mv) (i j : Nat) (hi : i < l.length) (hj : j < 4) : (mvsC l)[i * 4 + j]? = l[i].cells[j]? := flat_get (f := Mv.cells) (k := 4) (fun _ => rfl) l i j hi hj
theorem mvsC_app (a b : List Mv) : mvsC (a ++ b) = mvsC a ++ mvsC b := by simp [mvsC]
theorem mvsC_one (l : List Mv) : ∀ u ∈ mvsC l, u.oneCell' = true := by
  intro u hu
  simp only [mvsC, List.mem_flatMap, Mv.cells] at hu
  obtain ⟨x, _, hx⟩ := hu
  simp at hx
  rcases hx with rfl | rfl | rfl | rfl <;> rfl
theorem addr_add (b off j : Nat) : (⟨b, off, none⟩ : Addr).add j = ⟨b, off + j, none⟩ := by unfold Addr.add; split <;> simp_all
end Go
namespace Go.Proofs.Ytbhbpfpggfcpgaa
open Go.ChangeShapes Go.WideShapes Go.ChangeAt Go.RowKit Go.Shelf
theorem infoMove : (Try.prog.info? 34).map (fun i => (i.zero, i.size, i.bytes)) = some (some (.agg #[.int .i64 0, .int .i64 0, .int .i64 0, .int .i64 0]), 4, 32) := by kernel_rfl
theorem MvsIn.src {w : World} {om : Option Addr} {cm : Nat} {ms : List Mv} (h : MvsIn w (.slice om ms.length cm) ms) (hn : om = none → cm = 0) : w.Src 4 (.slice om ms.length cm) ms.length (mvsC ms) := by
  obtain ⟨o, c, e, h1, h2, h3⟩ := h
  cases e
  refine ⟨mvsC_len ms, ?_⟩
  cases om with
  | none =>
    have := hn rfl
    subst this
    have h0 : ms.length = 0 := by omega
    exact .inl ⟨by rw [h0], h0⟩
  | some ad =>
    refine .inr ⟨ad, cm, rfl, h1, fun j u hu => ?_⟩
    have hj := (List.getElem?_eq_some_iff.1 hu).1
    rw [mvsC_len] at hj
    have hi : j / 4 < ms.length := by omega
    obtain ⟨b, off, e1, hb, c0, c1, c2, c3⟩ := h3 (j / 4) hi
    cases e1
    have hjj : j = j / 4 * 4 + j % 4 := by omega
    have hr : j % 4 < 4 := Nat.mod_lt _ (by omega)
    rw [addr_add]
    rw [hjj, mvsC_get ms _ _ hi hr] at hu
    rw [hjj]
    generalize j % 4 = r at *
    generalize hq : j / 4 = q at *
    rw [← Nat.add_assoc]
    rcases (by omega : r = 0 ∨ r = 1 ∨ r = 2 ∨ r = 3) with rfl | rfl | rfl | rfl
    · cases hu; exact c0
    · cases hu; exact c1
    · cases hu; exact c2
    · cases hu; exact c3
theorem MvsIn.of_row {w : World} {base : Nat} {v : Value} {ms : List Mv} (h : w.RowV base 34 4 v ms.length (mvsC ms)) : MvsIn w v ms := by
  obtain ⟨o, c, rfl, h1, h2⟩ := h.form
  refine ⟨o, c, rfl, h1, h2, fun i hi => ?_⟩
  obtain ⟨g, cap, e, f1, f2, f3, f4, f5, f6⟩ := h.some_form (by omega)
  simp only [Value.slice.injEq] at e
  obtain ⟨rfl, _, rfl⟩ := e
  refine ⟨g, 0, rfl, f3, ?_, ?_, ?_, ?_⟩
  · rw [Nat.zero_add]; exact f6 (i * 4 + 0) _ (mvsC_get ms i 0 hi (by omega))
  · rw [Nat.zero_add]; exact f6 (i * 4 + 1) _ (mvsC_get ms i 1 hi (by omega))
  · rw [Nat.zero_add]; exact f6 (i * 4 + 2) _ (mvsC_get ms i 2 hi (by omega))
  · rw [Nat.zero_add]; exact f6 (i * 4 + 3) _ (mvsC_get ms i 3 hi (by omega))
end Go.Proofs.Ytbhbpfpggfcpgaa
namespace Go
open Go.RowKit
open Go.Proofs.Ytbhbpfpggfcpgaa

/-! lists of cells, k for each entry of these -/
theorem flat_len' {α β : Type} {f : α → List β} {k : Nat} : ∀ (l : List α), (∀ x ∈ l, (f x).length = k) → (l.flatMap f).length = l.length * k := by
  intro l
  induction l with
  | nil => intro _; simp
  | cons x l ih => intro hk; rw [List.flatMap_cons, List.length_append, hk x (by simp), ih (fun y hy => hk y (by simp [hy])), List.length_cons, Nat.add_mul]; omega
theorem flat_get' {α β : Type} {f : α → List β} {k : Nat} : ∀ (l : List α), (∀ x ∈ l, (f x).length = k) → ∀ (i j : Nat) (hi : i < l.length), j < k → (l.flatMap f)[i * k + j]? = (f l[i])[j]? := by
  intro l
  induction l with
  | nil => intro _ i j hi; simp at hi
  | cons x l ih =>
    intro hk i j hi hj
    have hx := hk x (by simp)
    rw [List.flatMap_cons]
    cases i with
    | zero => rw [List.getElem?_append_left (by rw [hx]; omega)]; simp
    | succ i =>
      rw [List.getElem?_append_right (by rw [hx, Nat.add_mul]; omega), hx, show (i + 1) * k + j - k = i * k + j by rw [Nat.add_mul]; omega, ih (fun y hy => hk y (by simp [hy])) i j (by simpa using hi) hj]
      simp
theorem flat_set' {α β : Type} {f : α → List β} {k : Nat} (y : α) (u : β) : ∀ (l : List α), (∀ x ∈ l, (f x).length = k) → ∀ (i j : Nat) (hi : i < l.length), j < k → f y = (f l[i]).set j u → (l.flatMap f).set (i * k + j) u = (l.set i y).flatMap f := by
  intro l
  induction l with
  | nil => intro _ i j hi; simp at hi
  | cons x l ih =>
    intro hk i j hi hj hy
    have hx := hk x (by simp)
    rw [List.flatMap_cons]
    cases i with
    | zero =>
      rw [List.set_append_left _ _ (by rw [hx]; omega)]
      simp only [List.getElem_cons_zero, Nat.zero_mul, Nat.zero_add, List.set_cons_zero, List.flatMap_cons] at hy ⊢
      rw [hy]
    | succ i =>
      rw [List.set_append_right _ _ (by rw [hx, Nat.add_mul]; omega), hx, show (i + 1) * k + j - k = i * k + j by rw [Nat.add_mul]; omega, ih (fun y hy => hk y (by simp [hy])) i j (by simpa using hi) hj (by simpa using hy)]
      simp

structure Ins where
  kd : Int
  a : Int
  b : Int
  c : Int
  d : Int
  tgt : Int
deriving DecidableEq, Inhabited
def Ins.cells (i : Ins) : List Value := [.int .i64 i.kd, .int .i64 i.a, .int .i64 i.b, .int .i64 i.c, .int .i64 i.d, .int .i64 i.tgt]
def Ins.v (i : Ins) : Value := .agg #[.int .i64 i.kd, .int .i64 i.a, .int .i64 i.b, .int .i64 i.c, .int .i64 i.d, .int .i64 i.tgt]
structure Ent where
  op : Int
  lb : Int
  nd : Int
deriving DecidableEq, Inhabited
def Ent.cells (i : Ent) : List Value := [.int .i64 i.op, .int .i64 i.lb, .int .i64 i.nd]

/-- a thread -/
structure RT where
  busy : Bool
  call : Int
  pos : Int
  r : List Int
  vback : Value
  vcache : Value
  rc : Int
  vnames : Value
  vpend : Value
  kept : List Int
  vbag : Value
  vsince : Value
def RT.cells (t : RT) : List Value := .bool t.busy :: .int .i64 t.call :: .int .i64 t.pos :: (u64s t.r ++ (t.vback :: t.vcache :: .int .i64 t.rc :: t.vnames :: t.vpend :: (u64s t.kept ++ [t.vbag, t.vsince])))
def RT.ok (t : RT) : Prop := t.r.length = 48 ∧ t.kept.length = 600
theorem RT.len {t : RT} (h : t.ok) : t.cells.length = 658 := by simp [RT.cells, u64s, h.1, h.2]
theorem RT.c0 (t : RT) : t.cells[0]? = some (.bool t.busy) := rfl
theorem RT.c1 (t : RT) : t.cells[1]? = some (.int .i64 t.call) := rfl
theorem RT.c2 (t : RT) : t.cells[2]? = some (.int .i64 t.pos) := rfl
theorem RT.cr {t : RT} (h : t.ok) (i : Nat) (hi : i < 48) : t.cells[3 + i]? = some (.int .u64 (t.r.getD i 0)) := by
  have hl : i < t.r.length := by rw [h.1]; exact hi
  unfold RT.cells
  rw [show 3 + i = i + 1 + 1 + 1 by omega]
  simp only [List.getElem?_cons_succ]
  rw [List.getElem?_append_left (by simp [u64s]; exact hl)]
  simp [u64s, hl]
theorem RT.set0 (t : RT) (b : Bool) : { t with busy := b }.cells = t.cells.set 0 (.bool b) := rfl
theorem RT.set1 (t : RT) (x : Int) : { t with call := x }.cells = t.cells.set 1 (.int .i64 x) := rfl
theorem RT.set2 (t : RT) (x : Int) : { t with pos := x }.cells = t.cells.set 2 (.int .i64 x) := rfl
theorem RT.setr {t : RT} (h : t.ok) (i : Nat) (hi : i < 48) (x : Int) : { t with r := t.r.set i x }.cells = t.cells.set (3 + i) (.int .u64 x) := by
  have hl : i < t.r.length := by rw [h.1]; exact hi
  unfold RT.cells
  rw [show 3 + i = i + 1 + 1 + 1 by omega]
  simp only [List.set_cons_succ]
  rw [List.set_append_left _ _ (by simp [u64s]; exact hl)]
  simp [u64s, List.map_set]
theorem RT.setback {t : RT} (h : t.ok) (x : Value) : { t with vback := x }.cells = t.cells.set 51 x := by
  unfold RT.cells
  rw [show 51 = 48 + 1 + 1 + 1 by omega]
  simp only [List.set_cons_succ]
  rw [List.set_append_right _ _ (by simp [u64s, h.1])]
  simp [u64s, h.1]
def rts (l : List RT) : List Value := l.flatMap RT.cells

structure RM where
  c0 : Int
  c1 : Int
  c2 : Int
  c3 : Int
  c4 : Int
  c5 : Int
  c6 : Int
  words : List Int
  code : List Ins
  labels : List Int
  ents : List Ent
  T : List RT
  states : List Int
  holders : List Int
  lists : List Value
  moves : Int
  calls : List Cal
  trace : List Acc
  shifts : List Shf
def ints (l : List Int) : List Value := l.map (Value.int .i64)
/-- the rows: words, code, labels, entries, threads, states, holders, lists, calls, trace, shifts -/
def RM.xs (m : RM) : Nat → List Value
  | 0 => u64s m.words
  | 1 => m.code.flatMap Ins.cells
  | 2 => ints m.labels
  | 3 => m.ents.flatMap Ent.cells
  | 4 => rts m.T
  | 5 => ints m.states
  | 6 => ints m.holders
  | 7 => m.lists
  | 8 => cals m.calls
  | 9 => accs m.trace
  | _ => shfs m.shifts
def RM.len (m : RM) : Nat → Nat
  | 0 => m.words.length
  | 1 => m.code.length
  | 2 => m.labels.length
  | 3 => m.ents.length
  | 4 => m.T.length
  | 5 => m.states.length
  | 6 => m.holders.length
  | 7 => m.lists.length
  | 8 => m.calls.length
  | 9 => m.trace.length
  | _ => m.shifts.length
def rmTy : Nat → TypeId
  | 0 => 27
  | 1 => 143
  | 2 => 3
  | 3 => 145
  | 4 => 149
  | 5 => 107
  | 6 => 3
  | 7 => 70
  | 8 => 63
  | 9 => 66
  | _ => 132
def rmSz : Nat → Nat
  | 1 => 6
  | 3 => 3
  | 4 => 658
  | 8 => 9
  | 9 => 7
  | 10 => 5
  | _ => 1
structure RMV where
  row : Nat → Value
  col : Nat → Nat
def RM.blk (m : RM) (r : Nat → Value) : Array Value :=
  #[.int .i64 m.c0, .int .i64 m.c1, .int .i64 m.c2, .int .i64 m.c3, .int .i64 m.c4, .int .i64 m.c5, .int .i64 m.c6, r 0, r 1, r 2, r 3, r 4, r 5, r 6, r 7,
    .int .u64 0, .int .u64 0, .int .u64 0, .int .u64 0, .int .u64 0, .int .u64 0, .int .u64 0, .int .u64 0, .int .i64 m.moves, r 8, r 9, r 10]
def RMV.own (v : RMV) (mb k : Nat) : Prop := k = mb ∨ ∃ i, i < 11 ∧ (v.row i).rowBlock = some k

structure RMAt (w : World) (base mb : Nat) (m : RM) (v : RMV) : Prop where
  blk : w.heap[mb]? = some (.cells (m.blk v.row) 88 (0, 0))
  ge : base ≤ mb
  rows : ∀ i, i < 11 → w.RowV base (rmTy i) (rmSz i) (v.row i) (m.len i) (m.xs i)
  cm : v.col mb = 0
  cr : ∀ i, i < 11 → ∀ k, (v.row i).rowBlock = some k → v.col k = i + 1
  tok : ∀ t ∈ m.T, t.ok

section
variable {w w' : World} {base mb : Nat} {m m' : RM} {v : RMV}
theorem RMAt.lt (h : RMAt w base mb m v) : ∀ k, v.own mb k → base ≤ k ∧ k < w.heap.size := by
  rintro k (rfl | ⟨i, hi, hk⟩)
  · exact ⟨h.ge, (Array.getElem?_eq_some_iff.1 h.blk).1⟩
  · exact (h.rows i hi).lt k hk
theorem RMAt.of_block (h : RMAt w base mb m v) (hb : ∀ k, v.own mb k → w'.heap[k]? = w.heap[k]?) : RMAt w' base mb m v :=
  ⟨by rw [hb mb (.inl rfl)]; exact h.blk, h.ge, fun i hi => (h.rows i hi).of_block fun k hk => hb k (.inr ⟨i, hi, hk⟩), h.cm, h.cr, h.tok⟩
theorem RMAt.more (h : RMAt w base mb m v) (os : Array Obj) (d : Nat) : RMAt (w.more os d) base mb m v := h.of_block fun k hk => World.heap_more _ _ _ _ (h.lt k hk).2
theorem RMAt.alloc (h : RMAt w base mb m v) (o : Obj) : RMAt (w.alloc o) base mb m v := h.of_block fun k hk => Below.heap_alloc _ _ _ (h.lt k hk).2
theorem RMAt.drew (h : RMAt w base mb m v) : RMAt w.drew base mb m v := h.of_block fun _ _ => rfl
theorem RMAt.set_other (h : RMAt w base mb m v) {p : Addr} (hp : ¬ v.own mb p.block) (u : Value) : RMAt (w.setCell p u) base mb m v :=
  h.of_block fun _k hk => Below.heap_setCell _ _ _ _ (fun e => hp (e ▸ hk))
theorem RMAt.only {F : Nat → Prop} (h : RMAt w base mb m v) (ho : Only F w w') (hF : ∀ k, v.own mb k → ¬ F k) : RMAt w' base mb m v :=
  h.of_block fun k hk => ho.block k (h.lt k hk).2 (hF k hk)
/-- the machine's own block is no row's -/
theorem RMAt.apart (h : RMAt w base mb m v) {i : Nat} (hi : i < 11) {k : Nat} (hk : (v.row i).rowBlock = some k) : k ≠ mb := fun e => by
  have := h.cr i hi k hk; rw [e, h.cm] at this; omega
theorem RMAt.apart2 (h : RMAt w base mb m v) {i j : Nat} (hi : i < 11) (hj : j < 11) (hij : i ≠ j) {k k' : Nat} (hk : (v.row i).rowBlock = some k) (hk' : (v.row j).rowBlock = some k') : k ≠ k' := fun e => by
  subst e
  have h1 := h.cr i hi k hk
  have h2 := h.cr j hj k hk'
  omega
/-- a cell of a row -/
theorem RMAt.putRow (h : RMAt w base mb m v) {i g : Nat} (hi : i < 11) (hg : (v.row i).rowBlock = some g) (j : Nat) (hj : j < m.len i * rmSz i) (u : Value) (hb : m'.blk v.row = m.blk v.row)
    (hlen : ∀ k, k < 11 → m'.len k = m.len k) (hx : m'.xs i = (m.xs i).set j u) (ho : ∀ k, k < 11 → k ≠ i → m'.xs k = m.xs k) (ht : ∀ t ∈ m'.T, t.ok) : RMAt (w.setCell ⟨g, j, none⟩ u) base mb m' v := by
  refine ⟨?_, h.ge, fun k hk => ?_, h.cm, h.cr, ht⟩
  · rw [Below.heap_setCell _ _ _ _ (Ne.symm (h.apart hi hg)), hb]; exact h.blk
  · rw [hlen k hk]
    by_cases e : k = i
    · subst e
      rw [hx]
      exact (h.rows k hk).put hg j hj u
    · rw [ho k hk e]
      exact (h.rows k hk).set (fun b hb' e2 => h.apart2 hk hi e hb' hg e2) u
/-- a cell of the machine's own -/
theorem RMAt.putBlk {v' : RMV} (h : RMAt w base mb m v) {j : Nat} {u : Value} (hb : (m.blk v.row).setIfInBounds j u = m'.blk v'.row)
    (hr : ∀ i, i < 11 → (w.setCell ⟨mb, j, none⟩ u).RowV base (rmTy i) (rmSz i) (v'.row i) (m'.len i) (m'.xs i)) (cm : v'.col mb = 0) (cr : ∀ i, i < 11 → ∀ k, (v'.row i).rowBlock = some k → v'.col k = i + 1) (ht : ∀ t ∈ m'.T, t.ok) :
    RMAt (w.setCell ⟨mb, j, none⟩ u) base mb m' v' :=
  ⟨by simp [World.setCell, Array.getElem?_modify, h.blk, hb], h.ge, hr, cm, cr, ht⟩
theorem RMAt.head (h : RMAt w base mb m v) (j : Nat) (u : Value) (hj : (m.blk v.row)[j]? = some u) : w.cell? ⟨mb, j, none⟩ = some u := by
  simp [World.cell?, h.blk, hj]
theorem RMAt.frozen (h : RMAt w base mb m v) (j : Nat) : w.frozen? ⟨mb, j, none⟩ = false := by simp [World.frozen?, h.blk]
end

/-- what a method leaves: the rows up to the lists stay where they are -/
def ROut (w : World) (base mb : Nat) (v : RMV) (m' : RM) (w' : World) : Prop :=
  ∃ v', RMAt w' base mb m' v' ∧ Only (v.own mb) w w' ∧ (∀ k, v'.own mb k → v.own mb k ∨ w.heap.size ≤ k) ∧ ∀ j, j < 8 → v'.row j = v.row j
section
variable {w w1 w2 : World} {base mb : Nat} {m m1 m2 : RM} {v v1 : RMV}
theorem ROut.refl (h : RMAt w base mb m v) : ROut w base mb v m w := ⟨v, h, Only.refl _ _, fun _ hk => .inl hk, fun _ _ => rfl⟩
theorem ROut.trans (h : ROut w base mb v m1 w1) (k : ∀ v1, RMAt w1 base mb m1 v1 → (∀ j, j < 8 → v1.row j = v.row j) → ROut w1 base mb v1 m2 w2) : ROut w base mb v m2 w2 := by
  obtain ⟨v1, h1, h2, h3, h4⟩ := h
  obtain ⟨v2, k1, k2, k3, k4⟩ := k v1 h1 h4
  refine ⟨v2, k1, h2.trans k2 h3, fun i hi => ?_, fun j hj => (k4 j hj).trans (h4 j hj)⟩
  rcases k3 i hi with h4 | h4
  · exact h3 i h4
  · have := h2.size; exact .inr (by omega)
theorem ROut.post (h : ROut w base mb v m1 w1) (hb : Only (fun _ => False) w1 w2) : ROut w base mb v m1 w2 := by
  obtain ⟨v1, h1, h2, h3, h4⟩ := h
  exact ⟨v1, h1.only hb (fun _ _ x => x), h2.trans hb (fun _ x => x.elim), h3, h4⟩
theorem ROut.pre {w0 : World} (hb : Only (fun _ => False) w0 w) (h : ROut w base mb v m1 w1) : ROut w0 base mb v m1 w1 := by
  obtain ⟨v1, h1, h2, h3, h5⟩ := h
  refine ⟨v1, h1, ?_, fun i hi => ?_, h5⟩
  · exact ⟨h2.os.trans hb.os, h2.tape.trans hb.tape, h2.output.trans hb.output, Nat.le_trans hb.size h2.size, fun k hk hn => (h2.block k (Nat.lt_of_lt_of_le hk hb.size) hn).trans (hb.block k hk (fun x => x))⟩
  · rcases h3 i hi with h4 | h4
    · exact .inl h4
    · have := hb.size; exact .inr (by omega)
end

/-! the rows' cells -/
section
variable {w : World} {base mb : Nat} {m : RM} {v : RMV}
theorem RMAt.b7 (h : RMAt w base mb m v) : w.cell? ⟨mb, 7, none⟩ = some (v.row 0) := h.head 7 _ rfl
theorem RMAt.b8 (h : RMAt w base mb m v) : w.cell? ⟨mb, 8, none⟩ = some (v.row 1) := h.head 8 _ rfl
theorem RMAt.b9 (h : RMAt w base mb m v) : w.cell? ⟨mb, 9, none⟩ = some (v.row 2) := h.head 9 _ rfl
theorem RMAt.b10 (h : RMAt w base mb m v) : w.cell? ⟨mb, 10, none⟩ = some (v.row 3) := h.head 10 _ rfl
theorem RMAt.b11 (h : RMAt w base mb m v) : w.cell? ⟨mb, 11, none⟩ = some (v.row 4) := h.head 11 _ rfl
theorem RMAt.b12 (h : RMAt w base mb m v) : w.cell? ⟨mb, 12, none⟩ = some (v.row 5) := h.head 12 _ rfl
theorem RMAt.b13 (h : RMAt w base mb m v) : w.cell? ⟨mb, 13, none⟩ = some (v.row 6) := h.head 13 _ rfl
theorem RMAt.b14 (h : RMAt w base mb m v) : w.cell? ⟨mb, 14, none⟩ = some (v.row 7) := h.head 14 _ rfl
theorem RMAt.b24 (h : RMAt w base mb m v) : w.cell? ⟨mb, 24, none⟩ = some (v.row 8) := h.head 24 _ rfl
theorem RMAt.b25 (h : RMAt w base mb m v) : w.cell? ⟨mb, 25, none⟩ = some (v.row 9) := h.head 25 _ rfl
theorem RMAt.b26 (h : RMAt w base mb m v) : w.cell? ⟨mb, 26, none⟩ = some (v.row 10) := h.head 26 _ rfl
theorem RMAt.b23 (h : RMAt w base mb m v) : w.cell? ⟨mb, 23, none⟩ = some (.int .i64 m.moves) := h.head 23 _ rfl
theorem RMAt.b0 (h : RMAt w base mb m v) : w.cell? ⟨mb, 0, none⟩ = some (.int .i64 m.c0) := h.head 0 _ rfl
theorem RMAt.b1 (h : RMAt w base mb m v) : w.cell? ⟨mb, 1, none⟩ = some (.int .i64 m.c1) := h.head 1 _ rfl
theorem RMAt.b2 (h : RMAt w base mb m v) : w.cell? ⟨mb, 2, none⟩ = some (.int .i64 m.c2) := h.head 2 _ rfl
theorem RMAt.b3 (h : RMAt w base mb m v) : w.cell? ⟨mb, 3, none⟩ = some (.int .i64 m.c3) := h.head 3 _ rfl
theorem RMAt.b4 (h : RMAt w base mb m v) : w.cell? ⟨mb, 4, none⟩ = some (.int .i64 m.c4) := h.head 4 _ rfl
theorem RMAt.b5 (h : RMAt w base mb m v) : w.cell? ⟨mb, 5, none⟩ = some (.int .i64 m.c5) := h.head 5 _ rfl
theorem RMAt.b6 (h : RMAt w base mb m v) : w.cell? ⟨mb, 6, none⟩ = some (.int .i64 m.c6) := h.head 6 _ rfl
theorem RMAt.row (h : RMAt w base mb m v) {i : Nat} (hi : i < 11) (hn : 0 < m.len i) : ∃ g cap, v.row i = .slice (some ⟨g, 0, none⟩) (m.len i) cap ∧ m.len i ≤ cap ∧ cap ≤ maxLen ∧ base ≤ g ∧ g < w.heap.size ∧ (v.row i).rowBlock = some g ∧ (∀ j, w.frozen? ⟨g, j, none⟩ = false) ∧ (∀ j u, (m.xs i)[j]? = some u → w.cell? ⟨g, j, none⟩ = some u) ∧ g ≠ mb := by
  obtain ⟨g, cap, e, f1, f2, f3, f4, f5, f6⟩ := (h.rows i hi).some_form hn
  obtain ⟨o, c, e2, _, h2⟩ := (h.rows i hi).form
  have hc : c = cap := by rw [e] at e2; cases e2; rfl
  subst hc
  exact ⟨g, c, e, f1, h2, f2, f3, f4, f5, f6, h.apart hi f4⟩
theorem rts_get {l : List RT} (hok : ∀ t ∈ l, t.ok) (i j : Nat) (hi : i < l.length) (hj : j < 658) : (rts l)[i * 658 + j]? = l[i].cells[j]? := flat_get' l (fun t ht => RT.len (hok t ht)) i j hi hj
theorem rts_set {l : List RT} (hok : ∀ t ∈ l, t.ok) (i j : Nat) (hi : i < l.length) (hj : j < 658) (y : RT) (u : Value) (h : y.cells = l[i].cells.set j u) : (rts l).set (i * 658 + j) u = rts (l.set i y) := flat_set' y u l (fun t ht => RT.len (hok t ht)) i j hi hj h
theorem code_get (l : List Ins) (i j : Nat) (hi : i < l.length) (hj : j < 6) : (l.flatMap Ins.cells)[i * 6 + j]? = l[i].cells[j]? := flat_get (f := Ins.cells) (k := 6) (fun _ => rfl) l i j hi hj
theorem ents_get (l : List Ent) (i j : Nat) (hi : i < l.length) (hj : j < 3) : (l.flatMap Ent.cells)[i * 3 + j]? = l[i].cells[j]? := flat_get (f := Ent.cells) (k := 3) (fun _ => rfl) l i j hi hj
/-- where a thread lies -/
theorem RMAt.thr (h : RMAt w base mb m v) {i : Nat} (hi : i < m.T.length) : ∃ g cap, v.row 4 = .slice (some ⟨g, 0, none⟩) m.T.length cap ∧ m.T.length ≤ cap ∧ cap ≤ maxLen ∧ base ≤ g ∧ g < w.heap.size ∧ (v.row 4).rowBlock = some g ∧ (∀ j, w.frozen? ⟨g, j, none⟩ = false) ∧ (∀ j u, j < 658 → m.T[i].cells[j]? = some u → w.cell? ⟨g, i * 658 + j, none⟩ = some u) ∧ g ≠ mb := by
  obtain ⟨g, cap, e, f1, f2, f3, f4, f5, f6, f7, f8⟩ := h.row (i := 4) (by omega) (show 0 < m.T.length by omega)
  refine ⟨g, cap, e, f1, f2, f3, f4, f5, f6, fun j u hj hu => f7 _ u ?_, f8⟩
  exact (rts_get h.tok i j hi hj).trans hu
theorem ok_set {l : List RT} (hok : ∀ t ∈ l, t.ok) (i : Nat) {y : RT} (hy : y.ok) : ∀ t ∈ l.set i y, t.ok := by
  intro t ht
  rcases List.mem_or_eq_of_mem_set ht with h | rfl
  · exact hok t h
  · exact hy
/-- a thread's cell is written -/
theorem RMAt.putT (h : RMAt w base mb m v) {g i j : Nat} (hg : (v.row 4).rowBlock = some g) (hi : i < m.T.length) (hj : j < 658) (y : RT) (hy : y.ok) (u : Value) (hc : y.cells = m.T[i].cells.set j u) :
    RMAt (w.setCell ⟨g, i * 658 + j, none⟩ u) base mb { m with T := m.T.set i y } v := by
  refine h.putRow (i := 4) (by omega) hg _ (by show _ < m.T.length * 658; have : i + 1 ≤ m.T.length := hi; have := Nat.mul_le_mul_right 658 this; omega) u rfl ?_ ?_ ?_ (ok_set h.tok i hy)
  · intro k hk
    match k, hk with
    | 4, _ => simp [RM.len]
    | 0, _ | 1, _ | 2, _ | 3, _ | 5, _ | 6, _ | 7, _ | 8, _ | 9, _ | 10, _ => rfl
  · exact (rts_set h.tok i j hi hj y u hc).symm
  · intro k hk hne
    match k, hk with
    | 4, _ => exact absurd rfl hne
    | 0, _ | 1, _ | 2, _ | 3, _ | 5, _ | 6, _ | 7, _ | 8, _ | 9, _ | 10, _ => rfl
/-- a call's cell is written -/
theorem RMAt.putC (h : RMAt w base mb m v) {g i j : Nat} (hg : (v.row 8).rowBlock = some g) (hi : i < m.calls.length) (hj : j < 9) (y : Cal) (u : Value) (hc : y.cells = m.calls[i].cells.set j u) :
    RMAt (w.setCell ⟨g, i * 9 + j, none⟩ u) base mb { m with calls := m.calls.set i y } v := by
  refine h.putRow (i := 8) (by omega) hg _ (by show _ < m.calls.length * 9; have : i + 1 ≤ m.calls.length := hi; have := Nat.mul_le_mul_right 9 this; omega) u rfl ?_ ?_ ?_ h.tok
  · intro k hk
    match k, hk with
    | 8, _ => simp [RM.len]
    | 0, _ | 1, _ | 2, _ | 3, _ | 4, _ | 5, _ | 6, _ | 7, _ | 9, _ | 10, _ => rfl
  · exact (cals_set m.calls i j hi hj y u hc).symm
  · intro k hk hne
    match k, hk with
    | 8, _ => exact absurd rfl hne
    | 0, _ | 1, _ | 2, _ | 3, _ | 4, _ | 5, _ | 6, _ | 7, _ | 9, _ | 10, _ => rfl
/-- a word is written -/
theorem RMAt.putW (h : RMAt w base mb m v) {g i : Nat} (hg : (v.row 0).rowBlock = some g) (hi : i < m.words.length) (x : Int) : RMAt (w.setCell ⟨g, i, none⟩ (.int .u64 x)) base mb { m with words := m.words.set i x } v := by
  refine h.putRow (i := 0) (by omega) hg _ (by show _ < m.words.length * 1; omega) _ rfl ?_ ?_ ?_ h.tok
  · intro k hk
    match k, hk with
    | 0, _ => simp [RM.len]
    | 4, _ | 1, _ | 2, _ | 3, _ | 5, _ | 6, _ | 7, _ | 8, _ | 9, _ | 10, _ => rfl
  · simp [RM.xs, u64s, List.map_set]
  · intro k hk hne
    match k, hk with
    | 0, _ => exact absurd rfl hne
    | 4, _ | 1, _ | 2, _ | 3, _ | 5, _ | 6, _ | 7, _ | 8, _ | 9, _ | 10, _ => rfl
end
end Go
