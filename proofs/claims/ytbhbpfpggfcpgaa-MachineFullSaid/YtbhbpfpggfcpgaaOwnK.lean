/-
machine: the kit of the machine's own calls, as a kit of tasks (ownK), and Own.
-/
import Derived.Test.YtbhbpfpggfcpgaaOwnA
import Derived.Laws.EntriesVeiled
namespace Go
open Go.RowKit
theorem heap_alloc_at {W : World} {o : Obj} {k : Nat} (h : W.heap.size = k) : (W.alloc o).heap[k]? = some o := by subst h; exact heap_alloc_new W o
inductive Tk where
  | look (a : Int)
  | bump (a saw : Int) (ld : Bool)
deriving DecidableEq
def Tk.step (t : Tk) (d : DeskS) : Tk × DeskS × Bool := match t with
  | .look a => (.look a, (d.load a).tell (d.word a), true)
  | .bump a _ false => (.bump a (d.word a) true, d.load a, false)
  | .bump a saw true => if d.swaps a saw then (.bump a saw true, (d.swap a saw (IntKind.u64.wrap (saw + 1))).tell saw, true) else (.bump a saw false, d.swap a saw (IntKind.u64.wrap (saw + 1)), false)
def ownMake (size : Int) (mv : Mv) : Option Tk := if (decide (0 ≤ mv.arg) && decide (mv.arg < size)) = true then (if mv.op = 1 then some (.look mv.arg) else if mv.op = 2 then some (.bump mv.arg 0 false) else none) else none
def Tk.val (t : Tk) (k : Nat) : Value := match t with
  | .look _ => .iface 119 (.pointer (some ⟨k, 0, none⟩))
  | .bump _ _ _ => .iface 123 (.pointer (some ⟨k, 0, none⟩))
def Tk.obj (t : Tk) : Obj := match t with
  | .look a => .cells #[.int .i64 a] 121
  | .bump a saw ld => .cells #[.int .i64 a, .int .u64 saw, .bool ld] 125
def ownEs (tb : Nat) : Array MapEntry := #[⟨.int .i64 1, .func (.func 51) #[] #[.pointer (some ⟨tb, 0, none⟩)], 0⟩, ⟨.int .i64 2, .func (.func 52) #[] #[.pointer (some ⟨tb, 0, none⟩)], 1⟩]

/-- the kit's blocks: the map, the closure's variables -/
structure KitAt (w : World) (b : Nat) (size : Int) (kit : Value) (kb sb tb : Nat) : Prop where
  kit : kit = .map (some kb)
  map : w.heap[kb]? = some (.map (ownEs tb) 2)
  sz : w.heap[sb]? = some (.cells #[.int .i64 size] 3)
  fn : w.heap[tb]? = some (.cells #[.func (.func 50) #[] #[.pointer (some ⟨sb, 0, none⟩)]] 92)
  k0 : b ≤ kb
  s0 : b ≤ sb
  t0 : b ≤ tb

structure OwnKAt (w : World) (b : Nat) (size : Int) (kit : Value) (vs : List Value) (ts : List (Option Tk)) (F : Nat → Prop) (kb sb tb : Nat) (col blk : Nat → Nat) : Prop where
  k : KitAt w b size kit kb sb tb
  lt : ∀ i, F i → b ≤ i ∧ i < w.heap.size
  fk : F kb
  fs : F sb
  ft : F tb
  ck : col kb = 0
  cs : col sb = 0
  ct : col tb = 0
  no : ∀ i : Nat, ts[i]? = some none → vs[i]? = some Value.nilIface
  yes : ∀ (i : Nat) (t : Tk), ts[i]? = some (some t) → vs[i]? = some (t.val (blk i)) ∧ w.heap[blk i]? = some t.obj ∧ F (blk i) ∧ col (blk i) = 1 + i

def ownK (size : Int) : Kits where
  T := Tk
  S := Unit
  At w b kit vs _ ts F := ∃ kb sb tb col blk, OwnKAt w b size kit vs ts F kb sb tb col blk
  make _ mv := ownMake size mv
  ready _ t d := ((), t, d, false)
  step _ t d := ((), (t.step d).1, (t.step d).2.1, (t.step d).2.2)

theorem load_len (m : MemS) (th : Int) (a : Nat) : (m.load th a).log.length = m.log.length + 1 ∧ (m.load th a).ahead.length = m.ahead.length + 1 := by simp [MemS.load, MemS.note]
theorem swap_len (m : MemS) (th : Int) (a : Nat) (o x : Int) : (m.swap th a o x).log.length = m.log.length + 1 ∧ (m.swap th a o x).ahead.length = m.ahead.length + 1 := by
  unfold MemS.swap
  split <;> simp [MemS.note]
theorem dload_len (d : DeskS) (a : Int) : (d.load a).mem.log.length ≤ d.mem.log.length + 1 ∧ (d.load a).mem.ahead.length ≤ d.mem.ahead.length + 1 ∧ (d.load a).shifts = d.shifts ∧ (d.load a).th = d.th ∧ (d.load a).now = d.now := by
  unfold DeskS.load
  split
  · have := load_len d.mem d.th a.toNat
    exact ⟨by simp [this.1], by simp [this.2], rfl, rfl, rfl⟩
  · exact ⟨by omega, by omega, rfl, rfl, rfl⟩
theorem dswap_len (d : DeskS) (a o x : Int) : (d.swap a o x).mem.log.length ≤ d.mem.log.length + 1 ∧ (d.swap a o x).mem.ahead.length ≤ d.mem.ahead.length + 1 ∧ (d.swap a o x).shifts = d.shifts ∧ (d.swap a o x).th = d.th ∧ (d.swap a o x).now = d.now := by
  unfold DeskS.swap
  split
  · have := swap_len d.mem d.th a.toNat o x
    exact ⟨by simp [this.1], by simp [this.2], rfl, rfl, rfl⟩
  · exact ⟨by omega, by omega, rfl, rfl, rfl⟩
theorem tstep_few (t : Tk) (d : DeskS) : (t.step d).2.1.mem.log.length ≤ d.mem.log.length + 2 ∧ (t.step d).2.1.mem.ahead.length ≤ d.mem.ahead.length + 2 ∧ (t.step d).2.1.shifts = d.shifts ∧ (t.step d).2.1.th = d.th ∧ (t.step d).2.1.now = d.now := by
  cases t with
  | look a =>
    have := dload_len d a
    exact ⟨by show (d.load a).mem.log.length ≤ _; omega, by show (d.load a).mem.ahead.length ≤ _; omega, this.2.2.1, this.2.2.2.1, this.2.2.2.2⟩
  | bump a saw ld =>
    cases ld with
    | false =>
      have := dload_len d a
      exact ⟨by show (d.load a).mem.log.length ≤ _; omega, by show (d.load a).mem.ahead.length ≤ _; omega, this.2.2.1, this.2.2.2.1, this.2.2.2.2⟩
    | true =>
      have := dswap_len d a saw (IntKind.u64.wrap (saw + 1))
      unfold Tk.step
      simp only
      split
      · exact ⟨by show (d.swap a saw _).mem.log.length ≤ _; omega, by show (d.swap a saw _).mem.ahead.length ≤ _; omega, this.2.2.1, this.2.2.2.1, this.2.2.2.2⟩
      · exact ⟨by show (d.swap a saw _).mem.log.length ≤ _; omega, by show (d.swap a saw _).mem.ahead.length ≤ _; omega, this.2.2.1, this.2.2.2.1, this.2.2.2.2⟩
end Go
namespace Go.Proofs.Ytbhbpfpggfcpgaa
open Go.ChangeShapes Go.WideShapes Go.ChangeAt Go.RowKit
theorem zeroMaker (w : World) : (zeroValue 128).run Try.prog w = .ok .nilFunc w := by kernel_rfl
theorem checkOp (e : Bool) (op : Int) (w : World) : (Instr.checkKey e 10000 32 (.int .i64 op)).run Try.prog w = .ok () w := by kernel_rfl
theorem findOp {es : List MapEntry} {op : Int} {r : Option (Nat × Value)} (hf : Instr.findNow (.int .i64) (.int .i64 op) es 0 = some r) (w : World) : (Instr.findKey 32 (.int .i64 op) es).run Try.prog w = .ok r w := by
  simp only [Instr.findKey, Sem.run_bind, run_underlying Try.underlying32, Result.andThen_ok, hf, Sem.run_pure]
theorem getMap {w : World} {kb : Nat} {es : Array MapEntry} {clk : Nat} (hb : w.heap[kb]? = some (.map es clk)) : (getObj kb).run Try.prog w = .ok (.map es clk) w := by
  simp [getObj, Sem.run, hb]
theorem setMap {W : World} {es : Array MapEntry} {clk : Nat} (o : Obj) : (setObj W.heap.size o).run Try.prog (W.alloc (.map es clk)) = .ok () (W.alloc o) := by
  have hb : (W.alloc (.map es clk)).heap[W.heap.size]? = some (.map es clk) := heap_alloc_new W _
  have e : (W.heap.push (.map es clk)).setIfInBounds W.heap.size o = W.heap.push o := by
    apply Array.ext_getElem?
    intro i
    simp only [Array.getElem?_setIfInBounds, Array.getElem?_push, Array.size_push]
    by_cases hi : i = W.heap.size
    · subst hi; simp
    · rw [if_neg (Ne.symm hi), if_neg hi, if_neg hi]
  simp only [setObj, Sem.run, hb]
  show Result.ok () { W with heap := (W.heap.push (.map es clk)).setIfInBounds W.heap.size o } = Result.ok () { W with heap := W.heap.push o }
  rw [e]
theorem own_lookup {w : World} {kb : Nat} {es : Array MapEntry} {clk : Nat} (hb : w.heap[kb]? = some (.map es clk)) (op : Int) {r : Option (Nat × Value)} (hf : Instr.findNow (.int .i64) (.int .i64 op) es.toList 0 = some r) :
    (Instr.lookup 30 (.map (some kb)) (.int .i64 op) false).run Try.prog w = .ok ((r.map (·.2)).getD .nilFunc) w := by
  simp only [Instr.lookup, Sem.run_bind, run_underlying Try.underlying30, Result.andThen_ok, getMap hb, Sem.run_pure, checkOp, findOp hf]
  cases r with
  | none => simp only [Sem.run_bind, zeroMaker, Result.andThen_ok, Sem.run_pure]; rfl
  | some x => obtain ⟨i, y⟩ := x; rfl
theorem own_insert {W : World} {es : Array MapEntry} {clk : Nat} (op : Int) (v : Value) (hf : Instr.findNow (.int .i64) (.int .i64 op) es.toList 0 = some none) :
    (Instr.mapUpdate 30 (.map (some W.heap.size)) (.int .i64 op) v).run Try.prog (W.alloc (.map es clk)) = .ok () (W.alloc (.map (es.push ⟨.int .i64 op, v, clk⟩) (clk + 1))) := by
  simp only [Instr.mapUpdate, Sem.run_bind, run_underlying Try.underlying30, Result.andThen_ok, getMap (heap_alloc_new W (.map es clk)), checkOp, findOp hf, setMap]
theorem wpList_insert {ops : Array Oper} {rest : List Oper} {o : Oper} {a : Act} {Q : Exit → Act → World → Prop} (hgd : o.guard = none) (m k x : Operand) (ho : o.op = .insert 30 m k x)
    (W w : World) (es : Array MapEntry) (clk : Nat) (hw : w = W.alloc (.map es clk)) (op : Int) (v : Value) (hm : a.eval m = .map (some W.heap.size)) (hk : a.eval k = .int .i64 op) (hx : a.eval x = v)
    (hf : Instr.findNow (.int .i64) (.int .i64 op) es.toList 0 = some none) (h : wpList Try.prog ops Q rest (a.put o.dst undef) (W.alloc (.map (es.push ⟨.int .i64 op, v, clk⟩) (clk + 1)))) : wpList Try.prog ops Q (o :: rest) a w := by
  subst hw
  refine wpList_plain hgd fun K hK => ?_
  unfold Oper.wp execOp
  simp only [ho, hm, hk, hx, Sem.run_bind, own_insert op v hf, Result.andThen_ok, Sem.run_pure]
  exact hK _ _ h

/-- what Own leaves -/
def OwnRes (w : World) (size : Int) (e : Ending) (w' : World) : Prop := ∃ kb sb tb, e = .returned (.map (some kb)) ∧ KitAt w' w.heap.size size (.map (some kb)) kb sb tb ∧ Only (fun _ => False) w w'
theorem own_at {w : World} (size : Int) : Calls Try.prog 16 #[.int .i64 size] w (OwnRes w size) := by
  have hmm := @run_makeMap Try.prog
  go_enter Try.func16, Try.ntmps16
  go_wp2_with (first
    | (refine wpList_insert rfl _ _ _ rfl ((w.alloc (.cells #[.int .i64 size] 3)).alloc (.cells #[.func (.func 50) #[] #[.pointer (some ⟨w.heap.size, 0, none⟩)]] 92)) _ #[] 0 rfl 1 (.func (.func 51) #[] #[.pointer (some ⟨w.heap.size + 1, 0, none⟩)]) (by simp [go_sem]) rfl rfl rfl ?_)
    | (refine wpList_insert rfl _ _ _ rfl ((w.alloc (.cells #[.int .i64 size] 3)).alloc (.cells #[.func (.func 50) #[] #[.pointer (some ⟨w.heap.size, 0, none⟩)]] 92)) _ #[⟨.int .i64 1, .func (.func 51) #[] #[.pointer (some ⟨w.heap.size + 1, 0, none⟩)], 0⟩] 1 rfl 2 (.func (.func 52) #[] #[.pointer (some ⟨w.heap.size + 1, 0, none⟩)]) (by simp [go_sem]) rfl rfl rfl ?_))
  go_ret
  refine ⟨w.heap.size + 1 + 1, w.heap.size, w.heap.size + 1, rfl, ⟨rfl, ?_, ?_, ?_, ?_, ?_, ?_⟩, (((Only.refl _ _).alloc _).alloc _).alloc _⟩
  · exact heap_alloc_at (by simp)
  · rw [Below.heap_alloc _ _ _ (by simp; omega), Below.heap_alloc _ _ _ (by simp)]
    exact heap_alloc_new w _
  · rw [Below.heap_alloc _ _ _ (by simp)]
    exact heap_alloc_at (by simp)
  · omega
  · exact Nat.le_refl _
  · omega

theorem ready_look (k : Nat) (xs : Array Value) (w0 : World) : (callMethod (.iface 119 (.pointer (some ⟨k, 0, none⟩))) "Ready" xs).run Try.prog w0 = .ok (.enter 107 (#[.pointer (some ⟨k, 0, none⟩)] ++ xs)) w0 := by kernel_rfl
theorem ready_bump (k : Nat) (xs : Array Value) (w0 : World) : (callMethod (.iface 123 (.pointer (some ⟨k, 0, none⟩))) "Ready" xs).run Try.prog w0 = .ok (.enter 109 (#[.pointer (some ⟨k, 0, none⟩)] ++ xs)) w0 := by kernel_rfl
theorem step_look (k : Nat) (xs : Array Value) (w0 : World) : (callMethod (.iface 119 (.pointer (some ⟨k, 0, none⟩))) "Step" xs).run Try.prog w0 = .ok (.enter 108 (#[.pointer (some ⟨k, 0, none⟩)] ++ xs)) w0 := by kernel_rfl
theorem step_bump (k : Nat) (xs : Array Value) (w0 : World) : (callMethod (.iface 123 (.pointer (some ⟨k, 0, none⟩))) "Step" xs).run Try.prog w0 = .ok (.enter 110 (#[.pointer (some ⟨k, 0, none⟩)] ++ xs)) w0 := by kernel_rfl
theorem make_look (tb : Nat) (x y : Value) (w0 : World) : (do let d ← Deferred.ofValue (.func (.func 51) #[] #[.pointer (some ⟨tb, 0, none⟩)]) #[x, y]; invoke d.target d.args : Sem Next).run Try.prog w0 = .ok (.enter 51 #[x, y, .pointer (some ⟨tb, 0, none⟩)]) w0 := by kernel_rfl
theorem make_bump (tb : Nat) (x y : Value) (w0 : World) : (do let d ← Deferred.ofValue (.func (.func 52) #[] #[.pointer (some ⟨tb, 0, none⟩)]) #[x, y]; invoke d.target d.args : Sem Next).run Try.prog w0 = .ok (.enter 52 #[x, y, .pointer (some ⟨tb, 0, none⟩)]) w0 := by kernel_rfl
end Go.Proofs.Ytbhbpfpggfcpgaa
