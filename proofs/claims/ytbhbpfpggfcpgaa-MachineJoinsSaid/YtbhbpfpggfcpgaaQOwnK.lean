/-
machine: the kit of the machine's own calls, as a kit of tasks (ownK), and Own.
machine: the own kit keeps to what a kit's tasks are asked (ownK_ok).
What always holds of a machine (PM.Good) is kept by its moves; a new machine of the own kit; machine.Run at a plain machine.
machine.Play: a run of a script of the machine's own calls.
-/
import Derived.Test.YtbhbpfpggfcpgaaQRun
import Derived.Laws.EntriesVeiled
import Derived.Test.YtbhbpfpggfcpgaaQMove
namespace Go
open Go.RowKit
theorem heap_alloc_at {W : World} {o : Obj} {k : Nat} (h : W.heap.size = k) : (W.alloc o).heap[k]? = some o := by subst h; exact heap_alloc_new W o
inductive Tk where
  | look (a : Int)
  | bump (a saw : Int) (ld : Bool)
deriving DecidableEq
def Tk.step (t : Tk) (d : DeskS) : Tk × DeskS × Bool := match t with
  | .look a => (.look a, (d.load a).tell (d.word a), true)
  | .bump a _ false => (.bump a (d.word a) true, d.load a, false)
  | .bump a saw true => if d.swaps a saw then (.bump a saw true, (d.swap a saw (IntKind.u64.wrap (saw + 1))).tell saw, true) else (.bump a saw false, d.swap a saw (IntKind.u64.wrap (saw + 1)), false)
def ownMake (size : Int) (mv : Mv) : Option Tk := if (decide (0 ≤ mv.arg) && decide (mv.arg < size)) = true then (if mv.op = 1 then some (.look mv.arg) else if mv.op = 2 then some (.bump mv.arg 0 false) else none) else none
def Tk.val (t : Tk) (k : Nat) : Value := match t with
  | .look _ => .iface 119 (.pointer (some ⟨k, 0, none⟩))
  | .bump _ _ _ => .iface 123 (.pointer (some ⟨k, 0, none⟩))
def Tk.obj (t : Tk) : Obj := match t with
  | .look a => .cells #[.int .i64 a] 121
  | .bump a saw ld => .cells #[.int .i64 a, .int .u64 saw, .bool ld] 125
def ownEs (tb : Nat) : Array MapEntry := #[⟨.int .i64 1, .func (.func 51) #[] #[.pointer (some ⟨tb, 0, none⟩)], 0⟩, ⟨.int .i64 2, .func (.func 52) #[] #[.pointer (some ⟨tb, 0, none⟩)], 1⟩]

def kitG (tb : Nat) (op : Int) : Option Value := if op = 1 then some (.func (.func 51) #[] #[.pointer (some ⟨tb, 0, none⟩)]) else if op = 2 then some (.func (.func 52) #[] #[.pointer (some ⟨tb, 0, none⟩)]) else none
theorem ownEs_reads (tb : Nat) : Reads (ownEs tb) (kitG tb) := by
  have h := (Reads.empty.push (op := 1) (.func (.func 51) #[] #[.pointer (some ⟨tb, 0, none⟩)]) 0 rfl).push (op := 2) (.func (.func 52) #[] #[.pointer (some ⟨tb, 0, none⟩)]) 1 rfl
  refine ⟨h.1, fun op => (h.2 op).trans ?_⟩
  unfold upd kitG
  by_cases h1 : op = 1
  · rw [if_pos h1, if_neg (by omega), if_pos h1]
  · rw [if_neg h1, if_neg h1]
/-- the kit's map: in whatever order its entries were laid -/
def KitHas (w : World) (kb tb : Nat) : Prop := ∃ es clk, w.heap[kb]? = some (.map es clk) ∧ Reads es (kitG tb)
theorem KitHas.of_block {w w' : World} {kb tb : Nat} (h : KitHas w kb tb) (hb : w'.heap[kb]? = w.heap[kb]?) : KitHas w' kb tb := by
  obtain ⟨es, clk, h1, h2⟩ := h
  exact ⟨es, clk, hb.trans h1, h2⟩
theorem KitHas.lt {w : World} {kb tb : Nat} (h : KitHas w kb tb) : kb < w.heap.size := by
  obtain ⟨es, clk, h1, h2⟩ := h
  exact (Array.getElem?_eq_some_iff.1 h1).1
/-- the kit's blocks: the map, the closure's variables -/
structure KitAt (w : World) (b : Nat) (size : Int) (kit : Value) (kb sb tb : Nat) : Prop where
  kit : kit = .map (some kb)
  map : KitHas w kb tb
  sz : w.heap[sb]? = some (.cells #[.int .i64 size] 3)
  fn : w.heap[tb]? = some (.cells #[.func (.func 50) #[] #[.pointer (some ⟨sb, 0, none⟩)]] 92)
  k0 : b ≤ kb
  s0 : b ≤ sb
  t0 : b ≤ tb

structure OwnKAt (w : World) (b : Nat) (size : Int) (kit : Value) (vs : List Value) (ts : List (Option Tk)) (F : Nat → Prop) (kb sb tb : Nat) (col blk : Nat → Nat) : Prop where
  k : KitAt w b size kit kb sb tb
  lt : ∀ i, F i → b ≤ i ∧ i < w.heap.size
  fk : F kb
  fs : F sb
  ft : F tb
  ck : col kb = 0
  cs : col sb = 0
  ct : col tb = 0
  no : ∀ i : Nat, ts[i]? = some none → vs[i]? = some Value.nilIface
  yes : ∀ (i : Nat) (t : Tk), ts[i]? = some (some t) → vs[i]? = some (t.val (blk i)) ∧ w.heap[blk i]? = some t.obj ∧ F (blk i) ∧ col (blk i) = 1 + i

def ownK (size : Int) : Kits where
  T := Tk
  S := Unit
  At w b kit vs _ ts F := ∃ kb sb tb col blk, OwnKAt w b size kit vs ts F kb sb tb col blk
  make _ mv := ownMake size mv
  ready _ t d := ((), t, d, false)
  step _ t d := ((), (t.step d).1, (t.step d).2.1, (t.step d).2.2)

theorem load_len (m : MemS) (th : Int) (a : Nat) : (m.load th a).log.length = m.log.length + 1 ∧ (m.load th a).ahead.length = m.ahead.length + 1 := by simp [MemS.load, MemS.note]
theorem swap_len (m : MemS) (th : Int) (a : Nat) (o x : Int) : (m.swap th a o x).log.length = m.log.length + 1 ∧ (m.swap th a o x).ahead.length = m.ahead.length + 1 := by
  unfold MemS.swap
  split <;> simp [MemS.note]
theorem dload_len (d : DeskS) (a : Int) : (d.load a).mem.log.length ≤ d.mem.log.length + 1 ∧ (d.load a).mem.ahead.length ≤ d.mem.ahead.length + 1 ∧ (d.load a).shifts = d.shifts ∧ (d.load a).th = d.th ∧ (d.load a).now = d.now := by
  unfold DeskS.load
  split
  · have := load_len d.mem d.th a.toNat
    exact ⟨by simp [this.1], by simp [this.2], rfl, rfl, rfl⟩
  · exact ⟨by omega, by omega, rfl, rfl, rfl⟩
theorem dswap_len (d : DeskS) (a o x : Int) : (d.swap a o x).mem.log.length ≤ d.mem.log.length + 1 ∧ (d.swap a o x).mem.ahead.length ≤ d.mem.ahead.length + 1 ∧ (d.swap a o x).shifts = d.shifts ∧ (d.swap a o x).th = d.th ∧ (d.swap a o x).now = d.now := by
  unfold DeskS.swap
  split
  · have := swap_len d.mem d.th a.toNat o x
    exact ⟨by simp [this.1], by simp [this.2], rfl, rfl, rfl⟩
  · exact ⟨by omega, by omega, rfl, rfl, rfl⟩
theorem tstep_few (t : Tk) (d : DeskS) : (t.step d).2.1.mem.log.length ≤ d.mem.log.length + 2 ∧ (t.step d).2.1.mem.ahead.length ≤ d.mem.ahead.length + 2 ∧ (t.step d).2.1.shifts = d.shifts ∧ (t.step d).2.1.th = d.th ∧ (t.step d).2.1.now = d.now := by
  cases t with
  | look a =>
    have := dload_len d a
    exact ⟨by show (d.load a).mem.log.length ≤ _; omega, by show (d.load a).mem.ahead.length ≤ _; omega, this.2.2.1, this.2.2.2.1, this.2.2.2.2⟩
  | bump a saw ld =>
    cases ld with
    | false =>
      have := dload_len d a
      exact ⟨by show (d.load a).mem.log.length ≤ _; omega, by show (d.load a).mem.ahead.length ≤ _; omega, this.2.2.1, this.2.2.2.1, this.2.2.2.2⟩
    | true =>
      have := dswap_len d a saw (IntKind.u64.wrap (saw + 1))
      unfold Tk.step
      simp only
      split
      · exact ⟨by show (d.swap a saw _).mem.log.length ≤ _; omega, by show (d.swap a saw _).mem.ahead.length ≤ _; omega, this.2.2.1, this.2.2.2.1, this.2.2.2.2⟩
      · exact ⟨by show (d.swap a saw _).mem.log.length ≤ _; omega, by show (d.swap a saw _).mem.ahead.length ≤ _; omega, this.2.2.1, this.2.2.2.1, this.2.2.2.2⟩
end Go
namespace Go.Proofs.Ytbhbpfpggfcpgaa
open Go.ChangeShapes Go.WideShapes Go.ChangeAt Go.RowKit
theorem zeroMaker (w : World) : (zeroValue 128).run Try.prog w = .ok .nilFunc w := by kernel_rfl
theorem checkOp (e : Bool) (op : Int) (w : World) : (Instr.checkKey e 10000 32 (.int .i64 op)).run Try.prog w = .ok () w := by kernel_rfl
theorem findOp {es : List MapEntry} {op : Int} {r : Option (Nat × Value)} (hf : Instr.findNow (.int .i64) (.int .i64 op) es 0 = some r) (w : World) : (Instr.findKey 32 (.int .i64 op) es).run Try.prog w = .ok r w := by
  simp only [Instr.findKey, Sem.run_bind, run_underlying Try.underlying32, Result.andThen_ok, hf, Sem.run_pure]
theorem getMap {w : World} {kb : Nat} {es : Array MapEntry} {clk : Nat} (hb : w.heap[kb]? = some (.map es clk)) : (getObj kb).run Try.prog w = .ok (.map es clk) w := by
  simp [getObj, Sem.run, hb]
theorem setMap {W : World} {es : Array MapEntry} {clk : Nat} (o : Obj) : (setObj W.heap.size o).run Try.prog (W.alloc (.map es clk)) = .ok () (W.alloc o) := by
  have hb : (W.alloc (.map es clk)).heap[W.heap.size]? = some (.map es clk) := heap_alloc_new W _
  have e : (W.heap.push (.map es clk)).setIfInBounds W.heap.size o = W.heap.push o := by
    apply Array.ext_getElem?
    intro i
    simp only [Array.getElem?_setIfInBounds, Array.getElem?_push, Array.size_push]
    by_cases hi : i = W.heap.size
    · subst hi; simp
    · rw [if_neg (Ne.symm hi), if_neg hi, if_neg hi]
  simp only [setObj, Sem.run, hb]
  show Result.ok () { W with heap := (W.heap.push (.map es clk)).setIfInBounds W.heap.size o } = Result.ok () { W with heap := W.heap.push o }
  rw [e]
theorem own_lookup {w : World} {kb : Nat} {es : Array MapEntry} {clk : Nat} (hb : w.heap[kb]? = some (.map es clk)) (op : Int) {r : Option (Nat × Value)} (hf : Instr.findNow (.int .i64) (.int .i64 op) es.toList 0 = some r) :
    (Instr.lookup 30 (.map (some kb)) (.int .i64 op) false).run Try.prog w = .ok ((r.map (·.2)).getD .nilFunc) w := by
  simp only [Instr.lookup, Sem.run_bind, run_underlying Try.underlying30, Result.andThen_ok, getMap hb, Sem.run_pure, checkOp, findOp hf]
  cases r with
  | none => simp only [Sem.run_bind, zeroMaker, Result.andThen_ok, Sem.run_pure]; rfl
  | some x => obtain ⟨i, y⟩ := x; rfl
theorem own_insert {W : World} {es : Array MapEntry} {clk : Nat} (op : Int) (v : Value) (hf : Instr.findNow (.int .i64) (.int .i64 op) es.toList 0 = some none) :
    (Instr.mapUpdate 30 (.map (some W.heap.size)) (.int .i64 op) v).run Try.prog (W.alloc (.map es clk)) = .ok () (W.alloc (.map (es.push ⟨.int .i64 op, v, clk⟩) (clk + 1))) := by
  simp only [Instr.mapUpdate, Sem.run_bind, run_underlying Try.underlying30, Result.andThen_ok, getMap (heap_alloc_new W (.map es clk)), checkOp, findOp hf, setMap]
theorem wpList_insert {ops : Array Oper} {rest : List Oper} {o : Oper} {a : Act} {Q : Exit → Act → World → Prop} (hgd : o.guard = none) (m k x : Operand) (ho : o.op = .insert 30 m k x)
    (W w : World) (es : Array MapEntry) (clk : Nat) (hw : w = W.alloc (.map es clk)) (op : Int) (v : Value) (hm : a.eval m = .map (some W.heap.size)) (hk : a.eval k = .int .i64 op) (hx : a.eval x = v)
    (hf : Instr.findNow (.int .i64) (.int .i64 op) es.toList 0 = some none) (h : wpList Try.prog ops Q rest (a.put o.dst undef) (W.alloc (.map (es.push ⟨.int .i64 op, v, clk⟩) (clk + 1)))) : wpList Try.prog ops Q (o :: rest) a w := by
  subst hw
  refine wpList_plain hgd fun K hK => ?_
  unfold Oper.wp execOp
  simp only [ho, hm, hk, hx, Sem.run_bind, own_insert op v hf, Result.andThen_ok, Sem.run_pure]
  exact hK _ _ h

/-- what Own leaves -/
def OwnRes (w : World) (size : Int) (e : Ending) (w' : World) : Prop := ∃ kb sb tb, e = .returned (.map (some kb)) ∧ KitAt w' w.heap.size size (.map (some kb)) kb sb tb ∧ Only (fun _ => False) w w'
/-- Own's own map, entry by entry -/
def OwnRes2 (w : World) (size : Int) (e : Ending) (w' : World) : Prop := ∃ kb sb tb, e = .returned (.map (some kb)) ∧ KitAt w' w.heap.size size (.map (some kb)) kb sb tb ∧ w'.heap[kb]? = some (.map (ownEs tb) 2) ∧ Only (fun _ => False) w w'
theorem own_exact {w : World} (size : Int) : Calls Try.prog 16 #[.int .i64 size] w (OwnRes2 w size) := by
  have hmm := @run_makeMap Try.prog
  go_enter Try.func16, Try.ntmps16
  go_wp2_with (first
    | (refine wpList_insert rfl _ _ _ rfl ((w.alloc (.cells #[.int .i64 size] 3)).alloc (.cells #[.func (.func 50) #[] #[.pointer (some ⟨w.heap.size, 0, none⟩)]] 92)) _ #[] 0 rfl 1 (.func (.func 51) #[] #[.pointer (some ⟨w.heap.size + 1, 0, none⟩)]) (by simp [go_sem]) rfl rfl rfl ?_)
    | (refine wpList_insert rfl _ _ _ rfl ((w.alloc (.cells #[.int .i64 size] 3)).alloc (.cells #[.func (.func 50) #[] #[.pointer (some ⟨w.heap.size, 0, none⟩)]] 92)) _ #[⟨.int .i64 1, .func (.func 51) #[] #[.pointer (some ⟨w.heap.size + 1, 0, none⟩)], 0⟩] 1 rfl 2 (.func (.func 52) #[] #[.pointer (some ⟨w.heap.size + 1, 0, none⟩)]) (by simp [go_sem]) rfl rfl rfl ?_))
  go_ret
  have hm : (((w.alloc (.cells #[.int .i64 size] 3)).alloc (.cells #[.func (.func 50) #[] #[.pointer (some ⟨w.heap.size, 0, none⟩)]] 92)).alloc (.map (ownEs (w.heap.size + 1)) 2)).heap[w.heap.size + 1 + 1]? = some (.map (ownEs (w.heap.size + 1)) 2) := heap_alloc_at (by simp)
  refine ⟨w.heap.size + 1 + 1, w.heap.size, w.heap.size + 1, rfl, ⟨rfl, ⟨_, _, hm, ownEs_reads _⟩, ?_, ?_, ?_, ?_, ?_⟩, hm, (((Only.refl _ _).alloc _).alloc _).alloc _⟩
  · rw [Below.heap_alloc _ _ _ (by simp; omega), Below.heap_alloc _ _ _ (by simp)]
    exact heap_alloc_new w _
  · rw [Below.heap_alloc _ _ _ (by simp)]
    exact heap_alloc_at (by simp)
  · omega
  · exact Nat.le_refl _
  · omega
theorem own_at {w : World} (size : Int) : Calls Try.prog 16 #[.int .i64 size] w (OwnRes w size) :=
  (own_exact size).mono fun _ _ ⟨kb, sb, tb, h1, h2, _, h4⟩ => ⟨kb, sb, tb, h1, h2, h4⟩

theorem ready_look (k : Nat) (xs : Array Value) (w0 : World) : (callMethod (.iface 119 (.pointer (some ⟨k, 0, none⟩))) "Ready" xs).run Try.prog w0 = .ok (.enter 107 (#[.pointer (some ⟨k, 0, none⟩)] ++ xs)) w0 := by kernel_rfl
theorem ready_bump (k : Nat) (xs : Array Value) (w0 : World) : (callMethod (.iface 123 (.pointer (some ⟨k, 0, none⟩))) "Ready" xs).run Try.prog w0 = .ok (.enter 109 (#[.pointer (some ⟨k, 0, none⟩)] ++ xs)) w0 := by kernel_rfl
theorem step_look (k : Nat) (xs : Array Value) (w0 : World) : (callMethod (.iface 119 (.pointer (some ⟨k, 0, none⟩))) "Step" xs).run Try.prog w0 = .ok (.enter 108 (#[.pointer (some ⟨k, 0, none⟩)] ++ xs)) w0 := by kernel_rfl
theorem step_bump (k : Nat) (xs : Array Value) (w0 : World) : (callMethod (.iface 123 (.pointer (some ⟨k, 0, none⟩))) "Step" xs).run Try.prog w0 = .ok (.enter 110 (#[.pointer (some ⟨k, 0, none⟩)] ++ xs)) w0 := by kernel_rfl
theorem make_look (tb : Nat) (x y : Value) (w0 : World) : (do let d ← Deferred.ofValue (.func (.func 51) #[] #[.pointer (some ⟨tb, 0, none⟩)]) #[x, y]; invoke d.target d.args : Sem Next).run Try.prog w0 = .ok (.enter 51 #[x, y, .pointer (some ⟨tb, 0, none⟩)]) w0 := by kernel_rfl
theorem make_bump (tb : Nat) (x y : Value) (w0 : World) : (do let d ← Deferred.ofValue (.func (.func 52) #[] #[.pointer (some ⟨tb, 0, none⟩)]) #[x, y]; invoke d.target d.args : Sem Next).run Try.prog w0 = .ok (.enter 52 #[x, y, .pointer (some ⟨tb, 0, none⟩)]) w0 := by kernel_rfl
end Go.Proofs.Ytbhbpfpggfcpgaa
namespace Go
open Go.RowKit
theorem Only.two {F G : Nat → Prop} {w w' : World} (h : Only F w w') (hG : ∀ k, F k → G k) : Only G w w' := h.mono fun k _ hk => hG k hk

theorem KitAt.cells {w : World} {b : Nat} {size : Int} {kit : Value} {kb sb tb : Nat} (h : KitAt w b size kit kb sb tb) : w.cell? ⟨sb, 0, none⟩ = some (.int .i64 size) ∧ w.frozen? ⟨sb, 0, none⟩ = false ∧ sb < w.heap.size ∧
    w.cell? ⟨tb, 0, none⟩ = some (.func (.func 50) #[] #[.pointer (some ⟨sb, 0, none⟩)]) ∧ w.frozen? ⟨tb, 0, none⟩ = false ∧ tb < w.heap.size :=
  ⟨by simp [World.cell?, h.sz], by simp [World.frozen?, h.sz], (Array.getElem?_eq_some_iff.1 h.sz).1, by simp [World.cell?, h.fn], by simp [World.frozen?, h.fn], (Array.getElem?_eq_some_iff.1 h.fn).1⟩
section
variable {w w' : World} {b : Nat} {size : Int} {kit : Value} {vs : List Value} {ts : List (Option Tk)} {F : Nat → Prop} {kb sb tb : Nat} {col blk : Nat → Nat}
theorem OwnKAt.of_block (h : OwnKAt w b size kit vs ts F kb sb tb col blk) (hb : ∀ k, F k → w'.heap[k]? = w.heap[k]?) : OwnKAt w' b size kit vs ts F kb sb tb col blk :=
  ⟨⟨h.k.kit, h.k.map.of_block (hb kb h.fk), by rw [hb sb h.fs]; exact h.k.sz, by rw [hb tb h.ft]; exact h.k.fn, h.k.k0, h.k.s0, h.k.t0⟩,
    fun i hi => ⟨(h.lt i hi).1, by
      have h1 := (h.lt i hi).2
      have h2 := hb i hi
      rw [Array.getElem?_eq_getElem h1] at h2
      exact (Array.getElem?_eq_some_iff.1 h2).1⟩, h.fk, h.fs, h.ft, h.ck, h.cs, h.ct, h.no, fun i t hi => by
      obtain ⟨a1, a2, a3, a4⟩ := h.yes i t hi
      exact ⟨a1, by rw [hb _ a3]; exact a2, a3, a4⟩⟩
theorem OwnKAt.drop (h : OwnKAt w b size kit vs ts F kb sb tb col blk) (i : Nat) : OwnKAt w b size kit (vs.set i .nilIface) (ts.set i none) F kb sb tb col blk := by
  refine ⟨h.k, h.lt, h.fk, h.fs, h.ft, h.ck, h.cs, h.ct, fun j hj => ?_, fun j t hj => ?_⟩
  · by_cases e : i = j
    · subst e
      rw [List.getElem?_set] at hj ⊢
      simp only [if_true] at hj ⊢
      split at hj
      · rename_i hl
        -- the list of values is as long as it must be, or the slot is none
        by_cases hv : i < vs.length
        · simp [hv]
        · exfalso
          have : ts[i]? = some (ts[i]) := List.getElem?_eq_getElem hl
          cases ht : ts[i] with
          | none =>
            have h1 := h.no i (by rw [this, ht])
            have := (List.getElem?_eq_some_iff.1 h1).1
            omega
          | some t =>
            have h1 := (h.yes i t (by rw [this, ht])).1
            have := (List.getElem?_eq_some_iff.1 h1).1
            omega
      · cases hj
    · rw [List.getElem?_set_ne e] at hj ⊢
      exact h.no j hj
  · by_cases e : i = j
    · subst e
      rw [List.getElem?_set] at hj
      simp only [if_true] at hj
      split at hj <;> cases hj
    · rw [List.getElem?_set_ne e] at hj ⊢
      exact h.yes j t hj
/-- a task's block is written -/
theorem OwnKAt.turn (h : OwnKAt w b size kit vs ts F kb sb tb col blk) {i : Nat} {t t' : Tk} (hi : ts[i]? = some (some t)) (hv : t'.val (blk i) = t.val (blk i)) (hb : ∀ k, F k → k ≠ blk i → w'.heap[k]? = w.heap[k]?) (hn : w'.heap[blk i]? = some t'.obj) :
    OwnKAt w' b size kit vs (ts.set i (some t')) F kb sb tb col blk := by
  obtain ⟨a1, a2, a3, a4⟩ := h.yes i t hi
  have hne : ∀ k, col k = 0 → k ≠ blk i := fun k hk e => by rw [e, a4] at hk; omega
  have hl : i < ts.length := (List.getElem?_eq_some_iff.1 hi).1
  refine ⟨⟨h.k.kit, h.k.map.of_block (hb kb h.fk (hne _ h.ck)), by rw [hb sb h.fs (hne _ h.cs)]; exact h.k.sz, by rw [hb tb h.ft (hne _ h.ct)]; exact h.k.fn, h.k.k0, h.k.s0, h.k.t0⟩,
    fun k hk => ⟨(h.lt k hk).1, ?_⟩, h.fk, h.fs, h.ft, h.ck, h.cs, h.ct, fun j hj => ?_, fun j u hj => ?_⟩
  · by_cases e : k = blk i
    · subst e; exact (Array.getElem?_eq_some_iff.1 hn).1
    · have h1 := (h.lt k hk).2
      have h2 := hb k hk e
      rw [Array.getElem?_eq_getElem h1] at h2
      exact (Array.getElem?_eq_some_iff.1 h2).1
  · by_cases e : i = j
    · subst e
      rw [List.getElem?_set] at hj
      simp [hl] at hj
    · rw [List.getElem?_set_ne e] at hj
      exact h.no j hj
  · by_cases e : i = j
    · subst e
      rw [List.getElem?_set] at hj
      simp only [if_true, hl, Option.some.injEq] at hj
      subst hj
      exact ⟨by rw [hv]; exact a1, hn, a3, a4⟩
    · rw [List.getElem?_set_ne e] at hj
      obtain ⟨b1, b2, b3, b4⟩ := h.yes j u hj
      have : blk j ≠ blk i := fun e2 => by rw [e2, a4] at b4; omega
      exact ⟨b1, by rw [hb _ b3 this]; exact b2, b3, b4⟩
/-- a task is laid -/
theorem OwnKAt.lay (h : OwnKAt w b size kit vs ts F kb sb tb col blk) {i k : Nat} {t : Tk} (hi : ts[i]? = some none) (ho : Only (fun _ => False) w w') (hk : w.heap.size ≤ k) (hn : w'.heap[k]? = some t.obj) (hbk : b ≤ k) :
    OwnKAt w' b size kit (vs.set i (t.val k)) (ts.set i (some t)) (fun j => F j ∨ j = k) kb sb tb (fun j => if j = k then 1 + i else col j) (fun j => if j = i then k else blk j) := by
  have hF : ∀ j, F j → w'.heap[j]? = w.heap[j]? := fun j hj => ho.block j (h.lt j hj).2 (fun x => x)
  have hFk : ∀ j, F j → j ≠ k := fun j hj e => by have := (h.lt j hj).2; omega
  have hl : i < ts.length := (List.getElem?_eq_some_iff.1 hi).1
  have hlv : i < vs.length := (List.getElem?_eq_some_iff.1 (h.no i hi)).1
  have hsz := ho.size
  refine ⟨⟨h.k.kit, h.k.map.of_block (hF kb h.fk), by rw [hF sb h.fs]; exact h.k.sz, by rw [hF tb h.ft]; exact h.k.fn, h.k.k0, h.k.s0, h.k.t0⟩,
    fun j hj => ?_, .inl h.fk, .inl h.fs, .inl h.ft, by rw [if_neg (hFk _ h.fk)]; exact h.ck, by rw [if_neg (hFk _ h.fs)]; exact h.cs, by rw [if_neg (hFk _ h.ft)]; exact h.ct, fun j hj => ?_, fun j u hj => ?_⟩
  · rcases hj with hj | rfl
    · have := h.lt j hj; exact ⟨this.1, by omega⟩
    · exact ⟨hbk, (Array.getElem?_eq_some_iff.1 hn).1⟩
  · by_cases e : i = j
    · subst e
      rw [List.getElem?_set] at hj
      simp [hl] at hj
    · rw [List.getElem?_set_ne e] at hj ⊢
      exact h.no j hj
  · by_cases e : i = j
    · subst e
      rw [List.getElem?_set] at hj
      simp only [if_true, hl, Option.some.injEq] at hj
      subst hj
      simp only [if_true]
      exact ⟨by simp [hlv], hn, by simp, trivial⟩
    · rw [List.getElem?_set_ne e] at hj ⊢
      obtain ⟨b1, b2, b3, b4⟩ := h.yes j u hj
      rw [if_neg (Ne.symm e), if_neg (hFk _ b3)]
      exact ⟨b1, by rw [hF _ b3]; exact b2, .inl b3, b4⟩
end

end Go
namespace Go.Proofs.Ytbhbpfpggfcpgaa
open Go.ChangeShapes Go.WideShapes Go.ChangeAt Go.RowKit
theorem TaskOut.ofDesk {K : Kits} (hK : KitsOk K) {w w' : World} {base xb i : Nat} {st : MachS} {v : MachV} {vs : List Value} {s : K.S} {ts : List (Option K.T)} {F : Nat → Prop} {r : K.S × K.T × DeskS × Bool} (H : MK K w base xb st v vs s ts F)
    (hd : DeskOut w base xb v { st with d := r.2.2.1 } w') (hA : K.At w' base v.kit vs r.1 (ts.set i (some r.2.1)) F) : TaskOut K w base xb st v vs ts F i r (.returned (.bool r.2.2.2)) w' := by
  obtain ⟨v1, h1, h2, h3, e1, e2, e3, e4⟩ := hd
  refine ⟨rfl, v1, F, ⟨h1, by rw [e4]; exact hA, fun k hk ho => ?_, H.tasks, by simp [H.len]⟩, h2.mono (fun k _ hk => .inl hk), h3, fun k hk => .inl hk, e1, e2, e3, e4⟩
  rcases h3 k ho with h | h
  · exact H.sep k hk h
  · have := (hK.lt H.k k hk).2; omega

theorem ownK_step (size : Int) {w : World} {base xb db : Nat} {st : MachS} {v : MachV} {vs : List Value} {ts : List (Option Tk)} {F : Nat → Prop} {ci i : Nat} {t : Tk} {y : Value} (_hK : ∀ {w w' b kit vs s ts F}, (ownK size).At w b kit vs s ts F → (∀ k, F k → w'.heap[k]? = w.heap[k]?) → (ownK size).At w' b kit vs s ts F)
    (H : MK (ownK size) w base xb st v vs () ts F) (ht : ts[i]? = some (some t)) (hy : vs[i]? = some y) (O : st.On ci i) (hf : st.d.Fits) (D : DeskBox w xb db) (n1 : ¬ v.own xb db) (_n2 : ¬ F db) :
    Runs Try.prog y "Step" #[.pointer (some ⟨db, 0, none⟩)] w (TaskOut (ownK size) w base xb st v vs ts F i ((ownK size).step () t st.d)) := by
  obtain ⟨kb, sb, tb, col, blk, hA⟩ := H.k
  obtain ⟨a1, a2, a3, a4⟩ := hA.yes i t ht
  obtain rfl : y = t.val (blk i) := by rw [hy] at a1; exact Option.some.inj a1
  have hkv : ¬ v.own xb (blk i) := H.sep _ a3
  cases t with
  | look a =>
    refine ⟨108, .pointer (some ⟨blk i, 0, none⟩), fun xs w0 => step_look _ _ _, (lstep_any H.m D O n1 hf a a2).mono ?_⟩
    rintro e w' ⟨rfl, v1, h1, h2, h3, e1, e2, e3, e4⟩
    have hb : ∀ k, F k → w'.heap[k]? = w.heap[k]? := fun k hk => h2.block k (hA.lt k hk).2 (H.sep k hk)
    refine ⟨rfl, v1, F, ⟨h1, ?_, fun k hk ho => ?_, H.tasks, (List.length_set ..).trans H.len⟩, h2.two (fun _ h => .inl h), h3, fun _ h => .inl h, e1, e2, e3, e4⟩
    · rw [e4]
      exact ⟨kb, sb, tb, col, blk, hA.turn ht rfl (fun k hk _ => hb k hk) (by rw [hb _ a3]; exact a2)⟩
    · rcases h3 k ho with h | h
      · exact H.sep k hk h
      · have := (hA.lt k hk).2; omega
  | bump a saw ld =>
    have key : ∀ (st' : MachS) (saw' : Int) (ld' over : Bool) (e : Ending) (w' : World), BumpOut w base xb (blk i) v st' a saw' ld' over e w' → (ownK size).step () (.bump a saw ld) st.d = ((), .bump a saw' ld', st'.d, over) → st' = { st with d := st'.d } →
        TaskOut (ownK size) w base xb st v vs ts F i ((ownK size).step () (.bump a saw ld) st.d) e w' := by
      rintro st' saw' ld' over e w' ⟨rfl, v1, h1, h2, h3, e1, e2, e3, e4, hk⟩ hr hst
      rw [hr]
      have hb : ∀ k, F k → k ≠ blk i → w'.heap[k]? = w.heap[k]? := fun k hk hne => h2.block k (hA.lt k hk).2 (fun x => x.elim (H.sep k hk) hne)
      refine ⟨rfl, v1, F, ⟨by rw [← hst]; exact h1, ?_, fun k hk ho => ?_, H.tasks, (List.length_set ..).trans H.len⟩, h2.two (fun k h => h.elim .inl (fun e => .inr (by rw [e]; exact a3))), h3, fun _ h => .inl h, e1, e2, e3, e4⟩
      · rw [e4]
        exact ⟨kb, sb, tb, col, blk, hA.turn (t' := .bump a saw' ld') ht rfl hb hk⟩
      · rcases h3 k ho with h | h
        · exact H.sep k hk h
        · have := (hA.lt k hk).2; omega
    cases ld with
    | false => exact ⟨110, .pointer (some ⟨blk i, 0, none⟩), fun xs w0 => step_bump _ _ _, (bstep_load H.m D n1 hf a saw a2 hkv).mono fun e w' h => key _ _ _ _ e w' h rfl rfl⟩
    | true =>
      cases hsw : st.d.swaps a saw with
      | false => exact ⟨110, .pointer (some ⟨blk i, 0, none⟩), fun xs w0 => step_bump _ _ _, (bstep_fail H.m D n1 hf a saw a2 hkv hsw).mono fun e w' h => key _ _ _ _ e w' h (by simp [ownK, Tk.step, hsw]) rfl⟩
      | true => exact ⟨110, .pointer (some ⟨blk i, 0, none⟩), fun xs w0 => step_bump _ _ _, (bstep_ok H.m D O n1 hf a saw a2 hkv hsw).mono fun e w' h => key _ _ _ _ e w' h (by simp [ownK, Tk.step, hsw]) rfl⟩

theorem ownK_ready (size : Int) {w : World} {base xb db : Nat} {st : MachS} {v : MachV} {vs : List Value} {ts : List (Option Tk)} {F : Nat → Prop} {i : Nat} {t : Tk} {y : Value}
    (H : MK (ownK size) w base xb st v vs () ts F) (ht : ts[i]? = some (some t)) (hy : vs[i]? = some y) :
    Runs Try.prog y "Ready" #[.pointer (some ⟨db, 0, none⟩)] w (TaskOut (ownK size) w base xb st v vs ts F i ((ownK size).ready () t st.d)) := by
  obtain ⟨kb, sb, tb, col, blk, hA⟩ := H.k
  obtain ⟨a1, a2, a3, a4⟩ := hA.yes i t ht
  obtain rfl : y = t.val (blk i) := by rw [hy] at a1; exact Option.some.inj a1
  have e2 : ts.set i (some t) = ts := by
    apply List.ext_getElem?
    intro j
    rw [List.getElem?_set]
    split
    · subst_vars; rw [ht]; simp [(List.getElem?_eq_some_iff.1 ht).1]
    · rfl
  have out : ∀ e w', (e = .returned (.bool false) ∧ w = w') → TaskOut (ownK size) w base xb st v vs ts F i ((ownK size).ready () t st.d) e w' := by
    rintro e w' ⟨rfl, rfl⟩
    refine ⟨rfl, v, F, ⟨H.m, ?_, H.sep, H.tasks, (List.length_set ..).trans H.len⟩, Only.refl _ _, fun _ h => .inl h, fun _ h => .inl h, rfl, rfl, rfl, rfl⟩
    show (ownK size).At w base v.kit vs () (ts.set i (some t)) F
    rw [e2]
    exact H.k
  cases t with
  | look a => exact ⟨107, .pointer (some ⟨blk i, 0, none⟩), fun xs w0 => ready_look _ _ _, (lready_any _ _ _).mono out⟩
  | bump a saw ld => exact ⟨109, .pointer (some ⟨blk i, 0, none⟩), fun xs w0 => ready_bump _ _ _, (bready_any _ _ _).mono out⟩

theorem ownK_made (size : Int) {w w' : World} {b : Nat} {kit : Value} {vs : List Value} {ts : List (Option Tk)} {F : Nat → Prop} {kb sb tb : Nat} {col blk : Nat → Nat} (hA : OwnKAt w b size kit vs ts F kb sb tb col blk) {mv : Mv} {th : Nat} (hi : ts[th]? = some none) {T : TypeId} {t : Tk} {e : Ending}
    (hv : ∀ k, t.val k = .iface T (.pointer (some ⟨k, 0, none⟩))) (hm : ownMake size mv = if (decide (0 ≤ mv.arg) && decide (mv.arg < size)) = true then some t else none) (h : OwnMade w (decide (0 ≤ mv.arg) && decide (mv.arg < size)) T t.obj e w') :
    ((ownK size).make () mv = none ∧ e = .returned .nilIface ∧ Only (fun _ => False) w w') ∨ ∃ t v F', (ownK size).make () mv = some t ∧ e = .returned v ∧ (ownK size).At w' b kit (vs.set th v) () (ts.set th (some t)) F' ∧ Only (fun _ => False) w w' ∧ ∀ k, F' k → F k ∨ w.heap.size ≤ k := by
  rcases h with ⟨h1, rfl, h3⟩ | ⟨h1, k, hk, rfl, h3, h4⟩
  · refine .inl ⟨?_, rfl, h3⟩
    show ownMake size mv = none
    rw [hm, h1]
    rfl
  · refine .inr ⟨t, t.val k, _, ?_, by rw [hv], ⟨kb, sb, tb, _, _, hA.lay hi h4 hk h3 (by have := hA.k.k0; have := (hA.lt kb hA.fk).2; omega)⟩, h4, ?_⟩
    · show ownMake size mv = some t
      rw [hm, h1]
      rfl
    · rintro j (hj | rfl)
      · exact .inl hj
      · exact .inr hk

theorem ownK_ok (size : Int) : KitsOk (ownK size) where
  loc := by
    rintro w w' b kit vs s ts F ⟨kb, sb, tb, col, blk, h⟩ hb
    exact ⟨kb, sb, tb, col, blk, h.of_block hb⟩
  lt := by
    rintro w b kit vs s ts F ⟨kb, sb, tb, col, blk, h⟩
    exact h.lt
  idle := by
    rintro w b kit vs s ts F ⟨kb, sb, tb, col, blk, h⟩
    exact h.no
  busy := by
    rintro w b kit vs s ts F ⟨kb, sb, tb, col, blk, h⟩ i t ht
    have := (h.yes i t ht).1
    cases t with
    | look a => exact ⟨_, _, this⟩
    | bump a saw ld => exact ⟨_, _, this⟩
  drop := by
    rintro w b kit vs s ts F ⟨kb, sb, tb, col, blk, h⟩ i
    exact ⟨kb, sb, tb, col, blk, h.drop i⟩
  few := by
    intro s t d
    have h := tstep_few t d
    exact ⟨by show d.mem.log.length ≤ _; omega, by show d.mem.ahead.length ≤ _; omega, by show d.shifts.length ≤ _; omega, h.1, h.2.1, by show (t.step d).2.1.shifts.length ≤ _; rw [h.2.2.1]; omega⟩
  keep := by
    intro s t d
    have h := tstep_few t d
    exact ⟨rfl, rfl, h.2.2.2.1, h.2.2.2.2⟩
  look := by
    rintro w b kit vs s ts F ⟨kb, sb, tb, col, blk, h⟩ op
    obtain rfl : kit = .map (some kb) := h.k.kit
    obtain ⟨es, clk, hmap, hrd⟩ := h.k.map
    obtain ⟨r, hfi, hfv⟩ := hrd.now op
    unfold kitG at hfv
    by_cases h1 : op = 1
    · subst h1
      rw [if_pos rfl] at hfv
      refine ⟨_, own_lookup hmap 1 hfi, .inr ⟨⟨_, _, _, by rw [hfv]; rfl⟩, ?_⟩⟩
      rw [hfv]
      intro mv th hop hth hi
      obtain ⟨c1, c2, c3, c4, c5, c6⟩ := h.k.cells
      refine ⟨51, _, fun w0 => make_look tb _ _ w0, (look_make c1 c2 c3 c4 c5 c6 mv).mono fun e w' hm => ?_⟩
      exact ownK_made size h hi (t := .look mv.arg) (fun _ => rfl) (by unfold ownMake; rw [hop]; rfl) hm
    · by_cases h2 : op = 2
      · subst h2
        rw [if_neg (by decide), if_pos rfl] at hfv
        refine ⟨_, own_lookup hmap 2 hfi, .inr ⟨⟨_, _, _, by rw [hfv]; rfl⟩, ?_⟩⟩
        rw [hfv]
        intro mv th hop hth hi
        obtain ⟨c1, c2, c3, c4, c5, c6⟩ := h.k.cells
        refine ⟨52, _, fun w0 => make_bump tb _ _ w0, (bump_make c1 c2 c3 c4 c5 c6 mv).mono fun e w' hm => ?_⟩
        exact ownK_made size h hi (t := .bump mv.arg 0 false) (fun _ => rfl) (by unfold ownMake; rw [hop]; rfl) hm
      · rw [if_neg h1, if_neg h2] at hfv
        refine ⟨_, own_lookup hmap op hfi, .inl ⟨by rw [hfv]; rfl, ?_⟩⟩
        · intro mv hop
          show ownMake size mv = none
          unfold ownMake
          rw [hop, if_neg h1, if_neg h2]
          simp
  ready_run := fun H ht hy _ _ _ _ _ => ownK_ready size H ht hy
  step_run := fun H ht hy O hf D n1 n2 => ownK_step size (by rintro w w' b kit vs s ts F ⟨kb, sb, tb, col, blk, h⟩ hb; exact ⟨kb, sb, tb, col, blk, h.of_block hb⟩) H ht hy O hf D n1 n2
end Go.Proofs.Ytbhbpfpggfcpgaa
namespace Go
open Go.RowKit
def PM.init (K : Kits) (l : List Int) (n : Nat) (s : K.S) : PM K := ⟨l, [], [], [], List.replicate n ⟨none, false, -1, 0, 0⟩, 0, [], s⟩
def PM.goes {K : Kits} (p : PM K) (ms : List Mv) : PM K := ms.foldl (fun p m => (p.move m).1) p
def PM.run {K : Kits} (p : PM K) : Go.Proofs.Ytbhbpfpggfcpgaa.RunS := ⟨p.calls, p.log, p.shifts, p.words⟩
theorem PM.goes_snoc {K : Kits} (p : PM K) (ms : List Mv) (m : Mv) : p.goes (ms ++ [m]) = ((p.goes ms).move m).1 := by simp [PM.goes, List.foldl_append]
theorem PM.goes_append {K : Kits} (p : PM K) (a b : List Mv) : p.goes (a ++ b) = (p.goes a).goes b := by simp [PM.goes, List.foldl_append]
theorem PM.Good.init (K : Kits) (l : List Int) (n : Nat) (s : K.S) (h1 : 1 ≤ n) (hn : n ≤ 1000) : (PM.init K l n s).Good := by
  refine ⟨by simp [PM.init]; omega, by simp [PM.init]; omega, by simp [PM.init], by simp [PM.init], by simp [PM.init], by simp [PM.init], by simp [PM.init], ?_, ?_⟩
  · intro i se h
    simp only [PM.init, List.getElem?_replicate] at h
    split at h
    · cases h; exact ⟨by show (-1 : Int) ≤ -1; omega, by show (-1 : Int) < _; simp [PM.init]⟩
    · cases h
  · intro i se t h ht
    simp only [PM.init, List.getElem?_replicate] at h
    split at h
    · cases h; cases ht
    · cases h
/-- which cases a move has -/
theorem PM.move_cases {K : Kits} (p : PM K) (mv : Mv) :
    (65536 ≤ p.moves ∧ p.move mv = (p, false)) ∨ (p.moves < 65536 ∧ p.move mv = (p.skip, false)) ∨
    (p.moves < 65536 ∧ ∃ (i : Nat) (se : PSeat K.T) (t : K.T), mv.th = (i : Int) ∧ p.seats[i]? = some se ∧ se.task = some t ∧ mv.op = 0 ∧ p.move mv = (p.step i se t, true)) ∨
    (p.moves < 65536 ∧ ∃ (i : Nat) (se : PSeat K.T) (t : K.T), mv.th = (i : Int) ∧ p.seats[i]? = some se ∧ se.task = none ∧ mv.op ≠ 0 ∧ K.make p.s mv = some t ∧ p.move mv = (p.begin i mv t, true)) := by
  unfold PM.move
  by_cases hf : 65536 ≤ p.moves
  · exact .inl ⟨hf, by rw [if_pos hf]⟩
  refine .inr ?_
  simp only [if_neg hf]
  by_cases h0 : mv.th < 0
  · exact .inl ⟨by omega, by rw [if_pos h0]⟩
  simp only [if_neg h0]
  cases hse : p.seats[mv.th.toNat]? with
  | none => exact .inl ⟨by omega, rfl⟩
  | some se =>
    cases hta : se.task with
    | some t =>
      by_cases hop : mv.op = 0
      · exact .inr (.inl ⟨by omega, mv.th.toNat, se, t, by omega, hse, hta, hop, by simp only [hta, if_pos hop]⟩)
      · exact .inl ⟨by omega, by simp only [hta, if_neg hop]⟩
    | none =>
      by_cases hop : mv.op = 0
      · exact .inl ⟨by omega, by simp only [hta, if_pos hop]⟩
      · cases hmk : K.make p.s mv with
        | none => exact .inl ⟨by omega, by simp only [hta, if_neg hop]⟩
        | some t => exact .inr (.inr ⟨by omega, mv.th.toNat, se, t, by omega, hse, hta, hop, rfl, by simp only [hta, if_neg hop]⟩)
theorem set_cases {α : Type} {l : List α} {i j : Nat} {a b : α} (h : (l.set i a)[j]? = some b) : (i = j ∧ a = b) ∨ l[j]? = some b := by
  rw [List.getElem?_set] at h
  split at h
  · rename_i e
    split at h
    · exact .inl ⟨e, Option.some.inj h⟩
    · cases h
  · exact .inr h
theorem PM.moves_le {K : Kits} (p : PM K) (mv : Mv) : p.moves ≤ (p.move mv).1.moves ∧ (p.move mv).1.moves ≤ p.moves + 1 := by
  rcases p.move_cases mv with ⟨_, h⟩ | ⟨_, h⟩ | ⟨_, i, se, t, _, _, _, _, h⟩ | ⟨_, i, se, t, _, _, _, _, _, h⟩
  · rw [h]; exact ⟨Nat.le_refl _, Nat.le_succ _⟩
  · rw [h]; exact ⟨Nat.le_succ _, Nat.le_refl _⟩
  · rw [h]; exact ⟨Nat.le_succ _, Nat.le_refl _⟩
  · rw [h]; exact ⟨Nat.le_succ _, Nat.le_refl _⟩
end Go
namespace Go.Proofs.Ytbhbpfpggfcpgaa
open Go.ChangeShapes Go.WideShapes Go.ChangeAt Go.RowKit

section
variable {K : Kits}
theorem few12 (hK : KitsOk K) (rdy : Bool) (s : K.S) (t : K.T) (d : DeskS) :
    (K.r2 (K.r1 rdy s t d)).2.2.1.mem.log.length ≤ d.mem.log.length + 4 ∧ (K.r2 (K.r1 rdy s t d)).2.2.1.mem.ahead.length ≤ d.mem.ahead.length + 4 ∧ (K.r2 (K.r1 rdy s t d)).2.2.1.shifts.length ≤ d.shifts.length + 8 := by
  have h1 : (K.r1 rdy s t d).2.2.1.mem.log.length ≤ d.mem.log.length + 2 ∧ (K.r1 rdy s t d).2.2.1.mem.ahead.length ≤ d.mem.ahead.length + 2 ∧ (K.r1 rdy s t d).2.2.1.shifts.length ≤ d.shifts.length + 4 := by
    cases rdy with
    | true => rw [r1_true]; exact ⟨Nat.le_add_right _ _, Nat.le_add_right _ _, Nat.le_add_right _ _⟩
    | false => rw [r1_false]; obtain ⟨a, b, c, _⟩ := hK.few s t d; exact ⟨a, b, c⟩
  generalize K.r1 rdy s t d = r at *
  unfold Kits.r2
  split
  · exact ⟨by omega, by omega, by omega⟩
  · obtain ⟨_, _, _, a, b, c⟩ := hK.few r.1 r.2.1 r.2.2.1
    exact ⟨by omega, by omega, by omega⟩

theorem PM.Good.move (hK : KitsOk K) {p : PM K} (h : p.Good) (mv : Mv) : (p.move mv).1.Good := by
  rcases p.move_cases mv with ⟨_, e⟩ | ⟨ht, e⟩ | ⟨ht, i, se, t, hi, hs, hta, hop, e⟩ | ⟨ht, i, se, t, hi, hs, hta, hop, hm, e⟩
  · rw [e]; exact h
  · rw [e]; exact h.skip ht
  · rw [e]
    have h1 := few12 hK se.ready p.s t (p.desk i se (p.calls.getD se.last.toNat default))
    have hl := h.last i se hs
    have hb := h.busy i se t hs hta
    have hd1 : (p.desk i se (p.calls.getD se.last.toNat default)).mem.log = p.log := rfl
    have hd2 : (p.desk i se (p.calls.getD se.last.toNat default)).mem.ahead = p.ahead := rfl
    have hd3 : (p.desk i se (p.calls.getD se.last.toNat default)).shifts = p.shifts := rfl
    rw [hd1, hd2, hd3] at h1
    have g1 := h.log
    have g2 := h.ahead
    have g3 := h.shifts
    have g4 := h.calls
    refine ⟨?_, ?_, ?_, ?_, ?_, ?_, ?_, ?_, ?_⟩
    · show (p.seats.set _ _).length ≤ _
      rw [List.length_set]; exact h.few
    · show 0 < (p.seats.set _ _).length
      rw [List.length_set]; exact h.pos
    · show p.moves + 1 ≤ _; omega
    · show _ ≤ 4 * (p.moves + 1); have := h1.1; unfold PM.step PM.res; simp only; omega
    · show _ ≤ 4 * (p.moves + 1); have := h1.2.1; unfold PM.step PM.res; simp only; omega
    · show _ ≤ 8 * (p.moves + 1); have := h1.2.2; unfold PM.step PM.res; simp only; omega
    · show (p.calls.set _ _).length ≤ p.moves + 1
      rw [List.length_set]; omega
    · intro j sj hj
      show -1 ≤ sj.last ∧ sj.last < ((p.calls.set _ _).length : Int)
      rw [List.length_set]
      rcases set_cases hj with ⟨_, rfl⟩ | h2
      · exact ⟨hl.1, hl.2⟩
      · exact h.last j sj h2
    · intro j sj tj hj htj
      rcases set_cases hj with ⟨_, rfl⟩ | h2
      · exact hb
      · exact h.busy j sj tj h2 htj
  · rw [e]
    have g1 := h.log
    have g2 := h.ahead
    have g3 := h.shifts
    have g4 := h.calls
    have hcl : (p.begin i mv t).calls.length = p.calls.length + 1 := by simp [PM.begin]
    refine ⟨?_, ?_, ?_, ?_, ?_, ?_, ?_, ?_, ?_⟩
    · show (p.seats.set _ _).length ≤ _
      rw [List.length_set]; exact h.few
    · show 0 < (p.seats.set _ _).length
      rw [List.length_set]; exact h.pos
    · show p.moves + 1 ≤ _; omega
    · show p.log.length ≤ 4 * (p.moves + 1); omega
    · show p.ahead.length ≤ 4 * (p.moves + 1); omega
    · show p.shifts.length ≤ 8 * (p.moves + 1); omega
    · rw [hcl]; show _ ≤ p.moves + 1; omega
    · intro j sj hj
      rw [hcl]
      rcases set_cases hj with ⟨_, rfl⟩ | h2
      · exact ⟨by show -1 ≤ (p.calls.length : Int); omega, by show (p.calls.length : Int) < _; omega⟩
      · have := h.last j sj h2; omega
    · intro j sj tj hj htj
      rcases set_cases hj with ⟨_, rfl⟩ | h2
      · show (0 : Int) ≤ p.calls.length; omega
      · exact h.busy j sj tj h2 htj
theorem PM.Good.goes (hK : KitsOk K) {p : PM K} (h : p.Good) (ms : List Mv) : (p.goes ms).Good := by
  induction ms generalizing p with
  | nil => exact h
  | cons m ms ih => exact ih (PM.Good.move hK h m)

theorem PM.words_len (hw : ∀ s t d, (K.ready s t d).2.2.1.mem.words.length = d.mem.words.length ∧ (K.step s t d).2.2.1.mem.words.length = d.mem.words.length) (p : PM K) (mv : Mv) : (p.move mv).1.words.length = p.words.length := by
  rcases p.move_cases mv with ⟨_, e⟩ | ⟨ht, e⟩ | ⟨ht, i, se, t, hi, hs, hta, hop, e⟩ | ⟨ht, i, se, t, hi, hs, hta, hop, hm, e⟩
  · rw [e]
  · rw [e]; rfl
  · rw [e]
    show (p.res i se (p.calls.getD se.last.toNat default) t).2.2.1.mem.words.length = _
    unfold PM.res
    have h1 : (K.r1 se.ready p.s t (p.desk i se (p.calls.getD se.last.toNat default))).2.2.1.mem.words.length = p.words.length := by
      cases se.ready with
      | true => rfl
      | false => rw [r1_false]; exact (hw _ _ _).1
    generalize K.r1 se.ready p.s t (p.desk i se (p.calls.getD se.last.toNat default)) = r at *
    unfold Kits.r2
    split
    · exact h1
    · exact ((hw _ _ _).2).trans h1
  · rw [e]; rfl
theorem PM.words_lens (hw : ∀ s t d, (K.ready s t d).2.2.1.mem.words.length = d.mem.words.length ∧ (K.step s t d).2.2.1.mem.words.length = d.mem.words.length) (p : PM K) (ms : List Mv) : (p.goes ms).words.length = p.words.length := by
  induction ms generalizing p with
  | nil => rfl
  | cons m ms ih => exact (ih (p.move m).1).trans (PM.words_len hw p m)

theorem pm_run {w : World} {base xb : Nat} {p : PM K} {kit : Value} {F : Nat → Prop} (hG : p.Good) (h : PMAt K w base xb p kit F) (hw : p.words.length ≤ 1000000) : Calls Try.prog 19 #[.pointer (some ⟨xb, 0, none⟩)] w (RunRes w p.run) := by
  obtain ⟨st, v, vs, Fk, H, R, rfl, rfl⟩ := h
  have h1 := hG.log
  have h3 := hG.shifts
  have h4 := hG.calls
  have htop := hG.top
  have hpos := hG.pos
  have hlen := R.len
  have e1 := congrArg List.length R.log
  have e3 := congrArg List.length R.shifts
  have e4 := congrArg List.length R.calls
  have e5 := congrArg List.length R.words
  have := run_any H.m R.on (by omega) (by omega) (by omega) (by omega) (by omega)
  rw [R.calls, R.log, R.shifts, R.words] at this
  exact this
end

/-! ### the own kit -/
theorem own_words (size : Int) : ∀ s t d, ((ownK size).ready s t d).2.2.1.mem.words.length = d.mem.words.length ∧ ((ownK size).step s t d).2.2.1.mem.words.length = d.mem.words.length := by
  intro s t d
  refine ⟨rfl, ?_⟩
  show (Tk.step t d).2.1.mem.words.length = _
  have hl : ∀ a, (d.load a).mem.words.length = d.mem.words.length := fun a => by unfold DeskS.load; split <;> rfl
  have hs : ∀ a o x, (d.swap a o x).mem.words.length = d.mem.words.length := fun a o x => by
    unfold DeskS.swap
    split
    · show (d.mem.swap d.th a.toNat o x).words.length = _
      unfold MemS.swap
      split <;> simp [MemS.note]
    · rfl
  cases t with
  | look a => exact hl a
  | bump a saw ld =>
    cases ld with
    | false => exact hl a
    | true =>
      unfold Tk.step
      simp only
      split
      · exact hs _ _ _
      · exact hs _ _ _

/-- what Own and then New leave -/
def NewPM (w : World) (l : List Int) (size : Int) (n : Nat) (e : Ending) (w' : World) : Prop :=
  ∃ xb kit F, e = .returned (.tuple #[.pointer (some ⟨xb, 0, none⟩), .int .i64 0]) ∧ PMAt (ownK size) w' w.heap.size xb (PM.init (ownK size) l n ()) kit F ∧ Only (fun _ => False) w w'
theorem newAt_pm {w w1 w2 : World} {l : List Int} {size : Int} {n : Nat} {kb sb tb xb : Nat} (hk : KitAt w1 w.heap.size size (.map (some kb)) kb sb tb) (ho : Only (fun _ => False) w w1) (h : NewAt w1 (.map (some kb)) l n xb w2) :
    ∃ F, PMAt (ownK size) w2 w.heap.size xb (PM.init (ownK size) l n ()) (.map (some kb)) F ∧ Only (fun _ => False) w w2 := by
  obtain ⟨v, hA, hO, hKi⟩ := h
  have hlt : ∀ k, (k = kb ∨ k = sb ∨ k = tb) → w.heap.size ≤ k ∧ k < w1.heap.size := by
    have a1 := hk.map.lt
    have a2 := (Array.getElem?_eq_some_iff.1 hk.sz).1
    have a3 := (Array.getElem?_eq_some_iff.1 hk.fn).1
    have b1 := hk.k0
    have b2 := hk.s0
    have b3 := hk.t0
    rintro k (rfl | rfl | rfl) <;> exact ⟨by assumption, by assumption⟩
  have hs := hO.size
  have hb : ∀ k, k < w1.heap.size → w2.heap[k]? = w1.heap[k]? := fun k hl => hO.block k hl (fun x => x)
  have hK2 : KitAt w2 w.heap.size size (.map (some kb)) kb sb tb :=
    ⟨rfl, hk.map.of_block (hb kb (hlt kb (.inl rfl)).2), by rw [hb sb (hlt sb (.inr (.inl rfl))).2]; exact hk.sz, by rw [hb tb (hlt tb (.inr (.inr rfl))).2]; exact hk.fn, hk.k0, hk.s0, hk.t0⟩
  refine ⟨_, ⟨newS l n, v, List.replicate n .nilIface, fun k => k = kb ∨ k = sb ∨ k = tb, ⟨hA.base_mono ho.size, ?_, ?_, ?_, ?_⟩, ?_, hKi, rfl⟩, ho.trans hO (fun _ x => x.elim)⟩
  · rw [hKi]
    refine ⟨kb, sb, tb, fun _ => 0, fun _ => 0, hK2, fun k hk' => ⟨(hlt k hk').1, by have := (hlt k hk').2; omega⟩, .inl rfl, .inr (.inl rfl), .inr (.inr rfl), rfl, rfl, rfl, ?_, ?_⟩
    · intro i hi
      simp only [PM.init, List.map_replicate] at hi
      change (List.replicate n (none : Option Tk))[i]? = _ at hi
      rw [List.getElem?_replicate] at hi
      split at hi
      · rename_i hlt; rw [List.getElem?_replicate, if_pos hlt]
      · cases hi
    · intro i t hi
      simp only [PM.init, List.map_replicate] at hi
      change (List.replicate n (none : Option Tk))[i]? = _ at hi
      rw [List.getElem?_replicate] at hi
      split at hi <;> cases hi
  · intro k hk' ho'
    have := (hlt k hk').2
    have := (hA.lt k ho').1
    omega
  · simp [newS]
  · simp [PM.init]
  · exact ⟨rfl, rfl, rfl, rfl, rfl, rfl, rfl, by simp [newS, PM.init]⟩
end Go.Proofs.Ytbhbpfpggfcpgaa
namespace Go.Proofs.Ytbhbpfpggfcpgaa
open Go.ChangeShapes Go.WideShapes Go.ChangeAt Go.RowKit Go.Shelf

/-- a list of moves that can be read -/
def MvsIn (w : World) (va : Value) (ms : List Mv) : Prop :=
  ∃ o c, va = .slice o ms.length c ∧ ms.length ≤ c ∧ c ≤ maxLen ∧ ∀ i (h : i < ms.length), ∃ b off, o = some ⟨b, off, none⟩ ∧ b < w.heap.size ∧
    w.cell? ⟨b, off + i * 4 + 0, none⟩ = some (.int .i64 ms[i].th) ∧ w.cell? ⟨b, off + i * 4 + 1, none⟩ = some (.int .i64 ms[i].op) ∧ w.cell? ⟨b, off + i * 4 + 2, none⟩ = some (.int .i64 ms[i].arg) ∧ w.cell? ⟨b, off + i * 4 + 3, none⟩ = some (.int .i64 ms[i].data)
theorem MvsIn.of_block {w w' : World} {va : Value} {ms : List Mv} (h : MvsIn w va ms) (hb : ∀ k, k < w.heap.size → w'.heap[k]? = w.heap[k]?) (hs : w.heap.size ≤ w'.heap.size) : MvsIn w' va ms := by
  obtain ⟨o, c, e, h1, h2, h3⟩ := h
  refine ⟨o, c, e, h1, h2, fun i hi => ?_⟩
  obtain ⟨b, off, e1, hl, c0, c1, c2, c3⟩ := h3 i hi
  exact ⟨b, off, e1, by omega, (World.cell?_of_block (hb b hl)).trans c0, (World.cell?_of_block (hb b hl)).trans c1, (World.cell?_of_block (hb b hl)).trans c2, (World.cell?_of_block (hb b hl)).trans c3⟩
theorem MvsIn.only {w w' : World} {va : Value} {ms : List Mv} (h : MvsIn w va ms) (ho : Only (fun _ => False) w w') : MvsIn w' va ms := h.of_block (fun k hl => ho.block k hl (fun x => x)) ho.size
theorem _root_.Go.World.Src.only {w w' : World} {k n : Nat} {v : Value} {xs : List Value} (h : w.Src k v n xs) (ho : Only (fun _ => False) w w') : w'.Src k v n xs := h.of_block fun b hl => ho.block b hl (fun x => x)

/-- while the moves are made -/
def PlayI (w0 : World) (l : List Int) (size : Int) (n xb : Nat) (kit : Value) (ms : List Mv) (wr : World) : Prop :=
  ∃ F, PMAt (ownK size) wr w0.heap.size xb ((PM.init (ownK size) l n ()).goes ms) kit F ∧ Only (fun _ => False) w0 wr
theorem PlayI.next {w0 wr w' : World} {l : List Int} {size : Int} {n xb : Nat} {kit : Value} {F : Nat → Prop} {ms : List Mv} {mv : Mv} {e : Ending} (h : PMAt (ownK size) wr w0.heap.size xb ((PM.init (ownK size) l n ()).goes ms) kit F) (ho : Only (fun _ => False) w0 wr)
    (hm : MoveOut (ownK size) wr w0.heap.size xb ((PM.init (ownK size) l n ()).goes ms) kit F mv e w') : e = .returned (.bool (((PM.init (ownK size) l n ()).goes ms).move mv).2) ∧ PlayI w0 l size n xb kit (ms ++ [mv]) w' := by
  obtain ⟨he, F', h1, h2, h3⟩ := hm
  refine ⟨he, F', ?_, ho.trans h2 (fun i hi => .inr (h.lt (ownK_ok size) i hi).1)⟩
  rw [PM.goes_snoc]
  exact h1
theorem PlayI.only {w0 wr w' : World} {l : List Int} {size : Int} {n xb : Nat} {kit : Value} {ms : List Mv} (h : PlayI w0 l size n xb kit ms wr) (ho : Only (fun _ => False) wr w') : PlayI w0 l size n xb kit ms w' := by
  obtain ⟨F, h1, h2⟩ := h
  exact ⟨F, h1.only (ownK_ok size) ho (fun _ _ x => x), h2.trans ho (fun _ x => x.elim)⟩

/-- the run that comes of a script -/
def ownRun (l : List Int) (n : Nat) (ms : List Mv) : RunS := ((PM.init (ownK l.length) l n ()).goes ms).run
/-- what Play leaves -/
def PlayRes (w : World) (l : List Int) (n : Nat) (ms : List Mv) (e : Ending) (w' : World) : Prop :=
  ∃ x : RunVs, e = .returned (.tuple #[x.v, .int .i64 0]) ∧ RunAt w' w.heap.size x (ownRun l n ms) ∧ Only (fun _ => False) w w'

theorem own_good (l : List Int) (n : Nat) (ms : List Mv) (h1 : 1 ≤ n) (h16 : n ≤ 16) : ((PM.init (ownK l.length) l n ()).goes ms).Good := PM.Good.goes (ownK_ok _) (PM.Good.init _ _ _ _ h1 (by omega)) ms
theorem own_len (l : List Int) (n : Nat) (ms : List Mv) : ((PM.init (ownK l.length) l n ()).goes ms).words.length = l.length := PM.words_lens (own_words _) _ ms
theorem take_next {α : Type} (l : List α) (k : Nat) (h : k < l.length) : l.take (k + 1) = l.take k ++ [l[k]] := by
  rw [List.take_succ_eq_append_getElem h]

theorem PlayRes.fin {w W wx : World} {l : List Int} {n : Nat} {ms : List Mv} {x : RunVs} (h : RunAt wx W.heap.size x (ownRun l n ms)) (ho : Only (fun _ => False) w W) (hlt : w.heap.size < W.heap.size) (hx : Only (fun _ => False) W wx) {w' : World}
    (hk : ∀ k, k ≠ w.heap.size → w'.heap[k]? = wx.heap[k]?) (hos : w'.os = wx.os) (hta : w'.tape = wx.tape) (hou : w'.output = wx.output) (hsz : wx.heap.size ≤ w'.heap.size) :
    RunAt w' w.heap.size x (ownRun l n ms) ∧ Only (fun _ => False) w w' := by
  have h1 := ho.size
  have h2 := hx.size
  refine ⟨(h.of_block fun k hk' => hk k (by have := (h.lt k hk').1; omega)).base_mono (by omega), ⟨hos.trans (hx.os.trans ho.os), hta.trans (hx.tape.trans ho.tape), hou.trans (hx.output.trans ho.output), by omega, fun k hl _ => ?_⟩⟩
  rw [hk k (by omega), hx.block k (by omega) (fun x => x), ho.block k hl (fun x => x)]

set_option maxRecDepth 100000 in
set_option maxHeartbeats 4000000 in
theorem play_ok {w : World} (n : Nat) {vx vm : Value} {l : List Int} {ms : List Mv} (hs : w.Src 1 vx l.length (u64s l)) (hl : l.length ≤ 8192) (hm : MvsIn w vm ms) (hms : ms.length ≤ 65536) (h1 : 1 ≤ n) (h16 : n ≤ 16) :
    Calls Try.prog 21 #[.int .i64 (n : Int), vx, vm] w (PlayRes w l n ms) := by
  have HS := Lib.hid hs
  obtain ⟨ox, cx, rfl⟩ : ∃ o c, vx = .slice o l.length c := by
    rcases hs.2 with ⟨rfl, h0⟩ | ⟨ad, c, rfl, hc, _⟩
    · exact ⟨none, 0, by rw [h0]⟩
    · exact ⟨some ad, c, rfl⟩
  have HMI := Lib.hid hm
  obtain ⟨om, cm, rfl, hm1, hm2, hm3⟩ := hm
  have HM := Lib.hid hm3
  unfold maxLen at hm2
  have hms2 : decide ((65536 : Int) < (ms.length : Int)) = false := by simp; omega
  clear hs hm3
  go_enter Try.func21, Try.ntmps21
  go_wp2_with (first
    | (go_at_call 16; refine (own_at _).mono ?_; rintro e w1 ⟨kb, sb, tb, rfl, hk, ho⟩; have HK := Lib.hid hk; have HO := Lib.hid ho; have HN := Lib.hid (newm_ok (w := w1) (km := some kb) n ((HS.out.alloc _).only ho) hl h1 h16); clear hk ho)
    | (go_at_call 15; refine HN.out.mono ?_; rintro e w2 ⟨xb, rfl, hna⟩; obtain ⟨Fn, hpm, hon⟩ := newAt_pm HK.out HO.out hna; have HI := Lib.hid (show PlayI (run0 w) l l.length n xb (.map (some kb)) [] w2 from ⟨Fn, hpm, hon⟩); clear hna hpm hon))
  go_loopg [31] ms.length (fun g sl wr => ∃ k : Nat, k ≤ ms.length ∧ ms.length ≤ k + g ∧ sl = .int .i64 (k : Int) ∧ Hid (PlayI (run0 w) l l.length n xb (.map (some kb)) (ms.take k) wr))
  case atStart => exact ⟨0, by omega, by omega, by go_num, HI⟩
  case round =>
    obtain ⟨k, hk1, hk2, rfl, hI⟩ := hrel
    by_cases hlt : k < ms.length
    · obtain ⟨F, hA, hO⟩ := hI.out
      have hw : Only (fun _ => False) w wr := ((Only.refl _ w).alloc _).trans hO (fun _ x => x.elim)
      obtain ⟨b, off, rfl, hb, m0, m1, m2, m3⟩ := HM.out k hlt
      replace m0 := (hw.cellAt (p := ⟨b, off + k * 4 + 0, none⟩) hb (fun x => x)).trans m0
      replace m1 := (hw.cellAt (p := ⟨b, off + k * 4 + 1, none⟩) hb (fun x => x)).trans m1
      replace m2 := (hw.cellAt (p := ⟨b, off + k * 4 + 2, none⟩) hb (fun x => x)).trans m2
      replace m3 := (hw.cellAt (p := ⟨b, off + k * 4 + 3, none⟩) hb (fun x => x)).trans m3
      simp only [Nat.add_zero] at m0
      have hbr : b < wr.heap.size := Nat.lt_of_lt_of_le hb hw.size
      have HG := Lib.hid (own_good l n (ms.take k) h1 h16)
      have HA := Lib.hid (hA.only (ownK_ok _) ((Only.refl _ wr).alloc (.cells #[.int .i64 ms[k].th, .int .i64 ms[k].op, .int .i64 ms[k].arg, .int .i64 ms[k].data] 34)) (fun _ _ x => x))
      have HOO := Lib.hid (hO.alloc (.cells #[.int .i64 ms[k].th, .int .i64 ms[k].op, .int .i64 ms[k].arg, .int .i64 ms[k].data] 34))
      have HT := Lib.hid (take_next ms k hlt)
      clear hA hO hI hw HI HM
      go_wp2_with (go_at_call 17; refine (pm_move (ownK_ok _) HG.out HA.out ms[k]).mono ?_; rintro e w3 hmo; obtain ⟨rfl, hnx⟩ := PlayI.next HA.out HOO.out hmo; have HNX := Lib.hid hnx; clear hmo hnx)
      go_roundg (ms.length - (k + 1))
      case measure => omega
      case rel => exact ⟨k + 1, by omega, by omega, by go_num, by rw [HT.out]; exact HNX⟩
    · obtain rfl : k = ms.length := by omega
      obtain ⟨F, hA, hO⟩ := hI.out
      rw [List.take_length] at hA
      have HR := Lib.hid (pm_run (own_good l n ms h1 h16) hA (by rw [own_len]; omega))
      have HOO := Lib.hid hO
      clear hA hO hI HI HM
      have hrc : wr.heap[w.heap.size]? = some (.cells #[.slice none 0 0, .slice none 0 0, .slice none 0 0, .slice none 0 0] 41 (0, 0)) := by
        rw [HOO.out.block w.heap.size (by simp [run0]) (fun x => x)]
        exact heap_alloc_new w _
      have HRC := Lib.hid hrc
      clear hrc
      go_wp2_with (go_at_call 19; refine HR.out.mono ?_; rintro e w3 ⟨x, he, hra, hro⟩; obtain ⟨xa, xt, xb', xc⟩ := x; obtain ⟨oa, ca, e1, _, _⟩ := hra.wa.form; obtain ⟨ot, ct, e2, _, _⟩ := hra.wt.form; obtain ⟨ob, cb, e3, _, _⟩ := hra.wb.form; obtain ⟨oc, cc, e4, _, _⟩ := hra.wc.form; simp only at e1 e2 e3 e4; subst e1; subst e2; subst e3; subst e4; (unfold RunVs.v at he); subst he; have hc3 := (hro.block w.heap.size (Array.getElem?_eq_some_iff.1 HRC.out).1 (fun x => x)).trans HRC.out; have HRA := Lib.hid hra; have HRO := Lib.hid hro; have HC3 := Lib.hid hc3; have e0 : w3.cell? ⟨w.heap.size, 0, none⟩ = some (.slice none 0 0) := (by simp [World.cell?, hc3]); have e1 : w3.cell? ⟨w.heap.size, 1, none⟩ = some (.slice none 0 0) := (by simp [World.cell?, hc3]); have e2 : w3.cell? ⟨w.heap.size, 2, none⟩ = some (.slice none 0 0) := (by simp [World.cell?, hc3]); have e3 : w3.cell? ⟨w.heap.size, 3, none⟩ = some (.slice none 0 0) := (by simp [World.cell?, hc3]); have ez : ∀ j, w3.frozen? ⟨w.heap.size, j, none⟩ = false := fun j => (by simp [World.frozen?, hc3]); have hrl := (Array.getElem?_eq_some_iff.1 hc3).1; clear hra hro hc3)
      have hwo : Only (fun _ => False) w wr := ((Only.refl _ w).alloc _).trans HOO.out (fun _ x => x.elim)
      have hwl : w.heap.size < wr.heap.size := (Array.getElem?_eq_some_iff.1 HRC.out).1
      refine bodyPost_ret (v := .tuple #[.agg #[.slice oa ((PM.init (ownK ↑l.length) l n ()).goes ms).run.calls.length ca, .slice ot ((PM.init (ownK ↑l.length) l n ()).goes ms).run.trace.length ct, .slice ob ((PM.init (ownK ↑l.length) l n ()).goes ms).run.shifts.length cb, .slice oc ((PM.init (ownK ↑l.length) l n ()).goes ms).run.words.length cc], .int .i64 0]) ?_ rfl ⟨⟨.slice oa ((PM.init (ownK ↑l.length) l n ()).goes ms).run.calls.length ca, .slice ot ((PM.init (ownK ↑l.length) l n ()).goes ms).run.trace.length ct, .slice ob ((PM.init (ownK ↑l.length) l n ()).goes ms).run.shifts.length cb, .slice oc ((PM.init (ownK ↑l.length) l n ()).goes ms).run.words.length cc⟩, rfl, PlayRes.fin HRA.out hwo hwl HRO.out (fun k g1 => (Below.heap_setCell _ _ _ _ g1).trans ((Below.heap_setCell _ _ _ _ g1).trans ((Below.heap_setCell _ _ _ _ g1).trans (Below.heap_setCell _ _ _ _ g1)))) rfl rfl rfl (by simp [World.setCell])⟩
      have hf : ((((w3.setCell ⟨w.heap.size, 0, none⟩ (.slice oa ((PM.init (ownK ↑l.length) l n ()).goes ms).run.calls.length ca)).setCell ⟨w.heap.size, 1, none⟩ (.slice ot ((PM.init (ownK ↑l.length) l n ()).goes ms).run.trace.length ct)).setCell ⟨w.heap.size, 2, none⟩ (.slice ob ((PM.init (ownK ↑l.length) l n ()).goes ms).run.shifts.length cb)).setCell ⟨w.heap.size, 3, none⟩ (.slice oc ((PM.init (ownK ↑l.length) l n ()).goes ms).run.words.length cc)).heap[w.heap.size]? = some (.cells #[.slice oa ((PM.init (ownK ↑l.length) l n ()).goes ms).run.calls.length ca, .slice ot ((PM.init (ownK ↑l.length) l n ()).goes ms).run.trace.length ct, .slice ob ((PM.init (ownK ↑l.length) l n ()).goes ms).run.shifts.length cb, .slice oc ((PM.init (ownK ↑l.length) l n ()).goes ms).run.words.length cc] 41 (0, 0)) := by
        simp [World.setCell, Array.getElem?_modify, HC3.out]
      generalize ((((w3.setCell ⟨w.heap.size, 0, none⟩ (.slice oa ((PM.init (ownK ↑l.length) l n ()).goes ms).run.calls.length ca)).setCell ⟨w.heap.size, 1, none⟩ (.slice ot ((PM.init (ownK ↑l.length) l n ()).goes ms).run.trace.length ct)).setCell ⟨w.heap.size, 2, none⟩ (.slice ob ((PM.init (ownK ↑l.length) l n ()).goes ms).run.shifts.length cb)).setCell ⟨w.heap.size, 3, none⟩ (.slice oc ((PM.init (ownK ↑l.length) l n ()).goes ms).run.words.length cc)) = Wf at hf ⊢
      have g0 : Wf.cell? ⟨w.heap.size, 0, none⟩ = some (.slice oa ((PM.init (ownK ↑l.length) l n ()).goes ms).run.calls.length ca) := by simp [World.cell?, hf]
      have g1 : Wf.cell? ⟨w.heap.size, 1, none⟩ = some (.slice ot ((PM.init (ownK ↑l.length) l n ()).goes ms).run.trace.length ct) := by simp [World.cell?, hf]
      have g2 : Wf.cell? ⟨w.heap.size, 2, none⟩ = some (.slice ob ((PM.init (ownK ↑l.length) l n ()).goes ms).run.shifts.length cb) := by simp [World.cell?, hf]
      have g3 : Wf.cell? ⟨w.heap.size, 3, none⟩ = some (.slice oc ((PM.init (ownK ↑l.length) l n ()).goes ms).run.words.length cc) := by simp [World.cell?, hf]
      simp [results, Try.results21, go_sem, g0, g1, g2, g3]
end Go.Proofs.Ytbhbpfpggfcpgaa
