/-
A machine beside a row of numbers and a row of moves, each apart from the others (IdleI).
-/
import Derived.Test.YtbhbpfpggfcpgaaMvl
import Derived.Test.YtbhbpfpggfcpgaaIdp
namespace Go.Proofs.Ytbhbpfpggfcpgaa
open Go.ChangeShapes Go.WideShapes Go.ChangeAt Go.RowKit Go.Shelf

structure IdleI (W wr : World) (size : Int) (xb : Nat) (p : PM (ownK size)) (kit : Value) (F : Nat → Prop) (v8 : Value) (n8 : Nat) (xs8 : List Value) (vm : Value) (nm : Nat) (xsm : List Value) : Prop where
  pm : PMAt (ownK size) wr W.heap.size xb p kit F
  r8 : wr.RowV W.heap.size 3 1 v8 n8 xs8
  rm : wr.RowV W.heap.size 34 4 vm nm xsm
  d8 : ∀ k, F k → v8.rowBlock ≠ some k
  dm : ∀ k, F k → vm.rowBlock ≠ some k
  d8m : ∀ k, v8.rowBlock = some k → vm.rowBlock ≠ some k
  on : Only (fun _ => False) W wr

section
variable {W wr w' : World} {size : Int} {xb : Nat} {p : PM (ownK size)} {kit : Value} {F : Nat → Prop} {v8 vm : Value} {n8 nm : Nat} {xs8 xsm : List Value}
theorem IdleI.more (h : IdleI W wr size xb p kit F v8 n8 xs8 vm nm xsm) (os : Array Obj) (d : Nat) : IdleI W (wr.more os d) size xb p kit F v8 n8 xs8 vm nm xsm :=
  ⟨h.pm.of_block (ownK_ok _) fun k hk => World.heap_more _ _ _ _ (h.pm.lt (ownK_ok _) k hk).2, h.r8.more _ _, h.rm.more _ _, h.d8, h.dm, h.d8m, h.on.more _ _⟩
theorem IdleI.alloc (h : IdleI W wr size xb p kit F v8 n8 xs8 vm nm xsm) (o : Obj) : IdleI W (wr.alloc o) size xb p kit F v8 n8 xs8 vm nm xsm :=
  ⟨h.pm.of_block (ownK_ok _) fun k hk => Below.heap_alloc _ _ _ (h.pm.lt (ownK_ok _) k hk).2, h.r8.alloc _, h.rm.alloc _, h.d8, h.dm, h.d8m, h.on.alloc _⟩
theorem IdleI.put (h : IdleI W wr size xb p kit F v8 n8 xs8 vm nm xsm) {g : Nat} (hg : v8.rowBlock = some g) (i : Nat) (hi : i < n8) (u : Value) : IdleI W (wr.setCell ⟨g, i, none⟩ u) size xb p kit F v8 n8 (xs8.set i u) vm nm xsm := by
  have hb := (h.r8.lt g hg).1
  refine ⟨h.pm.of_block (ownK_ok _) fun k hk => Below.heap_setCell _ _ _ _ (fun e => h.d8 k hk (by rw [hg, e])), h.r8.put hg i (by omega) u, h.rm.set (fun k hk e => h.d8m g hg (by rw [hk, e])) u, h.d8, h.dm, h.d8m, h.on.set (.inr hb) u⟩
theorem IdleI.moved {mv : Mv} {e : Ending} (h : IdleI W wr size xb p kit F v8 n8 xs8 vm nm xsm) (hm : MoveOut (ownK size) wr W.heap.size xb p kit F mv e w') :
    e = .returned (.bool (p.move mv).2) ∧ ∃ F', IdleI W w' size xb (p.move mv).1 kit F' v8 n8 xs8 vm nm xsm ∧ Only F wr w' := by
  obtain ⟨he, F', h1, h2, h3⟩ := hm
  have hlt := fun k hk => h.pm.lt (ownK_ok _) k hk
  refine ⟨he, F', ⟨h1, ?_, ?_, ?_, ?_, h.d8m, h.on.trans h2 (fun i hi => .inr (hlt i hi).1)⟩, h2⟩
  · exact h.r8.of_block fun k hk => h2.block k (h.r8.lt k hk).2 (fun hf => h.d8 k hf hk)
  · exact h.rm.of_block fun k hk => h2.block k (h.rm.lt k hk).2 (fun hf => h.dm k hf hk)
  · intro k hk hv
    rcases h3 k hk with hf | hf
    · exact h.d8 k hf hv
    · have := (h.r8.lt k hv).2; omega
  · intro k hk hv
    rcases h3 k hk with hf | hf
    · exact h.dm k hf hv
    · have := (h.rm.lt k hv).2; omega
theorem IdleI.appd (h : IdleI W wr size xb p kit F v8 n8 xs8 vm nm xsm) {vm' : Value} {m : Nat} {xs' : List Value} (hr : w'.RowV W.heap.size 34 4 vm' (nm + m) xs') (ho : RowOut wr w' vm vm' nm m) :
    IdleI W w' size xb p kit F v8 n8 xs8 vm' (nm + m) xs' := by
  have hlt := fun k hk => h.pm.lt (ownK_ok _) k hk
  have hO : Only (fun k => vm.rowBlock = some k) wr w' := Only.out ho (fun k hk => hk)
  refine ⟨h.pm.of_block (ownK_ok _) fun k hk => ho.block (hlt k hk).2 (h.dm k hk), h.r8.out ho h.d8m, hr, h.d8, ?_, ?_, h.on.trans hO (fun i hi => .inr (h.rm.lt i hi).1)⟩
  · intro k hk hv
    rcases ho.news hv with h1 | h1
    · exact h.dm k hk h1
    · have := (hlt k hk).2; omega
  · intro k hk hv
    rcases ho.news hv with h1 | h1
    · exact h.d8m k hk h1
    · have := (h.r8.lt k hk).2; omega
theorem IdleI.lt (h : IdleI W wr size xb p kit F v8 n8 xs8 vm nm xsm) : ∀ k, F k → k < wr.heap.size := fun k hk => (h.pm.lt (ownK_ok _) k hk).2
end

/-- the numbers: those below k are set -/
def numsL (f : Nat → Nat) (n k : Nat) : List Value := (List.range (n + 1)).map fun i => .int .i64 (if i < k then (f i : Int) else 0)
theorem numsL_len (f : Nat → Nat) (n k : Nat) : (numsL f n k).length = n + 1 := by simp [numsL]
theorem numsL_get (f : Nat → Nat) (n k i : Nat) (hi : i < n + 1) : (numsL f n k)[i]? = some (.int .i64 (if i < k then (f i : Int) else 0)) := by
  unfold numsL
  rw [List.getElem?_map, List.getElem?_range hi]
  rfl
theorem numsL_set (f : Nat → Nat) (n k : Nat) (_hk : k ≤ n) : (numsL f n k).set k (.int .i64 (f k : Int)) = numsL f n (k + 1) := by
  apply List.ext_getElem?
  intro i
  by_cases hi : i < n + 1
  · rw [numsL_get f n (k + 1) i hi]
    by_cases e : k = i
    · subst e
      rw [List.getElem?_set_self (by rw [numsL_len]; exact hi), if_pos (by omega)]
    · rw [List.getElem?_set_ne e, numsL_get f n k i hi]
      congr 3
      exact propext ⟨fun h => by omega, fun h => by omega⟩
  · rw [List.getElem?_eq_none (by rw [List.length_set, numsL_len]; omega), List.getElem?_eq_none (by rw [numsL_len]; omega)]
theorem numsL_zero (f : Nat → Nat) (n : Nat) : numsL f n 0 = List.replicate (n + 1) (.int .i64 0) := by
  apply List.ext_getElem?
  intro i
  by_cases hi : i < n + 1
  · rw [numsL_get f n 0 i hi, List.getElem?_replicate, if_pos hi]; rfl
  · rw [List.getElem?_eq_none (by rw [numsL_len]; omega), List.getElem?_eq_none (by simp; omega)]
theorem made_ints (n : Nat) : (madeCells (Value.int .i64 0).cells (n * 1)).toList = List.replicate n (.int .i64 0) := by
  unfold madeCells
  apply List.ext_getElem
  · simp
  · intro i h1 h2
    simp [Value.cells, Nat.mod_one]
theorem infoInt' : (Try.prog.info? 3).map (fun i => (i.zero, i.size, i.bytes)) = some (some (.int .i64 0), 1, 8) := by kernel_rfl
theorem _root_.Go.World.RowV.of_owns {w : World} {base e size n : Nat} {v : Value} {xs : List Value} (h : w.ownsRow base e size v n xs) (hn : 0 < n) : w.RowV base e size v n xs := by
  refine ⟨h.1, ?_⟩
  rcases h.2 with ⟨_, h0⟩ | ⟨g, cap, cur, e1, hb, hg, h1, h2, h3, h4⟩
  · omega
  · exact .inr ⟨g, cap, cur, e1, hb, hg, h1, by omega, h2, by rw [h3]; exact Nat.le_refl _, h4⟩
end Go.Proofs.Ytbhbpfpggfcpgaa
