/-
Slices that can be read: the cells of a run's lists.
-/
import Derived.Test.YtjcggokhminmoaaQPm
import Derived.Test.YtjcggokhminmoaaQArAl
namespace Go
open Go.RowKit
open Go.Proofs.Ytjcggokhminmoaa
theorem World.Src.some_form {w : World} {size n : Nat} {v : Value} {xs : List Value} (h : w.Src size v n xs) (hn : 0 < n) (hs : 0 < size) : ∃ b off c, v = .slice (some ⟨b, off, none⟩) n c ∧ b < w.heap.size ∧ ∀ j u, xs[j]? = some u → w.cell? ⟨b, off + j, none⟩ = some u := by
  rcases h.2 with ⟨_, h0⟩ | ⟨⟨b, off, p⟩, c, rfl, _, hx⟩
  · omega
  · have h0 : 0 < xs.length := by rw [h.1]; exact Nat.mul_pos hn hs
    have h1 := hx 0 xs[0] (by simp [h0])
    have hs : p = none := by simpa [Addr.add] using World.cell?_spot h1
    subst hs
    have ad : ∀ i, (⟨b, off, none⟩ : Addr).add i = ⟨b, off + i, none⟩ := fun i => by unfold Addr.add; split <;> simp_all
    simp only [ad] at hx h1
    exact ⟨b, off, c, rfl, World.block_lt_of_cell? w _ h1, hx⟩
theorem World.Src.form {w : World} {size n : Nat} {v : Value} {xs : List Value} (h : w.Src size v n xs) : ∃ o c, v = .slice o n c := by
  rcases h.2 with ⟨rfl, rfl⟩ | ⟨ad, c, rfl, _⟩
  · exact ⟨_, _, rfl⟩
  · exact ⟨_, _, rfl⟩
theorem cals_get3 (l : List Cal) (i j : Nat) (hi : i < l.length) (hj : j < 9) : (cals l)[i * 9 + j]? = l[i].cells[j]? := flat_get (f := Cal.cells) (k := 9) (fun _ => rfl) l i j hi hj
theorem accs_get3 (l : List Acc) (i j : Nat) (hi : i < l.length) (hj : j < 7) : (accs l)[i * 7 + j]? = l[i].cells[j]? := flat_get (f := Acc.cells) (k := 7) (fun _ => rfl) l i j hi hj
theorem shfs_get3 (l : List Shf) (i j : Nat) (hi : i < l.length) (hj : j < 5) : (shfs l)[i * 5 + j]? = l[i].cells[j]? := flat_get (f := Shf.cells) (k := 5) (fun _ => rfl) l i j hi hj
theorem mvs_get3 (l : List Mv) (i j : Nat) (hi : i < l.length) (hj : j < 4) : (mvsC l)[i * 4 + j]? = l[i].cells[j]? := flat_get (f := Mv.cells) (k := 4) (fun _ => rfl) l i j hi hj
end Go
namespace Go.Proofs.Ytjcggokhminmoaa
open Go.ChangeShapes Go.WideShapes Go.ChangeAt Go.RowKit Go.Shelf
theorem u64s_at (l : List Int) (k : Nat) (h : k < l.length) : (u64s l)[k]? = some (.int .u64 l[k]) := by simp [u64s, h]
/-- a run that can be read -/
structure RunSrc (w : World) (x : RunVs) (r : RunS) : Prop where
  wa : w.Src 9 x.va r.calls.length (cals r.calls)
  wt : w.Src 7 x.vt r.trace.length (accs r.trace)
  wb : w.Src 5 x.vb r.shifts.length (shfs r.shifts)
  wc : w.Src 1 x.vc r.words.length (u64s r.words)
theorem RunAt.src {w : World} {base : Nat} {x : RunVs} {r : RunS} (h : RunAt w base x r) : RunSrc w x r := ⟨h.wa.src, h.wt.src, h.wb.src, h.wc.src⟩
theorem RunSrc.below {w w' : World} {x : RunVs} {r : RunS} (h : RunSrc w x r) (hb : Below w.heap.size w w') : RunSrc w' x r := ⟨h.wa.below hb, h.wt.below hb, h.wb.below hb, h.wc.below hb⟩

end Go.Proofs.Ytjcggokhminmoaa
