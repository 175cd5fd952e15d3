/-
reclaimref01.Config: whether a configuration may be.
The words at the beginning (word.First, reclaimref01.First), as the machine with an arena takes them.
-/
import Derived.Test.YtjcggokhminmoaaQCfgA
import Derived.Test.YtjcggokhminmoaaQCfgB
import Derived.Test.YtjcggokhminmoaaQArKn
import Derived.Test.YtjcggokhminmoaaQRFirst
namespace Go.Proofs.Ytjcggokhminmoaa
open Go.ChangeShapes Go.WideShapes Go.ChangeAt Go.RowKit

theorem config_no13 (a0 a1 a2 a3 a4 a5 a6 : Int) (w : World) (h0 : 1 ≤ a0) (h1 : a0 ≤ 16) (h2 : 1 ≤ a1) (h3 : a1 ≤ 16) (h4 : 3 ≤ a2) (h5 : a2 ≤ 8) (h6 : 1 ≤ a3) (h7 : a3 ≤ 1024) (h8 : 0 ≤ a4) (h9 : a4 ≤ 64) (h10 : 1 ≤ a5) (h11 : a5 ≤ 1024) (h12 : 1 ≤ a6) (g : 64 < a6) : Calls Try.prog 12 #[.agg #[.int .i64 a0, .int .i64 a1, .int .i64 a2, .int .i64 a3, .int .i64 a4, .int .i64 a5, .int .i64 a6]] w fun e w' =>
    e = .returned (.bool false) ∧ Below w.heap.size w w' := by
  go_enter Try.func12, Try.ntmps12
  go_wp2
  go_ret
  exact ⟨ret_bool (decide_eq_false (by omega)), (Below.refl _ _).alloc (Nat.le_refl _) _⟩

theorem config_any (a0 a1 a2 a3 a4 a5 a6 : Int) (w : World) : Calls Try.prog 12 #[.agg #[.int .i64 a0, .int .i64 a1, .int .i64 a2, .int .i64 a3, .int .i64 a4, .int .i64 a5, .int .i64 a6]] w fun e w' =>
    e = .returned (.bool (okCfg a0 a1 a2 a3 a4 a5 a6)) ∧ Below w.heap.size w w' := by
  cases hok : okCfg a0 a1 a2 a3 a4 a5 a6
  · by_cases h0 : 1 ≤ a0
    case neg => exact config_no0 a0 a1 a2 a3 a4 a5 a6 w  (by omega)
    by_cases h1 : a0 ≤ 16
    case neg => exact config_no1 a0 a1 a2 a3 a4 a5 a6 w h0 (by omega)
    by_cases h2 : 1 ≤ a1
    case neg => exact config_no2 a0 a1 a2 a3 a4 a5 a6 w h0 h1 (by omega)
    by_cases h3 : a1 ≤ 16
    case neg => exact config_no3 a0 a1 a2 a3 a4 a5 a6 w h0 h1 h2 (by omega)
    by_cases h4 : 3 ≤ a2
    case neg => exact config_no4 a0 a1 a2 a3 a4 a5 a6 w h0 h1 h2 h3 (by omega)
    by_cases h5 : a2 ≤ 8
    case neg => exact config_no5 a0 a1 a2 a3 a4 a5 a6 w h0 h1 h2 h3 h4 (by omega)
    by_cases h6 : 1 ≤ a3
    case neg => exact config_no6 a0 a1 a2 a3 a4 a5 a6 w h0 h1 h2 h3 h4 h5 (by omega)
    by_cases h7 : a3 ≤ 1024
    case neg => exact config_no7 a0 a1 a2 a3 a4 a5 a6 w h0 h1 h2 h3 h4 h5 h6 (by omega)
    by_cases h8 : 0 ≤ a4
    case neg => exact config_no8 a0 a1 a2 a3 a4 a5 a6 w h0 h1 h2 h3 h4 h5 h6 h7 (by omega)
    by_cases h9 : a4 ≤ 64
    case neg => exact config_no9 a0 a1 a2 a3 a4 a5 a6 w h0 h1 h2 h3 h4 h5 h6 h7 h8 (by omega)
    by_cases h10 : 1 ≤ a5
    case neg => exact config_no10 a0 a1 a2 a3 a4 a5 a6 w h0 h1 h2 h3 h4 h5 h6 h7 h8 h9 (by omega)
    by_cases h11 : a5 ≤ 1024
    case neg => exact config_no11 a0 a1 a2 a3 a4 a5 a6 w h0 h1 h2 h3 h4 h5 h6 h7 h8 h9 h10 (by omega)
    by_cases h12 : 1 ≤ a6
    case neg => exact config_no12 a0 a1 a2 a3 a4 a5 a6 w h0 h1 h2 h3 h4 h5 h6 h7 h8 h9 h10 h11 (by omega)
    by_cases h13 : a6 ≤ 64
    case neg => exact config_no13 a0 a1 a2 a3 a4 a5 a6 w h0 h1 h2 h3 h4 h5 h6 h7 h8 h9 h10 h11 h12 (by omega)
    exfalso
    simp [okCfg] at hok
    omega
  · simp [okCfg] at hok
    obtain ⟨⟨⟨⟨⟨⟨⟨⟨⟨⟨⟨⟨⟨h0, h1⟩, h2⟩, h3⟩, h4⟩, h5⟩, h6⟩, h7⟩, h8⟩, h9⟩, h10⟩, h11⟩, h12⟩, h13⟩ := hok
    go_enter Try.func12, Try.ntmps12
    go_wp2
    go_ret
    exact ⟨rfl, (Below.refl _ _).alloc (Nat.le_refl _) _⟩

end Go.Proofs.Ytjcggokhminmoaa
namespace Go.Proofs.Ytjcggokhminmoaa
open Go.ChangeShapes Go.WideShapes Go.ChangeAt Go.RowKit Go.Shelf

theorem ar_nums {a0 a1 a2 a3 a4 a5 a6 : Int} {u : Nat} (h : okCfg a0 a1 a2 a3 a4 a5 a6 = true) : ∃ b n s : Nat, Hid (a5 = (s : Int)) ∧ Hid (baseF a1 a2 a5 a6 13 = (n : Int)) ∧ Hid (addrAt a1 a2 a5 a6 10 0 0 = (b : Int)) ∧ 5 ≤ b ∧ b + s ≤ n ∧ n ≤ 13312 ∧ 1 ≤ s ∧ n ≤ 8192 ∧ s ≤ 1024 ∧
    arWords (arNew a0 a1 a2 a3 a4 a5 a6 u) u = (List.range n).map (firstW b u s) ∧ (arWords (arNew a0 a1 a2 a3 a4 a5 a6 u) u).length = n ∧ (arNew a0 a1 a2 a3 a4 a5 a6 u).sb = b ∧ (arNew a0 a1 a2 a3 a4 a5 a6 u).n = s := by
  obtain ⟨b0, b1, b2, b3, b4, b5, b6, bm⟩ := ok_bounds h
  have e9 : addrAt a1 a2 a5 a6 10 0 0 = 6 + a6 + a1 + a1 * a2 := by
    simp [addrAt, baseF, manyI]
  have e9' : baseF a1 a2 a5 a6 9 = 6 + a6 + a1 + a1 * a2 := by simp [baseF, manyI]
  have e13 : baseF a1 a2 a5 a6 13 = 6 + a6 + a1 + a1 * a2 + 4 * a5 := by simp [baseF, manyI]; omega
  have q1 : (arNew a0 a1 a2 a3 a4 a5 a6 u).sb = (6 + a6 + a1 + a1 * a2).toNat := by unfold ArS.sb arNew; simp only; rw [e9']
  have q2 : (arNew a0 a1 a2 a3 a4 a5 a6 u).size = (6 + a6 + a1 + a1 * a2 + 4 * a5).toNat := by unfold ArS.size arNew; simp only; rw [e13]
  have q3 : (arNew a0 a1 a2 a3 a4 a5 a6 u).n = a5.toNat := by simp [arNew, ArS.n]
  refine ⟨(6 + a6 + a1 + a1 * a2).toNat, (6 + a6 + a1 + a1 * a2 + 4 * a5).toNat, a5.toNat, Lib.hid (by omega), Lib.hid (by rw [e13]; omega), Lib.hid (by rw [e9]; omega), by omega, by omega, by omega, by omega, by omega, by omega, ?_, ?_, q1, q3⟩
  · unfold arWords
    rw [q1, q2, q3]
  · rw [arWords_len, q2]
/-- words that are new in memory -/
def Words (w : World) (l : List Int) (mk : Value → Value) (e : Ending) (w' : World) : Prop := ∃ g, e = .returned (mk (.slice (some ⟨g, 0, none⟩) l.length l.length)) ∧ w'.Src 1 (.slice (some ⟨g, 0, none⟩) l.length l.length) l.length (u64s l) ∧ Only (fun _ => False) w w'
theorem words_src {W : World} {g n : Nat} {f : Nat → Int} {os : Array Obj} {d : Nat} (hg : W.heap.size = g) : ((W.alloc (.cells (intCells .u64 n f) 52)).more os d).Src 1 (.slice (some ⟨g, 0, none⟩) n n) n (u64s ((List.range n).map f)) := by
  subst hg
  refine World.Src.more ?_ _ _
  refine ⟨by simp [u64s], .inr ⟨_, n, rfl, Nat.le_refl _, fun j v hv => ?_⟩⟩
  rw [add_none]
  have hb : (W.alloc (.cells (intCells .u64 n f) 52)).heap[W.heap.size]? = some (.cells (intCells .u64 n f) 52 (0, 0)) := heap_alloc_new W _
  have e : u64s ((List.range n).map f) = (intCells .u64 n f).toList := by simp [u64s, intCells]
  rw [e] at hv
  simp only [World.cell?, hb]
  simpa using hv
theorem afirst_any (a0 a1 a2 a3 a4 a5 a6 : Int) (u : Nat) (hok : okCfg a0 a1 a2 a3 a4 a5 a6 = true) (hu : (u : Int) ≤ a5) (w : World) : Calls Try.prog 38 #[.agg #[.int .i64 a0, .int .i64 a1, .int .i64 a2, .int .i64 a3, .int .i64 a4, .int .i64 a5, .int .i64 a6], .int .i64 (u : Int)] w (Words w (arWords (arNew a0 a1 a2 a3 a4 a5 a6 u) u) (fun v => .tuple #[v, .int .i64 0])) := by
  obtain ⟨b, n, s, hs, hn, hb, h5, hbs, h13, h1, h8, h10, e1, e2, _, _⟩ := ar_nums (u := u) hok
  have hus : u ≤ s := by have := hs.out; omega
  refine (first_ok _ _ _ _ _ _ _ u b n s hok hs hus hn hb h5 hbs h13 w).mono ?_
  rintro e w' ⟨os, d, os', d', rfl, rfl⟩
  refine ⟨w.heap.size + os.size, ?_, ?_, (Below.only0 (by repeat (first | exact Below.refl _ _ | apply Below.drew | apply Below.more1 | apply Below.alloc1 | (refine Below.setCell ?_ (by first | exact Nat.le_refl _ | (simp; done) | (simp; omega)) _))))⟩
  · rw [e2]
  · rw [e2, e1]
    exact words_src (World.size_more _ _ _)
theorem arfirst_any (a0 a1 a2 a3 a4 a5 a6 : Int) (u : Nat) (hok : okCfg a0 a1 a2 a3 a4 a5 a6 = true) (hu : (u : Int) ≤ a5) (w : World) : Calls Try.prog 33 #[.agg #[.int .i64 a0, .int .i64 a1, .int .i64 a2, .int .i64 a3, .int .i64 a4, .int .i64 a5, .int .i64 a6], .int .i64 (u : Int)] w (Words w (arWords (arNew a0 a1 a2 a3 a4 a5 a6 u) u) id) := by
  obtain ⟨b, n, s, hs, hn, hb, h5, hbs, h13, h1, h8, h10, e1, e2, _, _⟩ := ar_nums (u := u) hok
  have hus : u ≤ s := by have := hs.out; omega
  refine (rfirst_ok _ _ _ _ _ _ _ u b n s hok hs hus hn hb h5 hbs h13 w).mono ?_
  rintro e w' ⟨os, d, os', d', rfl, rfl⟩
  refine ⟨w.heap.size + os.size, ?_, ?_, (Below.only0 (by repeat (first | exact Below.refl _ _ | apply Below.drew | apply Below.more1 | apply Below.alloc1 | (refine Below.setCell ?_ (by first | exact Nat.le_refl _ | (simp; done) | (simp; omega)) _))))⟩
  · rw [e2]; rfl
  · rw [e2, e1]
    exact words_src (World.size_more _ _ _)
end Go.Proofs.Ytjcggokhminmoaa
