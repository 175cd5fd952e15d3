/-
reclaimref01.Config: whether a configuration may be.
-/
import Derived.Test.YtaokjiajceefaaaCfgA
import Derived.Test.YtaokjiajceefaaaCfgB
namespace Go.Proofs.Ytaokjiajceefaaa
open Go.ChangeShapes Go.WideShapes Go.ChangeAt Go.RowKit

theorem config_no13 (a0 a1 a2 a3 a4 a5 a6 : Int) (w : World) (h0 : 1 ≤ a0) (h1 : a0 ≤ 16) (h2 : 1 ≤ a1) (h3 : a1 ≤ 16) (h4 : 3 ≤ a2) (h5 : a2 ≤ 8) (h6 : 1 ≤ a3) (h7 : a3 ≤ 1024) (h8 : 0 ≤ a4) (h9 : a4 ≤ 64) (h10 : 1 ≤ a5) (h11 : a5 ≤ 1024) (h12 : 1 ≤ a6) (g : 64 < a6) : Calls Try.prog 18 #[.agg #[.int .i64 a0, .int .i64 a1, .int .i64 a2, .int .i64 a3, .int .i64 a4, .int .i64 a5, .int .i64 a6]] w fun e w' =>
    e = .returned (.bool false) ∧ Below w.heap.size w w' := by
  go_enter Try.func18, Try.ntmps18
  go_wp2
  go_ret
  exact ⟨ret_bool (decide_eq_false (by omega)), (Below.refl _ _).alloc (Nat.le_refl _) _⟩

theorem config_any (a0 a1 a2 a3 a4 a5 a6 : Int) (w : World) : Calls Try.prog 18 #[.agg #[.int .i64 a0, .int .i64 a1, .int .i64 a2, .int .i64 a3, .int .i64 a4, .int .i64 a5, .int .i64 a6]] w fun e w' =>
    e = .returned (.bool (okCfg a0 a1 a2 a3 a4 a5 a6)) ∧ Below w.heap.size w w' := by
  cases hok : okCfg a0 a1 a2 a3 a4 a5 a6
  · by_cases h0 : 1 ≤ a0
    case neg => exact config_no0 a0 a1 a2 a3 a4 a5 a6 w  (by omega)
    by_cases h1 : a0 ≤ 16
    case neg => exact config_no1 a0 a1 a2 a3 a4 a5 a6 w h0 (by omega)
    by_cases h2 : 1 ≤ a1
    case neg => exact config_no2 a0 a1 a2 a3 a4 a5 a6 w h0 h1 (by omega)
    by_cases h3 : a1 ≤ 16
    case neg => exact config_no3 a0 a1 a2 a3 a4 a5 a6 w h0 h1 h2 (by omega)
    by_cases h4 : 3 ≤ a2
    case neg => exact config_no4 a0 a1 a2 a3 a4 a5 a6 w h0 h1 h2 h3 (by omega)
    by_cases h5 : a2 ≤ 8
    case neg => exact config_no5 a0 a1 a2 a3 a4 a5 a6 w h0 h1 h2 h3 h4 (by omega)
    by_cases h6 : 1 ≤ a3
    case neg => exact config_no6 a0 a1 a2 a3 a4 a5 a6 w h0 h1 h2 h3 h4 h5 (by omega)
    by_cases h7 : a3 ≤ 1024
    case neg => exact config_no7 a0 a1 a2 a3 a4 a5 a6 w h0 h1 h2 h3 h4 h5 h6 (by omega)
    by_cases h8 : 0 ≤ a4
    case neg => exact config_no8 a0 a1 a2 a3 a4 a5 a6 w h0 h1 h2 h3 h4 h5 h6 h7 (by omega)
    by_cases h9 : a4 ≤ 64
    case neg => exact config_no9 a0 a1 a2 a3 a4 a5 a6 w h0 h1 h2 h3 h4 h5 h6 h7 h8 (by omega)
    by_cases h10 : 1 ≤ a5
    case neg => exact config_no10 a0 a1 a2 a3 a4 a5 a6 w h0 h1 h2 h3 h4 h5 h6 h7 h8 h9 (by omega)
    by_cases h11 : a5 ≤ 1024
    case neg => exact config_no11 a0 a1 a2 a3 a4 a5 a6 w h0 h1 h2 h3 h4 h5 h6 h7 h8 h9 h10 (by omega)
    by_cases h12 : 1 ≤ a6
    case neg => exact config_no12 a0 a1 a2 a3 a4 a5 a6 w h0 h1 h2 h3 h4 h5 h6 h7 h8 h9 h10 h11 (by omega)
    by_cases h13 : a6 ≤ 64
    case neg => exact config_no13 a0 a1 a2 a3 a4 a5 a6 w h0 h1 h2 h3 h4 h5 h6 h7 h8 h9 h10 h11 h12 (by omega)
    exfalso
    simp [okCfg] at hok
    omega
  · simp [okCfg] at hok
    obtain ⟨⟨⟨⟨⟨⟨⟨⟨⟨⟨⟨⟨⟨h0, h1⟩, h2⟩, h3⟩, h4⟩, h5⟩, h6⟩, h7⟩, h8⟩, h9⟩, h10⟩, h11⟩, h12⟩, h13⟩ := hok
    go_enter Try.func18, Try.ntmps18
    go_wp2
    go_ret
    exact ⟨rfl, (Below.refl _ _).alloc (Nat.le_refl _) _⟩

end Go.Proofs.Ytaokjiajceefaaa
