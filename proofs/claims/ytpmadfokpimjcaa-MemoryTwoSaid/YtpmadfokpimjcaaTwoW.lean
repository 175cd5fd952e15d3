/-
MemoryTwo returns true: whichever memories are there.
-/
import Derived.Test.YtpmadfokpimjcaaTwo
import Derived.Test.YtpmadfokpimjcaaTwoB
import Derived.Test.YtpmadfokpimjcaaTwoN
namespace Go.Proofs.Ytpmadfokpimjcaa
open Go.ChangeShapes Go.WideShapes Go.ChangeAt Go.RowKit

theorem long_slice {w : World} {v : Value} {l : List Int} (hs : w.Src 1 v l.length (u64s l)) (hl : l.length ≤ maxLen) (hn : ¬ l.length ≤ 8192) : ∃ a c, v = .slice (some a) l.length c ∧ 8192 < l.length ∧ l.length ≤ 9223372036854775807 := by
  unfold maxLen at hl
  rcases hs.2 with ⟨rfl, h0⟩ | ⟨a, c, rfl, hc, _⟩
  · omega
  · exact ⟨a, c, rfl, by omega, by omega⟩

theorem memoryTwo_walk {w : World} {vx va vy vb : Value} {l k : List Int} {one two : List OpS} (hs1 : w.Src 1 vx l.length (u64s l)) (hl1 : l.length ≤ maxLen) (ho1 : OpsIn w va one) (hm1 : one.length ≤ 2999999999999)
    (hs2 : w.Src 1 vy k.length (u64s k)) (hl2 : k.length ≤ maxLen) (ho2 : OpsIn w vb two) (hm2 : two.length ≤ 2999999999999) : Calls Try.prog 11 #[vx, va, vy, vb] w fun e w' => e = .returned (.bool true) ∧ Below w.heap.size w w' := by
  by_cases hn1 : l.length ≤ 8192
  · by_cases hn2 : k.length ≤ 8192
    · exact two_both hs1 hn1 ho1 hm1 hs2 hn2 ho2 hm2
    · obtain ⟨a, c, rfl, h1, h2⟩ := long_slice hs2 hl2 hn2
      exact two_first hs1 hn1 ho1 hm1 ho2 hm2 _ _ _ h1 h2
  · obtain ⟨a, c, rfl, h1, h2⟩ := long_slice hs1 hl1 hn1
    by_cases hn2 : k.length ≤ 8192
    · exact two_second hs2 hn2 ho1 hm1 ho2 hm2 _ _ _ h1 h2
    · obtain ⟨a', c', rfl, h3, h4⟩ := long_slice hs2 hl2 hn2
      exact two_none ho1 hm1 ho2 hm2 _ _ _ _ _ _ h1 h2 h3 h4
end Go.Proofs.Ytpmadfokpimjcaa
