/-
Plain facts on integers and endings that the walks of this seat use. No program is named here.
-/
import Derived.WalkKit
import Derived.ProofKit
import Derived.OpenShut
import Derived.Lib.Hide
namespace Go.Proofs.Ytbhbpfpggfcpgaa
open Go.RowKit

theorem ret_int {k : IntKind} {a b : Int} (h : a = b) : Ending.returned (.int k a) = .returned (.int k b) := by rw [h]
theorem ret_bool {a b : Bool} (h : a = b) : Ending.returned (.bool a) = .returned (.bool b) := by rw [h]
theorem ret_v {a b : Value} (h : a = b) : Ending.returned a = .returned b := by rw [h]

theorem bcell {W w1 : World} (hb : Below W.heap.size W w1) : (∀ b o, b < W.heap.size → w1.cell? ⟨b, o, none⟩ = W.cell? ⟨b, o, none⟩) ∧ (∀ b o, b < W.heap.size → w1.frozen? ⟨b, o, none⟩ = W.frozen? ⟨b, o, none⟩) :=
  ⟨fun b o h => hb.cell (p := ⟨b, o, none⟩) h, fun b o h => hb.frozen (p := ⟨b, o, none⟩) h⟩

/-- the word of a slot's number and a mark -/
def packLink (i : Int) (m : Bool) : Int := i + 1 + if m then 4294967296 else 0
def isLink (w : Int) : Bool := decide (w < 8589934592) && decide (w % 4294967296 ≤ 2147483647)
def linkIndex (w : Int) : Int := w % 4294967296 - 1
def linkMark (w : Int) : Bool := w / 4294967296 % 2 == 1
def packHead (t i : Int) : Int := t * 4294967296 + (i + 1)
def isHead (w : Int) : Bool := decide (w % 4294967296 ≤ 2147483647)

theorem or_mark (i : Int) (h0 : 0 ≤ i) (h1 : i ≤ 2147483647) : bits .or .u64 i 4294967296 = i + 4294967296 := by
  obtain ⟨n, rfl⟩ := Int.eq_ofNat_of_zero_le h0
  rw [show (4294967296 : Int) = ((4294967296 : Nat) : Int) from rfl, u64_or_nat _ _ (by omega) (by omega), Nat.or_comm,
    nat_join 32 _ _ (by rfl) (by omega)]
  omega

theorem and_low (v : Int) (h0 : 0 ≤ v) (h1 : v ≤ 18446744073709551615) : bits .and .u64 v 4294967295 = v % 4294967296 := by
  obtain ⟨n, rfl⟩ := Int.eq_ofNat_of_zero_le h0
  rw [show (4294967295 : Int) = ((4294967295 : Nat) : Int) from rfl, u64_and_nat _ _ (by omega) (by omega), nat_mask32]
  omega

theorem and_mark (v : Int) (h0 : 0 ≤ v) (h1 : v ≤ 18446744073709551615) : bits .and .u64 v 4294967296 = v / 4294967296 % 2 * 4294967296 := by
  obtain ⟨n, rfl⟩ := Int.eq_ofNat_of_zero_le h0
  rw [show (4294967296 : Int) = ((4294967296 : Nat) : Int) from rfl, u64_and_nat _ _ (by omega) (by omega), show (4294967296 : Nat) = 2 ^ 32 from rfl, nat_bit]
  omega

theorem mark_ne (v : Int) : (v / 4294967296 % 2 * 4294967296 != 0) = linkMark v := by
  unfold linkMark
  rw [Bool.eq_iff_iff]; simp; omega

theorem or_tag (t i : Int) (h0 : 0 ≤ t) (h1 : t ≤ 4294967295) (h2 : 0 ≤ i) (h3 : i ≤ 2147483647) : bits .or .u64 (t * 4294967296) i = t * 4294967296 + i := by
  obtain ⟨n, rfl⟩ := Int.eq_ofNat_of_zero_le h0
  obtain ⟨k, rfl⟩ := Int.eq_ofNat_of_zero_le h2
  rw [show (n : Int) * 4294967296 = ((n * 4294967296 : Nat) : Int) from by omega, u64_or_nat _ _ (by omega) (by omega),
    nat_join 32 _ _ (by omega) (by omega)]
  omega

end Go.Proofs.Ytbhbpfpggfcpgaa
