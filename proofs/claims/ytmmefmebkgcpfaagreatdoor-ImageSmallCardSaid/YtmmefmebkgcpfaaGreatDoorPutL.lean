/- Numbers as bytes: plain. -/
import Derived.Test.YtmmefmebkgcpfaaGreatDoorQvR2
import Derived.IntWalk
namespace Go.Qv
open Go
def putN (n : Nat) : List Nat := if h : n < 128 then [n] else (n % 128 + 128) :: putN (n / 128)
termination_by n
decreasing_by omega
def putB (n : Int) : List DV := (putN n.toNat).map fun b : Nat => .int .u8 (b : Int)
theorem putN_lt {n : Nat} (h : n < 128) : putN n = [n] := by rw [putN, dif_pos h]
theorem putN_ge {n : Nat} (h : 128 ≤ n) : putN n = (n % 128 + 128) :: putN (n / 128) := by rw [putN, dif_neg (by omega)]
set_option maxRecDepth 100000 in
theorem or128 (x : Nat) : (x % 256) ||| 128 = x % 128 + 128 := by
  have key : ∀ y : Fin 256, y.val ||| 128 = y.val % 128 + 128 := by decide
  have := key ⟨x % 256, by omega⟩
  simp only at this
  rw [this]; omega
theorem bor128 (i : Int) (h : 0 ≤ i) : bitsI .or .u8 (IntKind.wrap .u8 i) 128 = i % 128 + 128 := by
  obtain ⟨n, rfl⟩ := Int.eq_ofNat_of_zero_le h
  have h1 : IntKind.wrap .u8 (n : Int) = ((n % 256 : Nat) : Int) := by rw [IntKind.wrap_u8]; omega
  rw [h1]
  simp only [bitsI]
  have e1 : (BitVec.ofInt IntKind.u8.bits ((n % 256 : Nat) : Int) ||| BitVec.ofInt IntKind.u8.bits 128).toNat = (n % 256) ||| 128 := by
    rw [BitVec.toNat_or]
    have a1 : (BitVec.ofInt IntKind.u8.bits ((n % 256 : Nat) : Int)).toNat = n % 256 := by
      simp [IntKind.bits, BitVec.toNat_ofInt]; omega
    have a2 : (BitVec.ofInt IntKind.u8.bits 128).toNat = 128 := by decide
    rw [a1, a2]
  rw [e1, or128, IntKind.wrap_u8]
  omega
theorem band63 (n : Int) (h0 : 0 ≤ n) (h : n < 9223372036854775808) : bitsI .and .u64 n 9223372036854775807 = n := by
  obtain ⟨m, rfl⟩ := Int.eq_ofNat_of_zero_le h0
  simp only [bitsI]
  have e1 : (BitVec.ofInt IntKind.u64.bits (m : Int) &&& BitVec.ofInt IntKind.u64.bits 9223372036854775807).toNat = m := by
    rw [BitVec.toNat_and]
    have a1 : (BitVec.ofInt IntKind.u64.bits (m : Int)).toNat = m := by
      simp [IntKind.bits]; omega
    have a2 : (BitVec.ofInt IntKind.u64.bits 9223372036854775807).toNat = 2 ^ 63 - 1 := by decide
    rw [a1, a2, Nat.and_two_pow_sub_one_eq_mod]
    omega
  rw [e1, IntWalk.u64_in _ (by omega)]
theorem fdiv128 (i : Int) (h : 0 ≤ i) : Int.fdiv i (2 ^ min 7 64) = i / 128 := by
  rw [Int.fdiv_eq_ediv_of_nonneg _ (by decide)]
  rfl
theorem putN_len : ∀ (k n : Nat), n < 128 ^ (k + 1) → (putN n).length ≤ k + 1
  | 0, n, h => by rw [putN_lt (by simpa using h)]; simp
  | k + 1, n, h => by
    by_cases h1 : n < 128
    · rw [putN_lt h1]; simp
    · rw [putN_ge (by omega)]
      have := putN_len k (n / 128) (by rw [Nat.pow_succ] at h; omega)
      simp only [List.length_cons]; omega
end Go.Qv
