/- Masks. -/
import Derived.Laws.BitsLemmas
namespace Go.Proofs.Ytadohhhjpbhhoaa.Bits
set_option linter.unusedVariables false
theorem bits_mask64 (n : Int) (j : Nat) (hj : j ≤ 62) : Go.bits .and .i64 n ((2 ^ j - 1 : Nat) : Int) = n % ((2 ^ j : Nat) : Int) := by
  have hp : 2 ^ j ≤ 2 ^ 62 := Nat.pow_le_pow_right (by omega) hj
  have hp0 : 0 < 2 ^ j := Nat.two_pow_pos j
  have h127 : (BitVec.ofInt 64 ((2 ^ j - 1 : Nat) : Int)).toNat = 2 ^ j - 1 := by
    rw [BitVec.toNat_ofInt]; omega
  have key : (BitVec.ofInt 64 n &&& BitVec.ofInt 64 ((2 ^ j - 1 : Nat) : Int)).toNat = (n % ((2 ^ 64 : Nat) : Int)).toNat % 2 ^ j := by
    rw [BitVec.toNat_and, BitVec.toNat_ofInt, h127, Nat.and_two_pow_sub_one_eq_mod]
  show IntKind.i64.wrap ((BitVec.ofInt 64 n &&& BitVec.ofInt 64 ((2 ^ j - 1 : Nat) : Int)).toNat : Nat) = _
  rw [key, IntKind.wrap_i64]
  have hd : ((2 ^ j : Nat) : Int) ∣ ((2 ^ 64 : Nat) : Int) := Int.ofNat_dvd.mpr (Nat.pow_dvd_pow 2 (by omega))
  have e : (((n % ((2 ^ 64 : Nat) : Int)).toNat % 2 ^ j : Nat) : Int) = n % ((2 ^ j : Nat) : Int) := by
    rw [Int.natCast_emod, Int.toNat_of_nonneg (Int.emod_nonneg _ (by decide)), Int.emod_emod_of_dvd _ hd]
  have h1 : 0 ≤ n % ((2 ^ j : Nat) : Int) := Int.emod_nonneg _ (by omega)
  have h2 : n % ((2 ^ j : Nat) : Int) < ((2 ^ j : Nat) : Int) := Int.emod_lt_of_pos _ (by omega)
  rw [e]; omega
theorem bits_and1 (n : Int) : Go.bits .and .i64 n 1 = n % 2 := bits_mask64 n 1 (by omega)
theorem bits_and3 (n : Int) : Go.bits .and .i64 n 3 = n % 4 := bits_mask64 n 2 (by omega)
theorem bits_and7 (n : Int) : Go.bits .and .i64 n 7 = n % 8 := bits_mask64 n 3 (by omega)
theorem bits_and15 (n : Int) : Go.bits .and .i64 n 15 = n % 16 := bits_mask64 n 4 (by omega)
theorem bits_and31 (n : Int) : Go.bits .and .i64 n 31 = n % 32 := bits_mask64 n 5 (by omega)
theorem bits_and255 (n : Int) : Go.bits .and .i64 n 255 = n % 256 := bits_mask64 n 8 (by omega)
theorem bits_and65535 (n : Int) : Go.bits .and .i64 n 65535 = n % 65536 := bits_mask64 n 16 (by omega)
end Go.Proofs.Ytadohhhjpbhhoaa.Bits
