import Derived.Test.YtnpljffnopmaiaaWeN
import Derived.Test.YtnpljffnopmaiaaWp
import Derived.Laws.Bits64
/-
  THE BITS OF A FLOAT64, as whole numbers.
-/
set_option linter.all false
namespace Go.Pi
theorem u64_in (n : Nat) (h : n < 18446744073709551616) : IntKind.u64.wrap (n : Int) = n := by
  rw [IntKind.wrap_u64]; omega
theorem nat_xor63 {b : Nat} (h : b < 18446744073709551616) : b ^^^ 2 ^ 63 = if b < 9223372036854775808 then b + 9223372036854775808 else b - 9223372036854775808 := by
  have e1 : (b ^^^ 2 ^ 63) / 2 ^ 63 = b / 2 ^ 63 ^^^ 1 := by rw [Nat.xor_div_two_pow]
  have e2 : (b ^^^ 2 ^ 63) % 2 ^ 63 = b % 2 ^ 63 := by rw [Nat.xor_mod_two_pow]; simp
  have e3 := Nat.div_add_mod (b ^^^ 2 ^ 63) (2 ^ 63)
  rw [e1, e2] at e3
  have e4 : b / 2 ^ 63 = 0 ∨ b / 2 ^ 63 = 1 := by omega
  rw [← e3]
  rcases e4 with e4 | e4 <;> rw [e4]
  · rw [if_pos (by omega)]
    have : (0 ^^^ 1 : Nat) = 1 := by decide
    rw [this]; omega
  · rw [if_neg (by omega)]
    have : (1 ^^^ 1 : Nat) = 0 := by decide
    rw [this]; omega
theorem nat_or63 {b : Nat} (h : b < 18446744073709551616) : b ||| 2 ^ 63 = if b < 9223372036854775808 then b + 9223372036854775808 else b := by
  have e1 : (b ||| 2 ^ 63) / 2 ^ 63 = b / 2 ^ 63 ||| 1 := by rw [Nat.or_div_two_pow]
  have e2 : (b ||| 2 ^ 63) % 2 ^ 63 = b % 2 ^ 63 := by rw [Nat.or_mod_two_pow]; simp
  have e3 := Nat.div_add_mod (b ||| 2 ^ 63) (2 ^ 63)
  rw [e1, e2] at e3
  have e4 : b / 2 ^ 63 = 0 ∨ b / 2 ^ 63 = 1 := by omega
  rw [← e3]
  rcases e4 with e4 | e4 <;> rw [e4]
  · rw [if_pos (by omega)]
    have : (0 ||| 1 : Nat) = 1 := by decide
    rw [this]; omega
  · rw [if_neg (by omega)]
    have : (1 ||| 1 : Nat) = 1 := by decide
    rw [this]; omega
theorem bv_nat (n : Nat) (h : n < 18446744073709551616) : (BitVec.ofInt 64 (n : Int)).toNat = n := by
  rw [BitVec.ofInt_natCast, BitVec.toNat_ofNat]; omega
theorem ixor_sign {b : Nat} (h : b < 18446744073709551616) : ixor .u64 (b : Int) 9223372036854775808 = ((if b < 9223372036854775808 then b + 9223372036854775808 else b - 9223372036854775808 : Nat) : Int) := by
  show IntKind.u64.wrap ((BitVec.ofInt 64 (b : Int) ^^^ BitVec.ofInt 64 (9223372036854775808 : Int)).toNat : Int) = _
  have e : (BitVec.ofInt 64 (9223372036854775808 : Int)).toNat = 2 ^ 63 := by decide +kernel
  rw [BitVec.toNat_xor, bv_nat b h, e, nat_xor63 h, u64_in]
  split <;> omega
theorem ixor_max {b : Nat} (h : b < 18446744073709551616) : ixor .u64 (IntKind.max .u64) (b : Int) = ((18446744073709551615 - b : Nat) : Int) := by
  show IntKind.u64.wrap ((BitVec.ofInt 64 (IntKind.max .u64) ^^^ BitVec.ofInt 64 (b : Int)).toNat : Int) = _
  have e : BitVec.ofInt 64 (IntKind.max .u64) = BitVec.allOnes 64 := by decide +kernel
  rw [e, BitVec.allOnes_xor, BitVec.toNat_not, bv_nat b h]
  have e2 : 2 ^ 64 - 1 - b = 18446744073709551615 - b := by omega
  rw [e2, u64_in]
  omega
theorem ior_sign {b : Nat} (h : b < 18446744073709551616) : ior .u64 (b : Int) 9223372036854775808 = ((if b < 9223372036854775808 then b + 9223372036854775808 else b : Nat) : Int) := by
  show IntKind.u64.wrap ((BitVec.ofInt 64 (b : Int) ||| BitVec.ofInt 64 (9223372036854775808 : Int)).toNat : Int) = _
  have e : (BitVec.ofInt 64 (9223372036854775808 : Int)).toNat = 2 ^ 63 := by decide +kernel
  rw [BitVec.toNat_or, bv_nat b h, e, nat_or63 h, u64_in]
  split <;> omega
theorem iandn_sign {b : Nat} (h : b < 18446744073709551616) : iandn .u64 (b : Int) 9223372036854775808 = ((b % 9223372036854775808 : Nat) : Int) := by
  show IntKind.u64.wrap ((BitVec.ofInt 64 (b : Int) &&& ~~~ BitVec.ofInt 64 (9223372036854775808 : Int)).toNat : Int) = _
  have e : (~~~ BitVec.ofInt 64 (9223372036854775808 : Int)).toNat = 2 ^ 63 - 1 := by decide +kernel
  rw [BitVec.toNat_and, bv_nat b h, e, Nat.and_two_pow_sub_one_eq_mod, u64_in]
  omega
theorem shr_sign (b : Nat) : shrI .u64 (b : Int) 63 = ((b / 9223372036854775808 : Nat) : Int) := by
  unfold shrI
  have e : ((2 : Int) ^ min (63 : Int).toNat (IntKind.bits .u64)) = 9223372036854775808 := by decide +kernel
  rw [e, Int.fdiv_eq_ediv_of_nonneg _ (by omega)]
  omega
theorem copyNeg_eq {b : Nat} (h : b < 18446744073709551616) : copyNeg b = if b < 9223372036854775808 then b + 9223372036854775808 else b := by
  unfold copyNeg
  have e : iand .u64 13830554455654793216 9223372036854775808 = 9223372036854775808 := by decide +kernel
  rw [e, iandn_sign h, ior_sign (by omega)]
  rw [Int.toNat_natCast]
  split <;> split <;> omega
theorem fNeg_eq {b : Nat} (h : b < 18446744073709551616) : fNeg (some b) = some (if b < 9223372036854775808 then b + 9223372036854775808 else b - 9223372036854775808) := by
  show some (b ^^^ 2 ^ 63) = _
  rw [nat_xor63 h]
end Go.Pi

