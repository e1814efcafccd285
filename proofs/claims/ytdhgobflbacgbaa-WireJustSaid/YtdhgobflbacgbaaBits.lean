/- The bits and shifts of the number reader, as sums. No conditions beyond those stated. -/
import Derived.Test.YtdhgobflbacgbaaKit
import Derived.Laws.BitsAllLaws
import Derived.Laws.BitsLemmas
namespace Go.Proofs.Ytdhgobflbacgbaa
open Go.RowKit

set_option maxRecDepth 100000 in
theorem and127 : ∀ m : Fin 256, bits BinOp.and IntKind.u8 (m.val : Int) 127 = ((m.val % 128 : Nat) : Int) := by decide
theorem and127k {x : Nat} (h : x < 256) : bits BinOp.and IntKind.u8 (x : Int) 127 = ((x % 128 : Nat) : Int) := and127 ⟨x, h⟩

theorem ofInt_i64 (a : Nat) (ha : a < 9223372036854775808) : (BitVec.ofInt 64 (a : Int)).toNat = a := by
  rw [BitVec.ofInt_natCast, BitVec.toNat_ofNat]; exact Nat.mod_eq_of_lt (by omega)
theorem i64_or_nat (a b : Nat) (ha : a < 9223372036854775808) (hb : b < 9223372036854775808) : bits .or .i64 (a : Int) (b : Int) = ((a ||| b : Nat) : Int) := by
  have hx : a ||| b < 2 ^ 63 := Nat.or_lt_two_pow (by omega) (by omega)
  show IntKind.i64.wrap ((BitVec.ofInt 64 (a : Int) ||| BitVec.ofInt 64 (b : Int)).toNat : Int) = _
  rw [BitVec.toNat_or, ofInt_i64 a ha, ofInt_i64 b hb, IntKind.wrap_i64]
  omega

theorem pow_le8 {i : Nat} (h : i ≤ 8) : 128 ^ i ≤ 72057594037927936 := by
  have : 128 ^ i ≤ 128 ^ 8 := Nat.pow_le_pow_right (by omega) h
  omega
theorem pow_le7 {i : Nat} (h : i ≤ 7) : 128 ^ i ≤ 562949953421312 := by
  have : 128 ^ i ≤ 128 ^ 7 := Nat.pow_le_pow_right (by omega) h
  omega
theorem pow7 (i : Nat) : (2 : Nat) ^ (7 * i) = 128 ^ i := by rw [Nat.pow_mul]

theorem term_lt {x i : Nat} (hi : i ≤ 8) : x % 128 * 128 ^ i ≤ 127 * 128 ^ i ∧ x % 128 * 128 ^ i < 9223372036854775808 := by
  have h1 : x % 128 ≤ 127 := by omega
  have h2 := Nat.mul_le_mul_right (128 ^ i) h1
  have h3 := pow_le8 hi
  exact ⟨h2, by omega⟩

theorem term_eq {x i : Nat} (hi : i ≤ 8) (hx : x < 256) : wrap64 (wrap64 (bits BinOp.and IntKind.u8 (x : Int) 127) * 2 ^ (7 * i)) = ((x % 128 * 128 ^ i : Nat) : Int) := by
  have h0 := (term_lt (x := x) hi).2
  rw [and127k hx]
  have e1 : wrap64 ((x % 128 : Nat) : Int) = ((x % 128 : Nat) : Int) := IntWalk.wrap64_in _ (by omega)
  rw [e1]
  have e2 : (((x % 128 : Nat) : Int) * 2 ^ (7 * i)) = ((x % 128 * 128 ^ i : Nat) : Int) := by
    rw [← pow7]; simp
  rw [e2]
  exact IntWalk.wrap64_in _ (by omega)

theorem acc_eq {x i s : Nat} (hi : i ≤ 8) (hx : x < 256) (hs : s < 128 ^ i) :
    bits BinOp.or IntKind.i64 (s : Int) (wrap64 (wrap64 (bits BinOp.and IntKind.u8 (x : Int) 127) * 2 ^ (7 * i))) = ((s + x % 128 * 128 ^ i : Nat) : Int) := by
  rw [term_eq hi hx]
  have h0 := (term_lt (x := x) hi).2
  have h3 := pow_le8 hi
  rw [i64_or_nat _ _ (by omega) h0]
  have h4 : 2 ^ (7 * i) * (x % 128) + s = 2 ^ (7 * i) * (x % 128) ||| s := Nat.two_pow_add_eq_or_of_lt (by rw [pow7]; exact hs) _
  rw [pow7] at h4
  rw [Nat.or_comm, Nat.mul_comm (x % 128), ← h4, Nat.add_comm]

theorem acc_lt {x i s : Nat} (hs : s < 128 ^ i) : s + x % 128 * 128 ^ i < 128 ^ (i + 1) := by
  have h1 : x % 128 ≤ 127 := by omega
  have h2 := Nat.mul_le_mul_right (128 ^ i) h1
  rw [Nat.pow_succ]
  omega
end Go.Proofs.Ytdhgobflbacgbaa
