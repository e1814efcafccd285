/- What the number bytes are, and how they are read: plain lists, no program in sight. No conditions. -/
namespace Go.Proofs.Ytdhgobflbacgbaa.W

/-- the bytes of a number -/
def num (n : Nat) : List UInt8 :=
  if n < 128 then [UInt8.ofNat n] else UInt8.ofNat (n % 128 + 128) :: num (n / 128)
termination_by n
decreasing_by omega

theorem num_lt {n : Nat} (h : n < 128) : num n = [UInt8.ofNat n] := by rw [num, if_pos h]
theorem num_ge {n : Nat} (h : 128 ≤ n) : num n = UInt8.ofNat (n % 128 + 128) :: num (n / 128) := by rw [num, if_neg (by omega)]

theorem num_pos (n : Nat) : 0 < (num n).length := by
  rw [num]; split <;> simp

theorem num_len_le (k : Nat) : ∀ n, n < 128 ^ (k + 1) → (num n).length ≤ k + 1 := by
  induction k with
  | zero => intro n h; rw [num_lt (by simpa using h)]; simp
  | succ k ih =>
    intro n h
    by_cases h1 : n < 128
    · rw [num_lt h1]; simp
    · rw [num_ge (by omega)]
      have h2 : n / 128 < 128 ^ (k + 1) := by
        rw [Nat.div_lt_iff_lt_mul (by omega)]
        rw [Nat.pow_succ] at h
        exact h
      have := ih _ h2
      simp only [List.length_cons]; omega

theorem num_len9 {n : Nat} (h : n < 9223372036854775808) : (num n).length ≤ 9 := num_len_le 8 n h

/-- how a number is read off bytes: i bytes are behind, s is their sum: the error, or the number and how many bytes it has -/
def getL : Nat → Nat → List UInt8 → Nat ⊕ (Nat × Nat)
  | _, _, [] => .inl 8
  | i, s, x :: l =>
    if 128 ≤ x.toNat ∧ i = 8 then .inl 9
    else if x.toNat = 0 ∧ 0 < i then .inl 7
    else if x.toNat < 128 then .inr (s + x.toNat % 128 * 128 ^ i, i + 1)
    else getL (i + 1) (s + x.toNat % 128 * 128 ^ i) l

theorem getL_range {s : Nat} {y : UInt8} {l : List UInt8} (h : 128 ≤ y.toNat) : getL 8 s (y :: l) = .inl 9 := by
  rw [getL, if_pos ⟨h, rfl⟩]
theorem getL_form {i s : Nat} {y : UInt8} {l : List UInt8} (h : y.toNat = 0) (hi : 0 < i) : getL i s (y :: l) = .inl 7 := by
  rw [getL, if_neg (by omega), if_pos ⟨h, hi⟩]
theorem getL_last {i s : Nat} {y : UInt8} {l : List UInt8} (h : y.toNat < 128) (hi : y.toNat = 0 → i = 0) : getL i s (y :: l) = .inr (s + y.toNat % 128 * 128 ^ i, i + 1) := by
  rw [getL, if_neg (by omega), if_neg (by omega), if_pos h]
theorem getL_more {i s : Nat} {y : UInt8} {l : List UInt8} (h : 128 ≤ y.toNat) (hi : i ≠ 8) : getL i s (y :: l) = getL (i + 1) (s + y.toNat % 128 * 128 ^ i) l := by
  rw [getL, if_neg (by omega), if_neg (by omega), if_neg (by omega)]

/-- an answer of 'getL' at place p: number, next place, error -/
def gfin (p : Nat) : Nat ⊕ (Nat × Nat) → Nat × Nat × Nat
  | .inl e => (0, 0, e)
  | .inr (n, k) => (n, p + k, 0)

/-- the number that stands at a place: number, next place, error -/
def gnum (b : List UInt8) (p : Int) : Nat × Nat × Nat :=
  if p < 0 ∨ (b.length : Int) < p then (0, 0, 1) else gfin p.toNat (getL 0 0 (b.drop p.toNat))

end Go.Proofs.Ytdhgobflbacgbaa.W
