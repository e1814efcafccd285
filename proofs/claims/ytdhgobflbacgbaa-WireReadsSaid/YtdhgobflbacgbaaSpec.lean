/- What the number bytes are, and how they are read: plain lists, no program in sight. No conditions. -/
namespace Go.Proofs.Ytdhgobflbacgbaa.W

/-- the bytes of a number -/
def num (n : Nat) : List UInt8 :=
  if n < 128 then [UInt8.ofNat n] else UInt8.ofNat (n % 128 + 128) :: num (n / 128)
termination_by n
decreasing_by omega

theorem num_lt {n : Nat} (h : n < 128) : num n = [UInt8.ofNat n] := by rw [num, if_pos h]
theorem num_ge {n : Nat} (h : 128 ≤ n) : num n = UInt8.ofNat (n % 128 + 128) :: num (n / 128) := by rw [num, if_neg (by omega)]

theorem num_pos (n : Nat) : 0 < (num n).length := by
  rw [num]; split <;> simp

theorem num_len_le (k : Nat) : ∀ n, n < 128 ^ (k + 1) → (num n).length ≤ k + 1 := by
  induction k with
  | zero => intro n h; rw [num_lt (by simpa using h)]; simp
  | succ k ih =>
    intro n h
    by_cases h1 : n < 128
    · rw [num_lt h1]; simp
    · rw [num_ge (by omega)]
      have h2 : n / 128 < 128 ^ (k + 1) := by
        rw [Nat.div_lt_iff_lt_mul (by omega)]
        rw [Nat.pow_succ] at h
        exact h
      have := ih _ h2
      simp only [List.length_cons]; omega

theorem num_len9 {n : Nat} (h : n < 9223372036854775808) : (num n).length ≤ 9 := num_len_le 8 n h

/-- how a number is read off bytes: i bytes are behind, s is their sum: the error, or the number and how many bytes it has -/
def getL : Nat → Nat → List UInt8 → Nat ⊕ (Nat × Nat)
  | _, _, [] => .inl 8
  | i, s, x :: l =>
    if 128 ≤ x.toNat ∧ i = 8 then .inl 9
    else if x.toNat = 0 ∧ 0 < i then .inl 7
    else if x.toNat < 128 then .inr (s + x.toNat % 128 * 128 ^ i, i + 1)
    else getL (i + 1) (s + x.toNat % 128 * 128 ^ i) l

theorem getL_range {s : Nat} {y : UInt8} {l : List UInt8} (h : 128 ≤ y.toNat) : getL 8 s (y :: l) = .inl 9 := by
  rw [getL, if_pos ⟨h, rfl⟩]
theorem getL_form {i s : Nat} {y : UInt8} {l : List UInt8} (h : y.toNat = 0) (hi : 0 < i) : getL i s (y :: l) = .inl 7 := by
  rw [getL, if_neg (by omega), if_pos ⟨h, hi⟩]
theorem getL_last {i s : Nat} {y : UInt8} {l : List UInt8} (h : y.toNat < 128) (hi : y.toNat = 0 → i = 0) : getL i s (y :: l) = .inr (s + y.toNat % 128 * 128 ^ i, i + 1) := by
  rw [getL, if_neg (by omega), if_neg (by omega), if_pos h]
theorem getL_more {i s : Nat} {y : UInt8} {l : List UInt8} (h : 128 ≤ y.toNat) (hi : i ≠ 8) : getL i s (y :: l) = getL (i + 1) (s + y.toNat % 128 * 128 ^ i) l := by
  rw [getL, if_neg (by omega), if_neg (by omega), if_neg (by omega)]

/-- an answer of 'getL' at place p: number, next place, error -/
def gfin (p : Nat) : Nat ⊕ (Nat × Nat) → Nat × Nat × Nat
  | .inl e => (0, 0, e)
  | .inr (n, k) => (n, p + k, 0)

/-- the number that stands at a place: number, next place, error -/
def gnum (b : List UInt8) (p : Int) : Nat × Nat × Nat :=
  if p < 0 ∨ (b.length : Int) < p then (0, 0, 1) else gfin p.toNat (getL 0 0 (b.drop p.toNat))


theorem num_mono : ∀ (n m : Nat), n ≤ m → (num n).length ≤ (num m).length := by
  intro n
  induction n using Nat.strongRecOn with
  | _ n ih =>
    intro m h
    by_cases h1 : n < 128
    · rw [num_lt h1]; exact num_pos m
    · rw [num_ge (by omega), num_ge (show 128 ≤ m by omega)]
      simp only [List.length_cons]
      have := ih (n / 128) (by omega) (m / 128) (by omega)
      omega
theorem num_128 {n : Nat} (h : 0 < n) : (num (128 * n)).length = (num n).length + 1 := by
  rw [num_ge (show 128 ≤ 128 * n by omega), show 128 * n / 128 = n by omega]; rfl

theorem getL_bounds : ∀ (l : List UInt8) (i s n k : Nat), i ≤ 8 → s < 128 ^ i → getL i s l = .inr (n, k) → i < k ∧ k ≤ i + l.length ∧ k ≤ 9 ∧ n < 128 ^ k := by
  intro l
  induction l with
  | nil => intro i s n k _ _ h; simp [getL] at h
  | cons y l ih =>
    intro i s n k hi hs h
    have hb : s + y.toNat % 128 * 128 ^ i < 128 ^ (i + 1) := by
      have h1 : y.toNat % 128 ≤ 127 := by omega
      have h2 := Nat.mul_le_mul_right (128 ^ i) h1
      rw [Nat.pow_succ]
      omega
    rw [getL] at h
    split at h
    · cases h
    · rename_i h1
      split at h
      · cases h
      · split at h
        · injection h with h
          injection h with h3 h4
          subst h3 h4
          refine ⟨by omega, by simp, by omega, hb⟩
        · rename_i h5
          obtain ⟨a, b, c, d⟩ := ih (i + 1) _ n k (by omega) hb h
          exact ⟨by omega, by simp only [List.length_cons]; omega, c, d⟩

theorem gnum_ok {b : List UInt8} {p : Int} {n x : Nat} (h : gnum b p = (n, x, 0)) : 0 ≤ p ∧ p < (x : Int) ∧ x ≤ b.length ∧ n < 9223372036854775808 := by
  unfold gnum at h
  split at h
  · simp at h
  · rename_i hp
    generalize hg : getL 0 0 (b.drop p.toNat) = r at h
    cases r with
    | inl e =>
      have : e ≠ 0 := by
        intro he
        subst he
        have hne : ∀ (l : List UInt8) (i s : Nat), getL i s l ≠ .inl 0 := by
          intro l
          induction l with
          | nil => intro i s; simp [getL]
          | cons y l ih =>
            intro i s
            rw [getL]
            split
            · simp
            · split
              · simp
              · split
                · simp
                · exact ih _ _
        exact hne _ _ _ hg
      simp only [gfin, Prod.mk.injEq] at h
      exact absurd h.2.2 this
    | inr v =>
      obtain ⟨m, k⟩ := v
      obtain ⟨h1, h2, h3, h4⟩ := getL_bounds _ _ _ _ _ (by omega) (by simp) hg
      simp only [gfin, Prod.mk.injEq] at h
      obtain ⟨rfl, rfl, _⟩ := h
      have h5 : 128 ^ k ≤ 128 ^ 9 := Nat.pow_le_pow_right (by omega) h3
      rw [List.length_drop] at h2
      omega

/-- an error gives zeros -/
theorem gnum_err {b : List UInt8} {p : Int} (h : (gnum b p).2.2 ≠ 0) : gnum b p = (0, 0, (gnum b p).2.2) := by
  unfold gnum at h ⊢
  split
  · rfl
  · rename_i hp
    rw [if_neg hp] at h
    generalize getL 0 0 (b.drop p.toNat) = r at h ⊢
    cases r with
    | inl e => rfl
    | inr v => simp [gfin] at h

/-- the bytes of a text -/
def text (s : List UInt8) : List UInt8 := num s.length ++ s

/-- the text that stands at a place: text, next place, error -/
def gtext (b : List UInt8) (p : Int) : List UInt8 × Nat × Nat :=
  if (gnum b p).2.2 ≠ 0 then ([], 0, (gnum b p).2.2)
  else if 131072 < (gnum b p).1 then ([], 0, 3)
  else if b.length - (gnum b p).2.1 < (gnum b p).1 then ([], 0, 8)
  else ((b.drop (gnum b p).2.1).take (gnum b p).1, (gnum b p).2.1 + (gnum b p).1, 0)

/-- the bytes of the texts of a list, one behind the other -/
def texts : List (List UInt8) → List UInt8
  | [] => []
  | s :: l => text s ++ texts l
theorem texts_append (a b : List (List UInt8)) : texts (a ++ b) = texts a ++ texts b := by
  induction a with
  | nil => rfl
  | cons s a ih => simp [texts, ih]
/-- the bytes of a list -/
def list (l : List (List UInt8)) : List UInt8 := num l.length ++ texts l

theorem texts_take_succ {l : List (List UInt8)} {k : Nat} (h : k < l.length) : texts (l.take (k + 1)) = texts (l.take k) ++ num l[k].length ++ l[k] := by
  rw [List.take_succ_eq_append_getElem h, texts_append]
  simp [texts, text]
theorem texts_take_le (l : List (List UInt8)) (k : Nat) : (texts (l.take k)).length ≤ (texts l).length := by
  conv => rhs; rw [← List.take_append_drop k l]
  rw [texts_append]; simp

/-- k texts from a place on, behind those that were read -/
def glistF (b : List UInt8) : Nat → Nat → List (List UInt8) → List (List UInt8) × Nat × Nat
  | 0, x, acc => (acc, x, 0)
  | k + 1, x, acc =>
    if (gtext b x).2.2 ≠ 0 then ([], 0, (gtext b x).2.2)
    else glistF b k (gtext b x).2.1 (acc ++ [(gtext b x).1])

/-- the list that stands at a place: list, next place, error -/
def glist (b : List UInt8) (p : Int) : List (List UInt8) × Nat × Nat :=
  if (gnum b p).2.2 ≠ 0 then ([], 0, (gnum b p).2.2)
  else if 131072 < (gnum b p).1 then ([], 0, 3)
  else glistF b (gnum b p).1 (gnum b p).2.1 []

theorem gtext_ok {b : List UInt8} {p : Int} {s : List UInt8} {x : Nat} (h : gtext b p = (s, x, 0)) : 0 ≤ p ∧ p < (x : Int) ∧ x ≤ b.length := by
  unfold gtext at h
  split at h
  · rename_i h0; simp only [Prod.mk.injEq] at h; exact absurd h.2.2 h0
  · split at h
    · simp at h
    · split at h
      · simp at h
      · rename_i h0 h1 h2
        simp only [ne_eq, Classical.not_not] at h0
        obtain ⟨n, y, e, hg⟩ : ∃ n y e, gnum b p = (n, y, e) := ⟨_, _, _, rfl⟩
        rw [hg] at h0 h1 h2 h
        simp only at h0 h1 h2 h
        subst h0
        obtain ⟨a, b, c, _⟩ := gnum_ok hg
        simp only [Prod.mk.injEq] at h
        omega
theorem gtext_err {b : List UInt8} {p : Int} (h : (gtext b p).2.2 ≠ 0) : gtext b p = ([], 0, (gtext b p).2.2) := by
  unfold gtext at h ⊢
  split
  · rfl
  · split
    · rfl
    · split
      · rfl
      · rename_i h0 h1 h2
        rw [if_neg h0, if_neg h1, if_neg h2] at h
        simp at h

end Go.Proofs.Ytdhgobflbacgbaa.W
