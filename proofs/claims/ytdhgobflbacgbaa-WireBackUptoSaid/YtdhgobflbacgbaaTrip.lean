/- Reading back what was written, and reading what lacks its last bytes: plain lists, no program in sight. -/
import Derived.Test.YtdhgobflbacgbaaSpec
namespace Go.Proofs.Ytdhgobflbacgbaa.W

theorem getL_num : ∀ (k n i s : Nat) (r : List UInt8), n < 128 ^ (k + 1) → i + k ≤ 8 → (n = 0 → i = 0) →
    getL i s (num n ++ r) = .inr (s + n * 128 ^ i, i + (num n).length) := by
  intro k
  induction k with
  | zero =>
    intro n i s r hn _ h0
    have hn : n < 128 := by simpa using hn
    have e : (UInt8.ofNat n).toNat = n := by simp [UInt8.toNat_ofNat']; omega
    rw [num_lt hn, List.singleton_append, getL_last (by omega) (by omega), e, Nat.mod_eq_of_lt hn]
    rfl
  | succ k ih =>
    intro n i s r hn hi h0
    by_cases h1 : n < 128
    · have e : (UInt8.ofNat n).toNat = n := by simp [UInt8.toNat_ofNat']; omega
      rw [num_lt h1, List.singleton_append, getL_last (by omega) (by omega), e, Nat.mod_eq_of_lt h1]
      rfl
    · have h2 : n / 128 < 128 ^ (k + 1) := by
        rw [Nat.div_lt_iff_lt_mul (by omega)]; rw [Nat.pow_succ] at hn; exact hn
      have e : (UInt8.ofNat (n % 128 + 128)).toNat = n % 128 + 128 := by simp [UInt8.toNat_ofNat']; omega
      rw [num_ge (by omega), List.cons_append, getL_more (by omega) (by omega), ih _ _ _ _ h2 (by omega) (by omega), e]
      have e2 : (n % 128 + 128) % 128 = n % 128 := by omega
      have e3 : n * 128 ^ i = (n % 128) * 128 ^ i + (n / 128) * 128 ^ (i + 1) := by
        rw [Nat.pow_succ, Nat.mul_comm (128 ^ i) 128, ← Nat.mul_assoc, ← Nat.add_mul]
        congr 1; omega
      rw [e2, e3, List.length_cons]
      congr 2 <;> omega

theorem getL_cut : ∀ (k n i s j : Nat), n < 128 ^ (k + 1) → i + k ≤ 8 → j < (num n).length → getL i s ((num n).take j) = .inl 8 := by
  intro k
  induction k with
  | zero =>
    intro n i s j hn _ hj
    have hn : n < 128 := by simpa using hn
    rw [num_lt hn] at hj ⊢
    obtain rfl : j = 0 := by simpa using hj
    rfl
  | succ k ih =>
    intro n i s j hn hi hj
    cases j with
    | zero => rfl
    | succ j =>
      by_cases h1 : n < 128
      · rw [num_lt h1] at hj; simp at hj
      · have h2 : n / 128 < 128 ^ (k + 1) := by
          rw [Nat.div_lt_iff_lt_mul (by omega)]; rw [Nat.pow_succ] at hn; exact hn
        have e : (UInt8.ofNat (n % 128 + 128)).toNat = n % 128 + 128 := by simp [UInt8.toNat_ofNat']; omega
        rw [num_ge (by omega)] at hj ⊢
        rw [List.take_succ_cons, getL_more (by omega) (by omega)]
        exact ih _ _ _ _ h2 (by omega) (by simpa using hj)

theorem gnum_num (a r : List UInt8) (n : Nat) (hn : n < 9223372036854775808) : gnum (a ++ (num n ++ r)) (a.length : Int) = (n, a.length + (num n).length, 0) := by
  unfold gnum
  rw [if_neg (by simp; omega), Int.toNat_natCast, List.drop_left, getL_num 8 n 0 0 r hn (by omega) (fun _ => rfl)]
  simp [gfin]

theorem gnum_cut (a : List UInt8) (n j : Nat) (hn : n < 9223372036854775808) (hj : j < (num n).length) : gnum (a ++ (num n).take j) (a.length : Int) = (0, 0, 8) := by
  unfold gnum
  rw [if_neg (by simp; omega), Int.toNat_natCast, List.drop_left, getL_cut 8 n 0 0 j hn (by omega) hj]
  rfl

theorem gtext_text (a r s : List UInt8) (hs : s.length ≤ 131072) : gtext (a ++ (text s ++ r)) (a.length : Int) = (s, a.length + (text s).length, 0) := by
  have h := gnum_num a (s ++ r) s.length (by omega)
  have e : a ++ (text s ++ r) = a ++ (num s.length ++ (s ++ r)) := by simp [text]
  unfold gtext
  rw [e, h]
  simp only [ne_eq, not_true, if_false]
  rw [if_neg (by omega), if_neg (by simp; omega), ← List.append_assoc, ← List.length_append, List.drop_left]
  simp [text, Nat.add_assoc]

theorem gtext_long (a r s : List UInt8) (hs : 131072 < s.length) (h9 : s.length < 9223372036854775808) : gtext (a ++ (text s ++ r)) (a.length : Int) = ([], 0, 3) := by
  have h := gnum_num a (s ++ r) s.length h9
  have e : a ++ (text s ++ r) = a ++ (num s.length ++ (s ++ r)) := by simp [text]
  unfold gtext
  rw [e, h]
  simp only [ne_eq, not_true, if_false]
  rw [if_pos hs]

theorem gtext_cut (a s : List UInt8) (j : Nat) (hs : s.length ≤ 131072) (hj : j < (text s).length) : gtext (a ++ (text s).take j) (a.length : Int) = ([], 0, 8) := by
  unfold gtext
  by_cases h : j < (num s.length).length
  · have e : (text s).take j = (num s.length).take j := by rw [text, List.take_append_of_le_length (by omega)]
    rw [e, gnum_cut a s.length j (by omega) h]
    simp
  · have e : (text s).take j = num s.length ++ s.take (j - (num s.length).length) := by
      rw [text, List.take_append, List.take_of_length_le (l := num s.length) (by omega)]
    have hl : (text s).length = (num s.length).length + s.length := by simp [text]
    rw [e, gnum_num a _ s.length (by omega)]
    simp only [ne_eq, not_true, if_false]
    rw [if_neg (by omega), if_pos (by simp; omega)]

theorem glistF_list : ∀ (L : List (List UInt8)) (a r : List UInt8) (acc : List (List UInt8)), (∀ s ∈ L, s.length ≤ 131072) →
    glistF (a ++ (texts L ++ r)) L.length a.length acc = (acc ++ L, a.length + (texts L).length, 0) := by
  intro L
  induction L with
  | nil => intro a r acc _; simp [glistF, texts]
  | cons s L ih =>
    intro a r acc h
    have h1 := gtext_text a (texts L ++ r) s (h s (by simp))
    have e : a ++ (texts (s :: L) ++ r) = a ++ (text s ++ (texts L ++ r)) := by simp [texts]
    rw [List.length_cons, glistF, e, h1]
    simp only [ne_eq, not_true, if_false]
    have h2 := ih (a ++ text s) r (acc ++ [s]) (fun t ht => h t (by simp [ht]))
    rw [List.length_append, List.append_assoc] at h2
    rw [h2]
    simp [texts, Nat.add_assoc]

theorem glistF_cut : ∀ (L : List (List UInt8)) (a : List UInt8) (j : Nat) (acc : List (List UInt8)), (∀ s ∈ L, s.length ≤ 131072) → j < (texts L).length →
    glistF (a ++ (texts L).take j) L.length a.length acc = ([], 0, 8) := by
  intro L
  induction L with
  | nil => intro a j acc _ hj; simp [texts] at hj
  | cons s L ih =>
    intro a j acc h hj
    have hs := h s (by simp)
    rw [List.length_cons, glistF]
    by_cases hc : j < (text s).length
    · have e : (texts (s :: L)).take j = (text s).take j := by rw [texts, List.take_append_of_le_length (by omega)]
      rw [e, gtext_cut a s j hs hc]
      simp
    · have e : (texts (s :: L)).take j = text s ++ (texts L).take (j - (text s).length) := by
        rw [texts, List.take_append, List.take_of_length_le (l := text s) (by omega)]
      rw [e, gtext_text a _ s hs]
      simp only [ne_eq, not_true, if_false]
      have hl : (texts (s :: L)).length = (text s).length + (texts L).length := by simp [texts]
      have h2 := ih (a ++ text s) (j - (text s).length) (acc ++ [s]) (fun t ht => h t (by simp [ht])) (by omega)
      rw [List.length_append, List.append_assoc] at h2
      exact h2

theorem glist_list (a r : List UInt8) (L : List (List UInt8)) (hL : L.length ≤ 131072) (h : ∀ s ∈ L, s.length ≤ 131072) : glist (a ++ (list L ++ r)) (a.length : Int) = (L, a.length + (list L).length, 0) := by
  have e : a ++ (list L ++ r) = a ++ (num L.length ++ (texts L ++ r)) := by simp [list]
  unfold glist
  rw [e, gnum_num a _ L.length (by omega)]
  simp only [ne_eq, not_true, if_false]
  rw [if_neg (by omega)]
  have h2 := glistF_list L (a ++ num L.length) r [] h
  rw [List.length_append, List.append_assoc] at h2
  rw [h2]
  simp [list, Nat.add_assoc]

theorem glist_cut (L : List (List UInt8)) (j : Nat) (h9 : L.length < 9223372036854775808) (h : ∀ s ∈ L, s.length ≤ 131072) (hj : j < (list L).length) :
    (glist ((list L).take j) 0).2.2 = 8 ∨ 131072 < L.length := by
  by_cases hL : 131072 < L.length
  · exact Or.inr hL
  · refine Or.inl ?_
    unfold glist
    by_cases hc : j < (num L.length).length
    · have e : (list L).take j = (num L.length).take j := by rw [list, List.take_append_of_le_length (by omega)]
      have := gnum_cut [] L.length j h9 hc
      simp only [List.nil_append, List.length_nil, Int.natCast_zero] at this
      rw [e, this]
      simp
    · have e : (list L).take j = num L.length ++ (texts L).take (j - (num L.length).length) := by
        rw [list, List.take_append, List.take_of_length_le (l := num L.length) (by omega)]
      have hl : (list L).length = (num L.length).length + (texts L).length := by simp [list]
      have h1 := gnum_num [] ((texts L).take (j - (num L.length).length)) L.length h9
      simp only [List.nil_append, List.length_nil, Int.natCast_zero, Nat.zero_add] at h1
      rw [e, h1]
      simp only [ne_eq, not_true, if_false]
      rw [if_neg (by omega)]
      rw [glistF_cut L (num L.length) _ [] h (by omega)]
end Go.Proofs.Ytdhgobflbacgbaa.W
