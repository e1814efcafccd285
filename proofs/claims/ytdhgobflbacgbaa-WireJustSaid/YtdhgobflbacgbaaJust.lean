/- What is got has just the bytes that stand there: plain lists, no program in sight. -/
import Derived.Test.YtdhgobflbacgbaaSpec
namespace Go.Proofs.Ytdhgobflbacgbaa.W

theorem getL_just : ∀ (l : List UInt8) (i s n k : Nat), getL i s l = .inr (n, k) → ∃ m, n = s + m * 128 ^ i ∧ i < k ∧ l.take (k - i) = num m ∧ (m = 0 → i = 0) := by
  intro l
  induction l with
  | nil => intro i s n k h; simp [getL] at h
  | cons y l ih =>
    intro i s n k h
    have hy : y.toNat < 256 := y.toNat_lt
    rw [getL] at h
    split at h
    · simp at h
    · split at h
      · simp at h
      · split at h
        · rename_i h0 h1 h2
          simp only [Sum.inr.injEq, Prod.mk.injEq] at h
          obtain ⟨rfl, rfl⟩ := h
          refine ⟨y.toNat, by rw [Nat.mod_eq_of_lt h2], by omega, ?_, by omega⟩
          rw [num_lt h2, show i + 1 - i = 1 by omega]
          simp
        · rename_i h0 h1 h2
          obtain ⟨m, e, hk, ht, hz⟩ := ih _ _ _ _ h
          have hm : m ≠ 0 := fun hm => by have := hz hm; omega
          refine ⟨y.toNat % 128 + 128 * m, ?_, by omega, ?_, by omega⟩
          · rw [e, Nat.pow_succ, Nat.add_mul, Nat.mul_comm (128 ^ i) 128, ← Nat.mul_assoc, Nat.mul_comm m 128]; omega
          · rw [num_ge (by omega), show k - i = (k - (i + 1)) + 1 by omega, List.take_succ_cons, ht]
            congr 1
            · apply UInt8.toNat_inj.mp
              simp only [UInt8.toNat_ofNat']
              omega
            · congr 1; omega

theorem gnum_just {b : List UInt8} {p : Int} {n x : Nat} (h : gnum b p = (n, x, 0)) : num n = (b.drop p.toNat).take (x - p.toNat) := by
  have hok := gnum_ok h
  unfold gnum at h
  rw [if_neg (by omega)] at h
  generalize hg : getL 0 0 (b.drop p.toNat) = r at h
  cases r with
  | inl e =>
    simp only [gfin, Prod.mk.injEq] at h
    omega
  | inr v =>
    obtain ⟨m, k⟩ := v
    simp only [gfin, Prod.mk.injEq] at h
    obtain ⟨rfl, rfl, _⟩ := h
    obtain ⟨m', e, hk, ht, _⟩ := getL_just _ _ _ _ _ hg
    simp only [Nat.pow_zero, Nat.mul_one, Nat.zero_add, Nat.sub_zero] at e ht
    subst e
    rw [← ht, show p.toNat + k - p.toNat = k by omega]

theorem gtext_just {b : List UInt8} {p : Int} {s : List UInt8} {x : Nat} (h : gtext b p = (s, x, 0)) : text s = (b.drop p.toNat).take (x - p.toNat) := by
  have hok := gtext_ok h
  unfold gtext at h
  split at h
  · rename_i h0; simp only [Prod.mk.injEq] at h; exact absurd h.2.2 h0
  · split at h
    · simp at h
    · split at h
      · simp at h
      · rename_i h0 h1 h2
        simp only [ne_eq, Classical.not_not] at h0
        obtain ⟨n, y, e, hg⟩ : ∃ n y e, gnum b p = (n, y, e) := ⟨_, _, _, rfl⟩
        rw [hg] at h0 h1 h2 h
        simp only at h0 h1 h2 h
        subst h0
        have hj := gnum_just hg
        obtain ⟨ha, hb, hc, _⟩ := gnum_ok hg
        simp only [Prod.mk.injEq] at h
        obtain ⟨rfl, rfl, _⟩ := h
        have hl : ((b.drop y).take n).length = n := by simp; omega
        rw [text, hl, hj, show y + n - p.toNat = (y - p.toNat) + n by omega, List.take_add, List.drop_drop, show p.toNat + (y - p.toNat) = y by omega]

theorem glistF_just (b : List UInt8) : ∀ (k x : Nat) (acc l : List (List UInt8)) (y : Nat), glistF b k x acc = (l, y, 0) → x ≤ b.length →
    ∃ r, l = acc ++ r ∧ r.length = k ∧ x ≤ y ∧ y ≤ b.length ∧ texts r = (b.drop x).take (y - x) := by
  intro k
  induction k with
  | zero =>
    intro x acc l y h hx
    simp only [glistF, Prod.mk.injEq] at h
    obtain ⟨rfl, rfl, _⟩ := h
    exact ⟨[], by simp, rfl, Nat.le_refl _, hx, by simp [texts]⟩
  | succ k ih =>
    intro x acc l y h hx
    rw [glistF] at h
    split at h
    · rename_i h0; simp only [Prod.mk.injEq] at h; exact absurd h.2.2 h0
    · rename_i h0
      simp only [ne_eq, Classical.not_not] at h0
      obtain ⟨s, z, e, hg⟩ : ∃ s z e, gtext b (x : Int) = (s, z, e) := ⟨_, _, _, rfl⟩
      rw [hg] at h0 h
      simp only at h0 h
      subst h0
      obtain ⟨_, hxz, hzb⟩ := gtext_ok hg
      have hj := gtext_just hg
      rw [Int.toNat_natCast] at hj
      obtain ⟨r, rfl, hr, hzy, hyb, ht⟩ := ih _ _ _ _ h hzb
      refine ⟨s :: r, by simp, by simp [hr], by omega, hyb, ?_⟩
      rw [texts, hj, ht, show y - x = (z - x) + (y - z) by omega, List.take_add, List.drop_drop, show x + (z - x) = z by omega]

theorem glist_just {b : List UInt8} {p : Int} {l : List (List UInt8)} {x : Nat} (h : glist b p = (l, x, 0)) : 0 ≤ p ∧ p < (x : Int) ∧ x ≤ b.length ∧ l.length ≤ 131072 ∧ list l = (b.drop p.toNat).take (x - p.toNat) := by
  unfold glist at h
  split at h
  · rename_i h0; simp only [Prod.mk.injEq] at h; exact absurd h.2.2 h0
  · split at h
    · simp at h
    · rename_i h0 h1
      simp only [ne_eq, Classical.not_not] at h0
      obtain ⟨n, y, e, hg⟩ : ∃ n y e, gnum b p = (n, y, e) := ⟨_, _, _, rfl⟩
      rw [hg] at h0 h1 h
      simp only at h0 h1 h
      subst h0
      have hj := gnum_just hg
      obtain ⟨ha, hb, hc, _⟩ := gnum_ok hg
      obtain ⟨r, rfl, hr, hyx, hxb, ht⟩ := glistF_just b _ _ _ _ _ h hc
      refine ⟨ha, by omega, hxb, by omega, ?_⟩
      rw [list, hr, hj, ht, show x - p.toNat = (y - p.toNat) + (x - y) by omega, List.take_add, List.drop_drop, show p.toNat + (y - p.toNat) = y by omega]
end Go.Proofs.Ytdhgobflbacgbaa.W
