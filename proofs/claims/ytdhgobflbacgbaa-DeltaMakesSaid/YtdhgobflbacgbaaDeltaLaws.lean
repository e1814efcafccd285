/- The plain laws of deltas: what was told comes back; a delta without its end, or with more behind it, tells nothing; how long it is. Plain lists, no program in sight. -/
import Derived.Test.YtdhgobflbacgbaaDelta
namespace Go.Proofs.Ytdhgobflbacgbaa.E
open Go.Proofs.Ytdhgobflbacgbaa.W

theorem getL_ext : ∀ (l r : List UInt8) (i s : Nat) (v : Nat × Nat), getL i s l = .inr v → getL i s (l ++ r) = .inr v := by
  intro l
  induction l with
  | nil => intro r i s v h; simp [getL] at h
  | cons y l ih =>
    intro r i s v h
    rw [List.cons_append]
    rw [getL] at h ⊢
    split
    · rename_i h1; rw [if_pos h1] at h; exact h
    · rename_i h1
      rw [if_neg h1] at h
      split
      · rename_i h2; rw [if_pos h2] at h; exact h
      · rename_i h2
        rw [if_neg h2] at h
        split
        · rename_i h3; rw [if_pos h3] at h; exact h
        · rename_i h3
          rw [if_neg h3] at h
          exact ih r _ _ _ h
theorem gnum_ext {d : List UInt8} (r : List UInt8) {p : Int} {n x : Nat} (h : gnum d p = (n, x, 0)) : gnum (d ++ r) p = (n, x, 0) := by
  have hok := gnum_ok h
  unfold gnum at h ⊢
  rw [if_neg (by omega)] at h
  rw [if_neg (by simp; omega), List.drop_append_of_le_length (by omega)]
  generalize hg : getL 0 0 (d.drop p.toNat) = q at h
  cases q with
  | inl e =>
    simp only [gfin, Prod.mk.injEq] at h
    omega
  | inr v => rw [getL_ext _ r _ _ _ hg]; exact h

theorem piece_good {base d : List UInt8} {p lack m y : Nat} (hg : gnum d p = (m, y, 0)) (h1 : m / 2 ≠ 0) (h2 : m / 2 ≤ lack) (h3 : m % 2 = 0) (h4 : m / 2 ≤ d.length - y) :
    piece base d p lack = ((d.drop y).take (m / 2), y + m / 2, 0) := by
  unfold piece
  rw [hg]
  simp only [ne_eq, not_true, if_false]
  rw [if_neg (by omega), if_pos h3, if_neg (by omega)]
theorem piece_copy {base d : List UInt8} {p lack m y f x : Nat} (hg : gnum d p = (m, y, 0)) (h1 : m / 2 ≠ 0) (h2 : m / 2 ≤ lack) (h3 : m % 2 ≠ 0) (hf : gnum d y = (f, x, 0)) (h4 : f ≤ base.length) (h5 : m / 2 ≤ base.length - f) :
    piece base d p lack = ((base.drop f).take (m / 2), x, 0) := by
  unfold piece
  rw [hg]
  simp only [ne_eq, not_true, if_false]
  rw [if_neg (by omega), if_neg h3, hf]
  simp only [ne_eq, not_true, if_false]
  rw [if_neg (by omega)]
theorem piece_ext {base d s : List UInt8} (r : List UInt8) {p lack x : Nat} (h : piece base d p lack = (s, x, 0)) : piece base (d ++ r) p lack = (s, x, 0) := by
  obtain ⟨m, y, hg, h1, h2, h3⟩ := piece_ok h
  have hok := gnum_ok hg
  rcases h3 with ⟨h3, h4, rfl, rfl⟩ | ⟨h3, f, hf, h4, h5, rfl⟩
  · rw [piece_good (gnum_ext r hg) h1 h2 h3 (by simp; omega), List.drop_append_of_le_length (by omega), List.take_append_of_le_length (by simp; omega)]
  · exact piece_copy (gnum_ext r hg) h1 h2 h3 (gnum_ext r hf) h4 h5

theorem app_ext (base d r : List UInt8) (size : Nat) (hr : r ≠ []) : ∀ (f x : Nat) (out q : List UInt8), size - out.length ≤ f → app base d size x out = (q, 0) → app base (d ++ r) size x out = ([], 7) := by
  intro f
  induction f with
  | zero =>
    intro x out q hf h
    rw [app_done (by omega)] at h
    rw [app_done (by omega)]
    split at h
    · simp at h
    · rename_i hx
      have : 0 < r.length := List.length_pos_iff.2 hr
      rw [if_pos (by simp; omega)]
  | succ f ih =>
    intro x out q hf h
    by_cases hs : size ≤ out.length
    · rw [app_done (by omega)] at h
      rw [app_done (by omega)]
      split at h
      · simp at h
      · rename_i hx
        have : 0 < r.length := List.length_pos_iff.2 hr
        rw [if_pos (by simp; omega)]
    · obtain ⟨s, y, e, hp⟩ : ∃ s y e, piece base d x (size - out.length) = (s, y, e) := ⟨_, _, _, rfl⟩
      by_cases he : e = 0
      · subst he
        have hl := piece_len hp
        rw [app_step (by omega) hp] at h
        rw [app_step (by omega) (piece_ext r hp)]
        exact ih y _ q (by simp only [List.length_append]; omega) h
      · rw [app_err (by omega) (by rw [hp]; exact he), hp] at h
        simp only [Prod.mk.injEq] at h
        exact absurd h.2 he
theorem apply_ok {base d q : List UInt8} (h : apply base d = (q, 0)) : base.length ≤ 4096 ∧ ∃ x size y, gnum d 0 = (base.length, x, 0) ∧ gnum d x = (size, y, 0) ∧ size ≤ 4096 ∧ app base d size y [] = (q, 0) := by
  unfold apply at h
  split at h
  · simp at h
  · rename_i h0
    obtain ⟨n, x, e, hg⟩ : ∃ n x e, gnum d 0 = (n, x, e) := ⟨_, _, _, rfl⟩
    rw [hg] at h
    simp only at h
    split at h
    · rename_i h1; simp only [Prod.mk.injEq] at h; exact absurd h.2 h1
    · rename_i h1
      simp only [ne_eq, Classical.not_not] at h1
      subst h1
      split at h
      · simp at h
      · rename_i h2
        simp only [ne_eq, Classical.not_not] at h2
        subst h2
        obtain ⟨size, y, e, hf⟩ : ∃ n z e, gnum d x = (n, z, e) := ⟨_, _, _, rfl⟩
        rw [hf] at h
        simp only at h
        split at h
        · rename_i h3; simp only [Prod.mk.injEq] at h; exact absurd h.2 h3
        · rename_i h3
          simp only [ne_eq, Classical.not_not] at h3
          subst h3
          split at h
          · simp at h
          · exact ⟨by omega, x, size, y, hg, hf, by omega, h⟩
theorem apply_of {base d : List UInt8} {x size y : Nat} (hb : base.length ≤ 4096) (h1 : gnum d 0 = (base.length, x, 0)) (h2 : gnum d x = (size, y, 0)) (hs : size ≤ 4096) : apply base d = app base d size y [] := by
  unfold apply
  rw [if_neg (by omega), h1]
  simp only [ne_eq, not_true, if_false]
  rw [h2]
  simp only [ne_eq, not_true, if_false]
  rw [if_neg (by omega)]
/-- with more behind it a delta tells nothing -/
theorem apply_ext {base d q r : List UInt8} (h : apply base d = (q, 0)) (hr : r ≠ []) : apply base (d ++ r) = ([], 7) := by
  obtain ⟨hb, x, size, y, h1, h2, hs, h3⟩ := apply_ok h
  rw [apply_of hb (gnum_ext r h1) (gnum_ext r h2) hs]
  exact app_ext base d r size hr _ y [] q (Nat.le_refl _) h3
theorem app_bad {base d : List UInt8} {size : Nat} : ∀ (f x : Nat) (out : List UInt8), size - out.length ≤ f → (app base d size x out).2 ≠ 0 → (app base d size x out).1 = [] := by
  intro f
  induction f with
  | zero =>
    intro x out hf h
    rw [app_done (by omega)] at h ⊢
    split
    · rfl
    · rename_i hx; rw [if_neg hx] at h; simp at h
  | succ f ih =>
    intro x out hf h
    by_cases hs : size ≤ out.length
    · rw [app_done (by omega)] at h ⊢
      split
      · rfl
      · rename_i hx; rw [if_neg hx] at h; simp at h
    · obtain ⟨s, y, e, hp⟩ : ∃ s y e, piece base d x (size - out.length) = (s, y, e) := ⟨_, _, _, rfl⟩
      by_cases he : e = 0
      · subst he
        have hl := piece_len hp
        rw [app_step (by omega) hp] at h ⊢
        exact ih y _ (by simp only [List.length_append]; omega) h
      · rw [app_err (by omega) (by rw [hp]; exact he)]
theorem apply_bad {base d : List UInt8} (h : (apply base d).2 ≠ 0) : (apply base d).1 = [] := by
  unfold apply at h ⊢
  split
  · rfl
  · rename_i h0
    rw [if_neg h0] at h
    split
    · rfl
    · rename_i h1
      rw [if_neg h1] at h
      split
      · rfl
      · rename_i h2
        rw [if_neg h2] at h
        split
        · rfl
        · rename_i h3
          rw [if_neg h3] at h
          split
          · rfl
          · rename_i h4
            rw [if_neg h4] at h
            exact app_bad _ _ _ (Nat.le_refl _) h
theorem apply_err1 {base d : List UInt8} (h : (apply base d).2 ≠ 0) : apply base d = ([], (apply base d).2) := by
  have := apply_bad h
  exact Prod.ext this rfl
/-- without its end a delta tells nothing -/
theorem apply_cut {base d q : List UInt8} {j : Nat} (h : apply base d = (q, 0)) (hj : j < d.length) : (apply base (d.take j)).2 ≠ 0 := by
  intro he
  have h1 : apply base (d.take j) = ((apply base (d.take j)).1, 0) := Prod.ext rfl he
  have h2 := apply_ext h1 (r := d.drop j) (by intro h0; have := congrArg List.length h0; simp at this; omega)
  rw [List.take_append_drop, h] at h2
  simp at h2

theorem app_flush {base rest out own pre : List UInt8} {size : Nat} (h1 : out.length + own.length ≤ size) (h2 : own.length ≤ 4096) :
    app base (pre ++ (flush own ++ rest)) size pre.length out = app base ((pre ++ flush own) ++ rest) size (pre ++ flush own).length (out ++ own) := by
  by_cases ho : own = []
  · subst ho; simp [flush]
  · have hl : 0 < own.length := List.length_pos_iff.2 ho
    have hf : flush own = num (2 * own.length) ++ own := by unfold flush; rw [if_neg ho]
    have hg := gnum_num pre (own ++ rest) (2 * own.length) (by omega)
    have e : pre ++ (flush own ++ rest) = pre ++ (num (2 * own.length) ++ (own ++ rest)) := by rw [hf]; simp
    rw [e]
    have hp := piece_good (base := base) (lack := size - out.length) hg (by omega) (by omega) (by omega) (by simp; omega)
    rw [app_step (by omega) hp]
    have e1 : 2 * own.length / 2 = own.length := by omega
    rw [e1, ← List.length_append, ← List.append_assoc, List.drop_left, List.take_left, hf]
    simp [Nat.add_assoc]
theorem app_mk (base : List UInt8) (hb : base.length ≤ 4096) (size : Nat) (hs : size ≤ 4096) : ∀ (k : Nat) (t own pre out : List UInt8), t.length ≤ k → out.length + own.length + t.length = size →
    app base (pre ++ mk base t own) size pre.length out = (out ++ own ++ t, 0) := by
  intro k
  induction k with
  | zero =>
    intro t own pre out hk hz
    have : t = [] := List.eq_nil_of_length_eq_zero (by omega)
    subst this
    simp only [List.length_nil] at hz
    have := app_flush (base := base) (rest := []) (out := out) (own := own) (pre := pre) (size := size) (by omega) (by omega)
    rw [List.append_nil, List.append_nil] at this
    rw [mk_nil, this, app_done (by simp; omega), if_neg (by simp)]
    simp
  | succ k ih =>
    intro t own pre out hk hz
    by_cases h8 : 8 ≤ (bst t 0 base).2
    · have hbl := best_le base t
      have hbt := best_take base t
      rw [mk_copy h8, app_flush (by omega) (by omega)]
      generalize hn : (bst t 0 base).2 = n at *
      generalize (bst t 0 base).1 = p at *
      have hg := gnum_num (pre ++ flush own) (num p ++ mk base (t.drop n) []) (2 * n + 1) (by omega)
      have hf := gnum_num (pre ++ flush own ++ num (2 * n + 1)) (mk base (t.drop n) []) p (by omega)
      rw [List.append_assoc, List.length_append] at hf
      have e1 : (2 * n + 1) / 2 = n := by omega
      have hp := piece_copy (base := base) (lack := size - (out ++ own).length) hg (by omega) (by simp; omega) (by omega) hf (by omega) (by omega)
      rw [e1, hbt] at hp
      rw [app_step (by simp; omega) hp]
      have h2 := ih (t.drop n) [] (pre ++ flush own ++ num (2 * n + 1) ++ num p) (out ++ own ++ t.take n) (by simp; omega) (by simp; omega)
      simp only [List.append_assoc, List.length_append, Nat.add_assoc, List.append_nil, List.take_append_drop] at h2 ⊢
      exact h2
    · cases t with
      | nil =>
        simp only [List.length_nil] at hz
        have := app_flush (base := base) (rest := []) (out := out) (own := own) (pre := pre) (size := size) (by omega) (by omega)
        rw [List.append_nil, List.append_nil] at this
        rw [mk_nil, this, app_done (by simp; omega), if_neg (by simp)]
        simp
      | cons y t =>
        rw [mk_own (by omega)]
        simp only [List.length_cons] at hk hz
        have h2 := ih t (own ++ [y]) pre out (by omega) (by simp; omega)
        rw [h2]
        simp
/-- what was told comes back -/
theorem apply_make {base t : List UInt8} (hb : base.length ≤ 4096) (ht : t.length ≤ 4096) : apply base (num base.length ++ (num t.length ++ mk base t [])) = (t, 0) := by
  have h1 := gnum_num [] (num t.length ++ mk base t []) base.length (by omega)
  have h2 := gnum_num (num base.length) (mk base t []) t.length (by omega)
  simp only [List.nil_append, List.length_nil, Int.natCast_zero, Nat.zero_add] at h1
  rw [apply_of hb h1 h2 ht, ← List.append_assoc, ← List.length_append]
  have := app_mk base hb t.length ht t.length t [] (num base.length ++ num t.length) [] (Nat.le_refl _) (by simp)
  rw [this]
  simp
theorem make_ok {base t d : List UInt8} (h : make base t = (d, 0)) : base.length ≤ 4096 ∧ t.length ≤ 4096 ∧ d = num base.length ++ (num t.length ++ mk base t []) := by
  unfold make at h
  split at h
  · simp at h
  · simp only [Prod.mk.injEq] at h; exact ⟨by omega, by omega, h.1.symm⟩
theorem back {base t d : List UInt8} (h : make base t = (d, 0)) : apply base d = (t, 0) := by
  obtain ⟨h1, h2, rfl⟩ := make_ok h
  exact apply_make h1 h2
/-- a delta of a base of another length -/
theorem other {base o t d : List UInt8} (h : make base t = (d, 0)) (hne : base.length ≠ o.length) : apply o d = ([], if 4096 < o.length then 3 else 1) := by
  obtain ⟨h1, h2, rfl⟩ := make_ok h
  have h3 := gnum_num [] (num t.length ++ mk base t []) base.length (by omega)
  simp only [List.nil_append, List.length_nil, Int.natCast_zero, Nat.zero_add] at h3
  unfold apply
  split
  · rfl
  · rw [h3]; simp only [ne_eq, not_true, if_false]; rw [if_pos hne]

theorem num_2 {n : Nat} (h : n < 16384) : (num n).length ≤ 2 := num_len_le 1 n h
theorem flush_len {own : List UInt8} (h : own.length ≤ 4096) : (flush own).length ≤ own.length + 2 ∧ (own = [] → (flush own).length = 0) := by
  unfold flush
  have := num_2 (n := 2 * own.length) (by omega)
  split
  · simp
  · rename_i h0; simp; exact ⟨by omega, fun h => absurd h h0⟩
theorem mk_len (base : List UInt8) (hb : base.length ≤ 4096) : ∀ (k : Nat) (t own : List UInt8), t.length ≤ k → own.length + t.length ≤ 4096 → (mk base t own).length ≤ own.length + t.length + 2 := by
  intro k
  induction k with
  | zero =>
    intro t own hk hz
    have : t = [] := List.eq_nil_of_length_eq_zero (by omega)
    subst this
    rw [mk_nil]
    have := (flush_len (own := own) (by omega)).1
    simp; omega
  | succ k ih =>
    intro t own hk hz
    by_cases h8 : 8 ≤ (bst t 0 base).2
    · have hbl := best_le base t
      rw [mk_copy h8]
      have h1 := (flush_len (own := own) (by omega)).1
      have h2 := num_2 (n := 2 * (bst t 0 base).2 + 1) (by omega)
      have h3 := num_2 (n := (bst t 0 base).1) (by omega)
      have h4 := ih (t.drop (bst t 0 base).2) [] (by simp; omega) (by simp; omega)
      simp only [List.length_append, List.length_drop, List.length_nil] at h4 ⊢
      omega
    · cases t with
      | nil =>
        rw [mk_nil]
        have := (flush_len (own := own) (by omega)).1
        simp; omega
      | cons y t =>
        rw [mk_own (by omega)]
        simp only [List.length_cons] at hk hz ⊢
        have := ih t (own ++ [y]) (by omega) (by simp; omega)
        simp only [List.length_append, List.length_singleton] at this
        omega
/-- at most six bytes more than the target -/
theorem short {base t d : List UInt8} (h : make base t = (d, 0)) : d.length ≤ t.length + 6 := by
  obtain ⟨h1, h2, rfl⟩ := make_ok h
  have h3 := num_2 (n := base.length) (by omega)
  have h4 := num_2 (n := t.length) (by omega)
  have h5 := mk_len base h1 t.length t [] (Nat.le_refl _) (by simp; omega)
  simp only [List.length_append, List.length_nil] at h5 ⊢
  omega
/-- a piece of the base is told by at most eight bytes -/
theorem parts {base : List UInt8} {f n : Nat} (hb : base.length ≤ 4096) (h8 : 8 ≤ n) (hn : f + n ≤ base.length) : ∃ d, make base ((base.drop f).take n) = (d, 0) ∧ d.length ≤ 8 := by
  have hl : ((base.drop f).take n).length = n := by simp; omega
  have h1 := bst_most ((base.drop f).take n) base 0 f
  have h2 := (best_le base ((base.drop f).take n))
  have h3 : run (base.drop f) ((base.drop f).take n) = n := by
    have := run_self ((base.drop f).take n) ((base.drop f).drop n)
    rw [List.take_append_drop, hl] at this
    exact this
  rw [h3] at h1
  rw [hl] at h2
  have h4 : (bst ((base.drop f).take n) 0 base).2 = n := by omega
  refine ⟨_, by unfold make; rw [if_neg (by rw [hl]; omega)], ?_⟩
  have hd : ((base.drop f).take n).drop n = [] := List.drop_eq_nil_of_le (by omega)
  rw [mk_copy (by omega), h4, hd, mk_nil, hl]
  have h5 := num_2 (n := base.length) (by omega)
  have h6 := num_2 (n := n) (by omega)
  have h7 := num_2 (n := 2 * n + 1) (by omega)
  have h9 := num_2 (n := (bst ((base.drop f).take n) 0 base).1) (by omega)
  simp only [flush, if_true, List.length_append, List.length_nil]
  omega
/-- what the reference does, place by place upwards, comes to the same -/
def comb (p q : Nat × Nat) : Nat × Nat := if p.2 < q.2 then q else p
theorem comb_step (t a : List UInt8) (x : UInt8) (k : Nat) (cur : Nat × Nat) :
    comb cur (bst t k (x :: a)) = comb (if cur.2 < run (x :: a) t then (k, run (x :: a) t) else cur) (bst t (k + 1) a) := by
  generalize hn : run (x :: a) t = n
  generalize hr : bst t (k + 1) a = r
  by_cases h : n ≠ 0 ∧ r.2 ≤ n
  · rw [bst_pos (by rw [hn]; exact h.1) (by rw [hn, hr]; exact h.2), hn]
    unfold comb
    by_cases h1 : cur.2 < n
    · rw [if_pos h1, if_neg (by simp only; omega)]
    · rw [if_neg h1, if_neg (by omega)]
  · rw [bst_neg (by rw [hn, hr]; exact h), hr]
    unfold comb
    by_cases h1 : cur.2 < n
    · rw [if_pos h1, if_pos (show cur.2 < r.2 by omega), if_pos (show (k, n).2 < r.2 by simp only; omega)]
    · rw [if_neg h1]
end Go.Proofs.Ytdhgobflbacgbaa.E
