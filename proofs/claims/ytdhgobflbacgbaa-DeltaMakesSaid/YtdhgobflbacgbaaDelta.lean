/- Bytes told by others: what the document says, and its plain laws. Plain lists, no program in sight. No conditions. -/
import Derived.Test.YtdhgobflbacgbaaTrip
namespace Go.Proofs.Ytdhgobflbacgbaa.E
open Go.Proofs.Ytdhgobflbacgbaa.W

/-- how many bytes at the beginnings are the same -/
def run : List UInt8 → List UInt8 → Nat
  | x :: a, y :: b => if x = y then run a b + 1 else 0
  | [], _ => 0
  | _ :: _, [] => 0

theorem run_nil_left (t : List UInt8) : run [] t = 0 := by rw [run]
theorem run_nil_right (a : List UInt8) : run a [] = 0 := by cases a <;> rw [run]
theorem run_same {x y : UInt8} (h : x = y) (a b : List UInt8) : run (x :: a) (y :: b) = run a b + 1 := by rw [run, if_pos h]
theorem run_other {x y : UInt8} (h : x ≠ y) (a b : List UInt8) : run (x :: a) (y :: b) = 0 := by rw [run, if_neg h]
theorem run_le : ∀ (a b : List UInt8), run a b ≤ a.length ∧ run a b ≤ b.length := by
  intro a
  induction a with
  | nil => intro b; simp [run_nil_left]
  | cons x a ih =>
    intro b
    cases b with
    | nil => simp [run_nil_right]
    | cons y b =>
      by_cases h : x = y
      · rw [run_same h]; have := ih b; simp only [List.length_cons]; omega
      · rw [run_other h]; omega
theorem run_take : ∀ (a b : List UInt8), a.take (run a b) = b.take (run a b) := by
  intro a
  induction a with
  | nil => intro b; simp [run_nil_left]
  | cons x a ih =>
    intro b
    cases b with
    | nil => simp [run_nil_right]
    | cons y b =>
      by_cases h : x = y
      · rw [run_same h, List.take_succ_cons, List.take_succ_cons, ih b, h]
      · rw [run_other h]; simp
theorem run_self (a r : List UInt8) : run (a ++ r) a = a.length := by
  induction a with
  | nil => simp [run_nil_right]
  | cons x a ih => rw [List.cons_append, run_same rfl, ih]; rfl

/-- the best place, of those from k on -/
def bst (t : List UInt8) : Nat → List UInt8 → Nat × Nat
  | _, [] => (0, 0)
  | k, x :: a => if run (x :: a) t ≠ 0 ∧ (bst t (k + 1) a).2 ≤ run (x :: a) t then (k, run (x :: a) t) else bst t (k + 1) a

theorem bst_pos {t a : List UInt8} {x : UInt8} {k : Nat} (h1 : run (x :: a) t ≠ 0) (h2 : (bst t (k + 1) a).2 ≤ run (x :: a) t) : bst t k (x :: a) = (k, run (x :: a) t) := by rw [bst, if_pos ⟨h1, h2⟩]
theorem bst_neg {t a : List UInt8} {x : UInt8} {k : Nat} (h : ¬ (run (x :: a) t ≠ 0 ∧ (bst t (k + 1) a).2 ≤ run (x :: a) t)) : bst t k (x :: a) = bst t (k + 1) a := by rw [bst, if_neg h]

theorem bst_ok (t : List UInt8) : ∀ (a : List UInt8) (k : Nat), ((bst t k a).2 = 0 ∧ bst t k a = (0, 0)) ∨ (k ≤ (bst t k a).1 ∧ (bst t k a).1 < k + a.length ∧ (bst t k a).2 = run (a.drop ((bst t k a).1 - k)) t ∧ (bst t k a).2 ≠ 0) := by
  intro a
  induction a with
  | nil => intro k; left; simp [bst]
  | cons x a ih =>
    intro k
    by_cases h : run (x :: a) t ≠ 0 ∧ (bst t (k + 1) a).2 ≤ run (x :: a) t
    · rw [bst_pos h.1 h.2]; right; exact ⟨Nat.le_refl _, by simp, by simp, h.1⟩
    · rw [bst_neg h]
      rcases ih (k + 1) with h1 | ⟨h1, h2, h3, h4⟩
      · exact .inl h1
      · refine .inr ⟨by omega, by simp only [List.length_cons]; omega, ?_, h4⟩
        rw [show (bst t (k + 1) a).1 - k = ((bst t (k + 1) a).1 - (k + 1)) + 1 by omega, List.drop_succ_cons]
        exact h3
theorem bst_most (t : List UInt8) : ∀ (a : List UInt8) (k j : Nat), run (a.drop j) t ≤ (bst t k a).2 := by
  intro a
  induction a with
  | nil => intro k j; simp [run_nil_left]
  | cons x a ih =>
    intro k j
    by_cases h : run (x :: a) t ≠ 0 ∧ (bst t (k + 1) a).2 ≤ run (x :: a) t
    · rw [bst_pos h.1 h.2]
      cases j with
      | zero => simp
      | succ j => rw [List.drop_succ_cons]; have := ih (k + 1) j; simp only; omega
    · rw [bst_neg h]
      cases j with
      | zero => rw [List.drop_zero]; simp only [not_and, Nat.not_le] at h; (by_cases h0 : run (x :: a) t = 0; omega; exact Nat.le_of_lt (h h0))
      | succ j => rw [List.drop_succ_cons]; exact ih (k + 1) j
/-- the best place of all -/
theorem best_le (base t : List UInt8) : (bst t 0 base).2 ≤ t.length ∧ (bst t 0 base).1 + (bst t 0 base).2 ≤ base.length := by
  rcases bst_ok t base 0 with h | ⟨_, h2, h3, _⟩
  · rw [h.2]; simp
  · have := run_le (base.drop ((bst t 0 base).1 - 0)) t
    rw [← h3] at this
    simp only [Nat.sub_zero, List.length_drop] at this
    omega
theorem best_take (base t : List UInt8) : (base.drop (bst t 0 base).1).take (bst t 0 base).2 = t.take (bst t 0 base).2 := by
  rcases bst_ok t base 0 with h | ⟨_, h2, h3, _⟩
  · rw [h.1]; simp
  · have := run_take (base.drop ((bst t 0 base).1 - 0)) t
    rw [← h3] at this
    simpa using this

/-- own bytes, if there are some -/
def flush (own : List UInt8) : List UInt8 := if own = [] then [] else num (2 * own.length) ++ own
def mkF (base : List UInt8) : Nat → List UInt8 → List UInt8 → List UInt8
  | 0, _, own => flush own
  | _ + 1, [], own => flush own
  | f + 1, y :: t, own =>
    if (bst (y :: t) 0 base).2 < 8 then mkF base f t (own ++ [y])
    else flush own ++ (num (2 * (bst (y :: t) 0 base).2 + 1) ++ (num (bst (y :: t) 0 base).1 ++ mkF base f ((y :: t).drop (bst (y :: t) 0 base).2) []))
theorem mkF_fuel (base : List UInt8) : ∀ (f g : Nat) (t own : List UInt8), t.length ≤ f → t.length ≤ g → mkF base f t own = mkF base g t own := by
  intro f
  induction f with
  | zero =>
    intro g t own hf _
    have : t = [] := List.eq_nil_of_length_eq_zero (by omega)
    subst this
    cases g <;> simp [mkF]
  | succ f ih =>
    intro g t own hf hg
    cases t with
    | nil => cases g <;> simp [mkF]
    | cons y t =>
      cases g with
      | zero => simp at hg
      | succ g =>
        simp only [List.length_cons] at hf hg
        rw [mkF, mkF]
        split
        · exact ih g t _ (by omega) (by omega)
        · rename_i h8
          rw [ih g _ [] (by simp only [List.length_drop, List.length_cons]; omega) (by simp only [List.length_drop, List.length_cons]; omega)]
/-- the pieces of what is left of a target, behind own bytes -/
def mk (base t own : List UInt8) : List UInt8 := mkF base t.length t own
theorem mk_nil (base own : List UInt8) : mk base [] own = flush own := rfl
theorem mk_own {base t own : List UInt8} {y : UInt8} (h : (bst (y :: t) 0 base).2 < 8) : mk base (y :: t) own = mk base t (own ++ [y]) := by
  unfold mk; rw [List.length_cons, mkF, if_pos h]
theorem mk_copy {base t own : List UInt8} (h : 8 ≤ (bst t 0 base).2) : mk base t own = flush own ++ (num (2 * (bst t 0 base).2 + 1) ++ (num (bst t 0 base).1 ++ mk base (t.drop (bst t 0 base).2) [])) := by
  cases t with
  | nil => have := (best_le base []).1; simp at this; omega
  | cons y t =>
    unfold mk
    rw [List.length_cons, mkF, if_neg (by omega)]
    rw [mkF_fuel base t.length ((y :: t).drop (bst (y :: t) 0 base).2).length _ [] (by simp only [List.length_drop, List.length_cons]; omega) (Nat.le_refl _)]
/-- a target told by a base: bytes, error -/
def make (base t : List UInt8) : List UInt8 × Nat := if 4096 < base.length ∨ 4096 < t.length then ([], 3) else (num base.length ++ (num t.length ++ mk base t []), 0)

/-- one piece of a delta, of which so many bytes are lacking: bytes, next place, error -/
def piece (base d : List UInt8) (p lack : Nat) : List UInt8 × Nat × Nat :=
  if (gnum d p).2.2 ≠ 0 then ([], 0, (gnum d p).2.2)
  else if (gnum d p).1 / 2 = 0 ∨ lack < (gnum d p).1 / 2 then ([], 0, 7)
  else if (gnum d p).1 % 2 = 0 then
    if d.length - (gnum d p).2.1 < (gnum d p).1 / 2 then ([], 0, 8)
    else ((d.drop (gnum d p).2.1).take ((gnum d p).1 / 2), (gnum d p).2.1 + (gnum d p).1 / 2, 0)
  else if (gnum d (gnum d p).2.1).2.2 ≠ 0 then ([], 0, (gnum d (gnum d p).2.1).2.2)
  else if base.length < (gnum d (gnum d p).2.1).1 ∨ base.length - (gnum d (gnum d p).2.1).1 < (gnum d p).1 / 2 then ([], 0, 9)
  else ((base.drop (gnum d (gnum d p).2.1).1).take ((gnum d p).1 / 2), (gnum d (gnum d p).2.1).2.1, 0)

/-- what a piece that is good has -/
theorem piece_ok {base d s : List UInt8} {p lack x : Nat} (h : piece base d p lack = (s, x, 0)) :
    ∃ m y, gnum d p = (m, y, 0) ∧ m / 2 ≠ 0 ∧ m / 2 ≤ lack ∧
      ((m % 2 = 0 ∧ m / 2 ≤ d.length - y ∧ s = (d.drop y).take (m / 2) ∧ x = y + m / 2) ∨
       (m % 2 ≠ 0 ∧ ∃ f, gnum d y = (f, x, 0) ∧ f ≤ base.length ∧ m / 2 ≤ base.length - f ∧ s = (base.drop f).take (m / 2))) := by
  unfold piece at h
  obtain ⟨m, y, e, hg⟩ : ∃ m y e, gnum d p = (m, y, e) := ⟨_, _, _, rfl⟩
  rw [hg] at h
  simp only at h
  split at h
  · rename_i h0; simp only [Prod.mk.injEq] at h; exact absurd h.2.2 h0
  · rename_i h0
    simp only [ne_eq, Classical.not_not] at h0
    subst h0
    split at h
    · simp at h
    · rename_i h1
      rw [not_or] at h1
      refine ⟨m, y, hg, h1.1, by omega, ?_⟩
      split at h
      · rename_i h2
        split at h
        · simp at h
        · simp only [Prod.mk.injEq] at h
          exact .inl ⟨h2, by omega, h.1.symm, h.2.1.symm⟩
      · rename_i h2
        obtain ⟨f, z, e, hf⟩ : ∃ m z e, gnum d y = (m, z, e) := ⟨_, _, _, rfl⟩
        rw [hf] at h
        simp only at h
        split at h
        · rename_i h3; simp only [Prod.mk.injEq] at h; exact absurd h.2.2 h3
        · rename_i h3
          simp only [ne_eq, Classical.not_not] at h3
          subst h3
          split at h
          · simp at h
          · rename_i h4
            rw [not_or] at h4
            simp only [Prod.mk.injEq] at h
            obtain ⟨h5, rfl, _⟩ := h
            exact .inr ⟨h2, f, hf, by omega, by omega, h5.symm⟩
theorem piece_len {base d s : List UInt8} {p lack x : Nat} (h : piece base d p lack = (s, x, 0)) : 0 < s.length ∧ s.length ≤ lack ∧ x ≤ d.length := by
  obtain ⟨m, y, hg, h1, h2, h3⟩ := piece_ok h
  have ha := gnum_ok hg
  rcases h3 with ⟨_, h4, rfl, rfl⟩ | ⟨_, f, hf, h4, h5, rfl⟩
  · simp only [List.length_take, List.length_drop]; omega
  · have hb := gnum_ok hf
    simp only [List.length_take, List.length_drop]; omega

def appF (base d : List UInt8) (size : Nat) : Nat → Nat → List UInt8 → List UInt8 × Nat
  | 0, x, out => if x ≠ d.length then ([], 7) else (out, 0)
  | f + 1, x, out =>
    if size ≤ out.length then (if x ≠ d.length then ([], 7) else (out, 0))
    else if (piece base d x (size - out.length)).2.2 ≠ 0 then ([], (piece base d x (size - out.length)).2.2)
    else appF base d size f (piece base d x (size - out.length)).2.1 (out ++ (piece base d x (size - out.length)).1)
theorem appF_fuel (base d : List UInt8) (size : Nat) : ∀ (f g x : Nat) (out : List UInt8), size - out.length ≤ f → size - out.length ≤ g → appF base d size f x out = appF base d size g x out := by
  intro f
  induction f with
  | zero =>
    intro g x out hf hg
    cases g with
    | zero => rfl
    | succ g => rw [appF, appF, if_pos (show size ≤ out.length by omega)]
  | succ f ih =>
    intro g x out hf hg
    cases g with
    | zero => rw [appF, appF, if_pos (show size ≤ out.length by omega)]
    | succ g =>
      rw [appF, appF]
      split
      · rfl
      · split
        · rfl
        · rename_i h1 h2
          simp only [ne_eq, Classical.not_not] at h2
          obtain ⟨s, y, e, hp⟩ : ∃ s y e, piece base d x (size - out.length) = (s, y, e) := ⟨_, _, _, rfl⟩
          rw [hp] at h2 ⊢
          simp only at h2 ⊢
          subst h2
          have := piece_len hp
          exact ih g y _ (by simp only [List.length_append]; omega) (by simp only [List.length_append]; omega)
/-- the pieces of a delta from a place on, behind what has come: bytes, error -/
def app (base d : List UInt8) (size x : Nat) (out : List UInt8) : List UInt8 × Nat := appF base d size (size - out.length) x out
theorem app_done {base d out : List UInt8} {size x : Nat} (h : size ≤ out.length) : app base d size x out = if x ≠ d.length then ([], 7) else (out, 0) := by
  unfold app; rw [show size - out.length = 0 by omega]; rfl
theorem app_err {base d out : List UInt8} {size x : Nat} (h : out.length < size) (hp : (piece base d x (size - out.length)).2.2 ≠ 0) : app base d size x out = ([], (piece base d x (size - out.length)).2.2) := by
  unfold app
  rw [appF_fuel base d size (size - out.length) ((size - out.length - 1) + 1) x out (by omega) (by omega), appF, if_neg (by omega), if_pos hp]
theorem app_step {base d out s : List UInt8} {size x y : Nat} (h : out.length < size) (hp : piece base d x (size - out.length) = (s, y, 0)) : app base d size x out = app base d size y (out ++ s) := by
  have hl := piece_len hp
  unfold app
  rw [appF_fuel base d size (size - out.length) ((size - out.length - 1) + 1) x out (by omega) (by omega), appF, if_neg (by omega), hp]
  simp only [ne_eq, not_true, if_false]
  exact appF_fuel base d size _ _ y _ (by simp only [List.length_append]; omega) (by simp only [List.length_append]; omega)

/-- what a delta tells: bytes, error -/
def apply (base d : List UInt8) : List UInt8 × Nat :=
  if 4096 < base.length then ([], 3)
  else if (gnum d 0).2.2 ≠ 0 then ([], (gnum d 0).2.2)
  else if (gnum d 0).1 ≠ base.length then ([], 1)
  else if (gnum d (gnum d 0).2.1).2.2 ≠ 0 then ([], (gnum d (gnum d 0).2.1).2.2)
  else if 4096 < (gnum d (gnum d 0).2.1).1 then ([], 3)
  else app base d (gnum d (gnum d 0).2.1).1 (gnum d (gnum d 0).2.1).2.1 []
end Go.Proofs.Ytdhgobflbacgbaa.E
