/- Shortest edit scripts: what they are, and the plain laws of their costs. Plain lists, no program in sight. No conditions. -/
namespace Go.Proofs.Ytakkjehmekekbaa.D

abbrev Bytes := List UInt8

/-- the least cost from a text to another one -/
def dist : Bytes → Bytes → Nat
  | [], b => b.length
  | _ :: a, [] => a.length + 1
  | x :: a, y :: b => if x = y then dist a b else 1 + min (dist a (y :: b)) (dist (x :: a) b)
termination_by a b => a.length + b.length
decreasing_by all_goals simp only [List.length_cons]; omega

theorem dist_nil_left (b : Bytes) : dist [] b = b.length := by rw [dist]
theorem dist_nil_right (a : Bytes) : dist a [] = a.length := by
  cases a with
  | nil => rw [dist]
  | cons x a => rw [dist]; simp
theorem dist_same (x : UInt8) (a b : Bytes) : dist (x :: a) (x :: b) = dist a b := by rw [dist]; simp
theorem dist_other {x y : UInt8} (h : x ≠ y) (a b : Bytes) : dist (x :: a) (y :: b) = 1 + min (dist a (y :: b)) (dist (x :: a) b) := by rw [dist]; simp [h]

/-- a way from a text to another one, byte by byte, and its cost -/
inductive Al : Bytes → Bytes → Nat → Prop
  | nil : Al [] [] 0
  | keep {a b : Bytes} {n : Nat} (x : UInt8) : Al a b n → Al (x :: a) (x :: b) n
  | cut {a b : Bytes} {n : Nat} (x : UInt8) : Al a b n → Al (x :: a) b (n + 1)
  | put {a b : Bytes} {n : Nat} (y : UInt8) : Al a b n → Al a (y :: b) (n + 1)

theorem al_dist : ∀ (k : Nat) (a b : Bytes), a.length + b.length ≤ k → Al a b (dist a b) := by
  intro k
  induction k with
  | zero =>
    intro a b h
    have ha : a = [] := List.eq_nil_of_length_eq_zero (by omega)
    have hb : b = [] := List.eq_nil_of_length_eq_zero (by omega)
    subst ha hb
    rw [dist_nil_left]
    exact .nil
  | succ k ih =>
    intro a b h
    match a, b with
    | [], [] => rw [dist_nil_left]; exact .nil
    | [], y :: b =>
      have := ih [] b (by simp at h ⊢; omega)
      rw [dist_nil_left] at this ⊢
      exact .put y this
    | x :: a, [] =>
      have := ih a [] (by simp at h ⊢; omega)
      rw [dist_nil_right] at this ⊢
      exact .cut x this
    | x :: a, y :: b =>
      simp only [List.length_cons] at h
      by_cases e : x = y
      · subst e
        rw [dist_same]
        exact .keep x (ih a b (by omega))
      · rw [dist_other e]
        rcases Nat.le_total (dist a (y :: b)) (dist (x :: a) b) with hl | hl
        · rw [Nat.min_eq_left hl, Nat.add_comm]
          exact .cut x (ih a (y :: b) (by simp only [List.length_cons]; omega))
        · rw [Nat.min_eq_right hl, Nat.add_comm]
          exact .put y (ih (x :: a) b (by simp only [List.length_cons]; omega))
theorem al_of (a b : Bytes) : Al a b (dist a b) := al_dist _ a b (Nat.le_refl _)

theorem dist_comm : ∀ (k : Nat) (a b : Bytes), a.length + b.length ≤ k → dist a b = dist b a := by
  intro k
  induction k with
  | zero =>
    intro a b h
    have ha : a = [] := List.eq_nil_of_length_eq_zero (by omega)
    have hb : b = [] := List.eq_nil_of_length_eq_zero (by omega)
    subst ha hb
    rfl
  | succ k ih =>
    intro a b h
    match a, b with
    | [], b => rw [dist_nil_left, dist_nil_right]
    | x :: a, [] => rw [dist_nil_left, dist_nil_right]
    | x :: a, y :: b =>
      simp only [List.length_cons] at h
      by_cases e : x = y
      · subst e
        rw [dist_same, dist_same]
        exact ih a b (by omega)
      · rw [dist_other e, dist_other (Ne.symm e), ih a (y :: b) (by simp only [List.length_cons]; omega), ih (x :: a) b (by simp only [List.length_cons]; omega), Nat.min_comm]
theorem dist_symm (a b : Bytes) : dist a b = dist b a := dist_comm _ a b (Nat.le_refl _)

theorem dist_steps : ∀ (k : Nat) (a b : Bytes), a.length + b.length ≤ k → (∀ x, dist (x :: a) b ≤ dist a b + 1) ∧ (∀ y, dist a b ≤ dist a (y :: b) + 1) := by
  intro k
  induction k with
  | zero =>
    intro a b h
    have ha : a = [] := List.eq_nil_of_length_eq_zero (by omega)
    have hb : b = [] := List.eq_nil_of_length_eq_zero (by omega)
    subst ha hb
    exact ⟨fun x => by simp [dist_nil_right], fun y => by simp [dist_nil_left]⟩
  | succ k ih =>
    intro a b h
    refine ⟨fun x => ?_, fun y => ?_⟩
    · match b with
      | [] => rw [dist_nil_right, dist_nil_right]; simp
      | y :: b =>
        simp only [List.length_cons] at h
        by_cases e : x = y
        · subst e
          rw [dist_same]
          exact (ih a b (by omega)).2 x
        · rw [dist_other e]
          have := Nat.min_le_left (dist a (y :: b)) (dist (x :: a) b)
          omega
    · match a with
      | [] => rw [dist_nil_left, dist_nil_left]; simp; omega
      | x :: a =>
        simp only [List.length_cons] at h
        have h1 := (ih a b (by omega)).1 x
        by_cases e : x = y
        · subst e
          rw [dist_same]
          exact h1
        · rw [dist_other e]
          have h2 := (ih a b (by omega)).2 y
          rcases Nat.le_total (dist a (y :: b)) (dist (x :: a) b) with hl | hl
          · rw [Nat.min_eq_left hl]; omega
          · rw [Nat.min_eq_right hl]; omega
theorem dist_cut (x : UInt8) (a b : Bytes) : dist (x :: a) b ≤ dist a b + 1 := (dist_steps _ a b (Nat.le_refl _)).1 x
theorem dist_put (y : UInt8) (a b : Bytes) : dist a (y :: b) ≤ dist a b + 1 := by
  rw [dist_symm a (y :: b), dist_symm a b]; exact dist_cut y b a

/-- no way costs less -/
theorem dist_le {a b : Bytes} {n : Nat} (h : Al a b n) : dist a b ≤ n := by
  induction h with
  | nil => rw [dist_nil_left]; simp
  | keep x _ ih => rw [dist_same]; exact ih
  | @cut a b n x _ ih => have := dist_cut x a b; omega
  | @put a b n y _ ih => have := dist_put y a b; omega

theorem al_trans {a b : Bytes} {n : Nat} (h : Al a b n) : ∀ {c : Bytes} {m : Nat}, Al b c m → ∃ k, k ≤ n + m ∧ Al a c k := by
  induction h with
  | nil => intro c m h; exact ⟨m, by omega, h⟩
  | @keep a b n x h ih =>
    intro c m h2
    generalize hb : x :: b = b' at h2
    induction h2 with
    | nil => cases hb
    | @keep b1 c1 m1 x1 h3 _ =>
      injection hb with e1 e2
      subst e1 e2
      obtain ⟨k, hk, h4⟩ := ih h3
      exact ⟨k, hk, .keep x h4⟩
    | @cut b1 c1 m1 x1 h3 _ =>
      injection hb with e1 e2
      subst e1 e2
      obtain ⟨k, hk, h4⟩ := ih h3
      exact ⟨k + 1, by omega, .cut x h4⟩
    | @put b1 c1 m1 z h3 ih2 =>
      obtain ⟨k, hk, h4⟩ := ih2 hb
      exact ⟨k + 1, by omega, .put z h4⟩
  | @cut a b n x h ih =>
    intro c m h2
    obtain ⟨k, hk, h4⟩ := ih h2
    exact ⟨k + 1, by omega, .cut x h4⟩
  | @put a b n y h ih =>
    intro c m h2
    generalize hb : y :: b = b' at h2
    induction h2 with
    | nil => cases hb
    | @keep b1 c1 m1 x1 h3 _ =>
      injection hb with e1 e2
      subst e1 e2
      obtain ⟨k, hk, h4⟩ := ih h3
      exact ⟨k + 1, by omega, .put y h4⟩
    | @cut b1 c1 m1 x1 h3 _ =>
      injection hb with e1 e2
      subst e1 e2
      obtain ⟨k, hk, h4⟩ := ih h3
      exact ⟨k, by omega, h4⟩
    | @put b1 c1 m1 z h3 ih2 =>
      obtain ⟨k, hk, h4⟩ := ih2 hb
      exact ⟨k + 1, by omega, .put z h4⟩

/-- no way by a third text is cheaper -/
theorem dist_triangle (a b c : Bytes) : dist a c ≤ dist a b + dist b c := by
  obtain ⟨k, hk, h⟩ := al_trans (al_of a b) (al_of b c)
  exact Nat.le_trans (dist_le h) hk

theorem dist_self (a : Bytes) : dist a a = 0 := by
  induction a with
  | nil => rw [dist_nil_left]; rfl
  | cons x a ih => rw [dist_same]; exact ih
theorem dist_zero : ∀ (a b : Bytes), dist a b = 0 → a = b := by
  intro a
  induction a with
  | nil => intro b h; rw [dist_nil_left] at h; exact (List.eq_nil_of_length_eq_zero h).symm
  | cons x a ih =>
    intro b h
    match b with
    | [] => rw [dist_nil_right] at h; simp at h
    | y :: b =>
      by_cases e : x = y
      · subst e
        rw [dist_same] at h
        rw [ih b h]
      · rw [dist_other e] at h; omega

theorem al_append {a b a' b' : Bytes} {n m : Nat} (h : Al a b n) (h' : Al a' b' m) : Al (a ++ a') (b ++ b') (n + m) := by
  induction h with
  | nil => simpa using h'
  | keep x _ ih => exact .keep x ih
  | cut x _ ih => have := Al.cut x ih; rw [Nat.add_right_comm] at this; exact this
  | put y _ ih => have := Al.put y ih; rw [Nat.add_right_comm] at this; exact this
theorem al_reverse {a b : Bytes} {n : Nat} (h : Al a b n) : Al a.reverse b.reverse n := by
  induction h with
  | nil => exact .nil
  | keep x _ ih => simp only [List.reverse_cons]; exact al_append ih (.keep x .nil)
  | cut x _ ih => simp only [List.reverse_cons]; have := al_append ih (.cut x .nil); simpa using this
  | put y _ ih => simp only [List.reverse_cons]; have := al_append ih (.put y .nil); simpa using this
theorem dist_reverse (a b : Bytes) : dist a.reverse b.reverse = dist a b := by
  apply Nat.le_antisymm
  · exact dist_le (al_reverse (al_of a b))
  · have := dist_le (al_reverse (al_of a.reverse b.reverse))
    simpa using this
theorem dist_prefix (p a b : Bytes) : dist (p ++ a) (p ++ b) = dist a b := by
  induction p with
  | nil => rfl
  | cons x p ih => rw [List.cons_append, List.cons_append, dist_same]; exact ih
theorem dist_suffix (s a b : Bytes) : dist (a ++ s) (b ++ s) = dist a b := by
  rw [← dist_reverse, List.reverse_append, List.reverse_append, dist_prefix, dist_reverse]
/-- what both texts have at their beginnings and at their ends costs nothing -/
theorem dist_around (p s a b : Bytes) : dist (p ++ a ++ s) (p ++ b ++ s) = dist a b := by rw [dist_suffix, dist_prefix]

theorem dist_bound : ∀ (a b : Bytes), dist a b ≤ a.length + b.length := by
  intro a
  induction a with
  | nil => intro b; rw [dist_nil_left]; simp
  | cons x a ih => intro b; have := dist_cut x a b; have := ih b; simp only [List.length_cons]; omega


/-- an edit -/
structure Ed where
  kind : Int
  n : Int
  text : Bytes

theorem Ed.same {x y : Ed} (h1 : x.kind = y.kind) (h2 : x.n = y.n) (h3 : x.text = y.text) : x = y := by
  cases x; cases y; simp_all

/-- it may be -/
def may (x : Ed) : Prop := (x.kind = 3 ∧ x.n = 0 ∧ x.text ≠ []) ∨ ((x.kind = 1 ∨ x.kind = 2) ∧ 0 < x.n ∧ x.text = [])
instance (x : Ed) : Decidable (may x) := by unfold may; infer_instance

/-- what comes of an edit -/
def comes (x : Ed) (a : Bytes) : Bytes := if x.kind = 1 then a.take x.n.toNat else x.text

/-- a script done on what is left of a text, behind what has come -/
def doneF : Bytes → Bytes → List Ed → Bytes × Nat
  | a, out, [] => if a = [] then (out, 0) else ([], 8)
  | a, out, x :: l =>
    if ¬ may x then ([], 1)
    else if (a.length : Int) < x.n then ([], 8)
    else if 1000 < out.length + (comes x a).length then ([], 3)
    else doneF (a.drop x.n.toNat) (out ++ comes x a) l
/-- a script done on a text: what comes, error -/
def apply (a : Bytes) (l : List Ed) : Bytes × Nat := if 1000 < a.length then ([], 3) else doneF a [] l

/-- the cost of an edit that may be -/
def one (x : Ed) : Nat := if x.kind = 1 then 0 else x.n.toNat + x.text.length
/-- the costs of a script, behind those that were counted: cost, error -/
def costF : Nat → List Ed → Nat × Nat
  | c, [] => (c, 0)
  | c, x :: l => if ¬ may x ∨ 1000 < x.n then (0, 1) else costF (c + one x) l
def cost (l : List Ed) : Nat × Nat := costF 0 l

/-- the way back of an edit on what is left of a text -/
def turn (x : Ed) (a : Bytes) : Ed := if x.kind = 2 then ⟨3, 0, a.take x.n.toNat⟩ else if x.kind = 3 then ⟨2, x.text.length, []⟩ else x
def turns : Bytes → List Ed → List Ed
  | _, [] => []
  | a, x :: l => turn x a :: turns (a.drop x.n.toNat) l
/-- the way back of a script on a text: script, error -/
def invert (a : Bytes) (l : List Ed) : List Ed × Nat := if (apply a l).2 ≠ 0 then ([], (apply a l).2) else (turns a l, 0)

/-- a script with one byte more of a kind -/
def more : List Ed → Int → Bytes → List Ed
  | [], k, s => [⟨k, if k = 3 then 0 else 1, if k = 3 then s else []⟩]
  | [e], k, s => if e.kind = k then [⟨k, if k = 3 then e.n else e.n + 1, if k = 3 then e.text ++ s else e.text⟩] else [e, ⟨k, if k = 3 then 0 else 1, if k = 3 then s else []⟩]
  | e :: e' :: l, k, s => e :: more (e' :: l) k s

/-- the document's script, behind what was made -/
def mk : Bytes → Bytes → List Ed → List Ed
  | [], [], acc => acc
  | [], y :: b, acc => mk [] b (more acc 3 [y])
  | _ :: a, [], acc => mk a [] (more acc 2 [])
  | x :: a, y :: b, acc =>
    if x = y then mk a b (more acc 1 [])
    else if dist a (y :: b) ≤ dist (x :: a) b then mk a (y :: b) (more acc 2 [])
    else mk (x :: a) b (more acc 3 [y])
termination_by a b => a.length + b.length
decreasing_by all_goals simp only [List.length_cons]; omega
/-- the document's script from a text to another one: script, error -/
def make (a b : Bytes) : List Ed × Nat := if 1000 < a.length ∨ 1000 < b.length then ([], 3) else (mk a b [], 0)

/-- script l makes just q of just p -/
inductive Does : List Ed → Bytes → Bytes → Prop
  | nil : Does [] [] []
  | keep {l : List Ed} {p q : Bytes} (s : Bytes) : s ≠ [] → Does l p q → Does (⟨1, s.length, []⟩ :: l) (s ++ p) (s ++ q)
  | cut {l : List Ed} {p q : Bytes} (s : Bytes) : s ≠ [] → Does l p q → Does (⟨2, s.length, []⟩ :: l) (s ++ p) q
  | put {l : List Ed} {p q : Bytes} (s : Bytes) : s ≠ [] → Does l p q → Does (⟨3, 0, s⟩ :: l) p (s ++ q)

def costs : List Ed → Nat
  | [] => 0
  | x :: l => one x + costs l

theorem pos_len {s : Bytes} (h : s ≠ []) : 0 < s.length := List.length_pos_iff.2 h

/-- what a script does, it does in the reckoning of the document, if nothing is too long -/
theorem doneF_of {l : List Ed} {p q : Bytes} (h : Does l p q) : ∀ out : Bytes, out.length + q.length ≤ 1000 → doneF p out l = (out ++ q, 0) := by
  induction h with
  | nil => intro out _; simp [doneF]
  | @keep l p q s hs _ ih =>
    intro out ho
    have h1 := pos_len hs
    simp only [List.length_append] at ho
    have hm : may ⟨1, s.length, []⟩ := .inr ⟨.inl rfl, by simp; omega, rfl⟩
    have hc : comes ⟨1, s.length, []⟩ (s ++ p) = s := by simp [comes]
    rw [doneF, if_neg (by simpa using hm), if_neg (by simp; omega), hc, if_neg (by omega)]
    have := ih (out ++ s) (by simp; omega)
    simpa using this
  | @cut l p q s hs _ ih =>
    intro out ho
    have h1 := pos_len hs
    have hm : may ⟨2, s.length, []⟩ := .inr ⟨.inr rfl, by simp; omega, rfl⟩
    have hc : comes ⟨2, s.length, []⟩ (s ++ p) = [] := by simp [comes]
    rw [doneF, if_neg (by simpa using hm), if_neg (by simp; omega), hc, if_neg (by simp; omega)]
    have := ih out (by omega)
    simpa using this
  | @put l p q s hs _ ih =>
    intro out ho
    simp only [List.length_append] at ho
    have hm : may ⟨3, 0, s⟩ := .inl ⟨rfl, rfl, hs⟩
    have hc : comes ⟨3, 0, s⟩ p = s := by simp [comes]
    rw [doneF, if_neg (by simpa using hm), if_neg (by simp), hc, if_neg (by omega)]
    have := ih (out ++ s) (by simp; omega)
    simpa using this

theorem comes_one {x : Ed} (h : x.kind = 1) (a : Bytes) : comes x a = a.take x.n.toNat := by unfold comes; rw [if_pos h]
theorem comes_not {x : Ed} (h : x.kind ≠ 1) (a : Bytes) : comes x a = x.text := by unfold comes; rw [if_neg h]

/-- what is done in the reckoning, the script does -/
theorem does_of : ∀ (l : List Ed) (a out r : Bytes), doneF a out l = (r, 0) → ∃ q, Does l a q ∧ r = out ++ q ∧ (out.length ≤ 1000 → r.length ≤ 1000) := by
  intro l
  induction l with
  | nil =>
    intro a out r h
    rw [doneF] at h
    split at h
    · rename_i ha
      subst ha
      injection h with h1 _
      exact ⟨[], .nil, by simp [h1], fun ho => by rw [← h1]; exact ho⟩
    · injection h with _ h2; cases h2
  | cons x l ih =>
    intro a out r h
    rw [doneF] at h
    split at h
    · injection h with _ h2; cases h2
    · rename_i hm
      rw [Classical.not_not] at hm
      split at h
      · injection h with _ h2; cases h2
      · rename_i hn
        split at h
        · injection h with _ h2; cases h2
        · rename_i ho
          obtain ⟨q, hd, hr, hl⟩ := ih _ _ _ h
          have hl' : out.length ≤ 1000 → r.length ≤ 1000 := fun _ => hl (by rw [List.length_append]; omega)
          rcases hm with ⟨hk, hn0, ht⟩ | ⟨hk, hn0, ht⟩
          · have hc : comes x a = x.text := comes_not (by omega) a
            rw [hc] at hr
            have hx : x = ⟨3, 0, x.text⟩ := Ed.same hk hn0 rfl
            rw [hn0] at hd
            refine ⟨x.text ++ q, ?_, by rw [hr]; simp, hl'⟩
            rw [hx]
            exact .put x.text ht (by simpa using hd)
          · have hlen : x.n.toNat ≤ a.length := by omega
            have hs : a.take x.n.toNat ≠ [] := by
              intro h0
              have := congrArg List.length h0
              simp only [List.length_take, List.length_nil] at this
              omega
            have hsl : ((a.take x.n.toNat).length : Int) = x.n := by simp; omega
            have ha : a.take x.n.toNat ++ a.drop x.n.toNat = a := List.take_append_drop _ _
            rcases hk with hk | hk
            · have hc := comes_one hk a
              rw [hc] at hr
              have hx : x = ⟨1, (a.take x.n.toNat).length, []⟩ := Ed.same hk hsl.symm ht
              refine ⟨a.take x.n.toNat ++ q, ?_, by rw [hr]; simp, hl'⟩
              have := Does.keep (a.take x.n.toNat) hs hd
              rw [ha, ← hx] at this
              exact this
            · have hc := comes_not (x := x) (by omega) a
              rw [hc, ht] at hr
              have hx : x = ⟨2, (a.take x.n.toNat).length, []⟩ := Ed.same hk hsl.symm ht
              refine ⟨q, ?_, by rw [hr]; simp, hl'⟩
              have := Does.cut (a.take x.n.toNat) hs hd
              rw [ha, ← hx] at this
              exact this

/-- the sizes of what a script takes and makes -/
theorem al_keep (s : Bytes) {p q : Bytes} {n : Nat} (h : Al p q n) : Al (s ++ p) (s ++ q) n := by
  induction s with
  | nil => exact h
  | cons x s ih => exact .keep x ih
theorem al_cut (s : Bytes) {p q : Bytes} {n : Nat} (h : Al p q n) : Al (s ++ p) q (s.length + n) := by
  induction s with
  | nil => simpa using h
  | cons x s ih => have := Al.cut x ih; rw [show s.length + n + 1 = (x :: s).length + n by simp; omega] at this; exact this
theorem al_put (s : Bytes) {p q : Bytes} {n : Nat} (h : Al p q n) : Al p (s ++ q) (s.length + n) := by
  induction s with
  | nil => simpa using h
  | cons x s ih => have := Al.put x ih; rw [show s.length + n + 1 = (x :: s).length + n by simp; omega] at this; exact this
/-- a script is a way of its cost -/
theorem does_al {l : List Ed} {p q : Bytes} (h : Does l p q) : Al p q (costs l) := by
  induction h with
  | nil => exact .nil
  | keep s _ _ ih => simpa [costs, one] using al_keep s ih
  | cut s _ _ ih => simpa [costs, one] using al_cut s ih
  | put s _ _ ih => simpa [costs, one] using al_put s ih

/-- its edits may be, and none is longer than the text -/
theorem does_may {l : List Ed} {p q : Bytes} (h : Does l p q) : ∀ x ∈ l, may x ∧ x.n ≤ p.length := by
  induction h with
  | nil => intro x hx; cases hx
  | @keep l p q s hs _ ih =>
    intro x hx
    rcases List.mem_cons.1 hx with rfl | hx
    · exact ⟨.inr ⟨.inl rfl, by have := pos_len hs; simp; omega, rfl⟩, by simp; omega⟩
    · have := ih x hx; exact ⟨this.1, by simp; omega⟩
  | @cut l p q s hs _ ih =>
    intro x hx
    rcases List.mem_cons.1 hx with rfl | hx
    · exact ⟨.inr ⟨.inr rfl, by have := pos_len hs; simp; omega, rfl⟩, by simp; omega⟩
    · have := ih x hx; exact ⟨this.1, by simp; omega⟩
  | @put l p q s hs _ ih =>
    intro x hx
    rcases List.mem_cons.1 hx with rfl | hx
    · exact ⟨.inl ⟨rfl, rfl, hs⟩, by simp⟩
    · exact ih x hx
theorem costF_ok : ∀ (l : List Ed) (c : Nat), (∀ x ∈ l, may x ∧ x.n ≤ 1000) → costF c l = (c + costs l, 0) := by
  intro l
  induction l with
  | nil => intro c _; simp [costF, costs]
  | cons x l ih =>
    intro c h
    have hx := h x (by simp)
    rw [costF, if_neg (by intro h'; rcases h' with h' | h'; exact h' hx.1; omega), ih _ (fun y hy => h y (by simp [hy])), costs, Nat.add_assoc]

theorem apply_ok {a b : Bytes} {l : List Ed} (h : apply a l = (b, 0)) : Does l a b ∧ a.length ≤ 1000 ∧ b.length ≤ 1000 := by
  unfold apply at h
  split at h
  · injection h with _ h2; cases h2
  · obtain ⟨q, h1, h2, h3⟩ := does_of l a [] b h
    simp only [List.nil_append] at h2
    subst h2
    exact ⟨h1, by omega, h3 (by simp)⟩
theorem apply_of {a b : Bytes} {l : List Ed} (h : Does l a b) (ha : a.length ≤ 1000) (hb : b.length ≤ 1000) : apply a l = (b, 0) := by
  unfold apply
  rw [if_neg (by omega), doneF_of h [] (by simpa using hb)]
  rfl
theorem doneF_err : ∀ (l : List Ed) (a out : Bytes), (doneF a out l).2 ≠ 0 → (doneF a out l).1 = [] := by
  intro l
  induction l with
  | nil => intro a out h; rw [doneF] at h ⊢; split at h <;> simp_all
  | cons x l ih =>
    intro a out h
    rw [doneF] at h ⊢
    split
    · rfl
    · rename_i h1
      rw [if_neg h1] at h
      split
      · rfl
      · rename_i h2
        rw [if_neg h2] at h
        split
        · rfl
        · rename_i h3
          rw [if_neg h3] at h
          exact ih _ _ h
/-- with an error nothing comes -/
theorem apply_err {a : Bytes} {l : List Ed} (h : (apply a l).2 ≠ 0) : (apply a l).1 = [] := by
  unfold apply at h ⊢
  split
  · rfl
  · rename_i h1
    rw [if_neg h1] at h
    exact doneF_err _ _ _ h

theorem does_append {l : List Ed} {p q : Bytes} (h : Does l p q) {l' : List Ed} {p' q' : Bytes} (h' : Does l' p' q') : Does (l ++ l') (p ++ p') (q ++ q') := by
  induction h with
  | nil => simpa using h'
  | keep s hs _ ih => simpa using Does.keep s hs ih
  | cut s hs _ ih => simpa using Does.cut s hs ih
  | put s hs _ ih => simpa using Does.put s hs ih

/-- one byte more of a kind -/
theorem more_keep (x : UInt8) : ∀ (l : List Ed) (p q : Bytes), Does l p q → Does (more l 1 []) (p ++ [x]) (q ++ [x]) := by
  intro l p q h
  induction h with
  | nil => exact Does.keep [x] (by simp) .nil
  | @keep l p q s hs h ih =>
    cases l with
    | nil =>
      cases h
      have := Does.keep (s ++ [x]) (by simp) .nil
      simpa [more] using this
    | cons e l => simpa [more] using Does.keep s hs ih
  | @cut l p q s hs h ih =>
    cases l with
    | nil =>
      cases h
      have := Does.cut s hs (Does.keep [x] (by simp) .nil)
      simpa [more] using this
    | cons e l => simpa [more] using Does.cut s hs ih
  | @put l p q s hs h ih =>
    cases l with
    | nil =>
      cases h
      have := Does.put s hs (Does.keep [x] (by simp) .nil)
      simpa [more] using this
    | cons e l => simpa [more] using Does.put s hs ih
theorem more_cut (x : UInt8) : ∀ (l : List Ed) (p q : Bytes), Does l p q → Does (more l 2 []) (p ++ [x]) q := by
  intro l p q h
  induction h with
  | nil => exact Does.cut [x] (by simp) .nil
  | @keep l p q s hs h ih =>
    cases l with
    | nil =>
      cases h
      have := Does.keep s hs (Does.cut [x] (by simp) .nil)
      simpa [more] using this
    | cons e l => simpa [more] using Does.keep s hs ih
  | @cut l p q s hs h ih =>
    cases l with
    | nil =>
      cases h
      have := Does.cut (s ++ [x]) (by simp) .nil
      simpa [more] using this
    | cons e l => simpa [more] using Does.cut s hs ih
  | @put l p q s hs h ih =>
    cases l with
    | nil =>
      cases h
      have := Does.put s hs (Does.cut [x] (by simp) .nil)
      simpa [more] using this
    | cons e l => simpa [more] using Does.put s hs ih
theorem more_put (x : UInt8) : ∀ (l : List Ed) (p q : Bytes), Does l p q → Does (more l 3 [x]) p (q ++ [x]) := by
  intro l p q h
  induction h with
  | nil => exact Does.put [x] (by simp) .nil
  | @keep l p q s hs h ih =>
    cases l with
    | nil =>
      cases h
      have := Does.keep s hs (Does.put [x] (by simp) .nil)
      simpa [more] using this
    | cons e l => simpa [more] using Does.keep s hs ih
  | @cut l p q s hs h ih =>
    cases l with
    | nil =>
      cases h
      have := Does.cut s hs (Does.put [x] (by simp) .nil)
      simpa [more] using this
    | cons e l => simpa [more] using Does.cut s hs ih
  | @put l p q s hs h ih =>
    cases l with
    | nil =>
      cases h
      have := Does.put (s ++ [x]) (by simp) .nil
      simpa [more] using this
    | cons e l => simpa [more] using Does.put s hs ih

theorem costs_more (k : Int) (s : Bytes) (hk : (k = 1 ∧ s = []) ∨ (k = 2 ∧ s = []) ∨ (k = 3 ∧ s.length = 1)) :
    ∀ (l : List Ed), (∀ x ∈ l, 0 ≤ x.n) → costs (more l k s) = costs l + (if k = 1 then 0 else 1) := by
  intro l
  induction l with
  | nil =>
    intro _
    rcases hk with ⟨rfl, rfl⟩ | ⟨rfl, rfl⟩ | ⟨rfl, hs⟩ <;> simp [more, costs, one]
    exact hs
  | cons e l ih =>
    intro h
    cases l with
    | nil =>
      have he := h e (by simp)
      by_cases hek : e.kind = k
      · rcases hk with ⟨rfl, rfl⟩ | ⟨rfl, rfl⟩ | ⟨rfl, hs⟩ <;> simp [more, costs, one, hek] <;> omega
      · rcases hk with ⟨rfl, rfl⟩ | ⟨rfl, rfl⟩ | ⟨rfl, hs⟩ <;> simp [more, costs, one, hek] <;> omega
    | cons e' l =>
      have := ih (fun x hx => h x (by simp [hx]))
      rw [more]
      simp only [costs] at this ⊢
      omega

/-- the document's script, behind what makes q of p, makes the whole, and costs the least -/
theorem mk_does : ∀ (k : Nat) (a b : Bytes), a.length + b.length ≤ k → ∀ (acc : List Ed) (p q : Bytes), Does acc p q →
    Does (mk a b acc) (p ++ a) (q ++ b) ∧ costs (mk a b acc) = costs acc + dist a b := by
  intro k
  induction k with
  | zero =>
    intro a b h acc p q hd
    have ha : a = [] := List.eq_nil_of_length_eq_zero (by omega)
    have hb : b = [] := List.eq_nil_of_length_eq_zero (by omega)
    subst ha hb
    rw [mk, dist_nil_left]
    exact ⟨by simpa using hd, by simp⟩
  | succ k ih =>
    intro a b h acc p q hd
    have hn : ∀ x ∈ acc, 0 ≤ x.n := fun x hx => by
      rcases (does_may hd x hx).1 with ⟨_, h0, _⟩ | ⟨_, h0, _⟩ <;> omega
    match a, b with
    | [], [] =>
      rw [mk, dist_nil_left]
      exact ⟨by simpa using hd, by simp⟩
    | [], y :: b =>
      obtain ⟨h1, h2⟩ := ih [] b (by simp at h ⊢; omega) _ p (q ++ [y]) (more_put y acc p q hd)
      rw [mk]
      refine ⟨by simpa using h1, ?_⟩
      rw [h2, costs_more 3 [y] (by simp) acc hn, dist_nil_left, dist_nil_left]
      simp; omega
    | x :: a, [] =>
      obtain ⟨h1, h2⟩ := ih a [] (by simp at h ⊢; omega) _ (p ++ [x]) q (more_cut x acc p q hd)
      rw [mk]
      refine ⟨by simpa using h1, ?_⟩
      rw [h2, costs_more 2 [] (by simp) acc hn, dist_nil_right, dist_nil_right]
      simp; omega
    | x :: a, y :: b =>
      simp only [List.length_cons] at h
      rw [mk]
      split
      · rename_i e
        subst e
        obtain ⟨h1, h2⟩ := ih a b (by omega) _ (p ++ [x]) (q ++ [x]) (more_keep x acc p q hd)
        refine ⟨by simpa using h1, ?_⟩
        rw [h2, costs_more 1 [] (by simp) acc hn, dist_same]
        simp
      · rename_i e
        split
        · rename_i hle
          obtain ⟨h1, h2⟩ := ih a (y :: b) (by simp only [List.length_cons]; omega) _ (p ++ [x]) q (more_cut x acc p q hd)
          refine ⟨by simpa using h1, ?_⟩
          rw [h2, costs_more 2 [] (by simp) acc hn, dist_other e, Nat.min_eq_left hle]
          simp; omega
        · rename_i hle
          obtain ⟨h1, h2⟩ := ih (x :: a) b (by simp only [List.length_cons]; omega) _ p (q ++ [y]) (more_put y acc p q hd)
          refine ⟨by simpa using h1, ?_⟩
          rw [h2, costs_more 3 [y] (by simp) acc hn, dist_other e, Nat.min_eq_right (by omega)]
          simp; omega
theorem make_does (a b : Bytes) : Does (mk a b []) a b ∧ costs (mk a b []) = dist a b := by
  have := mk_does _ a b (Nat.le_refl _) [] [] [] .nil
  simpa [costs] using this

/-- no two edits of one kind stand one behind the other -/
def Alt : List Ed → Prop
  | [] => True
  | [_] => True
  | x :: y :: l => x.kind ≠ y.kind ∧ Alt (y :: l)
theorem more_head : ∀ (e : Ed) (l : List Ed) (k : Int) (s : Bytes), ∃ e' l', more (e :: l) k s = e' :: l' ∧ e'.kind = e.kind := by
  intro e l k s
  cases l with
  | nil =>
    by_cases h : e.kind = k
    · exact ⟨_, _, by rw [more, if_pos h], h.symm⟩
    · exact ⟨_, _, by rw [more, if_neg h], rfl⟩
  | cons e' l => exact ⟨_, _, rfl, rfl⟩
theorem more_alt (k : Int) (s : Bytes) : ∀ (l : List Ed), Alt l → Alt (more l k s) := by
  intro l
  induction l with
  | nil => intro _; trivial
  | cons e l ih =>
    intro h
    cases l with
    | nil =>
      by_cases hk : e.kind = k
      · rw [more, if_pos hk]; trivial
      · rw [more, if_neg hk]; exact ⟨hk, trivial⟩
    | cons e' l =>
      rw [more]
      obtain ⟨e2, l2, h2, h3⟩ := more_head e' l k s
      have := ih h.2
      rw [h2] at this ⊢
      exact ⟨by rw [h3]; exact h.1, this⟩
theorem mk_alt : ∀ (k : Nat) (a b : Bytes), a.length + b.length ≤ k → ∀ (acc : List Ed), Alt acc → Alt (mk a b acc) := by
  intro k
  induction k with
  | zero =>
    intro a b h acc hd
    have ha : a = [] := List.eq_nil_of_length_eq_zero (by omega)
    have hb : b = [] := List.eq_nil_of_length_eq_zero (by omega)
    subst ha hb
    rw [mk]
    exact hd
  | succ k ih =>
    intro a b h acc hd
    match a, b with
    | [], [] => rw [mk]; exact hd
    | [], y :: b => rw [mk]; exact ih _ _ (by simp at h ⊢; omega) _ (more_alt _ _ _ hd)
    | x :: a, [] => rw [mk]; exact ih _ _ (by simp at h ⊢; omega) _ (more_alt _ _ _ hd)
    | x :: a, y :: b =>
      simp only [List.length_cons] at h
      rw [mk]
      split
      · exact ih _ _ (by omega) _ (more_alt _ _ _ hd)
      · split
        · exact ih _ _ (by simp only [List.length_cons]; omega) _ (more_alt _ _ _ hd)
        · exact ih _ _ (by simp only [List.length_cons]; omega) _ (more_alt _ _ _ hd)
theorem make_alt (a b : Bytes) : Alt (mk a b []) := mk_alt _ a b (Nat.le_refl _) [] trivial
theorem alt_at : ∀ (l : List Ed), Alt l → ∀ (i : Nat) (x y : Ed), l[i]? = some x → l[i + 1]? = some y → x.kind ≠ y.kind := by
  intro l
  induction l with
  | nil => intro _ i x y h; simp at h
  | cons e l ih =>
    intro h i x y h1 h2
    cases l with
    | nil => simp at h2
    | cons e' l =>
      cases i with
      | zero => simp at h1 h2; subst h1 h2; exact h.1
      | succ i => exact ih h.2 i x y (by simpa using h1) (by simpa using h2)

/-- the way back of a script leads back, and its way back is the script -/
theorem turns_does {l : List Ed} {p q : Bytes} (h : Does l p q) : Does (turns p l) q p ∧ turns q (turns p l) = l := by
  induction h with
  | nil => exact ⟨.nil, rfl⟩
  | @keep l p q s hs _ ih =>
    simp only [turns, turn, List.drop_left, Int.toNat_natCast]
    simp only [show ((1 : Int) = 2) = False by simp, show ((1 : Int) = 3) = False by simp, if_false, List.drop_left, Int.toNat_natCast]
    exact ⟨.keep s hs ih.1, by rw [ih.2]⟩
  | @cut l p q s hs _ ih =>
    simp only [turns, turn, List.drop_left, Int.toNat_natCast, if_true, List.take_left]
    simp only [show ((3 : Int) = 2) = False by simp, if_false, Int.toNat_zero, List.drop_zero]
    exact ⟨.put s hs ih.1, by rw [ih.2]⟩
  | @put l p q s hs _ ih =>
    simp only [turns, turn, show ((3 : Int) = 2) = False by simp, if_false, if_true, Int.toNat_zero, List.drop_zero]
    simp only [List.drop_left, Int.toNat_natCast, List.take_left]
    exact ⟨.cut s hs ih.1, by rw [ih.2]⟩
end Go.Proofs.Ytakkjehmekekbaa.D
