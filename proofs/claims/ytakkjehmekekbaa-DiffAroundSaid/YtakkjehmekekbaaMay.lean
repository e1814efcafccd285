/- diff.may and the document's May: may an edit be? At every edit. -/
import Derived.Test.YtakkjehmekekbaaProg
import Derived.Test.YtakkjehmekekbaaSpec
import Derived.Test.YtakkjehmekekbaaKit
namespace Go.Proofs.Ytakkjehmekekbaa
open Go.RowKit

/-- a byte list as a string -/
def bs (l : List UInt8) : ByteArray := ⟨l.toArray⟩
theorem bs_size (l : List UInt8) : (bs l).size = l.length := by simp [bs, ByteArray.size]
theorem bs_append (a b : List UInt8) : bs a ++ bs b = bs (a ++ b) := by unfold bs; rw [ByteArray.mk_append_mk]
theorem bs_data (l : List UInt8) : (bs l).data.toList = l := by simp [bs]
theorem bs_toList (l : List UInt8) : (bs l).toList = l := by unfold bs; simp

/-- an edit as a value -/
def ev (x : D.Ed) : Value := .agg #[.int .i64 x.kind, .int .i64 x.n, .string (bs x.text)]
def mayB (x : D.Ed) : Bool := decide (D.may x)
theorem mayB_true {x : D.Ed} (h : D.may x) : mayB x = true := decide_eq_true h
theorem mayB_false {x : D.Ed} (h : ¬ D.may x) : mayB x = false := decide_eq_false h

/-- the text of an edit, as the walk asks for it -/
theorem txt_no {t : List UInt8} (h : t ≠ []) : (bs t).toList.isEmpty = false := by rw [bs_toList]; cases t <;> simp_all
theorem txt_yes {t : List UInt8} (h : t = []) : (bs t).toList.isEmpty = true := by rw [bs_toList, h]; rfl

set_option maxRecDepth 100000 in
set_option maxHeartbeats 400000 in
theorem may_1 (n : Int) (t : List UInt8) (w : World) :
    Calls Try.prog 30 #[.agg #[.int .i64 1, .int .i64 n, .string (bs t)]] w fun e w' => e = .returned (.bool (mayB ⟨1, n, t⟩)) ∧ Below w.heap.size w w' := by
  by_cases hn : 0 < n
  · by_cases ht : t = []
    · have HF := hide (mayB_true (x := ⟨1, n, t⟩) (.inr ⟨by simp, hn, ht⟩))
      have he := txt_yes ht
      clear ht
      go_enter Try.func30, Try.ntmps30
      go_wp2
      go_ret
      exact ⟨by rw [unhide HF]; rfl, (Below.refl _ _).alloc (Nat.le_refl _) _⟩
    · have HF := hide (mayB_false (x := ⟨1, n, t⟩) (by rintro (⟨h, _⟩ | ⟨_, _, h⟩); simp at h; exact ht h))
      have he := txt_no ht
      clear ht
      go_enter Try.func30, Try.ntmps30
      go_wp2
      go_ret
      exact ⟨by rw [unhide HF]; rfl, (Below.refl _ _).alloc (Nat.le_refl _) _⟩
  · have HF := hide (mayB_false (x := ⟨1, n, t⟩) (by rintro (⟨h, _⟩ | ⟨_, h, _⟩); simp at h; exact hn h))
    go_enter Try.func30, Try.ntmps30
    go_wp2
    go_ret
    exact ⟨by rw [unhide HF]; rfl, (Below.refl _ _).alloc (Nat.le_refl _) _⟩

set_option maxRecDepth 100000 in
set_option maxHeartbeats 400000 in
theorem may_2 (n : Int) (t : List UInt8) (w : World) :
    Calls Try.prog 30 #[.agg #[.int .i64 2, .int .i64 n, .string (bs t)]] w fun e w' => e = .returned (.bool (mayB ⟨2, n, t⟩)) ∧ Below w.heap.size w w' := by
  by_cases hn : 0 < n
  · by_cases ht : t = []
    · have HF := hide (mayB_true (x := ⟨2, n, t⟩) (.inr ⟨by simp, hn, ht⟩))
      have he := txt_yes ht
      clear ht
      go_enter Try.func30, Try.ntmps30
      go_wp2
      go_ret
      exact ⟨by rw [unhide HF]; rfl, (Below.refl _ _).alloc (Nat.le_refl _) _⟩
    · have HF := hide (mayB_false (x := ⟨2, n, t⟩) (by rintro (⟨h, _⟩ | ⟨_, _, h⟩); simp at h; exact ht h))
      have he := txt_no ht
      clear ht
      go_enter Try.func30, Try.ntmps30
      go_wp2
      go_ret
      exact ⟨by rw [unhide HF]; rfl, (Below.refl _ _).alloc (Nat.le_refl _) _⟩
  · have HF := hide (mayB_false (x := ⟨2, n, t⟩) (by rintro (⟨h, _⟩ | ⟨_, h, _⟩); simp at h; exact hn h))
    go_enter Try.func30, Try.ntmps30
    go_wp2
    go_ret
    exact ⟨by rw [unhide HF]; rfl, (Below.refl _ _).alloc (Nat.le_refl _) _⟩

set_option maxRecDepth 100000 in
set_option maxHeartbeats 400000 in
theorem may_3 (n : Int) (t : List UInt8) (w : World) :
    Calls Try.prog 30 #[.agg #[.int .i64 3, .int .i64 n, .string (bs t)]] w fun e w' => e = .returned (.bool (mayB ⟨3, n, t⟩)) ∧ Below w.heap.size w w' := by
  by_cases hn : n = 0
  · by_cases ht : t = []
    · have HF := hide (mayB_false (x := ⟨3, n, t⟩) (by rintro (⟨_, _, h⟩ | ⟨h, _⟩); exact h ht; simp at h))
      have he := txt_yes ht
      clear ht
      subst hn
      go_enter Try.func30, Try.ntmps30
      go_wp2
      go_ret
      exact ⟨by rw [unhide HF]; rfl, (Below.refl _ _).alloc (Nat.le_refl _) _⟩
    · have HF := hide (mayB_true (x := ⟨3, n, t⟩) (.inl ⟨rfl, hn, ht⟩))
      have he := txt_no ht
      clear ht
      subst hn
      go_enter Try.func30, Try.ntmps30
      go_wp2
      go_ret
      exact ⟨by rw [unhide HF]; rfl, (Below.refl _ _).alloc (Nat.le_refl _) _⟩
  · have HF := hide (mayB_false (x := ⟨3, n, t⟩) (by rintro (⟨_, h, _⟩ | ⟨h, _⟩); exact hn h; simp at h))
    have hn' : (n == 0) = false := beq_eq_false_iff_ne.2 hn
    clear hn
    go_enter Try.func30, Try.ntmps30
    go_wp2
    go_ret
    exact ⟨by rw [unhide HF]; rfl, (Below.refl _ _).alloc (Nat.le_refl _) _⟩

set_option maxRecDepth 100000 in
set_option maxHeartbeats 400000 in
theorem may_no (k n : Int) (t : List UInt8) (w : World) (h1 : k ≠ 1) (h2 : k ≠ 2) (h3 : k ≠ 3) :
    Calls Try.prog 30 #[.agg #[.int .i64 k, .int .i64 n, .string (bs t)]] w fun e w' => e = .returned (.bool (mayB ⟨k, n, t⟩)) ∧ Below w.heap.size w w' := by
  have HF := hide (mayB_false (x := ⟨k, n, t⟩) (by rintro (⟨h, _⟩ | ⟨h | h, _⟩); exact h3 h; exact h1 h; exact h2 h))
  have e1 : (k == 1) = false := beq_eq_false_iff_ne.2 h1
  have e2 : (k == 2) = false := beq_eq_false_iff_ne.2 h2
  have e3 : (k == 3) = false := beq_eq_false_iff_ne.2 h3
  clear h1 h2 h3
  go_enter Try.func30, Try.ntmps30
  go_wp2
  go_ret
  exact ⟨by rw [unhide HF]; rfl, (Below.refl _ _).alloc (Nat.le_refl _) _⟩

theorem may_any (x : D.Ed) (w : World) : Calls Try.prog 30 #[ev x] w fun e w' => e = .returned (.bool (mayB x)) ∧ Below w.heap.size w w' := by
  obtain ⟨k, n, t⟩ := x
  by_cases h1 : k = 1
  · subst h1; exact may_1 n t w
  · by_cases h2 : k = 2
    · subst h2; exact may_2 n t w
    · by_cases h3 : k = 3
      · subst h3; exact may_3 n t w
      · exact may_no k n t w h1 h2 h3

set_option maxRecDepth 100000 in
set_option maxHeartbeats 400000 in
theorem rmay_1 (n : Int) (t : List UInt8) (w : World) :
    Calls Try.prog 29 #[.agg #[.int .i64 1, .int .i64 n, .string (bs t)]] w fun e w' => e = .returned (.bool (mayB ⟨1, n, t⟩)) ∧ Below w.heap.size w w' := by
  by_cases hn : 0 < n
  · by_cases ht : t = []
    · have HF := hide (mayB_true (x := ⟨1, n, t⟩) (.inr ⟨by simp, hn, ht⟩))
      have he := txt_yes ht
      clear ht
      go_enter Try.func29, Try.ntmps29
      go_wp2
      go_ret
      exact ⟨by rw [unhide HF]; rfl, (Below.refl _ _).alloc (Nat.le_refl _) _⟩
    · have HF := hide (mayB_false (x := ⟨1, n, t⟩) (by rintro (⟨h, _⟩ | ⟨_, _, h⟩); simp at h; exact ht h))
      have he := txt_no ht
      clear ht
      go_enter Try.func29, Try.ntmps29
      go_wp2
      go_ret
      exact ⟨by rw [unhide HF]; rfl, (Below.refl _ _).alloc (Nat.le_refl _) _⟩
  · have HF := hide (mayB_false (x := ⟨1, n, t⟩) (by rintro (⟨h, _⟩ | ⟨_, h, _⟩); simp at h; exact hn h))
    go_enter Try.func29, Try.ntmps29
    go_wp2
    go_ret
    exact ⟨by rw [unhide HF]; rfl, (Below.refl _ _).alloc (Nat.le_refl _) _⟩

set_option maxRecDepth 100000 in
set_option maxHeartbeats 400000 in
theorem rmay_2 (n : Int) (t : List UInt8) (w : World) :
    Calls Try.prog 29 #[.agg #[.int .i64 2, .int .i64 n, .string (bs t)]] w fun e w' => e = .returned (.bool (mayB ⟨2, n, t⟩)) ∧ Below w.heap.size w w' := by
  by_cases hn : 0 < n
  · by_cases ht : t = []
    · have HF := hide (mayB_true (x := ⟨2, n, t⟩) (.inr ⟨by simp, hn, ht⟩))
      have he := txt_yes ht
      clear ht
      go_enter Try.func29, Try.ntmps29
      go_wp2
      go_ret
      exact ⟨by rw [unhide HF]; rfl, (Below.refl _ _).alloc (Nat.le_refl _) _⟩
    · have HF := hide (mayB_false (x := ⟨2, n, t⟩) (by rintro (⟨h, _⟩ | ⟨_, _, h⟩); simp at h; exact ht h))
      have he := txt_no ht
      clear ht
      go_enter Try.func29, Try.ntmps29
      go_wp2
      go_ret
      exact ⟨by rw [unhide HF]; rfl, (Below.refl _ _).alloc (Nat.le_refl _) _⟩
  · have HF := hide (mayB_false (x := ⟨2, n, t⟩) (by rintro (⟨h, _⟩ | ⟨_, h, _⟩); simp at h; exact hn h))
    go_enter Try.func29, Try.ntmps29
    go_wp2
    go_ret
    exact ⟨by rw [unhide HF]; rfl, (Below.refl _ _).alloc (Nat.le_refl _) _⟩

set_option maxRecDepth 100000 in
set_option maxHeartbeats 400000 in
theorem rmay_3 (n : Int) (t : List UInt8) (w : World) :
    Calls Try.prog 29 #[.agg #[.int .i64 3, .int .i64 n, .string (bs t)]] w fun e w' => e = .returned (.bool (mayB ⟨3, n, t⟩)) ∧ Below w.heap.size w w' := by
  by_cases hn : n = 0
  · by_cases ht : t = []
    · have HF := hide (mayB_false (x := ⟨3, n, t⟩) (by rintro (⟨_, _, h⟩ | ⟨h, _⟩); exact h ht; simp at h))
      have he := txt_yes ht
      clear ht
      subst hn
      go_enter Try.func29, Try.ntmps29
      go_wp2
      go_ret
      exact ⟨by rw [unhide HF]; rfl, (Below.refl _ _).alloc (Nat.le_refl _) _⟩
    · have HF := hide (mayB_true (x := ⟨3, n, t⟩) (.inl ⟨rfl, hn, ht⟩))
      have he := txt_no ht
      clear ht
      subst hn
      go_enter Try.func29, Try.ntmps29
      go_wp2
      go_ret
      exact ⟨by rw [unhide HF]; rfl, (Below.refl _ _).alloc (Nat.le_refl _) _⟩
  · have HF := hide (mayB_false (x := ⟨3, n, t⟩) (by rintro (⟨_, h, _⟩ | ⟨h, _⟩); exact hn h; simp at h))
    have hn' : (n == 0) = false := beq_eq_false_iff_ne.2 hn
    clear hn
    go_enter Try.func29, Try.ntmps29
    go_wp2
    go_ret
    exact ⟨by rw [unhide HF]; rfl, (Below.refl _ _).alloc (Nat.le_refl _) _⟩

set_option maxRecDepth 100000 in
set_option maxHeartbeats 400000 in
theorem rmay_no (k n : Int) (t : List UInt8) (w : World) (h1 : k ≠ 1) (h2 : k ≠ 2) (h3 : k ≠ 3) :
    Calls Try.prog 29 #[.agg #[.int .i64 k, .int .i64 n, .string (bs t)]] w fun e w' => e = .returned (.bool (mayB ⟨k, n, t⟩)) ∧ Below w.heap.size w w' := by
  have HF := hide (mayB_false (x := ⟨k, n, t⟩) (by rintro (⟨h, _⟩ | ⟨h | h, _⟩); exact h3 h; exact h1 h; exact h2 h))
  have e1 : (k == 1) = false := beq_eq_false_iff_ne.2 h1
  have e2 : (k == 2) = false := beq_eq_false_iff_ne.2 h2
  have e3 : (k == 3) = false := beq_eq_false_iff_ne.2 h3
  clear h1 h2 h3
  go_enter Try.func29, Try.ntmps29
  go_wp2
  go_ret
  exact ⟨by rw [unhide HF]; rfl, (Below.refl _ _).alloc (Nat.le_refl _) _⟩

theorem rmay_any (x : D.Ed) (w : World) : Calls Try.prog 29 #[ev x] w fun e w' => e = .returned (.bool (mayB x)) ∧ Below w.heap.size w w' := by
  obtain ⟨k, n, t⟩ := x
  by_cases h1 : k = 1
  · subst h1; exact rmay_1 n t w
  · by_cases h2 : k = 2
    · subst h2; exact rmay_2 n t w
    · by_cases h3 : k = 3
      · subst h3; exact rmay_3 n t w
      · exact rmay_no k n t w h1 h2 h3

end Go.Proofs.Ytakkjehmekekbaa
