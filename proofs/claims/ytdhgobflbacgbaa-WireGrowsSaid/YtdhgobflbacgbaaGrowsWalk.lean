/- The walk of the statement WireGrows: it returns true. -/
import Derived.Test.YtdhgobflbacgbaaLent
namespace Go.Proofs.Ytdhgobflbacgbaa
open Go.RowKit

/-- wire.Size, at an int -/
theorem size_int (n : Int) (w : World) (h0 : 0 ≤ n) (h1 : n ≤ 9223372036854775807) :
    Calls Try.prog 24 #[.int .i64 n] w fun e w' => e = .returned (.int .i64 (W.num n.toNat).length) ∧ Below w.heap.size w w' := by
  obtain ⟨m, rfl⟩ := Int.eq_ofNat_of_zero_le h0
  exact size_any m w (by omega)

set_option maxRecDepth 100000 in
set_option maxHeartbeats 400000 in
theorem grows_neg (n m : Int) (w : World) (h : n < 0) :
    Calls Try.prog 5 #[.int .i64 n, .int .i64 m] w fun e w' => e = .returned (.bool true) ∧ Below w.heap.size w w' := by
  have h1 := hide (size_neg n w h)
  go_enter Try.func5, Try.ntmps5
  go_wp2_with (first
    | (go_at_call 24; refine (unhide h1).mono ?_; rintro e w1 ⟨rfl, rfl⟩)
    | (go_at_call 22; refine (alive_any _).mono ?_; rintro e w3 ⟨rfl, hb3⟩))
  go_ret
  exact ⟨rfl, hb3⟩

set_option maxRecDepth 100000 in
set_option maxHeartbeats 400000 in
theorem grows_neg2 (n m : Int) (w : World) (h : 0 ≤ n) (h2 : m < 0) :
    Calls Try.prog 5 #[.int .i64 n, .int .i64 m] w fun e w' => e = .returned (.bool true) ∧ Below w.heap.size w w' := by
  go_enter Try.func5, Try.ntmps5
  go_wp2_with (go_at_call 22; refine (alive_any _).mono ?_; rintro e w3 ⟨rfl, hb3⟩)
  go_ret
  exact ⟨rfl, hb3⟩

/-- the last statement of WireGrows, in its three cases -/
theorem bel3 {w w1 w2 : World} (h1 : Below w.heap.size w w1) (h2 : Below w1.heap.size w1 w2) : Below w.heap.size w w2 := h1.trans (h2.mono h1.size)

set_option maxRecDepth 100000 in
set_option maxHeartbeats 1000000 in
theorem grows_gt (n m : Nat) (w : World) (h : n < 9223372036854775808) (h2 : m < 9223372036854775808) (hrel : m < n) :
    Calls Try.prog 5 #[.int .i64 n, .int .i64 m] w fun e w' => e = .returned (.bool true) ∧ Below w.heap.size w w' := by
  have sz := hide size_int
  have hB : Below w.heap.size w w := Below.refl _ _
  have hN9 : ((W.num n).length : Int) ≤ 9 := by have := W.num_len9 h; omega
  have hN1 : (1 : Int) ≤ (W.num n).length := by have := W.num_pos n; omega
  have e128 : (128 * (n : Int)).toNat = 128 * n := by omega
  have hNM : ¬ (W.num n).length < (W.num m).length := by have := W.num_mono m n (by omega); omega
  by_cases h0 : n = 0
  · omega
  · have h0' : ((n : Int) == 0) = false := by simp; omega
    have h128 : (W.num (128 * n)).length = (W.num n).length + 1 := W.num_128 (by omega)
    clear h0
    by_cases hs : 36028797018963968 < n
    · have hs' : (36028797018963968 : Int) < n := by omega
      clear hs
      go_enter Try.func5, Try.ntmps5
      go_wp2_with (first
        | (go_at_call 24; refine ((unhide sz) _ _ ?_ ?_).mono ?_; omega; omega; rintro e w1 ⟨rfl, hb⟩; have hB := bel3 hB hb; clear hb)
        | (go_at_call 22; refine (alive_any _).mono ?_; rintro e w1 ⟨rfl, hb⟩; have hB := bel3 hB hb; clear hb))
      go_ret
      exact ⟨rfl, hB⟩
    · have hs' : (n : Int) ≤ 36028797018963968 := by omega
      clear hs
      go_enter Try.func5, Try.ntmps5
      go_wp2_with (first
        | (go_at_call 24; refine ((unhide sz) _ _ ?_ ?_).mono ?_; omega; omega; rintro e w1 ⟨rfl, hb⟩; have hB := bel3 hB hb; clear hb)
        | (go_at_call 22; refine (alive_any _).mono ?_; rintro e w1 ⟨rfl, hb⟩; have hB := bel3 hB hb; clear hb))
      go_ret
      exact ⟨rfl, hB⟩

set_option maxRecDepth 100000 in
set_option maxHeartbeats 1000000 in
theorem grows_lt (n m : Nat) (w : World) (h : n < 9223372036854775808) (h2 : m < 9223372036854775808) (hrel : n < m) :
    Calls Try.prog 5 #[.int .i64 n, .int .i64 m] w fun e w' => e = .returned (.bool true) ∧ Below w.heap.size w w' := by
  have sz := hide size_int
  have hB : Below w.heap.size w w := Below.refl _ _
  have hN9 : ((W.num n).length : Int) ≤ 9 := by have := W.num_len9 h; omega
  have hN1 : (1 : Int) ≤ (W.num n).length := by have := W.num_pos n; omega
  have e128 : (128 * (n : Int)).toNat = 128 * n := by omega
  have hNM : ¬ (W.num m).length < (W.num n).length := by have := W.num_mono n m (by omega); omega
  by_cases h0 : n = 0
  · subst h0
    clear e128 hN9
    go_enter Try.func5, Try.ntmps5
    go_wp2_with (first
      | (go_at_call 24; refine ((unhide sz) _ _ ?_ ?_).mono ?_; omega; omega; rintro e w1 ⟨rfl, hb⟩; have hB := bel3 hB hb; clear hb)
      | (go_at_call 22; refine (alive_any _).mono ?_; rintro e w1 ⟨rfl, hb⟩; have hB := bel3 hB hb; clear hb))
    go_ret
    exact ⟨rfl, hB⟩
  · have h0' : ((n : Int) == 0) = false := by simp; omega
    have h128 : (W.num (128 * n)).length = (W.num n).length + 1 := W.num_128 (by omega)
    clear h0
    by_cases hs : 36028797018963968 < n
    · have hs' : (36028797018963968 : Int) < n := by omega
      clear hs
      go_enter Try.func5, Try.ntmps5
      go_wp2_with (first
        | (go_at_call 24; refine ((unhide sz) _ _ ?_ ?_).mono ?_; omega; omega; rintro e w1 ⟨rfl, hb⟩; have hB := bel3 hB hb; clear hb)
        | (go_at_call 22; refine (alive_any _).mono ?_; rintro e w1 ⟨rfl, hb⟩; have hB := bel3 hB hb; clear hb))
      go_ret
      exact ⟨rfl, hB⟩
    · have hs' : (n : Int) ≤ 36028797018963968 := by omega
      clear hs
      go_enter Try.func5, Try.ntmps5
      go_wp2_with (first
        | (go_at_call 24; refine ((unhide sz) _ _ ?_ ?_).mono ?_; omega; omega; rintro e w1 ⟨rfl, hb⟩; have hB := bel3 hB hb; clear hb)
        | (go_at_call 22; refine (alive_any _).mono ?_; rintro e w1 ⟨rfl, hb⟩; have hB := bel3 hB hb; clear hb))
      go_ret
      exact ⟨rfl, hB⟩

set_option maxRecDepth 100000 in
set_option maxHeartbeats 1000000 in
theorem grows_eq (n m : Nat) (w : World) (h : n < 9223372036854775808) (h2 : m < 9223372036854775808) (hrel : n = m) :
    Calls Try.prog 5 #[.int .i64 n, .int .i64 m] w fun e w' => e = .returned (.bool true) ∧ Below w.heap.size w w' := by
  have sz := hide size_int
  have hB : Below w.heap.size w w := Below.refl _ _
  have hN9 : ((W.num n).length : Int) ≤ 9 := by have := W.num_len9 h; omega
  have hN1 : (1 : Int) ≤ (W.num n).length := by have := W.num_pos n; omega
  have e128 : (128 * (n : Int)).toNat = 128 * n := by omega
  subst hrel
  by_cases h0 : n = 0
  · subst h0
    clear e128 hN9
    go_enter Try.func5, Try.ntmps5
    go_wp2_with (first
      | (go_at_call 24; refine ((unhide sz) _ _ ?_ ?_).mono ?_; omega; omega; rintro e w1 ⟨rfl, hb⟩; have hB := bel3 hB hb; clear hb)
      | (go_at_call 22; refine (alive_any _).mono ?_; rintro e w1 ⟨rfl, hb⟩; have hB := bel3 hB hb; clear hb))
    go_ret
    exact ⟨rfl, hB⟩
  · have h0' : ((n : Int) == 0) = false := by simp; omega
    have h128 : (W.num (128 * n)).length = (W.num n).length + 1 := W.num_128 (by omega)
    clear h0
    by_cases hs : 36028797018963968 < n
    · have hs' : (36028797018963968 : Int) < n := by omega
      clear hs
      go_enter Try.func5, Try.ntmps5
      go_wp2_with (first
        | (go_at_call 24; refine ((unhide sz) _ _ ?_ ?_).mono ?_; omega; omega; rintro e w1 ⟨rfl, hb⟩; have hB := bel3 hB hb; clear hb)
        | (go_at_call 22; refine (alive_any _).mono ?_; rintro e w1 ⟨rfl, hb⟩; have hB := bel3 hB hb; clear hb))
      go_ret
      exact ⟨rfl, hB⟩
    · have hs' : (n : Int) ≤ 36028797018963968 := by omega
      clear hs
      go_enter Try.func5, Try.ntmps5
      go_wp2_with (first
        | (go_at_call 24; refine ((unhide sz) _ _ ?_ ?_).mono ?_; omega; omega; rintro e w1 ⟨rfl, hb⟩; have hB := bel3 hB hb; clear hb)
        | (go_at_call 22; refine (alive_any _).mono ?_; rintro e w1 ⟨rfl, hb⟩; have hB := bel3 hB hb; clear hb))
      go_ret
      exact ⟨rfl, hB⟩

theorem wireGrows_walk (n m : Int) (w : World) (h : n ≤ 9223372036854775807) (h2 : m ≤ 9223372036854775807) :
    Calls Try.prog 5 #[.int .i64 n, .int .i64 m] w fun e w' => e = .returned (.bool true) ∧ Below w.heap.size w w' := by
  by_cases h0 : n < 0
  · exact grows_neg n m w h0
  · by_cases h1 : m < 0
    · exact grows_neg2 n m w (by omega) h1
    · obtain ⟨a, rfl⟩ := Int.eq_ofNat_of_zero_le (show 0 ≤ n by omega)
      obtain ⟨b, rfl⟩ := Int.eq_ofNat_of_zero_le (show 0 ≤ m by omega)
      rcases Nat.lt_trichotomy a b with hlt | heq | hgt
      · exact grows_lt a b w (by omega) (by omega) hlt
      · exact grows_eq a b w (by omega) (by omega) heq
      · exact grows_gt a b w (by omega) (by omega) hgt
end Go.Proofs.Ytdhgobflbacgbaa
