/- wire.Num and wire.Size: the bytes of a number, and how many they are, at every number. -/
import Derived.Test.YtdhgobflbacgbaaPut
namespace Go.Proofs.Ytdhgobflbacgbaa
open Go.RowKit

set_option maxRecDepth 100000 in
set_option maxHeartbeats 400000 in
theorem num_any (N : Nat) (w : World) (hN : N < 9223372036854775808) :
    Calls Try.prog 23 #[.int .i64 N] w fun e w' => ∃ A c, e = .returned (.tuple #[.slice A (W.num N).length c, .int .i64 0]) ∧
      w'.ownsRow w.heap.size 5 1 (.slice A (W.num N).length c) (W.num N).length (bvs (W.num N)) ∧ Below w.heap.size w w' := by
  have hc := put_any w.heap.size (.slice none 0 0) 0 [] N w hN (by omega) (World.ownsRow_nil _ _ _ _) (Nat.le_refl _)
  simp only [Nat.zero_add, List.nil_append] at hc
  have HC := hide hc
  clear hc
  have HN := Lib.hid hN
  clear hN
  go_enter Try.func23, Try.ntmps23
  go_wp2_with (go_at_call 40; refine (unhide HC).mono ?_; rintro e w1 ⟨A, c, rfl, hown, hgr⟩)
  go_ret2
  exact ⟨A, c, rfl, hown, hgr.below (Nat.le_refl _) (by simp [Value.ownBlock])⟩

set_option maxRecDepth 100000 in
set_option maxHeartbeats 400000 in
theorem num_neg (n : Int) (w : World) (h : n < 0) :
    Calls Try.prog 23 #[.int .i64 n] w fun e w' => e = .returned (.tuple #[.slice none 0 0, .int .i64 9]) ∧ w = w' := by
  go_enter Try.func23, Try.ntmps23
  go_wp2
  go_ret2
  exact ⟨rfl, rfl⟩

set_option maxRecDepth 100000 in
set_option maxHeartbeats 400000 in
theorem size_any (N : Nat) (w : World) (hN : N < 9223372036854775808) :
    Calls Try.prog 24 #[.int .i64 N] w fun e w' => e = .returned (.int .i64 (W.num N).length) ∧ Below w.heap.size w w' := by
  have HC := hide (num_any N w hN)
  have HN := Lib.hid hN
  clear hN
  go_enter Try.func24, Try.ntmps24
  go_wp2_with (go_at_call 23; refine (unhide HC).mono ?_; rintro e w1 ⟨A, c, rfl, hown, hbel⟩)
  go_ret
  exact ⟨rfl, hbel⟩

set_option maxRecDepth 100000 in
set_option maxHeartbeats 400000 in
theorem size_neg (n : Int) (w : World) (h : n < 0) :
    Calls Try.prog 24 #[.int .i64 n] w fun e w' => e = .returned (.int .i64 0) ∧ w = w' := by
  have HC := hide (num_neg n w h)
  go_enter Try.func24, Try.ntmps24
  go_wp2_with (go_at_call 23; refine (unhide HC).mono ?_; rintro e w1 ⟨rfl, rfl⟩)
  go_ret
  exact ⟨rfl, rfl⟩
end Go.Proofs.Ytdhgobflbacgbaa
