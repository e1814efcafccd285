/- The walk of the statement WireNums: it returns true. -/
import Derived.Test.YtdhgobflbacgbaaRNum
import Derived.Test.YtdhgobflbacgbaaLent
import Derived.Deep.RegionHeld3
namespace Go.Proofs.Ytdhgobflbacgbaa
open Go.RowKit

/-- a slice of bytes made a string, in whatever world comes behind the one in which it was read -/
theorem conv_later {w w1 : World} {A : Option Addr} {l : List UInt8} {n c B : Nat} (hn : l.length = n) (hr : Reads w B 1 A n (bvs l)) (hb : Below B w w1) :
    (convert 22 9 (.slice A n c)).run Try.prog w1 = .ok (.string (bs l)) w1 :=
  run_conv_readsN Try.underlying22 Try.underlying5 l n c hn (hr.below hb) 9 Try.underlying9

set_option maxRecDepth 100000 in
set_option maxHeartbeats 400000 in
theorem wireNums_neg (n : Int) (w : World) (h : n < 0) :
    Calls Try.prog 4 #[.int .i64 n] w fun e w' => e = .returned (.bool true) ∧ Below w.heap.size w w' := by
  have h1 := hide (num_neg n w h)
  have h2 := hide (size_neg n w h)
  go_enter Try.func4, Try.ntmps4
  go_wp2_with (first
    | (go_at_call 23; refine (unhide h1).mono ?_; rintro e w1 ⟨rfl, rfl⟩)
    | (go_at_call 24; refine (unhide h2).mono ?_; rintro e w1 ⟨rfl, rfl⟩)
    | (go_at_call 22; refine (alive_any _).mono ?_; rintro e w3 ⟨rfl, hb3⟩))
  go_ret
  exact ⟨rfl, hb3⟩

set_option maxRecDepth 100000 in
set_option maxHeartbeats 800000 in
theorem wireNums_pos (n : Nat) (w : World) (h : n < 9223372036854775808) :
    Calls Try.prog 4 #[.int .i64 n] w fun e w' => e = .returned (.bool true) ∧ Below w.heap.size w w' := by
  have h1 := hide (num_any n w h)
  have h2 := hide (fun w0 => size_any n w0 h)
  have h3 := hide (fun w0 => rnum_any n w0 h)
  have H := hide h
  clear h
  go_enter Try.func4, Try.ntmps4
  go_wp2_with (go_at_call 23; refine (unhide h1).mono ?_; rintro e w1 ⟨A, c, rfl, hown, hb1⟩)
  generalize hl : W.num n = l at *
  clear hl h1
  have hr : Reads w1 w1.heap.size 1 A l.length (bvs l) := Reads.of_own hown
  have hcv := fun w0 (hb : Below w1.heap.size w1 w0) => conv_later (c := c) rfl hr hb
  clear hown hr
  go_region_held3 (fun w0 => Below w1.heap.size w1 w0) (first | exact (Below.refl _ _).drew | assumption | (exact Below.trans (by assumption) (Below.mono (by assumption) (Below.size (by assumption))))) (first
    | (go_at_call 25; refine ((unhide h3) _).mono ?_; rintro e w2 ⟨rfl, hb2⟩)
    | (go_at_call 24; refine ((unhide h2) _).mono ?_; rintro e w2 ⟨rfl, hb2⟩)
    | (go_at_call 22; refine (alive_any _).mono ?_; rintro e w2 ⟨rfl, hb2⟩))
  go_wp2
  go_ret
  exact ⟨rfl, hb1.trans (Below.mono (by assumption) hb1.size)⟩

theorem wireNums_walk (n : Int) (w : World) (h : n ≤ 9223372036854775807) :
    Calls Try.prog 4 #[.int .i64 n] w fun e w' => e = .returned (.bool true) ∧ Below w.heap.size w w' := by
  by_cases h0 : n < 0
  · exact wireNums_neg n w h0
  · obtain ⟨m, rfl⟩ := Int.eq_ofNat_of_zero_le (show 0 ≤ n by omega)
    exact wireNums_pos m w (by omega)
end Go.Proofs.Ytdhgobflbacgbaa
