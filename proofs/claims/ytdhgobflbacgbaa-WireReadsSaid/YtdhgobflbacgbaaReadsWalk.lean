/- The walk of the statement WireReads: it returns true. -/
import Derived.Test.YtdhgobflbacgbaaHeld
namespace Go.Proofs.Ytdhgobflbacgbaa
open Go.RowKit

set_option maxRecDepth 100000 in
set_option maxHeartbeats 400000 in
theorem wireReads_walk (A : Option Addr) (l : List UInt8) (c : Nat) (p : Int) (w : World) (hl : l.length ≤ 140737488355000) (hr : Reads w w.heap.size 1 A l.length (bvs l)) :
    Calls Try.prog 3 #[.slice A l.length c, .int .i64 p] w fun e w' => e = .returned (.bool true) ∧ Below w.heap.size w w' := by
  obtain ⟨x, y, z, hg⟩ : ∃ x y z : Nat, gv (W.gnum l p) = .tuple #[.int .i64 x, .int .i64 y, .int .i64 z] := ⟨_, _, _, rfl⟩
  have hg := Lib.hid hg
  go_enter Try.func3, Try.ntmps3
  go_wp2_with fail
  refine (lent_any A l c w hl hr).mono ?_
  rintro e w1 ⟨A1, c1, rfl, hc1, hown, hbel⟩
  have hx : Reads w1 w1.heap.size 1 A1 (l.length + 2) (bvs (l ++ [77, 78])) := Reads.of_own hown
  have hr1 : Reads w1 w.heap.size 1 A l.length (bvs l) := hr.below hbel
  go_wp2_with fail
  refine (get_eq _ A1 l _ c1 p _ rfl (by omega) (reads_prefix rfl hx) hg.out).mono ?_
  rintro e w2 ⟨rfl, rfl⟩
  have hcv := run_conv_reads (P := Try.prog) Try.underlying22 Try.underlying5 c hr1 9 Try.underlying9
  go_wp2_with fail
  refine (rget_eq ⟨l.toArray⟩ p _ (by simp [ByteArray.size]; omega) (x := x) (y := y) (z := z) (by simpa using hg.out)).mono ?_
  rintro e w2 ⟨rfl, rfl⟩
  go_wp2_with fail
  refine (held_any _ _ A1 A l c1 c _ hl hc1 hx hr1).mono ?_
  rintro e w2 ⟨rfl, k, rfl⟩
  go_wp2_with fail
  refine (alive_any _).mono ?_
  rintro e w3 ⟨rfl, hb3⟩
  go_wp2_with fail
  go_ret
  exact ⟨rfl, (hbel.trans ((below_drewN (Below.refl _ _) k))).trans (hb3.mono (by have := hbel.size; simp; omega))⟩
end Go.Proofs.Ytdhgobflbacgbaa
