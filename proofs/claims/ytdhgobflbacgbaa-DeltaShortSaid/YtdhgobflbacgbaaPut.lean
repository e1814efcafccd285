/- The walk of wire.put: a number's bytes are added to a row of the call's own, at every number from 0 to 2^63 - 1. -/
import Derived.Test.YtdhgobflbacgbaaProg
import Derived.Test.YtdhgobflbacgbaaSpec
import Derived.Test.YtdhgobflbacgbaaKit
namespace Go.Proofs.Ytdhgobflbacgbaa
open Go.RowKit

theorem info5 : (Try.prog.info? 5).map (fun i => (i.zero, i.size, i.bytes)) = some (some (.int .u8 0), 1, 1) := by kernel_rfl
theorem et22 : ET Try.prog 22 5 (.int .u8 0) 1 := ⟨Try.underlying22, info_parts info5, rfl⟩

set_option maxRecDepth 100000 in
theorem or128 : ∀ m : Fin 256, bits BinOp.or IntKind.u8 (m.val : Int) 128 = ((m.val % 128 + 128 : Nat) : Int) := by decide
theorem or128k (k : Nat) : bits BinOp.or IntKind.u8 ((k : Int) % 256) 128 = ((UInt8.ofNat (k % 128 + 128)).toNat : Int) := by
  have h := or128 ⟨k % 256, Nat.mod_lt _ (by omega)⟩
  have e : k % 256 % 128 = k % 128 := by omega
  simp only [e] at h
  rw [show ((k : Int) % 256) = ((k % 256 : Nat) : Int) from by omega, h]
  simp; omega

set_option maxRecDepth 100000 in
set_option maxHeartbeats 400000 in
theorem put_any (base : Nat) (v : Value) (n : Nat) (xs : List Value) (N : Nat) (w : World) (hN : N < 9223372036854775808) (hn : n ≤ 140737488355000)
    (hown : w.ownsRow base 5 1 v n xs) (hbase : base ≤ w.heap.size) :
    Calls Try.prog 40 #[v, .int .i64 N] w fun e w' => ∃ A c, e = .returned (.slice A (n + (W.num N).length) c) ∧
      w'.ownsRow base 5 1 (.slice A (n + (W.num N).length) c) (n + (W.num N).length) (xs ++ bvs (W.num N)) ∧ Gr w w' v (.slice A (n + (W.num N).length) c) := by
  go_enter Try.func40, Try.ntmps40
  go_wp2_with fail
  go_loopw [0, 1] (fun b x wr => ∃ (k : Nat) (pre : List UInt8), x = .int .i64 k ∧ k < 9223372036854775808 ∧ pre.length ≤ 9 ∧ pre ++ W.num k = W.num N ∧ wr.ownsRow base 5 1 b (n + pre.length) (xs ++ bvs pre) ∧ Gr w wr v b) (fun _ x _ => (intOf x).toNat)
  case atStart => exact ⟨N, [], rfl, hN, by simp, by simp, by simpa [bvs] using hown, Gr.refl _ _⟩
  case round =>
    obtain ⟨k, pre, rfl, hk, hp, hpre, hown, hgr⟩ := hrel
    have hb : base ≤ wr.heap.size := Nat.le_trans hbase hgr.g.size
    by_cases hlt : k < 128
    · go_wp2_with (at_builtin; refine wpList_app1 rfl _ _ _ rfl et22 base u0 (n + pre.length) (xs ++ bvs pre) rfl hown (.int .u8 k) rfl rfl ?_ (by decide) hb ?_; omega; intro A' c' w1 hown1 hgr1 _)
      go_ret
      have e0 : W.num k = [UInt8.ofNat k] := W.num_lt hlt
      have e1 : W.num N = pre ++ [UInt8.ofNat k] := by rw [← hpre, e0]
      have e2 : n + (W.num N).length = n + pre.length + 1 := by rw [e1]; simp; omega
      have e3 : xs ++ bvs (W.num N) = xs ++ bvs pre ++ [Value.int IntKind.u8 ↑k] := by
        rw [e1, bvs_append]; simp [bvs, bv, Nat.mod_eq_of_lt (show k < 256 by omega)]
      rw [e2, e3]
      exact ⟨_, _, rfl, hown1, hgr.trans hgr1⟩
    · go_wp2_with (at_builtin; refine wpList_app1 rfl _ _ _ rfl et22 base u0 (n + pre.length) (xs ++ bvs pre) rfl hown _ rfl rfl ?_ (by decide) hb ?_; omega; intro A' c' w1 hown1 hgr1 _)
      have e0 : W.num k = UInt8.ofNat (k % 128 + 128) :: W.num (k / 128) := W.num_ge (by omega)
      have e1 : (pre ++ [UInt8.ofNat (k % 128 + 128)]) ++ W.num (k / 128) = W.num N := by rw [← hpre, e0]; simp
      have e2 : bits BinOp.or IntKind.u8 ((k : Int) % 256) 128 = ((UInt8.ofNat (k % 128 + 128)).toNat : Int) := or128k k
      have e3 := congrArg List.length e1
      have e4 := W.num_len9 hN
      have e5 := W.num_pos (k / 128)
      simp only [List.length_append, List.length_singleton] at e3
      rw [e2] at hown1
      refine ⟨⟨k / 128, pre ++ [UInt8.ofNat (k % 128 + 128)], by simp, by omega, ?_, e1, ?_, hgr.trans hgr1⟩, ?_⟩
      · simp; omega
      · simpa [bvs, bv, Nat.add_assoc] using hown1
      · simp only [intOf]; omega
end Go.Proofs.Ytdhgobflbacgbaa
