/- The document's Num: the bytes of a number, at every number that is not below 0. -/
import Derived.Test.YtdhgobflbacgbaaNum
import Derived.Deep.RegionWith
namespace Go.Proofs.Ytdhgobflbacgbaa
open Go.RowKit

/-- a byte list as a string -/
def bs (l : List UInt8) : ByteArray := ⟨l.toArray⟩
theorem bs_size (l : List UInt8) : (bs l).size = l.length := by simp [bs, ByteArray.size]
theorem bs_append (a b : List UInt8) : bs a ++ bs b = bs (a ++ b) := by unfold bs; rw [ByteArray.mk_append_mk]

theorem conv_one (w : World) (x : Nat) (h : x < 256) : (convert 22 9 (.slice (some ⟨w.heap.size, 0, none⟩) 1 1)).run Try.prog (w.alloc (.cells #[.int .u8 x] 5)) = .ok (.string (bs [UInt8.ofNat x])) (w.alloc (.cells #[.int .u8 x] 5)) := by
  refine run_conv_readsN Try.underlying22 Try.underlying5 [UInt8.ofNat x] 1 1 rfl (B := w.heap.size + 1) ?_ 9 Try.underlying9
  have h1 := reads_new w #[.int .u8 x] 5
  have e : bvs [UInt8.ofNat x] = [Value.int .u8 x] := by simp [bvs, bv, Nat.mod_eq_of_lt h]
  rw [e]
  exact h1

set_option maxRecDepth 100000 in
set_option maxHeartbeats 400000 in
theorem rnum_lt (n : Nat) (w : World) (h : n < 128) :
    Calls Try.prog 25 #[.int .i64 n] w fun e w' => e = .returned (.string (bs (W.num n))) ∧ Below w.heap.size w w' := by
  have hcv := conv_one w n (by omega)
  go_enter Try.func25, Try.ntmps25
  go_wp2
  go_ret
  rw [W.num_lt h]
  exact ⟨rfl, (Below.refl _ _).alloc (Nat.le_refl _) _⟩

theorem conv_one_drew (w : World) (x : Nat) (h : x < 256) : (convert 22 9 (.slice (some ⟨w.heap.size, 0, none⟩) 1 1)).run Try.prog (w.alloc (.cells #[.int .u8 x] 5)).drew = .ok (.string (bs [UInt8.ofNat x])) (w.alloc (.cells #[.int .u8 x] 5)).drew := by
  have h1 := (reads_new w #[.int .u8 x] 5).drew
  have e : bvs [UInt8.ofNat x] = [Value.int .u8 x] := by simp [bvs, bv, Nat.mod_eq_of_lt h]
  exact run_conv_readsN Try.underlying22 Try.underlying5 [UInt8.ofNat x] 1 1 rfl (by rw [e]; exact h1) 9 Try.underlying9
theorem conv_one_later {w w1 : World} {x : Nat} (h : x < 256) (hb : Below ((w.alloc (.cells #[.int .u8 x] 5)).drew).heap.size (w.alloc (.cells #[.int .u8 x] 5)).drew w1) :
    (convert 22 9 (.slice (some ⟨w.heap.size, 0, none⟩) 1 1)).run Try.prog w1 = .ok (.string (bs [UInt8.ofNat x])) w1 := by
  have h1 := (((reads_new w #[.int .u8 x] 5).drew).more (B' := ((w.alloc (.cells #[.int .u8 x] 5)).drew).heap.size) (by simp)).below hb
  have e : bvs [UInt8.ofNat x] = [Value.int .u8 x] := by simp [bvs, bv, Nat.mod_eq_of_lt h]
  exact run_conv_readsN Try.underlying22 Try.underlying5 [UInt8.ofNat x] 1 1 rfl (by rw [e]; exact h1) 9 Try.underlying9

theorem str_add (w : World) (a b : List UInt8) (h : a.length + b.length ≤ 9223372036854775807) : (Op.stringOp .add (bs a) (bs b)).run Try.prog w = .ok (.string (bs (a ++ b))) w := by
  rw [run_string_add_sum w _ _ (by rw [bs_size, bs_size]; exact h), bs_append]

set_option maxRecDepth 100000 in
set_option maxHeartbeats 400000 in
theorem rnum_step (n x m : Nat) (w : World) (hx : x = n % 128 + 128) (hm : m = n / 128) (h : ¬ n < 128) (hn : n < 9223372036854775808)
    (ih : ∀ w : World, Calls Try.prog 25 #[.int .i64 m] w fun e w' => e = .returned (.string (bs (W.num m))) ∧ Below w.heap.size w w') :
    Calls Try.prog 25 #[.int .i64 n] w fun e w' => e = .returned (.string (bs (W.num n))) ∧ Below w.heap.size w w' := by
  have IH := hide ih
  clear ih
  have hx8 : x < 256 := by omega
  have e0 : ((n : Int)).tmod 128 = ((n % 128 : Nat) : Int) := by rw [Int.tmod_eq_emod_of_nonneg (by omega)]; rfl
  have e1 : IntKind.u8.wrap (IntKind.i64.wrap (((n : Int)).tmod 128 + 128)) = (x : Int) := by
    rw [e0, IntWalk.i64_in _ (by omega), IntWalk.u8_in _ (by omega)]; omega
  have e2 : IntKind.i64.wrap ((n : Int) / 128) = (m : Int) := by rw [IntWalk.i64_in _ (by omega)]; omega
  have HF := hide (show W.num n = [UInt8.ofNat x] ++ W.num m by rw [W.num_ge (by omega), hx, hm]; rfl)
  have hA := fun w0 => conv_one w0 x hx8
  have hB := fun w0 => conv_one_drew w0 x hx8
  have hL : (W.num m).length ≤ 9 := W.num_len9 (by omega)
  have hS := fun w0 => str_add w0 [UInt8.ofNat x] (W.num m) (by simp; omega)
  have HX := hide hx
  have HM := hide hm
  clear hx hm e0
  go_enter Try.func25, Try.ntmps25
  go_wp2
  go_region_with (first
    | (go_at_call 25; refine (unhide IH _).mono ?_; rintro e w1 ⟨rfl, hb1⟩; try (have hC := conv_one_later hx8 hb1)))
  all_goals go_wp2
  all_goals go_ret
  all_goals refine ⟨by rw [unhide HF]; rfl, ?_⟩
  · exact ((((Below.refl _ _).alloc (Nat.le_refl _) _).drew).trans (hb1.mono (by simp)))
  · exact ((((Below.refl _ _).alloc (Nat.le_refl _) _).drew).trans (hb1.mono (by simp)))
  · exact ((((Below.refl _ _).drew).trans hb1).alloc (by have := hb1.size; simpa using this) _)

/-- recensionref02.Num -/
theorem rnum_any : ∀ (n : Nat) (w : World), n < 9223372036854775808 → Calls Try.prog 25 #[.int .i64 n] w fun e w' => e = .returned (.string (bs (W.num n))) ∧ Below w.heap.size w w' := by
  intro n
  induction n using Nat.strongRecOn with
  | _ n ih =>
    intro w hn
    by_cases h : n < 128
    · exact rnum_lt n w h
    · exact rnum_step n _ (n / 128) w rfl rfl h hn (fun w' => ih (n / 128) (by omega) w' (by omega))
end Go.Proofs.Ytdhgobflbacgbaa
