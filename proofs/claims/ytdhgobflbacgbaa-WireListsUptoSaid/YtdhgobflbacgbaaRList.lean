/- The document's List: the bytes of a list as a string, at every list whose bytes are fewer than 2^46. -/
import Derived.Test.YtdhgobflbacgbaaList
namespace Go.Proofs.Ytdhgobflbacgbaa
open Go.RowKit

set_option maxRecDepth 100000 in
set_option maxHeartbeats 400000 in
theorem rlist_any (A : Option Addr) (l : List (List UInt8)) (n c : Nat) (w : World) (hn : l.length = n) (hs : (W.list l).length ≤ 70368744177664) (hn6 : n ≤ 140737488355328) (hr : Reads w w.heap.size 1 A n (svs l)) :
    Calls Try.prog 33 #[.slice A n c] w fun e w' => e = .returned (.string (bs (W.list l))) ∧ Below w.heap.size w w' := by
  have hlen : (W.list l).length = (W.num n).length + (W.texts l).length := by simp [W.list, hn]
  have hT := W.texts_take_le l
  have HC := hide (rnum_any n w (by omega))
  have hL := hide (show W.list l = W.num n ++ W.texts l by rw [W.list, hn])
  replace hn := hide hn
  replace hT := hide hT
  replace hlen := hide hlen
  go_enter Try.func33, Try.ntmps33
  go_wp2_with (go_at_call 25; refine (unhide HC).mono ?_; rintro e w1 ⟨rfl, hb1⟩)
  go_loopw [3, 4] (fun b i wr => ∃ k : Nat, i = .int .i64 k ∧ k ≤ n ∧ b = .string (bs (W.num n ++ W.texts (l.take k))) ∧ Below w.heap.size w wr) (fun _ i _ => n - (intOf i).toNat)
  case atStart => exact ⟨0, rfl, Nat.zero_le _, by simp [W.texts], hb1⟩
  case round =>
    obtain ⟨k, rfl, hk, rfl, hbel⟩ := hrel
    by_cases hlt : k < n
    · have hkl : k < l.length := by have := unhide hn; omega
      obtain ⟨ad, u, rfl, hbl, hu, hcell⟩ := (hr.below hbel).at_ hlt
      obtain rfl : sv l[k] = u := by rw [svs_get hkl] at hu; injection hu
      have hsucc := W.texts_take_succ hkl
      have hle := (unhide hT) (k + 1)
      have hle0 := unhide hlen
      rw [hsucc] at hle
      simp only [List.length_append] at hle
      have ht := rtext_any (bs l[k]) wr (by rw [bs_size]; omega)
      rw [bs_data] at ht
      have htl : (W.text l[k]).length = (W.num l[k].length).length + l[k].length := by simp [W.text]
      have hadd := fun w0 => str_add w0 (W.num n ++ W.texts (l.take k)) (W.text l[k]) (by rw [htl]; simp only [List.length_append]; omega)
      have e1 : W.num n ++ W.texts (l.take (k + 1)) = W.num n ++ W.texts (l.take k) ++ W.text l[k] := by rw [hsucc]; simp [W.text]
      replace ht := hide ht
      have HE := hide e1
      clear hsucc hle hle0 hu htl e1
      unfold sv at hcell
      go_wp2_with fail
      refine (unhide ht).mono ?_
      rintro e w2 ⟨rfl, hb2⟩
      go_wp2_with fail
      exact ⟨⟨k + 1, by go_num, by omega, by rw [unhide HE, List.append_assoc], hbel.trans (hb2.mono hbel.size)⟩, by simp [intOf]; omega⟩
    · go_wp2_with fail
      go_ret
      have hk' : k = n := by omega
      subst hk'
      have e0 : l.take k = l := List.take_of_length_le (by have := unhide hn; omega)
      rw [unhide hL, e0]
      exact ⟨rfl, hbel⟩
end Go.Proofs.Ytdhgobflbacgbaa
