/- The walk of the document's GetNum: the same, of a string. -/
import Derived.Test.YtdhgobflbacgbaaGet
namespace Go.Proofs.Ytdhgobflbacgbaa
open Go.RowKit

theorem bl_get (s : ByteArray) (k : Nat) (h : k < s.size) : s.data.toList[k]'(by simpa using h) = s[k] := rfl
theorem bl_drop (s : ByteArray) (k : Nat) (h : k < s.size) : s.data.toList.drop k = s[k] :: s.data.toList.drop (k + 1) := List.drop_eq_getElem_cons (by simpa using h)

theorem nine {i : Nat} (h : ((i : Int) == 8) = true) : ((i : Int) + 1 == 9) = true := by
  have := eq_of_beq h
  exact beq_iff_eq.2 (by omega)
theorem nine' {i : Nat} (h : ((i : Int) == 8) = false) : ((i : Int) + 1 == 9) = false := by
  have := ne_of_beq_false h
  exact beq_eq_false_iff_ne.2 (by omega)
theorem racc_eq {x i m : Nat} (hi : i ≤ 8) (_hx : x < 256) (hs : m < 128 ^ i) : wrap64 ((m : Int) + wrap64 ((x : Int) % 128 * 2 ^ (7 * i))) = ((m + x % 128 * 128 ^ i : Nat) : Int) := by
  have h0 := term_lt (x := x) hi
  have h3 := pow_le8 hi
  have e2 : ((x : Int) % 128 * 2 ^ (7 * i)) = ((x % 128 * 128 ^ i : Nat) : Int) := by rw [← pow7]; simp
  have h5 : m + x % 128 * 128 ^ i < 9223372036854775808 := by
    have := acc_lt (x := x) hs
    have h6 : 128 ^ (i + 1) ≤ 128 ^ 9 := Nat.pow_le_pow_right (by omega) (by omega)
    omega
  have e3 : wrap64 ((x % 128 * 128 ^ i : Nat) : Int) = ((x % 128 * 128 ^ i : Nat) : Int) := IntWalk.wrap64_in _ (by omega)
  rw [e2, e3, IntWalk.wrap64_in _ (by omega)]
  omega

set_option maxRecDepth 100000 in
set_option maxHeartbeats 400000 in
theorem rget_any (s : ByteArray) (p : Nat) (w : World) (hp : p ≤ s.size) (hb : s.size ≤ 140737488355328) :
    Calls Try.prog 20 #[.string s, .int .i64 p] w fun e w' => e = .returned (gv (W.gnum s.data.toList p)) ∧ w = w' := by
  have h1 : ¬ (p : Int) < 0 := by omega
  have h2 : ¬ (s.size : Int) < p := by omega
  go_enter Try.func20, Try.ntmps20
  go_wp2
  go_loop [7, 8] (fun n i => ∃ j m : Nat, i = .int .i64 j ∧ n = .int .i64 m ∧ getRel s.data.toList p j m ∧ j ≤ 8 ∧ p + j ≤ s.size ∧ m < 128 ^ j) (fun _ i => 9 - (intOf i).toNat)
  case atStart =>
    refine ⟨0, 0, rfl, rfl, ?_, by omega, by omega, by simp⟩
    unfold getRel W.gnum
    rw [if_neg (by simp; omega)]
    simp
  case round =>
    obtain ⟨i, m, rfl, rfl, hg, hi, hpi, hs⟩ := hrel
    by_cases hend : p + i = s.size
    · have hend' : ¬ (i : Int) < s.size - p := by omega
      have HG := Lib.hid hg
      clear hend hg
      go_wp2
      go_ret3
      have hg := HG.out
      refine ⟨?_, rfl⟩
      unfold getRel at hg
      rw [hg, List.drop_eq_nil_of_le (by simp; omega)]
      rfl
    · have hlt : p + i < s.size := by omega
      clear hend
      have hG : Hid (W.gnum s.data.toList p = W.gfin p (W.getL i m (s[p+i] :: s.data.toList.drop (p + i + 1)))) := by rw [← bl_drop _ _ hlt]; exact hg
      clear hg
      have hx8 : s[p+i].toNat < 256 := UInt8.toNat_lt _
      go_wp2
      all_goals have HX : Hid (s[p+i].toNat = s[p+i].toNat) := rfl
      · go_ret3
        rw [fin_range hG HX ‹_› (nine ‹_›)]
        exact ⟨rfl, rfl⟩
      · have hq : ((i : Int) == 8) = false := by assumption
        have hne : i ≠ 8 := by
          have := ne_of_beq_false hq
          omega
        rw [racc_eq hi hx8 hs]
        have hm := fin_more hG HX ‹_› (nine' hq)
        exact ⟨⟨i + 1, m + s[p+i].toNat % 128 * 128 ^ i, rfl, rfl, hm, by omega, by omega, acc_lt hs⟩, by simp [intOf]; omega⟩
      · go_ret3
        rw [fin_form hG HX ‹_› ‹_›]
        exact ⟨rfl, rfl⟩
      · go_ret3
        have hx0 : s[p+i].toNat = 0 := by assumption
        have hi0 : ¬ 0 < i := by assumption
        rw [fin_last hG HX ‹_› (by omega)]
        refine ⟨?_, rfl⟩
        have h9 := pow_le8 hi
        have e : wrap64 (m : Int) = (m : Int) := IntWalk.wrap64_in _ (by omega)
        simp only [gv, hx0]
        rw [show ((p : Int) + (i : Int) + 1) = ((p + (i + 1) : Nat) : Int) from by omega, e]
        simp
      · go_ret3
        have hx0 : ¬ s[p+i].toNat = 0 := by assumption
        rw [fin_last hG HX ‹_› (by omega)]
        refine ⟨?_, rfl⟩
        simp only [gv]
        rw [show ((p : Int) + (i : Int) + 1) = ((p + (i + 1) : Nat) : Int) from by omega, racc_eq hi hx8 hs]
        rfl

set_option maxRecDepth 100000 in
set_option maxHeartbeats 400000 in
theorem rget_bad (s : ByteArray) (p : Int) (w : World) (h : p < 0 ∨ (s.size : Int) < p) :
    Calls Try.prog 20 #[.string s, .int .i64 p] w fun e w' => e = .returned (.tuple #[.int .i64 0, .int .i64 0, .int .i64 1]) ∧ w = w' := by
  by_cases h2 : p < 0
  · clear h
    go_enter Try.func20, Try.ntmps20
    go_wp2
    go_ret3
    exact ⟨rfl, rfl⟩
  · have h3 : (s.size : Int) < p := by omega
    clear h
    go_enter Try.func20, Try.ntmps20
    go_wp2
    go_ret3
    exact ⟨rfl, rfl⟩

/-- the document's GetNum: what the document says -/
theorem rget_all (s : ByteArray) (p : Int) (w : World) (hb : s.size ≤ 140737488355328) :
    Calls Try.prog 20 #[.string s, .int .i64 p] w fun e w' => e = .returned (gv (W.gnum s.data.toList p)) ∧ w = w' := by
  by_cases h : p < 0 ∨ (s.size : Int) < p
  · refine (rget_bad s p w h).mono fun e w' hh => ?_
    unfold W.gnum
    rw [if_pos (by simpa using h)]
    exact hh
  · obtain ⟨q, rfl⟩ := Int.eq_ofNat_of_zero_le (show 0 ≤ p by omega)
    exact rget_any s q w (by omega) hb
end Go.Proofs.Ytdhgobflbacgbaa
