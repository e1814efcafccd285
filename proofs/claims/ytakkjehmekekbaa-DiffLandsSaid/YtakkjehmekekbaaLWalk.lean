/- DiffLands walked whole: the script from a text to another one, done on the one, leads to the other. Conditions: texts of at most 2^47 bytes. -/
import Derived.Test.YtakkjehmekekbaaFWalks
namespace Go.Proofs.Ytakkjehmekekbaa
open Go.RowKit

set_option maxRecDepth 100000 in
set_option maxHeartbeats 1000000 in
theorem lands_1 (a b : List UInt8) (w : World) (ha : a.length ≤ 1000) (hb : b.length ≤ 1000) :
    Calls Try.prog 6 #[.string (bs a), .string (bs b)] w fun e w' => e = .returned (.bool true) ∧ Below w.heap.size w w' := by
  have hm := make_ok a b a.length b.length w rfl rfl ha hb
  have hsa : (bs a).size = a.length := bs_size a
  have hsb : (bs b).size = b.length := bs_size b
  obtain ⟨hd, hco⟩ := D.make_does a b
  have hap := D.apply_of hd ha hb
  have ht := does_text hd
  have hll := does_len hd
  have hal := D.alt_at _ (D.make_alt a b)
  generalize D.mk a b [] = l at *
  have hok : ∀ x ∈ l, EdOk x := fun x hx => by unfold EdOk; have := ht x hx; omega
  clear hd hco ht
  generalize hn : l.length = n at *
  have h2 := hide fun (A : Option Addr) (c : Nat) (w1 : World) (hr : Reads w1 w1.heap.size 3 A n (ecs l)) => apply_any a A l n c w1 (by omega) hn (by omega) hok hr hap
  replace hm := hide hm
  replace hal := hide hal
  replace hn := hide hn
  clear hap hok
  go_enter Try.func6, Try.ntmps6
  go_wp2_with fail
  refine (unhide hm).mono ?_
  rintro e w1 ⟨A, c, rfl, hown, hbel⟩
  rw [unhide hn] at hown ⊢
  have hr := hide (Reads.of_own hown)
  replace h2 := hide (unhide h2 A c w1 (unhide hr))
  clear hown
  go_wp2_with fail
  refine (unhide h2).mono ?_
  rintro e w2 ⟨rfl, hb2⟩
  go_wp2_with fail
  go_loopw [4, 9] (fun _ i wr => ∃ j : Nat, i = .int .i64 ((j : Int) + 1) ∧ j ≤ n ∧ Below w1.heap.size w1 wr) (fun _ i _ => n - (intOf i).toNat)
  case atStart => exact ⟨0, rfl, Nat.zero_le _, hb2⟩
  case round =>
    obtain ⟨j, rfl, hj, hbw⟩ := hrel
    by_cases hlt : j + 1 < n
    · obtain ⟨ad, x, rfl, hx, hbl, c1, _, _⟩ := reads_ed (unhide hn) ((unhide hr).below hbw) (k := j) (by omega)
      obtain ⟨ad', y, hadd, hy, _, c2, _, _⟩ := reads_ed (unhide hn) ((unhide hr).below hbw) (k := j + 1) (by omega)
      injection hadd with hadd
      subst hadd
      have hne := unhide hal j x y hx hy
      have hneb : (y.kind == x.kind) = false := by rw [beq_eq_false_iff_ne]; exact fun h => hne h.symm
      have hlt1 : (j : Int) + 1 < n := by omega
      have hlt2 : (j : Int) < n := by omega
      have hi1 : ((j : Int) + 1).toNat = j + 1 := by omega
      have hi2 : (j : Int) + 1 - 1 = j := by omega
      clear hx hy hne
      go_wp2_with fail
      go_quiet (fail)
      go_wp2_with fail
      go_roundw
      case rel => exact ⟨j + 1, by go_num, by omega, below_drewN hbw _⟩
      case measure => simp [intOf]; omega
    · have hnl : ¬ ((j : Int) + 1 < n) := by omega
      go_wp2_with fail
      refine (falive_any _).mono ?_
      rintro e w4 ⟨rfl, hb4⟩
      go_wp2_with fail
      go_ret
      exact ⟨rfl, bel_up hbel (bel_up hbw hb4)⟩

set_option maxRecDepth 100000 in
set_option maxHeartbeats 1000000 in
theorem lands_2 (a b : List UInt8) (w : World) (ha : a.length ≤ 140737488355328) (hb : b.length ≤ 140737488355328) (h : 1000 < a.length ∨ 1000 < b.length) :
    Calls Try.prog 6 #[.string (bs a), .string (bs b)] w fun e w' => e = .returned (.bool true) ∧ Below w.heap.size w w' := by
  have hm := hide (make_long a b w ha hb h)
  have hsa : (bs a).size = a.length := bs_size a
  have hsb : (bs b).size = b.length := bs_size b
  by_cases h1 : 1000 < a.length
  · have h1' : (1000 : Int) < a.length := by omega
    generalize a.length = la at *
    clear h
    go_enter Try.func6, Try.ntmps6
    go_wp2_with fail
    refine (unhide hm).mono ?_
    rintro e w1 ⟨rfl, rfl⟩
    go_wp2_with fail
    refine (falive_any _).mono ?_
    rintro e w4 ⟨rfl, hb4⟩
    go_wp2_with fail
    go_ret
    exact ⟨rfl, hb4⟩
  · have h2 : (1000 : Int) < b.length := by omega
    have h1' : ¬ (1000 : Int) < a.length := by omega
    generalize a.length = la at *
    generalize b.length = lb at *
    clear h
    go_enter Try.func6, Try.ntmps6
    go_wp2_with fail
    refine (unhide hm).mono ?_
    rintro e w1 ⟨rfl, rfl⟩
    go_wp2_with fail
    refine (falive_any _).mono ?_
    rintro e w4 ⟨rfl, hb4⟩
    go_wp2_with fail
    go_ret
    exact ⟨rfl, hb4⟩

theorem lands_walk (s0 s1 : ByteArray) (w : World) (h0 : s0.size ≤ 140737488355328) (h1 : s1.size ≤ 140737488355328) :
    Calls Try.prog 6 #[.string s0, .string s1] w fun e w' => e = .returned (.bool true) ∧ Below w.heap.size w w' := by
  have e0 := bs_self s0
  have e1 := bs_self s1
  have l0 : s0.data.toList.length = s0.size := by simp
  have l1 : s1.data.toList.length = s1.size := by simp
  rw [← e0, ← e1]
  by_cases h : 1000 < s0.data.toList.length ∨ 1000 < s1.data.toList.length
  · exact lands_2 _ _ w (by omega) (by omega) h
  · exact lands_1 _ _ w (by omega) (by omega)
end Go.Proofs.Ytakkjehmekekbaa
