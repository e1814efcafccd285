/- DiffMakes walked whole: the script from any text to any other one is the document's. Conditions: texts of at most 2^47 bytes. -/
import Derived.Test.YtakkjehmekekbaaRMake
namespace Go.Proofs.Ytakkjehmekekbaa
open Go.RowKit

set_option maxRecDepth 100000 in
set_option maxHeartbeats 1000000 in
theorem makes_walk (s0 s1 : ByteArray) (w : World) (h0 : s0.size ≤ 140737488355328) (h1 : s1.size ≤ 140737488355328) :
    Calls Try.prog 3 #[.string s0, .string s1] w fun e w' => e = .returned (.bool true) ∧ Below w.heap.size w w' := by
  have e0 := bs_self s0
  have e1 := bs_self s1
  have l0 : s0.data.toList.length = s0.size := by simp
  have l1 : s1.data.toList.length = s1.size := by simp
  rw [← e0, ← e1]
  generalize s0.data.toList = a at *
  generalize s1.data.toList = b at *
  have g1 := hide fun (w1 : World) => make_any a b w1 (by omega) (by omega)
  have g2 := hide fun (w1 : World) => rmake_any a b w1 (by omega) (by omega)
  have hlen : (D.make a b).1.length ≤ 2000 := by
    unfold D.make
    by_cases h : 1000 < a.length ∨ 1000 < b.length
    · rw [if_pos h]; simp
    · rw [if_neg h]
      have := does_len (D.make_does a b).1
      show (D.mk a b []).length ≤ 2000
      omega
  generalize D.make a b = LZ at *
  obtain ⟨L, Z⟩ := LZ
  simp only at hlen g1 g2
  obtain ⟨N, hN⟩ : ∃ N, L.length = N := ⟨_, rfl⟩
  rw [hN] at hlen
  have g3 := hide fun (A2 A3 : Option Addr) (c2 c3 : Nat) (w1 : World) (hr1 : Reads w1 w1.heap.size 3 A2 N (ecs L)) (hr2 : Reads w1 w1.heap.size 3 A3 N (ecs L)) => same_any A2 A3 L N c2 c3 w1 hN (by omega) hr1 hr2
  replace hN := hide hN
  clear e0 e1 l0 l1 hlen
  go_enter Try.func3, Try.ntmps3
  go_wp2_with fail
  refine (unhide g1 _).mono ?_
  rintro e w1 ⟨A2, c2, rfl, hown2, hb1⟩
  simp only [unhide hN] at hown2 ⊢
  go_wp2_with fail
  refine (unhide g2 _).mono ?_
  rintro e w2 ⟨A3, c3, rfl, hown3, hb2⟩
  simp only [unhide hN] at hown3 ⊢
  have k3 := hide (unhide g3 A2 A3 c2 c3 w2 (Reads.of_own (own_below hown2 hb2)) (Reads.of_own hown3))
  clear hown2 hown3
  go_wp2_with fail
  refine (unhide k3).mono ?_
  rintro e w3 ⟨rfl, hb3⟩
  go_wp2_with fail
  refine (falive_any _).mono ?_
  rintro e w4 ⟨rfl, hb4⟩
  go_wp2_with fail
  go_ret
  exact ⟨rfl, bel_up (bel_up (bel_up hb1 hb2) hb3) hb4⟩
end Go.Proofs.Ytakkjehmekekbaa
