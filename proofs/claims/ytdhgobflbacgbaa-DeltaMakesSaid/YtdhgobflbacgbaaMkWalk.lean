/- The walk of the statement DeltaMakes: it returns true. -/
import Derived.Test.YtdhgobflbacgbaaRDMake
namespace Go.Proofs.Ytdhgobflbacgbaa
open Go.RowKit

set_option maxRecDepth 100000 in
set_option maxHeartbeats 400000 in
theorem rmake_long (a b : List UInt8) (w : World) (ha : a.length ≤ 140737488355328) (hb : b.length ≤ 140737488355328) (h : 4096 < a.length ∨ 4096 < b.length) :
    Calls Try.prog 38 #[.string (bs a), .string (bs b)] w fun e w' => e = .returned (.tuple #[.string ⟨#[]⟩, .int .i64 3]) ∧ w = w' := by
  have hsa : (bs a).size = a.length := bs_size a
  have hsb : (bs b).size = b.length := bs_size b
  by_cases h1 : 4096 < a.length
  · have h1' : (4096 : Int) < a.length := by omega
    clear h h1
    go_enter Try.func38, Try.ntmps38
    go_wp2_with fail
    go_ret2
    exact ⟨rfl, rfl⟩
  · have h1' : ¬ (4096 : Int) < a.length := by omega
    have h2' : (4096 : Int) < b.length := by omega
    clear h h1
    go_enter Try.func38, Try.ntmps38
    go_wp2_with fail
    go_ret2
    exact ⟨rfl, rfl⟩
theorem rmake_any (a b : List UInt8) (w : World) (ha : a.length ≤ 140737488355328) (hb : b.length ≤ 140737488355328) {q : List UInt8} {z : Nat} (h : E.make a b = (q, z)) :
    Calls Try.prog 38 #[.string (bs a), .string (bs b)] w fun e w' => e = .returned (.tuple #[.string (bs q), .int .i64 z]) ∧ Below w.heap.size w w' := by
  unfold E.make at h
  by_cases h1 : 4096 < a.length ∨ 4096 < b.length
  · rw [if_pos h1] at h
    simp only [Prod.mk.injEq] at h
    obtain ⟨rfl, rfl⟩ := h
    refine (rmake_long a b w ha hb h1).mono ?_
    rintro e w' ⟨rfl, rfl⟩
    exact ⟨rfl, Below.refl _ _⟩
  · rw [if_neg h1] at h
    simp only [Prod.mk.injEq] at h
    obtain ⟨rfl, rfl⟩ := h
    exact rmake_ok a b _ _ w rfl rfl (by omega) (by omega)

set_option maxRecDepth 100000 in
set_option maxHeartbeats 2000000 in
theorem deltaMakes_walk (A0 A1 : Option Addr) (l0 l1 : List UInt8) (c0 c1 : Nat) (w : World) (h0 : l0.length ≤ 140737488354000) (h1 : l1.length ≤ 140737488354000)
    (hr0 : Reads w w.heap.size 1 A0 l0.length (bvs l0)) (hr1 : Reads w w.heap.size 1 A1 l1.length (bvs l1)) :
    Calls Try.prog 13 #[.slice A0 l0.length c0, .slice A1 l1.length c1] w fun e w' => e = .returned (.bool true) ∧ Below w.heap.size w w' := by
  obtain ⟨q, z, ha⟩ : ∃ q z, E.make l0 l1 = (q, z) := ⟨_, _, rfl⟩
  have hrap := hide fun w0 => rmake_any l0 l1 w0 (by omega) (by omega) ha
  replace ha := hide ha
  go_enter Try.func13, Try.ntmps13
  go_wp2_with fail
  refine (lent_any A0 l0 c0 w (by omega) hr0).mono ?_
  rintro e w1 ⟨B0, d0, rfl, hd0, hown0, hbel0⟩
  have hx0 : Reads w1 w1.heap.size 1 B0 (l0.length + 2) (bvs (l0 ++ [77, 78])) := Reads.of_own hown0
  have hr01 := reads_up hr0 hbel0
  have hr11 := reads_up hr1 hbel0
  clear hown0
  go_wp2_with fail
  refine (lent_any A1 l1 c1 w1 (by omega) hr11).mono ?_
  rintro e w2 ⟨B1, d1, rfl, hd1, hown1, hbel1⟩
  have hx1 : Reads w2 w2.heap.size 1 B1 (l1.length + 2) (bvs (l1 ++ [77, 78])) := Reads.of_own hown1
  have hx02 := reads_up hx0 hbel1
  have hr02 := reads_up hr01 hbel1
  have hr12 := reads_up hr11 hbel1
  clear hown1 hx0 hr01 hr11
  have hap := hide (make_any B0 B1 l0 l1 l0.length d0 l1.length d1 w2 rfl rfl (by omega) (by omega) (reads_prefix rfl hx02) (reads_prefix rfl hx1) (unhide ha))
  replace hx1 := hide hx1
  replace hx02 := hide hx02
  replace hr02 := hide hr02
  replace hr12 := hide hr12
  go_wp2_with fail
  refine (unhide hap).mono ?_
  rintro e w3 ⟨B2, d2, rfl, hown2, hbel2⟩
  have v0 : (convert 22 9 (.slice A0 l0.length c0)).run Try.prog w3 = .ok (.string (bs l0)) w3 := conv_later (w1 := w3) rfl (unhide hr02) hbel2
  have v1 : (convert 22 9 (.slice A1 l1.length c1)).run Try.prog w3 = .ok (.string (bs l1)) w3 := conv_later (w1 := w3) rfl (unhide hr12) hbel2
  have v2 := hide fun (w4 : World) (hb : Below w3.heap.size w3 w4) => (show (convert 22 9 (.slice B2 q.length d2)).run Try.prog w4 = .ok (.string (bs q)) w4 from conv_later (w1 := w4) rfl (Reads.of_own hown2) hb)
  clear hown2 ha hap
  go_wp2_with fail
  refine (unhide hrap _).mono ?_
  rintro e w4 ⟨rfl, hb4⟩
  have v3 := unhide v2 w4 hb4
  have hbel := hide (bel_up hbel2 hb4)
  clear v0 v1 v2 hrap
  go_wp2_with fail
  refine (held_any _ _ B0 A0 l0 d0 c0 _ (by omega) hd0 (Reads.below (unhide hx02) (unhide hbel)) (Reads.below (unhide hr02) (unhide hbel))).mono ?_
  rintro e w5 ⟨rfl, k5, rfl⟩
  go_wp2_with fail
  refine (held_any _ _ B1 A1 l1 d1 c1 _ (by omega) hd1 (Reads.below (unhide hx1) (below_drewN (unhide hbel) _)) (Reads.below (unhide hr12) (below_drewN (unhide hbel) _))).mono ?_
  rintro e w5 ⟨rfl, k6, rfl⟩
  go_wp2_with fail
  refine (dalive_any _).mono ?_
  rintro e w6 ⟨rfl, hb6⟩
  go_wp2_with fail
  go_ret
  exact ⟨rfl, bel_up (bel_up (bel_up hbel0 hbel1) (below_drewN (unhide hbel) _)) hb6⟩
end Go.Proofs.Ytdhgobflbacgbaa
