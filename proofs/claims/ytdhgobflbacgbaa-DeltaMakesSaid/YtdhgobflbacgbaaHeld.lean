/- The statements' own helper Held: a slice that was lent, and the marks behind it, are as they were. -/
import Derived.Test.YtdhgobflbacgbaaLent
namespace Go.Proofs.Ytdhgobflbacgbaa
open Go.RowKit

set_option maxRecDepth 100000 in
set_option maxHeartbeats 400000 in
theorem held_any (B B' : Nat) (A A' : Option Addr) (l : List UInt8) (c c' : Nat) (w : World) (hl : l.length ≤ 140737488355000) (hc : l.length + 2 ≤ c)
    (hx : Reads w B 1 A (l.length + 2) (bvs (l ++ [77, 78]))) (hb : Reads w B' 1 A' l.length (bvs l)) :
    Calls Try.prog 21 #[.slice A l.length c, .slice A' l.length c'] w fun e w' => e = .returned (.bool true) ∧ ∃ k, w' = w.drewN k := by
  obtain ⟨ad, hA, _, hcell⟩ := hx.2 (by omega)
  subst hA
  have h77 : w.cell? (ad.add l.length) = some (.int .u8 77) := by
    refine hcell l.length _ ?_
    rw [bvs_append, List.getElem?_append_right (by simp [bvs_length]), bvs_length]; simp [bvs, bv]
  have h78 : w.cell? (ad.add (l.length + 1)) = some (.int .u8 78) := by
    refine hcell (l.length + 1) _ ?_
    rw [bvs_append, List.getElem?_append_right (by simp [bvs_length]), bvs_length]; simp [bvs, bv]
  have h78' : w.cell? ⟨ad.block, ad.off + (l.length + 1), none⟩ = some (.int .u8 78) := h78
  have hr1 : Reads w B 1 (some ad) l.length (bvs l) := ⟨by simp [bvs_length], fun _ => ⟨ad, rfl, by assumption, fun j u hu => hcell j u (by
    rw [bvs_append, List.getElem?_append_left (by
      rcases Nat.lt_or_ge j (bvs l).length with h | h
      · exact h
      · rw [List.getElem?_eq_none h] at hu; cases hu)]; exact hu)⟩⟩
  have hv1 : ∀ k, (convert 22 9 (.slice (some ad) l.length c)).run Try.prog (w.drewN k) = .ok (.string ⟨l.toArray⟩) (w.drewN k) := fun k => run_conv_reads Try.underlying22 Try.underlying5 c (hr1.drewN k) 9 Try.underlying9
  have hv2 : ∀ k, (convert 22 9 (.slice A' l.length c')).run Try.prog (w.drewN k) = .ok (.string ⟨l.toArray⟩) (w.drewN k) := fun k => run_conv_reads Try.underlying22 Try.underlying5 c' (hb.drewN k) 9 Try.underlying9
  clear hcell hx hb hr1
  have hc0 : l.length ≤ c := by omega
  have hi1 : (l.length : Int) < (l.length : Int) + 2 := by omega
  have hi2 : (l.length : Int) + 1 < (l.length : Int) + 2 := by omega
  have hi3 : (0 : Int) ≤ (l.length : Int) + 1 := by omega
  have hi4 : IntKind.i64.wrap ((l.length : Int) + 1) = (l.length : Int) + 1 := IntWalk.i64_in _ (by omega)
  have hi5 : ((l.length : Int) + 1).toNat = l.length + 1 := by omega
  go_enter Try.func21, Try.ntmps21
  go_wp2_with fail
  go_quiet (fail)
  go_wp2
  go_ret
  exact ⟨rfl, _, rfl⟩
end Go.Proofs.Ytdhgobflbacgbaa
