/- delta's reader: refuse and num, at every state. -/
import Derived.Test.YtdhgobflbacgbaaLent
import Derived.Test.YtdhgobflbacgbaaDeltaLaws
import Derived.Deep.QuietTactic
import Derived.BigQuiet
import Derived.Outline
namespace Go.Proofs.Ytdhgobflbacgbaa
open Go.RowKit

theorem only_set {w : World} (g i : Nat) (u : Value) : w.grownBy (w.setCell ⟨g, i, none⟩ u) (some g) := only_setCell (World.grownBy.refl w _) (.inl rfl) u

theorem only_set2 {w : World} (g i j k : Nat) (u v : Value) : w.grownBy (((w.drewN k).setCell ⟨g, i, none⟩ u).setCell ⟨g, j, none⟩ v) (some g) :=
  only_setCell (p := ⟨g, j, none⟩) (only_setCell (p := ⟨g, i, none⟩) (only_drewN (World.grownBy.refl w _) k) (.inl rfl) u) (.inl rfl) v

set_option maxRecDepth 100000 in
set_option maxHeartbeats 400000 in
theorem refuse_yes (g : Nat) (D : Value) (p x : Int) (w : World) (hb : Blk w g 66 #[D, .int .i64 p, .int .i64 0]) :
    Calls Try.prog 41 #[.pointer (some ⟨g, 0, none⟩), .bool true, .int .i64 x] w fun e w' => e = .returned (.tuple #[]) ∧ Blk w' g 66 #[D, .int .i64 p, .int .i64 x] ∧ w.grownBy w' (some g) := by
  have c2 : w.cell? ⟨g, 2, none⟩ = some (.int .i64 0) := hb.cell 2
  have f2 := hb.frozen 2
  have HB := hide (hb.set_ 2 (.int .i64 x))
  clear hb
  go_enter Try.func41, Try.ntmps41
  go_wp2
  go_end0
  exact ⟨rfl, unhide HB, only_set _ _ _⟩

set_option maxRecDepth 100000 in
set_option maxHeartbeats 400000 in
theorem refuse_no (g : Nat) (D : Value) (p x q : Int) (b : Bool) (w : World) (hb : Blk w g 66 #[D, .int .i64 p, .int .i64 q]) (h : q ≠ 0 ∨ b = false) :
    Calls Try.prog 41 #[.pointer (some ⟨g, 0, none⟩), .bool b, .int .i64 x] w fun e w' => e = .returned (.tuple #[]) ∧ w = w' := by
  have c2 : w.cell? ⟨g, 2, none⟩ = some (.int .i64 q) := hb.cell 2
  have f2 := hb.frozen 2
  clear hb
  by_cases hq : q = 0
  · have hb : b = false := by rcases h with h | h; exact absurd hq h; exact h
    subst hb hq
    clear h
    go_enter Try.func41, Try.ntmps41
    go_wp2
    go_end0
    exact ⟨rfl, rfl⟩
  · clear h
    have h0 : (q == 0) = false := beq_eq_false_iff_ne.2 hq
    clear hq
    go_enter Try.func41, Try.ntmps41
    go_wp2
    go_end0
    exact ⟨rfl, rfl⟩

set_option maxRecDepth 100000 in
set_option maxHeartbeats 400000 in
theorem dnum_no (g : Nat) (D : Value) (p q : Int) (w : World) (hb : Blk w g 66 #[D, .int .i64 p, .int .i64 q]) (h : q ≠ 0) :
    Calls Try.prog 42 #[.pointer (some ⟨g, 0, none⟩)] w fun e w' => e = .returned (.int .i64 0) ∧ w = w' := by
  have c2 : w.cell? ⟨g, 2, none⟩ = some (.int .i64 q) := hb.cell 2
  have h0 : (q != 0) = true := by rw [bne_iff_ne]; exact h
  clear hb h
  go_enter Try.func42, Try.ntmps42
  go_wp2
  go_ret
  exact ⟨rfl, rfl⟩

set_option maxRecDepth 100000 in
set_option maxHeartbeats 400000 in
theorem dnum_yes (B g : Nat) (A : Option Addr) (d : List UInt8) (n c : Nat) (p : Int) (m y z : Nat) (w : World) (hn : d.length = n) (hd : n ≤ 140737488355328) (hr : Reads w B 1 A n (bvs d)) (hb : Blk w g 66 #[.slice A n c, .int .i64 p, .int .i64 0]) (hg : W.gnum d p = (m, y, z)) :
    Calls Try.prog 42 #[.pointer (some ⟨g, 0, none⟩)] w fun e w' => e = .returned (.int .i64 m) ∧ Blk w' g 66 #[.slice A n c, .int .i64 y, .int .i64 z] ∧ w.grownBy w' (some g) := by
  have c0 : w.cell? ⟨g, 0, none⟩ = some (.slice A n c) := hb.cell 0
  have c1 : w.cell? ⟨g, 1, none⟩ = some (.int .i64 p) := hb.cell 1
  have c2 : w.cell? ⟨g, 2, none⟩ = some (.int .i64 0) := hb.cell 2
  have f1 := hb.frozen 1
  have f2 := hb.frozen 2
  have hget := fun k => get_eq B A d n c p (w.drewN k) hn hd hr (x := m) (y := y) (z := z) (by rw [hg]; rfl)
  replace hget := hide hget
  have HB := hide fun k => ((hb.drewN k).set_ 1 (.int .i64 y)).set_ 2 (.int .i64 z)
  clear hb hg hr hn
  go_enter Try.func42, Try.ntmps42
  go_wp2_with fail
  go_quiet ((go_at_call 19; exact Calls.quiet_of_same (((unhide hget) _).mono fun e w' h => ⟨h.1, h.2.symm⟩)))
  go_wp2
  go_ret
  exact ⟨rfl, (unhide HB) _, only_set2 _ _ _ _ _ _⟩
end Go.Proofs.Ytdhgobflbacgbaa
