/- What must come of deltas (the statements' own 'alive'), and what the statements' texts share. -/
import Derived.Test.YtdhgobflbacgbaaDApplyLoop
import Derived.Test.YtdhgobflbacgbaaDMake
import Derived.Test.YtdhgobflbacgbaaHeld
import Derived.Test.YtdhgobflbacgbaaNumsWalk
import Derived.Lib.SmallJoins
namespace Go.Proofs.Ytdhgobflbacgbaa
open Go.RowKit

theorem apply_a1 : E.apply [97, 98] [2, 1, 2, 120] = ([120], 0) := by decide
theorem apply_a2 : E.apply [97, 98] [3, 0] = ([], 1) := by decide
theorem make_a : E.make [48, 49, 50, 51, 52, 53, 54, 55, 56, 57] [120, 48, 49, 50, 51, 52, 53, 54, 55, 56, 57] = ([10, 11, 2, 120, 21, 0], 0) := by
  have b1 : E.bst [120, 48, 49, 50, 51, 52, 53, 54, 55, 56, 57] 0 [48, 49, 50, 51, 52, 53, 54, 55, 56, 57] = (0, 0) := by decide
  have b2 : E.bst [48, 49, 50, 51, 52, 53, 54, 55, 56, 57] 0 [48, 49, 50, 51, 52, 53, 54, 55, 56, 57] = (0, 10) := by decide
  unfold E.make
  rw [if_neg (by decide), E.mk_own (by rw [b1]; decide), E.mk_copy (by rw [b2]; decide), b2]
  simp only [List.length_cons, List.length_nil, List.nil_append]
  rw [W.num_lt (by decide), W.num_lt (by decide), W.num_lt (by decide), W.num_lt (by decide)]
  have e : E.flush [120] = [2, 120] := by unfold E.flush; rw [if_neg (by decide), W.num_lt (by decide)]; rfl
  rw [e]
  decide

theorem reads_at {w : World} {g : Nat} (l : List UInt8) (n : Nat) (hn : l.length = n) (hg : w.heap.size = g) : Reads (w.alloc (.cells (bvs l).toArray 5)) (g + 1) 1 (some ⟨g, 0, none⟩) n (bvs l) := by
  have h := reads_new_at (w := w) (bvs l).toArray 5 hg
  simpa [bvs_length, hn] using h

theorem reads_mark {w : World} {g : Nat} (l : List UInt8) (n : Nat) (fr : Nat × Nat) (hn : l.length = n) (hg : w.heap.size = g) : Reads (w.alloc (.cells (bvs l).toArray 5 fr)) (g + 1) 1 (some ⟨g, 0, none⟩) n (bvs l) := by
  subst hn
  refine ⟨by simp [bvs_length], fun _ => ⟨_, rfl, by simp, fun j u hu => ?_⟩⟩
  rw [show (⟨g, 0, none⟩ : Addr).add j = ⟨g, j, none⟩ from by unfold Addr.add; split <;> simp_all]
  subst hg
  have h : (w.alloc (.cells (bvs l).toArray 5 fr)).heap[w.heap.size]? = some (.cells (bvs l).toArray 5 fr) := heap_alloc_new w _
  rw [cell_of_row _ w.heap.size j _ _ _ h]
  simpa using hu

set_option maxRecDepth 100000 in
set_option maxHeartbeats 2000000 in
theorem dalive_any (w : World) : Calls Try.prog 36 #[] w fun e w' => e = .returned (.bool true) ∧ Below w.heap.size w w' := by
  have kc := fun (w : World) (C : Array Value) (n c g : Nat) (hg : g = w.heap.size) => Joins.run_convert_bytes_const_at (P := Try.prog) w 22 5 C n c g hg Try.underlying22 Try.underlying5
  go_enter Try.func36, Try.ntmps36
  go_wp2_with fail
  have r1 := (reads_mark (w := w) [48, 49, 50, 51, 52, 53, 54, 55, 56, 57] 10 (10, 11) rfl rfl).alloc (by simp) (.cells (bvs [120, 48, 49, 50, 51, 52, 53, 54, 55, 56, 57]).toArray 5 (11, 12))
  have r2 := reads_mark (w := w.alloc (.cells (bvs [48, 49, 50, 51, 52, 53, 54, 55, 56, 57]).toArray 5 (10, 11))) [120, 48, 49, 50, 51, 52, 53, 54, 55, 56, 57] 11 (11, 12) rfl (by simp; rfl)
  refine (make_any _ _ _ _ _ _ _ _ _ rfl rfl (by decide) (by decide) (r1.more (by simp)) (r2.more (by simp)) make_a).mono ?_
  rintro e w1 ⟨A1, c1, rfl, hown1, hb1⟩
  have hB1 : Below w.heap.size w w1 := (((Below.refl _ _).alloc (Nat.le_refl _) _).alloc (by simp) _).trans (hb1.mono (by simp; omega))
  replace hown1 := hide hown1
  clear hb1 r1 r2
  go_wp2_with fail
  have r3 := (reads_mark (w := w1) [97, 98] 2 (2, 3) rfl rfl).alloc (by simp) (.cells (bvs [2, 1, 2, 120]).toArray 5)
  have r4 := reads_at (w := w1.alloc (.cells (bvs [97, 98]).toArray 5 (2, 3))) [2, 1, 2, 120] 4 rfl (by simp; rfl)
  refine (apply_any _ _ _ _ _ _ _ _ _ rfl (by decide) (by decide) rfl (by decide) (by decide) (r3.more (by simp)) (r4.more (by simp)) apply_a1).mono ?_
  rintro e w2 ⟨A2, c2, rfl, hown2, hb2⟩
  have hB2 : Below w1.heap.size w1 w2 := (((Below.refl _ _).alloc (Nat.le_refl _) _).alloc (by simp) _).trans (hb2.mono (by simp; omega))
  replace hown2 := hide hown2
  clear hb2 r3 r4
  go_wp2_with fail
  have r5 := (reads_mark (w := w2) [97, 98] 2 (2, 3) rfl rfl).alloc (by simp) (.cells (bvs [3, 0]).toArray 5)
  have r6 := reads_at (w := w2.alloc (.cells (bvs [97, 98]).toArray 5 (2, 3))) [3, 0] 2 rfl (by simp; rfl)
  refine (apply_any _ _ _ _ _ _ _ _ _ rfl (by decide) (by decide) rfl (by decide) (by decide) (r5.more (by simp)) (r6.more (by simp)) apply_a2).mono ?_
  rintro e w3 ⟨A3, c3, rfl, hown3, hb3⟩
  have hB3 : Below w2.heap.size w2 w3 := (((Below.refl _ _).alloc (Nat.le_refl _) _).alloc (by simp) _).trans (hb3.mono (by simp; omega))
  clear hb3 hown3 r5 r6 kc
  have v1 : (convert 22 9 (.slice A1 6 c1)).run Try.prog w3 = .ok (.string ⟨#[10, 11, 2, 120, 21, 0]⟩) w3 := conv_later (w1 := w3) (c := c1) rfl (Reads.of_own (unhide hown1)) (hB2.trans (hB3.mono hB2.size))
  have v2 : (convert 22 9 (.slice A2 1 c2)).run Try.prog w3 = .ok (.string ⟨#[120]⟩) w3 := conv_later (w1 := w3) (c := c2) rfl (Reads.of_own (unhide hown2)) hB3
  go_wp2_with fail
  go_ret
  exact ⟨rfl, hB1.trans ((hB2.trans (hB3.mono hB2.size)).mono hB1.size)⟩
end Go.Proofs.Ytdhgobflbacgbaa
