/- The statements' own helpers Lent and Held, and what must come (alive). -/
import Derived.Test.YtdhgobflbacgbaaRGet
import Derived.Test.YtdhgobflbacgbaaNum
import Derived.Deep.QuietTactic
import Derived.BigQuiet
namespace Go.Proofs.Ytdhgobflbacgbaa
open Go.RowKit

set_option maxRecDepth 100000 in
set_option maxHeartbeats 400000 in
theorem lent_any (A : Option Addr) (l : List UInt8) (c : Nat) (w : World) (hb : l.length ≤ 140737488355000) (hr : Reads w w.heap.size 1 A l.length (bvs l)) :
    Calls Try.prog 18 #[.slice A l.length c] w fun e w' => ∃ A' c', e = .returned (.slice A' l.length c') ∧ l.length + 2 ≤ c' ∧
      w'.ownsRow w.heap.size 5 1 (.slice A' (l.length + 2) c') (l.length + 2) (bvs (l ++ [77, 78])) ∧ Below w.heap.size w w' := by
  have h0 : (w.alloc (.cells #[] 5)).ownsRow w.heap.size 5 1 (.slice (some ⟨w.heap.size, 0, none⟩) 0 0) 0 [] := World.ownsRow_made w #[] 0 (Nat.le_refl _) (Nat.zero_le _) rfl
  have hle1 : w.heap.size ≤ (w.alloc (.cells #[] 5)).heap.size := by simp
  have hle2 : ∀ {w1 : World}, (w.alloc (.cells #[] 5)).heap.size ≤ w1.heap.size → w.heap.size ≤ (w1.alloc (.cells #[.int .u8 77, .int .u8 78] 5)).heap.size := fun h => by simp at h ⊢; omega
  go_enter Try.func18, Try.ntmps18
  go_wp2_with (first
    | (at_builtin; refine wpList_appS rfl (.tmp 3) (.tmp 4) _ rfl et22 w.heap.size (.slice (some ⟨w.heap.size, 0, none⟩) 0 0) 0 [] rfl h0 w.heap.size A l.length c (bvs l) rfl (hr.alloc (Nat.le_refl _) _) (bvs_one _) ?_ (by decide) ?_ ?_; omega; exact hle1; intro A1 c1 w1 hown1 hgr1 _; simp only [Nat.zero_add, List.nil_append] at hown1 hgr1)
    | (at_builtin; refine wpList_appS rfl (.tmp 5) (.tmp 6) _ rfl et22 w.heap.size (.slice A1 l.length c1) l.length (bvs l) rfl (hown1.alloc _) _ _ 2 2 _ rfl (reads_new w1 #[.int .u8 77, .int .u8 78] 5) (by simp [Value.oneCell']) ?_ (by decide) ?_ ?_; omega; exact hle2 hgr1.g.size; intro A2 c2 w2 hown2 hgr2 hc2))
  go_ret
  have e2 : bvs (l ++ [77, 78]) = bvs l ++ [Value.int IntKind.u8 77, Value.int IntKind.u8 78] := by rw [bvs_append]; rfl
  refine ⟨A2, c2, rfl, hc2, by rw [e2]; exact hown2, ?_⟩
  have b1 : Below w.heap.size w w1 := ((Below.refl _ _).alloc (Nat.le_refl _) _).trans (hgr1.below hle1 (by simp [Value.ownBlock]))
  exact (b1.alloc b1.size _).trans (hgr2.below (by have := b1.size; simp; omega) (fun k hk => (hown1.lt k hk).1))

/-- wire.GetNum at bytes that are known -/
theorem get_eq (B : Nat) (A : Option Addr) (b : List UInt8) (n c : Nat) (p : Int) (w : World) (hn : b.length = n) (hb : n ≤ 140737488355328) (hr : Reads w B 1 A n (bvs b)) {x y z : Int} (h : gv (W.gnum b p) = .tuple #[.int .i64 x, .int .i64 y, .int .i64 z]) :
    Calls Try.prog 19 #[.slice A n c, .int .i64 p] w fun e w' => e = .returned (.tuple #[.int .i64 x, .int .i64 y, .int .i64 z]) ∧ w = w' := by
  subst hn
  exact (get_all B A b c p w hb hr).mono fun e w' hh => by rw [h] at hh; exact hh

theorem rget_eq (s : ByteArray) (p : Int) (w : World) (hb : s.size ≤ 140737488355328) {x y z : Int} (h : gv (W.gnum s.data.toList p) = .tuple #[.int .i64 x, .int .i64 y, .int .i64 z]) :
    Calls Try.prog 20 #[.string s, .int .i64 p] w fun e w' => e = .returned (.tuple #[.int .i64 x, .int .i64 y, .int .i64 z]) ∧ w = w' :=
  (rget_all s p w hb).mono fun e w' hh => by rw [h] at hh; exact hh

theorem num300 : W.num 300 = [172, 2] := by rw [W.num_ge (by omega), W.num_lt (by omega)]; decide

set_option maxRecDepth 100000 in
set_option maxHeartbeats 400000 in
theorem alive_any (w : World) : Calls Try.prog 22 #[] w fun e w' => e = .returned (.bool true) ∧ Below w.heap.size w w' := by
  have hn := num_any 300 w (by omega)
  rw [num300] at hn
  have HN := hide hn
  clear hn
  go_enter Try.func22, Try.ntmps22
  go_wp2_with fail
  refine (unhide HN).mono ?_
  rintro e w1 ⟨A, c, rfl, hown, hbel⟩
  have hown := Lib.hid hown
  go_wp2_with fail
  refine (get_eq _ _ [172, 2, 7] _ _ _ _ rfl (by decide) (reads_new _ #[.int .u8 172, .int .u8 2, .int .u8 7] 5) (x := 300) (y := 2) (z := 0) rfl).mono ?_
  rintro e w2 ⟨rfl, rfl⟩
  go_wp2_with fail
  refine (get_eq _ _ [128, 0] _ _ _ _ rfl (by decide) (reads_new_at #[.int .u8 128, .int .u8 0] 5 (by simp)) (x := 0) (y := 0) (z := 7) rfl).mono ?_
  rintro e w2 ⟨rfl, rfl⟩
  have hcv := run_conv_readsN (P := Try.prog) Try.underlying22 Try.underlying5 [172, 2] 2 c rfl ((((Reads.of_own hown.out).alloc (Nat.le_refl _) (.cells #[.int .u8 172, .int .u8 2, .int .u8 7] 5)).alloc (by simp) (.cells #[.int .u8 128, .int .u8 0] 5))) 9 Try.underlying9
  go_wp2_with fail
  go_ret
  exact ⟨rfl, (hbel.alloc hbel.size _).alloc (by have := hbel.size; simp; omega) _⟩
end Go.Proofs.Ytdhgobflbacgbaa
