/- The walk of the statement WireTexts: it returns true. -/
import Derived.Test.YtdhgobflbacgbaaText
import Derived.Test.YtdhgobflbacgbaaHeld
import Derived.Test.YtdhgobflbacgbaaNumsWalk
import Derived.Deep.RegionHeld3
namespace Go.Proofs.Ytdhgobflbacgbaa
open Go.RowKit

theorem bel_t {w1 b w3 : World} (h : Below b.heap.size b w3) (k : Below w1.heap.size w1 b) : Below w1.heap.size w1 w3 := k.trans (h.mono k.size)

set_option maxRecDepth 100000 in
set_option maxHeartbeats 4000000 in
theorem wireTexts_walk (s : ByteArray) (A : Option Addr) (l : List UInt8) (c : Nat) (p : Int) (w : World) (hs : s.size ≤ 140737488355000) (hl : l.length ≤ 140737488355000) (hc : l.length ≤ c) (hr : Reads w w.heap.size 1 A l.length (bvs l)) :
    Calls Try.prog 6 #[.string s, .slice A l.length c, .int .i64 p] w fun e w' => e = .returned (.bool true) ∧ Below w.heap.size w w' := by
  obtain ⟨t, x, e, ht⟩ : ∃ t x e, W.gtext l p = (t, x, e) := ⟨_, _, _, rfl⟩
  have gt := fun B A' c' w0 (hc' : l.length ≤ c') hr' => gtext_any B A' l c' p w0 (by omega) hc' hr'
  have rgt := fun w0 => rgtext_any ⟨l.toArray⟩ p w0 (by simp [ByteArray.size]; omega)
  simp only [List.toList_toArray, ht, tv] at gt rgt
  have gt := hide gt
  have rgt := hide rgt
  have tx := fun w0 => text_any s w0 hs
  have rtx := fun w0 => rtext_any s w0 hs
  generalize W.text s.data.toList = L at *
  have tx := hide tx
  have rtx := hide rtx
  clear ht
  go_enter Try.func6, Try.ntmps6
  go_wp2_with fail
  refine (lent_any A l c w hl hr).mono ?_
  rintro e1 w1 ⟨A1, c1, rfl, hc1, hown, hbel⟩
  have hx : Reads w1 w1.heap.size 1 A1 (l.length + 2) (bvs (l ++ [77, 78])) := Reads.of_own hown
  have hr1 : Reads w1 w1.heap.size 1 A l.length (bvs l) := (hr.below hbel).more hbel.size
  clear hown hr
  go_wp2_with fail
  refine ((unhide gt) _ A1 c1 _ (by omega) (reads_prefix rfl hx)).mono ?_
  rintro e2 w2 ⟨rfl, rfl⟩
  have hcv := run_conv_reads (P := Try.prog) Try.underlying22 Try.underlying5 c hr1 9 Try.underlying9
  go_wp2_with fail
  refine ((unhide rgt) _).mono ?_
  rintro e2 w2 ⟨rfl, rfl⟩
  clear hcv
  have hx := hide hx
  have hr1 := hide hr1
  go_wp2_with fail
  go_region_held (fun w0 => Below w1.heap.size w1 w0) (first | exact (Below.refl _ _).drew | assumption | exact bel_t (by assumption) (by assumption) | exact below_drewN (by assumption) _) (first
    | (go_at_call 28; refine ((unhide tx) _).mono ?_; rintro e2 w2 ⟨A2, c2, rfl, hown2, hb2⟩; have hcv2 := fun w0 hb => conv_later (w1 := w0) (c := c2) rfl (Reads.of_own hown2) hb; have hcv3 := hcv2 _ (Below.refl _ _); clear hown2)
    | (go_at_call 29; refine ((unhide rtx) _).mono ?_; rintro e3 w3 ⟨rfl, hb3⟩)
    | (go_at_call 21; refine (held_any _ _ A1 A l c1 c _ hl hc1 (Reads.below (unhide hx) (by assumption)) (Reads.below (unhide hr1) (by assumption))).mono ?_; rintro e3 w3 ⟨rfl, k, rfl⟩)
    | (go_at_call 22; refine (alive_any _).mono ?_; rintro e4 w4 ⟨rfl, hb4⟩))
  all_goals go_wp2
  all_goals go_ret
  all_goals exact ⟨rfl, bel_t (by assumption) hbel⟩
end Go.Proofs.Ytdhgobflbacgbaa
