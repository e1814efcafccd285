/- The walk of the statement WireLists: it returns true, at every list whose bytes are fewer than 2^46. -/
import Derived.Test.YtdhgobflbacgbaaRList
import Derived.Test.YtdhgobflbacgbaaRGList
import Derived.Test.YtdhgobflbacgbaaTextsWalk
namespace Go.Proofs.Ytdhgobflbacgbaa
open Go.RowKit

theorem reads_now {w w0 : World} {size n : Nat} {A : Option Addr} {xs : List Value} (h : Reads w w.heap.size size A n xs) (hb : Below w.heap.size w w0) : Reads w0 w0.heap.size size A n xs := (h.below hb).more hb.size

theorem below_redrewN {B : Nat} {w w' : World} {j k : Nat} (h : Below B w (w'.drewN j)) : Below B w (w'.drewN k) := ⟨h.os, h.tape, h.output, h.size, h.block⟩

set_option maxRecDepth 100000 in
set_option maxHeartbeats 4000000 in
theorem wireLists_walk (A0 : Option Addr) (L0 : List (List UInt8)) (n0 c0 : Nat) (A : Option Addr) (l : List UInt8) (c : Nat) (p : Int) (w : World) (hn0 : L0.length = n0) (hs : (W.list L0).length ≤ 70368744177664) (hn6 : n0 ≤ 140737488355328)
    (hl : l.length ≤ 140737488355000) (_hc : l.length ≤ c) (hr0 : Reads w w.heap.size 1 A0 n0 (svs L0)) (hr : Reads w w.heap.size 1 A l.length (bvs l)) :
    Calls Try.prog 7 #[.slice A0 n0 c0, .slice A l.length c, .int .i64 p] w fun e w' => e = .returned (.bool true) ∧ Below w.heap.size w w' := by
  obtain ⟨t, x, e, ht⟩ : ∃ t x e, W.glist l p = (t, x, e) := ⟨_, _, _, rfl⟩
  have gt := fun A' c' w0 (hc' : l.length ≤ c') hr' => glist_any A' l c' p w0 (by omega) hc' hr'
  have rgt := fun w0 => rglist_any l p w0 (by omega)
  rw [ht] at gt rgt
  have htn : t.length ≤ 140737488355328 := glist_len ht
  replace gt := hide gt
  replace rgt := hide rgt
  have tx := fun w0 h0 => list_any A0 L0 n0 c0 w0 hn0 hs hn6 h0
  have rtx := fun w0 h0 => rlist_any A0 L0 n0 c0 w0 hn0 hs hn6 h0
  generalize W.list L0 = LL at *
  replace tx := hide tx
  replace rtx := hide rtx
  generalize htk : t.length = k at *
  replace htk := hide htk
  clear ht hs
  replace hn0 := hide hn0
  go_enter Try.func7, Try.ntmps7
  go_wp2_with fail
  refine (lent_any A l c w hl hr).mono ?_
  rintro e1 w1 ⟨A1, c1, rfl, hc1, hown, hbel⟩
  have hx : Reads w1 w1.heap.size 1 A1 (l.length + 2) (bvs (l ++ [77, 78])) := Reads.of_own hown
  have hr1 : Reads w1 w1.heap.size 1 A l.length (bvs l) := (hr.below hbel).more hbel.size
  have hr01 : Reads w1 w1.heap.size 1 A0 n0 (svs L0) := (hr0.below hbel).more hbel.size
  clear hown hr hr0
  go_wp2_with fail
  refine ((unhide gt) A1 c1 _ (by omega) (reads_prefix rfl hx)).mono ?_
  rintro e2 w2 ⟨A2, c2, rfl, hown2, hb2⟩
  simp only [unhide htk] at hown2 ⊢
  have hcv := run_conv_reads (P := Try.prog) Try.underlying22 Try.underlying5 c (hr1.below hb2) 9 Try.underlying9
  go_wp2_with fail
  refine ((unhide rgt) _).mono ?_
  rintro e2 w3 ⟨A3, c3, rfl, hown3, hb3⟩
  simp only [unhide htk] at hown3 ⊢
  clear hcv
  have hk2 := hide ((Reads.of_own hown2).below hb3)
  have hk3 := hide (Reads.of_own hown3)
  have hb13 : Below w1.heap.size w1 w3 := hb2.trans (hb3.mono hb2.size)
  replace hx := hide ((hx.below hb13).more hb13.size)
  replace hr1 := hide ((hr1.below hb13).more hb13.size)
  replace hr01 := hide ((hr01.below hb13).more hb13.size)
  replace hk2 := hide ((unhide hk2).more hb3.size)
  have hbw3 := hbel.trans (hb13.mono hbel.size)
  clear hown2 hown3 hb2 hb3 hb13 hbel
  go_wp2_with fail
  go_region_held (fun w0 => Below w3.heap.size w3 w0) (first | exact (Below.refl _ _).drew | assumption | exact below_redrewN (by assumption) | exact bel_t (by assumption) (by assumption) | exact below_drewN (by assumption) _ | exact below_redrewN (by assumption)) (first
    | (go_at_call 32; refine ((unhide tx) _ ?_).mono ?_; exact reads_now (unhide hr01) (by assumption); rintro e4 w4 ⟨A4, c4, rfl, hown4, hb4⟩; have hcv2 := fun w0 hb => conv_later (w1 := w0) (c := c4) rfl (Reads.of_own hown4) hb; have hcv3 := hcv2 _ (Below.refl _ _); clear hown4)
    | (go_at_call 33; refine ((unhide rtx) _ ?_).mono ?_; exact reads_now (unhide hr01) (by assumption); rintro e5 w5 ⟨rfl, hb5⟩)
    | (go_at_call 34; refine (same_any w3.heap.size w3.heap.size A2 A3 t k c2 c3 _ (unhide htk) htn ?_ ?_).mono ?_; exact Reads.below (unhide hk2) (by assumption); exact Reads.below (unhide hk3) (by assumption); rintro e6 w6 ⟨rfl, j, rfl⟩)
    | (go_at_call 21; refine (held_any w3.heap.size w3.heap.size A1 A l c1 c _ hl hc1 ?_ ?_).mono ?_; exact Reads.below (unhide hx) (by assumption); exact Reads.below (unhide hr1) (by assumption); rintro e7 w7 ⟨rfl, j, rfl⟩)
    | (go_at_call 22; refine (alive_any _).mono ?_; rintro e8 w8 ⟨rfl, hb8⟩))
  all_goals go_wp2
  all_goals go_ret
  all_goals exact ⟨rfl, bel_t (by assumption) hbw3⟩
end Go.Proofs.Ytdhgobflbacgbaa
