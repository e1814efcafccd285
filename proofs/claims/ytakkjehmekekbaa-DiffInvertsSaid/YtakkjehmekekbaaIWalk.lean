/- DiffInverts walked whole: the way back of any script on any text is the document's. Conditions: none beyond what the form itself asks. -/
import Derived.Test.YtakkjehmekekbaaRefI
namespace Go.Proofs.Ytakkjehmekekbaa
open Go.RowKit

theorem own_unfrozen {w : World} {base n size g c : Nat} {e : TypeId} {xs : List Value} (h : w.ownsRow base e size (.slice (some ⟨g, 0, none⟩) n c) n xs) (i : Nat) : w.frozen? ⟨g, i, none⟩ = false := by
  rcases h.2 with ⟨hv, _⟩ | ⟨g', cap, cur, hv, _, hh, _⟩
  · cases hv
  · injection hv with h1
    injection h1 with h1
    injection h1 with h1
    subst h1
    simp [World.frozen?, hh]
theorem own_cell {w : World} {base n g c : Nat} {e : TypeId} {xs : List Value} (h : w.ownsRow base e 3 (.slice (some ⟨g, 0, none⟩) n c) n xs) {i : Nat} (hi : i < n * 3) : ∃ u, w.cell? ⟨g, i, none⟩ = some u := by
  have hl := h.1
  have := h.cells (g := g) rfl i _ (List.getElem?_eq_getElem (show i < xs.length by omega))
  rw [show (⟨g, 0, none⟩ : Addr).add i = ⟨g, i, none⟩ from by unfold Addr.add; split <;> simp_all] at this
  exact ⟨_, this⟩
/-- the edit at place j is wiped -/
def wipe (w : World) (g j : Nat) : World := ((w.setCell ⟨g, j * 3, none⟩ (.int .i64 0)).setCell ⟨g, j * 3 + 1, none⟩ (.int .i64 0)).setCell ⟨g, j * 3 + 2, none⟩ (.string ⟨#[]⟩)
/-- what the law's loop has at its head -/
structure WRel (w w1 : World) (A2 A3 : Option Addr) (N c2 c3 : Nat) (L : List D.Ed) (wr : World) : Prop where
  a : ∃ xs, wr.ownsRow w.heap.size 32 3 (.slice A2 N c2) N xs
  b : wr.ownsRow w1.heap.size 32 3 (.slice A3 N c3) N (ecs L)
  bel : Below w.heap.size w wr
  lo : w.heap.size ≤ w1.heap.size
  far : ∀ g, A2 = some ⟨g, 0, none⟩ → 0 < N → g < w1.heap.size
theorem WRel.wipe {w w1 wr : World} {A3 : Option Addr} {N c2 c3 g : Nat} {L : List D.Ed} (h : WRel w w1 (some ⟨g, 0, none⟩) A3 N c2 c3 L wr) (hN : 0 < N) (j : Nat) : WRel w w1 (some ⟨g, 0, none⟩) A3 N c2 c3 L (wipe wr g j) := by
  obtain ⟨⟨xs, ha⟩, hb, hbel, hlo, hfar⟩ := h
  have hg := hfar g rfl hN
  have hgb := (ha.lt g rfl).1
  have hne : ((.slice A3 N c3) : Value).ownBlock ≠ some g := fun hk => by have := (hb.lt g hk).1; omega
  refine ⟨⟨_, own_set (own_set (own_set ha (g := g) rfl _ _) (g := g) rfl _ _) (g := g) rfl _ _⟩, ?_, ?_, hlo, hfar⟩
  · exact ((hb.kept (only_set g _ _) (.inr hne)).kept (only_set g _ _) (.inr hne)).kept (only_set g _ _) (.inr hne)
  · exact ((hbel.setCell (p := ⟨g, j * 3, none⟩) hgb _).setCell (p := ⟨g, j * 3 + 1, none⟩) hgb _).setCell (p := ⟨g, j * 3 + 2, none⟩) hgb _

set_option maxRecDepth 100000 in
set_option maxHeartbeats 4000000 in
theorem inverts_walk (s0 : ByteArray) (A : Option Addr) (l : List D.Ed) (n c : Nat) (w : World) (hs : s0.size ≤ 140737488355328) (hn : l.length = n) (hn6 : n ≤ 4398046511000) (hok : ∀ x ∈ l, EdOk x) (hr : Reads w w.heap.size 3 A n (ecs l)) :
    Calls Try.prog 10 #[.string s0, .slice A n c] w fun e w' => e = .returned (.bool true) ∧ Below w.heap.size w w' := by
  have e0 := bs_self s0
  have l0 : s0.data.toList.length = s0.size := by simp
  rw [← e0]
  generalize s0.data.toList = a at *
  have h1 := hide fun (w1 : World) (hb : Below w.heap.size w w1) => invert_any a A l n c w1 (by omega) hn hn6 hok (reads_up hr hb)
  have h2 := hide fun (w1 : World) (hb : Below w.heap.size w w1) => rinvert_any a A l n c w1 (by omega) hn hn6 hok (reads_up hr hb)
  have hlen : (D.invert a l).1.length ≤ n := by
    have : ∀ (l : List D.Ed) a, (D.turns a l).length = l.length := by
      intro l
      induction l with
      | nil => intro a; rfl
      | cons x l ih => intro a; simp [D.turns, ih]
    unfold D.invert
    split
    · simp
    · rw [this]; omega
  generalize D.invert a l = LZ at *
  obtain ⟨L, Z⟩ := LZ
  simp only at hlen h1 h2
  obtain ⟨N, hN⟩ : ∃ N, L.length = N := ⟨_, rfl⟩
  rw [hN] at hlen
  have hN6 : N ≤ 4398046511000 := by omega
  have h3 := hide fun (A2 A3 : Option Addr) (c2 c3 : Nat) (w1 : World) (hr1 : Reads w1 w1.heap.size 3 A2 N (ecs L)) (hr2 : Reads w1 w1.heap.size 3 A3 N (ecs L)) => same_any A2 A3 L N c2 c3 w1 hN (by omega) hr1 hr2
  replace hN := hide hN
  clear e0 l0 hok hn hr hlen
  go_enter Try.func10, Try.ntmps10
  go_wp2_with fail
  refine (unhide h1 _ (Below.refl _ _)).mono ?_
  rintro e w1 ⟨A2, c2, rfl, hown2, hb1⟩
  simp only [unhide hN] at hown2 ⊢
  go_wp2_with fail
  refine (unhide h2 _ hb1).mono ?_
  rintro e w2 ⟨A3, c3, rfl, hown3, hb2⟩
  simp only [unhide hN] at hown3 ⊢
  have hown22 := own_below hown2 hb2
  have hbel2 := bel_up hb1 hb2
  have g3 := hide (unhide h3 A2 A3 c2 c3 w2 (Reads.of_own hown22) (Reads.of_own hown3))
  have hfar := hide (show ∀ g, A2 = some ⟨g, 0, none⟩ → 0 < N → g < w1.heap.size from fun g hg _ => (hown2.lt g (by rw [hg]; rfl)).2)
  have hP := hide (And.intro hown22 hown3)
  clear hown2 hown22 hown3
  go_wp2_with fail
  refine (unhide g3).mono ?_
  rintro e w3 ⟨rfl, hb3⟩
  have hW := hide (show WRel w w1 A2 A3 N c2 c3 L w3 from ⟨⟨_, own_below (unhide hP).1 hb3⟩, own_below (unhide hP).2 hb3, bel_up hbel2 hb3, hb1.size, unhide hfar⟩)
  clear g3 hP hfar
  go_wp2_with fail
  go_loopg [9, 35] N (fun m _ i wr => ∃ k : Nat, i = .int .i64 k ∧ N ≤ m + k ∧ k ≤ N ∧ WRel w w1 A2 A3 N c2 c3 L wr)
  case atStart => exact ⟨0, rfl, by omega, by omega, unhide hW⟩
  case round =>
    clear hW
    obtain ⟨k, rfl, hm, hk, hW⟩ := hrel
    by_cases hlt : k < N
    · have hlt' : (k : Int) < N := by omega
      obtain ⟨xs, ha⟩ := hW.a
      obtain ⟨g, c', hv, _, _⟩ := ha.form (by omega)
      injection hv with hv1 hv2 hv3
      subst hv1
      obtain rfl : c' = c2 := hv3.symm
      clear hv2 hv3
      obtain ⟨u0, k0⟩ := own_cell ha (i := k * 3) (by omega)
      obtain ⟨u1, k1⟩ := own_cell ha (i := k * 3 + 1) (by omega)
      obtain ⟨u2, k2⟩ := own_cell ha (i := k * 3 + 2) (by omega)
      have f0 := own_unfrozen ha (k * 3)
      have f1 := own_unfrozen ha (k * 3 + 1)
      have f2 := own_unfrozen ha (k * 3 + 2)
      have hX := hW.wipe (by omega) k
      unfold wipe at hX
      replace hX := hide hX
      clear ha hW
      go_wp2_with fail
      go_roundg (gk - 1)
      case measure => omega
      case rel => exact ⟨k + 1, by go_num, by omega, by omega, unhide hX⟩
    · have hlt' : ¬ (k : Int) < N := by omega
      have hbel := hW.bel
      have hb3' := hide hW.b
      clear hW
      go_wp2_with fail
      refine (unhide h1 _ hbel).mono ?_
      rintro e w5 ⟨A5, c5, rfl, hown5, hb5⟩
      simp only [unhide hN] at hown5 ⊢
      have g5 := hide (unhide h3 A5 A3 c5 c3 w5 (Reads.of_own hown5) (Reads.of_own (own_below (unhide hb3') hb5)))
      clear hown5
      go_wp2_with fail
      refine (unhide g5).mono ?_
      rintro e w6 ⟨rfl, hb6⟩
      go_wp2_with fail
      refine (falive_any _).mono ?_
      rintro e w7 ⟨rfl, hb7⟩
      go_wp2_with fail
      go_ret
      exact ⟨rfl, bel_up (bel_up (bel_up hbel hb5) hb6) hb7⟩
end Go.Proofs.Ytakkjehmekekbaa
