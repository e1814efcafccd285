/- The walk of the statement DeltaApplies: it returns true. -/
import Derived.Test.YtdhgobflbacgbaaDWalks
namespace Go.Proofs.Ytdhgobflbacgbaa
open Go.RowKit

/-- a cell of an own row is written -/
theorem own_set {w : World} {base n size g : Nat} {e : TypeId} {v : Value} {xs : List Value} (h : w.ownsRow base e size v n xs) (hg : v.ownBlock = some g) (i : Nat) (u : Value) : (w.setCell ⟨g, i, none⟩ u).ownsRow base e size v n (xs.set i u) := by
  rcases h.2 with ⟨rfl, _⟩ | ⟨g', cap, cur, rfl, hb, hh, hn, hc, hs, hx⟩
  · simp [Value.ownBlock] at hg
  · obtain rfl : g' = g := by simpa [Value.ownBlock] using hg
    refine ⟨by rw [List.length_set]; exact h.1, .inr ⟨g', cap, cur.setIfInBounds i u, rfl, hb, ?_, hn, hc, by simpa using hs, ?_⟩⟩
    · simp [World.setCell, Array.getElem?_modify, hh]
    · rw [← hx]; simp [List.take_set]
theorem own_unfrozen {w : World} {base n size g c : Nat} {e : TypeId} {xs : List Value} (h : w.ownsRow base e size (.slice (some ⟨g, 0, none⟩) n c) n xs) (i : Nat) : w.frozen? ⟨g, i, none⟩ = false := by
  rcases h.2 with ⟨hv, _⟩ | ⟨g', cap, cur, hv, _, hh, _⟩
  · cases hv
  · injection hv with h1
    injection h1 with h1
    injection h1 with h1
    subst h1
    simp [World.frozen?, hh]
theorem bvs_set (l : List UInt8) (i : Nat) (x : UInt8) : (bvs l).set i (bv x) = bvs (l.set i x) := by simp [bvs, List.map_set]
theorem u8_succ (x : UInt8) : ((x.toNat : Int) + 1) % 256 = (((x + 1 : UInt8).toNat : Nat) : Int) := by
  rw [UInt8.toNat_add]; simp

set_option maxRecDepth 100000 in
set_option maxHeartbeats 2000000 in
theorem deltaApplies_walk (A0 A1 : Option Addr) (l0 l1 : List UInt8) (c0 c1 : Nat) (w : World) (h0 : l0.length ≤ 140737488354000) (h1 : l1.length ≤ 140737488354000) 
    (hr0 : Reads w w.heap.size 1 A0 l0.length (bvs l0)) (hr1 : Reads w w.heap.size 1 A1 l1.length (bvs l1)) :
    Calls Try.prog 14 #[.slice A0 l0.length c0, .slice A1 l1.length c1] w fun e w' => e = .returned (.bool true) ∧ Below w.heap.size w w' := by
  obtain ⟨q, z, ha⟩ : ∃ q z, E.apply l0 l1 = (q, z) := ⟨_, _, rfl⟩
  have hrap := hide fun w0 => rapply_any l0 l1 w0 (by omega) (by omega) ha
  replace ha := hide ha
  go_enter Try.func14, Try.ntmps14
  go_wp2_with fail
  refine (lent_any A0 l0 c0 w (by omega) hr0).mono ?_
  rintro e w1 ⟨B0, d0, rfl, hd0, hown0, hbel0⟩
  have hx0 : Reads w1 w1.heap.size 1 B0 (l0.length + 2) (bvs (l0 ++ [77, 78])) := Reads.of_own hown0
  have hr01 := reads_up hr0 hbel0
  have hr11 := reads_up hr1 hbel0
  clear hown0
  go_wp2_with fail
  refine (lent_any A1 l1 c1 w1 (by omega) hr11).mono ?_
  rintro e w2 ⟨B1, d1, rfl, hd1, hown1, hbel1⟩
  have hx1 : Reads w2 w2.heap.size 1 B1 (l1.length + 2) (bvs (l1 ++ [77, 78])) := Reads.of_own hown1
  have hx02 := reads_up hx0 hbel1
  have hr02 := reads_up hr01 hbel1
  have hr12 := reads_up hr11 hbel1
  clear hown1 hx0 hr01 hr11
  have hap := hide (apply_any B0 B1 l0 l1 l0.length d0 l1.length d1 w2 rfl (by omega) (by omega) rfl (by omega) (by omega) (reads_prefix rfl hx02) (reads_prefix rfl hx1) (unhide ha))
  replace hx1 := hide hx1
  replace hx02 := hide hx02
  replace hr02 := hide hr02
  replace hr12 := hide hr12
  go_wp2_with fail
  refine (unhide hap).mono ?_
  rintro e w3 ⟨B2, d2, rfl, hown2, hbel2⟩
  have v0 : (convert 22 9 (.slice A0 l0.length c0)).run Try.prog w3 = .ok (.string (bs l0)) w3 := conv_later (w1 := w3) rfl (unhide hr02) hbel2
  have v1 : (convert 22 9 (.slice A1 l1.length c1)).run Try.prog w3 = .ok (.string (bs l1)) w3 := conv_later (w1 := w3) rfl (unhide hr12) hbel2
  have v2 : (convert 22 9 (.slice B2 q.length d2)).run Try.prog w3 = .ok (.string (bs q)) w3 := conv_later (w1 := w3) rfl (Reads.of_own hown2) (Below.refl _ _)
  have HO := hide hown2
  clear hown2
  go_wp2_with fail
  refine (unhide hrap _).mono ?_
  rintro e w4 ⟨rfl, rfl⟩
  go_wp2_with fail
  have hql : q.length ≤ 9223372036854775807 := by
    obtain ⟨A', c', e1, h2, h3⟩ := own_form (unhide HO)
    simp only [maxLen] at h3
    omega
  generalize hqn : q.length = nq at *
  clear v0 v1 v2
  go_loopg [11, 41] nq (fun m _ i wr => ∃ (k : Nat) (ys : List UInt8), i = .int .i64 k ∧ nq ≤ m + k ∧ k ≤ nq ∧ ys.length = nq ∧ wr.ownsRow w2.heap.size 5 1 (.slice B2 nq d2) nq (bvs ys) ∧ Below w2.heap.size w2 wr)
  case atStart => exact ⟨0, q, rfl, by omega, by omega, hqn, unhide HO, hbel2⟩
  case round =>
    obtain ⟨k, ys, rfl, hm, hk, hys, hown, hbel⟩ := hrel
    by_cases hlt : k < nq
    · have hlt' : (k : Int) < nq := by omega
      obtain ⟨g, c', hv, _, _⟩ := hown.form (by omega)
      injection hv with hv1 hv2 hv3
      subst hv1
      obtain rfl : c' = d2 := hv3.symm
      clear hv2 hv3
      have hkl : k < ys.length := by omega
      have hc : wr.cell? ⟨g, k, none⟩ = some (.int .u8 ys[k].toNat) := by
        have := hown.cells (g := g) rfl k _ (bvs_get hkl)
        rw [show (⟨g, 0, none⟩ : Addr).add k = ⟨g, k, none⟩ from by unfold Addr.add; split <;> simp_all] at this
        exact this
      have hf := own_unfrozen hown k
      have hS := own_set hown (g := g) rfl k (bv (ys[k] + 1))
      rw [bvs_set] at hS
      replace hS := hide hS
      have hB := hide (hbel.setCell (p := ⟨g, k, none⟩) (hown.lt g rfl).1 (bv (ys[k] + 1)))
      have hu := hide (u8_succ ys[k])
      have hys2 := hide (show (ys.set k (ys[k] + 1)).length = nq by simp [hys])
      unfold bv at hS hB
      generalize ys[k] = y at *
      clear hown hbel hys hkl
      go_wp2_with fail
      rw [unhide hu]
      go_roundg (gk - 1)
      case measure => omega
      case rel => exact ⟨k + 1, ys.set k (y + 1), by go_num, by omega, by omega, unhide hys2, unhide hS, unhide hB⟩
    · have hlt' : ¬ (k : Int) < nq := by omega
      clear hlt hys hown
      go_wp2_with fail
      refine (held_any _ _ B0 A0 l0 d0 c0 _ (by omega) hd0 (Reads.below (unhide hx02) hbel) (Reads.below (unhide hr02) hbel)).mono ?_
      rintro e w5 ⟨rfl, k5, rfl⟩
      go_wp2_with fail
      refine (held_any _ _ B1 A1 l1 d1 c1 _ (by omega) hd1 (Reads.below (unhide hx1) (below_drewN hbel _)) (Reads.below (unhide hr12) (below_drewN hbel _))).mono ?_
      rintro e w5 ⟨rfl, k6, rfl⟩
      go_wp2_with fail
      refine (dalive_any _).mono ?_
      rintro e w6 ⟨rfl, hb6⟩
      go_wp2_with fail
      go_ret
      exact ⟨rfl, bel_up (bel_up (bel_up hbel0 hbel1) (below_drewN hbel _)) hb6⟩
end Go.Proofs.Ytdhgobflbacgbaa
