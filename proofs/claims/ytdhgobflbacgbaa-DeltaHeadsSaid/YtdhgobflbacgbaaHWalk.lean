/- The walk of the statement DeltaHeads: it returns true. -/
import Derived.Test.YtdhgobflbacgbaaDWalks
namespace Go.Proofs.Ytdhgobflbacgbaa
open Go.RowKit

/-- the place of a cut, as the program finds it -/
theorem cut_atD (c : Int) (n : Nat) (hn : 0 < n) : ∃ j : Nat, j < n ∧ ((c.tmod n) + n).tmod n = j ∧ -(n : Int) < c.tmod n ∧ c.tmod n < n := by
  have h1 := Int.lt_tmod_of_pos c (show (0 : Int) < n by omega)
  have h2 := Int.tmod_lt_of_pos c (show (0 : Int) < n by omega)
  have h3 : 0 ≤ ((c.tmod n) + n).tmod n := Int.tmod_nonneg _ (by omega)
  have h4 := Int.tmod_lt_of_pos ((c.tmod n) + n) (show (0 : Int) < n by omega)
  exact ⟨(((c.tmod n) + n).tmod n).toNat, by omega, by omega, by omega, h2⟩
theorem apply_empty (base : List UInt8) : (E.apply base []).2 ≠ 0 := by
  intro h
  obtain ⟨_, x, _, _, h1, _⟩ := E.apply_ok (q := (E.apply base []).1) (Prod.ext rfl h)
  have := W.gnum_ok h1
  simp only [List.length_nil] at this
  omega

set_option maxRecDepth 100000 in
set_option maxHeartbeats 1000000 in
theorem deltaHeads_bad (A0 A1 : Option Addr) (l0 l1 : List UInt8) (n0 n1 c0 c1 : Nat) (p : Int) (w : World) (hn0 : l0.length = n0) (hn1 : l1.length = n1) (h0 : n0 ≤ 140737488355000) (h1 : n1 ≤ 140737488355000) (hc0 : n0 ≤ c0) (hc1 : n1 ≤ c1)
    (hr0 : Reads w w.heap.size 1 A0 n0 (bvs l0)) (hr1 : Reads w w.heap.size 1 A1 n1 (bvs l1)) {q : List UInt8} {z : Nat} (ha : E.apply l0 l1 = (q, z)) (hz : z ≠ 0) :
    Calls Try.prog 9 #[.slice A0 n0 c0, .slice A1 n1 c1, .int .i64 p] w fun e w' => e = .returned (.bool true) ∧ Below w.heap.size w w' := by
  have hcon := hide (apply_any A0 A1 l0 l1 n0 c0 n1 c1 w hn0 h0 hc0 hn1 h1 hc1 hr0 hr1 ha)
  have hz1 : ((z : Int) != 0) = true := by rw [bne_iff_ne]; omega
  clear hn0 hn1 ha hz
  go_enter Try.func9, Try.ntmps9
  go_wp2_with fail
  refine (unhide hcon).mono ?_
  rintro e w1 ⟨A, c, rfl, hown, hbel⟩
  clear hown
  go_wp2_with fail
  refine (dalive_any _).mono ?_
  rintro e w3 ⟨rfl, hb3⟩
  go_wp2_with fail
  go_ret
  exact ⟨rfl, bel_up hbel hb3⟩

set_option maxRecDepth 100000 in
set_option maxHeartbeats 2000000 in
theorem deltaHeads_good (A0 A1 : Option Addr) (l0 l1 : List UInt8) (n0 n1 c0 c1 : Nat) (p : Int) (w : World) (hn0 : l0.length = n0) (hn1 : l1.length = n1) (h0 : n0 ≤ 140737488355000) (h1 : n1 ≤ 140737488354000) (hc0 : n0 ≤ c0) (hc1 : n1 ≤ c1)
    (hr0 : Reads w w.heap.size 1 A0 n0 (bvs l0)) (hr1 : Reads w w.heap.size 1 A1 n1 (bvs l1)) {q : List UInt8} (ha : E.apply l0 l1 = (q, 0)) (hpos : 0 < n1) :
    Calls Try.prog 9 #[.slice A0 n0 c0, .slice A1 n1 c1, .int .i64 p] w fun e w' => e = .returned (.bool true) ∧ Below w.heap.size w w' := by
  have hcon := hide (apply_any A0 A1 l0 l1 n0 c0 n1 c1 w hn0 h0 hc0 hn1 (by omega) hc1 hr0 hr1 ha)
  obtain ⟨j, hj, hj1, hj2, hj3⟩ := cut_atD p n1 hpos
  have hcut := E.apply_cut ha (j := j) (by omega)
  obtain ⟨z2, hz2⟩ : ∃ z2, (E.apply l0 (l1.take j)).2 = z2 := ⟨_, rfl⟩
  have hcut2 : E.apply l0 (l1.take j) = ([], z2) := by rw [E.apply_err1 hcut, hz2]
  rw [hz2] at hcut
  have hz3 : ((z2 : Int) != 0) = true := by rw [bne_iff_ne]; omega
  have hext := hide (E.apply_ext ha (r := [UInt8.ofNat j]) (by simp))
  have hb8 : bvs [UInt8.ofNat j] = [Value.int .u8 ((j : Int) % 256)] := by simp [bvs, bv]
  have hn2 : (l1 ++ [UInt8.ofNat j]).length = n1 + 1 := by simp [hn1]
  have hlj : (l1.take j).length = j := by simp; omega
  replace hcut2 := hide hcut2
  replace hb8 := hide hb8
  replace hn2 := hide hn2
  replace hlj := hide hlj
  replace hn0 := hide hn0
  have hn1' := hide hn1
  clear ha hcut hz2 hn1
  have hne : ¬ (n1 = 0) := by omega
  have hne' : ((n1 : Int) == 0) = false := by rw [beq_eq_false_iff_ne]; omega
  go_enter Try.func9, Try.ntmps9
  go_wp2_with fail
  refine (unhide hcon).mono ?_
  rintro e w1 ⟨A, c, rfl, hown, hbel⟩
  clear hown
  have hr01 := reads_up hr0 hbel
  have hr11 := reads_up hr1 hbel
  have hap1 := hide (apply_any A0 A1 l0 (l1.take j) n0 c0 j c1 w1 (unhide hn0) h0 hc0 (unhide hlj) (by omega) (by omega) hr01 (reads_take hr11 (by omega)) (unhide hcut2))
  go_wp2_with fail
  refine (unhide hap1).mono ?_
  rintro e w2 ⟨A2, c2, rfl, hown2, hbel2⟩
  clear hown2
  have hr02 := hide (reads_up hr01 hbel2)
  have hr12 := reads_up hr11 hbel2
  clear hr01 hr11
  have hm0 : (w2.alloc (.cells #[] 5)).ownsRow w2.heap.size 5 1 (.slice (some ⟨w2.heap.size, 0, none⟩) 0 0) 0 [] := World.ownsRow_made w2 #[] 0 (Nat.le_refl _) (Nat.zero_le _) rfl
  have hle1 : w2.heap.size ≤ (w2.alloc (.cells #[] 5)).heap.size := by simp
  have hrA := hide (hr12.alloc (Nat.le_refl _) (.cells #[] 5))
  replace hm0 := hide hm0
  replace hr12 := hide hr12
  go_wp2_with (first
    | (at_builtin; refine wpList_appS rfl (.tmp 51) (.tmp 52) _ rfl et22 w2.heap.size (.slice (some ⟨w2.heap.size, 0, none⟩) 0 0) 0 [] rfl (unhide hm0) _ A1 n1 c1 (bvs l1) rfl (unhide hrA) (bvs_one _) ?_ (by decide) ?_ ?_; omega; exact hle1; intro A3 c3 w3 hown3 hgr3 _; simp only [Nat.zero_add, List.nil_append] at hown3 hgr3; have hown3 := hide hown3; have hsz3 : w2.heap.size ≤ w3.heap.size := Nat.le_trans hle1 hgr3.g.size)
    | (at_builtin; refine wpList_app1 rfl (.tmp 53) (.tmp 56) _ rfl et22 w2.heap.size (.slice A3 n1 c3) n1 (bvs l1) rfl (unhide hown3) (.int .u8 ((j : Int) % 256)) rfl rfl ?_ (by decide) hsz3 ?_; omega; intro A4 c4 w4 hown4 hgr4 hc4))
  have hb3 : Below w2.heap.size w2 w3 := ((Below.refl _ _).alloc (Nat.le_refl _) _).trans (hgr3.below hle1 (by simp [Value.ownBlock]))
  have hb4 : Below w2.heap.size w2 w4 := hb3.trans (hgr4.below hb3.size (fun k hk => ((unhide hown3).lt k hk).1))
  rw [← unhide hb8, ← bvs_append] at hown4
  have hap2 := hide (apply_any A0 A4 l0 (l1 ++ [UInt8.ofNat j]) n0 c0 (n1 + 1) c4 w4 (unhide hn0) h0 hc0 (unhide hn2) (by omega) hc4 (reads_up (unhide hr02) hb4) (Reads.of_own hown4) (unhide hext))
  clear hown4 hgr4 hgr3 hown3
  refine (unhide hap2).mono ?_
  rintro e w5 ⟨A5, c5, rfl, hown5, hbel5⟩
  clear hown5
  go_wp2_with fail
  refine (dalive_any _).mono ?_
  rintro e w6 ⟨rfl, hb6⟩
  go_wp2_with fail
  go_ret
  exact ⟨rfl, bel_up (bel_up (bel_up (bel_up hbel hbel2) hb4) hbel5) hb6⟩

theorem deltaHeads_walk (A0 A1 : Option Addr) (l0 l1 : List UInt8) (n0 n1 c0 c1 : Nat) (p : Int) (w : World) (hn0 : l0.length = n0) (hn1 : l1.length = n1) (h0 : n0 ≤ 140737488354000) (h1 : n1 ≤ 140737488354000) (hc0 : n0 ≤ c0) (hc1 : n1 ≤ c1)
    (hr0 : Reads w w.heap.size 1 A0 n0 (bvs l0)) (hr1 : Reads w w.heap.size 1 A1 n1 (bvs l1)) :
    Calls Try.prog 9 #[.slice A0 n0 c0, .slice A1 n1 c1, .int .i64 p] w fun e w' => e = .returned (.bool true) ∧ Below w.heap.size w w' := by
  obtain ⟨q, z, ha⟩ : ∃ q z, E.apply l0 l1 = (q, z) := ⟨_, _, rfl⟩
  by_cases hz : z = 0
  · subst hz
    refine deltaHeads_good A0 A1 l0 l1 n0 n1 c0 c1 p w hn0 hn1 (by omega) h1 hc0 hc1 hr0 hr1 ha ?_
    rcases Nat.eq_zero_or_pos n1 with h | h
    · exfalso
      have : l1 = [] := List.eq_nil_of_length_eq_zero (by omega)
      subst this
      exact apply_empty l0 (by rw [ha])
    · exact h
  · exact deltaHeads_bad A0 A1 l0 l1 n0 n1 c0 c1 p w hn0 hn1 (by omega) (by omega) hc0 hc1 hr0 hr1 ha hz
end Go.Proofs.Ytdhgobflbacgbaa
