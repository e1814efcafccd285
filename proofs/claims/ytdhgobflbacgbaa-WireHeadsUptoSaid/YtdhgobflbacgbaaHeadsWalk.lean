/- The walk of the statement WireHeads: it returns true, at every list whose bytes are fewer than 2^46. -/
import Derived.Test.YtdhgobflbacgbaaTrip
import Derived.Test.YtdhgobflbacgbaaList
import Derived.Test.YtdhgobflbacgbaaGList
import Derived.Test.YtdhgobflbacgbaaLent
namespace Go.Proofs.Ytdhgobflbacgbaa
open Go.RowKit

theorem own_cap {w : World} {base n c : Nat} {e : TypeId} {size : Nat} {A : Option Addr} {xs : List Value} (h : w.ownsRow base e size (.slice A n c) n xs) : n ≤ c := by
  obtain ⟨A', c', e, h1, _⟩ := own_form h
  injection e with _ _ e
  omega

/-- the place of a cut, as the program finds it -/
theorem cut_at (c : Int) (n : Nat) (hn : 0 < n) : ∃ j : Nat, j < n ∧ ((c.tmod n) + n).tmod n = j ∧ -(n : Int) < c.tmod n ∧ c.tmod n < n := by
  have h1 := Int.lt_tmod_of_pos c (show (0 : Int) < n by omega)
  have h2 := Int.tmod_lt_of_pos c (show (0 : Int) < n by omega)
  have h3 : 0 ≤ ((c.tmod n) + n).tmod n := Int.tmod_nonneg _ (by omega)
  have h4 := Int.tmod_lt_of_pos ((c.tmod n) + n) (show (0 : Int) < n by omega)
  exact ⟨(((c.tmod n) + n).tmod n).toNat, by omega, by omega, by omega, h2⟩

set_option maxRecDepth 100000 in
set_option maxHeartbeats 1000000 in
theorem wireHeads_pos (N : Nat) (A0 : Option Addr) (L0 : List (List UInt8)) (n0 c0 : Nat) (p : Int) (w : World) (hN : N < 9223372036854775808) (hn0 : L0.length = n0) (hs : (W.list L0).length ≤ 70368744177664) (hn6 : n0 ≤ 70368744177664)
    (hr0 : Reads w w.heap.size 1 A0 n0 (svs L0)) :
    Calls Try.prog 8 #[.int .i64 N, .slice A0 n0 c0, .int .i64 p] w fun e w' => e = .returned (.bool true) ∧ Below w.heap.size w w' := by
  have h1 := hide (num_any N w hN)
  have h9 := W.num_len9 hN
  have hpos := W.num_pos N
  have hcut := hide (fun j h => W.gnum_cut [] N j hN h)
  generalize W.num N = l at *
  generalize hll : l.length = m at *
  obtain ⟨j, hj, hj1, hj2, hj3⟩ := cut_at p m hpos
  have tx := hide (fun w0 h0 => list_any A0 L0 n0 c0 w0 hn0 hs (by omega) h0)
  have hlc := hide (fun h j hj => W.glist_cut L0 j (by omega) h hj)
  have hpos2 : 0 < (W.list L0).length := by unfold W.list; have := W.num_pos L0.length; simp only [List.length_append]; omega
  generalize W.list L0 = LL at *
  generalize hLL : LL.length = k at *
  obtain ⟨j2, hj4, hj5, hj6, hj7⟩ := cut_at p k hpos2
  replace hll := hide hll
  replace hLL := hide hLL
  replace hn0 := hide hn0
  go_enter Try.func8, Try.ntmps8
  go_wp2_with (go_at_call 23; refine (unhide h1).mono ?_; rintro e w1 ⟨A, c, rfl, hown, hb1⟩; have hmc := own_cap hown)
  go_at_call 19
  refine (get_eq w1.heap.size A (l.take j) j c 0 _ (by have := unhide hll; simp; omega) (by omega) (reads_take (Reads.of_own hown |>.below (Below.refl _ _)) (by omega)) (x := 0) (y := 0) (z := 8) (by have := (unhide hcut) j hj; simp only [List.nil_append, List.length_nil, Int.natCast_zero] at this; rw [this]; rfl)).mono ?_
  rintro e w2 ⟨rfl, rfl⟩
  clear hown
  go_wp2_with fail
  have hr1 : Reads w1 w1.heap.size 1 A0 n0 (svs L0) := (hr0.below hb1).more hb1.size
  clear hr0
  go_wp2_with (go_at_call 32; refine ((unhide tx) _ hr1).mono ?_; rintro e w3 ⟨A3, c3, rfl, hown3, hb3⟩; have hkc := own_cap hown3)
  have hr3 : Reads w3 w3.heap.size 1 A0 n0 (svs L0) := (hr1.below hb3).more hb3.size
  have hb13 := hb1.trans (hb3.mono hb1.size)
  have hr4 := Reads.of_own hown3
  clear hown3
  go_loop [13] (fun i => ∃ t : Nat, i = .int .i64 t ∧ t ≤ n0 ∧ ∀ (q : Nat) (h : q < L0.length), q < t → L0[q].length ≤ 131072) (fun i => n0 - (intOf i).toNat)
  case atStart => exact ⟨0, rfl, Nat.zero_le _, fun q _ h => by omega⟩
  case round =>
    obtain ⟨t, rfl, ht, hall⟩ := hrel
    replace hall := hide hall
    by_cases hlt : t < n0
    · have hkl : t < L0.length := by have := unhide hn0; omega
      obtain ⟨ad, u, rfl, hbl, hu, hcell⟩ := hr3.at_ hlt
      obtain rfl : sv L0[t] = u := by rw [svs_get hkl] at hu; injection hu
      unfold sv at hcell
      generalize hzl : L0[t].length = z at *
      have hzs : (bs L0[t]).size = z := by rw [bs_size, hzl]
      by_cases hz : 131072 < z
      · go_wp2_with (go_at_call 22; refine (alive_any _).mono ?_; rintro e w4 ⟨rfl, hb4⟩)
        go_ret
        exact ⟨rfl, hb13.trans (hb4.mono hb13.size)⟩
      · go_wp2_with fail
        refine ⟨⟨t + 1, by go_num, by omega, fun q hq h => ?_⟩, by simp [intOf]; omega⟩
        by_cases e : q = t
        · subst e; omega
        · exact (unhide hall) q hq (by omega)
    · have hall2 : ∀ s ∈ L0, s.length ≤ 131072 := fun s hs => by
        obtain ⟨q, hq, rfl⟩ := List.getElem_of_mem hs
        exact (unhide hall) q hq (by have := unhide hn0; omega)
      have hgl := (unhide hlc) hall2 j2 hj4
      have hn0' := unhide hn0
      go_wp2_with fail
      go_at_call 30
      have hg := glist_any A3 (LL.take j2) c3 0 w3 (by have := unhide hLL; simp; omega) (by have := unhide hLL; simp; omega) (by have := unhide hLL; rw [List.length_take, this, Nat.min_eq_left (by omega)]; exact reads_take hr4 (by omega))
      rw [List.length_take, unhide hLL, Nat.min_eq_left (by omega)] at hg
      refine hg.mono ?_
      rintro e w5 ⟨A5, c5, rfl, _, hb5⟩
      clear hg
      generalize W.glist (LL.take j2) 0 = r at *
      obtain ⟨r1, r2, r3⟩ := r
      simp only at hgl ⊢
      rw [hn0'] at hgl
      have hb15 := hb13.trans (hb5.mono hb13.size)
      by_cases hr3 : r3 = 8
      · subst hr3
        go_wp2_with (go_at_call 22; refine (alive_any _).mono ?_; rintro e w6 ⟨rfl, hb6⟩)
        go_ret
        exact ⟨rfl, hb15.trans (hb6.mono hb15.size)⟩
      · have h131 : 131072 < n0 := by omega
        go_wp2_with (go_at_call 22; refine (alive_any _).mono ?_; rintro e w6 ⟨rfl, hb6⟩)
        go_ret
        exact ⟨rfl, hb15.trans (hb6.mono hb15.size)⟩

set_option maxRecDepth 100000 in
set_option maxHeartbeats 1000000 in
theorem wireHeads_neg (n : Int) (N : Nat) (A0 : Option Addr) (L0 : List (List UInt8)) (n0 c0 : Nat) (p : Int) (w : World) (hN : N < 9223372036854775808) (hneg : n < 0) (heN : -(n + 1) = N) (hn0 : L0.length = n0) (hs : (W.list L0).length ≤ 70368744177664) (hn6 : n0 ≤ 70368744177664)
    (hr0 : Reads w w.heap.size 1 A0 n0 (svs L0)) :
    Calls Try.prog 8 #[.int .i64 n, .slice A0 n0 c0, .int .i64 p] w fun e w' => e = .returned (.bool true) ∧ Below w.heap.size w w' := by
  have h1 := hide (num_any N w hN)
  have h9 := W.num_len9 hN
  have hpos := W.num_pos N
  have hcut := hide (fun j h => W.gnum_cut [] N j hN h)
  generalize W.num N = l at *
  generalize hll : l.length = m at *
  obtain ⟨j, hj, hj1, hj2, hj3⟩ := cut_at p m hpos
  have tx := hide (fun w0 h0 => list_any A0 L0 n0 c0 w0 hn0 hs (by omega) h0)
  have hlc := hide (fun h j hj => W.glist_cut L0 j (by omega) h hj)
  have hpos2 : 0 < (W.list L0).length := by unfold W.list; have := W.num_pos L0.length; simp only [List.length_append]; omega
  generalize W.list L0 = LL at *
  generalize hLL : LL.length = k at *
  obtain ⟨j2, hj4, hj5, hj6, hj7⟩ := cut_at p k hpos2
  replace hll := hide hll
  replace hLL := hide hLL
  replace hn0 := hide hn0
  go_enter Try.func8, Try.ntmps8
  go_wp2_with (go_at_call 23; refine (unhide h1).mono ?_; rintro e w1 ⟨A, c, rfl, hown, hb1⟩; have hmc := own_cap hown)
  go_at_call 19
  refine (get_eq w1.heap.size A (l.take j) j c 0 _ (by have := unhide hll; simp; omega) (by omega) (reads_take (Reads.of_own hown |>.below (Below.refl _ _)) (by omega)) (x := 0) (y := 0) (z := 8) (by have := (unhide hcut) j hj; simp only [List.nil_append, List.length_nil, Int.natCast_zero] at this; rw [this]; rfl)).mono ?_
  rintro e w2 ⟨rfl, rfl⟩
  clear hown
  go_wp2_with fail
  have hr1 : Reads w1 w1.heap.size 1 A0 n0 (svs L0) := (hr0.below hb1).more hb1.size
  clear hr0
  go_wp2_with (go_at_call 32; refine ((unhide tx) _ hr1).mono ?_; rintro e w3 ⟨A3, c3, rfl, hown3, hb3⟩; have hkc := own_cap hown3)
  have hr3 : Reads w3 w3.heap.size 1 A0 n0 (svs L0) := (hr1.below hb3).more hb3.size
  have hb13 := hb1.trans (hb3.mono hb1.size)
  have hr4 := Reads.of_own hown3
  clear hown3
  go_loop [13] (fun i => ∃ t : Nat, i = .int .i64 t ∧ t ≤ n0 ∧ ∀ (q : Nat) (h : q < L0.length), q < t → L0[q].length ≤ 131072) (fun i => n0 - (intOf i).toNat)
  case atStart => exact ⟨0, rfl, Nat.zero_le _, fun q _ h => by omega⟩
  case round =>
    obtain ⟨t, rfl, ht, hall⟩ := hrel
    replace hall := hide hall
    by_cases hlt : t < n0
    · have hkl : t < L0.length := by have := unhide hn0; omega
      obtain ⟨ad, u, rfl, hbl, hu, hcell⟩ := hr3.at_ hlt
      obtain rfl : sv L0[t] = u := by rw [svs_get hkl] at hu; injection hu
      unfold sv at hcell
      generalize hzl : L0[t].length = z at *
      have hzs : (bs L0[t]).size = z := by rw [bs_size, hzl]
      by_cases hz : 131072 < z
      · go_wp2_with (go_at_call 22; refine (alive_any _).mono ?_; rintro e w4 ⟨rfl, hb4⟩)
        go_ret
        exact ⟨rfl, hb13.trans (hb4.mono hb13.size)⟩
      · go_wp2_with fail
        refine ⟨⟨t + 1, by go_num, by omega, fun q hq h => ?_⟩, by simp [intOf]; omega⟩
        by_cases e : q = t
        · subst e; omega
        · exact (unhide hall) q hq (by omega)
    · have hall2 : ∀ s ∈ L0, s.length ≤ 131072 := fun s hs => by
        obtain ⟨q, hq, rfl⟩ := List.getElem_of_mem hs
        exact (unhide hall) q hq (by have := unhide hn0; omega)
      have hgl := (unhide hlc) hall2 j2 hj4
      have hn0' := unhide hn0
      go_wp2_with fail
      go_at_call 30
      have hg := glist_any A3 (LL.take j2) c3 0 w3 (by have := unhide hLL; simp; omega) (by have := unhide hLL; simp; omega) (by have := unhide hLL; rw [List.length_take, this, Nat.min_eq_left (by omega)]; exact reads_take hr4 (by omega))
      rw [List.length_take, unhide hLL, Nat.min_eq_left (by omega)] at hg
      refine hg.mono ?_
      rintro e w5 ⟨A5, c5, rfl, _, hb5⟩
      clear hg
      generalize W.glist (LL.take j2) 0 = r at *
      obtain ⟨r1, r2, r3⟩ := r
      simp only at hgl ⊢
      rw [hn0'] at hgl
      have hb15 := hb13.trans (hb5.mono hb13.size)
      by_cases hr3 : r3 = 8
      · subst hr3
        go_wp2_with (go_at_call 22; refine (alive_any _).mono ?_; rintro e w6 ⟨rfl, hb6⟩)
        go_ret
        exact ⟨rfl, hb15.trans (hb6.mono hb15.size)⟩
      · have h131 : 131072 < n0 := by omega
        go_wp2_with (go_at_call 22; refine (alive_any _).mono ?_; rintro e w6 ⟨rfl, hb6⟩)
        go_ret
        exact ⟨rfl, hb15.trans (hb6.mono hb15.size)⟩

theorem wireHeads_walk (n : Int) (A0 : Option Addr) (L0 : List (List UInt8)) (n0 c0 : Nat) (p : Int) (w : World) (hn : -9223372036854775808 ≤ n ∧ n ≤ 9223372036854775807) (hn0 : L0.length = n0) (hs : (W.list L0).length ≤ 70368744177664) (hn6 : n0 ≤ 70368744177664)
    (hr0 : Reads w w.heap.size 1 A0 n0 (svs L0)) :
    Calls Try.prog 8 #[.int .i64 n, .slice A0 n0 c0, .int .i64 p] w fun e w' => e = .returned (.bool true) ∧ Below w.heap.size w w' := by
  by_cases h0 : n < 0
  · exact wireHeads_neg n (-(n + 1)).toNat A0 L0 n0 c0 p w (by omega) h0 (by omega) hn0 hs hn6 hr0
  · obtain ⟨m, rfl⟩ := Int.eq_ofNat_of_zero_le (show 0 ≤ n by omega)
    exact wireHeads_pos m A0 L0 n0 c0 p w (by omega) hn0 hs hn6 hr0
end Go.Proofs.Ytdhgobflbacgbaa
