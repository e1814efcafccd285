/- The document's Make: a target told by a base. Conditions: texts of at most 2^47 bytes. -/
import Derived.Test.YtdhgobflbacgbaaRBest
import Derived.Test.YtdhgobflbacgbaaDWalks
namespace Go.Proofs.Ytdhgobflbacgbaa
open Go.RowKit

theorem bs_one {b : List UInt8} {j : Nat} (h : j < b.length) : (bs b).extract j (j + 1) = bs [b[j]] := by
  rw [bs_extract, bs_data, List.drop_eq_getElem_cons h]; rfl
theorem bs_isE {t : List UInt8} (h : t ≠ []) : (bs t).toList.isEmpty = false := by
  have : (bs t).toList = t := by simp [bs, ByteArray.toList_eq]
  rw [this]; cases t <;> simp_all

theorem below_redrewM {B : Nat} {w w' : World} {j k : Nat} (h : Below B w (w'.drewN j)) : Below B w (w'.drewN k) := ⟨h.os, h.tape, h.output, h.size, h.block⟩
/-- what holds at the loop's head: j places are done -/
def QRel (w1 : World) (base t Q : List UInt8) (nt j : Nat) (o ow : Value) (wr : World) : Prop :=
  ∃ out own, o = .string (bs out) ∧ ow = .string (bs own) ∧ j ≤ nt ∧ out ++ E.mk base (t.drop j) own = Q ∧ own.length ≤ j ∧ Below w1.heap.size w1 wr

set_option maxRecDepth 100000 in
set_option maxHeartbeats 20000000 in
theorem rmake_ok (base t : List UInt8) (nb nt : Nat) (w : World) (hnb : base.length = nb) (hnt : t.length = nt) (hb : nb ≤ 4096) (ht : nt ≤ 4096) :
    Calls Try.prog 38 #[.string (bs base), .string (bs t)] w fun e w' => e = .returned (.tuple #[.string (bs (W.num nb ++ (W.num nt ++ E.mk base t []))), .int .i64 0]) ∧ Below w.heap.size w w' := by
  have hsb : (bs base).size = nb := by rw [bs_size, hnb]
  have hst : (bs t).size = nt := by rw [bs_size, hnt]
  have hb' : ¬ (4096 : Int) < nb := by omega
  have ht' : ¬ (4096 : Int) < nt := by omega
  have hbe := hide (best_any base t nb nt w hnb hnt hb ht)
  have hn1 := hide fun w0 => rnum_any nb w0 (by omega)
  have hn2 := hide fun w0 => rnum_any nt w0 (by omega)
  have hb9 := W.num_len9 (n := nb) (by omega)
  have ht9 := W.num_len9 (n := nt) (by omega)
  have hadd0 := fun w0 => str_add w0 (W.num nb) (W.num nt) (by omega)
  have hQ : (W.num nb ++ (W.num nt ++ E.mk base t [])).length ≤ 5000 := by
    have := E.mk_len base (by omega) t.length t [] (Nat.le_refl _) (by simp; omega)
    simp at *
    omega
  have HQ := hide fun (w1 w2 : World) (hbw : Below w1.heap.size w1 w2) => (show QRel w1 base t (W.num nb ++ (W.num nt ++ E.mk base t [])) nt 0 (.string (bs (W.num nb ++ W.num nt))) (.string ⟨#[]⟩) w2 from ⟨_, [], rfl, rfl, Nat.zero_le _, by simp, by simp, hbw⟩)
  generalize hQe : W.num nb ++ (W.num nt ++ E.mk base t []) = Q at *
  replace hQe := hide hQe
  replace hnb := hide hnb
  replace hnt := hide hnt
  go_enter Try.func38, Try.ntmps38
  go_wp2_with fail
  refine (unhide hbe).mono ?_
  rintro e w1 ⟨rfl, hA, hS, hbel1⟩
  go_wp2_with fail
  refine (unhide hn1 _).mono ?_
  rintro e w2 ⟨rfl, hb2⟩
  go_wp2_with fail
  refine (unhide hn2 _).mono ?_
  rintro e w3 ⟨rfl, hb3⟩
  have HD := hide ((unhide HQ) w1 w3 (bel_up hb2 hb3))
  clear HQ hb9 ht9 hbe hn1 hn2
  go_wp2_with fail
  clear hadd0
  go_loopg [8, 9, 10] nt (fun m o ow i wr => ∃ j : Nat, i = .int .i64 j ∧ nt ≤ m + j ∧ QRel w1 base t Q nt j o ow wr)
  case atStart => exact ⟨0, rfl, by omega, unhide HD⟩
  case round =>
    clear HD
    obtain ⟨j, rfl, hm, out, own, rfl, rfl, hj, hq, hol, hbel⟩ := hrel
    have hqq := hq
    have houl : out.length ≤ 5000 := by rw [← hq] at hQ; simp at hQ; omega
    have hso : (bs own).size = own.length := bs_size own
    replace hq := hide hq
    by_cases hlt : j < nt
    · have hlt' : (j : Int) < nt := by omega
      have hAc : wr.cell? ⟨w.heap.size, j, none⟩ = some (.int .i64 (E.bst (t.drop j) 0 base).1) := by
        rw [(hA.of_block (hbel.block _ hA.lt)).cell (by omega)]; unfold pc; rw [if_pos (Nat.zero_le _)]
      have hSc : wr.cell? ⟨w.heap.size + 1, j, none⟩ = some (.int .i64 (E.bst (t.drop j) 0 base).2) := by
        rw [(hS.of_block (hbel.block _ hS.lt)).cell (by omega)]; unfold sc; rw [if_pos (Nat.zero_le _)]
      have later := hide fun (w5 : World) (h5 : Below wr.heap.size wr w5) => (show w5.cell? ⟨w.heap.size, j, none⟩ = some (.int .i64 (E.bst (t.drop j) 0 base).1) ∧ w5.cell? ⟨w.heap.size + 1, j, none⟩ = some (.int .i64 (E.bst (t.drop j) 0 base).2) from
        ⟨(h5.cell (p := ⟨w.heap.size, j, none⟩) (Nat.lt_of_lt_of_le hA.lt hbel.size)).trans hAc, (h5.cell (p := ⟨w.heap.size + 1, j, none⟩) (Nat.lt_of_lt_of_le hS.lt hbel.size)).trans hSc⟩)
      have hbl := E.best_le base (t.drop j)
      have hjl : j < t.length := by have := unhide hnt; omega
      have hdt : t.drop j = t[j] :: t.drop (j + 1) := List.drop_eq_getElem_cons hjl
      have hqo := fun (h8 : (E.bst (t.drop j) 0 base).2 < 8) => (show out ++ E.mk base (t.drop (j + 1)) (own ++ [t[j]]) = Q by
          rw [← E.mk_own (y := t[j]) (t := t.drop (j + 1)) (by rw [← hdt]; exact h8), ← hdt]; exact unhide hq)
      have hqc := fun (h8 : 8 ≤ (E.bst (t.drop j) 0 base).2) => (show out ++ E.flush own ++ W.num (2 * (E.bst (t.drop j) 0 base).2 + 1) ++ W.num (E.bst (t.drop j) 0 base).1 ++ E.mk base (t.drop (j + (E.bst (t.drop j) 0 base).2)) [] = Q by
          have := unhide hq
          rw [E.mk_copy h8, List.drop_drop] at this
          rw [← this]; simp)
      have hx1 := bs_one hjl
      rw [List.length_drop, unhide hnt, unhide hnb] at hbl
      clear hdt hqq
      generalize t[j] = y at *
      generalize E.bst (t.drop j) 0 base = m' at *
      obtain ⟨p, n⟩ := m'
      simp only at hAc hSc hbl hqo hqc later
      by_cases h8 : n < 8
      · have h8' : (n : Int) < 8 := by omega
        have hq2 := hide (hqo h8)
        have hadd := fun w0 => str_add w0 own [y] (by simp; omega)
        have hj2 : (j : Int) + 1 ≤ nt := by omega
        clear hqc hqo later h8
        go_wp2_with fail
        go_roundg (gk - 1)
        case measure => omega
        case rel => exact ⟨j + 1, by go_num, by omega, out, _, rfl, rfl, by omega, unhide hq2, by simp; omega, hbel⟩
      · have h8' : ¬ (n : Int) < 8 := by omega
        have hq2 := hide (hqc (by omega))
        obtain ⟨N, hN⟩ : ∃ N : Nat, 2 * n + 1 = N := ⟨_, rfl⟩
        have hz : 2 * (n : Int) + 1 = (N : Int) := by omega
        have hN9 : N ≤ 8193 := by omega
        have hw := hide (show IntKind.i64.wrap (IntKind.i64.wrap (2 * (n : Int)) + 1) = (N : Int) by rw [IntWalk.i64_in (2 * (n : Int)) (by omega), IntWalk.i64_in _ (by omega)]; exact hz)
        have k1 := fun w0 => rnum_any (2 * n + 1) w0 (by omega)
        rw [hN] at k1
        have k2 := fun w0 => rnum_any p w0 (by omega)
        have l1 := W.num_len9 (n := 2 * n + 1) (by omega)
        have l2 := W.num_len9 (n := p) (by omega)
        have hje : j + n ≤ nt := by omega
        clear hqc hqo h8
        by_cases how : own = []
        · subst how
          have hq3 := hide (show out ++ W.num (2 * n + 1) ++ W.num p ++ E.mk base (t.drop (j + n)) [] = Q by
            have := unhide hq2
            rw [show E.flush [] = [] from rfl, List.append_nil] at this
            exact this)
          have a1 := fun w0 => str_add w0 out (W.num (2 * n + 1)) (by omega)
          have a2 := fun w0 => str_add w0 (out ++ W.num (2 * n + 1)) (W.num p) (by simp; omega)
          have hem : (bs []).toList.isEmpty = true := by simp [bs, ByteArray.toList_eq]
          have hem2 : (bs []).toList = [] := by simp [bs, ByteArray.toList_eq]
          rw [hN] at hq3 a1 a2 l1
          generalize W.num N = N1 at *
          generalize W.num p = N2 at *
          replace k1 := hide k1
          replace k2 := hide k2
          clear hq2
          have kA := fun w0 h => ((unhide later) w0 h).1
          have kS := fun w0 h => ((unhide later) w0 h).2
          clear later
          go_wp2_with fail
          go_cut [8] (fun o wx => o = .string (bs (out ++ N1 ++ N2)) ∧ Below wr.heap.size wr wx)
          case first =>
            have hn4 : n ≤ 4096 := by omega
            have hp4 : p ≤ 4096 := by omega
            clear hN hq3 hQe hQ hq hnb hnt hA hS hsb hst hb' ht' hx1 hem hem2 hbl houl hso hol hm hje l1 l2 hAc hSc hbel hbel1 hb2 hb3 hj
            go_region_held (fun w0 => Below wr.heap.size wr w0) (first | exact (Below.refl _ _).drew | assumption | exact below_redrewM (by assumption) | exact bel_up (by assumption) (by assumption) | exact below_drewN (by assumption) _) (first
              | (go_at_call 25; rw [unhide hw]; with_reducible refine (unhide k1 _).mono ?_; rintro e5 w5 ⟨rfl, hb5⟩)
              | (go_at_call 25; with_reducible refine (unhide k2 _).mono ?_; rintro e6 w6 ⟨rfl, hb6⟩))
            all_goals (go_wp2_with fail)
            all_goals go_meet
            all_goals exact ⟨by simp only [List.append_assoc], by assumption⟩
          case rest =>
            obtain ⟨rfl, hcut2⟩ := hcut
            have r2 := (kS _ hcut2)
            have hB2 := hide (bel_up hbel hcut2)
            clear kA kS
            go_wp2_with fail
            go_roundg (gk - 1)
            case measure => omega
            case rel => exact ⟨j + n, by go_num, by omega, _, [], rfl, rfl, hje, unhide hq3, Nat.zero_le _, unhide hB2⟩
        · have hq3 := hide (show out ++ W.num (2 * own.length) ++ own ++ W.num (2 * n + 1) ++ W.num p ++ E.mk base (t.drop (j + n)) [] = Q by
            have := unhide hq2
            rw [show E.flush own = W.num (2 * own.length) ++ own by unfold E.flush; rw [if_neg how], ← List.append_assoc out] at this
            exact this)
          have k0 := fun w0 => rnum_any (2 * own.length) w0 (by omega)
          rw [show ((2 * own.length : Nat) : Int) = 2 * (own.length : Int) from by omega] at k0
          have l0 := W.num_len9 (n := 2 * own.length) (by omega)
          have b1 := fun w0 => str_add w0 out (W.num (2 * own.length)) (by omega)
          have b2 := fun w0 => str_add w0 (out ++ W.num (2 * own.length)) own (by simp; omega)
          have a1 := fun w0 => str_add w0 (out ++ W.num (2 * own.length) ++ own) (W.num (2 * n + 1)) (by simp; omega)
          have a2 := fun w0 => str_add w0 (out ++ W.num (2 * own.length) ++ own ++ W.num (2 * n + 1)) (W.num p) (by simp; omega)
          have hem := bs_isE how
          have hem2 : ¬ (bs own).toList = [] := by rw [show (bs own).toList = own by simp [bs, ByteArray.toList_eq]]; exact how
          have hole : own.length ≤ 4096 := by omega
          rw [hN] at hq3 a1 a2 l1
          generalize W.num N = N1 at *
          generalize W.num p = N2 at *
          generalize W.num (2 * own.length) = N0 at *
          generalize own.length = no at *
          obtain ⟨O1, hO1⟩ : ∃ x, out ++ N0 ++ own = x := ⟨_, rfl⟩
          rw [hO1] at b2 a1 a2 hq3
          clear hO1
          replace k0 := hide k0
          replace k1 := hide k1
          replace k2 := hide k2
          clear hq2 how
          go_wp2_with fail
          refine (unhide k0 _).mono ?_
          rintro e w4 ⟨rfl, hb4⟩
          have kA := fun w0 h => ((unhide later) w0 (bel_up hb4 h)).1
          have kS := fun w0 h => ((unhide later) w0 (bel_up hb4 h)).2
          have hbel4 := bel_up hbel hb4
          obtain ⟨q1, q2⟩ := (unhide later) w4 hb4
          clear later hAc hSc
          go_wp2_with fail
          clear b1 b2
          go_cut [8] (fun o wx => o = .string (bs (O1 ++ N1 ++ N2)) ∧ Below w4.heap.size w4 wx)
          case first =>
            have hn4 : n ≤ 4096 := by omega
            have hp4 : p ≤ 4096 := by omega
            clear hN hq3 hQe hQ hq hnb hnt hA hS hsb hst hb' ht' hx1 hem hem2 hbl houl hso hol hm hje l1 l2 l0 q1 q2 hbel hbel4 hbel1 hb2 hb3 hb4 hj k0
            go_region_held (fun w0 => Below w4.heap.size w4 w0) (first | exact (Below.refl _ _).drew | assumption | exact below_redrewM (by assumption) | exact bel_up (by assumption) (by assumption) | exact below_drewN (by assumption) _) (first
              | (go_at_call 25; rw [unhide hw]; with_reducible refine (unhide k1 _).mono ?_; rintro e5 w5 ⟨rfl, hb5⟩)
              | (go_at_call 25; with_reducible refine (unhide k2 _).mono ?_; rintro e6 w6 ⟨rfl, hb6⟩))
            all_goals (go_wp2_with fail)
            all_goals go_meet
            all_goals exact ⟨by simp only [List.append_assoc], by assumption⟩
          case rest =>
            obtain ⟨rfl, hcut2⟩ := hcut
            have r2 := (kS _ hcut2)
            have hB2 := hide (bel_up hbel4 hcut2)
            clear kA kS
            go_wp2_with fail
            go_roundg (gk - 1)
            case measure => omega
            case rel => exact ⟨j + n, by go_num, by omega, _, [], rfl, rfl, hje, unhide hq3, Nat.zero_le _, unhide hB2⟩
    · obtain rfl : j = nt := by omega
      have hdn : t.drop j = [] := List.drop_eq_nil_of_le (by have := unhide hnt; omega)
      rw [hdn, E.mk_nil] at hqq
      clear hA hS
      by_cases how : own = []
      · subst how
        rw [show E.flush [] = [] from rfl, List.append_nil] at hqq
        subst hqq
        have hem : (bs []).toList.isEmpty = true := by simp [bs, ByteArray.toList_eq]
        have hem2 : (bs []).toList = [] := by simp [bs, ByteArray.toList_eq]
        have hF := hide (bel_up hbel1 hbel)
        go_wp2_with fail
        go_ret2
        exact ⟨rfl, unhide hF⟩
      · rw [show E.flush own = W.num (2 * own.length) ++ own by unfold E.flush; rw [if_neg how], ← List.append_assoc] at hqq
        have k0 := fun w0 => rnum_any (2 * own.length) w0 (by omega)
        rw [show ((2 * own.length : Nat) : Int) = 2 * (own.length : Int) from by omega] at k0
        have l0 := W.num_len9 (n := 2 * own.length) (by omega)
        have b1 := fun w0 => str_add w0 out (W.num (2 * own.length)) (by omega)
        have b2 := fun w0 => str_add w0 (out ++ W.num (2 * own.length)) own (by simp; omega)
        have hem := bs_isE how
        have hem2 : ¬ (bs own).toList = [] := by rw [show (bs own).toList = own by simp [bs, ByteArray.toList_eq]]; exact how
        have hole : own.length ≤ 4096 := by omega
        rw [hqq] at b2
        clear hqq
        generalize W.num (2 * own.length) = N0 at *
        generalize own.length = no at *
        replace k0 := hide k0
        have hF := hide (bel_up hbel1 hbel)
        clear how
        go_wp2_with fail
        refine (unhide k0 _).mono ?_
        rintro e w4 ⟨rfl, hb4⟩
        go_wp2_with fail
        go_ret2
        exact ⟨rfl, bel_up (unhide hF) hb4⟩
end Go.Proofs.Ytdhgobflbacgbaa
