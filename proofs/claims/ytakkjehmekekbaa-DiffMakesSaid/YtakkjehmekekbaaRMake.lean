/- The document's Make: the script from any text to any other one. Conditions: texts of at most 2^47 bytes. -/
import Derived.Test.YtakkjehmekekbaaRTab
import Derived.Test.YtakkjehmekekbaaRMore
namespace Go.Proofs.Ytakkjehmekekbaa
open Go.RowKit

/-- where the call stands: its row of edits, and all that was there -/
structure Mv (w1 wr : World) (v : Value) (l : List D.Ed) : Prop where
  own : wr.ownsRow w1.heap.size 32 3 v l.length (ecs l)
  bel : Below w1.heap.size w1 wr
theorem Mv.drewN {w1 wr : World} {v : Value} {l : List D.Ed} (h : Mv w1 wr v l) (n : Nat) : Mv w1 (wr.drewN n) v l := ⟨h.own, below_drewN h.bel n⟩
theorem rmore_mv {w1 w : World} {M : Nat} {v : Value} {l : List D.Ed} (k : Int) (s : List UInt8) (hs : s.length ≤ 1) (hM : M ≤ 4000) (hsm : Small M l) (h : Mv w1 w v l) :
    Calls Try.prog 26 #[v, .int .i64 k, .string (bs s)] w fun r w' => ∃ v', r = .returned v' ∧ Mv w1 w' v' (D.more l k s) := by
  refine (rmore_any k s hs hM hsm h.bel.size h.own).mono ?_
  rintro r w' ⟨v', rfl, hown, hg⟩
  exact ⟨v', rfl, hown, h.bel.trans (hg.below h.bel.size (fun k hk => (h.own.lt k hk).1))⟩
theorem own_lower {w : World} {base base' : Nat} {e : TypeId} {size n : Nat} {v : Value} {xs : List Value} (h : w.ownsRow base e size v n xs) (hb : base' ≤ base) : w.ownsRow base' e size v n xs := by
  rcases h.2 with ⟨rfl, hx⟩ | ⟨g, cap, cur, rfl, hg, hr⟩
  · exact ⟨h.1, .inl ⟨rfl, hx⟩⟩
  · exact ⟨h.1, .inr ⟨g, cap, cur, rfl, Nat.le_trans hb hg, hr⟩⟩
theorem TOut.cells {w w1 wr : World} {a b : List UInt8} {la lb i j : Nat} (h : TOut w a b la lb 0 w1) (hb : Below w1.heap.size w1 wr) (hi : i < la) (hj : j < lb) :
    wr.cell? ⟨w.heap.size, i, none⟩ = some (.slice (some ⟨w.heap.size + 1 + (la - i), 0, none⟩) (lb + 1) (lb + 1)) ∧ wr.cell? ⟨w.heap.size, i + 1, none⟩ = some (.slice (some ⟨w.heap.size + 1 + (la - (i + 1)), 0, none⟩) (lb + 1) (lb + 1)) ∧
    wr.cell? ⟨w.heap.size + 1 + (la - (i + 1)), j, none⟩ = some (.int .i64 (dd a b (i + 1) j)) ∧ wr.cell? ⟨w.heap.size + 1 + (la - i), j + 1, none⟩ = some (.int .i64 (dd a b i (j + 1))) := by
  obtain ⟨⟨f, hf, hv⟩, hfull, hs, _⟩ := h
  have h1 : wr.rowIs w.heap.size 57 (la + 1) f := hf.of_block (hb.block _ hf.lt)
  have F := fun r (hr : r ≤ la) => (hfull r (Nat.zero_le _) hr).of_block (w' := wr) (hb.block _ (hfull r (Nat.zero_le _) hr).lt)
  exact ⟨by rw [h1.cell (by omega), hv i (Nat.zero_le _) (by omega)], by rw [h1.cell (by omega), hv (i + 1) (Nat.zero_le _) (by omega)], by rw [(F (i + 1) (by omega)).cell (by omega)], by rw [(F i (by omega)).cell (by omega)]⟩

set_option maxRecDepth 100000 in
set_option maxHeartbeats 4000000 in
theorem rmake_ok (a b : List UInt8) (la lb : Nat) (w : World) (hla : a.length = la) (hlb : b.length = lb) (ha : la ≤ 1000) (hb : lb ≤ 1000) :
    Calls Try.prog 13 #[.string (bs a), .string (bs b)] w fun e w' => MRes w (D.mk a b []) 0 e w' := by
  have hsa : (bs a).size = la := by rw [bs_size, hla]
  have hsb : (bs b).size = lb := by rw [bs_size, hlb]
  have ha' : ¬ (1000 : Int) < la := by omega
  have hb' : ¬ (1000 : Int) < lb := by omega
  have hcs := hide (rtable_any a b la lb w hla hlb ha hb)
  replace hla := hide hla
  replace hlb := hide hlb
  go_enter Try.func13, Try.ntmps13
  go_wp2_with fail
  refine (unhide hcs).mono ?_
  rintro e w1 ⟨rfl, hT⟩
  replace hT := hide hT
  generalize hQ : D.mk a b [] = Q at *
  replace hQ := hide hQ
  clear hcs
  go_wp2_with fail
  go_loopg [7, 8, 9] (la + lb) (fun m v x y wr => ∃ i j : Nat, x = .int .i64 i ∧ y = .int .i64 j ∧ i ≤ la ∧ j ≤ lb ∧ la + lb ≤ m + i + j ∧ ∃ l, Mv w1 wr v l ∧ D.mk (a.drop i) (b.drop j) l = Q ∧ Small (i + j) l)
  case atStart => exact ⟨0, 0, rfl, rfl, by omega, by omega, by omega, [], ⟨World.ownsRow_nil _ _ _ _, Below.refl _ _⟩, unhide hQ, by simp [Small]⟩
  case round =>
    obtain ⟨i, j, rfl, rfl, hi, hj, hm, l, h, hq, hsm⟩ := hrel
    replace hq := hide hq
    replace hsm := hide hsm
    have h' := fun n => h.drewN n
    by_cases hil : i < la
    · have hil1 : (i : Int) < la := by omega
      have hia : i < a.length := by have := unhide hla; omega
      by_cases hjl : j < lb
      · have hjl1 : (j : Int) < lb := by omega
        have hjb : j < b.length := by have := unhide hlb; omega
        by_cases hab : a[i] = b[j]
        · have hq2 := hide ((mk_keep_at hia hjb hab l).symm.trans (unhide hq))
          have hsm2 := hide ((unhide hsm).next (N := i + 1 + (j + 1)) (by omega) 1 (s := []) (by simp))
          have hia2 : i < (bs a).size := by omega
          have hjb2 : j < (bs b).size := by omega
          have hqq : ((((bs a)[i]'hia2).toNat : Int) == (((bs b)[j]'hjb2).toNat : Int)) = true := by
            rw [beq_iff_eq]; show (((a[i]'hia).toNat : Int) = ((b[j]'hjb).toNat : Int)); rw [hab]
          replace h' := hide h'
          clear hab h
          go_wp2_with fail
          go_quiet (fail)
          go_wp2_with fail
          refine (rmore_mv 1 [] (by simp) (by omega) (unhide hsm) ((unhide h') _)).mono ?_
          rintro e w2 ⟨v2, rfl, h2⟩
          go_wp2_with fail
          go_roundg (gk - 2)
          case measure => omega
          case rel => exact ⟨i + 1, j + 1, by go_num, by go_num, by omega, by omega, by omega, _, h2, unhide hq2, unhide hsm2⟩
        · have hjne : ((j : Int) == (lb : Int)) = false := by rw [beq_eq_false_iff_ne]; omega
          obtain ⟨hRi, hRi1, hv2, hv3⟩ := (unhide hT).cells h.bel hil hjl
          obtain ⟨Bi, hBi⟩ : ∃ x, w.heap.size + 1 + (la - i) = x := ⟨_, rfl⟩
          obtain ⟨Bj, hBj⟩ : ∃ x, w.heap.size + 1 + (la - (i + 1)) = x := ⟨_, rfl⟩
          rw [hBi] at hRi hv3
          rw [hBj] at hRi1 hv2
          have g1 : (i : Int) + 1 < (la : Int) + 1 := by omega
          have g1' : (i : Int) < (la : Int) + 1 := by omega
          have g2 : (j : Int) + 1 < (lb : Int) + 1 := by omega
          have g2' : (j : Int) < (lb : Int) + 1 := by omega
          have g3 : IntKind.i64.wrap ((i : Int) + 1) = (i : Int) + 1 := IntWalk.i64_in _ (by omega)
          have g4 : IntKind.i64.wrap ((j : Int) + 1) = (j : Int) + 1 := IntWalk.i64_in _ (by omega)
          have g5 : ((i : Int) + 1).toNat = i + 1 := by omega
          have g6 : ((j : Int) + 1).toNat = j + 1 := by omega
          have g7 : (0 : Int) ≤ (i : Int) + 1 := by omega
          have g8 : (0 : Int) ≤ (j : Int) + 1 := by omega
          by_cases hdle : dd a b (i + 1) j ≤ dd a b i (j + 1)
          · have hq2 := hide ((mk_cut_at hia hjb hab hdle l).symm.trans (unhide hq))
            have hsm2 := hide ((unhide hsm).next (N := i + 1 + j) (by omega) 2 (s := []) (by simp))
            have hdi : (dd a b (i + 1) j : Int) ≤ (dd a b i (j + 1) : Int) := by omega
            have hia2 : i < (bs a).size := by omega
            have hjb2 : j < (bs b).size := by omega
            have hqq : ((((bs a)[i]'hia2).toNat : Int) == (((bs b)[j]'hjb2).toNat : Int)) = false := by
              rw [beq_eq_false_iff_ne]; intro hx; exact hab (UInt8.toNat_inj.mp (by have h' : (((a[i]'hia).toNat : Int) = ((b[j]'hjb).toNat : Int)) := hx; omega))
            replace h' := hide h'
            clear hab hdle h hBi hBj
            generalize dd a b (i + 1) j = x at *
            generalize dd a b i (j + 1) = y at *
            go_wp2_with fail
            go_quiet (fail)
            go_wp2_with fail
            go_quiet (fail)
            go_wp2_with fail
            refine (rmore_mv 2 [] (by simp) (by omega) (unhide hsm) ((unhide h') _)).mono ?_
            rintro e w2 ⟨v2, rfl, h2⟩
            go_wp2_with fail
            go_roundg (gk - 1)
            case measure => omega
            case rel => exact ⟨i + 1, j, by go_num, by go_num, by omega, by omega, by omega, _, h2, unhide hq2, unhide hsm2⟩
          · have hq2 := hide ((mk_put_at hia hjb hab hdle l).symm.trans (unhide hq))
            have hsm2 := hide ((unhide hsm).next (N := i + (j + 1)) (by omega) 3 (s := [b[j]]) (by simp))
            have hx1 := hide (bs_extract1 hjb)
            have hdi : ¬ (dd a b (i + 1) j : Int) ≤ (dd a b i (j + 1) : Int) := by omega
            have hdf : decide ((dd a b (i + 1) j : Int) ≤ (dd a b i (j + 1) : Int)) = false := decide_eq_false hdi
            have hia2 : i < (bs a).size := by omega
            have hjb2 : j < (bs b).size := by omega
            have hqq : ((((bs a)[i]'hia2).toNat : Int) == (((bs b)[j]'hjb2).toNat : Int)) = false := by
              rw [beq_eq_false_iff_ne]; intro hx; exact hab (UInt8.toNat_inj.mp (by have h' : (((a[i]'hia).toNat : Int) = ((b[j]'hjb).toNat : Int)) := hx; omega))
            replace h' := hide h'
            clear hab hdle h hBi hBj
            generalize dd a b (i + 1) j = x at *
            generalize dd a b i (j + 1) = y at *
            go_wp2_with fail
            go_quiet (fail)
            go_wp2_with fail
            go_quiet (fail)
            go_wp2_with fail
            rw [unhide hx1]
            refine (rmore_mv 3 [b[j]] (by simp) (by omega) (unhide hsm) ((unhide h') _)).mono ?_
            rintro e w2 ⟨v2, rfl, h2⟩
            go_wp2_with fail
            go_roundg (gk - 1)
            case measure => omega
            case rel => exact ⟨i, j + 1, by go_num, by go_num, by omega, by omega, by omega, _, h2, unhide hq2, unhide hsm2⟩
      · obtain rfl : j = lb := by omega
        have hq2 := hide ((mk_cut_end (b := b) (j := j) hia (by have := unhide hlb; omega) l).symm.trans (unhide hq))
        have hsm2 := hide ((unhide hsm).next (N := i + 1 + j) (by omega) 2 (s := []) (by simp))
        replace h' := hide h'
        clear h hjl
        go_wp2_with fail
        go_quiet (fail)
        go_wp2_with fail
        go_quiet (fail)
        go_wp2_with fail
        refine (rmore_mv 2 [] (by simp) (by omega) (unhide hsm) ((unhide h') _)).mono ?_
        rintro e w2 ⟨v2, rfl, h2⟩
        go_wp2_with fail
        go_roundg (gk - 1)
        case measure => omega
        case rel => exact ⟨i + 1, j, by go_num, by go_num, by omega, by omega, by omega, _, h2, unhide hq2, unhide hsm2⟩
    · obtain rfl : i = la := by omega
      by_cases hjl : j < lb
      · have hjl1 : (j : Int) < lb := by omega
        have hjb : j < b.length := by have := unhide hlb; omega
        have hq2 := hide ((mk_put_end (a := a) (i := i) (by have := unhide hla; omega) hjb l).symm.trans (unhide hq))
        have hsm2 := hide ((unhide hsm).next (N := i + (j + 1)) (by omega) 3 (s := [b[j]]) (by simp))
        have hx1 := hide (bs_extract1 hjb)
        replace h' := hide h'
        clear h hil
        go_wp2_with fail
        go_quiet (fail)
        go_wp2_with fail
        go_quiet (fail)
        go_wp2_with fail
        rw [unhide hx1]
        refine (rmore_mv 3 [b[j]] (by simp) (by omega) (unhide hsm) ((unhide h') _)).mono ?_
        rintro e w2 ⟨v2, rfl, h2⟩
        go_wp2_with fail
        go_roundg (gk - 1)
        case measure => omega
        case rel => exact ⟨i, j + 1, by go_num, by go_num, by omega, by omega, by omega, _, h2, unhide hq2, unhide hsm2⟩
      · obtain rfl : j = lb := by omega
        have hq1 := (mk_end_at (a := a) (b := b) (i := i) (j := j) (by have := unhide hla; omega) (by have := unhide hlb; omega) l).symm.trans (unhide hq)
        subst hq1
        obtain ⟨A, c, rfl, _, _⟩ := own_form h.own
        clear hil hjl
        go_wp2_with fail
        go_ret2
        rw [unhide hQ]
        exact ⟨A, c, rfl, own_lower h.own (unhide hT).bel.size, bel_up (unhide hT).bel h.bel⟩

set_option maxRecDepth 100000 in
set_option maxHeartbeats 400000 in
theorem rmake_long (a b : List UInt8) (w : World) (ha : a.length ≤ 140737488355328) (hb : b.length ≤ 140737488355328) (h : 1000 < a.length ∨ 1000 < b.length) :
    Calls Try.prog 13 #[.string (bs a), .string (bs b)] w fun e w' => e = .returned (.tuple #[.slice none 0 0, .int .i64 3]) ∧ w = w' := by
  have hsa : (bs a).size = a.length := bs_size a
  have hsb : (bs b).size = b.length := bs_size b
  by_cases h1 : 1000 < a.length
  · have h1' : (1000 : Int) < a.length := by omega
    clear h h1
    go_enter Try.func13, Try.ntmps13
    go_wp2_with fail
    go_ret2
    exact ⟨rfl, rfl⟩
  · have h1' : ¬ (1000 : Int) < a.length := by omega
    have h2' : (1000 : Int) < b.length := by omega
    clear h h1
    go_enter Try.func13, Try.ntmps13
    go_wp2_with fail
    go_ret2
    exact ⟨rfl, rfl⟩

/-- the document's Make -/
theorem rmake_any (a b : List UInt8) (w : World) (ha : a.length ≤ 140737488355328) (hb : b.length ≤ 140737488355328) :
    Calls Try.prog 13 #[.string (bs a), .string (bs b)] w fun e w' => MRes w (D.make a b).1 (D.make a b).2 e w' := by
  unfold D.make
  by_cases h : 1000 < a.length ∨ 1000 < b.length
  · rw [if_pos h]
    refine (rmake_long a b w ha hb h).mono ?_
    rintro e w' ⟨rfl, rfl⟩
    exact ⟨none, 0, rfl, World.ownsRow_nil _ _ _ _, Below.refl _ _⟩
  · rw [if_neg h]
    exact rmake_ok a b _ _ w rfl rfl (by omega) (by omega)
end Go.Proofs.Ytakkjehmekekbaa
