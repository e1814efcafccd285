/- diff.Make, at every two texts. -/
import Derived.Test.YtakkjehmekekbaaAdd
namespace Go.Proofs.Ytakkjehmekekbaa
open Go.RowKit

theorem mk_end (acc : List D.Ed) : D.mk [] [] acc = acc := by rw [D.mk]
theorem mk_put0 (y : UInt8) (b : List UInt8) (acc : List D.Ed) : D.mk [] (y :: b) acc = D.mk [] b (D.more acc 3 [y]) := by rw [D.mk]
theorem mk_cut0 (x : UInt8) (a : List UInt8) (acc : List D.Ed) : D.mk (x :: a) [] acc = D.mk a [] (D.more acc 2 []) := by rw [D.mk]
theorem mk_keep {x y : UInt8} (h : x = y) (a b : List UInt8) (acc : List D.Ed) : D.mk (x :: a) (y :: b) acc = D.mk a b (D.more acc 1 []) := by rw [D.mk, if_pos h]
theorem mk_cut {x y : UInt8} (h : x ≠ y) {a b : List UInt8} (hd : D.dist a (y :: b) ≤ D.dist (x :: a) b) (acc : List D.Ed) : D.mk (x :: a) (y :: b) acc = D.mk a (y :: b) (D.more acc 2 []) := by rw [D.mk, if_neg h, if_pos hd]
theorem mk_put {x y : UInt8} (h : x ≠ y) {a b : List UInt8} (hd : ¬ D.dist a (y :: b) ≤ D.dist (x :: a) b) (acc : List D.Ed) : D.mk (x :: a) (y :: b) acc = D.mk (x :: a) b (D.more acc 3 [y]) := by rw [D.mk, if_neg h, if_neg hd]

theorem mk_keep_at {a b : List UInt8} {i j : Nat} (hi : i < a.length) (hj : j < b.length) (h : a[i] = b[j]) (l : List D.Ed) : D.mk (a.drop i) (b.drop j) l = D.mk (a.drop (i + 1)) (b.drop (j + 1)) (D.more l 1 []) := by
  rw [List.drop_eq_getElem_cons hi, List.drop_eq_getElem_cons hj, mk_keep h]
theorem mk_cut_at {a b : List UInt8} {i j : Nat} (hi : i < a.length) (hj : j < b.length) (h : a[i] ≠ b[j]) (hd : dd a b (i + 1) j ≤ dd a b i (j + 1)) (l : List D.Ed) : D.mk (a.drop i) (b.drop j) l = D.mk (a.drop (i + 1)) (b.drop j) (D.more l 2 []) := by
  unfold dd at hd
  rw [List.drop_eq_getElem_cons hi, List.drop_eq_getElem_cons hj] at hd ⊢
  exact mk_cut h hd l
theorem mk_put_at {a b : List UInt8} {i j : Nat} (hi : i < a.length) (hj : j < b.length) (h : a[i] ≠ b[j]) (hd : ¬ dd a b (i + 1) j ≤ dd a b i (j + 1)) (l : List D.Ed) : D.mk (a.drop i) (b.drop j) l = D.mk (a.drop i) (b.drop (j + 1)) (D.more l 3 [b[j]]) := by
  unfold dd at hd
  rw [List.drop_eq_getElem_cons hi, List.drop_eq_getElem_cons hj] at hd ⊢
  exact mk_put h hd l
theorem mk_cut_end {a b : List UInt8} {i j : Nat} (hi : i < a.length) (hj : b.length ≤ j) (l : List D.Ed) : D.mk (a.drop i) (b.drop j) l = D.mk (a.drop (i + 1)) (b.drop j) (D.more l 2 []) := by
  have hb : b.drop j = [] := List.drop_eq_nil_of_le hj
  rw [List.drop_eq_getElem_cons hi, hb, mk_cut0]
theorem mk_put_end {a b : List UInt8} {i j : Nat} (hi : a.length ≤ i) (hj : j < b.length) (l : List D.Ed) : D.mk (a.drop i) (b.drop j) l = D.mk (a.drop i) (b.drop (j + 1)) (D.more l 3 [b[j]]) := by
  have ha : a.drop i = [] := List.drop_eq_nil_of_le hi
  rw [List.drop_eq_getElem_cons hj, ha, mk_put0]
theorem mk_end_at {a b : List UInt8} {i j : Nat} (hi : a.length ≤ i) (hj : b.length ≤ j) (l : List D.Ed) : D.mk (a.drop i) (b.drop j) l = l := by
  have ha : a.drop i = [] := List.drop_eq_nil_of_le hi
  have hb : b.drop j = [] := List.drop_eq_nil_of_le hj
  rw [ha, hb, mk_end]
theorem Small.next {M N : Nat} {l : List D.Ed} (h : Small M l) (hN : M + 1 ≤ N) (k : Int) {s : List UInt8} (hs : s.length ≤ 1) : Small N (D.more l k s) := by
  obtain ⟨p, q⟩ := h.more k hs
  exact ⟨by omega, fun e he => by have := q e he; omega⟩
theorem bs_extract (s : ByteArray) (x n : Nat) : s.extract x (x + n) = bs ((s.data.toList.drop x).take n) := by
  apply ByteArray.ext
  apply Array.ext'
  simp [bs, ByteArray.data_extract, List.take_drop]
theorem bs_extract1 {b : List UInt8} {j : Nat} (h : j < b.length) : (bs b).extract j (j + 1) = bs [b[j]] := by
  rw [bs_extract, bs_data, List.drop_eq_getElem_cons h]; rfl
theorem bs_nil : bs [] = ⟨#[]⟩ := rfl

/-- what holds at the loop's head -/
def KRel (w ws : World) (R G gl : Nat) (a b : List UInt8) (Q : List D.Ed) (i j : Nat) (wr : World) : Prop :=
  ∃ v l, Lv w ws (fun k => k = R ∨ k = G) wr gl v l ∧ D.mk (a.drop i) (b.drop j) l = Q ∧ Small (i + j) l

/-- what comes of the call -/
def MRes (w : World) (q : List D.Ed) (z : Nat) (e : Ending) (w' : World) : Prop :=
  ∃ A c, e = .returned (.tuple #[.slice A q.length c, .int .i64 z]) ∧ w'.ownsRow w.heap.size 32 3 (.slice A q.length c) q.length (ecs q) ∧ Below w.heap.size w w'

set_option maxRecDepth 100000 in
set_option maxHeartbeats 4000000 in
theorem make_ok (a b : List UInt8) (la lb : Nat) (w : World) (hla : a.length = la) (hlb : b.length = lb) (ha : la ≤ 1000) (hb : lb ≤ 1000) :
    Calls Try.prog 12 #[.string (bs a), .string (bs b)] w fun e w' => MRes w (D.mk a b []) 0 e w' := by
  have hsa : (bs a).size = la := by rw [bs_size, hla]
  have hsb : (bs b).size = lb := by rw [bs_size, hlb]
  have ha' : ¬ (1000 : Int) < la := by omega
  have hb' : ¬ (1000 : Int) < lb := by omega
  have hcs := hide (costs_any a b la lb ((la + 1) * (lb + 1)) w hla hlb rfl ha hb)
  replace hla := hide hla
  replace hlb := hide hlb
  go_enter Try.func12, Try.ntmps12
  go_wp2_with fail
  refine (unhide hcs).mono ?_
  rintro e w1 ⟨R, G, rfl, hR, hG, hRow, ⟨f, hGrow, hdd⟩, hbel⟩
  have hL : Lv w w1 (fun k => k = R ∨ k = G) (w1.alloc (.cells #[.slice none 0 0] 22)) w1.heap.size (.slice none 0 0) [] := by
    refine ⟨Blk.new w1 22 _, World.ownsRow_nil _ _ _ _, by simp [Value.ownBlock], hbel.alloc hbel.size _, hbel.size, fun k hk => ?_⟩
    have hlt : k < w1.heap.size := by rcases hk with rfl | rfl; exact hRow.lt; exact hGrow.lt
    exact ⟨by simp; omega, by omega, by simp [Value.ownBlock], Below.heap_alloc _ _ _ hlt⟩
  have HK := hide (show KRel w w1 R G w1.heap.size a b (D.mk a b []) 0 0 _ from ⟨_, [], hL, by simp, by simp, by simp⟩)
  have hsz := hbel.size
  clear hL hcs
  generalize hQ : D.mk a b [] = Q at *
  replace hQ := hide hQ
  replace hdd := hide hdd
  go_wp2_with fail
  go_loopg [9, 10] (la + lb) (fun m x y wr => ∃ i j : Nat, x = .int .i64 i ∧ y = .int .i64 j ∧ i ≤ la ∧ j ≤ lb ∧ la + lb ≤ m + i + j ∧ KRel w w1 R G w1.heap.size a b Q i j wr)
  case atStart => exact ⟨0, 0, rfl, rfl, by omega, by omega, by omega, unhide HK⟩
  case round =>
    clear HK
    obtain ⟨i, j, rfl, rfl, hi, hj, hm, v, l, h, hq, hsm⟩ := hrel
    replace hq := hide hq
    replace hsm := hide hsm
    have hR1 : wr.rowIs R 53 (la + 1) (fun i => .slice (some ⟨G, i * (lb + 1), none⟩) (lb + 1) (lb + 1)) := hRow.of_block (h.kp R (.inl rfl)).2.2.2
    have hG1 : wr.rowIs G 52 ((la + 1) * (lb + 1)) f := hGrow.of_block (h.kp G (.inr rfl)).2.2.2
    have c0 := h.c0
    have hvs := own_form h.own
    have h' := fun n => h.drewN n
    by_cases hil : i < la
    · have hil1 : (i : Int) < la := by omega
      have hia : i < a.length := by have := unhide hla; omega
      by_cases hjl : j < lb
      · have hjl1 : (j : Int) < lb := by omega
        have hjb : j < b.length := by have := unhide hlb; omega
        by_cases hab : a[i] = b[j]
        · have hq2 := hide ((mk_keep_at hia hjb hab l).symm.trans (unhide hq))
          have hsm2 := hide ((unhide hsm).next (N := i + 1 + (j + 1)) (by omega) 1 (s := []) (by simp))
          have hia2 : i < (bs a).size := by omega
          have hjb2 : j < (bs b).size := by omega
          have hqq : ((((bs a)[i]'hia2).toNat : Int) == (((bs b)[j]'hjb2).toNat : Int)) = true := by
            rw [beq_iff_eq]; show (((a[i]'hia).toNat : Int) = ((b[j]'hjb).toNat : Int)); rw [hab]
          replace h' := hide h'
          clear hR1 hG1 hab hvs h
          go_wp2_with fail
          go_quiet (fail)
          go_wp2_with fail
          refine (add_any 1 [] (by simp) (by omega) (unhide hsm) ((unhide h') _)).mono ?_
          rintro e w2 ⟨rfl, v2, h2⟩
          go_wp2_with fail
          go_roundg (gk - 2)
          case measure => omega
          case rel => exact ⟨i + 1, j + 1, by go_num, by go_num, by omega, by omega, by omega, v2, _, h2, unhide hq2, unhide hsm2⟩
        · have hjne : ((j : Int) == (lb : Int)) = false := by rw [beq_eq_false_iff_ne]; omega
          obtain ⟨P0, hP0⟩ : ∃ x, i * (lb + 1) = x := ⟨_, rfl⟩
          obtain ⟨P1, hP1⟩ : ∃ x, (i + 1) * (lb + 1) = x := ⟨_, rfl⟩
          have hle1 := Nat.mul_le_mul_right (lb + 1) (show i + 1 + 1 ≤ la + 1 by omega)
          rw [Nat.succ_mul, hP1] at hle1
          have hle0 : P0 + (lb + 1) = P1 := by rw [← hP0, ← hP1, Nat.succ_mul]
          have hRi : wr.cell? ⟨R, i, none⟩ = some (.slice (some ⟨G, P0, none⟩) (lb + 1) (lb + 1)) := by rw [hR1.cell (by omega), hP0]
          have hRi1 : wr.cell? ⟨R, i + 1, none⟩ = some (.slice (some ⟨G, P1, none⟩) (lb + 1) (lb + 1)) := by rw [hR1.cell (by omega), hP1]
          have hv2 : wr.cell? ⟨G, P1 + j, none⟩ = some (.int .i16 (dd a b (i + 1) j)) := by rw [hG1.cell (by omega), ← hP1, (unhide hdd) _ _ (by omega) (by omega)]
          have hv3 : wr.cell? ⟨G, P0 + (j + 1), none⟩ = some (.int .i16 (dd a b i (j + 1))) := by rw [hG1.cell (by omega), ← hP0, (unhide hdd) _ _ (by omega) (by omega)]
          have g1 : (i : Int) + 1 < (la : Int) + 1 := by omega
          have g1' : (i : Int) < (la : Int) + 1 := by omega
          have g2 : (j : Int) + 1 < (lb : Int) + 1 := by omega
          have g2' : (j : Int) < (lb : Int) + 1 := by omega
          have g3 : IntKind.i64.wrap ((i : Int) + 1) = (i : Int) + 1 := IntWalk.i64_in _ (by omega)
          have g4 : IntKind.i64.wrap ((j : Int) + 1) = (j : Int) + 1 := IntWalk.i64_in _ (by omega)
          have g5 : ((i : Int) + 1).toNat = i + 1 := by omega
          have g6 : ((j : Int) + 1).toNat = j + 1 := by omega
          have g7 : (0 : Int) ≤ (i : Int) + 1 := by omega
          have g8 : (0 : Int) ≤ (j : Int) + 1 := by omega
          by_cases hdle : dd a b (i + 1) j ≤ dd a b i (j + 1)
          · have hq2 := hide ((mk_cut_at hia hjb hab hdle l).symm.trans (unhide hq))
            have hsm2 := hide ((unhide hsm).next (N := i + 1 + j) (by omega) 2 (s := []) (by simp))
            have hdi : (dd a b (i + 1) j : Int) ≤ (dd a b i (j + 1) : Int) := by omega
            have hia2 : i < (bs a).size := by omega
            have hjb2 : j < (bs b).size := by omega
            have hqq : ((((bs a)[i]'hia2).toNat : Int) == (((bs b)[j]'hjb2).toNat : Int)) = false := by
              rw [beq_eq_false_iff_ne]; intro hx; exact hab (UInt8.toNat_inj.mp (by have h' : (((a[i]'hia).toNat : Int) = ((b[j]'hjb).toNat : Int)) := hx; omega))
            replace h' := hide h'
            clear hR1 hG1 hab hvs hdle hP0 hP1 hle0 hle1 h
            generalize dd a b (i + 1) j = x at *
            generalize dd a b i (j + 1) = y at *
            go_wp2_with fail
            go_quiet (fail)
            go_wp2_with fail
            go_quiet (fail)
            go_wp2_with fail
            refine (add_any 2 [] (by simp) (by omega) (unhide hsm) ((unhide h') _)).mono ?_
            rintro e w2 ⟨rfl, v2, h2⟩
            go_wp2_with fail
            go_roundg (gk - 1)
            case measure => omega
            case rel => exact ⟨i + 1, j, by go_num, by go_num, by omega, by omega, by omega, v2, _, h2, unhide hq2, unhide hsm2⟩
          · have hq2 := hide ((mk_put_at hia hjb hab hdle l).symm.trans (unhide hq))
            have hsm2 := hide ((unhide hsm).next (N := i + (j + 1)) (by omega) 3 (s := [b[j]]) (by simp))
            have hx1 := hide (bs_extract1 hjb)
            have hdi : ¬ (dd a b (i + 1) j : Int) ≤ (dd a b i (j + 1) : Int) := by omega
            have hdf : decide ((dd a b (i + 1) j : Int) ≤ (dd a b i (j + 1) : Int)) = false := decide_eq_false hdi
            have hia2 : i < (bs a).size := by omega
            have hjb2 : j < (bs b).size := by omega
            have hqq : ((((bs a)[i]'hia2).toNat : Int) == (((bs b)[j]'hjb2).toNat : Int)) = false := by
              rw [beq_eq_false_iff_ne]; intro hx; exact hab (UInt8.toNat_inj.mp (by have h' : (((a[i]'hia).toNat : Int) = ((b[j]'hjb).toNat : Int)) := hx; omega))
            replace h' := hide h'
            clear hR1 hG1 hab hvs hdle hP0 hP1 hle0 hle1 h
            generalize dd a b (i + 1) j = x at *
            generalize dd a b i (j + 1) = y at *
            go_wp2_with fail
            go_quiet (fail)
            go_wp2_with fail
            go_quiet (fail)
            go_wp2_with fail
            rw [unhide hx1]
            refine (add_any 3 [b[j]] (by simp) (by omega) (unhide hsm) ((unhide h') _)).mono ?_
            rintro e w2 ⟨rfl, v2, h2⟩
            go_wp2_with fail
            go_roundg (gk - 1)
            case measure => omega
            case rel => exact ⟨i, j + 1, by go_num, by go_num, by omega, by omega, by omega, v2, _, h2, unhide hq2, unhide hsm2⟩
      · obtain rfl : j = lb := by omega
        have hq2 := hide ((mk_cut_end (b := b) (j := j) hia (by have := unhide hlb; omega) l).symm.trans (unhide hq))
        have hsm2 := hide ((unhide hsm).next (N := i + 1 + j) (by omega) 2 (s := []) (by simp))
        replace h' := hide h'
        clear hR1 hG1 hvs h hjl
        go_wp2_with fail
        go_quiet (fail)
        go_wp2_with fail
        go_quiet (fail)
        go_wp2_with fail
        refine (add_any 2 [] (by simp) (by omega) (unhide hsm) ((unhide h') _)).mono ?_
        rintro e w2 ⟨rfl, v2, h2⟩
        go_wp2_with fail
        go_roundg (gk - 1)
        case measure => omega
        case rel => exact ⟨i + 1, j, by go_num, by go_num, by omega, by omega, by omega, v2, _, h2, unhide hq2, unhide hsm2⟩
    · obtain rfl : i = la := by omega
      by_cases hjl : j < lb
      · have hjl1 : (j : Int) < lb := by omega
        have hjb : j < b.length := by have := unhide hlb; omega
        have hq2 := hide ((mk_put_end (a := a) (i := i) (by have := unhide hla; omega) hjb l).symm.trans (unhide hq))
        have hsm2 := hide ((unhide hsm).next (N := i + (j + 1)) (by omega) 3 (s := [b[j]]) (by simp))
        have hx1 := hide (bs_extract1 hjb)
        replace h' := hide h'
        clear hR1 hG1 hvs h hil
        go_wp2_with fail
        go_quiet (fail)
        go_wp2_with fail
        go_quiet (fail)
        go_wp2_with fail
        rw [unhide hx1]
        refine (add_any 3 [b[j]] (by simp) (by omega) (unhide hsm) ((unhide h') _)).mono ?_
        rintro e w2 ⟨rfl, v2, h2⟩
        go_wp2_with fail
        go_roundg (gk - 1)
        case measure => omega
        case rel => exact ⟨i, j + 1, by go_num, by go_num, by omega, by omega, by omega, v2, _, h2, unhide hq2, unhide hsm2⟩
      · obtain rfl : j = lb := by omega
        have hq1 := (mk_end_at (a := a) (b := b) (i := i) (j := j) (by have := unhide hla; omega) (by have := unhide hlb; omega) l).symm.trans (unhide hq)
        subst hq1
        obtain ⟨A, c, rfl, _, _⟩ := own_form h.own
        clear hR1 hG1 hil hjl
        go_wp2_with fail
        go_ret2
        rw [unhide hQ]
        exact ⟨A, c, rfl, h.own, h.bel⟩

set_option maxRecDepth 100000 in
set_option maxHeartbeats 400000 in
theorem make_huge (a b : List UInt8) (w : World) (ha : a.length ≤ 562949953421312) (hb : b.length ≤ 562949953421312) (h : 1000 < a.length ∨ 1000 < b.length) :
    Calls Try.prog 12 #[.string (bs a), .string (bs b)] w fun e w' => e = .returned (.tuple #[.slice none 0 0, .int .i64 3]) ∧ w = w' := by
  have hsa : (bs a).size = a.length := bs_size a
  have hsb : (bs b).size = b.length := bs_size b
  by_cases h1 : 1000 < a.length
  · have h1' : (1000 : Int) < a.length := by omega
    clear h h1
    go_enter Try.func12, Try.ntmps12
    go_wp2_with fail
    go_ret2
    exact ⟨rfl, rfl⟩
  · have h1' : ¬ (1000 : Int) < a.length := by omega
    have h2' : (1000 : Int) < b.length := by omega
    clear h h1
    go_enter Try.func12, Try.ntmps12
    go_wp2_with fail
    go_ret2
    exact ⟨rfl, rfl⟩

theorem make_long (a b : List UInt8) (w : World) (ha : a.length ≤ 140737488355328) (hb : b.length ≤ 140737488355328) (h : 1000 < a.length ∨ 1000 < b.length) :
    Calls Try.prog 12 #[.string (bs a), .string (bs b)] w fun e w' => e = .returned (.tuple #[.slice none 0 0, .int .i64 3]) ∧ w = w' :=
  make_huge a b w (by omega) (by omega) h

/-- diff.Make: what the document says -/
theorem make_any (a b : List UInt8) (w : World) (ha : a.length ≤ 140737488355328) (hb : b.length ≤ 140737488355328) :
    Calls Try.prog 12 #[.string (bs a), .string (bs b)] w fun e w' => MRes w (D.make a b).1 (D.make a b).2 e w' := by
  unfold D.make
  by_cases h : 1000 < a.length ∨ 1000 < b.length
  · rw [if_pos h]
    refine (make_long a b w ha hb h).mono ?_
    rintro e w' ⟨rfl, rfl⟩
    exact ⟨none, 0, rfl, World.ownsRow_nil _ _ _ _, Below.refl _ _⟩
  · rw [if_neg h]
    exact make_ok a b _ _ w rfl rfl (by omega) (by omega)
end Go.Proofs.Ytakkjehmekekbaa
