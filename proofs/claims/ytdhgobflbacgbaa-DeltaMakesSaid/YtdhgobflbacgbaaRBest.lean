/- The document's runs and Best: the best places, at every base and target of at most 4096 bytes. -/
import Derived.Test.YtdhgobflbacgbaaMatches
import Derived.Test.YtdhgobflbacgbaaRNum
import Derived.Test.YtdhgobflbacgbaaDeltaLaws
namespace Go.Proofs.Ytdhgobflbacgbaa
open Go.RowKit

theorem byte_eq {a b : List UInt8} {i j : Nat} (hi : i < (bs a).size) (hj : j < (bs b).size) (hi' : i < a.length) (hj' : j < b.length) (h : a[i] = b[j]) : ((((bs a)[i]'hi).toNat : Int) == (((bs b)[j]'hj).toNat : Int)) = true := by
  rw [beq_iff_eq]; show (((a[i]'hi').toNat : Int) = ((b[j]'hj').toNat : Int)); rw [h]
theorem byte_ne {a b : List UInt8} {i j : Nat} (hi : i < (bs a).size) (hj : j < (bs b).size) (hi' : i < a.length) (hj' : j < b.length) (h : a[i] ≠ b[j]) : ((((bs a)[i]'hi).toNat : Int) == (((bs b)[j]'hj).toNat : Int)) = false := by
  rw [beq_eq_false_iff_ne]; intro hx; exact h (UInt8.toNat_inj.mp (by have h' : (((a[i]'hi').toNat : Int) = ((b[j]'hj').toNat : Int)) := hx; omega))

/-- what the loop of runs has laid -/
def URel (w : World) (base t : List UInt8) (nb i k : Nat) (wr : World) : Prop :=
  wr.rowIs w.heap.size 3 (nb + 1) (fun j => if j < k then rc base (t.drop i) j else .int .i64 0) ∧ Below w.heap.size w wr
theorem URel.same {w wr : World} {base t : List UInt8} {nb i k : Nat} {a b : UInt8} (ha : base.drop k = a :: base.drop (k + 1)) (hb : t.drop i = b :: t.drop (i + 1)) (hab : a = b) (h : URel w base t nb i k wr) (n : Nat) :
    URel w base t nb i (k + 1) ((wr.drewN n).setCell ⟨w.heap.size, k, none⟩ (.int .i64 ((E.run (base.drop (k + 1)) (t.drop (i + 1)) : Nat) + 1 : Int))) := by
  obtain ⟨hY, hbel⟩ := h
  have hr : E.run (base.drop k) (t.drop i) = E.run (base.drop (k + 1)) (t.drop (i + 1)) + 1 := by rw [ha, hb, E.run_same hab]
  refine ⟨((rowIs_drewN hY n).set k _).congr (fun j _ => ?_), (below_drewN hbel n).setCell (p := ⟨w.heap.size, k, none⟩) (Nat.le_refl _) _⟩
  by_cases h1 : j = k
  · subst h1; rw [if_pos rfl, if_pos (by omega)]; unfold rc; rw [hr]; rfl
  · rw [if_neg h1]
    by_cases h2 : j < k
    · rw [if_pos h2, if_pos (by omega)]
    · rw [if_neg h2, if_neg (by omega)]
theorem URel.part {w wr : World} {base t : List UInt8} {nb i k : Nat} {a b : UInt8} (ha : base.drop k = a :: base.drop (k + 1)) (hb : t.drop i = b :: t.drop (i + 1)) (hab : a ≠ b) (h : URel w base t nb i k wr) (n : Nat) :
    URel w base t nb i (k + 1) (wr.drewN n) := by
  obtain ⟨hY, hbel⟩ := h
  have hr : E.run (base.drop k) (t.drop i) = 0 := by rw [ha, hb, E.run_other hab]
  refine ⟨(rowIs_drewN hY n).congr (fun j _ => ?_), below_drewN hbel n⟩
  by_cases h1 : j < k
  · rw [if_pos h1, if_pos (by omega)]
  · rw [if_neg h1]
    by_cases h2 : j < k + 1
    · obtain rfl : j = k := by omega
      rw [if_pos h2]; unfold rc; rw [hr]; rfl
    · rw [if_neg h2]

set_option maxRecDepth 100000 in
set_option maxHeartbeats 2000000 in
theorem runs_any (base t : List UInt8) (nb nt i x : Nat) (w : World) (hnb : base.length = nb) (hnt : t.length = nt) (hb : nb ≤ 4096) (ht : nt ≤ 4096) (hi : i < nt) (hX : w.rowIs x 3 (nb + 1) (rc base (t.drop (i + 1)))) :
    Calls Try.prog 48 #[.string (bs base), .string (bs t), .int .i64 i, .slice (some ⟨x, 0, none⟩) (nb + 1) (nb + 1)] w fun e w' => e = .returned (.slice (some ⟨w.heap.size, 0, none⟩) (nb + 1) (nb + 1)) ∧ w'.rowIs w.heap.size 3 (nb + 1) (rc base (t.drop i)) ∧ Below w.heap.size w w' := by
  have hsb : (bs base).size = nb := by rw [bs_size, hnb]
  have hst : (bs t).size = nt := by rw [bs_size, hnt]
  have m76 := fun w0 => mk_rowI (nb + 1) (by omega) w0
  rw [show (((nb + 1 : Nat)) : Int) = (nb : Int) + 1 from by omega] at m76
  have e1 : IntKind.i64.wrap ((nb : Int) + 1) = (nb : Int) + 1 := IntWalk.i64_in _ (by omega)
  have HU := hide (show URel w base t nb i 0 (w.alloc (.cells (madeCells #[.int .i64 0] (nb + 1)) 3)) from ⟨(World.rowIs_made w (.int .i64 0) (nb + 1) 3).congr (fun j _ => by rw [if_neg (by omega)]), (Below.refl _ _).alloc (Nat.le_refl _) _⟩)
  have hxlt := hX.lt
  replace hX := hide hX
  replace hnb := hide hnb
  replace hnt := hide hnt
  go_enter Try.func48, Try.ntmps48
  go_wp2_with fail
  clear m76
  go_loopg [10] nb (fun m k wr => ∃ kk : Nat, k = .int .i64 kk ∧ nb ≤ m + kk ∧ kk ≤ nb ∧ URel w base t nb i kk wr)
  case atStart => exact ⟨0, rfl, by omega, by omega, unhide HU⟩
  case round =>
    clear HU
    obtain ⟨k, rfl, hm, hk, hU⟩ := hrel
    by_cases hlt : k < nb
    · have hlt' : (k : Int) < nb := by omega
      have hi' : (i : Int) < nt := by omega
      have hkl : k < base.length := by have := unhide hnb; omega
      have hil : i < t.length := by have := unhide hnt; omega
      have hks : k < (bs base).size := by omega
      have his : i < (bs t).size := by omega
      have hdb := hide (show base.drop k = base[k] :: base.drop (k + 1) from List.drop_eq_getElem_cons hkl)
      have hdt := hide (show t.drop i = t[i] :: t.drop (i + 1) from List.drop_eq_getElem_cons hil)
      have hXr : wr.rowIs x 3 (nb + 1) (rc base (t.drop (i + 1))) := (unhide hX).of_block (hU.2.block x hxlt)
      have hXc : wr.cell? ⟨x, k + 1, none⟩ = some (.int .i64 (E.run (base.drop (k + 1)) (t.drop (i + 1)))) := hXr.cell (by omega)
      have hYc := hU.1.cell (i := k) (by omega)
      have hYf := hU.1.frozen k
      have hrl := (E.run_le (base.drop (k + 1)) (t.drop (i + 1))).1
      have hrl2 : E.run (base.drop (k + 1)) (t.drop (i + 1)) ≤ 4096 := by have := unhide hnb; simp at hrl; omega
      have hk2 : (k : Int) + 1 < (nb : Int) + 1 := by omega
      have hne : ¬ w.heap.size = x := by omega
      have hne' : ¬ x = w.heap.size := by omega
      rw [if_neg (by omega)] at hYc
      by_cases hab : base[k] = t[i]
      · have hq := byte_eq hks his hkl hil hab
        have HM := hide (fun n => hU.same (unhide hdb) (unhide hdt) hab n)
        clear hU hXr hab hrl
        generalize E.run (base.drop (k + 1)) (t.drop (i + 1)) = r at *
        go_wp2_with fail
        go_quiet (fail)
        go_wp2_with fail
        go_roundg (gk - 1)
        case measure => omega
        case rel => exact ⟨k + 1, by go_num, by omega, by omega, (unhide HM) _⟩
      · have hq := byte_ne hks his hkl hil hab
        have HP := hide (fun n => hU.part (unhide hdb) (unhide hdt) hab n)
        clear hU hXr hab hrl hXc hYc hYf
        go_wp2_with fail
        go_quiet (fail)
        go_wp2_with fail
        go_roundg (gk - 1)
        case measure => omega
        case rel => exact ⟨k + 1, by go_num, by omega, by omega, (unhide HP) _⟩
    · obtain rfl : k = nb := by omega
      have HF := hide (show wr.rowIs w.heap.size 3 (k + 1) (rc base (t.drop i)) ∧ Below w.heap.size w wr from ⟨hU.1.congr (fun j hj => by
        by_cases h : j < k
        · rw [if_pos h]
        · rw [if_neg h]; unfold rc; rw [List.drop_eq_nil_of_le (by have := unhide hnb; omega), E.run_nil_left]; rfl), hU.2⟩)
      clear hU
      go_wp2_with fail
      go_ret
      exact ⟨rfl, unhide HF⟩

theorem comb_start (t a : List UInt8) (k : Nat) : E.comb (0, 0) (E.bst t k a) = E.bst t k a := by
  unfold E.comb
  rcases E.bst_ok t a k with ⟨_, h⟩ | ⟨_, _, _, h⟩
  · rw [h]; rfl
  · rw [if_pos (by simp only; omega)]
theorem comb_nil (t : List UInt8) (k : Nat) (c : Nat × Nat) : E.comb c (E.bst t k []) = c := by
  unfold E.comb; rw [show E.bst t k [] = (0, 0) from rfl, if_neg (by simp)]

/-- the places, and the sizes, from m on; that of place i, if it is reckoned now -/
def pc (base t : List UInt8) (m c : Nat) : Value := .int .i64 (if m ≤ c then (E.bst (t.drop c) 0 base).1 else 0 : Nat)
def sc (base t : List UInt8) (m c : Nat) : Value := .int .i64 (if m ≤ c then (E.bst (t.drop c) 0 base).2 else 0 : Nat)
/-- what holds at the outer loop's head: m places are left -/
structure BRel (w : World) (base t : List UInt8) (nb nt m : Nat) (row : Value) (wr : World) : Prop where
  le : m ≤ nt
  a : wr.rowIs w.heap.size 3 nt (pc base t m)
  s : wr.rowIs (w.heap.size + 1) 3 nt (sc base t m)
  r : ∃ x, row = .slice (some ⟨x, 0, none⟩) (nb + 1) (nb + 1) ∧ w.heap.size + 1 < x ∧ wr.rowIs x 3 (nb + 1) (rc base (t.drop m))
  bel : Below w.heap.size w wr
/-- .. and at the inner loop's head: k places of the base are done -/
structure JRel (w : World) (base t : List UInt8) (nb nt i x k : Nat) (cur : Nat × Nat) (wr : World) : Prop where
  a : wr.rowIs w.heap.size 3 nt (fun c => if c = i then .int .i64 cur.1 else pc base t (i + 1) c)
  s : wr.rowIs (w.heap.size + 1) 3 nt (fun c => if c = i then .int .i64 cur.2 else sc base t (i + 1) c)
  lo : w.heap.size + 1 < x
  r : wr.rowIs x 3 (nb + 1) (rc base (t.drop i))
  cb : E.comb cur (E.bst (t.drop i) k (base.drop k)) = E.bst (t.drop i) 0 base
  bel : Below w.heap.size w wr
section
variable {w wr w2 : World} {base t : List UInt8} {nb nt i x k : Nat} {cur : Nat × Nat} {row : Value}
theorem BRel.enter (h : BRel w base t nb nt (i + 1) row wr) (hR : w2.rowIs wr.heap.size 3 (nb + 1) (rc base (t.drop i))) (hb : Below wr.heap.size wr w2) : JRel w base t nb nt i wr.heap.size 0 (0, 0) w2 := by
  obtain ⟨hle, ha, hs, ⟨y, _, hy, hr⟩, hbel⟩ := h
  have h1 : w.heap.size + 1 < wr.heap.size := hs.lt
  refine ⟨(ha.of_block (hb.block _ ha.lt)).congr (fun c _ => ?_), (hs.of_block (hb.block _ hs.lt)).congr (fun c _ => ?_), h1, hR, ?_, hbel.trans (hb.mono hbel.size)⟩
  · by_cases hc : c = i
    · subst hc; rw [if_pos rfl]; unfold pc; rw [if_neg (by omega)]
    · rw [if_neg hc]
  · by_cases hc : c = i
    · subst hc; rw [if_pos rfl]; unfold sc; rw [if_neg (by omega)]
    · rw [if_neg hc]
  · rw [List.drop_zero]; exact comb_start _ _ _
theorem JRel.leave (h : JRel w base t nb nt i x nb cur wr) (hnb : base.length = nb) (hi : i ≤ nt) : BRel w base t nb nt i (.slice (some ⟨x, 0, none⟩) (nb + 1) (nb + 1)) wr := by
  obtain ⟨ha, hs, hx, hr, hcb, hbel⟩ := h
  rw [List.drop_eq_nil_of_le (show base.length ≤ nb by omega), comb_nil] at hcb
  subst hcb
  refine ⟨hi, ha.congr (fun c _ => ?_), hs.congr (fun c _ => ?_), ⟨x, rfl, hx, hr⟩, hbel⟩
  · by_cases hc : c = i
    · subst hc; rw [if_pos rfl]; unfold pc; rw [if_pos (Nat.le_refl _)]
    · rw [if_neg hc]; unfold pc
      by_cases h1 : i + 1 ≤ c
      · rw [if_pos h1, if_pos (show i ≤ c by omega)]
      · rw [if_neg h1, if_neg (show ¬ i ≤ c by omega)]
  · by_cases hc : c = i
    · subst hc; rw [if_pos rfl]; unfold sc; rw [if_pos (Nat.le_refl _)]
    · rw [if_neg hc]; unfold sc
      by_cases h1 : i + 1 ≤ c
      · rw [if_pos h1, if_pos (show i ≤ c by omega)]
      · rw [if_neg h1, if_neg (show ¬ i ≤ c by omega)]
theorem JRel.stay (h : JRel w base t nb nt i x k cur wr) (hk : k < base.length) (hle : E.run (base.drop k) (t.drop i) ≤ cur.2) (n : Nat) : JRel w base t nb nt i x (k + 1) cur (wr.drewN n) := by
  obtain ⟨ha, hs, hx, hr, hcb, hbel⟩ := h
  rw [List.drop_eq_getElem_cons hk, E.comb_step, ← List.drop_eq_getElem_cons hk, if_neg (by omega)] at hcb
  exact ⟨rowIs_drewN ha n, rowIs_drewN hs n, hx, rowIs_drewN hr n, hcb, below_drewN hbel n⟩
theorem JRel.take (h : JRel w base t nb nt i x k cur wr) (hk : k < base.length) (hlt : cur.2 < E.run (base.drop k) (t.drop i)) (n : Nat) :
    JRel w base t nb nt i x (k + 1) (k, E.run (base.drop k) (t.drop i)) (((wr.drewN n).setCell ⟨w.heap.size, i, none⟩ (.int .i64 k)).setCell ⟨w.heap.size + 1, i, none⟩ (.int .i64 (E.run (base.drop k) (t.drop i)))) := by
  obtain ⟨ha, hs, hx, hr, hcb, hbel⟩ := h
  rw [List.drop_eq_getElem_cons hk, E.comb_step, ← List.drop_eq_getElem_cons hk, if_pos hlt] at hcb
  refine ⟨(((rowIs_drewN ha n).set i _).setOther (by show w.heap.size ≠ w.heap.size + 1; omega) _).congr (fun c _ => ?_), (((rowIs_drewN hs n).setOther (by show w.heap.size + 1 ≠ w.heap.size; omega) _).set i _).congr (fun c _ => ?_), hx,
    ((rowIs_drewN hr n).setOther (by show x ≠ w.heap.size; omega) _).setOther (by show x ≠ w.heap.size + 1; omega) _, hcb, ((below_drewN hbel n).setCell (p := ⟨w.heap.size, i, none⟩) (Nat.le_refl _) _).setCell (p := ⟨w.heap.size + 1, i, none⟩) (by show w.heap.size ≤ w.heap.size + 1; omega) _⟩
  · by_cases hc : c = i
    · rw [if_pos hc, if_pos hc]
    · rw [if_neg hc, if_neg hc, if_neg hc]
  · by_cases hc : c = i
    · rw [if_pos hc, if_pos hc]
    · rw [if_neg hc, if_neg hc, if_neg hc]
theorem BRel.start (w : World) (base t : List UInt8) (nb nt : Nat) (hnt : t.length = nt) :
    BRel w base t nb nt nt (.slice (some ⟨w.heap.size + 1 + 1, 0, none⟩) (nb + 1) (nb + 1)) (((w.alloc (.cells (madeCells #[.int .i64 0] nt) 3)).alloc (.cells (madeCells #[.int .i64 0] nt) 3)).alloc (.cells (madeCells #[.int .i64 0] (nb + 1)) 3)) := by
  have h0 := World.rowIs_made w (.int .i64 0) nt 3
  have hb0 : Below w.heap.size w (w.alloc (.cells (madeCells #[.int .i64 0] nt) 3)) := (Below.refl _ _).alloc (Nat.le_refl _) _
  have hs0 : (w.alloc (.cells (madeCells #[.int .i64 0] nt) 3)).heap.size = w.heap.size + 1 := by simp
  generalize w.alloc (.cells (madeCells #[.int .i64 0] nt) 3) = w1 at *
  have h1 := World.rowIs_made w1 (.int .i64 0) nt 3
  have hb1 := hb0.alloc hb0.size (.cells (madeCells #[.int .i64 0] nt) 3)
  have hs1 : (w1.alloc (.cells (madeCells #[.int .i64 0] nt) 3)).heap.size = w.heap.size + 1 + 1 := by simp [hs0]
  have h01 := h0.alloc (.cells (madeCells #[.int .i64 0] nt) 3)
  generalize w1.alloc (.cells (madeCells #[.int .i64 0] nt) 3) = w2 at *
  have h2 := World.rowIs_made w2 (.int .i64 0) (nb + 1) 3
  rw [hs0] at h1
  rw [hs1] at h2
  refine ⟨Nat.le_refl _, (h01.alloc _).congr (fun c hc => ?_), (h1.alloc _).congr (fun c hc => ?_), ⟨_, rfl, by omega, h2.congr (fun k _ => (rc_none hnt k).symm)⟩, hb1.alloc hb1.size _⟩
  · unfold pc; rw [if_neg (by omega)]; rfl
  · unfold sc; rw [if_neg (by omega)]; rfl
end

set_option maxRecDepth 100000 in
set_option maxHeartbeats 2000000 in
theorem best_any (base t : List UInt8) (nb nt : Nat) (w : World) (hnb : base.length = nb) (hnt : t.length = nt) (hb : nb ≤ 4096) (ht : nt ≤ 4096) :
    Calls Try.prog 46 #[.string (bs base), .string (bs t)] w fun e w' => e = .returned (.tuple #[.slice (some ⟨w.heap.size, 0, none⟩) nt nt, .slice (some ⟨w.heap.size + 1, 0, none⟩) nt nt]) ∧ w'.rowIs w.heap.size 3 nt (pc base t 0) ∧ w'.rowIs (w.heap.size + 1) 3 nt (sc base t 0) ∧ Below w.heap.size w w' := by
  have hsb : (bs base).size = nb := by rw [bs_size, hnb]
  have hst : (bs t).size = nt := by rw [bs_size, hnt]
  have m1 := fun w0 => mk_rowI (nb + 1) (by omega) w0
  have m2 := fun w0 => mk_rowI nt (by omega) w0
  rw [show (((nb + 1 : Nat)) : Int) = (nb : Int) + 1 from by omega] at m1
  have e1 : IntKind.i64.wrap ((nb : Int) + 1) = (nb : Int) + 1 := IntWalk.i64_in _ (by omega)
  have HS := hide (BRel.start w base t nb nt hnt)
  replace hnb := hide hnb
  replace hnt := hide hnt
  go_enter Try.func46, Try.ntmps46
  go_wp2_with fail
  clear m1 m2
  go_loopg [8, 9, 10] nt (fun m row i _ wr => i = .int .i64 ((m : Int) - 1) ∧ BRel w base t nb nt m row wr)
  case atStart => exact ⟨by go_num, unhide HS⟩
  case round =>
    clear HS
    obtain ⟨rfl, hB⟩ := hrel
    cases gk with
    | zero =>
      rw [show (((0 : Nat) : Int) - 1) = -1 from rfl]
      have HB := hide hB
      obtain ⟨x, rfl, _, _⟩ := hB.r
      clear hB
      go_wp2_with fail
      go_ret2
      exact ⟨rfl, (unhide HB).a, (unhide HB).s, (unhide HB).bel⟩
    | succ i =>
      rw [show (((i + 1 : Nat) : Int) - 1) = (i : Int) from by omega]
      obtain ⟨x, hrow, hx, hr⟩ := hB.r
      subst hrow
      have hle := hB.le
      have hru := hide (runs_any base t nb nt i x wr (unhide hnb) (unhide hnt) hb ht (by omega) hr)
      replace hB := hide hB
      clear hr
      go_wp2_with fail
      refine (unhide hru).mono ?_
      rintro e w2 ⟨rfl, hR2, hb2⟩
      have HJ := hide ((unhide hB).enter hR2 hb2)
      generalize wr.heap.size = X at *
      clear hB hR2 hru
      go_wp2_with fail
      go_loopg [10] nb (fun m k wr => ∃ kk cur, k = .int .i64 (kk : Nat) ∧ nb ≤ m + kk ∧ kk ≤ nb ∧ JRel w base t nb nt i X kk cur wr)
      case atStart => exact ⟨0, _, rfl, by omega, by omega, unhide HJ⟩
      case round =>
        clear HJ
        obtain ⟨k, cur, rfl, hm, hk, hJ⟩ := hrel
        by_cases hlt : k < nb
        · have hlt' : (k : Int) < nb := by omega
          have hi' : (i : Int) < nt := by omega
          have hk1 : (k : Int) < (nb : Int) + 1 := by omega
          have hkl : k < base.length := by have := unhide hnb; omega
          have hRc : wr.cell? ⟨X, k, none⟩ = some (.int .i64 (E.run (base.drop k) (t.drop i))) := hJ.r.cell (by omega)
          have hAc := hJ.a.cell (i := i) (by omega)
          have hSc := hJ.s.cell (i := i) (by omega)
          rw [if_pos rfl] at hAc hSc
          have hAf := hJ.a.frozen i
          have hSf := hJ.s.frozen i
          have hX := hJ.lo
          have hn1 : ¬ w.heap.size = X := by omega
          have hn2 : ¬ X = w.heap.size := by omega
          have hn3 : ¬ w.heap.size + 1 = X := by omega
          have hn4 : ¬ X = w.heap.size + 1 := by omega
          by_cases hcl : cur.2 < E.run (base.drop k) (t.drop i)
          · have HT := hide (fun n => hJ.take hkl hcl n)
            have hcl' : ((cur.2 : Nat) : Int) < (E.run (base.drop k) (t.drop i) : Nat) := by omega
            clear hJ hX hcl
            generalize E.run (base.drop k) (t.drop i) = r at *
            go_wp2_with fail
            go_quiet (fail)
            go_wp2_with fail
            go_roundg (gk - 1)
            case measure => omega
            case rel => exact ⟨k + 1, _, by go_num, by omega, by omega, (unhide HT) _⟩
          · have HT := hide (fun n => hJ.stay hkl (by omega) n)
            have hcl' : ¬ ((cur.2 : Nat) : Int) < (E.run (base.drop k) (t.drop i) : Nat) := by omega
            clear hJ hX hcl
            generalize E.run (base.drop k) (t.drop i) = r at *
            go_wp2_with fail
            go_quiet (fail)
            go_wp2_with fail
            go_roundg (gk - 1)
            case measure => omega
            case rel => exact ⟨k + 1, _, by go_num, by omega, by omega, (unhide HT) _⟩
        · obtain rfl : k = nb := by omega
          have HF := hide (hJ.leave (unhide hnb) (by omega))
          clear hJ
          go_wp2_with fail
          go_roundg i
          case measure => omega
          case rel => exact ⟨rfl, unhide HF⟩
end Go.Proofs.Ytdhgobflbacgbaa
