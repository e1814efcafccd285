/- delta.matches: the best places, at every base and target of at most 4096 bytes. -/
import Derived.Test.YtdhgobflbacgbaaReader
import Derived.Deep.LoopGhost
import Derived.Deep.DeepCutAuto
import Derived.StillTailTactics
import Derived.Lib.SliceRun
import Derived.Lib.LazyBuf
import Derived.Deep.Upon
namespace Go.Proofs.Ytdhgobflbacgbaa
open Go.RowKit

theorem info75 : (Try.prog.info? 75).map (fun i => (i.zero, i.size, i.bytes)) = some (some (.agg #[.int .i64 0, .int .i64 0]), 2, 16) := by kernel_rfl
theorem info3 : (Try.prog.info? 3).map (fun i => (i.zero, i.size, i.bytes)) = some (some (.int .i64 0), 1, 8) := by kernel_rfl

theorem mk_rowI (n : Nat) (hn : n ≤ 5000) (w : World) :
    (Instr.makeSlice 76 (.int .i64 (n : Int)) (.int .i64 (n : Int))).run Try.prog w = .ok (.slice (some ⟨w.heap.size, 0, none⟩) n n) (w.alloc (.cells (madeCells #[.int .i64 0] n) 3)) := by
  obtain ⟨i, hi, h0, h1, h2⟩ := info_parts info3
  have hr := run_make (P := Try.prog) w 76 3 i (.int .i64 0) Try.underlying76 hi h0 .i64 .i64 n n (by omega) (by omega) (by rw [h2]; omega) (by omega)
  rw [show (Value.int .i64 0).cells = #[.int .i64 0] from rfl, h1] at hr
  simpa using hr
theorem mk_row2 (n : Nat) (hn : n ≤ 5000) (w : World) :
    (Instr.makeSlice 72 (.int .i64 (n : Int)) (.int .i64 (n : Int))).run Try.prog w = .ok (.slice (some ⟨w.heap.size, 0, none⟩) n n) (w.alloc (.cells (madeCells #[.int .i64 0, .int .i64 0] (n * 2)) 75)) := by
  obtain ⟨i, hi, h0, h1, h2⟩ := info_parts info75
  have hr := run_make (P := Try.prog) w 72 75 i (.agg #[.int .i64 0, .int .i64 0]) Try.underlying72 hi h0 .i64 .i64 n n (by omega) (by omega) (by rw [h2]; omega) (by omega)
  rw [show (Value.agg #[.int .i64 0, .int .i64 0]).cells = #[.int .i64 0, .int .i64 0] from rfl, h1] at hr
  simpa using hr
theorem row2_made (w : World) (n : Nat) : (w.alloc (.cells (madeCells #[.int .i64 0, .int .i64 0] n) 75)).rowIs w.heap.size 75 n (fun _ => .int .i64 0) := by
  have h := World.rowIs_alloc w (madeCells #[.int .i64 0, .int .i64 0] n) 75 (fun _ => .int .i64 0) (by
    intro i hi
    rw [size_madeCells] at hi
    have h2 : i % 2 < 2 := Nat.mod_lt _ (by omega)
    have : (#[Value.int .i64 0, Value.int .i64 0] : Array Value)[i % 2]! = .int .i64 0 := by
      rcases (show i % 2 = 0 ∨ i % 2 = 1 by omega) with h | h <;> rw [h] <;> rfl
    simp only [madeCells, Array.getElem?_map, Array.getElem?_range, hi, if_true, Option.map_some]
    exact congrArg some this)
  rw [size_madeCells] at h
  exact h

theorem grown_row {a b c : World} {row : Option Nat} (h : a.grownBy b row) (k : b.grownBy c row) : a.grownBy c row :=
  ⟨k.os.trans h.os, k.tape.trans h.tape, k.output.trans h.output, Nat.le_trans h.size k.size, fun i hi hne => (k.block i (Nat.lt_of_lt_of_le hi h.size) hne).trans (h.block i hi hne)⟩
theorem grown_setCells (b : Nat) : ∀ (vs : List Value) (o : Nat) (w : World), w.grownBy (w.setCells b o vs) (some b)
  | [], _, w => World.grownBy.refl w _
  | v :: r, o, w => grown_row (only_set b o v) (grown_setCells b r (o + 1) _)

/-- 'clear(s)' of a row of the call's own -/
theorem wpList_clear {w : World} {ops : Array Oper} {rest : List Oper} {o : Oper} {a : Act} {Q : Exit → Act → World → Prop} (hgd : o.guard = none) (s : Operand)
    (ho : o.op = .call { callee := .builtin .clear, args := #[s], argTypes := #[76] }) (y n : Nat) (f : Nat → Value) (hs : a.eval s = .slice (some ⟨y, 0, none⟩) n n) (hn : 0 < n) (hrow : w.rowIs y 3 n f)
    (h : ∀ w', w'.rowIs y 3 n (fun _ => .int .i64 0) → w.grownBy w' (some y) → wpList Try.prog ops Q rest (a.put o.dst (.tuple #[])) w') : wpList Try.prog ops Q (o :: rest) a w := by
  have hrun := fun ty => Lib.run_clear_slice (P := Try.prog) w 76 3 ty (.int .i64 0) Try.underlying76 (fun w => by kernel_rfl) rfl rfl y 0 n n hn
    (fun j hj => by rw [Nat.zero_add, hrow.cell hj]; rfl) (fun j _ => by rw [Nat.zero_add]; exact hrow.frozen j)
  refine wpList_plain hgd fun K hK => ?_
  unfold Oper.wp execOp
  simp only [ho, resolve, invoke, builtin, Sem.run_bind, Sem.run_pure, Result.andThen_ok, List.map_toArray, List.map_cons, List.map_nil, hs, hrun]
  refine hK _ _ (h _ ?_ ?_)
  · have h1 := rowIs_setCells (b := y) (t := 3) (n := n) (List.replicate n (.int .i64 0)) 0 w f hrow
    refine h1.congr fun i hi => ?_
    simp [hi]
  · exact grown_setCells y _ 0 w

/-- the cells of the best places: those of i and behind are reckoned -/
def bc (base t : List UInt8) (i c : Nat) : Value := if i ≤ c / 2 then (if c % 2 = 0 then .int .i64 (E.bst (t.drop (c / 2)) 0 base).1 else .int .i64 (E.bst (t.drop (c / 2)) 0 base).2) else .int .i64 0
/-- the same while place i is reckoned -/
def bcur (base t : List UInt8) (i : Nat) (cur : Nat × Nat) (c : Nat) : Value := if c / 2 = i then (if c % 2 = 0 then .int .i64 cur.1 else .int .i64 cur.2) else bc base t (i + 1) c
theorem bcur_start (base t : List UInt8) (i c : Nat) : bcur base t i (0, 0) c = bc base t (i + 1) c := by
  unfold bcur
  split
  · rename_i h
    have : bc base t (i + 1) c = .int .i64 0 := by unfold bc; rw [if_neg (by omega)]
    rw [this]; split <;> rfl
  · rfl
theorem bcur_end (base t : List UInt8) (i c : Nat) : bcur base t i (E.bst (t.drop i) 0 base) c = bc base t i c := by
  unfold bcur bc
  by_cases h : c / 2 = i
  · subst h; rw [if_pos rfl, if_pos (Nat.le_refl _)]
  · rw [if_neg h]
    by_cases h1 : i + 1 ≤ c / 2
    · rw [if_pos h1, if_pos (show i ≤ c / 2 by omega)]
    · rw [if_neg h1, if_neg (show ¬ i ≤ c / 2 by omega)]
theorem bcur_0 (base t : List UInt8) (i : Nat) (cur : Nat × Nat) : bcur base t i cur (i * 2) = .int .i64 cur.1 := by unfold bcur; rw [if_pos (by omega), if_pos (by omega)]
theorem bcur_1 (base t : List UInt8) (i : Nat) (cur : Nat × Nat) : bcur base t i cur (i * 2 + 1) = .int .i64 cur.2 := by unfold bcur; rw [if_pos (by omega), if_neg (by omega)]
theorem bcur_set (base t : List UInt8) (i : Nat) (cur : Nat × Nat) (p q : Nat) (c : Nat) :
    (if c = i * 2 + 1 then Value.int .i64 q else if c = i * 2 then .int .i64 p else bcur base t i cur c) = bcur base t i (p, q) c := by
  by_cases h1 : c = i * 2 + 1
  · subst h1; rw [if_pos rfl, bcur_1]
  · rw [if_neg h1]
    by_cases h2 : c = i * 2
    · subst h2; rw [if_pos rfl, bcur_0]
    · rw [if_neg h2]; unfold bcur; rw [if_neg (by omega), if_neg (by omega)]
/-- the runs of a place -/
def rc (base : List UInt8) (u : List UInt8) (k : Nat) : Value := .int .i64 (E.run (base.drop k) u)

/-- what holds at the outer loop's head: i places are left -/
def MRel (w : World) (base t : List UInt8) (nb nt : Nat) (i : Nat) (nx rw_ : Value) (wr : World) : Prop :=
  i ≤ nt ∧ ∃ x y f, nx = .slice (some ⟨x, 0, none⟩) (nb + 1) (nb + 1) ∧ rw_ = .slice (some ⟨y, 0, none⟩) (nb + 1) (nb + 1) ∧ x ≠ y ∧ w.heap.size < x ∧ w.heap.size < y ∧
    wr.rowIs x 3 (nb + 1) (rc base (t.drop i)) ∧ wr.rowIs y 3 (nb + 1) f ∧ wr.rowIs w.heap.size 75 (nt * 2) (bc base t i) ∧ Below w.heap.size w wr

theorem rc_none {base t : List UInt8} {nt : Nat} (hnt : t.length = nt) (k : Nat) : rc base (t.drop nt) k = .int .i64 0 := by
  have : t.drop nt = [] := List.drop_eq_nil_of_le (by omega)
  unfold rc; rw [this, E.run_nil_right]; rfl
theorem bc_none (base t : List UInt8) {nt c : Nat} (h : c < nt * 2) : bc base t nt c = .int .i64 0 := by unfold bc; rw [if_neg (by omega)]
theorem MRel.start (w : World) (base t : List UInt8) (nb nt : Nat) (hnt : t.length = nt) :
    MRel w base t nb nt nt (.slice (some ⟨w.heap.size + 1, 0, none⟩) (nb + 1) (nb + 1)) (.slice (some ⟨w.heap.size + 1 + 1, 0, none⟩) (nb + 1) (nb + 1))
      (((w.alloc (.cells (madeCells #[.int .i64 0, .int .i64 0] (nt * 2)) 75)).alloc (.cells (madeCells #[.int .i64 0] (nb + 1)) 3)).alloc (.cells (madeCells #[.int .i64 0] (nb + 1)) 3)).drew ∧
    MRel w base t nb nt nt (.slice (some ⟨w.heap.size + 1 + 1, 0, none⟩) (nb + 1) (nb + 1)) (.slice (some ⟨w.heap.size + 1, 0, none⟩) (nb + 1) (nb + 1))
      (((w.alloc (.cells (madeCells #[.int .i64 0, .int .i64 0] (nt * 2)) 75)).alloc (.cells (madeCells #[.int .i64 0] (nb + 1)) 3)).alloc (.cells (madeCells #[.int .i64 0] (nb + 1)) 3)).drew := by
  have h0 := row2_made w (nt * 2)
  generalize hw1 : w.alloc (.cells (madeCells #[.int .i64 0, .int .i64 0] (nt * 2)) 75) = w1 at *
  have hs1 : w1.heap.size = w.heap.size + 1 := by rw [← hw1]; simp
  have hb1 : Below w.heap.size w w1 := by rw [← hw1]; exact (Below.refl _ _).alloc (Nat.le_refl _) _
  have h1 := World.rowIs_made w1 (.int .i64 0) (nb + 1) 3
  generalize hw2 : w1.alloc (.cells (madeCells #[.int .i64 0] (nb + 1)) 3) = w2 at *
  have hs2 : w2.heap.size = w.heap.size + 1 + 1 := by rw [← hw2]; simp [hs1]
  have hb2 : Below w.heap.size w w2 := by rw [← hw2]; exact hb1.alloc hb1.size _
  have h2 := World.rowIs_made w2 (.int .i64 0) (nb + 1) 3
  have h01 : w2.rowIs w.heap.size 75 (nt * 2) (fun _ => .int .i64 0) := by rw [← hw2]; exact h0.alloc _
  rw [hs1] at h1
  rw [hs2] at h2
  have hB := ((h01.alloc (.cells (madeCells #[.int .i64 0] (nb + 1)) 3)).drew).congr (g := bc base t nt) (fun i hi => (bc_none base t hi).symm)
  have hX := ((h1.alloc (.cells (madeCells #[.int .i64 0] (nb + 1)) 3)).drew)
  have hY := h2.drew
  have hbel := (hb2.alloc hb2.size (.cells (madeCells #[.int .i64 0] (nb + 1)) 3)).drew
  refine ⟨⟨Nat.le_refl _, _, _, _, rfl, rfl, by omega, by omega, by omega, hX.congr (fun k _ => (rc_none hnt k).symm), hY, hB, hbel⟩, ⟨Nat.le_refl _, _, _, _, rfl, rfl, by omega, by omega, by omega, hY.congr (fun k _ => (rc_none hnt k).symm), hX, hB, hbel⟩⟩

/-- what holds at the inner loop's head: k places of the base are left -/
def IRel (w : World) (base t : List UInt8) (nb nt i x y k : Nat) (wr : World) : Prop :=
  k ≤ nb ∧ wr.rowIs x 3 (nb + 1) (rc base (t.drop (i + 1))) ∧ wr.rowIs y 3 (nb + 1) (fun j => if k ≤ j then rc base (t.drop i) j else .int .i64 0) ∧
    wr.rowIs w.heap.size 75 (nt * 2) (bcur base t i (E.bst (t.drop i) k (base.drop k))) ∧ Below w.heap.size w wr

theorem IRel.start {w wr w2 : World} {base t : List UInt8} {nb nt i x y : Nat} (hnb : base.length = nb) (hx : w.heap.size < x) (hy : w.heap.size < y) (hxy : x ≠ y)
    (hX : wr.rowIs x 3 (nb + 1) (rc base (t.drop (i + 1)))) (hB : wr.rowIs w.heap.size 75 (nt * 2) (bc base t (i + 1))) (hbel : Below w.heap.size w wr)
    (hY : w2.rowIs y 3 (nb + 1) (fun _ => .int .i64 0)) (hg : wr.grownBy w2 (some y)) : IRel w base t nb nt i x y nb w2 := by
  have hk : ∀ b, b < wr.heap.size → b ≠ y → w2.heap[b]? = wr.heap[b]? := fun b h1 h2 => hg.block b h1 (fun e => h2 (by injection e))
  refine ⟨Nat.le_refl _, hX.of_block (hk x hX.lt hxy), hY.congr (fun j hj => ?_), (hB.of_block (hk _ hB.lt (by omega))).congr (fun c _ => ?_), hbel.grown hg hbel.size (fun k hk => by injection hk with hk; omega)⟩
  · by_cases h : nb ≤ j
    · rw [if_pos h]; unfold rc; rw [List.drop_eq_nil_of_le (by omega), E.run_nil_left]; rfl
    · rw [if_neg h]
  · have : base.drop nb = [] := List.drop_eq_nil_of_le (by omega)
    rw [this, show E.bst (t.drop i) nb [] = (0, 0) from rfl, bcur_start]
theorem IRel.done {w wr : World} {base t : List UInt8} {nb nt i x y : Nat} (h : IRel w base t nb nt i x y 0 wr) (hi : i ≤ nt) (hx : w.heap.size < x) (hy : w.heap.size < y) (hxy : x ≠ y) :
    MRel w base t nb nt i (.slice (some ⟨y, 0, none⟩) (nb + 1) (nb + 1)) (.slice (some ⟨x, 0, none⟩) (nb + 1) (nb + 1)) wr := by
  obtain ⟨_, hX, hY, hB, hbel⟩ := h
  exact ⟨hi, y, x, _, rfl, rfl, fun e => hxy e.symm, hy, hx, hY.congr (fun j _ => if_pos (Nat.zero_le j)), hX, hB.congr (fun c _ => by rw [List.drop_zero]; exact bcur_end base t i c), hbel⟩
/-- the bytes part -/
theorem IRel.part {w wr : World} {base t : List UInt8} {nb nt i x y k : Nat} {a b : UInt8} (ha : base.drop k = a :: base.drop (k + 1)) (hb : t.drop i = b :: t.drop (i + 1)) (hab : a ≠ b) (h : IRel w base t nb nt i x y (k + 1) wr) (n : Nat) :
    IRel w base t nb nt i x y k (wr.drewN n) := by
  obtain ⟨hk, hX, hY, hB, hbel⟩ := h
  have hr : E.run (base.drop k) (t.drop i) = 0 := by rw [ha, hb, E.run_other hab]
  refine ⟨by omega, rowIs_drewN hX n, (rowIs_drewN hY n).congr (fun j _ => ?_), (rowIs_drewN hB n).congr (fun c _ => ?_), below_drewN hbel n⟩
  · by_cases h1 : k + 1 ≤ j
    · rw [if_pos h1, if_pos (by omega)]
    · rw [if_neg h1]
      by_cases h2 : k ≤ j
      · obtain rfl : j = k := by omega
        rw [if_pos h2]; unfold rc; rw [hr]; rfl
      · rw [if_neg h2]
  · rw [ha] at hr ⊢
    rw [E.bst_neg (by intro h; exact h.1 hr)]
/-- the bytes are the same -/
theorem IRel.row {w wr : World} {base t : List UInt8} {nb nt i x y k : Nat} {a b : UInt8} (ha : base.drop k = a :: base.drop (k + 1)) (hb : t.drop i = b :: t.drop (i + 1)) (hab : a = b) (hx : w.heap.size < x) (hy : w.heap.size < y) (hxy : x ≠ y) (h : IRel w base t nb nt i x y (k + 1) wr) (n m : Nat) :
    (((wr.drewN n).setCell ⟨y, k, none⟩ (.int .i64 ((E.run (base.drop (k + 1)) (t.drop (i + 1)) : Nat) + 1 : Int))).drewN m).rowIs y 3 (nb + 1) (fun j => if k ≤ j then rc base (t.drop i) j else .int .i64 0) := by
  obtain ⟨hk, hX, hY, hB, hbel⟩ := h
  have hr : E.run (base.drop k) (t.drop i) = E.run (base.drop (k + 1)) (t.drop (i + 1)) + 1 := by rw [ha, hb, E.run_same hab]
  refine rowIs_drewN (((rowIs_drewN hY n).set k _).congr (fun j _ => ?_)) m
  by_cases h1 : j = k
  · subst h1; rw [if_pos rfl, if_pos (Nat.le_refl _)]; unfold rc; rw [hr]; rfl
  · rw [if_neg h1]
    by_cases h2 : k + 1 ≤ j
    · rw [if_pos h2, if_pos (by omega)]
    · rw [if_neg h2, if_neg (by omega)]

theorem IRel.same {w wr : World} {base t : List UInt8} {nb nt i x y k : Nat} {a b : UInt8} (ha : base.drop k = a :: base.drop (k + 1)) (hb : t.drop i = b :: t.drop (i + 1)) (hab : a = b) (hx : w.heap.size < x) (hy : w.heap.size < y) (hxy : x ≠ y) (h : IRel w base t nb nt i x y (k + 1) wr) (n m : Nat) :
    ((E.bst (t.drop i) (k + 1) (base.drop (k + 1))).2 ≤ E.run (base.drop (k + 1)) (t.drop (i + 1)) + 1 →
      IRel w base t nb nt i x y k (((((wr.drewN n).setCell ⟨y, k, none⟩ (.int .i64 ((E.run (base.drop (k + 1)) (t.drop (i + 1)) : Nat) + 1 : Int))).drewN m).setCell ⟨w.heap.size, i * 2, none⟩ (.int .i64 k)).setCell ⟨w.heap.size, i * 2 + 1, none⟩ (.int .i64 ((E.run (base.drop (k + 1)) (t.drop (i + 1)) : Nat) + 1 : Int)))) ∧
    (E.run (base.drop (k + 1)) (t.drop (i + 1)) + 1 < (E.bst (t.drop i) (k + 1) (base.drop (k + 1))).2 →
      IRel w base t nb nt i x y k (((wr.drewN n).setCell ⟨y, k, none⟩ (.int .i64 ((E.run (base.drop (k + 1)) (t.drop (i + 1)) : Nat) + 1 : Int))).drewN m)) := by
  have hrow := IRel.row ha hb hab hx hy hxy h n m
  obtain ⟨hk, hX, hY, hB, hbel⟩ := h
  have hr : E.run (base.drop k) (t.drop i) = E.run (base.drop (k + 1)) (t.drop (i + 1)) + 1 := by rw [ha, hb, E.run_same hab]
  have hX2 := rowIs_drewN ((rowIs_drewN hX n).setOther (a := ⟨y, k, none⟩) (by exact hxy) (.int .i64 ((E.run (base.drop (k + 1)) (t.drop (i + 1)) : Nat) + 1 : Int))) m
  have hB2 := rowIs_drewN ((rowIs_drewN hB n).setOther (a := ⟨y, k, none⟩) (by show w.heap.size ≠ y; omega) (.int .i64 ((E.run (base.drop (k + 1)) (t.drop (i + 1)) : Nat) + 1 : Int))) m
  have hbel2 := below_drewN ((below_drewN hbel n).setCell (p := ⟨y, k, none⟩) (by show w.heap.size ≤ y; omega) (.int .i64 ((E.run (base.drop (k + 1)) (t.drop (i + 1)) : Nat) + 1 : Int))) m
  generalize hV : ((wr.drewN n).setCell ⟨y, k, none⟩ (.int .i64 ((E.run (base.drop (k + 1)) (t.drop (i + 1)) : Nat) + 1 : Int))).drewN m = V at *
  constructor
  · intro hle
    have hbst : E.bst (t.drop i) k (base.drop k) = (k, E.run (base.drop (k + 1)) (t.drop (i + 1)) + 1) := by
      rw [← hr]
      rw [ha] at hr ⊢
      exact E.bst_pos (by omega) (by omega)
    refine ⟨by omega, (hX2.setOther (by show x ≠ w.heap.size; omega) _).setOther (by show x ≠ w.heap.size; omega) _, (hrow.setOther (by show y ≠ w.heap.size; omega) _).setOther (by show y ≠ w.heap.size; omega) _, ?_, (hbel2.setCell (p := ⟨w.heap.size, _, none⟩) (Nat.le_refl _) _).setCell (p := ⟨w.heap.size, _, none⟩) (Nat.le_refl _) _⟩
    refine ((hB2.set (i * 2) (.int .i64 k)).set (i * 2 + 1) _).congr (fun c _ => ?_)
    rw [hbst]
    exact bcur_set base t i _ k (E.run (base.drop (k + 1)) (t.drop (i + 1)) + 1) c
  · intro hlt
    have hbst : E.bst (t.drop i) k (base.drop k) = E.bst (t.drop i) (k + 1) (base.drop (k + 1)) := by
      rw [ha] at hr ⊢
      exact E.bst_neg (by omega)
    exact ⟨by omega, hX2, hrow, by rw [hbst]; exact hB2, hbel2⟩

set_option maxRecDepth 100000 in
set_option maxHeartbeats 2000000 in
theorem matches_any (Ab At : Option Addr) (base t : List UInt8) (nb cb nt ct : Nat) (w : World) (hnb : base.length = nb) (hnt : t.length = nt) (hb : nb ≤ 4096) (ht : nt ≤ 4096)
    (hrb : Reads w w.heap.size 1 Ab nb (bvs base)) (hrt : Reads w w.heap.size 1 At nt (bvs t)) :
    Calls Try.prog 44 #[.slice Ab nb cb, .slice At nt ct] w fun e w' => e = .returned (.slice (some ⟨w.heap.size, 0, none⟩) nt nt) ∧ w'.rowIs w.heap.size 75 (nt * 2) (bc base t 0) ∧ Below w.heap.size w w' := by
  have m72 := fun w0 => mk_row2 nt (by omega) w0
  have m76 := fun w0 => mk_rowI (nb + 1) (by omega) w0
  rw [show (((nb + 1 : Nat)) : Int) = (nb : Int) + 1 from by omega] at m76
  have e1 : IntKind.i64.wrap ((nb : Int) + 1) = (nb : Int) + 1 := IntWalk.i64_in _ (by omega)
  replace hnb := hide hnb
  replace hnt := hide hnt
  go_enter Try.func44, Try.ntmps44
  go_upto_region 2 with (fail)
  go_cut [6, 7] (fun nx rw_ wx => MRel w base t nb nt nt nx rw_ wx)
  case first =>
    have HS := hide (MRel.start w base t nb nt (unhide hnt))
    go_region
    all_goals go_wp2_with fail
    all_goals go_meet
    · exact (unhide HS).1
    · exact (unhide HS).2
  case rest =>
    replace hcut := hide hcut
    clear m72 m76
    go_wp2_with fail
    go_loopg [6, 7, 8, 9] nt (fun k nx rw_ i _ wr => i = .int .i64 ((k : Int) - 1) ∧ MRel w base t nb nt k nx rw_ wr)
    case atStart => exact ⟨rfl, unhide hcut⟩
    case round =>
      obtain ⟨rfl, hi, x, y, f, rfl, rfl, hxy, hx, hy, hX, hY, hB, hbel⟩ := hrel
      cases gk with
      | zero =>
        rw [show (((0 : Nat) : Int) - 1) = -1 from rfl]
        have HB := hide hB
        clear hX hY hB
        go_wp2_with fail
        go_ret
        exact ⟨rfl, unhide HB, hbel⟩
      | succ i =>
        rw [show (((i + 1 : Nat) : Int) - 1) = (i : Int) from by omega]
        have hi' : (i : Int) < nt := by omega
        obtain ⟨at_, u, hA, _, hu, hct⟩ := hrt.at_ (show i < nt by omega)
        subst hA
        have hil : i < t.length := by have := unhide hnt; omega
        obtain rfl : bv t[i] = u := by rw [bvs_get hil] at hu; injection hu
        have hdt := hide (show t.drop i = t[i] :: t.drop (i + 1) from List.drop_eq_getElem_cons hil)
        generalize t[i] = b at *
        replace hct := hide hct
        clear hu
        go_wp2_with (with_reducible refine wpList_clear (o := ⟨none, .call _, _, _, _, _⟩) rfl (.tmp 28) rfl y (nb + 1) f rfl (by omega) hY ?_; intro w2 hY2 hg2)
        have HI := hide (IRel.start (unhide hnb) hx hy hxy hX hB hbel hY2 hg2)
        clear hY2 hg2 hX hB hY
        go_loopg [9] nb (fun k kk wr => kk = .int .i64 ((k : Int) - 1) ∧ IRel w base t nb nt i x y k wr)
        case atStart => exact ⟨rfl, unhide HI⟩
        case round =>
          obtain ⟨rfl, hir⟩ := hrel
          clear HI
          cases gk with
          | zero =>
            rw [show (((0 : Nat) : Int) - 1) = -1 from rfl]
            have HR := hide (hir.done (by omega) hx hy hxy)
            clear hir
            go_wp2_with fail
            go_roundg i
            case measure => omega
            case rel => exact ⟨rfl, unhide HR⟩
          | succ k =>
            rw [show (((k + 1 : Nat) : Int) - 1) = (k : Int) from by omega]
            have hkn : k + 1 ≤ nb := hir.1
            have hk' : (k : Int) < nb := by omega
            have hk2 : (k : Int) + 1 < (nb : Int) + 1 := by omega
            obtain ⟨ab, u, hA, _, hu, hcb⟩ := hrb.at_ (show k < nb by omega)
            subst hA
            have hkl : k < base.length := by have := unhide hnb; omega
            obtain rfl : bv base[k] = u := by rw [bvs_get hkl] at hu; injection hu
            have hdb := hide (show base.drop k = base[k] :: base.drop (k + 1) from List.drop_eq_getElem_cons hkl)
            generalize base[k] = a at *
            clear hu
            obtain ⟨_, hX, hY, hB, hbel2⟩ := id hir
            have c1 : wr.cell? (ab.add k) = some (.int .u8 a.toNat) := (hbel2.cell (p := ab.add k) (by rw [block_of_add]; assumption)).trans hcb
            have c2 : wr.cell? (at_.add i) = some (.int .u8 b.toNat) := (hbel2.cell (p := at_.add i) (by rw [block_of_add]; assumption)).trans (unhide hct)
            clear hcb
            by_cases hab : a = b
            · have hne : ((a.toNat : Int) != (b.toNat : Int)) = false := by rw [hab]; simp
              have hrl := (E.run_le (base.drop (k + 1)) (t.drop (i + 1))).1
              have hrl2 : E.run (base.drop (k + 1)) (t.drop (i + 1)) ≤ 4096 := by have := unhide hnb; simp at hrl; omega
              have hXc : wr.cell? ⟨x, k + 1, none⟩ = some (.int .i64 (E.run (base.drop (k + 1)) (t.drop (i + 1)))) := hX.cell (by omega)
              have hYc : wr.cell? ⟨y, k, none⟩ = some (.int .i64 0) := by rw [hY.cell (by omega), if_neg (by omega)]
              have hYf := hY.frozen k
              have hB0 : wr.cell? ⟨w.heap.size, i * 2, none⟩ = some (.int .i64 (E.bst (t.drop i) (k + 1) (base.drop (k + 1))).1) := by rw [hB.cell (by omega), bcur_0]
              have hB1 : wr.cell? ⟨w.heap.size, i * 2 + 1, none⟩ = some (.int .i64 (E.bst (t.drop i) (k + 1) (base.drop (k + 1))).2) := by rw [hB.cell (by omega), bcur_1]
              have hBf0 := hB.frozen (i * 2)
              have hBf1 := hB.frozen (i * 2 + 1)
              have hn1 : ¬ w.heap.size = y := by omega
              have hn2 : ¬ y = w.heap.size := by omega
              have hn3 : ¬ y = x := fun h => hxy h.symm
              have HM := hide (fun n m => IRel.same (unhide hdb) (unhide hdt) hab hx hy hxy hir n m)
              clear hX hY hB hrl hir
              by_cases hle : (E.bst (t.drop i) (k + 1) (base.drop (k + 1))).2 ≤ E.run (base.drop (k + 1)) (t.drop (i + 1)) + 1
              · generalize E.bst (t.drop i) (k + 1) (base.drop (k + 1)) = cur at *
                generalize E.run (base.drop (k + 1)) (t.drop (i + 1)) = r at *
                have hle' : (cur.2 : Int) ≤ (r : Int) + 1 := by omega
                replace hle := hide hle
                clear hab
                go_wp2_with fail
                go_quiet (fail)
                go_wp2_with fail
                go_quiet (fail)
                go_wp2_with fail
                go_roundg k
                case measure => omega
                case rel => exact ⟨rfl, ((unhide HM) _ _).1 (unhide hle)⟩
              · have hlt : E.run (base.drop (k + 1)) (t.drop (i + 1)) + 1 < (E.bst (t.drop i) (k + 1) (base.drop (k + 1))).2 := by omega
                generalize E.bst (t.drop i) (k + 1) (base.drop (k + 1)) = cur at *
                generalize E.run (base.drop (k + 1)) (t.drop (i + 1)) = r at *
                have hle' : (r : Int) + 1 < (cur.2 : Int) := by omega
                replace hlt := hide hlt
                clear hab hle
                go_wp2_with fail
                go_quiet (fail)
                go_wp2_with fail
                go_quiet (fail)
                go_wp2_with fail
                go_roundg k
                case measure => omega
                case rel => exact ⟨rfl, ((unhide HM) _ _).2 (unhide hlt)⟩
            · have hne : ((a.toNat : Int) != (b.toNat : Int)) = true := by rw [bne_iff_ne]; intro h; exact hab (UInt8.toNat_inj.mp (by omega))
              have HP := hide (fun n => hir.part (unhide hdb) (unhide hdt) hab n)
              clear hir hX hY hB hab
              go_wp2_with fail
              go_quiet (fail)
              go_wp2_with fail
              go_roundg k
              case measure => omega
              case rel => exact ⟨rfl, unhide HP _⟩
end Go.Proofs.Ytdhgobflbacgbaa
