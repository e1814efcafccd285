/- diff.Cost and the document's: the cost of any script, at every script. -/
import Derived.Test.YtakkjehmekekbaaMay
namespace Go.Proofs.Ytakkjehmekekbaa
open Go.RowKit

/-- the cells of an edit, and of a script -/
def ec (x : D.Ed) : List Value := [.int .i64 x.kind, .int .i64 x.n, .string (bs x.text)]
def ecs : List D.Ed → List Value
  | [] => []
  | x :: l => ec x ++ ecs l
theorem ecs_length (l : List D.Ed) : (ecs l).length = l.length * 3 := by
  induction l with
  | nil => rfl
  | cons x l ih => simp only [ecs, List.length_append, ih, List.length_cons, ec, List.length_nil]; omega
theorem ecs_append (a b : List D.Ed) : ecs (a ++ b) = ecs a ++ ecs b := by
  induction a with
  | nil => rfl
  | cons x a ih => simp [ecs, ih]
theorem ecs_one (l : List D.Ed) : ∀ u ∈ ecs l, u.oneCell' = true := by
  induction l with
  | nil => intro u hu; cases hu
  | cons x l ih =>
    intro u hu
    simp only [ecs, ec, List.cons_append, List.nil_append, List.mem_cons] at hu
    rcases hu with rfl | rfl | rfl | hu
    · rfl
    · rfl
    · rfl
    · exact ih u hu
theorem ecs_get : ∀ (l : List D.Ed) (k : Nat) (h : k < l.length), (ecs l)[k * 3]? = some (.int .i64 l[k].kind) ∧ (ecs l)[k * 3 + 1]? = some (.int .i64 l[k].n) ∧ (ecs l)[k * 3 + 2]? = some (.string (bs l[k].text)) := by
  intro l
  induction l with
  | nil => intro k h; simp at h
  | cons x l ih =>
    intro k h
    cases k with
    | zero => simp [ecs, ec]
    | succ k =>
      have := ih k (by simpa using h)
      simp only [ecs, ec, List.cons_append, List.nil_append, List.getElem_cons_succ]
      rw [show (k + 1) * 3 = k * 3 + 3 by omega]
      exact this
/-- the cells of one edit of a script that came in -/
theorem reads_ed {w : World} {B n : Nat} {A : Option Addr} {l : List D.Ed} (hn : l.length = n) (h : Reads w B 3 A n (ecs l)) {k : Nat} (hk : k < n) :
    ∃ ad x, A = some ad ∧ l[k]? = some x ∧ ad.block < B ∧ w.cell? (ad.add (k * 3)) = some (.int .i64 x.kind) ∧ w.cell? ⟨(ad.add (k * 3)).block, (ad.add (k * 3)).off + 1, none⟩ = some (.int .i64 x.n) ∧ w.cell? ⟨(ad.add (k * 3)).block, (ad.add (k * 3)).off + 2, none⟩ = some (.string (bs x.text)) := by
  obtain ⟨ad, e, hb, hc⟩ := h.2 (by omega)
  have hkl : k < l.length := by omega
  obtain ⟨h1, h2, h3⟩ := ecs_get l k hkl
  refine ⟨ad, l[k], e, List.getElem?_eq_getElem hkl, hb, hc _ _ h1, ?_, ?_⟩
  · have := hc _ _ h2
    rw [← add_of_add] at this
    exact this
  · have := hc _ _ h3
    rw [← add_of_add] at this
    exact this

/-- the costs of a script, as int reckons them -/
def costZ : Int → List D.Ed → Int × Nat
  | c, [] => (c, 0)
  | c, x :: l => if ¬ D.may x ∨ 1000 < x.n then (0, 1) else costZ (if x.kind = 1 then c else wrap64 (c + D.one x)) l
/-- what a script that is a value is: its numbers are ints, its texts fit -/
def EdOk (x : D.Ed) : Prop := x.text.length ≤ 140737488355328

theorem wrap64_bounds (z : Int) : -9223372036854775808 ≤ wrap64 z ∧ wrap64 z ≤ 9223372036854775807 := by unfold wrap64; omega
theorem box_cells {w w2 : World} {x : D.Ed} (hb : Below (w.alloc (.cells #[.int .i64 x.kind, .int .i64 x.n, .string (bs x.text)] 32)).heap.size (w.alloc (.cells #[.int .i64 x.kind, .int .i64 x.n, .string (bs x.text)] 32)) w2) :
    w2.cell? ⟨w.heap.size, 0, none⟩ = some (.int .i64 x.kind) ∧ w2.cell? ⟨w.heap.size, 1, none⟩ = some (.int .i64 x.n) ∧ w2.cell? ⟨w.heap.size, 2, none⟩ = some (.string (bs x.text)) := by
  have hB := (Blk.new w 32 #[.int .i64 x.kind, .int .i64 x.n, .string (bs x.text)]).below hb (by simp)
  exact ⟨by rw [hB.cell 0]; rfl, by rw [hB.cell 1]; rfl, by rw [hB.cell 2]; rfl⟩
theorem box_below {w wr w2 : World} {o : Obj} (h : Below w.heap.size w wr) (hb : Below (wr.alloc o).heap.size (wr.alloc o) w2) : Below w.heap.size w w2 :=
  (h.alloc h.size o).trans (hb.mono (by have := h.size; simp; omega))

set_option maxRecDepth 100000 in
set_option maxHeartbeats 400000 in
theorem cost_any (A : Option Addr) (l : List D.Ed) (n c : Nat) (w : World) (hn : l.length = n) (hn6 : n ≤ 140737488355328) (hok : ∀ x ∈ l, EdOk x) (hr : Reads w w.heap.size 3 A n (ecs l)) :
    Calls Try.prog 18 #[.slice A n c] w fun e w' => e = .returned (.tuple #[.int .i64 (costZ 0 l).1, .int .i64 (costZ 0 l).2]) ∧ Below w.heap.size w w' := by
  have HR := hide hr
  have HN := hide hn
  have HO := hide hok
  clear hr hn hok
  go_enter Try.func18, Try.ntmps18
  go_wp2_with fail
  go_loopw [4, 6, 9] (fun t _ i wr => ∃ (k : Nat) (m : Int), i = .int .i64 k ∧ t = .int .i64 m ∧ k ≤ n ∧ costZ m (l.drop k) = costZ 0 l ∧ -9223372036854775808 ≤ m ∧ m ≤ 9223372036854775807 ∧ Below w.heap.size w wr) (fun _ _ i _ => n - (intOf i).toNat)
  case atStart => exact ⟨0, 0, rfl, rfl, Nat.zero_le _, rfl, by omega, by omega, Below.refl _ _⟩
  case round =>
    obtain ⟨k, m, rfl, rfl, hk, hcost, hm1, hm2, hbel⟩ := hrel
    by_cases hlt : k < n
    · obtain ⟨ad, x, rfl, hx, hbl, c1, c2, c3⟩ := reads_ed (unhide HN) ((unhide HR).below hbel) hlt
      have hxo := hide ((unhide HO) x (List.mem_of_getElem? hx))
      have hcost := hide hcost
      have hx := hide hx
      have hdr : l.drop k = x :: l.drop (k + 1) := by
        have h0 := unhide hx
        rw [List.getElem?_eq_some_iff] at h0
        obtain ⟨h1, h2⟩ := h0
        rw [← h2]; exact List.drop_eq_getElem_cons h1
      have hdr := hide hdr
      by_cases hbad : ¬ D.may x ∨ 1000 < x.n
      · have hfin : costZ 0 l = (0, 1) := by
          have h1 := unhide hcost
          rw [unhide hdr, costZ, if_pos hbad] at h1
          exact h1.symm
        have hfin := hide hfin
        by_cases hm : D.may x
        · have hmb := hide (mayB_true hm)
          have hn1 : 1000 < x.n := by rcases hbad with h | h; exact absurd hm h; exact h
          clear hbad hm
          go_wp2_with fail
          refine (may_any x _).mono ?_
          rintro e w2 ⟨rfl, hb2⟩
          rw [unhide hmb]
          obtain ⟨d1, d2, d3⟩ := box_cells hb2
          go_wp2_with fail
          go_ret2
          rw [unhide hfin]
          exact ⟨rfl, box_below hbel hb2⟩
        · have hmb := hide (mayB_false hm)
          clear hbad hm
          go_wp2_with fail
          refine (may_any x _).mono ?_
          rintro e w2 ⟨rfl, hb2⟩
          rw [unhide hmb]
          go_wp2_with fail
          go_ret2
          rw [unhide hfin]
          exact ⟨rfl, box_below hbel hb2⟩
      · have hstep : costZ (if x.kind = 1 then m else wrap64 (m + D.one x)) (l.drop (k + 1)) = costZ 0 l := by
          have h1 := unhide hcost
          rw [unhide hdr, costZ, if_neg hbad] at h1
          exact h1
        rw [not_or, Classical.not_not] at hbad
        obtain ⟨hm, hn1⟩ := hbad
        have hmb := hide (mayB_true hm)
        by_cases hk1 : x.kind = 1
        · rw [if_pos hk1] at hstep
          have hstep := hide hstep
          have hk1' : (x.kind != 1) = false := by rw [hk1]; rfl
          clear hm hk1
          go_wp2_with fail
          refine (may_any x _).mono ?_
          rintro e w2 ⟨rfl, hb2⟩
          rw [unhide hmb]
          obtain ⟨d1, d2, d3⟩ := box_cells hb2
          go_wp2_with fail
          go_roundw
          case rel => exact ⟨k + 1, m, by go_num, rfl, by omega, unhide hstep, hm1, hm2, box_below hbel hb2⟩
          case measure => simp [intOf]; omega
        · rw [if_neg hk1] at hstep
          have hstep := hide hstep
          have hk1' : (x.kind != 1) = true := by rw [bne_iff_ne]; exact hk1
          have hone := hide (show (x.n + (bs x.text).size) = D.one x by
            unfold D.one; rw [if_neg hk1, bs_size]
            rcases hm with ⟨_, h, _⟩ | ⟨_, h, _⟩ <;> omega)
          have hn0 : 0 ≤ x.n := by rcases hm with ⟨_, h, _⟩ | ⟨_, h, _⟩ <;> omega
          have hsz : (bs x.text).size ≤ 140737488355328 := by have := unhide hxo; unfold EdOk at this; rw [bs_size]; exact this
          clear hm hk1
          go_wp2_with fail
          refine (may_any x _).mono ?_
          rintro e w2 ⟨rfl, hb2⟩
          rw [unhide hmb]
          obtain ⟨d1, d2, d3⟩ := box_cells hb2
          go_wp2_with fail
          rw [unhide hone]
          have hw := wrap64_bounds (m + D.one x)
          refine ⟨⟨k + 1, _, by go_num, rfl, by omega, unhide hstep, hw.1, hw.2, box_below hbel hb2⟩, by simp [intOf]; omega⟩
    · have hcost := hide hcost
      go_wp2_with fail
      go_ret2
      have h1 := unhide hcost
      rw [List.drop_eq_nil_of_le (by have := unhide HN; omega), costZ] at h1
      rw [← h1]
      exact ⟨rfl, hbel⟩
end Go.Proofs.Ytakkjehmekekbaa
