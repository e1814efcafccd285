/- delta.Make, at every base and target. -/
import Derived.Test.YtdhgobflbacgbaaFlush
import Derived.Test.YtdhgobflbacgbaaMatches
namespace Go.Proofs.Ytdhgobflbacgbaa
open Go.RowKit

theorem Wr.rekeep {w0 ws ws' w : World} {kept kept' : Nat → Prop} {g : Nat} {vo vr : Value} {out rest : List UInt8} (h : Wr w0 ws kept w g vo out vr rest)
    (hk : ∀ k, kept' k → k < w.heap.size ∧ k ≠ g ∧ vo.ownBlock ≠ some k ∧ vr.ownBlock ≠ some k ∧ w.heap[k]? = ws'.heap[k]?) : Wr w0 ws' kept' w g vo out vr rest :=
  ⟨h.blk, h.oo, h.ow, h.no, h.nr, h.nn, h.bel, h.ge, hk⟩
/-- a block that is new is none of the writer's -/
theorem Wr.newer {w0 ws w : World} {kept : Nat → Prop} {g : Nat} {vo vr : Value} {out rest : List UInt8} (h : Wr w0 ws kept w g vo out vr rest) {k : Nat} (hk : w.heap.size ≤ k) : k ≠ g ∧ vo.ownBlock ≠ some k ∧ vr.ownBlock ≠ some k :=
  ⟨fun e => by have := h.blk.lt; omega, fun e => by have := (h.oo.lt k e).2; omega, fun e => by have := (h.ow.lt k e).2; omega⟩
theorem Wr.init (w : World) : Wr w w (fun _ => False) (w.alloc (.cells #[.slice none 0 0, .slice none 0 0] 70)) w.heap.size (.slice none 0 0) [] (.slice none 0 0) [] :=
  ⟨Blk.new w 70 _, World.ownsRow_nil _ _ _ _, World.ownsRow_nil _ _ _ _, by simp [Value.ownBlock], by simp [Value.ownBlock], by simp [Value.ownBlock], (Below.refl _ _).alloc (Nat.le_refl _) _, Nat.le_refl _, fun _ h => h.elim⟩

/-- what comes of the call -/
def KRes (w : World) (q : List UInt8) (e : Ending) (w' : World) : Prop :=
  ∃ A c, e = .returned (.tuple #[.slice A q.length c, .int .i64 0]) ∧ w'.ownsRow w.heap.size 5 1 (.slice A q.length c) q.length (bvs q) ∧ Below w.heap.size w w'

theorem wnum_z {w0 ws w : World} {kept : Nat → Prop} {g : Nat} {vo vr : Value} {out rest : List UInt8} (z : Int) (N : Nat) (hz : z = (N : Int)) (hN : N < 9223372036854775808) (ho : out.length ≤ 140737488355000) (h : Wr w0 ws kept w g vo out vr rest) :
    Calls Try.prog 43 #[.pointer (some ⟨g, 0, none⟩), .int .i64 z] w fun e w' => WRes w0 ws kept g (out ++ W.num N) vr rest e w' := by
  subst hz
  exact wnum_any N hN ho h

/-- what holds at the loop's head: j places are done -/
def DRel (w w3 : World) (Bb : Nat) (base t Q : List UInt8) (j : Nat) (wr : World) : Prop :=
  ∃ vo out vr rest, Wr w w3 (fun k => k = Bb) wr w.heap.size vo out vr rest ∧ out ++ E.mk base (t.drop j) rest = Q ∧ rest.length ≤ j

/-- the round's new block -/
theorem Wr.match_ {w0 ws w : World} {Bb : Nat} {g : Nat} {vo vr : Value} {out rest : List UInt8} (h : Wr w0 ws (fun k => k = Bb) w g vo out vr rest) (o : Obj) :
    Wr w0 (w.alloc o) (fun k => k = Bb ∨ k = w.heap.size) (w.alloc o) g vo out vr rest := by
  have h1 := h.below ((Below.refl _ _).alloc (Nat.le_refl _) o)
  refine h1.rekeep fun k hk => ?_
  rcases hk with rfl | rfl
  · obtain ⟨a, b, c, d, e⟩ := h1.kp _ rfl
    exact ⟨a, b, c, d, rfl⟩
  · obtain ⟨b, c, d⟩ := h.newer (Nat.le_refl w.heap.size)
    exact ⟨by simp, b, c, d, rfl⟩
/-- the round is over -/
theorem Wr.back {w0 ws w1 w : World} {Bb Bm : Nat} {g : Nat} {vo vr : Value} {out rest : List UInt8} (h : Wr w0 w1 (fun k => k = Bb ∨ k = Bm) w g vo out vr rest) (hs : w1.heap[Bb]? = ws.heap[Bb]?) :
    Wr w0 ws (fun k => k = Bb) w g vo out vr rest :=
  h.rekeep fun k hk => by
    subst hk
    obtain ⟨a, b, c, d, e⟩ := h.kp k (.inl rfl)
    exact ⟨a, b, c, d, e.trans hs⟩
theorem Wr.cell_kept {w0 ws w : World} {kept : Nat → Prop} {g k : Nat} {vo vr : Value} {out rest : List UInt8} (h : Wr w0 ws kept w g vo out vr rest) (hk : kept k) (i : Nat) : w.cell? ⟨k, i, none⟩ = ws.cell? ⟨k, i, none⟩ :=
  World.cell?_of_block (w := ws) (h.kp k hk).2.2.2.2

set_option maxRecDepth 100000 in
set_option maxHeartbeats 2000000 in
theorem make_ok (Ab At : Option Addr) (base t : List UInt8) (nb cb nt ct : Nat) (w : World) (hnb : base.length = nb) (hnt : t.length = nt) (hb : nb ≤ 4096) (ht : nt ≤ 4096)
    (hrb : Reads w w.heap.size 1 Ab nb (bvs base)) (hrt : Reads w w.heap.size 1 At nt (bvs t)) :
    Calls Try.prog 37 #[.slice Ab nb cb, .slice At nt ct] w fun e w' => KRes w (W.num nb ++ (W.num nt ++ E.mk base t [])) e w' := by
  have h0 := Wr.init w
  have hb' : ¬ (4096 : Int) < nb := by omega
  have ht' : ¬ (4096 : Int) < nt := by omega
  have hb9 := W.num_len9 (n := nb) (by omega)
  have ht9 := W.num_len9 (n := nt) (by omega)
  replace hnb := hide hnb
  replace hnt := hide hnt
  go_enter Try.func37, Try.ntmps37
  go_wp2_with fail
  refine (wnum_any nb (by omega) (by simp) h0).mono ?_
  rintro e w1 ⟨rfl, vo1, h1⟩
  go_wp2_with fail
  refine (wnum_any nt (by omega) (by simp; omega) h1).mono ?_
  rintro e w2 ⟨rfl, vo2, h2⟩
  go_wp2_with fail
  refine (matches_any Ab At base t nb cb nt ct w2 (unhide hnb) (unhide hnt) hb ht ((hrb.below h2.bel).more h2.size) ((hrt.below h2.bel).more h2.size)).mono ?_
  rintro e w3 ⟨rfl, hB, hbel3⟩
  have hQ : (W.num nb ++ (W.num nt ++ E.mk base t [])).length ≤ 5000 := by
    have := E.mk_len base (by have := unhide hnb; omega) t.length t [] (Nat.le_refl _) (by have := unhide hnt; simp; omega)
    have := unhide hnt
    simp at *
    omega
  have HD : DRel w w3 w2.heap.size base t (W.num nb ++ (W.num nt ++ E.mk base t [])) 0 w3 := by
    refine ⟨vo2, _, _, [], (h2.below hbel3).rekeep (fun k hk => ?_), by simp, by simp⟩
    subst hk
    obtain ⟨a, b, c⟩ := h2.newer (Nat.le_refl w2.heap.size)
    exact ⟨hB.lt, a, b, c, rfl⟩
  clear h0 h1 h2 hb9 ht9 hbel3
  generalize hQe : W.num nb ++ (W.num nt ++ E.mk base t []) = Q at *
  replace hQe := hide hQe
  replace HD := hide HD
  go_wp2_with fail
  go_loopg [9, 10] nt (fun k i _ wr => ∃ j : Nat, i = .int .i64 j ∧ nt ≤ k + j ∧ j ≤ nt ∧ DRel w w3 w2.heap.size base t Q j wr)
  case atStart => exact ⟨0, rfl, by omega, by omega, unhide HD⟩
  case round =>
    clear HD
    obtain ⟨j, rfl, hk, hj, vo, out, vr, rest, h, hq, hrl⟩ := hrel
    have hol : out.length ≤ 5000 := by rw [← hq] at hQ; simp at hQ; omega
    replace hq := hide hq
    by_cases hlt : j < nt
    · have hlt' : (j : Int) < nt := by omega
      have hB0 : wr.cell? ⟨w2.heap.size, j * 2, none⟩ = some (.int .i64 (E.bst (t.drop j) 0 base).1) := by
        rw [h.cell_kept rfl, hB.cell (by omega)]; unfold bc; rw [if_pos (by omega), if_pos (by omega), show j * 2 / 2 = j by omega]
      have hB1 : wr.cell? ⟨w2.heap.size, j * 2 + 1, none⟩ = some (.int .i64 (E.bst (t.drop j) 0 base).2) := by
        rw [h.cell_kept rfl, hB.cell (by omega)]; unfold bc; rw [if_pos (by omega), if_neg (by omega), show (j * 2 + 1) / 2 = j by omega]
      have hbl := E.best_le base (t.drop j)
      have hjl : j < t.length := by have := unhide hnt; omega
      have hdt : t.drop j = t[j] :: t.drop (j + 1) := List.drop_eq_getElem_cons hjl
      have hqo := fun (h8 : (E.bst (t.drop j) 0 base).2 < 8) => (show out ++ E.mk base (t.drop (j + 1)) (rest ++ [t[j]]) = Q by
          rw [← E.mk_own (y := t[j]) (t := t.drop (j + 1)) (by rw [← hdt]; exact h8), ← hdt]; exact unhide hq)
      have hqc := fun (h8 : 8 ≤ (E.bst (t.drop j) 0 base).2) => (show out ++ E.flush rest ++ W.num (2 * (E.bst (t.drop j) 0 base).2 + 1) ++ W.num (E.bst (t.drop j) 0 base).1 ++ E.mk base (t.drop (j + (E.bst (t.drop j) 0 base).2)) [] = Q by
          have := unhide hq
          rw [E.mk_copy h8, List.drop_drop] at this
          rw [← this]; simp)
      obtain ⟨at_, u, hA, _, hu, hct⟩ := ((hrt.below h.bel).at_ hlt)
      subst hA
      obtain rfl : bv t[j] = u := by rw [bvs_get hjl] at hu; injection hu
      rw [List.length_drop, unhide hnt, unhide hnb] at hbl
      clear hdt hu
      generalize t[j] = y at *
      generalize E.bst (t.drop j) 0 base = m at *
      obtain ⟨p, n⟩ := m
      simp only at hB0 hB1 hbl hqo hqc
      have hm := h.match_ (.cells #[.int .i64 p, .int .i64 n] 75)
      have hkb := hide (show (wr.alloc (.cells #[.int .i64 p, .int .i64 n] 75)).heap[w2.heap.size]? = w3.heap[w2.heap.size]? from (Below.heap_alloc _ _ _ (h.kp _ rfl).1).trans (h.kp _ rfl).2.2.2.2)
      have hnewm := Blk.new wr 75 #[.int .i64 p, .int .i64 n]
      have hsz := h.size
      by_cases h8 : n < 8
      · have h8' : (n : Int) < 8 := by omega
        replace hqo := hide (hqo h8)
        clear hqc
        have hc11 := hm.c1
        have hf11 := hm.f1
        have hc0 : (wr.alloc (.cells #[.int .i64 p, .int .i64 n] 75)).cell? (at_.add j) = some (.int .u8 y.toNat) := ((Below.refl _ _).alloc (Nat.le_refl _) _ |>.cell (p := at_.add j) (by rw [block_of_add]; omega)).trans hct
        clear hct
        obtain ⟨Ar, cr, rfl, _, _⟩ := own_form h.ow
        go_upto_region 12 with (fail)
        generalize wr.alloc (.cells #[.int .i64 p, .int .i64 n] 75) = wm at *
        have hmA := hide (hm.below (((Below.refl _ _).alloc (Nat.le_refl _) (.cells #[.int .u8 y.toNat] 5)).drew))
        have HR := hide (show Reads ((wm.alloc (.cells #[.int .u8 y.toNat] 5)).drew) (wm.heap.size + 1) 1 (some ⟨wm.heap.size, 0, none⟩) 1 [.int .u8 y.toNat] from (reads_new wm #[.int .u8 y.toNat] 5).drew)
        have hfz : ∀ (w4 : World) (v' : Value), Gr ((wm.alloc (.cells #[.int .u8 y.toNat] 5)).drew) w4 (.slice Ar rest.length cr) v' → w4.cell? ⟨w.heap.size, 1, none⟩ = some (.slice Ar rest.length cr) ∧ w4.frozen? ⟨w.heap.size, 1, none⟩ = false := fun _ _ hgr => by
          have hb := (unhide hmA).blk.grown hgr.g (fun he => (unhide hmA).nr he.symm)
          exact ⟨hb.cell 1, hb.frozen 1⟩
        replace hfz := hide hfz
        have hca : (wm.alloc (.cells #[.int .u8 y.toNat] 5)).cell? ⟨w.heap.size, 1, none⟩ = some (.slice Ar rest.length cr) := (hm.blk.alloc _).cell 1
        replace hm := hide hm
        clear h
        go_region_law (refine step_appS rfl (.tmp 43) (.tmp 48) _ rfl et22 w.heap.size (.slice Ar rest.length cr) rest.length (bvs rest) rfl (unhide hmA).ow _ _ 1 1 _ rfl (unhide HR) (by simp [Value.oneCell']) (by omega) (by decide) (unhide hmA).size ?_; intro A4 c4 w4 hown4 hgr4 hcap4; have h4 := hide ((unhide hmA).app1 (s := [y]) rfl hown4 hgr4); obtain ⟨c14, f14⟩ := (unhide hfz) _ _ hgr4)
        all_goals go_wp2_with fail
        all_goals go_roundg (gk - 1)
        all_goals try (case measure => omega)
        all_goals exact ⟨j + 1, by go_num, by omega, by omega, vo, out, _, rest ++ [y], (unhide h4).back (unhide hkb), unhide hqo, by simp; omega⟩
      · have h8' : ¬ (n : Int) < 8 := by omega
        have hq1 := hqc (by omega)
        have hlq : (out ++ E.flush rest ++ W.num (2 * n + 1) ++ W.num p).length ≤ 5000 := by rw [← hq1] at hQ; simp at hQ ⊢; omega
        simp only [List.length_append] at hlq
        replace hq1 := hide hq1
        have hnew0 := hnewm.cell 0
        have hnew1 := hnewm.cell 1
        clear hqo hqc hct
        have hfl := hide (flush_any (by omega) (by omega) hm)
        go_wp2_with fail
        refine (unhide hfl).mono ?_
        rintro e w4 ⟨rfl, vo4, vr4, h4⟩
        have c41 : w4.cell? ⟨wr.heap.size, 1, none⟩ = some (.int .i64 n) := (h4.cell_kept (.inr rfl) 1).trans hnew1
        go_wp2_with fail
        refine (wnum_z _ (2 * n + 1) (by omega) (by omega) (by simp; omega) h4).mono ?_
        rintro e w5 ⟨rfl, vo5, h5⟩
        have c50 : w5.cell? ⟨wr.heap.size, 0, none⟩ = some (.int .i64 p) := (h5.cell_kept (.inr rfl) 0).trans hnew0
        clear c41
        go_wp2_with fail
        refine (wnum_z _ p (by omega) (by omega) (by simp; omega) h5).mono ?_
        rintro e w6 ⟨rfl, vo6, h6⟩
        have c61 : w6.cell? ⟨wr.heap.size, 1, none⟩ = some (.int .i64 n) := (h6.cell_kept (.inr rfl) 1).trans hnew1
        clear c50
        go_wp2_with fail
        go_roundg (gk - n)
        case measure => omega
        case rel => exact ⟨j + n, by go_num, by omega, by omega, vo6, _, vr4, [], h6.back (unhide hkb), unhide hq1, by simp⟩
    · obtain rfl : j = nt := by omega
      have hlt' : ¬ (j : Int) < j := by omega
      have hdn : t.drop j = [] := List.drop_eq_nil_of_le (by have := unhide hnt; omega)
      have hq1 : out ++ E.flush rest = Q := by have := unhide hq; rw [hdn, E.mk_nil] at this; exact this
      have hfl := hide (flush_any (by omega) (by omega) h)
      replace hq1 := hide hq1
      clear hdn hlt
      go_wp2_with fail
      refine (unhide hfl).mono ?_
      rintro e w4 ⟨rfl, vo4, vr4, h4⟩
      rw [unhide hq1] at h4
      obtain ⟨A4, cc4, rfl, _, _⟩ := own_form h4.oo
      have c40 := h4.c0
      go_wp2_with fail
      go_ret2
      rw [unhide hQe]
      exact ⟨_, _, rfl, h4.oo, h4.bel⟩

set_option maxRecDepth 100000 in
set_option maxHeartbeats 400000 in
theorem make_long (Ab At : Option Addr) (nb cb nt ct : Nat) (w : World) (hb : nb ≤ 140737488355328) (ht : nt ≤ 140737488355328) (h : 4096 < nb ∨ 4096 < nt) :
    Calls Try.prog 37 #[.slice Ab nb cb, .slice At nt ct] w fun e w' => e = .returned (.tuple #[.slice none 0 0, .int .i64 3]) ∧ w = w' := by
  by_cases h1 : 4096 < nb
  · have h1' : (4096 : Int) < nb := by omega
    clear h h1
    go_enter Try.func37, Try.ntmps37
    go_wp2_with fail
    go_ret2
    exact ⟨rfl, rfl⟩
  · have h1' : ¬ (4096 : Int) < nb := by omega
    have h2' : (4096 : Int) < nt := by omega
    clear h h1
    go_enter Try.func37, Try.ntmps37
    go_wp2_with fail
    go_ret2
    exact ⟨rfl, rfl⟩

/-- delta.Make: what the document says -/
theorem make_any (Ab At : Option Addr) (base t : List UInt8) (nb cb nt ct : Nat) (w : World) (hnb : base.length = nb) (hnt : t.length = nt) (hb : nb ≤ 140737488355000) (ht : nt ≤ 140737488355000)
    (hrb : Reads w w.heap.size 1 Ab nb (bvs base)) (hrt : Reads w w.heap.size 1 At nt (bvs t)) {q : List UInt8} {z : Nat} (h : E.make base t = (q, z)) :
    Calls Try.prog 37 #[.slice Ab nb cb, .slice At nt ct] w fun e w' => ∃ A c, e = .returned (.tuple #[.slice A q.length c, .int .i64 z]) ∧ w'.ownsRow w.heap.size 5 1 (.slice A q.length c) q.length (bvs q) ∧ Below w.heap.size w w' := by
  unfold E.make at h
  by_cases h1 : 4096 < base.length ∨ 4096 < t.length
  · rw [if_pos h1] at h
    simp only [Prod.mk.injEq] at h
    obtain ⟨rfl, rfl⟩ := h
    refine (make_long Ab At nb cb nt ct w (by omega) (by omega) (by omega)).mono ?_
    rintro e w' ⟨rfl, rfl⟩
    exact ⟨none, 0, rfl, World.ownsRow_nil _ _ _ _, Below.refl _ _⟩
  · rw [if_neg h1] at h
    simp only [Prod.mk.injEq] at h
    obtain ⟨rfl, rfl⟩ := h
    have := make_ok Ab At base t nb cb nt ct w hnb hnt (by omega) (by omega) hrb hrt
    rw [hnb, hnt]
    exact this
end Go.Proofs.Ytdhgobflbacgbaa
