/- delta.Apply, at every base and delta. -/
import Derived.Test.YtdhgobflbacgbaaReader
import Derived.Test.YtdhgobflbacgbaaRApply
import Derived.Deep.LoopGhost
namespace Go.Proofs.Ytdhgobflbacgbaa
open Go.RowKit

/-- where the call stands: its reader, its own row, what was there -/
structure St (w0 w : World) (g : Nat) (D : Value) (p e : Int) (v : Value) (o : List UInt8) : Prop where
  blk : Blk w g 66 #[D, .int .i64 p, .int .i64 e]
  own : w.ownsRow w0.heap.size 5 1 v o.length (bvs o)
  ne : v.ownBlock ≠ some g
  bel : Below w0.heap.size w0 w
  ge : w0.heap.size ≤ g
section
variable {w0 w w' : World} {g : Nat} {D v : Value} {p e p' e' : Int} {o : List UInt8}
theorem St.step (h : St w0 w g D p e v o) (hb : Blk w' g 66 #[D, .int .i64 p', .int .i64 e']) (hg : w.grownBy w' (some g)) : St w0 w' g D p' e' v o :=
  ⟨hb, h.own.kept hg (.inr h.ne), h.ne, h.bel.grown hg h.bel.size (fun k hk => by injection hk with hk; subst hk; exact h.ge), h.ge⟩
theorem St.reads (h : St w0 w g D p e v o) {size n : Nat} {A : Option Addr} {xs : List Value} (hr : Reads w0 w0.heap.size size A n xs) : Reads w w0.heap.size size A n xs := hr.below h.bel
theorem St.c1 (h : St w0 w g D p e v o) : w.cell? ⟨g, 1, none⟩ = some (.int .i64 p) := h.blk.cell 1
theorem St.c2 (h : St w0 w g D p e v o) : w.cell? ⟨g, 2, none⟩ = some (.int .i64 e) := h.blk.cell 2
theorem St.f1 (h : St w0 w g D p e v o) : w.frozen? ⟨g, 1, none⟩ = false := h.blk.frozen 1
theorem St.f2 (h : St w0 w g D p e v o) : w.frozen? ⟨g, 2, none⟩ = false := h.blk.frozen 2
theorem St.set1 (h : St w0 w g D p e v o) (x : Int) : St w0 (w.setCell ⟨g, 1, none⟩ (.int .i64 x)) g D x e v o := h.step (h.blk.set_ 1 _) (only_set _ _ _)
theorem St.drewN (h : St w0 w g D p e v o) (k : Nat) : St w0 (w.drewN k) g D p e v o :=
  ⟨h.blk, h.own, h.ne, below_drewN h.bel k, h.ge⟩
theorem St.app (h : St w0 w g D p e v o) {v' : Value} {s : List UInt8} {n : Nat} (hn : s.length = n) (hown : w'.ownsRow w0.heap.size 5 1 v' (o.length + n) (bvs o ++ bvs s)) (hg : Gr w w' v v') : St w0 w' g D p e v' (o ++ s) := by
  refine ⟨h.blk.grown hg.g (fun he => h.ne he.symm), by rw [List.length_append, bvs_append, hn]; exact hown, ?_, h.bel.trans (hg.below h.bel.size (fun k hk => (h.own.lt k hk).1)), h.ge⟩
  rcases hg.at_ with he | ⟨k, he, hk⟩
  · rw [he]; exact h.ne
  · rw [he]; intro hx; injection hx with hx; have := h.blk.lt; omega
theorem St.size (h : St w0 w g D p e v o) : w0.heap.size ≤ w.heap.size := h.bel.size
end

/-- what comes of the call -/
def ARes (w : World) (q : List UInt8) (z : Nat) (e : Ending) (w' : World) : Prop :=
  ∃ A c, e = .returned (.tuple #[.slice A q.length c, .int .i64 z]) ∧ w'.ownsRow w.heap.size 5 1 (.slice A q.length c) q.length (bvs q) ∧ Below w.heap.size w w'
theorem ARes.none_ {w w' : World} {q : List UInt8} {z : Nat} (hq : q = []) (hb : Below w.heap.size w w') : ARes w q z (.returned (.tuple #[.slice none 0 0, .int .i64 z])) w' := by
  subst hq
  exact ⟨none, 0, rfl, World.ownsRow_nil _ _ _ _, hb⟩

theorem St.init (w : World) (D : Value) : St w (w.alloc (.cells #[D, .int .i64 0, .int .i64 0] 66)) w.heap.size D 0 0 (.slice none 0 0) [] :=
  ⟨Blk.new w 66 _, World.ownsRow_nil _ _ _ _, by simp [Value.ownBlock], (Below.refl _ _).alloc (Nat.le_refl _) _, Nat.le_refl _⟩

set_option maxRecDepth 100000 in
set_option maxHeartbeats 1000000 in
theorem apply_bad1 (Ab Ad : Option Addr) (base d : List UInt8) (nb cb nd cd : Nat) (w : World) (z : Nat) (hb : nb ≤ 4096) (hnd : d.length = nd) (hd : nd ≤ 140737488355000)
    (hrd : Reads w w.heap.size 1 Ad nd (bvs d)) (h1 : W.gnum d 0 = (0, 0, z)) (hz : z ≠ 0) :
    Calls Try.prog 35 #[.slice Ab nb cb, .slice Ad nd cd] w fun e w' => ARes w [] z e w' := by
  have hc := fun w0 hr hbk => dnum_yes w.heap.size w.heap.size Ad d nd cd 0 0 0 z w0 hnd (by omega) hr hbk h1
  replace hc := hide hc
  have hz' : (z : Int) ≠ 0 := by omega
  have hz2 : ((z : Int) == 0) = false := beq_eq_false_iff_ne.2 hz'
  have hz3 : ((z : Int) != 0) = true := by rw [bne_iff_ne]; omega
  replace hz' := hide hz'
  clear hz h1
  replace hnd := hide hnd
  have st0 := St.init w (.slice Ad nd cd)
  go_enter Try.func35, Try.ntmps35
  go_wp2_with fail
  refine ((unhide hc) _ (st0.reads hrd) st0.blk).mono ?_
  rintro e1 w1 ⟨rfl, hb1, hg1⟩
  have st1 := st0.step hb1 hg1
  clear hb1 hg1
  have c1 := st1.c1
  have c2 := st1.c2
  go_wp2_with fail
  refine (refuse_no _ _ _ _ _ _ _ st1.blk (.inl (unhide hz'))).mono ?_
  rintro e2 w2 ⟨rfl, rfl⟩
  go_wp2_with fail
  refine (dnum_no _ _ _ _ _ st1.blk (unhide hz')).mono ?_
  rintro e2 w2 ⟨rfl, rfl⟩
  go_wp2_with fail
  refine (refuse_no _ _ _ _ _ _ _ st1.blk (.inl (unhide hz'))).mono ?_
  rintro e2 w2 ⟨rfl, rfl⟩
  go_wp2_with fail
  refine wp_loop_rounds 1 ?_
  rw [rounds_succ]
  go_wp2_with fail
  refine (refuse_no _ _ _ _ _ _ _ st1.blk (.inl (unhide hz'))).mono ?_
  rintro e2 w2 ⟨rfl, rfl⟩
  go_wp2_with fail
  go_quiet (fail)
  go_wp2_with fail
  go_ret2
  exact ARes.none_ rfl (below_drewN st1.bel _)

set_option maxRecDepth 100000 in
set_option maxHeartbeats 1000000 in
theorem apply_bad2 (Ab Ad : Option Addr) (base d : List UInt8) (nb cb nd cd : Nat) (w : World) (n x : Nat) (hb : nb ≤ 4096) (hnd : d.length = nd) (hd : nd ≤ 140737488355000)
    (hrd : Reads w w.heap.size 1 Ad nd (bvs d)) (h1 : W.gnum d 0 = (n, x, 0)) (hn : n ≠ nb) :
    Calls Try.prog 35 #[.slice Ab nb cb, .slice Ad nd cd] w fun e w' => ARes w [] 1 e w' := by
  have hc := fun w0 hr hbk => dnum_yes w.heap.size w.heap.size Ad d nd cd 0 n x 0 w0 hnd (by omega) hr hbk h1
  replace hc := hide hc
  have hn' : ((n : Int) != (nb : Int)) = true := by rw [bne_iff_ne]; omega
  have hz' := hide (show (1 : Int) ≠ 0 by omega)
  clear hn h1
  replace hnd := hide hnd
  have st0 := St.init w (.slice Ad nd cd)
  go_enter Try.func35, Try.ntmps35
  go_wp2_with fail
  refine ((unhide hc) _ (st0.reads hrd) st0.blk).mono ?_
  rintro e1 w1 ⟨rfl, hb1, hg1⟩
  have st1 := st0.step hb1 hg1
  clear hb1 hg1
  have c1 := st1.c1
  have c2 := st1.c2
  go_wp2_with fail
  refine (refuse_yes _ _ _ _ _ st1.blk).mono ?_
  rintro e1 w2 ⟨rfl, hb2, hg2⟩
  have st2 := st1.step hb2 hg2
  clear hb2 hg2 c1 c2
  have c1 := st2.c1
  have c2 := st2.c2
  go_wp2_with fail
  refine (dnum_no _ _ _ _ _ st2.blk (unhide hz')).mono ?_
  rintro e2 w2 ⟨rfl, rfl⟩
  go_wp2_with fail
  refine (refuse_no _ _ _ _ _ _ _ st2.blk (.inl (unhide hz'))).mono ?_
  rintro e2 w2 ⟨rfl, rfl⟩
  go_wp2_with fail
  refine wp_loop_rounds 1 ?_
  rw [rounds_succ]
  go_wp2_with fail
  refine (refuse_no _ _ _ _ _ _ _ st2.blk (.inl (unhide hz'))).mono ?_
  rintro e2 w2 ⟨rfl, rfl⟩
  go_wp2_with fail
  go_quiet (fail)
  go_wp2_with fail
  go_ret2
  exact ARes.none_ rfl (below_drewN st2.bel _)

set_option maxRecDepth 100000 in
set_option maxHeartbeats 1000000 in
theorem apply_bad3 (Ab Ad : Option Addr) (base d : List UInt8) (nb cb nd cd : Nat) (w : World) (x z : Nat) (hb : nb ≤ 4096) (hnd : d.length = nd) (hd : nd ≤ 140737488355000)
    (hrd : Reads w w.heap.size 1 Ad nd (bvs d)) (h1 : W.gnum d 0 = (nb, x, 0)) (h2 : W.gnum d x = (0, 0, z)) (hz : z ≠ 0) :
    Calls Try.prog 35 #[.slice Ab nb cb, .slice Ad nd cd] w fun e w' => ARes w [] z e w' := by
  have hc := fun w0 hr hbk => dnum_yes w.heap.size w.heap.size Ad d nd cd 0 nb x 0 w0 hnd (by omega) hr hbk h1
  replace hc := hide hc
  have hd2 := fun w0 hr hbk => dnum_yes w.heap.size w.heap.size Ad d nd cd x 0 0 z w0 hnd (by omega) hr hbk h2
  replace hd2 := hide hd2
  have hz' : (z : Int) ≠ 0 := by omega
  have hz2 : ((z : Int) == 0) = false := beq_eq_false_iff_ne.2 hz'
  have hz3 : ((z : Int) != 0) = true := by rw [bne_iff_ne]; omega
  replace hz' := hide hz'
  clear hz h1 h2
  replace hnd := hide hnd
  have st0 := St.init w (.slice Ad nd cd)
  go_enter Try.func35, Try.ntmps35
  go_wp2_with fail
  refine ((unhide hc) _ (st0.reads hrd) st0.blk).mono ?_
  rintro e1 w1 ⟨rfl, hb1, hg1⟩
  have st1 := st0.step hb1 hg1
  clear hb1 hg1
  have c1 := st1.c1
  have c2 := st1.c2
  go_wp2_with fail
  refine (refuse_no _ _ _ _ _ _ _ st1.blk (.inr (by simp))).mono ?_
  rintro e2 w2 ⟨rfl, rfl⟩
  clear c1 c2
  go_wp2_with fail
  refine ((unhide hd2) _ (st1.reads hrd) st1.blk).mono ?_
  rintro e1 w2 ⟨rfl, hb2, hg2⟩
  have st2 := st1.step hb2 hg2
  clear hb2 hg2
  have c1 := st2.c1
  have c2 := st2.c2
  go_wp2_with fail
  refine (refuse_no _ _ _ _ _ _ _ st2.blk (.inl (unhide hz'))).mono ?_
  rintro e2 w2 ⟨rfl, rfl⟩
  go_wp2_with fail
  refine wp_loop_rounds 1 ?_
  rw [rounds_succ]
  go_wp2_with fail
  refine (refuse_no _ _ _ _ _ _ _ st2.blk (.inl (unhide hz'))).mono ?_
  rintro e2 w2 ⟨rfl, rfl⟩
  go_wp2_with fail
  go_quiet (fail)
  go_wp2_with fail
  go_ret2
  exact ARes.none_ rfl (below_drewN st2.bel _)

set_option maxRecDepth 100000 in
set_option maxHeartbeats 1000000 in
theorem apply_bad4 (Ab Ad : Option Addr) (base d : List UInt8) (nb cb nd cd : Nat) (w : World) (x n y : Nat) (hb : nb ≤ 4096) (hnd : d.length = nd) (hd : nd ≤ 140737488355000)
    (hrd : Reads w w.heap.size 1 Ad nd (bvs d)) (h1 : W.gnum d 0 = (nb, x, 0)) (h2 : W.gnum d x = (n, y, 0)) (hn : 4096 < n) :
    Calls Try.prog 35 #[.slice Ab nb cb, .slice Ad nd cd] w fun e w' => ARes w [] 3 e w' := by
  have hc := fun w0 hr hbk => dnum_yes w.heap.size w.heap.size Ad d nd cd 0 nb x 0 w0 hnd (by omega) hr hbk h1
  replace hc := hide hc
  have hd2 := fun w0 hr hbk => dnum_yes w.heap.size w.heap.size Ad d nd cd x n y 0 w0 hnd (by omega) hr hbk h2
  replace hd2 := hide hd2
  have hn' : (4096 : Int) < n := by omega
  have hz' := hide (show (3 : Int) ≠ 0 by omega)
  clear h1 h2
  replace hnd := hide hnd
  have st0 := St.init w (.slice Ad nd cd)
  go_enter Try.func35, Try.ntmps35
  go_wp2_with fail
  refine ((unhide hc) _ (st0.reads hrd) st0.blk).mono ?_
  rintro e1 w1 ⟨rfl, hb1, hg1⟩
  have st1 := st0.step hb1 hg1
  clear hb1 hg1
  have c1 := st1.c1
  have c2 := st1.c2
  go_wp2_with fail
  refine (refuse_no _ _ _ _ _ _ _ st1.blk (.inr (by simp))).mono ?_
  rintro e2 w2 ⟨rfl, rfl⟩
  clear c1 c2
  go_wp2_with fail
  refine ((unhide hd2) _ (st1.reads hrd) st1.blk).mono ?_
  rintro e1 w2 ⟨rfl, hb2, hg2⟩
  have st2 := st1.step hb2 hg2
  clear hb2 hg2
  have c1 := st2.c1
  have c2 := st2.c2
  go_wp2_with fail
  refine (refuse_yes _ _ _ _ _ st2.blk).mono ?_
  rintro e1 w3 ⟨rfl, hb3, hg3⟩
  have st3 := st2.step hb3 hg3
  clear hb3 hg3 c1 c2
  have c1 := st3.c1
  have c2 := st3.c2
  go_wp2_with fail
  refine wp_loop_rounds 1 ?_
  rw [rounds_succ]
  go_wp2_with fail
  refine (refuse_no _ _ _ _ _ _ _ st3.blk (.inl (unhide hz'))).mono ?_
  rintro e2 w2 ⟨rfl, rfl⟩
  go_wp2_with fail
  go_quiet (fail)
  go_wp2_with fail
  go_ret2
  exact ARes.none_ rfl (below_drewN st3.bel _)

set_option maxRecDepth 100000 in
set_option maxHeartbeats 1000000 in
theorem apply_long (Ab Ad : Option Addr) (base d : List UInt8) (nb cb nd cd : Nat) (w : World) (hb : 4096 < nb) (hb2 : nb ≤ 140737488355328) :
    Calls Try.prog 35 #[.slice Ab nb cb, .slice Ad nd cd] w fun e w' => ARes w [] 3 e w' := by
  have h1 : (4096 : Int) < nb := by omega
  go_enter Try.func35, Try.ntmps35
  go_wp2_with fail
  go_ret2
  exact ARes.none_ rfl (Below.refl _ _)
end Go.Proofs.Ytdhgobflbacgbaa
