/- delta's writer: num and flush, at every state. -/
import Derived.Test.YtdhgobflbacgbaaReader
import Derived.Deep.RegionLaw
namespace Go.Proofs.Ytdhgobflbacgbaa
open Go.RowKit

/-- where the call stands: its writer, its two own rows, what was there, and what it keeps -/
structure Wr (w0 ws : World) (kept : Nat → Prop) (w : World) (g : Nat) (vo : Value) (out : List UInt8) (vr : Value) (rest : List UInt8) : Prop where
  blk : Blk w g 70 #[vo, vr]
  oo : w.ownsRow w0.heap.size 5 1 vo out.length (bvs out)
  ow : w.ownsRow w0.heap.size 5 1 vr rest.length (bvs rest)
  no : vo.ownBlock ≠ some g
  nr : vr.ownBlock ≠ some g
  nn : ∀ k, vo.ownBlock = some k → vr.ownBlock ≠ some k
  bel : Below w0.heap.size w0 w
  ge : w0.heap.size ≤ g
  kp : ∀ k, kept k → k < w.heap.size ∧ k ≠ g ∧ vo.ownBlock ≠ some k ∧ vr.ownBlock ≠ some k ∧ w.heap[k]? = ws.heap[k]?

theorem own_cut0 {w : World} {base : Nat} {e : TypeId} {A : Option Addr} {n c : Nat} {xs : List Value} (h : w.ownsRow base e 1 (.slice A n c) n xs) : w.ownsRow base e 1 (.slice A 0 c) 0 [] := by
  rcases h.2 with ⟨h1, _⟩ | ⟨g, cap, cur, h1, hb, hh, hn, hc, hs, _⟩
  · injection h1 with e1 e2 e3
    subst e1 e3
    exact World.ownsRow_nil _ _ _ _
  · injection h1 with e1 e2 e3
    subst e1 e3
    exact ⟨rfl, .inr ⟨g, c, cur, rfl, hb, hh, Nat.zero_le _, hc, hs, by simp⟩⟩
theorem blk_set_other {w : World} {g k : Nat} (u : Value) (i : Nat) (h : k ≠ g) : (w.setCell ⟨g, i, none⟩ u).heap[k]? = w.heap[k]? := Below.heap_setCell w ⟨g, i, none⟩ u k h
theorem own_set_other {w : World} {g i base n : Nat} {e : TypeId} {v : Value} {xs : List Value} (h : w.ownsRow base e 1 v n xs) (hg : v.ownBlock ≠ some g) (u : Value) : (w.setCell ⟨g, i, none⟩ u).ownsRow base e 1 v n xs :=
  h.kept (only_set g i u) (.inr hg)

section
variable {w0 ws w w' : World} {kept : Nat → Prop} {g : Nat} {vo vr : Value} {out rest : List UInt8}
theorem Wr.size (h : Wr w0 ws kept w g vo out vr rest) : w0.heap.size ≤ w.heap.size := h.bel.size
theorem Wr.c0 (h : Wr w0 ws kept w g vo out vr rest) : w.cell? ⟨g, 0, none⟩ = some vo := h.blk.cell 0
theorem Wr.c1 (h : Wr w0 ws kept w g vo out vr rest) : w.cell? ⟨g, 1, none⟩ = some vr := h.blk.cell 1
theorem Wr.f0 (h : Wr w0 ws kept w g vo out vr rest) : w.frozen? ⟨g, 0, none⟩ = false := h.blk.frozen 0
theorem Wr.f1 (h : Wr w0 ws kept w g vo out vr rest) : w.frozen? ⟨g, 1, none⟩ = false := h.blk.frozen 1
/-- new memory alone -/
theorem Wr.below (h : Wr w0 ws kept w g vo out vr rest) (hb : Below w.heap.size w w') : Wr w0 ws kept w' g vo out vr rest :=
  ⟨h.blk.below hb h.blk.lt, h.oo.kept (only_of_below hb none) (by cases hv : vo.ownBlock <;> simp), h.ow.kept (only_of_below hb none) (by cases hv : vr.ownBlock <;> simp), h.no, h.nr, h.nn, h.bel.trans (hb.mono h.bel.size), h.ge,
    fun k hk => by
      obtain ⟨a, b, c, d, e⟩ := h.kp k hk
      exact ⟨Nat.lt_of_lt_of_le a hb.size, b, c, d, (hb.block k a).trans e⟩⟩
theorem Wr.drewN (h : Wr w0 ws kept w g vo out vr rest) (k : Nat) : Wr w0 ws kept (w.drewN k) g vo out vr rest := h.below (below_drewN (Below.refl _ _) k)
theorem Wr.drew (h : Wr w0 ws kept w g vo out vr rest) : Wr w0 ws kept w.drew g vo out vr rest := h.below (Below.refl _ _).drew
/-- own bytes put behind what was written -/
theorem Wr.app0 (h : Wr w0 ws kept w g vo out vr rest) {vo' : Value} {s : List UInt8} {n : Nat} (hn : s.length = n) (hown : w'.ownsRow w0.heap.size 5 1 vo' (out.length + n) (bvs out ++ bvs s)) (hg : Gr w w' vo vo') :
    Wr w0 ws kept (w'.setCell ⟨g, 0, none⟩ vo') g vo' (out ++ s) vr rest := by
  have hgb : some g ≠ vo.ownBlock := fun he => h.no he.symm
  have hno : vo'.ownBlock ≠ some g := by
    rcases hg.at_ with he | ⟨k, he, hk⟩
    · rw [he]; exact h.no
    · rw [he]; intro hx; injection hx with hx; have := h.blk.lt; omega
  have hbel : Below w0.heap.size w0 w' := h.bel.trans (hg.below h.bel.size (fun k hk => (h.oo.lt k hk).1))
  refine ⟨?_, ?_, ?_, hno, h.nr, ?_, hbel.setCell (p := ⟨g, 0, none⟩) h.ge _, h.ge, ?_⟩
  · have := (h.blk.grown hg.g hgb).set_ 0 vo'
    simpa using this
  · refine own_set_other ?_ hno vo'
    rw [List.length_append, bvs_append, hn]; exact hown
  · refine own_set_other (h.ow.kept hg.g ?_) h.nr vo'
    cases hv : vr.ownBlock with
    | none => exact .inl rfl
    | some k => exact .inr fun he => h.nn k he.symm hv
  · intro k hk
    rcases hg.at_ with he | ⟨j, he, hj⟩
    · rw [he] at hk; exact h.nn k hk
    · rw [he] at hk; injection hk with hk; subst hk
      intro hx; have := (h.ow.lt j hx).2; omega
  · intro k hk
    obtain ⟨a, b, c, d, e⟩ := h.kp k hk
    refine ⟨?_, b, ?_, d, ?_⟩
    · have := hg.g.size; simp [World.setCell]; omega
    · rcases hg.at_ with he | ⟨j, he, hj⟩
      · rw [he]; exact c
      · rw [he]; intro hx; injection hx with hx; omega
    · rw [blk_set_other _ _ b, hg.g.block k a (fun he => c he.symm), e]
/-- a byte put behind those that wait -/
theorem Wr.app1 (h : Wr w0 ws kept w g vo out vr rest) {vr' : Value} {s : List UInt8} {n : Nat} (hn : s.length = n) (hown : w'.ownsRow w0.heap.size 5 1 vr' (rest.length + n) (bvs rest ++ bvs s)) (hg : Gr w w' vr vr') :
    Wr w0 ws kept (w'.setCell ⟨g, 1, none⟩ vr') g vo out vr' (rest ++ s) := by
  have hgb : some g ≠ vr.ownBlock := fun he => h.nr he.symm
  have hnr : vr'.ownBlock ≠ some g := by
    rcases hg.at_ with he | ⟨k, he, hk⟩
    · rw [he]; exact h.nr
    · rw [he]; intro hx; injection hx with hx; have := h.blk.lt; omega
  have hbel : Below w0.heap.size w0 w' := h.bel.trans (hg.below h.bel.size (fun k hk => (h.ow.lt k hk).1))
  refine ⟨?_, ?_, ?_, h.no, hnr, ?_, hbel.setCell (p := ⟨g, 1, none⟩) h.ge _, h.ge, ?_⟩
  · have := (h.blk.grown hg.g hgb).set_ 1 vr'
    simpa using this
  · refine own_set_other (h.oo.kept hg.g ?_) h.no vr'
    cases hv : vo.ownBlock with
    | none => exact .inl rfl
    | some k => exact .inr fun he => h.nn k hv he.symm
  · refine own_set_other ?_ hnr vr'
    rw [List.length_append, bvs_append, hn]; exact hown
  · intro k hk hx
    rcases hg.at_ with he | ⟨j, he, hj⟩
    · rw [he] at hx; exact h.nn k hk hx
    · rw [he] at hx; injection hx with hx; subst hx
      have := (h.oo.lt j hk).2; omega
  · intro k hk
    obtain ⟨a, b, c, d, e⟩ := h.kp k hk
    refine ⟨?_, b, c, ?_, ?_⟩
    · have := hg.g.size; simp [World.setCell]; omega
    · rcases hg.at_ with he | ⟨j, he, hj⟩
      · rw [he]; exact d
      · rw [he]; intro hx; injection hx with hx; omega
    · rw [blk_set_other _ _ b, hg.g.block k a (fun he => d he.symm), e]
/-- those that wait are none -/
theorem Wr.cut {A : Option Addr} {n c : Nat} (h : Wr w0 ws kept w g vo out (.slice A n c) rest) (hn : rest.length = n) : Wr w0 ws kept (w.setCell ⟨g, 1, none⟩ (.slice A 0 c)) g vo out (.slice A 0 c) [] := by
  have hb : (Value.slice A 0 c).ownBlock = (Value.slice A n c).ownBlock := by cases A <;> rfl
  refine ⟨?_, own_set_other h.oo h.no _, ?_, h.no, by rw [hb]; exact h.nr, fun k hk => by rw [hb]; exact h.nn k hk, h.bel.setCell (p := ⟨g, 1, none⟩) h.ge _, h.ge, ?_⟩
  · have := h.blk.set_ 1 (.slice A 0 c)
    simpa using this
  · refine own_set_other ?_ (by rw [hb]; exact h.nr) _
    have := h.ow
    rw [hn] at this
    exact own_cut0 this
  · intro k hk
    obtain ⟨a, b, c', d, e⟩ := h.kp k hk
    exact ⟨by simpa [World.setCell] using a, b, c', by rw [hb]; exact d, by rw [blk_set_other _ _ b, e]⟩
end

/-- what the writer's methods leave -/
def WRes (w0 ws : World) (kept : Nat → Prop) (g : Nat) (out : List UInt8) (vr : Value) (rest : List UInt8) (e : Ending) (w' : World) : Prop :=
  e = .returned (.tuple #[]) ∧ ∃ vo, Wr w0 ws kept w' g vo out vr rest

set_option maxRecDepth 100000 in
set_option maxHeartbeats 1000000 in
theorem wnum_any {w0 ws w : World} {kept : Nat → Prop} {g : Nat} {vo vr : Value} {out rest : List UInt8} (N : Nat) (hN : N < 9223372036854775808) (ho : out.length ≤ 140737488355000) (h : Wr w0 ws kept w g vo out vr rest) :
    Calls Try.prog 43 #[.pointer (some ⟨g, 0, none⟩), .int .i64 N] w fun e w' => WRes w0 ws kept g (out ++ W.num N) vr rest e w' := by
  have hc := hide (num_any N w hN)
  have h9 := W.num_len9 hN
  go_enter Try.func43, Try.ntmps43
  go_wp2_with fail
  refine (unhide hc).mono ?_
  rintro e w1 ⟨A, c, rfl, hown, hb1⟩
  have h1 := h.below hb1
  have c0 := h1.c0
  have hz := h1.size
  have hrn := hide (Reads.of_own hown)
  replace hown := hide hown
  go_wp2_with (at_builtin; refine wpList_appS rfl (.tmp 15) (.tmp 16) _ rfl et22 w0.heap.size vo out.length (bvs out) rfl h1.oo _ _ _ _ (bvs (W.num N)) rfl (unhide hrn) (bvs_one _) ?_ (by decide) ?_ ?_; omega; exact hz; intro A1 c4 w4 hown4 hgr4 hcap4; have h4 := h1.app0 rfl hown4 hgr4; have f0 : w4.frozen? ⟨g, 0, none⟩ = false := (h1.blk.grown hgr4.g (fun he => h1.no he.symm)).frozen 0; have c04 : w4.cell? ⟨g, 0, none⟩ = some vo := (h1.blk.grown hgr4.g (fun he => h1.no he.symm)).cell 0)
  go_end0
  exact ⟨rfl, _, h4⟩
end Go.Proofs.Ytdhgobflbacgbaa
