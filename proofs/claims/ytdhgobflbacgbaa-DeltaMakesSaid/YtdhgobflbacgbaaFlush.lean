/- delta's writer: flush. -/
import Derived.Test.YtdhgobflbacgbaaWriter
namespace Go.Proofs.Ytdhgobflbacgbaa
open Go.RowKit

/-- 'append(v, x...)' onto a row of the call's own, as a step of a region that draws -/
theorem step_appS {P : Program} {w : World} {ops : Array Oper} {o : Oper} {a : Act} {K : Act → World → Prop} {Q : Exit → Act → World → Prop} {E : Prop} (hgd : o.guard = none) (s x : Operand) (t : TypeId)
    (ho : o.op = .call { callee := .builtin .append, args := #[s, x], argTypes := #[t, t] })
    {e : TypeId} {z : Value} {bytes : Nat} (et : ET P t e z bytes) (base : Nat)
    (v : Value) (n : Nat) (xs : List Value) (hs : a.eval s = v) (hown : w.ownsRow base e 1 v n xs)
    (B : Nat) (A : Option Addr) (m c : Nat) (news : List Value) (hx : a.eval x = .slice A m c) (hr : Reads w B 1 A m news) (h1 : ∀ u ∈ news, u.oneCell' = true)
    (hbytes : (n + m) * bytes ≤ 140737488355328) (hb : 0 < bytes) (hbase : base ≤ w.heap.size)
    (h : ∀ A' c' w', w'.ownsRow base e 1 (.slice A' (n + m) c') (n + m) (xs ++ news) → Gr w w' v (.slice A' (n + m) c') → n + m ≤ c' → K (a.put o.dst (.slice A' (n + m) c')) w') :
    if Region.wanted o (yielded ops a.tmps) = true then Oper.wp P o a w K Q else E := by
  obtain ⟨i, hi, hz0, hz1, hz2⟩ := et.hi
  have h63 : n + m ≤ maxLen := by
    have : (n + m) * 1 ≤ (n + m) * bytes := Nat.mul_le_mul_left _ hb
    simp only [maxLen]; omega
  refine step_append_any w hgd s x t ho base e i z 1 bytes et.ht hi hz0 hz1 hz2 et.hz (by omega) v n xs hs hown B A m c news hx hr h1 h63 hbytes hbase fun v' w' h2 h3 h4 => ?_
  obtain ⟨A', c', rfl, hc, _⟩ := own_form h2
  exact h A' c' w' h2 (Gr.of_grown h3 h4) hc

/-- what flush leaves -/
def FRes (w0 ws : World) (kept : Nat → Prop) (g : Nat) (out : List UInt8) (e : Ending) (w' : World) : Prop :=
  e = .returned (.tuple #[]) ∧ ∃ vo vr, Wr w0 ws kept w' g vo out vr []

set_option maxRecDepth 100000 in
set_option maxHeartbeats 1000000 in
theorem flush_nil {w0 ws w : World} {kept : Nat → Prop} {g : Nat} {vo vr : Value} {out : List UInt8} (h : Wr w0 ws kept w g vo out vr []) :
    Calls Try.prog 45 #[.pointer (some ⟨g, 0, none⟩)] w fun e w' => FRes w0 ws kept g out e w' := by
  obtain ⟨A, c, rfl, _, _⟩ := own_form h.ow
  have c1 := h.c1
  have f1 := h.f1
  simp only [List.length_nil] at c1
  go_enter Try.func45, Try.ntmps45
  go_wp2_with fail
  go_end0
  exact ⟨rfl, _, _, h.cut rfl⟩

set_option maxRecDepth 100000 in
set_option maxHeartbeats 2000000 in
theorem flush_some {w0 ws w : World} {kept : Nat → Prop} {g : Nat} {vo vr : Value} {out rest : List UInt8} (hr : rest ≠ []) (hl : rest.length ≤ 4096) (ho : out.length ≤ 140737488300000) (h : Wr w0 ws kept w g vo out vr rest) :
    Calls Try.prog 45 #[.pointer (some ⟨g, 0, none⟩)] w fun e w' => FRes w0 ws kept g (out ++ (W.num (2 * rest.length) ++ rest)) e w' := by
  have hp : 0 < rest.length := List.length_pos_iff.2 hr
  obtain ⟨A, c, rfl, hcap, _⟩ := own_form h.ow
  have h9 := W.num_len9 (n := 2 * rest.length) (by omega)
  have hc := hide fun (w1 : World) (h1 : Wr w0 ws kept w1 g vo out (.slice A rest.length c) rest) => wnum_any (2 * rest.length) (by omega) (by omega) h1
  have c1 := h.c1
  have f1 := h.f1
  have e1 : ((2 * rest.length : Nat) : Int) = 2 * (rest.length : Int) := by omega
  have hL : (out ++ W.num (2 * rest.length)).length = out.length + (W.num (2 * rest.length)).length := by simp
  have HE := hide (show out ++ W.num (2 * rest.length) ++ rest = out ++ (W.num (2 * rest.length) ++ rest) by simp)
  rw [e1] at hc
  have hL2 : (out ++ W.num (2 * rest.length)).length ≤ 140737488350000 := by omega
  replace e1 := hide e1
  clear hL hr
  generalize hrl : rest.length = n at *
  generalize hO : out ++ W.num (2 * n) = out1 at *
  clear hO
  replace hrl := hide hrl
  go_enter Try.func45, Try.ntmps45
  go_wp2_with fail
  refine ((unhide hc) _ h).mono ?_
  rintro e w1 ⟨rfl, vo1, h1⟩
  have hsz := h1.size
  obtain ⟨Ao, co, rfl, _, _⟩ := own_form h1.oo
  have c01 := h1.c0
  have c11 := h1.c1
  have hrd := hide (show Reads w1.drew w1.heap.size 1 A n (bvs rest) from (Reads.of_own (by have := h1.ow; rw [unhide hrl] at this; exact this)).drew)
  have hfz : ∀ (w4 : World) (v' : Value), Gr w1.drew w4 (.slice Ao out1.length co) v' → w4.cell? ⟨g, 0, none⟩ = some (.slice Ao out1.length co) ∧ w4.cell? ⟨g, 1, none⟩ = some (.slice A n c) ∧ w4.frozen? ⟨g, 0, none⟩ = false ∧ w4.frozen? ⟨g, 1, none⟩ = false := fun _ _ hgr => by
    have hb := h1.drew.blk.grown hgr.g (fun he => h1.no he.symm)
    exact ⟨hb.cell 0, hb.cell 1, hb.frozen 0, hb.frozen 1⟩
  replace hfz := hide hfz
  go_wp2_with fail
  go_region_law (refine step_appS rfl (.tmp 20) (.tmp 24) _ rfl et22 w0.heap.size (.slice Ao out1.length co) out1.length (bvs out1) rfl h1.drew.oo _ A n c (bvs rest) rfl (unhide hrd) (bvs_one _) (by omega) (by decide) h1.drew.size ?_; intro A4 c4 w4 hown4 hgr4 hcap4; have h4 := hide (h1.drew.app0 (unhide hrl) hown4 hgr4); obtain ⟨c04, c14, f04, f14⟩ := (unhide hfz) _ _ hgr4)
  all_goals go_wp2_with fail
  all_goals go_end0
  all_goals rw [← unhide HE]
  all_goals exact ⟨rfl, _, _, (unhide h4).cut (unhide hrl)⟩

/-- delta's writer.flush: own bytes, if there are some -/
theorem flush_any {w0 ws w : World} {kept : Nat → Prop} {g : Nat} {vo vr : Value} {out rest : List UInt8} (hl : rest.length ≤ 4096) (ho : out.length ≤ 140737488300000) (h : Wr w0 ws kept w g vo out vr rest) :
    Calls Try.prog 45 #[.pointer (some ⟨g, 0, none⟩)] w fun e w' => FRes w0 ws kept g (out ++ E.flush rest) e w' := by
  by_cases hr : rest = []
  · subst hr
    have : out ++ E.flush [] = out := by simp [E.flush]
    rw [this]
    exact flush_nil h
  · have : E.flush rest = W.num (2 * rest.length) ++ rest := by unfold E.flush; rw [if_neg hr]
    rw [this]
    exact flush_some hr hl ho h
end Go.Proofs.Ytdhgobflbacgbaa
