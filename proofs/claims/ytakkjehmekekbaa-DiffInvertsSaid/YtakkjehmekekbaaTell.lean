/- What diff.Invert's closure does: the way back of one edit, put behind. -/
import Derived.Test.YtakkjehmekekbaaPWalk
namespace Go.Proofs.Ytakkjehmekekbaa
open Go.RowKit

/-- the way back of an edit, its bytes known -/
def turnS (x : D.Ed) (s : List UInt8) : D.Ed := if x.kind = 2 then ⟨3, 0, s⟩ else if x.kind = 3 then ⟨2, s.length, []⟩ else x

section
variable {w0 ws w w' : World} {kept : Nat → Prop} {gl : Nat} {v : Value} {l : List D.Ed}
theorem Lv.rekept (h : Lv w0 ws kept w gl v l) (kept' : Nat → Prop) (hk : ∀ k, kept' k → k < w.heap.size ∧ k ≠ gl ∧ v.ownBlock ≠ some k) : Lv w0 w kept' w gl v l :=
  ⟨h.blk, h.own, h.ne, h.bel, h.ge, fun k hk' => by obtain ⟨a, b, c⟩ := hk k hk'; exact ⟨a, b, c, rfl⟩⟩
theorem Lv.grown {row : Option Nat} (h : Lv w0 ws (fun _ => False) w gl v l) (hg : w.grownBy w' row) (hne : row ≠ some gl) (hv : ∀ k, row = some k → w0.heap.size ≤ k ∧ v.ownBlock ≠ some k) : Lv w0 ws (fun _ => False) w' gl v l := by
  refine ⟨h.blk.grown hg (fun e => hne e.symm), h.own.kept hg ?_, h.ne, h.bel.grown hg h.size (fun k hk => (hv k hk).1), h.ge, fun k hk => hk.elim⟩
  cases row with
  | none => cases hv' : v.ownBlock <;> simp
  | some k => exact .inr (hv k rfl).2
theorem app_fin {x : D.Ed} {n : Nat} {A' : Option Addr} {c' : Nat} (h : Lv w0 ws kept w gl v l) (hn : l.length = n) (hown : w'.ownsRow w0.heap.size 32 3 (.slice A' (n + 1) c') (n + 1) (ecs (l ++ [x]))) (hg : Gr w w' v (.slice A' (n + 1) c')) :
    Lv w0 ws kept (w'.setCell ⟨gl, 0, none⟩ (.slice A' (n + 1) c')) gl (.slice A' (n + 1) c') (l ++ [x]) ∧ w'.cell? ⟨gl, 0, none⟩ = some v ∧ w'.frozen? ⟨gl, 0, none⟩ = false := by
  subst hn
  have hb := h.blk.grown hg.g (fun he => h.ne he.symm)
  exact ⟨h.app (by rw [ecs_append] at hown; simpa [ecs] using hown) hg, hb.cell 0, hb.frozen 0⟩
end

theorem reads_new3_at {w : World} {g : Nat} (x : D.Ed) (hg : w.heap.size = g) : Reads (w.alloc (.cells #[.int .i64 x.kind, .int .i64 x.n, .string (bs x.text)] 32)) (g + 1) 3 (some ⟨g, 0, none⟩) 1 (ecs [x]) := by
  subst hg
  exact reads_new3 w x

set_option maxRecDepth 100000 in
set_option maxHeartbeats 2000000 in
theorem tell31 {w0 ws w : World} {kept : Nat → Prop} {gl n : Nat} {v : Value} {acc : List D.Ed} (x : D.Ed) (s : List UInt8) (hn : acc.length = n) (hn6 : n ≤ 4398046511000) (_hs : s.length ≤ 140737488355328) (h : Lv w0 ws kept w gl v acc) :
    Calls Try.prog 31 #[ev x, .string (bs s), .pointer (some ⟨gl, 0, none⟩)] w fun e w' => e = .returned (.tuple #[]) ∧ ∃ v', Lv w0 ws kept w' gl v' (acc ++ [turnS x s]) := by
  obtain ⟨kd, nn, tx⟩ := x
  have hss : (bs s).size = s.length := bs_size s
  have hown := h.own
  rw [hn] at hown
  obtain ⟨A, c, rfl, _, _⟩ := own_form hown
  have c0 := h.c0
  have f0 := h.f0
  unfold ev turnS
  simp only
  by_cases h2 : kd = 2
  · subst h2
    rw [if_pos rfl]
    have c1 := (h.alloc (.cells #[.int .i64 3, .int .i64 0, .string (bs s)] 32)).c0; have hR := hide (reads_new3_at (w := w.alloc (.cells #[.int .i64 3, .int .i64 0, .string (bs s)] 32)) (g := w.heap.size + 1) ⟨3, 0, s⟩ (by simp)); have hA := hide ((h.alloc (.cells #[.int .i64 3, .int .i64 0, .string (bs s)] 32)).alloc (.cells #[.int .i64 3, .int .i64 0, .string (bs s)] 32))
    have hO := hide ((unhide hA).own)
    rw [hn] at hO
    clear hown
    go_enter Try.func31, Try.ntmps31
    go_wp2_with (at_builtin; refine wpList_appE rfl (.tmp 16) (.tmp 18) rfl w0.heap.size (.slice A n c) n acc rfl (unhide hO) _ _ 1 1 [⟨3, 0, s⟩] rfl (unhide hR) ?_ (unhide hA).size ?_; omega; intro A4 c4 w4 hown4 hgr4 _; obtain ⟨hF, cg, fg⟩ := app_fin (unhide hA) hn hown4 hgr4; replace hF := hide hF; clear hown4 hgr4)
    go_end0
    exact ⟨rfl, _, unhide hF⟩
  · rw [if_neg h2]
    have h2' : (kd == 2) = false := beq_eq_false_iff_ne.2 h2
    by_cases h3 : kd = 3
    · subst h3
      rw [if_pos rfl]
      have c1 := (h.alloc (.cells #[.int .i64 2, .int .i64 s.length, .string ⟨#[]⟩] 32)).c0; have hR := hide (reads_new3_at (w := w.alloc (.cells #[.int .i64 2, .int .i64 s.length, .string ⟨#[]⟩] 32)) (g := w.heap.size + 1) ⟨2, s.length, []⟩ (by simp)); have hA := hide ((h.alloc (.cells #[.int .i64 2, .int .i64 s.length, .string ⟨#[]⟩] 32)).alloc (.cells #[.int .i64 2, .int .i64 s.length, .string ⟨#[]⟩] 32))
      have hO := hide ((unhide hA).own)
      rw [hn] at hO
      clear hown h2 h2'
      go_enter Try.func31, Try.ntmps31
      go_wp2_with (at_builtin; refine wpList_appE rfl (.tmp 16) (.tmp 18) rfl w0.heap.size (.slice A n c) n acc rfl (unhide hO) _ _ 1 1 [⟨2, s.length, []⟩] rfl (unhide hR) ?_ (unhide hA).size ?_; omega; intro A4 c4 w4 hown4 hgr4 _; obtain ⟨hF, cg, fg⟩ := app_fin (unhide hA) hn hown4 hgr4; replace hF := hide hF; clear hown4 hgr4)
      go_end0
      exact ⟨rfl, _, unhide hF⟩
    · rw [if_neg h3]
      have h3' : (kd == 3) = false := beq_eq_false_iff_ne.2 h3
      have c1 := (h.alloc (.cells #[.int .i64 kd, .int .i64 nn, .string (bs tx)] 32)).c0; have hR := hide (reads_new3_at (w := w.alloc (.cells #[.int .i64 kd, .int .i64 nn, .string (bs tx)] 32)) (g := w.heap.size + 1) ⟨kd, nn, tx⟩ (by simp)); have hA := hide ((h.alloc (.cells #[.int .i64 kd, .int .i64 nn, .string (bs tx)] 32)).alloc (.cells #[.int .i64 kd, .int .i64 nn, .string (bs tx)] 32))
      have hO := hide ((unhide hA).own)
      rw [hn] at hO
      clear hown h2 h3
      go_enter Try.func31, Try.ntmps31
      go_wp2_with (at_builtin; refine wpList_appE rfl (.tmp 16) (.tmp 18) rfl w0.heap.size (.slice A n c) n acc rfl (unhide hO) _ _ 1 1 [⟨kd, nn, tx⟩] rfl (unhide hR) ?_ (unhide hA).size ?_; omega; intro A4 c4 w4 hown4 hgr4 _; obtain ⟨hF, cg, fg⟩ := app_fin (unhide hA) hn hown4 hgr4; replace hF := hide hF; clear hown4 hgr4)
      go_end0
      exact ⟨rfl, _, unhide hF⟩
end Go.Proofs.Ytakkjehmekekbaa
