/- The document's more: a script with one byte more of a kind. -/
import Derived.Test.YtakkjehmekekbaaTell
namespace Go.Proofs.Ytakkjehmekekbaa
open Go.RowKit

/-- what comes of the call: a row of its own, and what was there still stands -/
def ORes (w : World) (base : Nat) (v : Value) (q : List D.Ed) (e : Ending) (w' : World) : Prop :=
  ∃ v', e = .returned v' ∧ w'.ownsRow base 32 3 v' q.length (ecs q) ∧ Gr w w' v v'
theorem ores {w w' : World} {base n : Nat} {v v' : Value} {q : List D.Ed} {e : Ending} (he : e = .returned v') (hq : q.length = n) (h : w'.ownsRow base 32 3 v' n (ecs q)) (hg : Gr w w' v v') : ORes w base v q e w' := by
  subst hq
  exact ⟨v', he, h, hg⟩

section
variable {w w4 : World} {base g n c m : Nat} {v : Value} {init l : List D.Ed} {e x : D.Ed}
theorem own_last (h : w.ownsRow base 32 3 (.slice (some ⟨g, 0, none⟩) n c) n (ecs (init ++ [e]))) (hm : init.length = m) :
    w.cell? ⟨g, m * 3, none⟩ = some (.int .i64 e.kind) ∧ w.cell? ⟨g, m * 3 + 1, none⟩ = some (.int .i64 e.n) ∧ w.cell? ⟨g, m * 3 + 2, none⟩ = some (.string (bs e.text)) ∧ (∀ i, w.frozen? ⟨g, i, none⟩ = false) := by
  subst hm
  have hg := ecs_get (init ++ [e]) init.length (by simp)
  simp only [List.getElem_append_right (Nat.le_refl _), Nat.sub_self, List.getElem_singleton] at hg
  have hc := h.cells (g := g) rfl
  have ha : ∀ j, (⟨g, 0, none⟩ : Addr).add j = ⟨g, j, none⟩ := fun j => by unfold Addr.add; split <;> simp_all
  refine ⟨by rw [← ha]; exact hc _ _ hg.1, by rw [← ha]; exact hc _ _ hg.2.1, by rw [← ha]; exact hc _ _ hg.2.2, fun i => ?_⟩
  rcases h.2 with ⟨hv, _⟩ | ⟨g', cap, cur, hv, _, hh, _⟩
  · cases hv
  · injection hv with h1
    injection h1 with h1
    injection h1 with h1
    subst h1
    simp [World.frozen?, hh]
theorem gr_set (hg : v.ownBlock = some g) (i : Nat) (u : Value) : Gr w (w.setCell ⟨g, i, none⟩ u) v v := ⟨by rw [hg]; exact only_set g i u, .inl rfl⟩
theorem more_fin {o : Obj} {A4 : Option Addr} {c4 : Nat} (hl : l.length = m) (hown4 : w4.ownsRow base 32 3 (.slice A4 (m + 1) c4) (m + 1) (ecs (l ++ [x]))) (hgr : Gr (w.alloc o) w4 v (.slice A4 (m + 1) c4)) :
    ∃ g4, A4 = some ⟨g4, 0, none⟩ ∧ w4.cell? ⟨g4, m * 3 + 1, none⟩ = some (.int .i64 x.n) ∧ w4.cell? ⟨g4, m * 3 + 2, none⟩ = some (.string (bs x.text)) ∧ (∀ i, w4.frozen? ⟨g4, i, none⟩ = false) ∧
      (∀ y i u, (ecs (l ++ [x])).set i u = ecs (l ++ [y]) → (w4.setCell ⟨g4, i, none⟩ u).ownsRow base 32 3 (.slice (some ⟨g4, 0, none⟩) (m + 1) c4) (m + 1) (ecs (l ++ [y])) ∧ Gr w (w4.setCell ⟨g4, i, none⟩ u) v (.slice (some ⟨g4, 0, none⟩) (m + 1) c4)) := by
  obtain ⟨g4, c', hv, _, _⟩ := hown4.form (by omega)
  injection hv with h1 h2 h3
  subst h1
  obtain ⟨_, e1, e2, e3⟩ := own_last hown4 hl
  refine ⟨g4, rfl, e1, e2, e3, fun y i u hu => ⟨?_, ?_⟩⟩
  · have := own_set hown4 (g := g4) rfl i u
    rw [hu] at this
    exact this
  · exact (((Gr.refl w v).alloc o).trans hgr).trans (gr_set rfl i u)
end

set_option maxRecDepth 100000 in
set_option maxHeartbeats 2000000 in
theorem rmore_last3 {w : World} {base M n : Nat} {v : Value} {init : List D.Ed} {e : D.Ed} (s : List UInt8) (hs : s.length ≤ 1) (hM : M ≤ 4000) (hte : e.text.length ≤ M) (hin : init.length = n) (hnM : n ≤ M) (hk : e.kind = 3) (h : w.ownsRow base 32 3 v (n + 1) (ecs (init ++ [e]))) :
    Calls Try.prog 26 #[v, .int .i64 3, .string (bs s)] w fun r w' => ORes w base v (init ++ [⟨3, e.n, e.text ++ s⟩]) r w' := by
  obtain ⟨g, c, rfl, _, _⟩ := h.form (by omega)
  obtain ⟨d0, d1, d2, df⟩ := own_last h hin
  rw [hk] at d0
  have df1 := df (n * 3 + 1)
  have df2 := df (n * 3 + 2)
  have hadd := fun w0 => str_add w0 e.text s (by omega)
  have hS := own_set h (g := g) rfl (n * 3 + 2) (.string (bs (e.text ++ s)))
  have h2 := ecs_set2 init e (e.text ++ s)
  rw [hin] at h2
  rw [h2, hk] at hS
  have hR := hide (And.intro hS (gr_set (w := w) (v := .slice (some ⟨g, 0, none⟩) (n + 1) c) (g := g) rfl (n * 3 + 2) (.string (bs (e.text ++ s)))))
  have hi1 : ((n : Int) + 1 - 1) = (n : Int) := by omega
  have hl : (init ++ [(⟨3, e.n, e.text ++ s⟩ : D.Ed)]).length = n + 1 := by rw [List.length_append, hin]; rfl
  replace hl := hide hl
  clear df h hS h2 hk hin
  go_enter Try.func26, Try.ntmps26
  go_wp2_with fail
  go_ret
  exact ores rfl (unhide hl) (unhide hR).1 (unhide hR).2

set_option maxRecDepth 100000 in
set_option maxHeartbeats 2000000 in
theorem rmore_last {w : World} {base M n : Nat} {v : Value} {init : List D.Ed} {e : D.Ed} (k : Int) (hk3 : k ≠ 3) (s : List UInt8) (hM : M ≤ 4000) (hn0 : 0 ≤ e.n) (hn1 : e.n ≤ M) (hin : init.length = n) (hnM : n ≤ M) (hk : e.kind = k) (h : w.ownsRow base 32 3 v (n + 1) (ecs (init ++ [e]))) :
    Calls Try.prog 26 #[v, .int .i64 k, .string (bs s)] w fun r w' => ORes w base v (init ++ [⟨k, e.n + 1, e.text⟩]) r w' := by
  obtain ⟨g, c, rfl, _, _⟩ := h.form (by omega)
  obtain ⟨d0, d1, d2, df⟩ := own_last h hin
  rw [hk] at d0
  have df1 := df (n * 3 + 1)
  have df2 := df (n * 3 + 2)
  have hS := own_set h (g := g) rfl (n * 3 + 1) (.int .i64 (e.n + 1))
  have h2 := ecs_set1 init e (e.n + 1)
  rw [hin] at h2
  rw [h2, hk] at hS
  have hR := hide (And.intro hS (gr_set (w := w) (v := .slice (some ⟨g, 0, none⟩) (n + 1) c) (g := g) rfl (n * 3 + 1) (.int .i64 (e.n + 1))))
  have hi1 : ((n : Int) + 1 - 1) = (n : Int) := by omega
  have hl : (init ++ [(⟨k, e.n + 1, e.text⟩ : D.Ed)]).length = n + 1 := by rw [List.length_append, hin]; rfl
  have hk3' : (k == 3) = false := beq_eq_false_iff_ne.2 hk3
  replace hl := hide hl
  clear df h hS h2 hk hin hk3
  go_enter Try.func26, Try.ntmps26
  go_wp2_with fail
  go_ret
  exact ores rfl (unhide hl) (unhide hR).1 (unhide hR).2

set_option maxRecDepth 100000 in
set_option maxHeartbeats 2000000 in
theorem rmore_new3 {w : World} {base M n : Nat} {v : Value} {l : List D.Ed} (s : List UInt8) (hM : M ≤ 4000) (hin : l.length = n) (hnM : n ≤ M) (hk : ∀ e, l.getLast? = some e → e.kind ≠ 3) (hbase : base ≤ w.heap.size) (h : w.ownsRow base 32 3 v n (ecs l)) (hs : s.length ≤ 1) :
    Calls Try.prog 26 #[v, .int .i64 3, .string (bs s)] w fun r w' => ORes w base v (l ++ [⟨3, 0, s⟩]) r w' := by
  obtain ⟨A, c, rfl, _, _⟩ := own_form h
  have hR := hide (reads_new3_at (w := w) (g := w.heap.size) ⟨3, 0, []⟩ rfl)
  have hO := hide (h.alloc (.cells #[.int .i64 3, .int .i64 0, .string ⟨#[]⟩] 32))
  have hsz : base ≤ (w.alloc (.cells #[.int .i64 3, .int .i64 0, .string ⟨#[]⟩] 32)).heap.size := by simp; omega
  have hset : (ecs (l ++ [⟨3, 0, []⟩])).set (n * 3 + 2) (.string (bs s)) = ecs (l ++ [⟨3, 0, s⟩]) := by
    have := ecs_set2 l ⟨3, 0, []⟩ s
    rw [hin] at this
    exact this
  have hl : (l ++ [(⟨3, 0, s⟩ : D.Ed)]).length = n + 1 := by rw [List.length_append, hin]; rfl
  have hadd : ∀ w0, (Op.stringOp .add ⟨#[]⟩ (bs s)).run Try.prog w0 = .ok (.string (bs s)) w0 := fun w0 => str_add w0 [] s (by simp; omega)
  have hi1 : ((n : Int) + 1 - 1) = (n : Int) := by omega
  replace hsz := hide hsz
  replace hset := hide hset
  replace hl := hide hl
  replace hin := hide hin
  rcases List.eq_nil_or_concat l with rfl | ⟨init, e, rfl⟩
  · obtain rfl : n = 0 := by have := unhide hin; simpa using this.symm
    clear h hk
    go_enter Try.func26, Try.ntmps26
    go_wp2_with (at_builtin; refine wpList_appE rfl (.tmp 22) (.tmp 25) rfl base (.slice A 0 c) 0 [] rfl (unhide hO) _ _ 1 1 [⟨3, 0, []⟩] rfl (unhide hR) ?_ (unhide hsz) ?_; omega; intro A4 c4 w4 hown4 hgr4 _; obtain ⟨g4, rfl, r1, r2, rf, hput⟩ := more_fin (unhide hin) hown4 hgr4; have r2' : w4.cell? ⟨g4, 0 * 3 + 2, none⟩ = some (.string ⟨#[]⟩) := r2; clear r2; have rf1 := rf (0 * 3 + 1); have rf2 := rf (0 * 3 + 2); have hP := hide (hput _ _ _ (unhide hset)); clear rf hput hown4 hgr4)
    go_ret
    exact ores rfl (unhide hl) (unhide hP).1 (unhide hP).2
  · rw [List.concat_eq_append] at *
    have hke := hk e (by simp)
    obtain ⟨m, hm⟩ : ∃ m, init.length = m := ⟨_, rfl⟩
    obtain rfl : n = m + 1 := by have := unhide hin; rw [List.length_append, hm] at this; exact this.symm
    obtain ⟨g, c', hv, _, _⟩ := h.form (by omega)
    injection hv with h1 h2 h3
    subst h1
    obtain ⟨d0, _, _, _⟩ := own_last h hm
    have hkn : (e.kind != 3) = true := by rw [bne_iff_ne]; exact hke
    have hi2 : (((m : Int) + 1) - 1) = (m : Int) := by omega
    clear h hk hke h2 h3
    go_enter Try.func26, Try.ntmps26
    go_wp2_with (at_builtin; refine wpList_appE rfl (.tmp 22) (.tmp 25) rfl base (.slice (some ⟨g, 0, none⟩) (m + 1) c) (m + 1) (init ++ [e]) rfl (unhide hO) _ _ 1 1 [⟨3, 0, []⟩] rfl (unhide hR) ?_ (unhide hsz) ?_; omega; intro A4 c4 w4 hown4 hgr4 _; obtain ⟨g4, rfl, r1, r2, rf, hput⟩ := more_fin (unhide hin) hown4 hgr4; have r2' : w4.cell? ⟨g4, (m + 1) * 3 + 2, none⟩ = some (.string ⟨#[]⟩) := r2; clear r2; have rf1 := rf ((m + 1) * 3 + 1); have rf2 := rf ((m + 1) * 3 + 2); have hP := hide (hput _ _ _ (unhide hset)); clear rf hput hown4 hgr4)
    go_ret
    exact ores (n := m + 1 + 1) rfl (by have t := unhide hl; rw [List.append_assoc] at t; exact t) (by have t := (unhide hP).1; rw [List.append_assoc init [e]] at t; exact t) (unhide hP).2

set_option maxRecDepth 100000 in
set_option maxHeartbeats 2000000 in
theorem rmore_new {w : World} {base M n : Nat} {v : Value} {l : List D.Ed} (k : Int) (hk3 : k ≠ 3) (s : List UInt8) (hM : M ≤ 4000) (hin : l.length = n) (hnM : n ≤ M) (hk : ∀ e, l.getLast? = some e → e.kind ≠ k) (hbase : base ≤ w.heap.size) (h : w.ownsRow base 32 3 v n (ecs l)) :
    Calls Try.prog 26 #[v, .int .i64 k, .string (bs s)] w fun r w' => ORes w base v (l ++ [⟨k, 1, []⟩]) r w' := by
  obtain ⟨A, c, rfl, _, _⟩ := own_form h
  have hR := hide (reads_new3_at (w := w) (g := w.heap.size) ⟨k, 0, []⟩ rfl)
  have hO := hide (h.alloc (.cells #[.int .i64 k, .int .i64 0, .string ⟨#[]⟩] 32))
  have hsz : base ≤ (w.alloc (.cells #[.int .i64 k, .int .i64 0, .string ⟨#[]⟩] 32)).heap.size := by simp; omega
  have hset : (ecs (l ++ [⟨k, 0, []⟩])).set (n * 3 + 1) (.int .i64 1) = ecs (l ++ [⟨k, 1, []⟩]) := by
    have := ecs_set1 l ⟨k, 0, []⟩ 1
    rw [hin] at this
    exact this
  have hl : (l ++ [(⟨k, 1, []⟩ : D.Ed)]).length = n + 1 := by rw [List.length_append, hin]; rfl
  have hi1 : ((n : Int) + 1 - 1) = (n : Int) := by omega
  have hk3' : (k == 3) = false := beq_eq_false_iff_ne.2 hk3
  replace hsz := hide hsz
  replace hset := hide hset
  replace hl := hide hl
  replace hin := hide hin
  clear hk3
  rcases List.eq_nil_or_concat l with rfl | ⟨init, e, rfl⟩
  · obtain rfl : n = 0 := by have := unhide hin; simpa using this.symm
    clear h hk
    go_enter Try.func26, Try.ntmps26
    go_wp2_with (at_builtin; refine wpList_appE rfl (.tmp 22) (.tmp 25) rfl base (.slice A 0 c) 0 [] rfl (unhide hO) _ _ 1 1 [⟨k, 0, []⟩] rfl (unhide hR) ?_ (unhide hsz) ?_; omega; intro A4 c4 w4 hown4 hgr4 _; obtain ⟨g4, rfl, r1, r2, rf, hput⟩ := more_fin (unhide hin) hown4 hgr4; have rf1 := rf (0 * 3 + 1); have rf2 := rf (0 * 3 + 2); have hP := hide (hput _ _ _ (unhide hset)); clear rf hput hown4 hgr4)
    go_ret
    exact ores rfl (unhide hl) (unhide hP).1 (unhide hP).2
  · rw [List.concat_eq_append] at *
    have hke := hk e (by simp)
    obtain ⟨m, hm⟩ : ∃ m, init.length = m := ⟨_, rfl⟩
    obtain rfl : n = m + 1 := by have := unhide hin; rw [List.length_append, hm] at this; exact this.symm
    obtain ⟨g, c', hv, _, _⟩ := h.form (by omega)
    injection hv with h1 h2 h3
    subst h1
    obtain ⟨d0, _, _, _⟩ := own_last h hm
    have hkn : (e.kind != k) = true := by rw [bne_iff_ne]; exact hke
    have hi2 : (((m : Int) + 1) - 1) = (m : Int) := by omega
    clear h hk hke h2 h3
    go_enter Try.func26, Try.ntmps26
    go_wp2_with (at_builtin; refine wpList_appE rfl (.tmp 22) (.tmp 25) rfl base (.slice (some ⟨g, 0, none⟩) (m + 1) c) (m + 1) (init ++ [e]) rfl (unhide hO) _ _ 1 1 [⟨k, 0, []⟩] rfl (unhide hR) ?_ (unhide hsz) ?_; omega; intro A4 c4 w4 hown4 hgr4 _; obtain ⟨g4, rfl, r1, r2, rf, hput⟩ := more_fin (unhide hin) hown4 hgr4; have rf1 := rf ((m + 1) * 3 + 1); have rf2 := rf ((m + 1) * 3 + 2); have hP := hide (hput _ _ _ (unhide hset)); clear rf hput hown4 hgr4)
    go_ret
    exact ores (n := m + 1 + 1) rfl (by have t := unhide hl; rw [List.append_assoc] at t; exact t) (by have t := (unhide hP).1; rw [List.append_assoc init [e]] at t; exact t) (unhide hP).2

/-- the document's more -/
theorem rmore_any {w : World} {base M : Nat} {v : Value} {l : List D.Ed} (k : Int) (s : List UInt8) (hs : s.length ≤ 1) (hM : M ≤ 4000) (hsm : Small M l) (hbase : base ≤ w.heap.size) (h : w.ownsRow base 32 3 v l.length (ecs l)) :
    Calls Try.prog 26 #[v, .int .i64 k, .string (bs s)] w fun r w' => ORes w base v (D.more l k s) r w' := by
  obtain ⟨h1, h2⟩ := hsm
  have hnew : (∀ e, l.getLast? = some e → e.kind ≠ k) → Calls Try.prog 26 #[v, .int .i64 k, .string (bs s)] w fun r w' => ORes w base v (D.more l k s) r w' := fun hx => by
    rw [more_new hx]
    by_cases hk : k = 3
    · subst hk
      rw [if_pos rfl, if_pos rfl]
      exact rmore_new3 (M := M) s hM rfl h1 hx hbase h hs
    · rw [if_neg hk, if_neg hk]
      exact rmore_new (M := M) k hk s hM rfl h1 hx hbase h
  rcases List.eq_nil_or_concat l with rfl | ⟨init, e, rfl⟩
  · exact hnew (by intro e he; cases he)
  · rw [List.concat_eq_append] at *
    have he := h2 e (by simp)
    have hin : init.length ≤ M := by simp at h1; omega
    by_cases hek : e.kind = k
    · rw [more_last init e hek]
      have h' : w.ownsRow base 32 3 v (init.length + 1) (ecs (init ++ [e])) := by rw [List.length_append] at h; exact h
      by_cases hk : k = 3
      · subst hk
        rw [if_pos rfl, if_pos rfl]
        exact rmore_last3 (M := M) s hs hM he.2.2 rfl hin hek h'
      · rw [if_neg hk, if_neg hk]
        exact rmore_last (M := M) k hk s hM he.1 he.2.1 rfl hin hek h'
    · exact hnew (by intro x hx; simp at hx; subst hx; exact hek)
end Go.Proofs.Ytakkjehmekekbaa
