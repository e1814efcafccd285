/- The cost of the way from a text to another one, and what must come of edit scripts (the statements' own 'cost' and 'alive'). -/
import Derived.Test.YtakkjehmekekbaaDone
namespace Go.Proofs.Ytakkjehmekekbaa
open Go.RowKit

theorem does_text {l : List D.Ed} {p q : List UInt8} (h : D.Does l p q) : ∀ x ∈ l, x.text.length ≤ q.length := by
  induction h with
  | nil => intro x hx; cases hx
  | keep s _ _ ih =>
    intro x hx
    rcases List.mem_cons.1 hx with rfl | hx
    · simp
    · have := ih x hx; simp; omega
  | cut s _ _ ih =>
    intro x hx
    rcases List.mem_cons.1 hx with rfl | hx
    · simp
    · exact ih x hx
  | put s _ _ ih =>
    intro x hx
    rcases List.mem_cons.1 hx with rfl | hx
    · simp
    · have := ih x hx; simp; omega
theorem does_len {l : List D.Ed} {p q : List UInt8} (h : D.Does l p q) : l.length ≤ p.length + q.length := by
  induction h with
  | nil => simp
  | keep s hs _ ih => have := D.pos_len hs; simp; omega
  | cut s hs _ ih => have := D.pos_len hs; simp; omega
  | put s hs _ ih => have := D.pos_len hs; simp; omega
theorem costZ_ok : ∀ (l : List D.Ed) (c : Nat), (∀ x ∈ l, D.may x ∧ x.n ≤ 1000) → c + D.costs l < 9223372036854775808 → costZ c l = (((c + D.costs l : Nat) : Int), 0) := by
  intro l
  induction l with
  | nil => intro c _ _; simp [costZ, D.costs]
  | cons x l ih =>
    intro c h hb
    have hx := h x (by simp)
    simp only [D.costs] at hb ⊢
    rw [costZ, if_neg (by intro h'; rcases h' with h' | h'; exact h' hx.1; omega)]
    have hi := ih (c + D.one x) (fun y hy => h y (by simp [hy])) (by omega)
    by_cases hk : x.kind = 1
    · have h1 : D.one x = 0 := by unfold D.one; rw [if_pos hk]
      rw [if_pos hk]
      rw [h1, Nat.add_zero] at hi
      rw [hi, h1]
      simp
    · rw [if_neg hk, IntWalk.wrap64_in _ (by omega), show ((c : Int) + (D.one x : Int)) = ((c + D.one x : Nat) : Int) from by omega, hi, Nat.add_assoc]
theorem costZ_does {l : List D.Ed} {p q : List UInt8} (h : D.Does l p q) (hp : p.length ≤ 1000) (hq : q.length ≤ 1000) : costZ 0 l = ((D.costs l : Int), 0) := by
  have hb : D.costs l ≤ p.length + q.length := by
    induction h with
    | nil => simp [D.costs]
    | keep s _ _ ih => simp [D.costs, D.one] at *; have := ih (by omega) (by omega); omega
    | cut s _ _ ih => simp [D.costs, D.one] at *; have := ih (by omega) (by omega); omega
    | put s _ _ ih => simp [D.costs, D.one] at *; have := ih (by omega) (by omega); omega
  have hm := D.does_may h
  have := costZ_ok l 0 (fun x hx => ⟨(hm x hx).1, by have := (hm x hx).2; omega⟩) (by omega)
  simpa using this

set_option maxRecDepth 100000 in
set_option maxHeartbeats 1000000 in
theorem wcost_ok (a b : List UInt8) (w : World) (ha : a.length ≤ 1000) (hb : b.length ≤ 1000) :
    Calls Try.prog 20 #[.string (bs a), .string (bs b)] w fun e w' => e = .returned (.int .i64 (D.dist a b)) ∧ Below w.heap.size w w' := by
  have hm := make_ok a b a.length b.length w rfl rfl ha hb
  obtain ⟨hd, hco⟩ := D.make_does a b
  have hcz := costZ_does hd ha hb
  rw [hco] at hcz
  have ht := does_text hd
  have hll := does_len hd
  generalize D.mk a b [] = l at *
  generalize D.dist a b = m at *
  have hok : ∀ x ∈ l, EdOk x := fun x hx => by unfold EdOk; have := ht x hx; omega
  clear hd hco ht
  replace hm := hide hm
  replace hcz := hide hcz
  replace hok := hide hok
  generalize hn : l.length = n at *
  replace hn := hide hn
  go_enter Try.func20, Try.ntmps20
  go_wp2_with fail
  refine (unhide hm).mono ?_
  rintro e w1 ⟨A, c, rfl, hown, hbel⟩
  rw [unhide hn] at hown
  have hc2 := hide (cost_any A l n c w1 (unhide hn) (by omega) (unhide hok) (Reads.of_own hown))
  rw [unhide hcz] at hc2
  clear hown
  rw [unhide hn]
  go_wp2_with fail
  refine (unhide hc2).mono ?_
  rintro e w2 ⟨rfl, hb2⟩
  go_wp2_with fail
  go_ret
  exact ⟨rfl, hbel.trans (hb2.mono hbel.size)⟩

set_option maxRecDepth 100000 in
set_option maxHeartbeats 1000000 in
theorem wcost_huge (a b : List UInt8) (w : World) (ha : a.length ≤ 562949953421312) (hb : b.length ≤ 562949953421312) (h : 1000 < a.length ∨ 1000 < b.length) :
    Calls Try.prog 20 #[.string (bs a), .string (bs b)] w fun e w' => e = .returned (.int .i64 (-1)) ∧ Below w.heap.size w w' := by
  have hm := hide (make_huge a b w ha hb h)
  clear h
  go_enter Try.func20, Try.ntmps20
  go_wp2_with fail
  refine (unhide hm).mono ?_
  rintro e w1 ⟨rfl, rfl⟩
  go_wp2_with fail
  go_ret
  exact ⟨rfl, Below.refl _ _⟩

theorem wcost_no (a b : List UInt8) (w : World) (ha : a.length ≤ 140737488355328) (hb : b.length ≤ 140737488355328) (h : 1000 < a.length ∨ 1000 < b.length) :
    Calls Try.prog 20 #[.string (bs a), .string (bs b)] w fun e w' => e = .returned (.int .i64 (-1)) ∧ Below w.heap.size w w' :=
  wcost_huge a b w (by omega) (by omega) h

theorem alive_make : D.mk [97, 98, 99] [97, 120, 99] [] = [⟨1, 1, []⟩, ⟨2, 1, []⟩, ⟨3, 0, [120]⟩, ⟨1, 1, []⟩] := by
  have e1 : D.dist [99] [120, 99] = 1 := by rw [D.dist_other (by decide), D.dist_nil_left, D.dist_same, D.dist_nil_left]; rfl
  have e2 : D.dist [98, 99] [99] = 1 := by rw [D.dist_other (by decide), D.dist_same, D.dist_nil_left, D.dist_nil_right]; rfl
  have e3 : D.dist [] [120, 99] = 2 := by rw [D.dist_nil_left]; rfl
  have e4 : D.dist [99] [99] = 0 := by rw [D.dist_same, D.dist_nil_left]; rfl
  rw [mk_keep rfl, mk_cut (by decide) (by rw [e1, e2]; decide), mk_put (by decide) (by rw [e3, e4]; decide), mk_keep rfl, mk_end]
  rfl
theorem alive_cost : costZ 0 [⟨1, 1, []⟩, ⟨2, 1, []⟩, ⟨3, 0, [120]⟩, ⟨1, 1, []⟩] = (2, 0) := by
  have := costZ_ok [⟨1, 1, []⟩, ⟨2, 1, []⟩, ⟨3, 0, [120]⟩, ⟨1, 1, []⟩] 0 (by decide) (by decide)
  exact this
theorem alive_apply : D.apply [97, 98] [⟨1, 1, []⟩] = ([], 8) := by decide

theorem alive_ap (w2 : World) : Calls Try.prog 16 #[.string ⟨#[97, 98]⟩, .slice (some ⟨w2.heap.size, 0, none⟩) 1 1] (w2.alloc (.cells #[.int .i64 1, .int .i64 1, .string ⟨#[]⟩] 32)) fun e w' => e = .returned (.tuple #[.string ⟨#[]⟩, .int .i64 8]) ∧ Below (w2.alloc (.cells #[.int .i64 1, .int .i64 1, .string ⟨#[]⟩] 32)).heap.size (w2.alloc (.cells #[.int .i64 1, .int .i64 1, .string ⟨#[]⟩] 32)) w' := by
  have r3 : Reads (w2.alloc (.cells #[.int .i64 1, .int .i64 1, .string ⟨#[]⟩] 32)) (w2.alloc (.cells #[.int .i64 1, .int .i64 1, .string ⟨#[]⟩] 32)).heap.size 3 (some ⟨w2.heap.size, 0, none⟩) 1 (ecs [⟨1, 1, []⟩]) := (reads_new3 w2 ⟨1, 1, []⟩).more (by simp)
  exact apply_any [97, 98] _ [⟨1, 1, []⟩] 1 1 _ (by decide) rfl (by decide) (by intro x hx; simp only [List.mem_cons, List.not_mem_nil, or_false] at hx; unfold EdOk; rcases hx with rfl; decide) r3 alive_apply

set_option maxRecDepth 100000 in
set_option maxHeartbeats 400000 in
theorem falive_any (w : World) : Calls Try.prog 15 #[] w fun e w' => e = .returned (.bool true) ∧ Below w.heap.size w w' := by
  have hm := make_ok [97, 98, 99] [97, 120, 99] 3 3 w rfl rfl (by decide) (by decide)
  rw [alive_make] at hm
  replace hm := hide hm
  go_enter Try.func15, Try.ntmps15
  go_wp2_with fail
  refine (unhide hm).mono ?_
  rintro e w1 ⟨A, c, rfl, hown, hbel⟩
  have hc2 := cost_any A [⟨1, 1, []⟩, ⟨2, 1, []⟩, ⟨3, 0, [120]⟩, ⟨1, 1, []⟩] 4 c w1 rfl (by decide) (by intro x hx; simp only [List.mem_cons, List.not_mem_nil, or_false] at hx; unfold EdOk; rcases hx with rfl | rfl | rfl | rfl <;> decide) (Reads.of_own hown)
  rw [alive_cost] at hc2
  replace hc2 := hide hc2
  obtain ⟨ad, _, rfl, hx, hbl, k1, _, _⟩ := reads_ed (k := 1) (l := [⟨1, 1, []⟩, ⟨2, 1, []⟩, ⟨3, 0, [120]⟩, ⟨1, 1, []⟩]) (n := 4) rfl (Reads.of_own hown) (by decide)
  injection hx with hx
  subst hx
  clear hown
  go_wp2_with fail
  refine (unhide hc2).mono ?_
  rintro e w2 ⟨rfl, hb2⟩
  go_wp2_with fail
  have hap : Calls Try.prog 16 #[.string ⟨#[97, 98]⟩, .slice (some ⟨w2.heap.size, 0, none⟩) 1 1] (w2.alloc (.cells #[.int .i64 1, .int .i64 1, .string ⟨#[]⟩] 32)) fun e w' => e = .returned (.tuple #[.string ⟨#[]⟩, .int .i64 8]) ∧ Below (w2.alloc (.cells #[.int .i64 1, .int .i64 1, .string ⟨#[]⟩] 32)).heap.size (w2.alloc (.cells #[.int .i64 1, .int .i64 1, .string ⟨#[]⟩] 32)) w' := alive_ap w2
  refine hap.mono ?_
  rintro e w3 ⟨rfl, hb3⟩
  clear hap
  have hB3 : Below w2.heap.size w2 w3 := ((Below.refl _ _).alloc (Nat.le_refl _) _).trans (hb3.mono (by simp))
  have hB13 : Below w1.heap.size w1 w3 := hb2.trans (hB3.mono hb2.size)
  have k3 : w3.cell? (ad.add 3) = some (.int .i64 2) := (hB13.cell (p := ad.add 3) (by rw [block_of_add]; exact hbl)).trans k1
  have k4 : w3.cell? ⟨ad.block, ad.off + 3, none⟩ = some (.int .i64 2) := k3
  clear k1 k3
  go_wp2_with fail
  go_ret
  exact ⟨rfl, hbel.trans (hB13.mono hbel.size)⟩
end Go.Proofs.Ytakkjehmekekbaa
