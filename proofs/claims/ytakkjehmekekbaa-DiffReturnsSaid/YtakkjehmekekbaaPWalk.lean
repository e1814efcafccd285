/- DiffApplies walked whole: any script does on any text what the document says. Conditions: none beyond what the form itself asks. -/
import Derived.Test.YtakkjehmekekbaaRefA
namespace Go.Proofs.Ytakkjehmekekbaa
open Go.RowKit

theorem ec_ones (l : List D.Ed) : ∀ u ∈ ecs l, u.oneCell' = true := by
  induction l with
  | nil => intro u hu; cases hu
  | cons x l ih =>
    intro u hu
    have : u ∈ ec x ++ ecs l := by simpa [ecs] using hu
    rcases List.mem_append.1 this with h | h
    · exact ec_one x u h
    · exact ih u h
theorem wpList_appE {w : World} {ops : Array Oper} {rest : List Oper} {o : Oper} {a : Act} {Q : Exit → Act → World → Prop} (hgd : o.guard = none) (s x : Operand)
    (ho : o.op = .call { callee := .builtin .append, args := #[s, x], argTypes := #[22, 22] })
    (base : Nat) (v : Value) (n : Nat) (xs : List D.Ed) (hs : a.eval s = v) (hown : w.ownsRow base 32 3 v n (ecs xs))
    (B : Nat) (A : Option Addr) (m c : Nat) (news : List D.Ed) (hx : a.eval x = .slice A m c) (hr : Reads w B 3 A m (ecs news))
    (hbytes : (n + m) * 32 ≤ 140737488355328) (hbase : base ≤ w.heap.size)
    (h : ∀ A' c' w', w'.ownsRow base 32 3 (.slice A' (n + m) c') (n + m) (ecs (xs ++ news)) → Gr w w' v (.slice A' (n + m) c') → n + m ≤ c' → wpList Try.prog ops Q rest (a.put o.dst (.slice A' (n + m) c')) w') :
    wpList Try.prog ops Q (o :: rest) a w := by
  obtain ⟨i0, hi0, hz0, hz1, hz2⟩ := info_parts info32
  refine wpList_append_any _ hgd s x 22 ho base 32 i0 _ 3 32 Try.underlying22 hi0 hz0 hz1 hz2 rfl (by omega) v n (ecs xs) hs hown B A m c (ecs news) hx hr (ec_ones _) (by simp only [maxLen]; omega) hbytes hbase fun v' w' h2 h3 h4 => ?_
  obtain ⟨A', c', rfl, hc, _⟩ := own_form h2
  rw [← ecs_append] at h2
  exact h A' c' w' h2 (Gr.of_grown h3 h4) hc
theorem reads_pre {w : World} {B n m : Nat} {A : Option Addr} {l r : List D.Ed} (hl : l.length = n) (h : Reads w B 3 A (n + m) (ecs (l ++ r))) : Reads w B 3 A n (ecs l) := by
  subst hl
  refine ⟨by rw [ecs_length], fun hn => ?_⟩
  obtain ⟨ad, e, hb, hc⟩ := h.2 (by omega)
  refine ⟨ad, e, hb, fun j u hu => hc j u ?_⟩
  rw [ecs_append, List.getElem?_append_left ?_]
  · exact hu
  · rcases Nat.lt_or_ge j (ecs l).length with h' | h'
    · exact h'
    · rw [List.getElem?_eq_none h'] at hu; cases hu

set_option maxRecDepth 100000 in
set_option maxHeartbeats 2000000 in
theorem applies_walk (s0 : ByteArray) (A : Option Addr) (l : List D.Ed) (n c : Nat) (w : World) (hs : s0.size ≤ 140737488355328) (hn : l.length = n) (hn6 : n ≤ 4398046511000) (hok : ∀ x ∈ l, EdOk x) (hr : Reads w w.heap.size 3 A n (ecs l)) :
    Calls Try.prog 4 #[.string s0, .slice A n c] w fun e w' => e = .returned (.bool true) ∧ Below w.heap.size w w' := by
  have e0 := bs_self s0
  have l0 : s0.data.toList.length = s0.size := by simp
  rw [← e0]
  generalize s0.data.toList = a at *
  obtain ⟨q, z, hq⟩ : ∃ q z, D.apply a l = (q, z) := ⟨_, _, rfl⟩
  have hap := hide fun (A' : Option Addr) (c' : Nat) (w1 : World) (hr1 : Reads w1 w1.heap.size 3 A' n (ecs l)) => apply_any a A' l n c' w1 (by omega) hn (by omega) hok hr1 hq
  have hrap := hide fun (w1 : World) (hr1 : Reads w1 w1.heap.size 3 A n (ecs l)) => rapply_any a A l n c w1 (by omega) hn (by omega) hok hr1 hq
  have h0 : (w.alloc (.cells #[] 32)).ownsRow w.heap.size 32 3 (.slice (some ⟨w.heap.size, 0, none⟩) 0 0) 0 (ecs []) := World.ownsRow_made w #[] 0 (Nat.le_refl _) (Nat.zero_le _) rfl
  have hle1 : w.heap.size ≤ (w.alloc (.cells #[] 32)).heap.size := by simp
  have hle2 : ∀ (w1 : World), (w.alloc (.cells #[] 32)).heap.size ≤ w1.heap.size → w.heap.size ≤ (w1.alloc (.cells #[.int .i64 9, .int .i64 0, .string ⟨#[]⟩] 32)).heap.size := fun _ h => by simp at h ⊢; omega
  have hr0 := hide (hr.alloc (Nat.le_refl _) (.cells #[] 32))
  replace hr := hide hr
  replace hn := hide hn
  clear e0 hq hok l0
  replace h0 := hide h0
  replace hle1 := hide hle1
  replace hle2 := hide hle2
  go_enter Try.func4, Try.ntmps4
  go_wp2_with (first
    | (at_builtin; refine wpList_appE rfl (.tmp 10) (.tmp 11) rfl w.heap.size (.slice (some ⟨w.heap.size, 0, none⟩) 0 0) 0 [] rfl (unhide h0) w.heap.size A n c l rfl (unhide hr0) ?_ (unhide hle1) ?_; omega; intro A1 c1 w1 hown1 hgr1 _; simp only [Nat.zero_add, List.nil_append] at hown1 hgr1)
    | (at_builtin; refine wpList_appE rfl (.tmp 12) (.tmp 14) rfl w.heap.size (.slice A1 n c1) n l rfl (hown1.alloc _) _ _ 1 1 [⟨9, 0, []⟩] rfl (reads_new3 w1 ⟨9, 0, []⟩) ?_ ((unhide hle2) _ hgr1.g.size) ?_; omega; intro A2 c2 w2 hown2 hgr2 hc2; have hB2 := hide (And.intro hgr1 (And.intro hown1 hgr2)); replace hown2 := hide hown2; clear hgr1 hown1 hgr2))
  have hbel2 : Below w.heap.size w w2 := by
    obtain ⟨hgr1, hown1, hgr2⟩ := unhide hB2
    have b1 : Below w.heap.size w w1 := ((Below.refl _ _).alloc (Nat.le_refl _) _).trans (hgr1.below (unhide hle1) (by simp [Value.ownBlock]))
    exact (b1.alloc b1.size _).trans (hgr2.below (by have := b1.size; simp; omega) (fun k hk => (hown1.lt k hk).1))
  have hx := hide (Reads.of_own (unhide hown2))
  have hln : (l ++ [(⟨9, 0, []⟩ : D.Ed)]).length = n + 1 := by rw [List.length_append, unhide hn]; rfl
  have hcA := hide (unhide hap A2 c2 w2 (reads_pre (unhide hn) (unhide hx)))
  clear hB2 hown2 hap hr0 h0 hle1 hle2
  refine (unhide hcA).mono ?_
  rintro e w3 ⟨rfl, hb3⟩
  have hbel3 := bel_up hbel2 hb3
  have hx3 := hide (reads_up (unhide hx) hb3)
  have hcR := hide (unhide hrap w3 (reads_up (unhide hr) hbel3))
  clear hcA
  go_wp2_with fail
  refine (unhide hcR).mono ?_
  rintro e w4 ⟨rfl, hb4⟩
  have hbel4 := bel_up hbel3 hb4
  have hx4 := hide (reads_up (unhide hx3) hb4)
  have hcS := hide (same_any A2 A l n c2 c w4 (unhide hn) (by omega) (reads_pre (unhide hn) (unhide hx4)) (reads_up (unhide hr) hbel4))
  clear hcR
  go_wp2_with fail
  refine (unhide hcS).mono ?_
  rintro e w5 ⟨rfl, hb5⟩
  have hbel5 := bel_up hbel4 hb5
  obtain ⟨ad, y, rfl, hy, _, d1, _, _⟩ := reads_ed hln (reads_up (unhide hx4) hb5) (k := n) (by omega)
  have hy9 : y = ⟨9, 0, []⟩ := by
    rw [List.getElem?_append_right (by rw [unhide hn]; omega), unhide hn] at hy
    simp at hy
    exact hy.symm
  subst hy9
  clear hcS hy hln
  go_wp2_with fail
  refine (falive_any _).mono ?_
  rintro e w6 ⟨rfl, hb6⟩
  go_wp2_with fail
  go_ret
  exact ⟨rfl, bel_up hbel5 hb6⟩
end Go.Proofs.Ytakkjehmekekbaa
