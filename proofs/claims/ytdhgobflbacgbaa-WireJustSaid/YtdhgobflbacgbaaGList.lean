/- wire.GetList, the document's, and Same: the list that stands at a place, at every bytes and place. -/
import Derived.Test.YtdhgobflbacgbaaList
import Derived.Deep.QuietTactic
import Derived.BigQuiet
namespace Go.Proofs.Ytdhgobflbacgbaa
open Go.RowKit

theorem info9 : (Try.prog.info? 9).map (fun i => (i.zero, i.size, i.bytes)) = some (some (.string ByteArray.empty), 1, 16) := by kernel_rfl
theorem et45 : ET Try.prog 45 9 (.string ByteArray.empty) 16 := ⟨Try.underlying45, info_parts info9, rfl⟩

/-- what GetList answers -/
def LPost (w : World) (r : List (List UInt8) × Nat × Nat) (e : Ending) (w' : World) : Prop :=
  ∃ A c, e = .returned (.tuple #[.slice A r.1.length c, .int .i64 r.2.1, .int .i64 r.2.2]) ∧ w'.ownsRow w.heap.size 9 1 (.slice A r.1.length c) r.1.length (svs r.1) ∧ Below w.heap.size w w'

theorem gl_err {b : List UInt8} {p : Int} (h : (W.gnum b p).2.2 ≠ 0) : W.glist b p = ([], 0, (W.gnum b p).2.2) := by unfold W.glist; rw [if_pos h]

set_option maxRecDepth 100000 in
set_option maxHeartbeats 400000 in
theorem glist_err (B : Nat) (A : Option Addr) (b : List UInt8) (c : Nat) (p : Int) (w : World) (hb : b.length ≤ 140737488355328) (hr : Reads w B 1 A b.length (bvs b)) (he : (W.gnum b p).2.2 ≠ 0) :
    Calls Try.prog 30 #[.slice A b.length c, .int .i64 p] w (LPost w (W.glist b p)) := by
  have hf := gl_err he
  have h1 := get_eq B A b _ c p w rfl hb hr (x := 0) (y := 0) (z := (W.gnum b p).2.2) (by rw [W.gnum_err he]; rfl)
  rw [hf]
  generalize (W.gnum b p).2.2 = e at *
  have he' : ((e : Int) != 0) = true := by rw [bne_iff_ne]; omega
  replace h1 := hide h1
  clear hf he hr
  go_enter Try.func30, Try.ntmps30
  go_wp2_with (go_at_call 19; refine (unhide h1).mono ?_; rintro e w1 ⟨rfl, rfl⟩)
  go_ret3
  exact ⟨none, 0, rfl, World.ownsRow_nil _ _ _ _, Below.refl _ _⟩

set_option maxRecDepth 100000 in
set_option maxHeartbeats 1000000 in
theorem glist_ok (A : Option Addr) (b : List UInt8) (c : Nat) (p : Int) (w : World) (n x : Nat) (hb : b.length ≤ 140737488355328) (hc : b.length ≤ c) (hr : Reads w w.heap.size 1 A b.length (bvs b)) (hg : W.gnum b p = (n, x, 0)) :
    Calls Try.prog 30 #[.slice A b.length c, .int .i64 p] w (LPost w (W.glist b p)) := by
  have h1 := hide (get_eq _ A b _ c p w rfl hb hr (x := n) (y := x) (z := 0) (by rw [hg]; rfl))
  by_cases hl : 131072 < n
  · have HF : W.glist b p = ([], 0, 3) := by
      unfold W.glist; rw [hg]; simp only [ne_eq, not_true_eq_false, if_false]; rw [if_pos hl]
    rw [HF]
    have hl' : (131072 : Int) < n := by omega
    clear hr hg HF
    go_enter Try.func30, Try.ntmps30
    go_wp2_with (go_at_call 19; refine (unhide h1).mono ?_; rintro e w1 ⟨rfl, rfl⟩)
    go_ret3
    exact ⟨none, 0, rfl, World.ownsRow_nil _ _ _ _, Below.refl _ _⟩
  · have HF : W.glist b p = W.glistF b n x [] := by
      unfold W.glist; rw [hg]; simp only [ne_eq, not_true_eq_false, if_false]; rw [if_neg hl]
    replace HF := hide HF
    have hl' : ¬ (131072 : Int) < n := by omega
    have hr := hide hr
    have hg' := hide hg
    clear hg hl
    go_enter Try.func30, Try.ntmps30
    go_wp2_with (go_at_call 19; refine (unhide h1).mono ?_; rintro e w1 ⟨rfl, rfl⟩)
    go_loopw [4, 5, 8, 9, 10, 24] (fun v y _ _ _ i wr => ∃ (k z : Nat) (acc : List (List UInt8)), i = .int .i64 k ∧ k ≤ n ∧ y = .int .i64 z ∧ acc.length = k ∧ W.glistF b (n - k) z acc = W.glist b p ∧ wr.ownsRow w.heap.size 9 1 v k (svs acc) ∧ Below w.heap.size w wr) (fun _ _ _ _ _ i _ => n - (intOf i).toNat)
    case atStart => exact ⟨0, x, [], rfl, Nat.zero_le _, rfl, rfl, (unhide HF).symm, World.ownsRow_nil _ _ _ _, Below.refl _ _⟩
    case round =>
      obtain ⟨k, z, acc, rfl, hk, rfl, hacc, hF, hown, hbel⟩ := hrel
      obtain ⟨A2, c2, rfl, _, _⟩ := own_form hown
      by_cases hlt : k < n
      · have hgt := hide (gtext_any w.heap.size A b c z wr hb hc ((unhide hr).below hbel))
        have hstep : W.glistF b (n - k) z acc = if (W.gtext b z).2.2 ≠ 0 then ([], 0, (W.gtext b z).2.2) else W.glistF b (n - (k + 1)) (W.gtext b z).2.1 (acc ++ [(W.gtext b z).1]) := by
          rw [show n - k = (n - (k + 1)) + 1 by omega, W.glistF]
        obtain ⟨s, y, e, ht⟩ : ∃ s y e, W.gtext b z = (s, y, e) := ⟨_, _, _, rfl⟩
        rw [ht] at hstep
        simp only at hstep
        have HA := hide hacc
        by_cases he : e = 0
        · subst he
          simp only [ne_eq, not_true_eq_false, if_false] at hstep
          have hnext := hide (hstep.symm.trans hF)
          replace hgt := unhide hgt
          rw [ht] at hgt
          simp only [tv] at hgt
          replace hgt := hide hgt
          have hl16 : (k + 1) * 16 ≤ 140737488355328 := by omega
          have hbs := hbel.size
          clear hstep hF ht hacc
          go_wp2_with (first
            | (go_at_call 26; refine (unhide hgt).mono ?_; rintro e w2 ⟨rfl, rfl⟩)
            | (at_builtin; refine wpList_app1 rfl (.tmp 36) (.tmp 38) _ rfl et45 w.heap.size _ k (svs acc) rfl hown (.string (bs s)) rfl rfl hl16 (by decide) hbs ?_; intro A3 c3 w3 hown3 hgr3 _))
          go_roundw
          case rel => exact ⟨k + 1, y, acc ++ [s], by go_num, by omega, rfl, by rw [List.length_append, unhide HA]; rfl, unhide hnext, by rw [show svs (acc ++ [s]) = svs acc ++ [Value.string (bs s)] by simp [svs, sv]]; exact hown3, hbel.trans (hgr3.below hbs (fun j hj => (hown.lt j hj).1))⟩
          case measure => simp [intOf]; omega
        · rw [if_pos he] at hstep
          have hfin := hide (hstep.symm.trans hF)
          replace hgt := unhide hgt
          have hse : s = [] ∧ y = 0 := by
            have := W.gtext_err (b := b) (p := z) (by rw [ht]; exact he)
            rw [ht] at this
            simp only [Prod.mk.injEq] at this
            exact ⟨this.1, this.2.1⟩
          rw [ht, hse.1, hse.2] at hgt
          simp only [tv] at hgt
          replace hgt := hide hgt
          have he' : ((e : Int) != 0) = true := by rw [bne_iff_ne]; omega
          clear hstep hF ht hacc hse he
          go_wp2_with (go_at_call 26; refine (unhide hgt).mono ?_; rintro e w2 ⟨rfl, rfl⟩)
          go_ret3
          rw [← unhide hfin]
          exact ⟨none, 0, rfl, World.ownsRow_nil _ _ _ _, hbel⟩
      · have hkn : k = n := by omega
        subst hkn
        have hF := hide hF
        have HA := hide hacc
        clear hacc
        go_wp2_with fail
        go_ret3
        have h2 := unhide hF
        rw [Nat.sub_self, W.glistF] at h2
        rw [← h2]
        exact ⟨A2, c2, by rw [unhide HA]; rfl, by simp only [unhide HA]; exact hown, hbel⟩

theorem glist_any (A : Option Addr) (b : List UInt8) (c : Nat) (p : Int) (w : World) (hb : b.length ≤ 140737488355328) (hc : b.length ≤ c) (hr : Reads w w.heap.size 1 A b.length (bvs b)) :
    Calls Try.prog 30 #[.slice A b.length c, .int .i64 p] w (LPost w (W.glist b p)) := by
  by_cases he : (W.gnum b p).2.2 = 0
  · obtain ⟨n, x, e, hg⟩ : ∃ n x e, W.gnum b p = (n, x, e) := ⟨_, _, _, rfl⟩
    rw [hg] at he
    simp only at he
    subst he
    exact glist_ok A b c p w n x hb hc hr hg
  · exact glist_err _ A b c p w hb hr he

theorem glistF_len (b : List UInt8) : ∀ (k x : Nat) (acc : List (List UInt8)), (W.glistF b k x acc).1.length ≤ acc.length + k := by
  intro k
  induction k with
  | zero => intro x acc; simp [W.glistF]
  | succ k ih =>
    intro x acc
    rw [W.glistF]
    split
    · simp
    · have := ih (W.gtext b x).2.1 (acc ++ [(W.gtext b x).1])
      simp only [List.length_append, List.length_singleton] at this
      omega
theorem glist_len {b : List UInt8} {p : Int} {t : List (List UInt8)} {x e : Nat} (h : W.glist b p = (t, x, e)) : t.length ≤ 140737488355328 := by
  have h1 : (W.glist b p).1.length ≤ 131072 := by
    unfold W.glist
    split
    · simp
    · split
      · simp
      · have := glistF_len b (W.gnum b p).1 (W.gnum b p).2.1 []
        simp only [List.length_nil] at this
        omega
  rw [h] at h1
  simp only at h1
  omega
end Go.Proofs.Ytdhgobflbacgbaa
