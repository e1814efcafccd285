/- The document's GetList, and Same of two lists that are the same. -/
import Derived.Test.YtdhgobflbacgbaaGList
import Derived.Deep.QuietTactic
import Derived.BigQuiet
namespace Go.Proofs.Ytdhgobflbacgbaa
open Go.RowKit

set_option maxRecDepth 100000 in
set_option maxHeartbeats 400000 in
theorem rglist_err (b : List UInt8) (p : Int) (w : World) (hb : b.length ≤ 140737488355328) (he : (W.gnum b p).2.2 ≠ 0) :
    Calls Try.prog 31 #[.string (bs b), .int .i64 p] w (LPost w (W.glist b p)) := by
  have hf := gl_err he
  have h1 := rget_eq (bs b) p w (by rw [bs_size]; exact hb) (x := 0) (y := 0) (z := (W.gnum b p).2.2) (by rw [bs_data, W.gnum_err he]; rfl)
  rw [hf]
  generalize (W.gnum b p).2.2 = e at *
  have he' : ((e : Int) != 0) = true := by rw [bne_iff_ne]; omega
  replace h1 := hide h1
  clear hf he
  go_enter Try.func31, Try.ntmps31
  go_wp2_with (go_at_call 20; refine (unhide h1).mono ?_; rintro e w1 ⟨rfl, rfl⟩)
  go_ret3
  exact ⟨none, 0, rfl, World.ownsRow_nil _ _ _ _, Below.refl _ _⟩

set_option maxRecDepth 100000 in
set_option maxHeartbeats 1000000 in
theorem rglist_ok (b : List UInt8) (p : Int) (w : World) (n x : Nat) (hb : b.length ≤ 140737488355328) (hg : W.gnum b p = (n, x, 0)) :
    Calls Try.prog 31 #[.string (bs b), .int .i64 p] w (LPost w (W.glist b p)) := by
  have h1 := hide (rget_eq (bs b) p w (by rw [bs_size]; exact hb) (x := n) (y := x) (z := 0) (by rw [bs_data, hg]; rfl))
  by_cases hl : 131072 < n
  · have HF : W.glist b p = ([], 0, 3) := by
      unfold W.glist; rw [hg]; simp only [ne_eq, not_true_eq_false, if_false]; rw [if_pos hl]
    rw [HF]
    have hl' : (131072 : Int) < n := by omega
    clear hg HF
    go_enter Try.func31, Try.ntmps31
    go_wp2_with (go_at_call 20; refine (unhide h1).mono ?_; rintro e w1 ⟨rfl, rfl⟩)
    go_ret3
    exact ⟨none, 0, rfl, World.ownsRow_nil _ _ _ _, Below.refl _ _⟩
  · have HF : W.glist b p = W.glistF b n x [] := by
      unfold W.glist; rw [hg]; simp only [ne_eq, not_true_eq_false, if_false]; rw [if_neg hl]
    replace HF := hide HF
    have hl' : ¬ (131072 : Int) < n := by omega
    have hg' := hide hg
    clear hg hl
    go_enter Try.func31, Try.ntmps31
    go_wp2_with (go_at_call 20; refine (unhide h1).mono ?_; rintro e w1 ⟨rfl, rfl⟩)
    go_loopw [8, 10, 11, 12, 13, 14] (fun y v i _ _ _ wr => ∃ (k z : Nat) (acc : List (List UInt8)), i = .int .i64 k ∧ k ≤ n ∧ y = .int .i64 z ∧ acc.length = k ∧ W.glistF b (n - k) z acc = W.glist b p ∧ wr.ownsRow w.heap.size 9 1 v k (svs acc) ∧ Below w.heap.size w wr) (fun _ _ i _ _ _ _ => n - (intOf i).toNat)
    case atStart => exact ⟨0, x, [], rfl, Nat.zero_le _, rfl, rfl, (unhide HF).symm, World.ownsRow_nil _ _ _ _, Below.refl _ _⟩
    case round =>
      obtain ⟨k, z, acc, rfl, hk, rfl, hacc, hF, hown, hbel⟩ := hrel
      obtain ⟨A2, c2, rfl, _, _⟩ := own_form hown
      by_cases hlt : k < n
      · have hgt := hide (rgtext_any (bs b) z wr (by rw [bs_size]; exact hb))
        have hstep : W.glistF b (n - k) z acc = if (W.gtext b z).2.2 ≠ 0 then ([], 0, (W.gtext b z).2.2) else W.glistF b (n - (k + 1)) (W.gtext b z).2.1 (acc ++ [(W.gtext b z).1]) := by
          rw [show n - k = (n - (k + 1)) + 1 by omega, W.glistF]
        replace hgt := unhide hgt
        rw [bs_data] at hgt
        replace hgt := hide hgt
        obtain ⟨s, y, e, ht⟩ : ∃ s y e, W.gtext b z = (s, y, e) := ⟨_, _, _, rfl⟩
        rw [ht] at hstep
        simp only at hstep
        have HA := hide hacc
        by_cases he : e = 0
        · subst he
          simp only [ne_eq, not_true_eq_false, if_false] at hstep
          have hnext := hide (hstep.symm.trans hF)
          replace hgt := unhide hgt
          rw [ht] at hgt
          simp only [tv] at hgt
          replace hgt := hide hgt
          have hl16 : (k + 1) * 16 ≤ 140737488355328 := by omega
          have hbs := hbel.size
          clear hstep hF ht hacc
          go_wp2_with (first
            | (go_at_call 27; refine (unhide hgt).mono ?_; rintro e w2 ⟨rfl, rfl⟩)
            | (at_builtin; refine wpList_app1 rfl (.tmp 42) (.tmp 44) _ rfl et45 w.heap.size _ k (svs acc) rfl hown (.string (bs s)) rfl rfl hl16 (by decide) hbs ?_; intro A3 c3 w3 hown3 hgr3 _))
          go_roundw
          case rel => exact ⟨k + 1, y, acc ++ [s], by go_num, by omega, rfl, by rw [List.length_append, unhide HA]; rfl, unhide hnext, by rw [show svs (acc ++ [s]) = svs acc ++ [Value.string (bs s)] by simp [svs, sv]]; exact hown3, hbel.trans (hgr3.below hbs (fun j hj => (hown.lt j hj).1))⟩
          case measure => simp [intOf]; omega
        · rw [if_pos he] at hstep
          have hfin := hide (hstep.symm.trans hF)
          replace hgt := unhide hgt
          have hse : s = [] ∧ y = 0 := by
            have := W.gtext_err (b := b) (p := z) (by rw [ht]; exact he)
            rw [ht] at this
            simp only [Prod.mk.injEq] at this
            exact ⟨this.1, this.2.1⟩
          rw [ht, hse.1, hse.2] at hgt
          simp only [tv] at hgt
          replace hgt := hide hgt
          have he' : ((e : Int) != 0) = true := by rw [bne_iff_ne]; omega
          clear hstep hF ht hacc hse he
          go_wp2_with (go_at_call 27; refine (unhide hgt).mono ?_; rintro e w2 ⟨rfl, rfl⟩)
          go_ret3
          rw [← unhide hfin]
          exact ⟨none, 0, rfl, World.ownsRow_nil _ _ _ _, hbel⟩
      · have hkn : k = n := by omega
        subst hkn
        have hF := hide hF
        have HA := hide hacc
        clear hacc
        go_wp2_with fail
        go_ret3
        have h2 := unhide hF
        rw [Nat.sub_self, W.glistF] at h2
        rw [← h2]
        exact ⟨A2, c2, by rw [unhide HA]; rfl, by simp only [unhide HA]; exact hown, hbel⟩
theorem rglist_any (b : List UInt8) (p : Int) (w : World) (hb : b.length ≤ 140737488355328) :
    Calls Try.prog 31 #[.string (bs b), .int .i64 p] w (LPost w (W.glist b p)) := by
  by_cases he : (W.gnum b p).2.2 = 0
  · obtain ⟨n, x, e, hg⟩ : ∃ n x e, W.gnum b p = (n, x, e) := ⟨_, _, _, rfl⟩
    rw [hg] at he
    simp only at he
    subst he
    exact rglist_ok b p w n x hb hg
  · exact rglist_err b p w hb he

set_option maxRecDepth 100000 in
set_option maxHeartbeats 400000 in
/-- Same, of two lists that are the same -/
theorem same_any (B B' : Nat) (A A' : Option Addr) (l : List (List UInt8)) (n c c' : Nat) (w : World) (hn : l.length = n) (hn6 : n ≤ 140737488355328) (hr : Reads w B 1 A n (svs l)) (hr' : Reads w B' 1 A' n (svs l)) :
    Calls Try.prog 34 #[.slice A n c, .slice A' n c'] w fun e w' => e = .returned (.bool true) ∧ ∃ k, w' = w.drewN k := by
  replace hn := hide hn
  replace hr := hide hr
  replace hr' := hide hr'
  go_enter Try.func34, Try.ntmps34
  go_wp2_with fail
  go_loopw [5] (fun i wr => ∃ k : Nat, i = .int .i64 k ∧ k ≤ n ∧ ∃ j, wr = w.drewN j) (fun i _ => n - (intOf i).toNat)
  case atStart => exact ⟨0, rfl, Nat.zero_le _, 0, rfl⟩
  case round =>
    obtain ⟨k, rfl, hk, j, rfl⟩ := hrel
    by_cases hlt : k < n
    · have hkl : k < l.length := by have := unhide hn; omega
      obtain ⟨ad, u, hA, hbl, hu, hcell⟩ := (unhide hr).at_ hlt
      obtain ⟨ad', u', hA', hbl', hu', hcell'⟩ := (unhide hr').at_ hlt
      rw [svs_get hkl] at hu hu'
      injection hu with hu
      injection hu' with hu'
      subst hu hu' hA hA'
      unfold sv at hcell hcell'
      have hi0 : (0 : Int) ≤ k := by omega
      have hi1 : (k : Int) < n := by omega
      go_wp2_with fail
      go_quiet (fail)
      go_wp2_with fail
      go_roundw
      case rel => exact ⟨k + 1, by go_num, by omega, _, rfl⟩
      case measure => simp [intOf]; omega
    · go_wp2_with fail
      go_ret
      exact ⟨rfl, _, rfl⟩
end Go.Proofs.Ytdhgobflbacgbaa
