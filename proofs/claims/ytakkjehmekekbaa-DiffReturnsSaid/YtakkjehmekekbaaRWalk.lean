/- DiffReturns walked whole: a script's way back leads back, and its way back is the script. Conditions: none beyond what the form itself asks. -/
import Derived.Test.YtakkjehmekekbaaDone31
namespace Go.Proofs.Ytakkjehmekekbaa
open Go.RowKit

theorem turns_len (l : List D.Ed) : ∀ a, (D.turns a l).length = l.length := by
  induction l with
  | nil => intro a; rfl
  | cons x l ih => intro a; simp [D.turns, ih]

set_option maxRecDepth 100000 in
set_option maxHeartbeats 2000000 in
theorem returns_walk (s0 : ByteArray) (A : Option Addr) (l : List D.Ed) (n c : Nat) (w : World) (hs : s0.size ≤ 140737488355328) (hn : l.length = n) (hn6 : n ≤ 4398046511000) (hok : ∀ x ∈ l, EdOk x) (hr : Reads w w.heap.size 3 A n (ecs l)) :
    Calls Try.prog 11 #[.string s0, .slice A n c] w fun e w' => e = .returned (.bool true) ∧ Below w.heap.size w w' := by
  have e0 := bs_self s0
  have l0 : s0.data.toList.length = s0.size := by simp
  rw [← e0]
  generalize s0.data.toList = a at *
  obtain ⟨q, z, hq⟩ : ∃ q z, D.apply a l = (q, z) := ⟨_, _, rfl⟩
  have h1 := hide (apply_any a A l n c w (by omega) hn (by omega) hok hr hq)
  have h2 := hide fun (w1 : World) (hb : Below w.heap.size w w1) => invert_any a A l n c w1 (by omega) hn hn6 hok (reads_up hr hb)
  replace hr := hide hr
  clear e0
  by_cases hz : z = 0
  · subst hz
    obtain ⟨hd, ha, hb⟩ := D.apply_ok hq
    obtain ⟨hdL, hback⟩ := D.turns_does hd
    have hinv : D.invert a l = (D.turns a l, 0) := by unfold D.invert; rw [hq, if_neg (by simp)]
    have hLl : (D.turns a l).length = n := by rw [turns_len, hn]
    rw [hinv] at h2
    generalize D.turns a l = L at *
    have hq2 := D.apply_of hdL hb ha
    have hinv2 : D.invert q L = (l, 0) := by unfold D.invert; rw [hq2, if_neg (by simp), hback]
    have ht := does_text hdL
    have hokL : ∀ x ∈ L, EdOk x := fun x hx => by unfold EdOk; have := ht x hx; omega
    have h3 := hide fun (A2 : Option Addr) (c2 : Nat) (w1 : World) (hr1 : Reads w1 w1.heap.size 3 A2 n (ecs L)) => apply_any q A2 L n c2 w1 (by omega) hLl (by omega) hokL hr1 hq2
    have h4 := hide fun (A2 : Option Addr) (c2 : Nat) (w1 : World) (hr1 : Reads w1 w1.heap.size 3 A2 n (ecs L)) => by have := invert_any q A2 L n c2 w1 (by omega) hLl hn6 hokL hr1; rw [hinv2] at this; exact this
    have h5 := hide fun (A2 : Option Addr) (c2 : Nat) (w1 : World) (hr1 : Reads w1 w1.heap.size 3 A2 n (ecs l)) (hr2 : Reads w1 w1.heap.size 3 A n (ecs l)) => same_any A2 A l n c2 c w1 hn (by omega) hr1 hr2
    replace hn := hide hn
    replace hLl := hide hLl
    clear hd hdL hback hinv hq2 hinv2 ht hokL hq hok ha hb l0
    go_enter Try.func11, Try.ntmps11
    go_wp2_with fail
    refine (unhide h1).mono ?_
    rintro e w1 ⟨rfl, hb1⟩
    go_wp2_with fail
    refine (unhide h2 _ hb1).mono ?_
    rintro e w2 ⟨A2, c2, rfl, hown2, hb2⟩
    simp only [unhide hLl] at hown2 ⊢
    have hx2 := hide (Reads.of_own hown2)
    have hbel2 := bel_up hb1 hb2
    have g3 := hide (unhide h3 A2 c2 w2 (unhide hx2))
    clear hown2 h1 h2
    go_wp2_with fail
    refine (unhide g3).mono ?_
    rintro e w3 ⟨rfl, hb3⟩
    have hbel3 := bel_up hbel2 hb3
    have g4 := hide (unhide h4 A2 c2 w3 (reads_up (unhide hx2) hb3))
    clear g3 h3
    go_wp2_with fail
    refine (unhide g4).mono ?_
    rintro e w4 ⟨A4, c4, rfl, hown4, hb4⟩
    simp only [unhide hn] at hown4 ⊢
    have hbel4 := bel_up hbel3 hb4
    have g5 := hide (unhide h5 A4 c4 w4 (Reads.of_own hown4) (reads_up (unhide hr) hbel4))
    clear g4 h4 hown4
    go_wp2_with fail
    refine (unhide g5).mono ?_
    rintro e w5 ⟨rfl, hb5⟩
    go_wp2_with fail
    refine (falive_any _).mono ?_
    rintro e w6 ⟨rfl, hb6⟩
    go_wp2_with fail
    go_ret
    exact ⟨rfl, bel_up (bel_up hbel4 hb5) hb6⟩
  · have hinv : D.invert a l = ([], z) := by unfold D.invert; rw [hq, if_pos (by simpa using hz)]
    rw [hinv] at h2
    have hz' : ((z : Int) != 0) = true := by rw [bne_iff_ne]; omega
    have hl0 : ([] : List D.Ed).length = 0 := rfl
    clear hinv hq hok hn hz l0
    go_enter Try.func11, Try.ntmps11
    go_wp2_with fail
    refine (unhide h1).mono ?_
    rintro e w1 ⟨rfl, hb1⟩
    go_wp2_with fail
    refine (unhide h2 _ hb1).mono ?_
    rintro e w2 ⟨A2, c2, rfl, hown2, hb2⟩
    simp only [hl0]
    clear hown2
    go_wp2_with fail
    refine (falive_any _).mono ?_
    rintro e w6 ⟨rfl, hb6⟩
    go_wp2_with fail
    go_ret
    exact ⟨rfl, bel_up (bel_up hb1 hb2) hb6⟩
end Go.Proofs.Ytakkjehmekekbaa
