/- The document's Cost: the cost of any script. -/
import Derived.Test.YtakkjehmekekbaaCost
namespace Go.Proofs.Ytakkjehmekekbaa
open Go.RowKit

set_option maxRecDepth 100000 in
set_option maxHeartbeats 800000 in
theorem rcost_any (A : Option Addr) (l : List D.Ed) (n c : Nat) (w : World) (hn : l.length = n) (hn6 : n ≤ 140737488355328) (hok : ∀ x ∈ l, EdOk x) (hr : Reads w w.heap.size 3 A n (ecs l)) :
    Calls Try.prog 19 #[.slice A n c] w fun e w' => e = .returned (.tuple #[.int .i64 (costZ 0 l).1, .int .i64 (costZ 0 l).2]) ∧ Below w.heap.size w w' := by
  have HR := hide hr
  have HN := hide hn
  have HO := hide hok
  clear hr hn hok
  go_enter Try.func19, Try.ntmps19
  go_wp2_with fail
  go_loopw [4, 5] (fun t i wr => ∃ (k : Nat) (m : Int), i = .int .i64 k ∧ t = .int .i64 m ∧ k ≤ n ∧ costZ m (l.drop k) = costZ 0 l ∧ -9223372036854775808 ≤ m ∧ m ≤ 9223372036854775807 ∧ Below w.heap.size w wr) (fun _ i _ => n - (intOf i).toNat)
  case atStart => exact ⟨0, 0, rfl, rfl, Nat.zero_le _, rfl, by omega, by omega, Below.refl _ _⟩
  case round =>
    obtain ⟨k, m, rfl, rfl, hk, hcost, hm1, hm2, hbel⟩ := hrel
    by_cases hlt : k < n
    · obtain ⟨ad, x, rfl, hx, hbl, c1, c2, c3⟩ := reads_ed (unhide HN) ((unhide HR).below hbel) hlt
      have hxo := hide ((unhide HO) x (List.mem_of_getElem? hx))
      have hdr : l.drop k = x :: l.drop (k + 1) := by
        have h0 := hx
        rw [List.getElem?_eq_some_iff] at h0
        obtain ⟨h1, h2⟩ := h0
        rw [← h2]; exact List.drop_eq_getElem_cons h1
      have later : ∀ (w2 : World), Below wr.heap.size wr w2 → w2.cell? (ad.add (k * 3)) = some (.int .i64 x.kind) ∧ w2.cell? ⟨(ad.add (k * 3)).block, (ad.add (k * 3)).off + 1, none⟩ = some (.int .i64 x.n) ∧ w2.cell? ⟨(ad.add (k * 3)).block, (ad.add (k * 3)).off + 2, none⟩ = some (.string (bs x.text)) := fun w2 hb => by
        have hbl' : (ad.add (k * 3)).block < wr.heap.size := by rw [block_of_add]; exact Nat.lt_of_lt_of_le hbl hbel.size
        exact ⟨by rw [hb.cell hbl']; exact c1, by rw [hb.cell (p := ⟨_, _, none⟩) hbl']; exact c2, by rw [hb.cell (p := ⟨_, _, none⟩) hbl']; exact c3⟩
      have later := hide later
      by_cases hbad : ¬ D.may x ∨ 1000 < x.n
      · have hfin : costZ 0 l = (0, 1) := by
          have h1 := hcost
          rw [hdr, costZ, if_pos hbad] at h1
          exact h1.symm
        have hfin := hide hfin
        clear hcost hdr hx
        by_cases hm : D.may x
        · have hmb := hide (mayB_true hm)
          have hn1 : 1000 < x.n := by rcases hbad with h | h; exact absurd hm h; exact h
          clear hbad hm
          go_wp2_with fail
          refine (rmay_any x _).mono ?_
          rintro e w2 ⟨rfl, hb2⟩
          rw [unhide hmb]
          obtain ⟨d1, d2, d3⟩ := unhide later _ hb2
          go_wp2_with fail
          go_ret2
          rw [unhide hfin]
          exact ⟨rfl, hbel.trans (hb2.mono hbel.size)⟩
        · have hmb := hide (mayB_false hm)
          clear hbad hm
          go_wp2_with fail
          refine (rmay_any x _).mono ?_
          rintro e w2 ⟨rfl, hb2⟩
          rw [unhide hmb]
          go_wp2_with fail
          go_ret2
          rw [unhide hfin]
          exact ⟨rfl, hbel.trans (hb2.mono hbel.size)⟩
      · have hstep : costZ (if x.kind = 1 then m else wrap64 (m + D.one x)) (l.drop (k + 1)) = costZ 0 l := by
          have h1 := hcost
          rw [hdr, costZ, if_neg hbad] at h1
          exact h1
        rw [not_or, Classical.not_not] at hbad
        obtain ⟨hm, hn1⟩ := hbad
        have hmb := hide (mayB_true hm)
        clear hcost hdr hx
        have hw64 : wrap64 m = m := IntWalk.wrap64_in _ ⟨hm1, hm2⟩
        by_cases hk2 : x.kind = 2
        · rw [if_neg (by omega)] at hstep
          have htx : x.text = [] := by rcases hm with ⟨h, _⟩ | ⟨_, _, h⟩; omega; exact h
          have hone : (D.one x : Int) = x.n := by
            unfold D.one; rw [if_neg (by omega), htx]
            rcases hm with ⟨_, h, _⟩ | ⟨_, h, _⟩ <;> simp <;> omega
          rw [hone] at hstep
          have hsz : (bs x.text).size = 0 := by rw [bs_size, htx]; rfl
          have hstep := hide hstep
          have hk2' : (x.kind == 2) = true := by rw [hk2]; rfl
          have hww := wrap64_bounds (m + x.n)
          have hw2 : wrap64 (wrap64 (m + x.n)) = wrap64 (m + x.n) := IntWalk.wrap64_in _ hww
          clear hm hk2 htx hone
          go_wp2_with fail
          refine (rmay_any x _).mono ?_
          rintro e w2 ⟨rfl, hb2⟩
          rw [unhide hmb]
          obtain ⟨d1, d2, d3⟩ := unhide later _ hb2
          go_wp2_with fail
          exact ⟨⟨k + 1, _, by go_num, rfl, by omega, unhide hstep, hww.1, hww.2, hbel.trans (hb2.mono hbel.size)⟩, by simp [intOf]; omega⟩
        · have hk2' : (x.kind == 2) = false := beq_eq_false_iff_ne.2 hk2
          have hsz : (bs x.text).size ≤ 140737488355328 := by have := unhide hxo; unfold EdOk at this; rw [bs_size]; exact this
          have hnext : costZ (wrap64 (m + (bs x.text).size)) (l.drop (k + 1)) = costZ 0 l := by
            rw [bs_size]
            by_cases hk1 : x.kind = 1
            · rw [if_pos hk1] at hstep
              have htx : x.text = [] := by rcases hm with ⟨h, _⟩ | ⟨_, _, h⟩; omega; exact h
              rw [htx]
              simp only [List.length_nil, Int.natCast_zero, Int.add_zero]
              rw [hw64]; exact hstep
            · rw [if_neg hk1] at hstep
              have hone : (D.one x : Int) = x.text.length := by
                unfold D.one; rw [if_neg hk1]
                rcases hm with ⟨_, h, _⟩ | ⟨h, _⟩ <;> omega
              rw [hone] at hstep
              exact hstep
          have hnext := hide hnext
          have hww := wrap64_bounds (m + (bs x.text).size)
          clear hm hk2 hstep hxo
          go_wp2_with fail
          refine (rmay_any x _).mono ?_
          rintro e w2 ⟨rfl, hb2⟩
          rw [unhide hmb]
          obtain ⟨d1, d2, d3⟩ := unhide later _ hb2
          go_wp2_with fail
          exact ⟨⟨k + 1, _, by go_num, rfl, by omega, unhide hnext, hww.1, hww.2, hbel.trans (hb2.mono hbel.size)⟩, by simp [intOf]; omega⟩
    · have hcost := hide hcost
      go_wp2_with fail
      go_ret2
      have h1 := unhide hcost
      rw [List.drop_eq_nil_of_le (by have := unhide HN; omega), costZ] at h1
      rw [← h1]
      exact ⟨rfl, hbel⟩
end Go.Proofs.Ytakkjehmekekbaa
