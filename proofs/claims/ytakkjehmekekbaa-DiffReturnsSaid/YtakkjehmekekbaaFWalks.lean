/- The walks of the statements DiffMetric, DiffCosts, DiffLeast and DiffLands: they return true. -/
import Derived.Test.YtakkjehmekekbaaFAlive
import Derived.Test.YtakkjehmekekbaaRCost
namespace Go.Proofs.Ytakkjehmekekbaa
open Go.RowKit

theorem bel_up {w a b : World} (h : Below w.heap.size w a) (k : Below a.heap.size a b) : Below w.heap.size w b := h.trans (k.mono h.size)
theorem reads_up {w0 w : World} {n size : Nat} {A : Option Addr} {xs : List Value} (h : Reads w0 w0.heap.size size A n xs) (hb : Below w0.heap.size w0 w) : Reads w w.heap.size size A n xs := (h.below hb).more hb.size
theorem bs_self (s : ByteArray) : bs s.data.toList = s := by simp [bs]
theorem bs_inj {a b : List UInt8} (h : bs a = bs b) : a = b := by have := congrArg (fun s : ByteArray => s.data.toList) h; simpa [bs_data] using this
theorem wcost_ex (p q : List UInt8) (hp : p.length ≤ 140737488355328) (hq : q.length ≤ 140737488355328) : ∃ x : Int, ∀ w0 : World, Calls Try.prog 20 #[.string (bs p), .string (bs q)] w0 fun e w' => e = .returned (.int .i64 x) ∧ Below w0.heap.size w0 w' := by
  by_cases hh : 1000 < p.length ∨ 1000 < q.length
  · exact ⟨-1, fun w0 => wcost_no p q w0 hp hq hh⟩
  · exact ⟨D.dist p q, fun w0 => wcost_ok p q w0 (by omega) (by omega)⟩

set_option maxRecDepth 100000 in
set_option maxHeartbeats 1000000 in
theorem metric_1 (a b c : List UInt8) (w : World) (ha : a.length ≤ 140737488355328) (hb : b.length ≤ 140737488355328) (hc : c.length ≤ 140737488355328) (h : 1000 < a.length) :
    Calls Try.prog 8 #[.string (bs a), .string (bs b), .string (bs c)] w fun e w' => e = .returned (.bool true) ∧ Below w.heap.size w w' := by
  obtain ⟨y, hy⟩ := wcost_ex b c hb hc
  have h1 := hide fun w0 => wcost_no a b w0 ha hb (.inl h)
  have h3 := hide fun w0 => wcost_no a c w0 ha hc (.inl h)
  replace hy := hide hy
  have hsa : (bs a).size = a.length := bs_size a
  have h' : (1000 : Int) < (bs a).size := by omega
  clear hsa h
  go_enter Try.func8, Try.ntmps8
  go_wp2_with fail
  refine (unhide h1 _).mono ?_
  rintro e w1 ⟨rfl, hb1⟩
  go_wp2_with fail
  refine (unhide hy _).mono ?_
  rintro e w2 ⟨rfl, hb2⟩
  go_wp2_with fail
  refine (unhide h3 _).mono ?_
  rintro e w3 ⟨rfl, hb3⟩
  go_wp2_with fail
  refine (falive_any _).mono ?_
  rintro e w4 ⟨rfl, hb4⟩
  go_wp2_with fail
  go_ret
  exact ⟨rfl, bel_up (bel_up (bel_up hb1 hb2) hb3) hb4⟩

set_option maxRecDepth 100000 in
set_option maxHeartbeats 1000000 in
theorem metric_2 (a b c : List UInt8) (w : World) (ha : a.length ≤ 140737488355328) (hb : b.length ≤ 140737488355328) (hc : c.length ≤ 140737488355328) (h0 : ¬ 1000 < a.length) (h : 1000 < b.length) :
    Calls Try.prog 8 #[.string (bs a), .string (bs b), .string (bs c)] w fun e w' => e = .returned (.bool true) ∧ Below w.heap.size w w' := by
  obtain ⟨y, hy⟩ := wcost_ex b c hb hc
  obtain ⟨z, hz⟩ := wcost_ex a c ha hc
  have h1 := hide fun w0 => wcost_no a b w0 ha hb (.inr h)
  replace hy := hide hy
  replace hz := hide hz
  have hsa : (bs a).size = a.length := bs_size a
  have hsb : (bs b).size = b.length := bs_size b
  have h' : ¬ (1000 : Int) < (bs a).size := by omega
  have h'' : (1000 : Int) < (bs b).size := by omega
  clear hsa hsb h h0
  go_enter Try.func8, Try.ntmps8
  go_wp2_with fail
  refine (unhide h1 _).mono ?_
  rintro e w1 ⟨rfl, hb1⟩
  go_wp2_with fail
  refine (unhide hy _).mono ?_
  rintro e w2 ⟨rfl, hb2⟩
  go_wp2_with fail
  refine (unhide hz _).mono ?_
  rintro e w3 ⟨rfl, hb3⟩
  go_wp2_with fail
  refine (falive_any _).mono ?_
  rintro e w4 ⟨rfl, hb4⟩
  go_wp2_with fail
  go_ret
  exact ⟨rfl, bel_up (bel_up (bel_up hb1 hb2) hb3) hb4⟩

set_option maxRecDepth 100000 in
set_option maxHeartbeats 1000000 in
theorem metric_3 (a b c : List UInt8) (w : World) (ha : a.length ≤ 1000) (hb : b.length ≤ 1000) (hc : c.length ≤ 140737488355328) (h : 1000 < c.length) :
    Calls Try.prog 8 #[.string (bs a), .string (bs b), .string (bs c)] w fun e w' => e = .returned (.bool true) ∧ Below w.heap.size w w' := by
  have h1 := hide fun w0 => wcost_ok a b w0 ha hb
  have h2 := hide fun w0 => wcost_no b c w0 (by omega) hc (.inr h)
  have h3 := hide fun w0 => wcost_no a c w0 (by omega) hc (.inr h)
  have hsa : (bs a).size = a.length := bs_size a
  have hsb : (bs b).size = b.length := bs_size b
  have hsc : (bs c).size = c.length := bs_size c
  have h' : ¬ (1000 : Int) < (bs a).size := by omega
  have h'' : ¬ (1000 : Int) < (bs b).size := by omega
  have h''' : (1000 : Int) < (bs c).size := by omega
  generalize D.dist a b = x at *
  clear hsa hsb hsc h
  go_enter Try.func8, Try.ntmps8
  go_wp2_with fail
  refine (unhide h1 _).mono ?_
  rintro e w1 ⟨rfl, hb1⟩
  go_wp2_with fail
  refine (unhide h2 _).mono ?_
  rintro e w2 ⟨rfl, hb2⟩
  go_wp2_with fail
  refine (unhide h3 _).mono ?_
  rintro e w3 ⟨rfl, hb3⟩
  go_wp2_with fail
  refine (falive_any _).mono ?_
  rintro e w4 ⟨rfl, hb4⟩
  go_wp2_with fail
  go_ret
  exact ⟨rfl, bel_up (bel_up (bel_up hb1 hb2) hb3) hb4⟩

set_option maxRecDepth 100000 in
set_option maxHeartbeats 1000000 in
theorem metric_4 (a b c : List UInt8) (w : World) (ha : a.length ≤ 1000) (hb : b.length ≤ 1000) (hc : c.length ≤ 1000) :
    Calls Try.prog 8 #[.string (bs a), .string (bs b), .string (bs c)] w fun e w' => e = .returned (.bool true) ∧ Below w.heap.size w w' := by
  have h1 := hide fun w0 => wcost_ok a b w0 ha hb
  have h2 := hide fun w0 => wcost_ok b c w0 hb hc
  have h3 := hide fun w0 => wcost_ok a c w0 ha hc
  have h4 := hide fun w0 => by have := wcost_ok b a w0 hb ha; rw [D.dist_symm b a] at this; exact this
  have ht := D.dist_triangle a b c
  have hx := D.dist_bound a b
  have hy := D.dist_bound b c
  have hz := D.dist_bound a c
  have ht' : (D.dist a c : Int) ≤ (D.dist a b : Int) + (D.dist b c : Int) := by omega
  have hx' : (D.dist a b : Int) ≤ 2000 := by omega
  have hy' : (D.dist b c : Int) ≤ 2000 := by omega
  clear ht hx hy hz
  by_cases hab : a = b
  · subst hab
    have h0 : D.dist a a = 0 := D.dist_self a
    rw [h0] at h1 h4 ht' hx'
    generalize D.dist a c = z at *
    clear h0
    go_enter Try.func8, Try.ntmps8
    go_wp2_with fail
    refine (unhide h1 _).mono ?_
    rintro e w1 ⟨rfl, hb1⟩
    go_wp2_with fail
    refine (unhide h2 _).mono ?_
    rintro e w2 ⟨rfl, hb2⟩
    go_wp2_with fail
    refine (unhide h3 _).mono ?_
    rintro e w3 ⟨rfl, hb3⟩
    go_wp2_with fail
    refine (unhide h4 _).mono ?_
    rintro e w4 ⟨rfl, hb4⟩
    go_wp2_with fail
    refine (falive_any _).mono ?_
    rintro e w5 ⟨rfl, hb5⟩
    go_wp2_with fail
    go_ret
    exact ⟨rfl, bel_up (bel_up (bel_up (bel_up hb1 hb2) hb3) hb4) hb5⟩
  · have hne : ((D.dist a b : Int) == 0) = false := by
      rw [beq_eq_false_iff_ne]; intro h; exact hab (D.dist_zero a b (by omega))
    have hs : ¬ bs a = bs b := fun h => hab (bs_inj h)
    have hs3 : ¬ (bs a).toList = (bs b).toList := by rw [bs_toList, bs_toList]; exact hab
    have hs2 : ((bs a).toList == (bs b).toList) = false := beq_eq_false_iff_ne.2 hs3
    generalize D.dist a c = z at *
    generalize D.dist a b = x at *
    generalize D.dist b c = y at *
    clear hab
    go_enter Try.func8, Try.ntmps8
    go_wp2_with fail
    refine (unhide h1 _).mono ?_
    rintro e w1 ⟨rfl, hb1⟩
    go_wp2_with fail
    refine (unhide h2 _).mono ?_
    rintro e w2 ⟨rfl, hb2⟩
    go_wp2_with fail
    refine (unhide h3 _).mono ?_
    rintro e w3 ⟨rfl, hb3⟩
    go_wp2_with fail
    refine (unhide h4 _).mono ?_
    rintro e w4 ⟨rfl, hb4⟩
    go_wp2_with fail
    refine (falive_any _).mono ?_
    rintro e w5 ⟨rfl, hb5⟩
    go_wp2_with fail
    go_ret
    exact ⟨rfl, bel_up (bel_up (bel_up (bel_up hb1 hb2) hb3) hb4) hb5⟩
theorem metric_walk (s0 s1 s2 : ByteArray) (w : World) (h0 : s0.size ≤ 140737488355328) (h1 : s1.size ≤ 140737488355328) (h2 : s2.size ≤ 140737488355328) :
    Calls Try.prog 8 #[.string s0, .string s1, .string s2] w fun e w' => e = .returned (.bool true) ∧ Below w.heap.size w w' := by
  have e0 := bs_self s0
  have e1 := bs_self s1
  have e2 := bs_self s2
  have l0 : s0.data.toList.length = s0.size := by simp
  have l1 : s1.data.toList.length = s1.size := by simp
  have l2 : s2.data.toList.length = s2.size := by simp
  rw [← e0, ← e1, ← e2]
  by_cases ha : 1000 < s0.data.toList.length
  · exact metric_1 _ _ _ w (by omega) (by omega) (by omega) ha
  · by_cases hb : 1000 < s1.data.toList.length
    · exact metric_2 _ _ _ w (by omega) (by omega) (by omega) ha hb
    · by_cases hc : 1000 < s2.data.toList.length
      · exact metric_3 _ _ _ w (by omega) (by omega) (by omega) hc
      · exact metric_4 _ _ _ w (by omega) (by omega) (by omega)

set_option maxRecDepth 100000 in
set_option maxHeartbeats 1000000 in
theorem costs_walk (A : Option Addr) (l : List D.Ed) (n c : Nat) (w : World) (hn : l.length = n) (hn6 : n ≤ 140737488355328) (hok : ∀ x ∈ l, EdOk x) (hr : Reads w w.heap.size 3 A n (ecs l)) :
    Calls Try.prog 5 #[.slice A n c] w fun e w' => e = .returned (.bool true) ∧ Below w.heap.size w w' := by
  have h1 := hide (cost_any A l n c w hn hn6 hok hr)
  have h2 := hide fun (w1 : World) (hb : Below w.heap.size w w1) => rcost_any A l n c w1 hn hn6 hok (reads_up hr hb)
  generalize costZ 0 l = r at *
  obtain ⟨m, z⟩ := r
  clear hn hok hr
  go_enter Try.func5, Try.ntmps5
  go_wp2_with fail
  refine (unhide h1).mono ?_
  rintro e w1 ⟨rfl, hb1⟩
  go_wp2_with fail
  refine (unhide h2 _ hb1).mono ?_
  rintro e w2 ⟨rfl, hb2⟩
  go_wp2_with fail
  refine (falive_any _).mono ?_
  rintro e w3 ⟨rfl, hb3⟩
  go_wp2_with fail
  go_ret
  exact ⟨rfl, bel_up (bel_up hb1 hb2) hb3⟩

set_option maxRecDepth 100000 in
set_option maxHeartbeats 1000000 in
theorem least_walk (s0 : ByteArray) (A : Option Addr) (l : List D.Ed) (n c : Nat) (w : World) (hs : s0.size ≤ 140737488355328) (hn : l.length = n) (hn6 : n ≤ 140737488355328) (hok : ∀ x ∈ l, EdOk x) (hr : Reads w w.heap.size 3 A n (ecs l)) :
    Calls Try.prog 7 #[.string s0, .slice A n c] w fun e w' => e = .returned (.bool true) ∧ Below w.heap.size w w' := by
  have e0 := bs_self s0
  have l0 : s0.data.toList.length = s0.size := by simp
  rw [← e0]
  generalize s0.data.toList = a at *
  obtain ⟨q, z, hq⟩ : ∃ q z, D.apply a l = (q, z) := ⟨_, _, rfl⟩
  have h1 := hide (apply_any a A l n c w (by omega) hn hn6 hok hr hq)
  clear e0
  by_cases hz : z = 0
  · subst hz
    obtain ⟨hd, ha, hb⟩ := D.apply_ok hq
    have hcz := costZ_does hd ha hb
    have h2 := hide fun (w1 : World) (hb : Below w.heap.size w w1) => by have := cost_any A l n c w1 hn hn6 hok (reads_up hr hb); rw [hcz] at this; exact this
    have h3 := hide fun w1 => wcost_ok a q w1 ha hb
    have hle := D.dist_le (D.does_al hd)
    have hle' : (D.dist a q : Int) ≤ (D.costs l : Int) := by omega
    generalize D.dist a q = x at *
    generalize D.costs l = y at *
    clear hd hcz hq hn hok hr ha hb hle l0
    go_enter Try.func7, Try.ntmps7
    go_wp2_with fail
    refine (unhide h1).mono ?_
    rintro e w1 ⟨rfl, hb1⟩
    go_wp2_with fail
    refine (unhide h2 _ hb1).mono ?_
    rintro e w2 ⟨rfl, hb2⟩
    go_wp2_with fail
    refine (unhide h3 _).mono ?_
    rintro e w3 ⟨rfl, hb3⟩
    go_wp2_with fail
    refine (falive_any _).mono ?_
    rintro e w4 ⟨rfl, hb4⟩
    go_wp2_with fail
    go_ret
    exact ⟨rfl, bel_up (bel_up (bel_up hb1 hb2) hb3) hb4⟩
  · have hqe : q = [] := by have := D.apply_err (a := a) (l := l) (by rw [hq]; exact hz); rw [hq] at this; exact this
    subst hqe
    have hz' : ((z : Int) != 0) = true := by rw [bne_iff_ne]; omega
    have hem : (bs []).toList.isEmpty = true := txt_yes rfl
    have hem2 : (bs []).toList = [] := bs_toList []
    clear hq hn hok hr hz l0
    go_enter Try.func7, Try.ntmps7
    go_wp2_with fail
    refine (unhide h1).mono ?_
    rintro e w1 ⟨rfl, hb1⟩
    go_wp2_with fail
    refine (falive_any _).mono ?_
    rintro e w4 ⟨rfl, hb4⟩
    go_wp2_with fail
    go_ret
    exact ⟨rfl, bel_up hb1 hb4⟩
end Go.Proofs.Ytakkjehmekekbaa
