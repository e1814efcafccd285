/- The walks of the statements DeltaBack, DeltaShort, DeltaParts and DeltaOther: they return true. -/
import Derived.Test.YtdhgobflbacgbaaDAlive
namespace Go.Proofs.Ytdhgobflbacgbaa
open Go.RowKit

theorem make_cases {b t q : List UInt8} {z : Nat} (h : E.make b t = (q, z)) : (z = 0 ∧ b.length ≤ 4096 ∧ t.length ≤ 4096) ∨ (z = 3 ∧ q = [] ∧ (4096 < b.length ∨ 4096 < t.length)) := by
  unfold E.make at h
  split at h
  · rename_i h1; simp only [Prod.mk.injEq] at h; exact .inr ⟨h.2.symm, h.1.symm, h1⟩
  · simp only [Prod.mk.injEq] at h; exact .inl ⟨h.2.symm, by omega, by omega⟩
theorem bel_up {w a b : World} (h : Below w.heap.size w a) (k : Below a.heap.size a b) : Below w.heap.size w b := h.trans (k.mono h.size)
theorem own_capa {w : World} {B n : Nat} {A : Option Addr} {c : Nat} {xs : List Value} (h : w.ownsRow B 5 1 (.slice A n c) n xs) : n ≤ c := by
  obtain ⟨A', c', e, h1, _⟩ := own_form h
  injection e with _ _ e3
  omega
theorem reads_up {w0 w : World} {n : Nat} {A : Option Addr} {xs : List Value} (h : Reads w0 w0.heap.size 1 A n xs) (hb : Below w0.heap.size w0 w) : Reads w w.heap.size 1 A n xs := (h.below hb).more hb.size

set_option maxRecDepth 100000 in
set_option maxHeartbeats 1000000 in
theorem deltaBack_walk (A0 A1 : Option Addr) (l0 l1 : List UInt8) (n0 n1 c0 c1 : Nat) (w : World) (hn0 : l0.length = n0) (hn1 : l1.length = n1) (h0 : n0 ≤ 140737488355000) (h1 : n1 ≤ 140737488355000) (hc0 : n0 ≤ c0)
    (hr0 : Reads w w.heap.size 1 A0 n0 (bvs l0)) (hr1 : Reads w w.heap.size 1 A1 n1 (bvs l1)) :
    Calls Try.prog 15 #[.slice A0 n0 c0, .slice A1 n1 c1] w fun e w' => e = .returned (.bool true) ∧ Below w.heap.size w w' := by
  obtain ⟨q, z, hm⟩ : ∃ q z, E.make l0 l1 = (q, z) := ⟨_, _, rfl⟩
  have hcon := hide (make_any A0 A1 l0 l1 n0 c0 n1 c1 w hn0 hn1 h0 h1 hr0 hr1 hm)
  rcases make_cases hm with ⟨rfl, hb, ht⟩ | ⟨rfl, rfl, hor⟩
  · have hback := hide (E.back hm)
    have hsh := E.short hm
    rw [hn1] at hsh
    generalize hq : q.length = nq at *
    replace hq := hide hq
    replace hn0 := hide hn0
    clear hm
    go_enter Try.func15, Try.ntmps15
    go_wp2_with fail
    refine (unhide hcon).mono ?_
    rintro e w1 ⟨A, c, rfl, hown, hbel⟩
    have hcap := own_capa hown
    have hr01 := reads_up hr0 hbel
    have hr11 := reads_up hr1 hbel
    have hap := hide (apply_any A0 A l0 q n0 c0 nq c w1 (unhide hn0) h0 hc0 (unhide hq) (by omega) hcap hr01 (Reads.of_own hown) (unhide hback))
    replace hr11 := hide hr11
    clear hown hr01
    go_wp2_with fail
    refine (unhide hap).mono ?_
    rintro e w2 ⟨A2, c2, rfl, hown2, hbel2⟩
    have v1 : (convert 22 9 (.slice A2 l1.length c2)).run Try.prog w2 = .ok (.string (bs l1)) w2 := conv_later (w1 := w2) rfl (Reads.of_own hown2) (Below.refl _ _)
    have v2 : (convert 22 9 (.slice A1 n1 c1)).run Try.prog w2 = .ok (.string (bs l1)) w2 := conv_later (w1 := w2) hn1 (unhide hr11) hbel2
    clear hown2
    replace hn1 := hide hn1
    go_wp2_with fail
    refine (dalive_any _).mono ?_
    rintro e w3 ⟨rfl, hb3⟩
    go_wp2_with fail
    go_ret
    exact ⟨rfl, bel_up (bel_up hbel hbel2) hb3⟩
  · clear hm
    have hor' : ¬ (4096 : Int) < n0 → (4096 : Int) < n1 := by omega
    by_cases h4 : 4096 < n0
    · have h4' : (4096 : Int) < n0 := by omega
      clear hor hor' h4 hn0 hn1
      go_enter Try.func15, Try.ntmps15
      go_wp2_with fail
      refine (unhide hcon).mono ?_
      rintro e w1 ⟨A, c, rfl, hown, hbel⟩
      go_wp2_with fail
      refine (dalive_any _).mono ?_
      rintro e w3 ⟨rfl, hb3⟩
      go_wp2_with fail
      go_ret
      exact ⟨rfl, bel_up hbel hb3⟩
    · have h4' : ¬ (4096 : Int) < n0 := by omega
      have h5' : (4096 : Int) < n1 := by omega
      clear hor hor' h4 hn0 hn1
      go_enter Try.func15, Try.ntmps15
      go_wp2_with fail
      refine (unhide hcon).mono ?_
      rintro e w1 ⟨A, c, rfl, hown, hbel⟩
      go_wp2_with fail
      refine (dalive_any _).mono ?_
      rintro e w3 ⟨rfl, hb3⟩
      go_wp2_with fail
      go_ret
      exact ⟨rfl, bel_up hbel hb3⟩

set_option maxRecDepth 100000 in
set_option maxHeartbeats 1000000 in
theorem deltaShort_walk (A0 A1 : Option Addr) (l0 l1 : List UInt8) (n0 n1 c0 c1 : Nat) (w : World) (hn0 : l0.length = n0) (hn1 : l1.length = n1) (h0 : n0 ≤ 140737488355000) (h1 : n1 ≤ 140737488355000)
    (hr0 : Reads w w.heap.size 1 A0 n0 (bvs l0)) (hr1 : Reads w w.heap.size 1 A1 n1 (bvs l1)) :
    Calls Try.prog 16 #[.slice A0 n0 c0, .slice A1 n1 c1] w fun e w' => e = .returned (.bool true) ∧ Below w.heap.size w w' := by
  obtain ⟨q, z, hm⟩ : ∃ q z, E.make l0 l1 = (q, z) := ⟨_, _, rfl⟩
  have hcon := fun w0 (hb : Below w.heap.size w w0) => make_any A0 A1 l0 l1 n0 c0 n1 c1 w0 hn0 hn1 h0 h1 (reads_up hr0 hb) (reads_up hr1 hb) hm
  have hz := make_cases hm
  have hsh : z = 0 → q.length ≤ n1 + 6 := fun hz0 => by rw [hz0] at hm; have := E.short hm; omega
  generalize hq : q.length = nq at *
  replace hq := hide hq
  replace hcon := hide hcon
  clear hm hr0 hr1
  rcases hz with ⟨rfl, _, _⟩ | ⟨rfl, _, _⟩
  · have hle : ((nq : Int) ≤ (n1 : Int) + 6) := by have := hsh rfl; omega
    clear hsh hn0 hn1
    go_enter Try.func16, Try.ntmps16
    go_wp2_with fail
    refine ((unhide hcon) _ (Below.refl _ _)).mono ?_
    rintro e w1 ⟨A, c, rfl, hown, hbel⟩
    have hr := hide (Reads.of_own hown)
    clear hown
    go_wp2_with fail
    refine ((unhide hcon) _ hbel).mono ?_
    rintro e w2 ⟨A2, c2, rfl, hown2, hbel2⟩
    have v1 : (convert 22 9 (.slice A nq c)).run Try.prog w2 = .ok (.string (bs q)) w2 := conv_later (w1 := w2) (unhide hq) (unhide hr) hbel2
    have v2 : (convert 22 9 (.slice A2 nq c2)).run Try.prog w2 = .ok (.string (bs q)) w2 := conv_later (w1 := w2) (unhide hq) (Reads.of_own hown2) (Below.refl _ _)
    clear hown2
    go_wp2_with fail
    refine (dalive_any _).mono ?_
    rintro e w3 ⟨rfl, hb3⟩
    go_wp2_with fail
    go_ret
    exact ⟨rfl, bel_up (bel_up hbel hbel2) hb3⟩
  · clear hsh hn0 hn1
    go_enter Try.func16, Try.ntmps16
    go_wp2_with fail
    refine ((unhide hcon) _ (Below.refl _ _)).mono ?_
    rintro e w1 ⟨A, c, rfl, hown, hbel⟩
    have hr := hide (Reads.of_own hown)
    clear hown
    go_wp2_with fail
    refine ((unhide hcon) _ hbel).mono ?_
    rintro e w2 ⟨A2, c2, rfl, hown2, hbel2⟩
    have v1 : (convert 22 9 (.slice A nq c)).run Try.prog w2 = .ok (.string (bs q)) w2 := conv_later (w1 := w2) (unhide hq) (unhide hr) hbel2
    have v2 : (convert 22 9 (.slice A2 nq c2)).run Try.prog w2 = .ok (.string (bs q)) w2 := conv_later (w1 := w2) (unhide hq) (Reads.of_own hown2) (Below.refl _ _)
    clear hown2
    go_wp2_with fail
    refine (dalive_any _).mono ?_
    rintro e w3 ⟨rfl, hb3⟩
    go_wp2_with fail
    go_ret
    exact ⟨rfl, bel_up (bel_up hbel hbel2) hb3⟩

set_option maxRecDepth 100000 in
set_option maxHeartbeats 1000000 in
theorem deltaParts_not (A0 : Option Addr) (n0 c0 : Nat) (f t : Int) (w : World) (h0 : n0 ≤ 140737488355000) (h : f < 0 ∨ (n0 : Int) < t ∨ t < f ∨ t - f < 8 ∨ 4096 < n0) :
    Calls Try.prog 17 #[.slice A0 n0 c0, .int .i64 f, .int .i64 t] w fun e w' => e = .returned (.bool true) ∧ Below w.heap.size w w' := by
  by_cases h1 : f < 0
  · clear h
    go_enter Try.func17, Try.ntmps17
    go_wp2_with fail
    refine (dalive_any _).mono ?_
    rintro e w3 ⟨rfl, hb3⟩
    go_wp2_with fail
    go_ret
    exact ⟨rfl, hb3⟩
  · by_cases h2 : (n0 : Int) < t
    · clear h
      go_enter Try.func17, Try.ntmps17
      go_wp2_with fail
      refine (dalive_any _).mono ?_
      rintro e w3 ⟨rfl, hb3⟩
      go_wp2_with fail
      go_ret
      exact ⟨rfl, hb3⟩
    · by_cases h3 : t < f
      · clear h
        go_enter Try.func17, Try.ntmps17
        go_wp2_with fail
        refine (dalive_any _).mono ?_
        rintro e w3 ⟨rfl, hb3⟩
        go_wp2_with fail
        go_ret
        exact ⟨rfl, hb3⟩
      · have f1 : 0 ≤ f := by omega
        have f2 : f ≤ 140737488355000 := by omega
        have t1 : 0 ≤ t := by omega
        have t2 : t ≤ 140737488355000 := by omega
        by_cases h4 : t - f < 8
        · clear h
          go_enter Try.func17, Try.ntmps17
          go_wp2_with fail
          refine (dalive_any _).mono ?_
          rintro e w3 ⟨rfl, hb3⟩
          go_wp2_with fail
          go_ret
          exact ⟨rfl, hb3⟩
        · have h5 : (4096 : Int) < n0 := by omega
          clear h
          go_enter Try.func17, Try.ntmps17
          go_wp2_with fail
          refine (dalive_any _).mono ?_
          rintro e w3 ⟨rfl, hb3⟩
          go_wp2_with fail
          go_ret
          exact ⟨rfl, hb3⟩

set_option maxRecDepth 100000 in
set_option maxHeartbeats 1000000 in
theorem deltaParts_yes (A0 : Option Addr) (l0 : List UInt8) (n0 c0 f m : Nat) (w : World) (hn0 : l0.length = n0) (h0 : n0 ≤ 4096) (hc0 : n0 ≤ c0) (hr0 : Reads w w.heap.size 1 A0 n0 (bvs l0)) (h8 : 8 ≤ m) (hf : f + m ≤ n0) :
    Calls Try.prog 17 #[.slice A0 n0 c0, .int .i64 f, .int .i64 ((f + m : Nat) : Int)] w fun e w' => e = .returned (.bool true) ∧ Below w.heap.size w w' := by
  obtain ⟨q, hm, hq8⟩ := E.parts (base := l0) (f := f) (n := m) (by omega) h8 (by omega)
  have hrm := reads_mid (k := f) (n := m) hr0 (by omega) hc0
  have hlm : ((l0.drop f).take m).length = m := by simp; omega
  have e4 : ¬ c0 = f := by omega
  rw [if_neg e4] at hrm
  have hcon := hide (make_any A0 _ l0 _ n0 c0 m (c0 - f) w hn0 hlm (by omega) (by omega) hr0 hrm hm)
  generalize hq : q.length = nq at *
  replace hq := hide hq
  have e1 : ¬ (((f + m : Nat) : Int) - f < 8) := by omega
  have e2 : ¬ ((n0 : Int) < ((f + m : Nat) : Int)) := by omega
  have e3 : ¬ (((f + m : Nat) : Int) < f) := by omega
  have e5 : ¬ (4096 : Int) < n0 := by omega
  have e6 : ((f + m : Nat) : Int).toNat = f + m := by omega
  have e7 : f + m - f = m := by omega
  have hle : (nq : Int) ≤ 8 := by omega
  have hfb : (f : Int) ≤ 4096 := by omega
  have hmb : ((f + m : Nat) : Int) ≤ 4096 := by omega
  clear hn0 hlm hm hrm hr0 hq8
  go_enter Try.func17, Try.ntmps17
  go_wp2_with fail
  refine (unhide hcon).mono ?_
  rintro e w1 ⟨A, c, rfl, hown, hbel⟩
  clear hown
  go_wp2_with fail
  refine (dalive_any _).mono ?_
  rintro e w3 ⟨rfl, hb3⟩
  go_wp2_with fail
  go_ret
  exact ⟨rfl, bel_up hbel hb3⟩

theorem deltaParts_walk (A0 : Option Addr) (l0 : List UInt8) (n0 c0 : Nat) (f t : Int) (w : World) (hn0 : l0.length = n0) (h0 : n0 ≤ 140737488355000) (hc0 : n0 ≤ c0) (hr0 : Reads w w.heap.size 1 A0 n0 (bvs l0)) :
    Calls Try.prog 17 #[.slice A0 n0 c0, .int .i64 f, .int .i64 t] w fun e w' => e = .returned (.bool true) ∧ Below w.heap.size w w' := by
  by_cases h : f < 0 ∨ (n0 : Int) < t ∨ t < f ∨ t - f < 8 ∨ 4096 < n0
  · exact deltaParts_not A0 n0 c0 f t w h0 h
  · obtain ⟨g, rfl⟩ := Int.eq_ofNat_of_zero_le (show 0 ≤ f by omega)
    obtain ⟨m, hm⟩ := Int.eq_ofNat_of_zero_le (show 0 ≤ t - g by omega)
    obtain rfl : t = ((g + m : Nat) : Int) := by omega
    exact deltaParts_yes A0 l0 n0 c0 g m w hn0 (by omega) hc0 hr0 (by omega) (by omega)

set_option maxRecDepth 100000 in
set_option maxHeartbeats 1000000 in
theorem deltaOther_walk (A0 A1 A2 : Option Addr) (l0 l1 l2 : List UInt8) (n0 n1 n2 c0 c1 c2 : Nat) (w : World) (hn0 : l0.length = n0) (hn1 : l1.length = n1) (hn2 : l2.length = n2) (h0 : n0 ≤ 140737488355000) (h1 : n1 ≤ 140737488355000) (h2 : n2 ≤ 140737488355000) (hc1 : n1 ≤ c1)
    (hr0 : Reads w w.heap.size 1 A0 n0 (bvs l0)) (hr1 : Reads w w.heap.size 1 A1 n1 (bvs l1)) (hr2 : Reads w w.heap.size 1 A2 n2 (bvs l2)) :
    Calls Try.prog 12 #[.slice A0 n0 c0, .slice A1 n1 c1, .slice A2 n2 c2] w fun e w' => e = .returned (.bool true) ∧ Below w.heap.size w w' := by
  obtain ⟨q, z, hm⟩ : ∃ q z, E.make l0 l2 = (q, z) := ⟨_, _, rfl⟩
  have hcon := hide (make_any A0 A2 l0 l2 n0 c0 n2 c2 w hn0 hn2 h0 h2 hr0 hr2 hm)
  rcases make_cases hm with ⟨rfl, hb, ht⟩ | ⟨rfl, rfl, hor⟩
  · by_cases hne : n0 = n1
    · have hne' : ((n0 : Int) == (n1 : Int)) = true := by rw [beq_iff_eq]; omega
      clear hn0 hn1 hn2 hne
      go_enter Try.func12, Try.ntmps12
      go_wp2_with fail
      refine (unhide hcon).mono ?_
      rintro e w1 ⟨A, c, rfl, hown, hbel⟩
      clear hown
      go_wp2_with fail
      refine (dalive_any _).mono ?_
      rintro e w3 ⟨rfl, hb3⟩
      go_wp2_with fail
      go_ret
      exact ⟨rfl, bel_up hbel hb3⟩
    · have hne' : ((n0 : Int) == (n1 : Int)) = false := by rw [beq_eq_false_iff_ne]; omega
      have hot := hide (E.other hm (o := l1) (by omega))
      have hsh := E.short hm
      generalize hq : q.length = nq at *
      replace hq := hide hq
      have hnq : nq ≤ 5000 := by omega
      clear hm hne
      by_cases h4 : 4096 < n1
      · have h4' : (4096 : Int) < n1 := by omega
        replace hot : Hid (E.apply l1 q = ([], 3)) := by have := unhide hot; rw [if_pos (by omega)] at this; exact this
        replace hn1 := hide hn1
        clear hn0 hn2 h4 hsh
        go_enter Try.func12, Try.ntmps12
        go_wp2_with fail
        refine (unhide hcon).mono ?_
        rintro e w1 ⟨A, c, rfl, hown, hbel⟩
        have hap := hide (apply_any A1 A l1 q n1 c1 nq c w1 (unhide hn1) h1 hc1 (unhide hq) (by omega) (own_capa hown) (reads_up hr1 hbel) (Reads.of_own hown) (unhide hot))
        clear hown
        go_wp2_with fail
        refine (unhide hap).mono ?_
        rintro e w2 ⟨A2, c2, rfl, hown2, hbel2⟩
        clear hown2
        go_wp2_with fail
        refine (dalive_any _).mono ?_
        rintro e w3 ⟨rfl, hb3⟩
        go_wp2_with fail
        go_ret
        exact ⟨rfl, bel_up (bel_up hbel hbel2) hb3⟩
      · replace hot : Hid (E.apply l1 q = ([], 1)) := by have := unhide hot; rw [if_neg (by omega)] at this; exact this
        replace hn1 := hide hn1
        clear hn0 hn2 h4 hsh
        go_enter Try.func12, Try.ntmps12
        go_wp2_with fail
        refine (unhide hcon).mono ?_
        rintro e w1 ⟨A, c, rfl, hown, hbel⟩
        have hap := hide (apply_any A1 A l1 q n1 c1 nq c w1 (unhide hn1) h1 hc1 (unhide hq) (by omega) (own_capa hown) (reads_up hr1 hbel) (Reads.of_own hown) (unhide hot))
        clear hown
        go_wp2_with fail
        refine (unhide hap).mono ?_
        rintro e w2 ⟨A2, c2, rfl, hown2, hbel2⟩
        clear hown2
        go_wp2_with fail
        refine (dalive_any _).mono ?_
        rintro e w3 ⟨rfl, hb3⟩
        go_wp2_with fail
        go_ret
        exact ⟨rfl, bel_up (bel_up hbel hbel2) hb3⟩
  · clear hn0 hn1 hn2 hm
    go_enter Try.func12, Try.ntmps12
    go_wp2_with fail
    refine (unhide hcon).mono ?_
    rintro e w1 ⟨A, c, rfl, hown, hbel⟩
    clear hown
    go_wp2_with fail
    refine (dalive_any _).mono ?_
    rintro e w3 ⟨rfl, hb3⟩
    go_wp2_with fail
    go_ret
    exact ⟨rfl, bel_up hbel hb3⟩
end Go.Proofs.Ytdhgobflbacgbaa
