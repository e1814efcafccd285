/- The document's piece and Apply, at every bytes. -/
import Derived.Test.YtdhgobflbacgbaaText
import Derived.Test.YtdhgobflbacgbaaList
import Derived.Test.YtdhgobflbacgbaaDeltaLaws
import Derived.Outline
namespace Go.Proofs.Ytdhgobflbacgbaa
open Go.RowKit

theorem rget_bs (d : List UInt8) (p : Int) (w : World) (hb : d.length ≤ 140737488355328) {m y z : Nat} (h : W.gnum d p = (m, y, z)) :
    Calls Try.prog 20 #[.string (bs d), .int .i64 p] w fun e w' => e = .returned (.tuple #[.int .i64 m, .int .i64 y, .int .i64 z]) ∧ w = w' :=
  rget_eq (bs d) p w (by rw [bs_size]; exact hb) (by rw [bs_data, h]; rfl)

/-- the answer of piece as a value, as the walk writes it -/
def pv (s : List UInt8) (y z : Nat) : Value := .tuple #[.string (bs s), .int .i64 y, .int .i64 z]
theorem pv_nil (z : Nat) : pv [] 0 z = .tuple #[.string ⟨#[]⟩, .int .i64 0, .int .i64 z] := rfl

set_option maxRecDepth 100000 in
set_option maxHeartbeats 400000 in
theorem piece_bad1 (base d : List UInt8) (x lack e : Nat) (w : World) (hd : d.length ≤ 140737488355328) (hg : W.gnum d x = (0, 0, e)) (he : e ≠ 0) :
    Calls Try.prog 47 #[.string (bs base), .string (bs d), .int .i64 x, .int .i64 lack] w fun r w' => r = .returned (.tuple #[.string ⟨#[]⟩, .int .i64 0, .int .i64 e]) ∧ w = w' := by
  have h1 := hide fun w0 => rget_bs d x w0 hd hg
  have he' : ((e : Int) != 0) = true := by rw [bne_iff_ne]; omega
  clear hg he
  go_enter Try.func47, Try.ntmps47
  go_wp2_with (go_at_call 20; refine (unhide h1 _).mono ?_; rintro e w1 ⟨rfl, rfl⟩)
  go_ret3
  exact ⟨rfl, rfl⟩

set_option maxRecDepth 100000 in
set_option maxHeartbeats 400000 in
theorem piece_bad7 (base d : List UInt8) (x lack m y : Nat) (w : World) (hd : d.length ≤ 140737488355328) (hg : W.gnum d x = (m, y, 0)) (h : m / 2 = 0 ∨ lack < m / 2) :
    Calls Try.prog 47 #[.string (bs base), .string (bs d), .int .i64 x, .int .i64 lack] w fun r w' => r = .returned (.tuple #[.string ⟨#[]⟩, .int .i64 0, .int .i64 7]) ∧ w = w' := by
  have h1 := hide fun w0 => rget_bs d x w0 hd hg
  have hm := (W.gnum_ok hg).2.2.2
  clear hg
  by_cases h0 : m / 2 = 0
  · have e0 : ((m : Int) / 2 == 0) = true := by rw [beq_iff_eq]; omega
    clear h h0
    go_enter Try.func47, Try.ntmps47
    go_wp2_with (go_at_call 20; refine (unhide h1 _).mono ?_; rintro e w1 ⟨rfl, rfl⟩)
    go_ret3
    exact ⟨rfl, rfl⟩
  · have e0 : ((m : Int) / 2 == 0) = false := by rw [beq_eq_false_iff_ne]; omega
    have e1 : (lack : Int) < (m : Int) / 2 := by omega
    clear h h0
    go_enter Try.func47, Try.ntmps47
    go_wp2_with (go_at_call 20; refine (unhide h1 _).mono ?_; rintro e w1 ⟨rfl, rfl⟩)
    go_ret3
    exact ⟨rfl, rfl⟩

set_option maxRecDepth 100000 in
set_option maxHeartbeats 400000 in
theorem piece_bad8 (base d : List UInt8) (x lack m y : Nat) (w : World) (hd : d.length ≤ 140737488355328) (hg : W.gnum d x = (m, y, 0)) (h0 : m / 2 ≠ 0) (h1 : m / 2 ≤ lack) (h2 : m % 2 = 0) (h3 : d.length - y < m / 2) :
    Calls Try.prog 47 #[.string (bs base), .string (bs d), .int .i64 x, .int .i64 lack] w fun r w' => r = .returned (.tuple #[.string ⟨#[]⟩, .int .i64 0, .int .i64 8]) ∧ w = w' := by
  have hc := hide fun w0 => rget_bs d x w0 hd hg
  have hm := W.gnum_ok hg
  obtain ⟨_, _, hy, hm⟩ := hm
  clear hg
  have e0 : ((m : Int) / 2 == 0) = false := by rw [beq_eq_false_iff_ne]; omega
  have e1 : ¬ (lack : Int) < (m : Int) / 2 := by omega
  have e2 : ((m : Int) % 2 == 0) = true := by rw [beq_iff_eq]; omega
  have hsz : (bs d).size = d.length := bs_size d
  have e3 : ((bs d).size : Int) - y < (m : Int) / 2 := by omega
  have hsz2 : (bs d).size ≤ 140737488355328 := by omega
  have hy8 : (y : Int) ≤ 140737488355328 := by omega
  clear h0 h1 h2 h3 hsz hd
  go_enter Try.func47, Try.ntmps47
  go_wp2_with (go_at_call 20; refine (unhide hc _).mono ?_; rintro e w1 ⟨rfl, rfl⟩)
  go_ret3
  exact ⟨rfl, rfl⟩

set_option maxRecDepth 100000 in
set_option maxHeartbeats 400000 in
theorem piece_own (base d : List UInt8) (x lack m y : Nat) (w : World) (hd : d.length ≤ 140737488355328) (hg : W.gnum d x = (m, y, 0)) (h0 : m / 2 ≠ 0) (h1 : m / 2 ≤ lack) (h2 : m % 2 = 0) (h3 : m / 2 ≤ d.length - y) :
    Calls Try.prog 47 #[.string (bs base), .string (bs d), .int .i64 x, .int .i64 lack] w fun r w' => r = .returned (.tuple #[.string (bs ((d.drop y).take (m / 2))), .int .i64 ((y + m / 2 : Nat) : Int), .int .i64 0]) ∧ w = w' := by
  have hc := hide fun w0 => rget_bs d x w0 hd hg
  have hm := W.gnum_ok hg
  obtain ⟨_, _, hy, hm⟩ := hm
  clear hg
  have e0 : ((m : Int) / 2 == 0) = false := by rw [beq_eq_false_iff_ne]; omega
  have e1 : ¬ (lack : Int) < (m : Int) / 2 := by omega
  have e2 : ((m : Int) % 2 == 0) = true := by rw [beq_iff_eq]; omega
  have hsz : (bs d).size = d.length := bs_size d
  have e3 : ¬ ((bs d).size : Int) - y < (m : Int) / 2 := by omega
  have e4 : (y : Int) + (m : Int) / 2 ≤ (bs d).size := by omega
  have hsz2 : (bs d).size ≤ 140737488355328 := by omega
  have hy8 : (y : Int) ≤ 140737488355328 := by omega
  have HE := hide (show (bs d).extract y (y + m / 2) = bs ((d.drop y).take (m / 2)) by rw [bs_extract, bs_data])
  have e5 : ((y : Int) + (m : Int) / 2).toNat = y + m / 2 := by omega
  clear h0 h1 h2 h3 hsz hd
  go_enter Try.func47, Try.ntmps47
  go_wp2_with (go_at_call 20; refine (unhide hc _).mono ?_; rintro e w1 ⟨rfl, rfl⟩)
  go_ret3
  rw [← unhide HE]
  refine ⟨?_, rfl⟩
  rw [show ((y + m / 2 : Nat) : Int) = (y : Int) + (m : Int) / 2 from by omega]
  rfl

set_option maxRecDepth 100000 in
set_option maxHeartbeats 400000 in
theorem piece_bad1' (base d : List UInt8) (x lack m y e : Nat) (w : World) (hd : d.length ≤ 140737488355328) (hg : W.gnum d x = (m, y, 0)) (h0 : m / 2 ≠ 0) (h1 : m / 2 ≤ lack) (h2 : m % 2 ≠ 0) (hf : W.gnum d y = (0, 0, e)) (he : e ≠ 0) :
    Calls Try.prog 47 #[.string (bs base), .string (bs d), .int .i64 x, .int .i64 lack] w fun r w' => r = .returned (.tuple #[.string ⟨#[]⟩, .int .i64 0, .int .i64 e]) ∧ w = w' := by
  have hc := hide fun w0 => rget_bs d x w0 hd hg
  have hc2 := hide fun w0 => rget_bs d y w0 hd hf
  have hm := W.gnum_ok hg
  obtain ⟨_, _, hy, hm⟩ := hm
  clear hg hf
  have he' : ((e : Int) != 0) = true := by rw [bne_iff_ne]; omega
  have e0 : ((m : Int) / 2 == 0) = false := by rw [beq_eq_false_iff_ne]; omega
  have e1 : ¬ (lack : Int) < (m : Int) / 2 := by omega
  have e2 : ((m : Int) % 2 == 0) = false := by rw [beq_eq_false_iff_ne]; omega
  clear h0 h1 h2 he
  go_enter Try.func47, Try.ntmps47
  go_wp2_with fail
  refine (unhide hc _).mono ?_
  rintro e w1 ⟨rfl, rfl⟩
  go_wp2_with fail
  refine (unhide hc2 _).mono ?_
  rintro e w1 ⟨rfl, rfl⟩
  go_wp2_with fail
  go_ret3
  exact ⟨rfl, rfl⟩

set_option maxRecDepth 100000 in
set_option maxHeartbeats 400000 in
theorem piece_bad9 (base d : List UInt8) (x lack m y f z : Nat) (w : World) (hd : d.length ≤ 140737488355328) (hbase : base.length ≤ 140737488355328) (hg : W.gnum d x = (m, y, 0)) (h0 : m / 2 ≠ 0) (h1 : m / 2 ≤ lack) (h2 : m % 2 ≠ 0) (hf : W.gnum d y = (f, z, 0)) (h3 : base.length < f ∨ base.length - f < m / 2) :
    Calls Try.prog 47 #[.string (bs base), .string (bs d), .int .i64 x, .int .i64 lack] w fun r w' => r = .returned (.tuple #[.string ⟨#[]⟩, .int .i64 0, .int .i64 9]) ∧ w = w' := by
  have hc := hide fun w0 => rget_bs d x w0 hd hg
  have hc2 := hide fun w0 => rget_bs d y w0 hd hf
  have hm := W.gnum_ok hg
  obtain ⟨_, _, hy, hm⟩ := hm
  obtain ⟨_, _, hz, hf9⟩ := W.gnum_ok hf
  clear hg hf
  have e0 : ((m : Int) / 2 == 0) = false := by rw [beq_eq_false_iff_ne]; omega
  have e1 : ¬ (lack : Int) < (m : Int) / 2 := by omega
  have e2 : ((m : Int) % 2 == 0) = false := by rw [beq_eq_false_iff_ne]; omega
  have hsz : (bs base).size = base.length := bs_size base
  have hsz2 : (bs base).size ≤ 140737488355328 := by omega
  by_cases h4 : base.length < f
  · have e3 : ((bs base).size : Int) < f := by omega
    clear h0 h1 h2 h3 h4 hsz
    go_enter Try.func47, Try.ntmps47
    go_wp2_with fail
    refine (unhide hc _).mono ?_
    rintro e w1 ⟨rfl, rfl⟩
    go_wp2_with fail
    refine (unhide hc2 _).mono ?_
    rintro e w1 ⟨rfl, rfl⟩
    go_wp2_with fail
    go_ret3
    exact ⟨rfl, rfl⟩
  · have e3 : ¬ ((bs base).size : Int) < f := by omega
    have e4 : ((bs base).size : Int) - f < (m : Int) / 2 := by omega
    clear h0 h1 h2 h3 h4 hsz
    go_enter Try.func47, Try.ntmps47
    go_wp2_with fail
    refine (unhide hc _).mono ?_
    rintro e w1 ⟨rfl, rfl⟩
    go_wp2_with fail
    refine (unhide hc2 _).mono ?_
    rintro e w1 ⟨rfl, rfl⟩
    go_wp2_with fail
    go_ret3
    exact ⟨rfl, rfl⟩

set_option maxRecDepth 100000 in
set_option maxHeartbeats 400000 in
theorem piece_from (base d : List UInt8) (x lack m y f z : Nat) (w : World) (hd : d.length ≤ 140737488355328) (hbase : base.length ≤ 140737488355328) (hg : W.gnum d x = (m, y, 0)) (h0 : m / 2 ≠ 0) (h1 : m / 2 ≤ lack) (h2 : m % 2 ≠ 0) (hf : W.gnum d y = (f, z, 0)) (h3 : f ≤ base.length) (h4 : m / 2 ≤ base.length - f) :
    Calls Try.prog 47 #[.string (bs base), .string (bs d), .int .i64 x, .int .i64 lack] w fun r w' => r = .returned (.tuple #[.string (bs ((base.drop f).take (m / 2))), .int .i64 z, .int .i64 0]) ∧ w = w' := by
  have hc := hide fun w0 => rget_bs d x w0 hd hg
  have hc2 := hide fun w0 => rget_bs d y w0 hd hf
  have hm := W.gnum_ok hg
  obtain ⟨_, _, hy, hm⟩ := hm
  obtain ⟨_, _, hz, hf9⟩ := W.gnum_ok hf
  clear hg hf
  have e0 : ((m : Int) / 2 == 0) = false := by rw [beq_eq_false_iff_ne]; omega
  have e1 : ¬ (lack : Int) < (m : Int) / 2 := by omega
  have e2 : ((m : Int) % 2 == 0) = false := by rw [beq_eq_false_iff_ne]; omega
  have hsz : (bs base).size = base.length := bs_size base
  have hsz2 : (bs base).size ≤ 140737488355328 := by omega
  have e3 : ¬ ((bs base).size : Int) < f := by omega
  have e4 : ¬ ((bs base).size : Int) - f < (m : Int) / 2 := by omega
  have e5 : (f : Int) + (m : Int) / 2 ≤ (bs base).size := by omega
  have HE := hide (show (bs base).extract f (f + m / 2) = bs ((base.drop f).take (m / 2)) by rw [bs_extract, bs_data])
  have e6 : ((f : Int) + (m : Int) / 2).toNat = f + m / 2 := by omega
  clear h0 h1 h2 h3 h4 hsz
  go_enter Try.func47, Try.ntmps47
  go_wp2_with fail
  refine (unhide hc _).mono ?_
  rintro e w1 ⟨rfl, rfl⟩
  go_wp2_with fail
  refine (unhide hc2 _).mono ?_
  rintro e w1 ⟨rfl, rfl⟩
  go_wp2_with fail
  go_ret3
  rw [← unhide HE]
  exact ⟨rfl, rfl⟩

/-- recensionref05.piece: what the document says -/
theorem piece_any (base d : List UInt8) (x lack : Nat) (w : World) (hd : d.length ≤ 140737488355328) (hbase : base.length ≤ 140737488355328) {s : List UInt8} {y e : Nat} (h : E.piece base d x lack = (s, y, e)) :
    Calls Try.prog 47 #[.string (bs base), .string (bs d), .int .i64 x, .int .i64 lack] w fun r w' => r = .returned (.tuple #[.string (bs s), .int .i64 y, .int .i64 e]) ∧ w = w' := by
  unfold E.piece at h
  obtain ⟨m, p, q, hg⟩ : ∃ m p q, W.gnum d x = (m, p, q) := ⟨_, _, _, rfl⟩
  have he := W.gnum_err (b := d) (p := x)
  rw [hg] at h he
  simp only at h he
  by_cases h0 : q = 0
  · subst h0
    simp only [ne_eq, not_true, if_false] at h
    by_cases h1 : m / 2 = 0 ∨ lack < m / 2
    · rw [if_pos h1] at h
      simp only [Prod.mk.injEq] at h
      obtain ⟨rfl, rfl, rfl⟩ := h
      exact piece_bad7 base d x lack m p w hd hg h1
    · rw [if_neg h1] at h
      rw [not_or] at h1
      by_cases h2 : m % 2 = 0
      · rw [if_pos h2] at h
        by_cases h3 : d.length - p < m / 2
        · rw [if_pos h3] at h
          simp only [Prod.mk.injEq] at h
          obtain ⟨rfl, rfl, rfl⟩ := h
          exact piece_bad8 base d x lack m p w hd hg h1.1 (by omega) h2 h3
        · rw [if_neg h3] at h
          simp only [Prod.mk.injEq] at h
          obtain ⟨rfl, rfl, rfl⟩ := h
          exact piece_own base d x lack m p w hd hg h1.1 (by omega) h2 (by omega)
      · rw [if_neg h2] at h
        obtain ⟨f, z, q, hf⟩ : ∃ f z q, W.gnum d p = (f, z, q) := ⟨_, _, _, rfl⟩
        have he := W.gnum_err (b := d) (p := p)
        rw [hf] at h he
        simp only at h he
        by_cases h3 : q = 0
        · subst h3
          simp only [not_true, if_false] at h
          by_cases h4 : base.length < f ∨ base.length - f < m / 2
          · rw [if_pos h4] at h
            simp only [Prod.mk.injEq] at h
            obtain ⟨rfl, rfl, rfl⟩ := h
            exact piece_bad9 base d x lack m p f z w hd hbase hg h1.1 (by omega) h2 hf h4
          · rw [if_neg h4] at h
            rw [not_or] at h4
            simp only [Prod.mk.injEq] at h
            obtain ⟨rfl, rfl, rfl⟩ := h
            exact piece_from base d x lack m p f z w hd hbase hg h1.1 (by omega) h2 hf (by omega) (by omega)
        · rw [if_pos h3] at h
          simp only [Prod.mk.injEq] at h
          obtain ⟨rfl, rfl, rfl⟩ := h
          exact piece_bad1' base d x lack m p _ w hd hg h1.1 (by omega) h2 (by rw [hf]; exact he h3) h3
  · rw [if_pos h0] at h
    simp only [Prod.mk.injEq] at h
    obtain ⟨rfl, rfl, rfl⟩ := h
    exact piece_bad1 base d x lack _ w hd (by rw [hg]; exact he h0) h0
end Go.Proofs.Ytdhgobflbacgbaa
