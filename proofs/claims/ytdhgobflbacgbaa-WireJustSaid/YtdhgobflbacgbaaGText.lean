/- wire.GetText and the document's: the text that stands at a place, at every bytes and place. -/
import Derived.Test.YtdhgobflbacgbaaLent
import Derived.Test.YtdhgobflbacgbaaRNum
namespace Go.Proofs.Ytdhgobflbacgbaa
open Go.RowKit

theorem bs_extract (s : ByteArray) (x n : Nat) : s.extract x (x + n) = bs ((s.data.toList.drop x).take n) := by
  apply ByteArray.ext
  apply Array.ext'
  simp [bs, ByteArray.data_extract, List.take_drop]
theorem bs_nil : bs [] = ⟨#[]⟩ := rfl

/-- the answer of GetText as a value -/
def tv (r : List UInt8 × Nat × Nat) : Value := .tuple #[.string (bs r.1), .int .i64 r.2.1, .int .i64 r.2.2]

set_option maxRecDepth 100000 in
set_option maxHeartbeats 400000 in
theorem gtext_err (B : Nat) (A : Option Addr) (b : List UInt8) (c : Nat) (p : Int) (w : World) (hb : b.length ≤ 140737488355328) (hr : Reads w B 1 A b.length (bvs b)) (he : (W.gnum b p).2.2 ≠ 0) :
    Calls Try.prog 26 #[.slice A b.length c, .int .i64 p] w fun e w' => e = .returned (tv (W.gtext b p)) ∧ w = w' := by
  have hf : tv (W.gtext b p) = .tuple #[.string ⟨#[]⟩, .int .i64 0, .int .i64 (W.gnum b p).2.2] := by
    unfold W.gtext; rw [if_pos he]; rfl
  have h1 := get_eq B A b _ c p w rfl hb hr (x := 0) (y := 0) (z := (W.gnum b p).2.2) (by rw [W.gnum_err he]; rfl)
  generalize (W.gnum b p).2.2 = e at *
  have he' : ((e : Int) != 0) = true := by rw [bne_iff_ne]; omega
  have HF := hide hf
  have h1 := hide h1
  clear hf he hr
  go_enter Try.func26, Try.ntmps26
  go_wp2_with (go_at_call 19; refine (unhide h1).mono ?_; rintro e w1 ⟨rfl, rfl⟩)
  go_ret3
  rw [unhide HF]
  exact ⟨rfl, rfl⟩

set_option maxRecDepth 100000 in
set_option maxHeartbeats 400000 in
theorem gtext_ok (B : Nat) (A : Option Addr) (b : List UInt8) (c : Nat) (p : Int) (w : World) (n x : Nat) (hb : b.length ≤ 140737488355328) (hc : b.length ≤ c) (hr : Reads w B 1 A b.length (bvs b)) (hg : W.gnum b p = (n, x, 0)) :
    Calls Try.prog 26 #[.slice A b.length c, .int .i64 p] w fun e w' => e = .returned (tv (W.gtext b p)) ∧ w = w' := by
  obtain ⟨_, _, hx, hn⟩ := W.gnum_ok hg
  have h1 := hide (get_eq B A b _ c p w rfl hb hr (x := n) (y := x) (z := 0) (by rw [hg]; rfl))
  by_cases hl : 131072 < n
  · have HF := hide (show tv (W.gtext b p) = .tuple #[.string ⟨#[]⟩, .int .i64 0, .int .i64 3] by
      unfold W.gtext; rw [hg]; simp only [ne_eq, not_true_eq_false, if_false]; rw [if_pos hl]; rfl)
    have hl' : (131072 : Int) < n := by omega
    clear hr hg
    go_enter Try.func26, Try.ntmps26
    go_wp2_with (go_at_call 19; refine (unhide h1).mono ?_; rintro e w1 ⟨rfl, rfl⟩)
    go_ret3
    rw [unhide HF]
    exact ⟨rfl, rfl⟩
  · by_cases hs : b.length - x < n
    · have HF := hide (show tv (W.gtext b p) = .tuple #[.string ⟨#[]⟩, .int .i64 0, .int .i64 8] by
        unfold W.gtext; rw [hg]; simp only [ne_eq, not_true_eq_false, if_false]; rw [if_neg hl, if_pos hs]; rfl)
      have hl' : ¬ (131072 : Int) < n := by omega
      have hs' : (b.length : Int) - x < n := by omega
      clear hr hg
      go_enter Try.func26, Try.ntmps26
      go_wp2_with (go_at_call 19; refine (unhide h1).mono ?_; rintro e w1 ⟨rfl, rfl⟩)
      go_ret3
      rw [unhide HF]
      exact ⟨rfl, rfl⟩
    · have HF := hide (show tv (W.gtext b p) = .tuple #[.string (bs ((b.drop x).take n)), .int .i64 ((x + n : Nat) : Int), .int .i64 0] by
        unfold W.gtext; rw [hg]; simp only [ne_eq, not_true_eq_false, if_false]; rw [if_neg hl, if_neg hs]; rfl)
      have hl' : ¬ (131072 : Int) < n := by omega
      have hs' : ¬ (b.length : Int) - x < n := by omega
      have hxn : x + n ≤ b.length := by omega
      have hcv := fun dst (hd : Try.prog.underlying dst = some .string) => run_conv_readsN (P := Try.prog) (w := w) Try.underlying22 Try.underlying5 ((b.drop x).take n) n (c - x) (by simp; omega) (reads_mid (k := x) (n := n) (cap := c) hr hxn hc) dst hd
      have hcv := hcv 9 Try.underlying9
      clear hr hg
      by_cases hcx : c = x
      · rw [if_pos hcx] at hcv
        have hn0 : n = 0 := by omega
        subst hn0
        subst hcx
        rw [Nat.sub_self] at hcv
        go_enter Try.func26, Try.ntmps26
        go_wp2_with (go_at_call 19; refine (unhide h1).mono ?_; rintro e w1 ⟨rfl, rfl⟩)
        go_ret3
        rw [unhide HF]
        exact ⟨by simp [bs], rfl⟩
      · rw [if_neg hcx] at hcv
        go_enter Try.func26, Try.ntmps26
        go_wp2_with (go_at_call 19; refine (unhide h1).mono ?_; rintro e w1 ⟨rfl, rfl⟩)
        go_ret3
        rw [unhide HF]
        exact ⟨by simp [bs], rfl⟩

theorem gtext_any (B : Nat) (A : Option Addr) (b : List UInt8) (c : Nat) (p : Int) (w : World) (hb : b.length ≤ 140737488355328) (hc : b.length ≤ c) (hr : Reads w B 1 A b.length (bvs b)) :
    Calls Try.prog 26 #[.slice A b.length c, .int .i64 p] w fun e w' => e = .returned (tv (W.gtext b p)) ∧ w = w' := by
  by_cases he : (W.gnum b p).2.2 = 0
  · obtain ⟨n, x, e, hg⟩ : ∃ n x e, W.gnum b p = (n, x, e) := ⟨_, _, _, rfl⟩
    rw [hg] at he
    simp only at he
    subst he
    exact gtext_ok B A b c p w n x hb hc hr hg
  · exact gtext_err B A b c p w hb hr he

set_option maxRecDepth 100000 in
set_option maxHeartbeats 400000 in
theorem rgtext_err (s : ByteArray) (p : Int) (w : World) (hb : s.size ≤ 140737488355328) (he : (W.gnum s.data.toList p).2.2 ≠ 0) :
    Calls Try.prog 27 #[.string s, .int .i64 p] w fun e w' => e = .returned (tv (W.gtext s.data.toList p)) ∧ w = w' := by
  have hf : tv (W.gtext s.data.toList p) = .tuple #[.string ⟨#[]⟩, .int .i64 0, .int .i64 (W.gnum s.data.toList p).2.2] := by
    unfold W.gtext; rw [if_pos he]; rfl
  have h1 := rget_eq s p w hb (x := 0) (y := 0) (z := (W.gnum s.data.toList p).2.2) (by rw [W.gnum_err he]; rfl)
  generalize (W.gnum s.data.toList p).2.2 = e at *
  have he' : ((e : Int) != 0) = true := by rw [bne_iff_ne]; omega
  have HF := hide hf
  have h1 := hide h1
  clear hf he
  go_enter Try.func27, Try.ntmps27
  go_wp2_with (go_at_call 20; refine (unhide h1).mono ?_; rintro e w1 ⟨rfl, rfl⟩)
  go_ret3
  rw [unhide HF]
  exact ⟨rfl, rfl⟩

set_option maxRecDepth 100000 in
set_option maxHeartbeats 400000 in
theorem rgtext_ok (s : ByteArray) (p : Int) (w : World) (n x : Nat) (hb : s.size ≤ 140737488355328) (hg : W.gnum s.data.toList p = (n, x, 0)) :
    Calls Try.prog 27 #[.string s, .int .i64 p] w fun e w' => e = .returned (tv (W.gtext s.data.toList p)) ∧ w = w' := by
  obtain ⟨_, _, hx, hn⟩ := W.gnum_ok hg
  have hx : x ≤ s.size := by simpa using hx
  have h1 := hide (rget_eq s p w hb (x := n) (y := x) (z := 0) (by rw [hg]; rfl))
  have hlen : s.data.toList.length = s.size := by simp
  by_cases hl : 131072 < n
  · have HF := hide (show tv (W.gtext s.data.toList p) = .tuple #[.string ⟨#[]⟩, .int .i64 0, .int .i64 3] by
      unfold W.gtext; rw [hg]; simp only [ne_eq, not_true_eq_false, if_false]; rw [if_pos hl]; rfl)
    have hl' : (131072 : Int) < n := by omega
    clear hg hlen
    go_enter Try.func27, Try.ntmps27
    go_wp2_with (go_at_call 20; refine (unhide h1).mono ?_; rintro e w1 ⟨rfl, rfl⟩)
    go_ret3
    rw [unhide HF]
    exact ⟨rfl, rfl⟩
  · by_cases hs : s.size - x < n
    · have HF := hide (show tv (W.gtext s.data.toList p) = .tuple #[.string ⟨#[]⟩, .int .i64 0, .int .i64 8] by
        unfold W.gtext; rw [hg]; simp only [ne_eq, not_true_eq_false, if_false]; rw [if_neg hl, if_pos (by rw [hlen]; exact hs)]; rfl)
      have hl' : ¬ (131072 : Int) < n := by omega
      have hs' : (s.size : Int) - x < n := by omega
      clear hg hlen
      go_enter Try.func27, Try.ntmps27
      go_wp2_with (go_at_call 20; refine (unhide h1).mono ?_; rintro e w1 ⟨rfl, rfl⟩)
      go_ret3
      rw [unhide HF]
      exact ⟨rfl, rfl⟩
    · have HF := hide (show tv (W.gtext s.data.toList p) = .tuple #[.string (bs ((s.data.toList.drop x).take n)), .int .i64 ((x + n : Nat) : Int), .int .i64 0] by
        unfold W.gtext; rw [hg]; simp only [ne_eq, not_true_eq_false, if_false]; rw [if_neg hl, if_neg (by rw [hlen]; exact hs)]; rfl)
      have hl' : ¬ (131072 : Int) < n := by omega
      have hs' : ¬ (s.size : Int) - x < n := by omega
      have hxn : x + n ≤ s.size := by omega
      clear hg hlen
      go_enter Try.func27, Try.ntmps27
      go_wp2_with (go_at_call 20; refine (unhide h1).mono ?_; rintro e w1 ⟨rfl, rfl⟩)
      go_ret3
      rw [unhide HF]
      exact ⟨by rw [bs_extract]; simp, rfl⟩

theorem rgtext_any (s : ByteArray) (p : Int) (w : World) (hb : s.size ≤ 140737488355328) :
    Calls Try.prog 27 #[.string s, .int .i64 p] w fun e w' => e = .returned (tv (W.gtext s.data.toList p)) ∧ w = w' := by
  by_cases he : (W.gnum s.data.toList p).2.2 = 0
  · obtain ⟨n, x, e, hg⟩ : ∃ n x e, W.gnum s.data.toList p = (n, x, e) := ⟨_, _, _, rfl⟩
    rw [hg] at he
    simp only at he
    subst he
    exact rgtext_ok s p w n x hb hg
  · exact rgtext_err s p w hb he
end Go.Proofs.Ytdhgobflbacgbaa
