/- The walk of wire.GetNum: the number that stands at any place of any bytes, as the document says. -/
import Derived.Test.YtdhgobflbacgbaaPut
import Derived.Test.YtdhgobflbacgbaaBits
namespace Go.Proofs.Ytdhgobflbacgbaa
open Go.RowKit

/-- the frame at the label -/
def getTm (A : Option Addr) (n c p i s : Nat) (a : Act) : Prop :=
  ∃ u9 u10 u11 u12 u13 u14 u15 u16 u17 u18 u19 u20 u21 u22 u23 u24 u25 u26 u27 u28 u29 u30 u31 u32 u33 u34 u35 u36 u37 u38 u39 u40 u41 u42 u43 u44 u45 u46 u47 u48 u49 u50 u51 u52 u53 u54 u55 u56 u57 u58 : Value, a = { tmps := #[.slice A n c, .int .i64 p, undef, undef, .int .i64 0, .int .i64 0, .int .i64 0, .int .i64 i, .int .i64 s, u9, u10, u11, u12, u13, u14, u15, u16, u17, u18, u19, u20, u21, u22, u23, u24, u25, u26, u27, u28, u29, u30, u31, u32, u33, u34, u35, u36, u37, u38, u39, u40, u41, u42, u43, u44, u45, u46, u47, u48, u49, u50, u51, u52, u53, u54, u55, u56, u57, u58], defers := [] }
/-- what stands to be read at the label -/
def getRel (b : List UInt8) (p i s : Nat) : Prop := W.gnum b p = W.gfin p (W.getL i s (b.drop (p + i)))
/-- an answer of three numbers -/
def gv (r : Nat × Nat × Nat) : Value := .tuple #[.int .i64 r.1, .int .i64 r.2.1, .int .i64 r.2.2]

theorem fin_range {b : List UInt8} {p i s x : Nat} {y : UInt8} {l : List UInt8} (hG : Hid (W.gnum b p = W.gfin p (W.getL i s (y :: l)))) (HX : Hid (y.toNat = x)) (h : (128 : Int) ≤ x) (hi : ((i : Int) + 1 == 9) = true) : W.gnum b p = (0, 0, 9) := by
  have e : i = 8 := by have := eq_of_beq hi; omega
  subst e
  rw [hG.out, W.getL_range (by rw [HX.out]; omega)]
  rfl
theorem fin_form {b : List UInt8} {p i s x : Nat} {y : UInt8} {l : List UInt8} (hG : Hid (W.gnum b p = W.gfin p (W.getL i s (y :: l)))) (HX : Hid (y.toNat = x)) (h : x = 0) (hi : 0 < i) : W.gnum b p = (0, 0, 7) := by
  rw [hG.out, W.getL_form (by rw [HX.out]; omega) hi]
  rfl
theorem fin_last {b : List UInt8} {p i s x : Nat} {y : UInt8} {l : List UInt8} (hG : Hid (W.gnum b p = W.gfin p (W.getL i s (y :: l)))) (HX : Hid (y.toNat = x)) (h : (x : Int) < 128) (h0 : x = 0 → i = 0) : W.gnum b p = (s + x % 128 * 128 ^ i, p + (i + 1), 0) := by
  rw [hG.out, W.getL_last (by rw [HX.out]; omega) (by rw [HX.out]; exact h0), HX.out]
  rfl
theorem fin_more {b : List UInt8} {p i s x : Nat} {y : UInt8} (hG : Hid (W.gnum b p = W.gfin p (W.getL i s (y :: b.drop (p + i + 1))))) (HX : Hid (y.toNat = x)) (h : (128 : Int) ≤ x) (hi : ((i : Int) + 1 == 9) = false) : getRel b p (i + 1) (s + x % 128 * 128 ^ i) := by
  unfold getRel
  rw [hG.out, W.getL_more (by rw [HX.out]; omega) (by have := ne_of_beq_false hi; omega), HX.out, Nat.add_assoc]

set_option maxRecDepth 100000 in
set_option maxHeartbeats 400000 in
theorem get_any (B : Nat) (A : Option Addr) (b : List UInt8) (c p : Nat) (w : World) (hp : p ≤ b.length) (hb : b.length ≤ 140737488355328) (hr : Reads w B 1 A b.length (bvs b)) :
    Calls Try.prog 19 #[.slice A b.length c, .int .i64 p] w fun e w' => e = .returned (gv (W.gnum b p)) ∧ w = w' := by
  have h1 : ¬ (p : Int) < 0 := by omega
  have h2 : ¬ (b.length : Int) < p := by omega
  go_enter Try.func19, Try.ntmps19
  go_wp2
  refine wp_scope_label 0 (fun a' w' => w' = w ∧ ∃ i s, getTm A b.length c p i s a' ∧ getRel b p i s ∧ i ≤ 8 ∧ p + i ≤ b.length ∧ s < 128 ^ i) (fun a' _ => 9 - (intOf (a'.tmps.getD 7 undef)).toNat) (by rfl) ?_ ?_
  · intro Q' h
    go_wp2
    go_step3
    simp only [Exit.then]
    refine (by assumption : ∀ (a : Act) (w : World), Code.wp Try.prog _ Q' a w → _) _ _ ?_
    refine h _ _ ⟨rfl, 0, 0, ⟨_, _, _, _, _, _, _, _, _, _, _, _, _, _, _, _, _, _, _, _, _, _, _, _, _, _, _, _, _, _, _, _, _, _, _, _, _, _, _, _, _, _, _, _, _, _, _, _, _, _, rfl⟩, ?_, by omega, by omega, by simp⟩
    unfold getRel W.gnum
    rw [if_neg (by omega)]
    simp
  · rintro a' w' ⟨rfl, i, s, ⟨u9, u10, u11, u12, u13, u14, u15, u16, u17, u18, u19, u20, u21, u22, u23, u24, u25, u26, u27, u28, u29, u30, u31, u32, u33, u34, u35, u36, u37, u38, u39, u40, u41, u42, u43, u44, u45, u46, u47, u48, u49, u50, u51, u52, u53, u54, u55, u56, u57, u58, rfl⟩, hg, hi, hpi, hs⟩
    by_cases hend : p + i = b.length
    · have hend' : ¬ (i : Int) < b.length - p := by omega
      clear hend
      go_wp2
      simp only [Exit.jump]
      go_ret3
      refine ⟨?_, rfl⟩
      unfold getRel at hg
      rw [hg, List.drop_eq_nil_of_le (by omega)]
      rfl
    · have hlt : p + i < b.length := by omega
      clear hend
      obtain ⟨ad, u, rfl, hbl, hu, hc⟩ := hr.at_ hlt
      obtain rfl : bv b[p+i] = u := by rw [bvs_get hlt] at hu; injection hu
      have hdr : b.drop (p + i) = b[p+i] :: b.drop (p + i + 1) := List.drop_eq_getElem_cons hlt
      have hG : Hid (W.gnum b p = W.gfin p (W.getL i s (b[p+i] :: b.drop (p + i + 1)))) := by rw [← hdr]; exact hg
      clear hdr hg hu
      have hx8 : b[p+i].toNat < 256 := UInt8.toNat_lt _
      unfold bv at hc
      generalize b[p+i] = y at hc hx8 hG
      generalize hx : y.toNat = x at hc hx8
      have HX := Lib.hid hx
      clear hx
      go_wp2
      · simp only [Exit.jump]
        go_ret3
        rw [fin_range hG HX ‹_› ‹_›]
        exact ⟨rfl, rfl⟩
      · go_step3
        rw [acc_eq hi hx8 hs]
        have hm := fin_more hG HX ‹_› ‹_›
        have hne : i ≠ 8 := by
          have := ne_of_beq_false (by assumption : ((i : Int) + 1 == 9) = false)
          omega
        exact ⟨rfl, ⟨rfl, i + 1, s + x % 128 * 128 ^ i, ⟨_, _, _, _, _, _, _, _, _, _, _, _, _, _, _, _, _, _, _, _, _, _, _, _, _, _, _, _, _, _, _, _, _, _, _, _, _, _, _, _, _, _, _, _, _, _, _, _, _, _, rfl⟩, hm, by omega, by omega, acc_lt hs⟩, by simp [intOf]; omega⟩
      · simp only [Exit.jump]
        go_ret3
        rw [fin_form hG HX ‹_› ‹_›]
        exact ⟨rfl, rfl⟩
      · simp only [Exit.jump]
        go_ret3
        have hx0 : x = 0 := by assumption
        have hi0 : ¬ 0 < i := by assumption
        rw [fin_last hG HX ‹_› (by omega)]
        have ha := acc_eq (x := 0) hi (by omega) hs
        refine ⟨?_, rfl⟩
        subst hx0
        simp only [gv]
        rw [show ((p : Int) + ((i : Int) + 1)) = ((p + (i + 1) : Nat) : Int) from by omega]
        exact congrArg (fun v : Int => Ending.returned (.tuple #[.int .i64 v, .int .i64 ((p + (i + 1) : Nat) : Int), .int .i64 0])) ha
      · simp only [Exit.jump]
        go_ret3
        have hx0 : ¬ x = 0 := by assumption
        rw [fin_last hG HX ‹_› (by omega)]
        have ha := acc_eq hi hx8 hs
        refine ⟨?_, rfl⟩
        simp only [gv]
        rw [show ((p : Int) + ((i : Int) + 1)) = ((p + (i + 1) : Nat) : Int) from by omega]
        exact congrArg (fun v : Int => Ending.returned (.tuple #[.int .i64 v, .int .i64 ((p + (i + 1) : Nat) : Int), .int .i64 0])) ha

set_option maxRecDepth 100000 in
set_option maxHeartbeats 400000 in
theorem get_bad (A : Option Addr) (n c : Nat) (p : Int) (w : World) (h : p < 0 ∨ (n : Int) < p) :
    Calls Try.prog 19 #[.slice A n c, .int .i64 p] w fun e w' => e = .returned (.tuple #[.int .i64 0, .int .i64 0, .int .i64 1]) ∧ w = w' := by
  by_cases h2 : p < 0
  · clear h
    go_enter Try.func19, Try.ntmps19
    go_wp2
    go_step3
    go_wp2
    rw [Exit.noGoto_ret]
    go_ret3
    exact ⟨rfl, rfl⟩
  · have h3 : (n : Int) < p := by omega
    clear h
    go_enter Try.func19, Try.ntmps19
    go_wp2
    go_step3
    go_wp2
    rw [Exit.noGoto_ret]
    go_ret3
    exact ⟨rfl, rfl⟩

/-- wire.GetNum: what the document says -/
theorem get_all (B : Nat) (A : Option Addr) (b : List UInt8) (c : Nat) (p : Int) (w : World) (hb : b.length ≤ 140737488355328) (hr : Reads w B 1 A b.length (bvs b)) :
    Calls Try.prog 19 #[.slice A b.length c, .int .i64 p] w fun e w' => e = .returned (gv (W.gnum b p)) ∧ w = w' := by
  by_cases h : p < 0 ∨ (b.length : Int) < p
  · refine (get_bad A b.length c p w h).mono fun e w' hh => ?_
    unfold W.gnum
    rw [if_pos h]
    exact hh
  · obtain ⟨q, rfl⟩ := Int.eq_ofNat_of_zero_le (show 0 ≤ p by omega)
    exact get_any B A b c q w (by omega) hb hr
end Go.Proofs.Ytdhgobflbacgbaa

