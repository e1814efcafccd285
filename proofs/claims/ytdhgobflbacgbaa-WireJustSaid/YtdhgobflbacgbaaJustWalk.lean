/- The walk of the statement WireJust: it returns true, at every bytes (at most 2^47 - 4096) and place. -/
import Derived.Test.YtdhgobflbacgbaaJust
import Derived.Test.YtdhgobflbacgbaaList
import Derived.Test.YtdhgobflbacgbaaGList
import Derived.Test.YtdhgobflbacgbaaNumsWalk
import Derived.Deep.RegionHeld3
import Derived.Deep.DeepCutAuto
import Derived.Deep.QuietTactic
import Derived.BigQuiet
import Derived.StillTailTactics
namespace Go.Proofs.Ytdhgobflbacgbaa
open Go.RowKit

/-- a piece of a slice of bytes made a string, in whatever world comes behind the one in which it was read -/
theorem piece_conv {w w1 : World} {A : Option Addr} {b : List UInt8} {n c q x B : Nat} (hn : b.length = n) (hqx : q < x) (hx : x ≤ n) (hc : n ≤ c) (hr : Reads w B 1 A n (bvs b)) (hb : Below B w w1) :
    (convert 22 9 (.slice (A.map (·.add q)) (x - q) (c - q))).run Try.prog w1 = .ok (.string (bs ((b.drop q).take (x - q)))) w1 := by
  have h := reads_mid (k := q) (n := x - q) (cap := c) hr (by omega) hc
  rw [if_neg (by omega)] at h
  exact conv_later (by simp; omega) h hb

theorem below_redrewJ {B : Nat} {w w' : World} {j k : Nat} (h : Below B w (w'.drewN j)) : Below B w (w'.drewN k) := ⟨h.os, h.tape, h.output, h.size, h.block⟩

theorem reads_nowJ {w w0 : World} {size n : Nat} {A : Option Addr} {xs : List Value} (h : Reads w w.heap.size size A n xs) (hb : Below w.heap.size w w0) : Reads w0 w0.heap.size size A n xs := (h.below hb).more hb.size

theorem bel_t2 {w w1 w2 : World} (h1 : Below w.heap.size w w1) (h2 : Below w1.heap.size w1 w2) : Below w.heap.size w w2 := h1.trans (h2.mono h1.size)

set_option maxRecDepth 100000 in
set_option maxHeartbeats 2000000 in
theorem wireJust_walk (A : Option Addr) (b : List UInt8) (n c : Nat) (p : Int) (w : World) (hn : b.length = n) (hb : n ≤ 140737488351232) (hc : n ≤ c) (hr : Reads w w.heap.size 1 A n (bvs b)) :
    Calls Try.prog 11 #[.slice A n c, .int .i64 p] w fun e w' => e = .returned (.bool true) ∧ Below w.heap.size w w' := by
  obtain ⟨v, x, e, hg⟩ : ∃ v x e, W.gnum b p = (v, x, e) := ⟨_, _, _, rfl⟩
  have h1 := hide (get_eq _ A b n c p w hn (by omega) hr (x := v) (y := x) (z := e) (by rw [hg]; rfl))
  have hpc := hide (fun q y w1 h1 h2 h3 => piece_conv (w := w) (w1 := w1) (q := q) (x := y) hn h1 h2 hc hr h3)
  have HG := hide hg
  clear hg
  replace hn := hide hn
  go_enter Try.func11, Try.ntmps11
  go_upto_if 20 with (go_at_call 19; refine (unhide h1).mono ?_; rintro e1 w1 ⟨rfl, rfl⟩)
  go_cut [6] (fun _ wx => Below w.heap.size w wx)
  case first =>
    by_cases he : e = 0
    · subst he
      have hg := unhide HG
      have hj := W.gnum_just hg
      obtain ⟨hp0, hpx, hxb, hv⟩ := W.gnum_ok hg
      obtain ⟨q, rfl⟩ := Int.eq_ofNat_of_zero_le hp0
      rw [Int.toNat_natCast] at hj
      have hxn : x ≤ n := by have := unhide hn; omega
      have hqx : q < x := by omega
      have hnm := hide (num_any v w hv)
      have hcb := fun w1 h => (unhide hpc) q x w1 hqx hxn h
      rw [← hj] at hcb
      generalize W.num v = T at *
      clear hg hj
      go_wp2_with (go_at_call 23; refine (unhide hnm).mono ?_; rintro e2 w2 ⟨A2, c2, rfl, hown, hb2⟩)
      have hcx := fun w0 hb => conv_later (w1 := w0) (c := c2) rfl (Reads.of_own hown) hb
      replace hcb := fun w0 (hb : Below w2.heap.size w2 w0) => hcb w0 (bel_t2 hb2 hb)
      clear hown
      have hd1 : decide ((x : Int) ≤ (q : Int)) = false := decide_eq_false (by omega)
      have hd2 : decide ((n : Int) < (x : Int)) = false := decide_eq_false (by omega)
      have hd3 : ¬ ((x : Int) ≤ (q : Int)) := by omega
      have hd4 : ¬ ((n : Int) < (x : Int)) := by omega
      go_region_held (fun w0 => Below w2.heap.size w2 w0) (first | exact (Below.refl _ _).drew | assumption | exact below_drewN (by assumption) _) (fail)
      all_goals (go_wp2_with fail)
      all_goals go_meet
      all_goals exact bel_t2 hb2 (by assumption)
    · have he' : ((e : Int) == 0) = false := by rw [beq_eq_false_iff_ne]; omega
      go_wp2_with fail
      go_meet
      exact Below.refl _ _
  case rest =>
    clear h1 HG
    obtain ⟨s, x2, e2, hg2⟩ : ∃ s x e, W.gtext b p = (s, x, e) := ⟨_, _, _, rfl⟩
    have hrc : Reads wc w.heap.size 1 A n (bvs b) := hr.below hcut
    have h2 := gtext_any w.heap.size A b c p wc (by have := unhide hn; omega) (by have := unhide hn; omega) (by rw [unhide hn]; exact hrc)
    rw [hg2, unhide hn] at h2
    replace h2 : Calls Try.prog 26 #[.slice A n c, .int .i64 p] wc fun e w' => e = .returned (.tuple #[.string (bs s), .int .i64 x2, .int .i64 e2]) ∧ wc = w' := h2
    replace h2 := hide h2
    have HG := hide hg2
    clear hg2 hrc
    go_upto_region 7 with (go_at_call 26; refine (unhide h2).mono ?_; rintro e1 w1 ⟨rfl, rfl⟩)
    go_cut [79] (fun s wx => s = .bool false ∧ Below w.heap.size w wx)
    case first =>
      by_cases he : e2 = 0
      · subst he
        have hg := unhide HG
        have hj := W.gtext_just hg
        obtain ⟨hp0, hpx, hxb⟩ := W.gtext_ok hg
        obtain ⟨q, rfl⟩ := Int.eq_ofNat_of_zero_le hp0
        rw [Int.toNat_natCast] at hj
        have hxn : x2 ≤ n := by have := unhide hn; omega
        have hqx : q < x2 := by omega
        have hsl : s.length ≤ n := by
          have h1 : (W.text s).length = (W.num s.length).length + s.length := by simp [W.text]
          rw [hj] at h1
          have := unhide hn
          simp only [List.length_take, List.length_drop] at h1
          omega
        have hnm := hide (fun w0 => text_any (bs s) w0 (by rw [bs_size]; omega))
        rw [bs_data] at hnm
        have hcb := fun w1 h => (unhide hpc) q x2 w1 hqx hxn h
        rw [← hj] at hcb
        generalize W.text s = T at *
        clear hg hj
        replace hcb := fun w0 (hb : Below wc.heap.size wc w0) => hcb w0 (bel_t2 hcut hb)
        have hd1 : decide ((x2 : Int) ≤ (q : Int)) = false := decide_eq_false (by omega)
        have hd2 : decide ((n : Int) < (x2 : Int)) = false := decide_eq_false (by omega)
        have hd3 : ¬ ((x2 : Int) ≤ (q : Int)) := by omega
        have hd4 : ¬ ((n : Int) < (x2 : Int)) := by omega
        go_region_held (fun w0 => Below wc.heap.size wc w0) (first | exact (Below.refl _ _).drew | assumption | exact below_redrewJ (by assumption) | exact bel_t2 (by assumption) (by assumption) | exact below_drewN (by assumption) _) (first
          | (go_at_call 28; refine ((unhide hnm) _).mono ?_; rintro e4 w4 ⟨A4, c4, rfl, hown4, hb4⟩; have hcv2 := fun w0 hb => conv_later (w1 := w0) (c := c4) rfl (Reads.of_own hown4) hb; have hcv3 := hcv2 _ (Below.refl _ _); clear hown4))
        all_goals (go_wp2_with fail)
        all_goals go_meet
        all_goals exact ⟨rfl, bel_t2 hcut (by assumption)⟩
      · have he' : ((e2 : Int) == 0) = false := by rw [beq_eq_false_iff_ne]; omega
        replace he := hide he
        go_quiet (fail)
        all_goals (go_wp2_with fail)
        all_goals go_meet
        all_goals first | exact ⟨rfl, hcut.drew⟩ | exact ⟨rfl, below_drewN hcut _⟩ | exact ⟨rfl, hcut⟩
    case rest =>
      obtain ⟨rfl, hcut2⟩ := hcut
      clear h2 HG
      obtain ⟨t, x3, e3, hg3⟩ : ∃ s x e, W.glist b p = (s, x, e) := ⟨_, _, _, rfl⟩
      have hrd : Reads wc wc.heap.size 1 A n (bvs b) := (hr.below hcut2).more hcut2.size
      have h3 := glist_any A b c p wc (by have := unhide hn; omega) (by have := unhide hn; omega) (by rw [unhide hn]; exact hrd)
      unfold LPost at h3
      rw [hg3, unhide hn] at h3
      simp only at h3
      replace h3 := hide h3
      have HG := hide hg3
      clear hg3 hrd
      go_upto_region 10 with (go_at_call 30; refine (unhide h3).mono ?_; rintro e1 w1 ⟨A5, c5, rfl, hown5, hb5⟩)
      have hb15 := bel_t2 hcut2 hb5
      by_cases he : e3 = 0
      · subst he
        obtain ⟨hp0, hpx, hxb, ht17, hj⟩ := W.glist_just (unhide HG)
        obtain ⟨q, rfl⟩ := Int.eq_ofNat_of_zero_le hp0
        rw [Int.toNat_natCast] at hj
        have hxn : x3 ≤ n := by have := unhide hn; omega
        have hqx : q < x3 := by omega
        have hll : (W.list t).length ≤ n := by
          rw [hj]
          have := unhide hn
          simp only [List.length_take, List.length_drop]
          omega
        generalize htk : t.length = k at *
        have ho5 := hide (Reads.of_own hown5)
        have tx := hide (fun w0 h0 => list_big A5 t k c5 w0 htk (by omega) (by omega) h0)
        have hcb := fun w1 h => (unhide hpc) q x3 w1 hqx hxn h
        rw [← hj] at hcb
        generalize W.list t = T at *
        generalize svs t = sl at *
        clear hj hown5 hll ht17 htk
        replace hcb := fun w0 (hb : Below w1.heap.size w1 w0) => hcb w0 (bel_t2 hb15 hb)
        have hd1 : decide ((q : Int) < (x3 : Int)) = true := decide_eq_true (by omega)
        have hd2 : decide ((x3 : Int) ≤ (n : Int)) = true := decide_eq_true (by omega)
        have hd3 : ((q : Int) < (x3 : Int)) := by omega
        have hd4 : ((x3 : Int) ≤ (n : Int)) := by omega
        go_region_held (fun w0 => Below w1.heap.size w1 w0) (first | exact (Below.refl _ _).drew | assumption | exact below_redrewJ (by assumption) | exact bel_t2 (by assumption) (by assumption) | exact below_drewN (by assumption) _) (first
          | (go_at_call 32; refine ((unhide tx) _ ?_).mono ?_; exact reads_nowJ (unhide ho5) (by assumption); rintro e4 w4 ⟨A4, c4, rfl, hown4, hb4⟩; have hcv2 := fun w0 hb => conv_later (w1 := w0) (c := c4) rfl (Reads.of_own hown4) hb; have hcv3 := hcv2 _ (Below.refl _ _); clear hown4)
          | (go_at_call 22; refine (alive_any _).mono ?_; rintro e8 w8 ⟨rfl, hb8⟩))
        all_goals (go_wp2_with fail)
        all_goals go_ret
        all_goals exact ⟨rfl, bel_t2 hb15 (by assumption)⟩
      · have he' : ((e3 : Int) != 0) = true := by rw [bne_iff_ne]; omega
        replace he := hide he
        clear hown5
        refine wp_region_held_drew (S := fun w0 => Below w1.heap.size w1 w0) (by kernel_rfl) (Below.refl _ _).drew (fun hHeld => ?_)
        refine wpAnyH_take (i := 0) (oi := _) (v := ?_) rfl (by kernel_rfl) (by kernel_rfl) (by kernel_rfl) (fun _ _ _ h => h) (Or.inl ⟨by rfl, ?_⟩) (by assumption) ?_
        rotate_left
        · intro w hSw; (try dsimp only at hSw); go_simp; (try with_reducible rfl)
        try simp only [Act.put, List.setIfInBounds_toArray, List.set_cons_zero, List.set_cons_succ]
        refine wpAnyH_take (i := 1) (oi := _) (v := ?_) rfl (by kernel_rfl) (by kernel_rfl) (by kernel_rfl) (fun _ _ _ h => h) (Or.inl ⟨by rfl, ?_⟩) (by assumption) ?_
        rotate_left
        · intro w hSw; (try dsimp only at hSw); go_simp; (try with_reducible rfl)
        try simp only [Act.put, List.setIfInBounds_toArray, List.set_cons_zero, List.set_cons_succ]
        refine wpAnyH_take (i := 2) (oi := _) (v := ?_) rfl (by kernel_rfl) (by kernel_rfl) (by kernel_rfl) (fun _ _ _ h => h) (Or.inl ⟨by rfl, ?_⟩) (by assumption) ?_
        rotate_left
        · intro w hSw; (try dsimp only at hSw); go_simp; (try with_reducible rfl)
        try simp only [Act.put, List.setIfInBounds_toArray, List.set_cons_zero, List.set_cons_succ]
        refine wpAnyH_take (i := 3) (oi := _) (v := undef) rfl (by kernel_rfl) (by kernel_rfl) (by kernel_rfl) (fun _ _ _ h => h) (Or.inr ⟨by kernel_rfl, rfl⟩) (by assumption) ?_
        try simp only [Act.put, List.setIfInBounds_toArray, List.set_cons_zero, List.set_cons_succ]
        refine wpAnyH_take (i := 4) (oi := _) (v := undef) rfl (by kernel_rfl) (by kernel_rfl) (by kernel_rfl) (fun _ _ _ h => h) (Or.inr ⟨by kernel_rfl, rfl⟩) (by assumption) ?_
        try simp only [Act.put, List.setIfInBounds_toArray, List.set_cons_zero, List.set_cons_succ]
        refine wpAnyH_take (i := 5) (oi := _) (v := undef) rfl (by kernel_rfl) (by kernel_rfl) (by kernel_rfl) (fun _ _ _ h => h) (Or.inr ⟨by kernel_rfl, rfl⟩) (by assumption) ?_
        try simp only [Act.put, List.setIfInBounds_toArray, List.set_cons_zero, List.set_cons_succ]
        refine wpAnyH_take (i := 6) (oi := _) (v := undef) rfl (by kernel_rfl) (by kernel_rfl) (by kernel_rfl) (fun _ _ _ h => h) (Or.inr ⟨by kernel_rfl, rfl⟩) (by assumption) ?_
        try simp only [Act.put, List.setIfInBounds_toArray, List.set_cons_zero, List.set_cons_succ]
        refine wpAnyH_take (i := 7) (oi := _) (v := undef) rfl (by kernel_rfl) (by kernel_rfl) (by kernel_rfl) (fun _ _ _ h => h) (Or.inr ⟨by kernel_rfl, rfl⟩) (by assumption) ?_
        try simp only [Act.put, List.setIfInBounds_toArray, List.set_cons_zero, List.set_cons_succ]
        refine wpAnyH_take (i := 8) (oi := _) (v := undef) rfl (by kernel_rfl) (by kernel_rfl) (by kernel_rfl) (fun _ _ _ h => h) (Or.inr ⟨by kernel_rfl, rfl⟩) (by assumption) ?_
        try simp only [Act.put, List.setIfInBounds_toArray, List.set_cons_zero, List.set_cons_succ]
        refine wpAnyH_take (i := 9) (oi := _) (v := undef) rfl (by kernel_rfl) (by kernel_rfl) (by kernel_rfl) (fun _ _ _ h => h) (Or.inr ⟨by kernel_rfl, rfl⟩) (by assumption) ?_
        try simp only [Act.put, List.setIfInBounds_toArray, List.set_cons_zero, List.set_cons_succ]
        refine wpAnyH_take (i := 10) (oi := _) (v := undef) rfl (by kernel_rfl) (by kernel_rfl) (by kernel_rfl) (fun _ _ _ h => h) (Or.inr ⟨by kernel_rfl, rfl⟩) (by assumption) ?_
        try simp only [Act.put, List.setIfInBounds_toArray, List.set_cons_zero, List.set_cons_succ]
        refine wpAnyH_take (i := 11) (oi := _) (v := undef) rfl (by kernel_rfl) (by kernel_rfl) (by kernel_rfl) (fun _ _ _ h => h) (Or.inr ⟨by kernel_rfl, rfl⟩) (by assumption) ?_
        try simp only [Act.put, List.setIfInBounds_toArray, List.set_cons_zero, List.set_cons_succ]
        refine wpAnyH_take (i := 12) (oi := _) (v := undef) rfl (by kernel_rfl) (by kernel_rfl) (by kernel_rfl) (fun _ _ _ h => h) (Or.inr ⟨by kernel_rfl, rfl⟩) (by assumption) ?_
        try simp only [Act.put, List.setIfInBounds_toArray, List.set_cons_zero, List.set_cons_succ]
        refine wpAnyH_take (i := 13) (oi := _) (v := undef) rfl (by kernel_rfl) (by kernel_rfl) (by kernel_rfl) (fun _ _ _ h => h) (Or.inr ⟨by kernel_rfl, rfl⟩) (by assumption) ?_
        try simp only [Act.put, List.setIfInBounds_toArray, List.set_cons_zero, List.set_cons_succ]
        refine wpAnyH_take (i := 14) (oi := _) (v := undef) rfl (by kernel_rfl) (by kernel_rfl) (by kernel_rfl) (fun _ _ _ h => h) (Or.inr ⟨by kernel_rfl, rfl⟩) (by assumption) ?_
        try simp only [Act.put, List.setIfInBounds_toArray, List.set_cons_zero, List.set_cons_succ]
        refine wpAnyH_take (i := 15) (oi := _) (v := undef) rfl (by kernel_rfl) (by kernel_rfl) (by kernel_rfl) (fun _ _ _ h => h) (Or.inr ⟨by kernel_rfl, rfl⟩) (by assumption) ?_
        try simp only [Act.put, List.setIfInBounds_toArray, List.set_cons_zero, List.set_cons_succ]
        refine wpAnyH_take (i := 16) (oi := _) (v := undef) rfl (by kernel_rfl) (by kernel_rfl) (by kernel_rfl) (fun _ _ _ h => h) (Or.inr ⟨by kernel_rfl, rfl⟩) (by assumption) ?_
        try simp only [Act.put, List.setIfInBounds_toArray, List.set_cons_zero, List.set_cons_succ]
        refine wpAnyH_take (i := 17) (oi := _) (v := undef) rfl (by kernel_rfl) (by kernel_rfl) (by kernel_rfl) (fun _ _ _ h => h) (Or.inr ⟨by kernel_rfl, rfl⟩) (by assumption) ?_
        try simp only [Act.put, List.setIfInBounds_toArray, List.set_cons_zero, List.set_cons_succ]
        refine wpAnyH_take (i := 18) (oi := _) (v := undef) rfl (by kernel_rfl) (by kernel_rfl) (by kernel_rfl) (fun _ _ _ h => h) (Or.inr ⟨by kernel_rfl, rfl⟩) (by assumption) ?_
        try simp only [Act.put, List.setIfInBounds_toArray, List.set_cons_zero, List.set_cons_succ]
        refine wpAnyH_take (i := 19) (oi := _) (v := undef) rfl (by kernel_rfl) (by kernel_rfl) (by kernel_rfl) (fun _ _ _ h => h) (Or.inr ⟨by kernel_rfl, rfl⟩) (by assumption) ?_
        try simp only [Act.put, List.setIfInBounds_toArray, List.set_cons_zero, List.set_cons_succ]
        refine wpAnyH_take (i := 20) (oi := _) (v := undef) rfl (by kernel_rfl) (by kernel_rfl) (by kernel_rfl) (fun _ _ _ h => h) (Or.inr ⟨by kernel_rfl, rfl⟩) (by assumption) ?_
        try simp only [Act.put, List.setIfInBounds_toArray, List.set_cons_zero, List.set_cons_succ]
        refine wpAnyH_take (i := 21) (oi := _) (v := undef) rfl (by kernel_rfl) (by kernel_rfl) (by kernel_rfl) (fun _ _ _ h => h) (Or.inr ⟨by kernel_rfl, rfl⟩) (by assumption) ?_
        try simp only [Act.put, List.setIfInBounds_toArray, List.set_cons_zero, List.set_cons_succ]
        refine wpAnyH_take (i := 22) (oi := _) (v := undef) rfl (by kernel_rfl) (by kernel_rfl) (by kernel_rfl) (fun _ _ _ h => h) (Or.inr ⟨by kernel_rfl, rfl⟩) (by assumption) ?_
        try simp only [Act.put, List.setIfInBounds_toArray, List.set_cons_zero, List.set_cons_succ]
        refine wpAnyH_take (i := 23) (oi := _) (v := ?_) rfl (by kernel_rfl) (by kernel_rfl) (by kernel_rfl) (fun _ _ _ h => h) (Or.inl ⟨by rfl, ?_⟩) (by assumption) ?_
        rotate_left
        · intro w hSw; (try dsimp only at hSw); go_simp; (try with_reducible rfl)
        try simp only [Act.put, List.setIfInBounds_toArray, List.set_cons_zero, List.set_cons_succ]
        refine wpAnyH_take (i := 24) (oi := _) (v := ?_) rfl (by kernel_rfl) (by kernel_rfl) (by kernel_rfl) (fun _ _ _ h => h) (Or.inl ⟨by rfl, ?_⟩) (by assumption) ?_
        rotate_left
        · intro w hSw; (try dsimp only at hSw); go_simp; (try with_reducible rfl)
        try simp only [Act.put, List.setIfInBounds_toArray, List.set_cons_zero, List.set_cons_succ]
        refine wpAnyH_ready (rs := [25]) (by kernel_rfl) (by simp) ?_
        refine AllReadyH.cons rfl (fun K hK => ?_) AllReadyH.nil
        go_simp
        go_wp2_with (go_at_call 22; refine (alive_any _).mono ?_; rintro e8 w8 ⟨rfl, hb8⟩)
        refine hK.out _ _ (bel_t2 (by assumption) hb8) (fun hHeld => ?_)
        clear hK K
        refine wpAnyH_ready (rs := [26]) (by kernel_rfl) (by simp) ?_
        refine AllReadyH.cons rfl (fun K hK => ?_) AllReadyH.nil
        go_simp
        refine hK.out _ _ (by assumption) (fun hHeld => ?_)
        clear hK K
        refine wpAnyH_ready (rs := [27]) (by kernel_rfl) (by simp) ?_
        refine AllReadyH.cons rfl (fun K hK => ?_) AllReadyH.nil
        go_simp
        refine hK.out _ _ (by assumption) (fun hHeld => ?_)
        clear hK K
        refine wpAnyH_done (by kernel_rfl) ?_ _
        go_wp2_with fail
        go_ret
        exact ⟨rfl, bel_t2 hb15 (by assumption)⟩
end Go.Proofs.Ytdhgobflbacgbaa
