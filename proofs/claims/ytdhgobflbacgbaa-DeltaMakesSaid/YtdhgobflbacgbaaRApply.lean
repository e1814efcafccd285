/- The document's Apply, at every bytes. -/
import Derived.Test.YtdhgobflbacgbaaRPiece
import Derived.Deep.LoopGhost
namespace Go.Proofs.Ytdhgobflbacgbaa
open Go.RowKit

set_option maxRecDepth 100000 in
set_option maxHeartbeats 1000000 in
theorem rapply_loop (base d : List UInt8) (w : World) (hd : d.length ≤ 140737488355000) (hb : base.length ≤ 4096) (x size y : Nat) (h1 : W.gnum d 0 = (base.length, x, 0)) (h2 : W.gnum d x = (size, y, 0)) (hs : size ≤ 4096) {q : List UInt8} {z : Nat} (h : E.app base d size y [] = (q, z)) :
    Calls Try.prog 39 #[.string (bs base), .string (bs d)] w fun r w' => r = .returned (.tuple #[.string (bs q), .int .i64 z]) ∧ w = w' := by
  have hc1 := hide fun w0 => rget_bs d 0 w0 (by omega) h1
  have hc2 := hide fun w0 => rget_bs d x w0 (by omega) h2
  have hy := (W.gnum_ok h2).2.2.1
  have hsz : (bs base).size = base.length := bs_size base
  have e1 : ¬ (4096 : Int) < (bs base).size := by omega
  have e2 : ((base.length : Int) != (bs base).size) = false := by rw [hsz]; simp
  have e3 : ¬ (4096 : Int) < size := by omega
  have hdz : (bs d).size = d.length := bs_size d
  have HZ := hide hdz
  clear h1 h2 hsz hdz
  replace h := hide h
  go_enter Try.func39, Try.ntmps39
  go_wp2_with fail
  refine (unhide hc1 _).mono ?_
  rintro e w1 ⟨rfl, rfl⟩
  go_wp2_with fail
  refine (unhide hc2 _).mono ?_
  rintro e w1 ⟨rfl, rfl⟩
  go_wp2_with fail
  go_loopg [10, 12, 13, 14, 15] size (fun k next out _ _ _ wr => wr = w ∧ ∃ (p : Nat) (o : List UInt8), next = .int .i64 p ∧ out = .string (bs o) ∧ E.app base d size p o = (q, z) ∧ size ≤ k + o.length ∧ p ≤ d.length ∧ o.length ≤ 4096)
  case atStart => exact ⟨rfl, y, [], rfl, rfl, unhide h, by simp, hy, by simp⟩
  case round =>
    obtain ⟨rfl, p, o, rfl, rfl, ha, hk, hp, ho⟩ := hrel
    have hoz : (bs o).size = o.length := bs_size o
    by_cases hlt : o.length < size
    · have e4 : ((bs o).size : Int) < size := by omega
      have e5 : IntKind.i64.wrap ((size : Int) - (bs o).size) = ((size - o.length : Nat) : Int) := by rw [hoz, IntWalk.i64_in _ (by omega)]; omega
      have e5' : (size : Int) - (bs o).size = ((size - o.length : Nat) : Int) := by rw [hoz]; omega
      obtain ⟨s, t, u, hpi⟩ : ∃ s t u, E.piece base d p (size - o.length) = (s, t, u) := ⟨_, _, _, rfl⟩
      have hpc1 := hide (piece_any base d p (size - o.length) wr (by omega) (by omega) hpi)
      by_cases hu : u = 0
      · subst hu
        have hl := E.piece_len hpi
        rw [E.app_step hlt hpi] at ha
        have hadd := fun w0 => str_add w0 o s (by omega)
        have HR := hide (show E.app base d size t (o ++ s) = (q, z) ∧ size ≤ (gk - s.length) + (o ++ s).length ∧ t ≤ d.length ∧ (o ++ s).length ≤ 4096 from ⟨ha, by simp; omega, hl.2.2, by simp; omega⟩)
        have hks : gk - s.length < gk := by omega
        replace hks := hide hks
        clear ha hoz hpi hl
        go_wp2_with fail
        refine (unhide hpc1).mono ?_
        rintro e w1 ⟨rfl, rfl⟩
        go_wp2_with fail
        go_roundg (gk - s.length)
        case measure => exact unhide hks
        case rel => exact ⟨rfl, t, o ++ s, rfl, rfl, unhide HR⟩
      · rw [E.app_err hlt (by rw [hpi]; exact hu), hpi] at ha
        simp only [Prod.mk.injEq] at ha
        obtain ⟨rfl, rfl⟩ := ha
        have hu' : ((u : Int) != 0) = true := by rw [bne_iff_ne]; omega
        clear hpi hu hoz
        go_wp2_with fail
        refine (unhide hpc1).mono ?_
        rintro e w1 ⟨rfl, rfl⟩
        go_wp2_with fail
        go_ret2
        exact ⟨rfl, rfl⟩
    · have e4 : ¬ ((bs o).size : Int) < size := by omega
      rw [E.app_done (by omega)] at ha
      by_cases hpd : p = d.length
      · rw [if_neg (by omega)] at ha
        simp only [Prod.mk.injEq] at ha
        obtain ⟨rfl, rfl⟩ := ha
        have e5 : ((p : Int) != (bs d).size) = false := by rw [unhide HZ, hpd]; simp
        clear hpd hoz
        go_wp2_with fail
        go_ret2
        exact ⟨rfl, rfl⟩
      · rw [if_pos (by omega)] at ha
        simp only [Prod.mk.injEq] at ha
        obtain ⟨rfl, rfl⟩ := ha
        have e5 : ((p : Int) != (bs d).size) = true := by rw [unhide HZ, bne_iff_ne]; omega
        clear hpd hoz
        go_wp2_with fail
        go_ret2
        exact ⟨rfl, rfl⟩

set_option maxRecDepth 100000 in
set_option maxHeartbeats 400000 in
theorem rapply_long (base d : List UInt8) (w : World) (hb : 4096 < base.length) (hb2 : base.length ≤ 140737488355328) :
    Calls Try.prog 39 #[.string (bs base), .string (bs d)] w fun r w' => r = .returned (.tuple #[.string ⟨#[]⟩, .int .i64 3]) ∧ w = w' := by
  have hsz : (bs base).size = base.length := bs_size base
  have e1 : (4096 : Int) < (bs base).size := by omega
  clear hsz
  go_enter Try.func39, Try.ntmps39
  go_wp2_with fail
  go_ret2
  exact ⟨rfl, rfl⟩

set_option maxRecDepth 100000 in
set_option maxHeartbeats 400000 in
theorem rapply_bad1 (base d : List UInt8) (w : World) (e : Nat) (hb : base.length ≤ 4096) (hd : d.length ≤ 140737488355328) (h1 : W.gnum d 0 = (0, 0, e)) (he : e ≠ 0) :
    Calls Try.prog 39 #[.string (bs base), .string (bs d)] w fun r w' => r = .returned (.tuple #[.string ⟨#[]⟩, .int .i64 e]) ∧ w = w' := by
  have hsz : (bs base).size = base.length := bs_size base
  have e1 : ¬ (4096 : Int) < (bs base).size := by omega
  have hc1 := hide fun w0 => rget_bs d 0 w0 hd h1
  have he' : ((e : Int) != 0) = true := by rw [bne_iff_ne]; omega
  clear hsz he h1
  go_enter Try.func39, Try.ntmps39
  go_wp2_with fail
  refine (unhide hc1 _).mono ?_
  rintro e w1 ⟨rfl, rfl⟩
  go_wp2_with fail
  go_ret2
  exact ⟨rfl, rfl⟩

set_option maxRecDepth 100000 in
set_option maxHeartbeats 400000 in
theorem rapply_bad2 (base d : List UInt8) (w : World) (n x : Nat) (hb : base.length ≤ 4096) (hd : d.length ≤ 140737488355328) (h1 : W.gnum d 0 = (n, x, 0)) (hn : n ≠ base.length) :
    Calls Try.prog 39 #[.string (bs base), .string (bs d)] w fun r w' => r = .returned (.tuple #[.string ⟨#[]⟩, .int .i64 1]) ∧ w = w' := by
  have hsz : (bs base).size = base.length := bs_size base
  have e1 : ¬ (4096 : Int) < (bs base).size := by omega
  have hc1 := hide fun w0 => rget_bs d 0 w0 hd h1
  have he' : ((n : Int) != (bs base).size) = true := by rw [hsz, bne_iff_ne]; omega
  clear hsz hn h1
  go_enter Try.func39, Try.ntmps39
  go_wp2_with fail
  refine (unhide hc1 _).mono ?_
  rintro e w1 ⟨rfl, rfl⟩
  go_wp2_with fail
  go_ret2
  exact ⟨rfl, rfl⟩

set_option maxRecDepth 100000 in
set_option maxHeartbeats 400000 in
theorem rapply_bad3 (base d : List UInt8) (w : World) (x e : Nat) (hb : base.length ≤ 4096) (hd : d.length ≤ 140737488355328) (h1 : W.gnum d 0 = (base.length, x, 0)) (h2 : W.gnum d x = (0, 0, e)) (he : e ≠ 0) :
    Calls Try.prog 39 #[.string (bs base), .string (bs d)] w fun r w' => r = .returned (.tuple #[.string ⟨#[]⟩, .int .i64 e]) ∧ w = w' := by
  have hsz : (bs base).size = base.length := bs_size base
  have e1 : ¬ (4096 : Int) < (bs base).size := by omega
  have hc1 := hide fun w0 => rget_bs d 0 w0 hd h1
  have hc2 := hide fun w0 => rget_bs d x w0 hd h2
  have he' : ((base.length : Int) != (bs base).size) = false := by rw [hsz]; simp
  have he2 : ((e : Int) != 0) = true := by rw [bne_iff_ne]; omega
  clear hsz h1 h2 he
  go_enter Try.func39, Try.ntmps39
  go_wp2_with fail
  refine (unhide hc1 _).mono ?_
  rintro e w1 ⟨rfl, rfl⟩
  go_wp2_with fail
  refine (unhide hc2 _).mono ?_
  rintro e w1 ⟨rfl, rfl⟩
  go_wp2_with fail
  go_ret2
  exact ⟨rfl, rfl⟩

set_option maxRecDepth 100000 in
set_option maxHeartbeats 400000 in
theorem rapply_bad4 (base d : List UInt8) (w : World) (x n y : Nat) (hb : base.length ≤ 4096) (hd : d.length ≤ 140737488355328) (h1 : W.gnum d 0 = (base.length, x, 0)) (h2 : W.gnum d x = (n, y, 0)) (hn : 4096 < n) :
    Calls Try.prog 39 #[.string (bs base), .string (bs d)] w fun r w' => r = .returned (.tuple #[.string ⟨#[]⟩, .int .i64 3]) ∧ w = w' := by
  have hsz : (bs base).size = base.length := bs_size base
  have e1 : ¬ (4096 : Int) < (bs base).size := by omega
  have hc1 := hide fun w0 => rget_bs d 0 w0 hd h1
  have hc2 := hide fun w0 => rget_bs d x w0 hd h2
  have he' : ((base.length : Int) != (bs base).size) = false := by rw [hsz]; simp
  have he2 : (4096 : Int) < n := by omega
  clear hsz h1 h2
  go_enter Try.func39, Try.ntmps39
  go_wp2_with fail
  refine (unhide hc1 _).mono ?_
  rintro e w1 ⟨rfl, rfl⟩
  go_wp2_with fail
  refine (unhide hc2 _).mono ?_
  rintro e w1 ⟨rfl, rfl⟩
  go_wp2_with fail
  go_ret2
  exact ⟨rfl, rfl⟩

/-- what Apply's ways are -/
theorem apply_ways {base d : List UInt8} {q : List UInt8} {z : Nat} (h : E.apply base d = (q, z)) :
    (4096 < base.length ∧ q = [] ∧ z = 3) ∨
    (base.length ≤ 4096 ∧ ((W.gnum d 0 = (0, 0, z) ∧ z ≠ 0 ∧ q = []) ∨
      (∃ n x, W.gnum d 0 = (n, x, 0) ∧ n ≠ base.length ∧ q = [] ∧ z = 1) ∨
      (∃ x, W.gnum d 0 = (base.length, x, 0) ∧ ((W.gnum d x = (0, 0, z) ∧ z ≠ 0 ∧ q = []) ∨
        (∃ n y, W.gnum d x = (n, y, 0) ∧ ((4096 < n ∧ q = [] ∧ z = 3) ∨ (n ≤ 4096 ∧ E.app base d n y [] = (q, z)))))))) := by
  unfold E.apply at h
  by_cases h0 : 4096 < base.length
  · rw [if_pos h0] at h
    simp only [Prod.mk.injEq] at h
    exact .inl ⟨h0, h.1.symm, h.2.symm⟩
  · rw [if_neg h0] at h
    refine .inr ⟨by omega, ?_⟩
    obtain ⟨n, x, e, hg⟩ : ∃ n x e, W.gnum d 0 = (n, x, e) := ⟨_, _, _, rfl⟩
    have he := W.gnum_err (b := d) (p := 0)
    rw [hg] at h he
    simp only at h he
    by_cases h1 : e = 0
    · subst h1
      simp only [ne_eq, not_true, if_false] at h
      by_cases h2 : n = base.length
      · subst h2
        simp only [not_true, if_false] at h
        refine .inr (.inr ⟨x, hg, ?_⟩)
        obtain ⟨m, y, e, hf⟩ : ∃ n z e, W.gnum d x = (n, z, e) := ⟨_, _, _, rfl⟩
        have he := W.gnum_err (b := d) (p := x)
        rw [hf] at h he
        simp only at h he
        by_cases h3 : e = 0
        · subst h3
          simp only [not_true, if_false] at h
          refine .inr ⟨m, y, hf, ?_⟩
          by_cases h4 : 4096 < m
          · rw [if_pos h4] at h
            simp only [Prod.mk.injEq] at h
            exact .inl ⟨h4, h.1.symm, h.2.symm⟩
          · rw [if_neg h4] at h
            exact .inr ⟨by omega, h⟩
        · rw [if_pos h3] at h
          simp only [Prod.mk.injEq] at h
          obtain ⟨rfl, rfl⟩ := h
          exact .inl ⟨hf.trans (he h3), h3, rfl⟩
      · rw [if_pos h2] at h
        simp only [Prod.mk.injEq] at h
        exact .inr (.inl ⟨n, x, hg, h2, h.1.symm, h.2.symm⟩)
    · rw [if_pos h1] at h
      simp only [Prod.mk.injEq] at h
      obtain ⟨rfl, rfl⟩ := h
      exact .inl ⟨hg.trans (he h1), h1, rfl⟩

/-- recensionref05.Apply: what the document says -/
theorem rapply_any (base d : List UInt8) (w : World) (hd : d.length ≤ 140737488355000) (hb2 : base.length ≤ 140737488355328) {q : List UInt8} {z : Nat} (h : E.apply base d = (q, z)) :
    Calls Try.prog 39 #[.string (bs base), .string (bs d)] w fun r w' => r = .returned (.tuple #[.string (bs q), .int .i64 z]) ∧ w = w' := by
  rcases apply_ways h with ⟨h0, rfl, rfl⟩ | ⟨h0, ⟨h1, hz, rfl⟩ | ⟨n, x, h1, hn, rfl, rfl⟩ | ⟨x, h1, ⟨h2, hz, rfl⟩ | ⟨n, y, h2, ⟨hn, rfl, rfl⟩ | ⟨hn, ha⟩⟩⟩⟩
  · exact rapply_long base d w h0 hb2
  · exact rapply_bad1 base d w z h0 (by omega) h1 hz
  · exact rapply_bad2 base d w n x h0 (by omega) h1 hn
  · exact rapply_bad3 base d w x z h0 (by omega) h1 h2 hz
  · exact rapply_bad4 base d w x n y h0 (by omega) h1 h2 hn
  · exact rapply_loop base d w hd h0 x n y h1 h2 hn ha
end Go.Proofs.Ytdhgobflbacgbaa
