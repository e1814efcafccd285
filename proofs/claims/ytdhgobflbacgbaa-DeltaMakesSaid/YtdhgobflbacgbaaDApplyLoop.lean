/- delta.Apply: the loop, and all of it. -/
import Derived.Test.YtdhgobflbacgbaaDApply
namespace Go.Proofs.Ytdhgobflbacgbaa
open Go.RowKit

/-- what holds at the head of the loop -/
def ARel (w0 : World) (g : Nat) (base d : List UInt8) (D : Value) (size : Nat) (q : List UInt8) (z k : Nat) (out : Value) (wr : World) : Prop :=
  ∃ (p e : Nat) (o : List UInt8), St w0 wr g D p e out o ∧ ((e = 0 ∧ E.app base d size p o = (q, z) ∧ size + 1 ≤ k + o.length ∧ p ≤ d.length ∧ o.length ≤ size) ∨ (e ≠ 0 ∧ q = [] ∧ z = e))

theorem gnum_num_yes (g B : Nat) (Ad : Option Addr) (d : List UInt8) (nd cd p m y z : Nat) (hnd : d.length = nd) (hd : nd ≤ 140737488355000) (h : W.gnum d p = (m, y, z)) (w0 : World) (hr : Reads w0 B 1 Ad nd (bvs d)) (hb : Blk w0 g 66 #[.slice Ad nd cd, .int .i64 p, .int .i64 0]) :
    Calls Try.prog 42 #[.pointer (some ⟨g, 0, none⟩)] w0 fun e w' => e = .returned (.int .i64 m) ∧ Blk w' g 66 #[.slice Ad nd cd, .int .i64 y, .int .i64 z] ∧ w0.grownBy w' (some g) :=
  dnum_yes B g Ad d nd cd p m y z w0 hnd (by omega) hr hb h

/-- the ways of a piece that is refused -/
theorem piece_ways {base d s : List UInt8} {p lack x u : Nat} (h : E.piece base d p lack = (s, x, u)) (hu : u ≠ 0) :
    W.gnum d p = (0, 0, u) ∨ ∃ m y, W.gnum d p = (m, y, 0) ∧ (((m / 2 = 0 ∨ lack < m / 2) ∧ u = 7) ∨ (m / 2 ≠ 0 ∧ m / 2 ≤ lack ∧
      ((m % 2 = 0 ∧ d.length - y < m / 2 ∧ u = 8) ∨ (m % 2 ≠ 0 ∧ (W.gnum d y = (0, 0, u) ∨ ∃ f z, W.gnum d y = (f, z, 0) ∧ (base.length < f ∨ base.length - f < m / 2) ∧ u = 9))))) := by
  unfold E.piece at h
  obtain ⟨m, y, q, hg⟩ : ∃ m p' q, W.gnum d p = (m, p', q) := ⟨_, _, _, rfl⟩
  have he := W.gnum_err (b := d) (p := p)
  rw [hg] at h he
  simp only at h he
  by_cases h0 : q = 0
  · subst h0
    simp only [ne_eq, not_true, if_false] at h
    refine .inr ⟨m, y, hg, ?_⟩
    by_cases h1 : m / 2 = 0 ∨ lack < m / 2
    · rw [if_pos h1] at h
      simp only [Prod.mk.injEq] at h
      exact .inl ⟨h1, h.2.2.symm⟩
    · rw [if_neg h1] at h
      rw [not_or] at h1
      refine .inr ⟨h1.1, by omega, ?_⟩
      by_cases h2 : m % 2 = 0
      · rw [if_pos h2] at h
        by_cases h3 : d.length - y < m / 2
        · rw [if_pos h3] at h
          simp only [Prod.mk.injEq] at h
          exact .inl ⟨h2, h3, h.2.2.symm⟩
        · rw [if_neg h3] at h
          simp only [Prod.mk.injEq] at h
          exact absurd h.2.2.symm hu
      · rw [if_neg h2] at h
        refine .inr ⟨h2, ?_⟩
        obtain ⟨f, z, q, hf⟩ : ∃ f z q, W.gnum d y = (f, z, q) := ⟨_, _, _, rfl⟩
        have he := W.gnum_err (b := d) (p := y)
        rw [hf] at h he
        simp only at h he
        by_cases h3 : q = 0
        · subst h3
          simp only [not_true, if_false] at h
          by_cases h4 : base.length < f ∨ base.length - f < m / 2
          · rw [if_pos h4] at h
            simp only [Prod.mk.injEq] at h
            exact .inr ⟨f, z, hf, h4, h.2.2.symm⟩
          · rw [if_neg h4] at h
            simp only [Prod.mk.injEq] at h
            exact absurd h.2.2.symm hu
        · rw [if_pos h3] at h
          simp only [Prod.mk.injEq] at h
          obtain ⟨_, _, rfl⟩ := h
          exact .inl (hf.trans (he h3))
  · rw [if_pos h0] at h
    simp only [Prod.mk.injEq] at h
    obtain ⟨_, _, rfl⟩ := h
    exact .inl (hg.trans (he h0))

set_option maxRecDepth 100000 in
set_option maxHeartbeats 4000000 in
theorem apply_loop (Ab Ad : Option Addr) (base d : List UInt8) (nb cb nd cd : Nat) (w : World) (hnb : base.length = nb) (hb : nb ≤ 4096) (hcb : nb ≤ cb) (hnd : d.length = nd) (hd : nd ≤ 140737488355000) (hcd : nd ≤ cd)
    (hrb : Reads w w.heap.size 1 Ab nb (bvs base)) (hrd : Reads w w.heap.size 1 Ad nd (bvs d)) (x size y : Nat) (h1 : W.gnum d 0 = (nb, x, 0)) (h2 : W.gnum d x = (size, y, 0)) (hs : size ≤ 4096) {q : List UInt8} {z : Nat} (h : E.app base d size y [] = (q, z)) :
    Calls Try.prog 35 #[.slice Ab nb cb, .slice Ad nd cd] w fun e w' => ARes w q z e w' := by
  have hc := hide (gnum_num_yes w.heap.size w.heap.size Ad d nd cd 0 nb x 0 hnd hd h1)
  have hd2 := hide (gnum_num_yes w.heap.size w.heap.size Ad d nd cd x size y 0 hnd hd h2)
  have hy : y ≤ nd := by have := (W.gnum_ok h2).2.2.1; omega
  have hs' : ¬ (4096 : Int) < size := by omega
  clear h1 h2
  replace h := hide h
  replace hnd := hide hnd
  replace hnb := hide hnb
  have st0 := St.init w (.slice Ad nd cd)
  go_enter Try.func35, Try.ntmps35
  go_wp2_with fail
  refine ((unhide hc) _ (st0.reads hrd) st0.blk).mono ?_
  rintro e1 w1 ⟨rfl, hb1, hg1⟩
  have st1 := st0.step hb1 hg1
  clear hb1 hg1
  go_wp2_with fail
  refine (refuse_no _ _ _ _ _ _ _ st1.blk (.inr (by simp <;> omega))).mono ?_
  rintro e2 w2 ⟨rfl, rfl⟩
  go_wp2_with fail
  refine ((unhide hd2) _ (st1.reads hrd) st1.blk).mono ?_
  rintro e1 w2 ⟨rfl, hb2, hg2⟩
  have st2 := st1.step hb2 hg2
  clear hb2 hg2 st1 st0
  go_wp2_with fail
  refine (refuse_no _ _ _ _ _ _ _ st2.blk (.inr (by simp <;> omega))).mono ?_
  rintro e2 w3 ⟨rfl, rfl⟩
  go_wp2_with fail
  go_loopg [8, 9, 10, 11] (size + 1) (fun k out _ _ _ wr => ARel w w.heap.size base d (.slice Ad nd cd) size q z k out wr)
  case atStart => exact ⟨y, 0, [], st2, .inl ⟨rfl, unhide h, by simp, by have := unhide hnd; omega, by simp⟩⟩
  case round =>
    clear hc hd2 h st2
    obtain ⟨p, e, o, st, hor⟩ := hrel
    obtain ⟨Ao, co, rfl, _, _⟩ := own_form st.own
    have hsz := st.size
    have c1 := st.c1
    have c2 := st.c2
    by_cases he : e = 0
    · subst he
      obtain ⟨_, ha, hk, hp, ho⟩ : True ∧ E.app base d size p o = (q, z) ∧ size + 1 ≤ gk + o.length ∧ p ≤ d.length ∧ o.length ≤ size := by
        rcases hor with ⟨_, h⟩ | ⟨h, _⟩
        · exact ⟨trivial, h⟩
        · exact absurd rfl h
      clear hor
      by_cases hlt : o.length < size
      · have hgk := hide (show 0 < gk by omega)
        obtain ⟨s, t, u, hpi⟩ : ∃ s t u, E.piece base d p (size - o.length) = (s, t, u) := ⟨_, _, _, rfl⟩
        by_cases hu : u = 0
        · subst hu
          have hl := E.piece_len hpi
          have hgk2 := hide (show gk - s.length < gk by omega)
          have HR := hide (show E.app base d size t (o ++ s) = (q, z) ∧ size + 1 ≤ (gk - s.length) + (o ++ s).length ∧ t ≤ d.length ∧ (o ++ s).length ≤ size from ⟨by rw [← E.app_step hlt hpi]; exact ha, by simp; omega, hl.2.2, by simp; omega⟩)
          obtain ⟨m, y1, hg, g1, g2, g3⟩ := E.piece_ok hpi
          have hn1 := hide (gnum_num_yes w.heap.size w.heap.size Ad d nd cd p m y1 0 (unhide hnd) hd hg)
          obtain ⟨_, _, hy1, hm⟩ := W.gnum_ok hg
          have hy2 : y1 ≤ nd := by have := unhide hnd; omega
          have e0 : ((m : Int) / 2 == 0) = false := by rw [beq_eq_false_iff_ne]; omega
          have e1 : ¬ ((size : Int) - o.length < (m : Int) / 2) := by omega
          have hm2 : (m : Int) / 2 ≤ 4096 := by omega
          rcases g3 with ⟨g3, g4, rfl, rfl⟩ | ⟨g3, f, hf, g4, g5, rfl⟩
          · have hlen := hide (show ((d.drop y1).take (m / 2)).length = m / 2 by simp; omega)
            have e2 : ((m : Int) % 2 == 0) = true := by rw [beq_iff_eq]; omega
            have e3 : ¬ ((nd : Int) - y1 < (m : Int) / 2) := by have := unhide hnd; omega
            have e4 : ¬ cd = y1 := by have := unhide hnd; omega
            have e5 : (y1 : Int) + (m : Int) / 2 ≤ nd := by have := unhide hnd; omega
            have en : y1 + m / 2 - y1 = m / 2 := by omega
            have hrm := reads_mid (k := y1) (n := y1 + m / 2 - y1) hrd (by have := unhide hnd; omega) hcd
            rw [if_neg e4] at hrm
            replace hrm : Reads w w.heap.size 1 (Option.map (fun x => x.add y1) Ad) (y1 + m / 2 - y1) (bvs ((d.drop y1).take (m / 2))) := by rw [en] at hrm ⊢; exact hrm
            replace en := hide en
            clear ha hpi hl hg g1 g2 g3 g4
            go_wp2_with fail
            refine ((unhide hn1) _ (st.reads hrd) st.blk).mono ?_
            rintro e1 w3 ⟨rfl, hb1, hg1⟩
            have st3 := st.step hb1 hg1
            clear hb1 hg1 c1 c2
            have c1 := st3.c1
            have c2 := st3.c2
            go_wp2_with fail
            refine (refuse_no _ _ _ _ _ _ _ st3.blk (.inr (by simp <;> omega))).mono ?_
            rintro e2 w2 ⟨rfl, rfl⟩
            go_wp2_with fail
            refine (refuse_no _ _ _ _ _ _ _ st3.blk (.inr (by simp <;> omega))).mono ?_
            rintro e2 w2 ⟨rfl, rfl⟩
            go_wp2_with (at_builtin; refine wpList_appS rfl (.tmp 63) (.tmp 71) _ rfl et22 w.heap.size (.slice Ao o.length co) o.length (bvs o) rfl st3.own w.heap.size _ (y1 + m / 2 - y1) _ _ rfl (st3.reads hrm) (bvs_one _) ?_ (by decide) ?_ ?_; omega; exact st3.size; intro A1 c4 w4 hown4 hgr4 hcap4; rw [unhide en] at hown4 hgr4; have st4 := st3.app (unhide hlen) hown4 hgr4; clear c1 c2; have c1 := st4.c1; have f1 := st4.f1)
            go_roundg (gk - ((d.drop y1).take (m / 2)).length)
            case measure => exact unhide hgk2
            case rel =>
              refine ⟨y1 + m / 2, 0, o ++ (d.drop y1).take (m / 2), ?_, .inl ⟨rfl, unhide HR⟩⟩
              have st5 := st4.set1 ((y1 : Int) + (m : Int) / 2)
              rw [show ((y1 + m / 2 : Nat) : Int) = (y1 : Int) + (m : Int) / 2 from by omega]
              exact st5
          · have hlen := hide (show ((base.drop f).take (m / 2)).length = m / 2 by simp; omega)
            have hn2 := hide (gnum_num_yes w.heap.size w.heap.size Ad d nd cd y1 f t 0 (unhide hnd) hd hf)
            have e2 : ((m : Int) % 2 == 0) = false := by rw [beq_eq_false_iff_ne]; omega
            have e3 : ¬ ((nb : Int) < f) := by have := unhide hnb; omega
            have e6 : ¬ ((nb : Int) - f < (m : Int) / 2) := by have := unhide hnb; omega
            have e4 : ¬ cb = f := by have := unhide hnb; omega
            have e5 : (f : Int) + (m : Int) / 2 ≤ nb := by have := unhide hnb; omega
            have en : f + m / 2 - f = m / 2 := by omega
            have hrm := reads_mid (k := f) (n := f + m / 2 - f) hrb (by have := unhide hnb; omega) hcb
            rw [if_neg e4] at hrm
            replace hrm : Reads w w.heap.size 1 (Option.map (fun x => x.add f) Ab) (f + m / 2 - f) (bvs ((base.drop f).take (m / 2))) := by rw [en] at hrm ⊢; exact hrm
            replace en := hide en
            clear ha hpi hl hg g1 g2 g3 g4 g5 hf
            go_wp2_with fail
            refine ((unhide hn1) _ (st.reads hrd) st.blk).mono ?_
            rintro e1 w3 ⟨rfl, hb1, hg1⟩
            have st3 := st.step hb1 hg1
            clear hb1 hg1 c1 c2
            have c1 := st3.c1
            have c2 := st3.c2
            go_wp2_with fail
            refine (refuse_no _ _ _ _ _ _ _ st3.blk (.inr (by simp <;> omega))).mono ?_
            rintro e2 w2 ⟨rfl, rfl⟩
            go_wp2_with fail
            refine ((unhide hn2) _ (st3.reads hrd) st3.blk).mono ?_
            rintro e1 w4 ⟨rfl, hb1, hg1⟩
            have st4 := st3.step hb1 hg1
            clear hb1 hg1 c1 c2
            have c1 := st4.c1
            have c2 := st4.c2
            go_wp2_with fail
            refine (refuse_no _ _ _ _ _ _ _ st4.blk (.inr (by simp <;> omega))).mono ?_
            rintro e2 w2 ⟨rfl, rfl⟩
            go_wp2_with (at_builtin; refine wpList_appS rfl (.tmp 95) (.tmp 101) _ rfl et22 w.heap.size (.slice Ao o.length co) o.length (bvs o) rfl st4.own w.heap.size _ (f + m / 2 - f) _ _ rfl (st4.reads hrm) (bvs_one _) ?_ (by decide) ?_ ?_; omega; exact st4.size; intro A1 c4 w5 hown5 hgr5 hcap5; rw [unhide en] at hown5 hgr5; have st5 := st4.app (unhide hlen) hown5 hgr5)
            go_roundg (gk - ((base.drop f).take (m / 2)).length)
            case measure => exact unhide hgk2
            case rel => exact ⟨t, 0, o ++ (base.drop f).take (m / 2), st5, .inl ⟨rfl, unhide HR⟩⟩
        · rw [E.app_err hlt (by rw [hpi]; exact hu), hpi] at ha
          simp only [Prod.mk.injEq] at ha
          obtain ⟨rfl, rfl⟩ := ha
          have hz' := hide (show (u : Int) ≠ 0 by omega)
          have hz2 : ((u : Int) == 0) = false := beq_eq_false_iff_ne.2 (unhide hz')
          rcases piece_ways hpi hu with hg | ⟨m, y1, hg, hw⟩
          · have hn1 := hide (gnum_num_yes w.heap.size w.heap.size Ad d nd cd p 0 0 u (unhide hnd) hd hg)
            clear hpi hg
            go_wp2_with fail
            refine ((unhide hn1) _ (st.reads hrd) st.blk).mono ?_
            rintro e1 w3 ⟨rfl, hb1, hg1⟩
            have st3 := st.step hb1 hg1
            clear hb1 hg1 c1 c2
            have c1 := st3.c1
            have c2 := st3.c2
            go_wp2_with fail
            refine (refuse_no _ _ _ _ _ _ _ st3.blk (.inl (unhide hz'))).mono ?_
            rintro e2 w2 ⟨rfl, rfl⟩
            go_wp2_with fail
            refine (refuse_no _ _ _ _ _ _ _ st3.blk (.inl (unhide hz'))).mono ?_
            rintro e2 w2 ⟨rfl, rfl⟩
            go_wp2_with fail
            go_roundg 0
            case measure => exact unhide hgk
            case rel => exact ⟨_, u, _, st3, .inr ⟨by omega, rfl, rfl⟩⟩
          · have hn1 := hide (gnum_num_yes w.heap.size w.heap.size Ad d nd cd p m y1 0 (unhide hnd) hd hg)
            obtain ⟨_, _, hy1, hm⟩ := W.gnum_ok hg
            have hy2 : y1 ≤ nd := by have := unhide hnd; omega
            clear hpi hg hz2
            rcases hw with ⟨hw, rfl⟩ | ⟨g1, g2, hw⟩
            · by_cases hm2 : m % 2 = 0
              · have e2 : ((m : Int) % 2 == 0) = true := by rw [beq_iff_eq]; omega
                by_cases h0 : m / 2 = 0
                · have e0 : ((m : Int) / 2 == 0) = true := by rw [beq_iff_eq]; omega
                  clear hw h0 hm2
                  go_wp2_with fail
                  refine ((unhide hn1) _ (st.reads hrd) st.blk).mono ?_
                  rintro e1 w3 ⟨rfl, hb1, hg1⟩
                  have st3 := st.step hb1 hg1
                  clear hb1 hg1 c1 c2
                  have c1 := st3.c1
                  have c2 := st3.c2
                  go_wp2_with fail
                  refine (refuse_yes _ _ _ _ _ st3.blk).mono ?_
                  rintro e1 w4 ⟨rfl, hb2, hg2⟩
                  have st4 := st3.step hb2 hg2
                  clear hb2 hg2 c1 c2
                  have c1 := st4.c1
                  have c2 := st4.c2
                  go_wp2_with fail
                  refine (refuse_no _ _ _ _ _ _ _ st4.blk (.inl (unhide hz'))).mono ?_
                  rintro e2 w2 ⟨rfl, rfl⟩
                  go_wp2_with fail
                  go_roundg 0
                  case measure => exact unhide hgk
                  case rel => exact ⟨_, 7, _, st4, .inr ⟨by omega, rfl, rfl⟩⟩
                · have e0 : ((m : Int) / 2 == 0) = false := by rw [beq_eq_false_iff_ne]; omega
                  have e1 : ((size : Int) - o.length < (m : Int) / 2) := by omega
                  clear hw h0 hm2
                  go_wp2_with fail
                  refine ((unhide hn1) _ (st.reads hrd) st.blk).mono ?_
                  rintro e1 w3 ⟨rfl, hb1, hg1⟩
                  have st3 := st.step hb1 hg1
                  clear hb1 hg1 c1 c2
                  have c1 := st3.c1
                  have c2 := st3.c2
                  go_wp2_with fail
                  refine (refuse_yes _ _ _ _ _ st3.blk).mono ?_
                  rintro e1 w4 ⟨rfl, hb2, hg2⟩
                  have st4 := st3.step hb2 hg2
                  clear hb2 hg2 c1 c2
                  have c1 := st4.c1
                  have c2 := st4.c2
                  go_wp2_with fail
                  refine (refuse_no _ _ _ _ _ _ _ st4.blk (.inl (unhide hz'))).mono ?_
                  rintro e2 w2 ⟨rfl, rfl⟩
                  go_wp2_with fail
                  go_roundg 0
                  case measure => exact unhide hgk
                  case rel => exact ⟨_, 7, _, st4, .inr ⟨by omega, rfl, rfl⟩⟩
              · have e2 : ((m : Int) % 2 == 0) = false := by rw [beq_eq_false_iff_ne]; omega
                by_cases h0 : m / 2 = 0
                · have e0 : ((m : Int) / 2 == 0) = true := by rw [beq_iff_eq]; omega
                  clear hw h0 hm2
                  go_wp2_with fail
                  refine ((unhide hn1) _ (st.reads hrd) st.blk).mono ?_
                  rintro e1 w3 ⟨rfl, hb1, hg1⟩
                  have st3 := st.step hb1 hg1
                  clear hb1 hg1 c1 c2
                  have c1 := st3.c1
                  have c2 := st3.c2
                  go_wp2_with fail
                  refine (refuse_yes _ _ _ _ _ st3.blk).mono ?_
                  rintro e1 w4 ⟨rfl, hb2, hg2⟩
                  have st4 := st3.step hb2 hg2
                  clear hb2 hg2 c1 c2
                  have c1 := st4.c1
                  have c2 := st4.c2
                  go_wp2_with fail
                  refine (dnum_no _ _ _ _ _ st4.blk (unhide hz')).mono ?_
                  rintro e2 w2 ⟨rfl, rfl⟩
                  go_wp2_with fail
                  refine (refuse_no _ _ _ _ _ _ _ st4.blk (.inl (unhide hz'))).mono ?_
                  rintro e2 w2 ⟨rfl, rfl⟩
                  go_wp2_with fail
                  go_roundg 0
                  case measure => exact unhide hgk
                  case rel => exact ⟨_, 7, _, st4, .inr ⟨by omega, rfl, rfl⟩⟩
                · have e0 : ((m : Int) / 2 == 0) = false := by rw [beq_eq_false_iff_ne]; omega
                  have e1 : ((size : Int) - o.length < (m : Int) / 2) := by omega
                  clear hw h0 hm2
                  go_wp2_with fail
                  refine ((unhide hn1) _ (st.reads hrd) st.blk).mono ?_
                  rintro e1 w3 ⟨rfl, hb1, hg1⟩
                  have st3 := st.step hb1 hg1
                  clear hb1 hg1 c1 c2
                  have c1 := st3.c1
                  have c2 := st3.c2
                  go_wp2_with fail
                  refine (refuse_yes _ _ _ _ _ st3.blk).mono ?_
                  rintro e1 w4 ⟨rfl, hb2, hg2⟩
                  have st4 := st3.step hb2 hg2
                  clear hb2 hg2 c1 c2
                  have c1 := st4.c1
                  have c2 := st4.c2
                  go_wp2_with fail
                  refine (dnum_no _ _ _ _ _ st4.blk (unhide hz')).mono ?_
                  rintro e2 w2 ⟨rfl, rfl⟩
                  go_wp2_with fail
                  refine (refuse_no _ _ _ _ _ _ _ st4.blk (.inl (unhide hz'))).mono ?_
                  rintro e2 w2 ⟨rfl, rfl⟩
                  go_wp2_with fail
                  go_roundg 0
                  case measure => exact unhide hgk
                  case rel => exact ⟨_, 7, _, st4, .inr ⟨by omega, rfl, rfl⟩⟩
            · have e0 : ((m : Int) / 2 == 0) = false := by rw [beq_eq_false_iff_ne]; omega
              have e1 : ¬ ((size : Int) - o.length < (m : Int) / 2) := by omega
              rcases hw with ⟨g3, g4, rfl⟩ | ⟨g3, hw⟩
              · have e2 : ((m : Int) % 2 == 0) = true := by rw [beq_iff_eq]; omega
                have e3 : ((nd : Int) - y1 < (m : Int) / 2) := by have := unhide hnd; omega
                clear g1 g2 g3 g4
                go_wp2_with fail
                refine ((unhide hn1) _ (st.reads hrd) st.blk).mono ?_
                rintro e1 w3 ⟨rfl, hb1, hg1⟩
                have st3 := st.step hb1 hg1
                clear hb1 hg1 c1 c2
                have c1 := st3.c1
                have c2 := st3.c2
                go_wp2_with fail
                refine (refuse_no _ _ _ _ _ _ _ st3.blk (.inr (by simp <;> omega))).mono ?_
                rintro e2 w2 ⟨rfl, rfl⟩
                go_wp2_with fail
                refine (refuse_yes _ _ _ _ _ st3.blk).mono ?_
                rintro e1 w4 ⟨rfl, hb2, hg2⟩
                have st4 := st3.step hb2 hg2
                clear hb2 hg2 c1 c2
                have c1 := st4.c1
                have c2 := st4.c2
                go_wp2_with fail
                go_roundg 0
                case measure => exact unhide hgk
                case rel => exact ⟨_, 8, _, st4, .inr ⟨by omega, rfl, rfl⟩⟩
              · have e2 : ((m : Int) % 2 == 0) = false := by rw [beq_eq_false_iff_ne]; omega
                rcases hw with hf | ⟨f, y2, hf, hw, rfl⟩
                · have hn2 := hide (gnum_num_yes w.heap.size w.heap.size Ad d nd cd y1 0 0 u (unhide hnd) hd hf)
                  have hz2 : ((u : Int) == 0) = false := beq_eq_false_iff_ne.2 (unhide hz')
                  clear g1 g2 g3 hf
                  go_wp2_with fail
                  refine ((unhide hn1) _ (st.reads hrd) st.blk).mono ?_
                  rintro e1 w3 ⟨rfl, hb1, hg1⟩
                  have st3 := st.step hb1 hg1
                  clear hb1 hg1 c1 c2
                  have c1 := st3.c1
                  have c2 := st3.c2
                  go_wp2_with fail
                  refine (refuse_no _ _ _ _ _ _ _ st3.blk (.inr (by simp <;> omega))).mono ?_
                  rintro e2 w2 ⟨rfl, rfl⟩
                  go_wp2_with fail
                  refine ((unhide hn2) _ (st3.reads hrd) st3.blk).mono ?_
                  rintro e1 w4 ⟨rfl, hb1, hg1⟩
                  have st4 := st3.step hb1 hg1
                  clear hb1 hg1 c1 c2
                  have c1 := st4.c1
                  have c2 := st4.c2
                  go_wp2_with fail
                  refine (refuse_no _ _ _ _ _ _ _ st4.blk (.inl (unhide hz'))).mono ?_
                  rintro e2 w2 ⟨rfl, rfl⟩
                  go_wp2_with fail
                  go_roundg 0
                  case measure => exact unhide hgk
                  case rel => exact ⟨_, u, _, st4, .inr ⟨by omega, rfl, rfl⟩⟩
                · have hn2 := hide (gnum_num_yes w.heap.size w.heap.size Ad d nd cd y1 f y2 0 (unhide hnd) hd hf)
                  obtain ⟨_, _, _, hf9⟩ := W.gnum_ok hf
                  by_cases h4 : nb < f
                  · have e3 : ((nb : Int) < f) := by omega
                    clear g1 g2 g3 hf hw
                    go_wp2_with fail
                    refine ((unhide hn1) _ (st.reads hrd) st.blk).mono ?_
                    rintro e1 w3 ⟨rfl, hb1, hg1⟩
                    have st3 := st.step hb1 hg1
                    clear hb1 hg1 c1 c2
                    have c1 := st3.c1
                    have c2 := st3.c2
                    go_wp2_with fail
                    refine (refuse_no _ _ _ _ _ _ _ st3.blk (.inr (by simp <;> omega))).mono ?_
                    rintro e2 w2 ⟨rfl, rfl⟩
                    go_wp2_with fail
                    refine ((unhide hn2) _ (st3.reads hrd) st3.blk).mono ?_
                    rintro e1 w4 ⟨rfl, hb1, hg1⟩
                    have st4 := st3.step hb1 hg1
                    clear hb1 hg1 c1 c2
                    have c1 := st4.c1
                    have c2 := st4.c2
                    go_wp2_with fail
                    refine (refuse_yes _ _ _ _ _ st4.blk).mono ?_
                    rintro e1 w5 ⟨rfl, hb2, hg2⟩
                    have st5 := st4.step hb2 hg2
                    clear hb2 hg2 c1 c2
                    have c1 := st5.c1
                    have c2 := st5.c2
                    go_wp2_with fail
                    go_roundg 0
                    case measure => exact unhide hgk
                    case rel => exact ⟨_, 9, _, st5, .inr ⟨by omega, rfl, rfl⟩⟩
                  · have e3 : ¬ ((nb : Int) < f) := by omega
                    have e4 : ((nb : Int) - f < (m : Int) / 2) := by have := unhide hnb; omega
                    clear g1 g2 g3 hf hw
                    go_wp2_with fail
                    refine ((unhide hn1) _ (st.reads hrd) st.blk).mono ?_
                    rintro e1 w3 ⟨rfl, hb1, hg1⟩
                    have st3 := st.step hb1 hg1
                    clear hb1 hg1 c1 c2
                    have c1 := st3.c1
                    have c2 := st3.c2
                    go_wp2_with fail
                    refine (refuse_no _ _ _ _ _ _ _ st3.blk (.inr (by simp <;> omega))).mono ?_
                    rintro e2 w2 ⟨rfl, rfl⟩
                    go_wp2_with fail
                    refine ((unhide hn2) _ (st3.reads hrd) st3.blk).mono ?_
                    rintro e1 w4 ⟨rfl, hb1, hg1⟩
                    have st4 := st3.step hb1 hg1
                    clear hb1 hg1 c1 c2
                    have c1 := st4.c1
                    have c2 := st4.c2
                    go_wp2_with fail
                    refine (refuse_yes _ _ _ _ _ st4.blk).mono ?_
                    rintro e1 w5 ⟨rfl, hb2, hg2⟩
                    have st5 := st4.step hb2 hg2
                    clear hb2 hg2 c1 c2
                    have c1 := st5.c1
                    have c2 := st5.c2
                    go_wp2_with fail
                    go_roundg 0
                    case measure => exact unhide hgk
                    case rel => exact ⟨_, 9, _, st5, .inr ⟨by omega, rfl, rfl⟩⟩
      · have e4 : ¬ ((o.length : Int) < size) := by omega
        rw [E.app_done (by omega)] at ha
        by_cases hpd : p = d.length
        · rw [if_neg (by omega)] at ha
          simp only [Prod.mk.injEq] at ha
          obtain ⟨rfl, rfl⟩ := ha
          have e5 : ((p : Int) != (nd : Int)) = false := by have := unhide hnd; rw [bne_eq_false_iff_eq]; omega
          clear hpd
          go_wp2_with fail
          refine (refuse_no _ _ _ _ _ _ _ st.blk (.inr (by first | rfl | (simp <;> omega)))).mono ?_
          rintro e2 w2 ⟨rfl, rfl⟩
          go_wp2_with fail
          go_ret2
          exact ⟨_, _, rfl, st.own, st.bel⟩
        · rw [if_pos (by omega)] at ha
          simp only [Prod.mk.injEq] at ha
          obtain ⟨rfl, rfl⟩ := ha
          have e5 : ((p : Int) != (nd : Int)) = true := by have := unhide hnd; rw [bne_iff_ne]; omega
          clear hpd
          go_wp2_with fail
          refine (refuse_yes _ _ _ _ _ st.blk).mono ?_
          rintro e1 w3 ⟨rfl, hb3, hg3⟩
          have st3 := st.step hb3 hg3
          clear hb3 hg3 c1 c2
          have c1 := st3.c1
          have c2 := st3.c2
          go_wp2_with fail
          go_quiet (fail)
          go_wp2_with fail
          go_ret2
          exact ARes.none_ rfl (below_drewN st3.bel _)
    · obtain ⟨_, rfl, rfl⟩ : e ≠ 0 ∧ q = [] ∧ z = e := by
        rcases hor with ⟨h, _⟩ | h
        · exact absurd h he
        · exact h
      have hz' := hide (show (z : Int) ≠ 0 by omega)
      have hz2 : ((z : Int) == 0) = false := beq_eq_false_iff_ne.2 (unhide hz')
      have hz3 : ((z : Int) != 0) = true := by rw [bne_iff_ne]; omega
      clear hor he
      go_wp2_with fail
      refine (refuse_no _ _ _ _ _ _ _ st.blk (.inl (unhide hz'))).mono ?_
      rintro e2 w2 ⟨rfl, rfl⟩
      go_wp2_with fail
      go_quiet (fail)
      go_wp2_with fail
      go_ret2
      exact ARes.none_ rfl (below_drewN st.bel _)

/-- delta.Apply: what the document says -/
theorem apply_any (Ab Ad : Option Addr) (base d : List UInt8) (nb cb nd cd : Nat) (w : World) (hnb : base.length = nb) (hb : nb ≤ 140737488355000) (hcb : nb ≤ cb) (hnd : d.length = nd) (hd : nd ≤ 140737488355000) (hcd : nd ≤ cd)
    (hrb : Reads w w.heap.size 1 Ab nb (bvs base)) (hrd : Reads w w.heap.size 1 Ad nd (bvs d)) {q : List UInt8} {z : Nat} (h : E.apply base d = (q, z)) :
    Calls Try.prog 35 #[.slice Ab nb cb, .slice Ad nd cd] w fun e w' => ARes w q z e w' := by
  rcases apply_ways h with ⟨h0, rfl, rfl⟩ | ⟨h0, ⟨h1, hz, rfl⟩ | ⟨n, x, h1, hn, rfl, rfl⟩ | ⟨x, h1, ⟨h2, hz, rfl⟩ | ⟨n, y, h2, ⟨hn, rfl, rfl⟩ | ⟨hn, ha⟩⟩⟩⟩
  · exact apply_long Ab Ad base d nb cb nd cd w (by omega) (by omega)
  · exact apply_bad1 Ab Ad base d nb cb nd cd w z (by omega) hnd hd hrd h1 hz
  · exact apply_bad2 Ab Ad base d nb cb nd cd w n x (by omega) hnd hd hrd h1 (by omega)
  · exact apply_bad3 Ab Ad base d nb cb nd cd w x z (by omega) hnd hd hrd (by rw [← hnb]; exact h1) h2 hz
  · exact apply_bad4 Ab Ad base d nb cb nd cd w x n y (by omega) hnd hd hrd (by rw [← hnb]; exact h1) h2 hn
  · exact apply_loop Ab Ad base d nb cb nd cd w hnb (by omega) hcb hnd hd hcd hrb hrd x n y (by rw [← hnb]; exact h1) h2 hn ha
end Go.Proofs.Ytdhgobflbacgbaa
