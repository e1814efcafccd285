/- diff.done, told to diff.Invert's closure, and diff.Invert: the way back of any script on any text. Conditions: a script of at most 2^20 edits, texts of at most 2^47 bytes. -/
import Derived.Test.YtakkjehmekekbaaTell
namespace Go.Proofs.Ytakkjehmekekbaa
open Go.RowKit

theorem own_own_ne {w : World} {base base' : Nat} {e e' : TypeId} {size size' : Nat} {v v' : Value} {n n' : Nat} {xs xs' : List Value} (h : w.ownsRow base e size v n xs) (h' : w.ownsRow base' e' size' v' n' xs') (hne : e ≠ e') {k : Nat} (hk : v.ownBlock = some k) : v'.ownBlock ≠ some k := by
  intro hk'
  rcases h.2 with ⟨rfl, _⟩ | ⟨g, cap, cur, rfl, _, hh, _⟩
  · simp [Value.ownBlock] at hk
  · rcases h'.2 with ⟨rfl, _⟩ | ⟨g', cap', cur', rfl, _, hh', _⟩
    · simp [Value.ownBlock] at hk'
    · simp [Value.ownBlock] at hk hk'
      subst hk hk'
      rw [hh] at hh'
      injection hh' with h1
      injection h1 with _ h2
      exact hne h2
section
variable {w0 ws w w' : World} {gl : Nat} {v : Value} {l : List D.Ed} {out : Value} {base n : Nat} {xs : List Value}
theorem Lv.keepRow (h : Lv w0 ws (fun _ => False) w gl v l) (ho : w.ownsRow base 5 1 out n xs) : Lv w0 w (fun j => out.ownBlock = some j) w gl v l :=
  h.rekept _ (fun j hj => ⟨(ho.lt j hj).2, fun he => own_blk_ne ho h.blk (by decide) (by rw [hj, he]), own_own_ne ho h.own (by decide) hj⟩)
theorem Lv.outKept (h : Lv w0 ws (fun j => out.ownBlock = some j) w' gl v l) (ho : ws.ownsRow base 5 1 out n xs) : w'.ownsRow base 5 1 out n xs := by
  rcases ho.2 with ⟨rfl, hx⟩ | ⟨g, cap, cur, rfl, hb, hh, hr⟩
  · exact ⟨ho.1, .inl ⟨rfl, hx⟩⟩
  · refine ⟨ho.1, .inr ⟨g, cap, cur, rfl, hb, ?_, hr⟩⟩
    rw [(h.kp g rfl).2.2.2, hh]
end
/-- what the loop of done has at its head, told to the closure -/
def NRelB (w0 : World) (gl la : Nat) (a : List UInt8) (l : List D.Ed) (q : List UInt8) (z k : Nat) (at_ : Value) (out : Value) (wr : World) : Prop :=
  ∃ (p : Nat) (o : List UInt8) (v : Value) (acc : List D.Ed), at_ = .int .i64 p ∧ p ≤ la ∧ o.length ≤ 1000 ∧ wr.ownsRow w0.heap.size 5 1 out o.length (bvs o) ∧ Lv w0 wr (fun _ => False) wr gl v acc ∧ D.doneF (a.drop p) o (l.drop k) = (q, z) ∧ acc.length = k ∧ acc ++ D.turns (a.drop p) (l.drop k) = D.turns a l
/-- what comes of done, told to the closure -/
def TRes (w0 : World) (gl : Nat) (a : List UInt8) (l : List D.Ed) (q : List UInt8) (z : Nat) (e : Ending) (w' : World) : Prop :=
  e = .returned (.tuple #[.string (bs q), .int .i64 z]) ∧ ∃ v acc, Lv w0 w' (fun _ => False) w' gl v acc ∧ (z = 0 → acc = D.turns a l)
theorem tres {w0 w' : World} {gl : Nat} {a : List UInt8} {l : List D.Ed} {q : List UInt8} {z : Nat} {e : Ending} (he : e = .returned (.tuple #[.string (bs q), .int .i64 z])) (v : Value) (acc : List D.Ed) (hL : Lv w0 w' (fun _ => False) w' gl v acc) (hT : z = 0 → acc = D.turns a l) : TRes w0 gl a l q z e w' := ⟨he, v, acc, hL, hT⟩

set_option maxRecDepth 100000 in
set_option maxHeartbeats 8000000 in
theorem done31_ok (a : List UInt8) (la : Nat) (A : Option Addr) (l : List D.Ed) (n c : Nat) (w : World) (hla : a.length = la) (ha : la ≤ 1000) (hn : l.length = n) (hn6 : n ≤ 4398046511000) (hok : ∀ x ∈ l, EdOk x) {w0 ws : World} {gl : Nat} {v0 : Value} (hL0 : Lv w0 ws (fun _ => False) w gl v0 []) (hr : Reads w0 w0.heap.size 3 A n (ecs l)) {q : List UInt8} {z : Nat} (hq : D.doneF a [] l = (q, z)) :
    Calls Try.prog 27 #[.string (bs a), .slice A n c, .func (Fn.func 31) #[] #[.pointer (some ⟨gl, 0, none⟩)]] w fun e w' => TRes w0 gl a l q z e w' := by
  have hsa : (bs a).size = la := by rw [bs_size, hla]
  have ha' : ¬ (1000 : Int) < la := by omega
  replace hla := hide hla
  replace hn := hide hn
  replace hok := hide hok
  replace hr := hide hr
  have HN := hide (show NRelB w0 gl la a l q z 0 (.int .i64 0) (.slice none 0 0) w from ⟨0, [], v0, [], rfl, by omega, by simp, World.ownsRow_nil _ _ _ _, hL0.rekept _ (fun _ h => h.elim), by simpa using hq, rfl, rfl⟩)
  clear hq
  go_enter Try.func27, Try.ntmps27
  go_wp2_with fail
  go_loopg [8, 9, 11, 12, 18] n (fun m at_ out _ _ i wr => ∃ k : Nat, i = .int .i64 k ∧ n ≤ m + k ∧ k ≤ n ∧ NRelB w0 gl la a l q z k at_ out wr)
  case atStart => exact ⟨0, rfl, by omega, by omega, unhide HN⟩
  case round =>
    clear HN
    obtain ⟨k, rfl, hm, hk, p, o, v, acc, rfl, hp, ho, hown, hL, hq, hal, hT⟩ := hrel
    have hbel := hL.bel
    obtain ⟨Ao, co, rfl, hco, _⟩ := own_form hown
    by_cases hlt : k < n
    · have hlt' : (k : Int) < n := by omega
      obtain ⟨ad, x, rfl, hx, hbl, c1, c2, c3⟩ := reads_ed (unhide hn) ((unhide hr).below hbel) hlt
      have hxo : EdOk x := (unhide hok) x (List.mem_of_getElem? hx)
      have hdr : l.drop k = x :: l.drop (k + 1) := by
        rw [List.getElem?_eq_some_iff] at hx
        obtain ⟨h1, h2⟩ := hx
        rw [← h2]; exact List.drop_eq_getElem_cons h1
      rw [hdr] at hq hT
      replace hal := hide hal
      have hap : (a.drop p).length = la - p := by rw [List.length_drop, unhide hla]
      clear hx hdr
      by_cases hmay : D.may x
      · have hmb := hide (mayB_true hmay)
        by_cases h8 : ((a.drop p).length : Int) < x.n
        · rw [dn_8 hmay h8] at hq
          simp only [Prod.mk.injEq] at hq
          obtain ⟨rfl, rfl⟩ := hq
          have h8' : (la : Int) - p < x.n := by omega
          clear h8 hap hmay
          go_wp2_with fail
          refine (may_any x _).mono ?_
          rintro e w2 ⟨rfl, hb2⟩
          rw [unhide hmb]
          obtain ⟨d1, d2, d3⟩ := box_cells hb2
          go_wp2_with fail
          go_ret2
          exact tres rfl v acc ((hL.below (box_only hb2)).rekept _ (fun _ h => h.elim)) (fun h => absurd h (by decide))
        · obtain ⟨kd, nn, tx⟩ := x
          have hst := fun h3 => (dn_0 (o := o) (l := l.drop (k + 1)) hmay h8 h3).symm.trans hq
          have hno := fun h3 => (dn_3 (o := o) (l := l.drop (k + 1)) hmay h8 h3).symm.trans hq
          simp only at c1 c2 c3 h8 hst hno
          unfold EdOk at hxo
          simp only at hxo
          have hmc := hmay
          clear hq
          rcases hmc with ⟨h1, h2, h3⟩ | ⟨h1, h2, h3⟩
          · simp only at h1 h2 h3
            subst h1 h2
            have hcm : D.comes ⟨3, 0, tx⟩ (a.drop p) = tx := by unfold D.comes; simp
            rw [hcm] at hst hno
            have e8 : ¬ (la : Int) - p < 0 := by omega
            have hts : (bs tx).size = tx.length := bs_size tx
            have hpl : (p : Int) ≤ la := by omega
            by_cases hl3 : 1000 < o.length + tx.length
            · have hq := hno hl3
              simp only [Prod.mk.injEq] at hq
              obtain ⟨rfl, rfl⟩ := hq
              have hl3' : (1000 : Int) - o.length < (bs tx).size := by omega
              have hts2 : (bs tx).size ≤ 140737488355328 := by omega
              clear hst hno hcm hl3 h8 hap hmay h3 hts
              go_wp2_with fail
              refine (may_any ⟨3, 0, tx⟩ _).mono ?_
              rintro e w2 ⟨rfl, hb2⟩
              rw [unhide hmb]
              obtain ⟨d1, d2, d3⟩ := box_cells (x := ⟨3, 0, tx⟩) hb2
              go_wp2_with fail
              go_ret2
              exact tres rfl v acc ((hL.below (box_only hb2)).rekept _ (fun _ h => h.elim)) (fun h => absurd h (by decide))
            · have hq := hst hl3
              have hl3' : ¬ (1000 : Int) - o.length < (bs tx).size := by omega
              have hts2 : (bs tx).size ≤ 1000 := by omega
              have hq2 : D.doneF (a.drop p) (o ++ tx) (l.drop (k + 1)) = (q, z) := by simpa using hq
              have hT2 := hide (show (acc ++ [turnS ⟨3, 0, tx⟩ tx]) ++ D.turns (a.drop p) (l.drop (k + 1)) = D.turns a l by rw [← hT]; simp [D.turns, D.turn, turnS])
              clear hT
              have hol : (o ++ tx).length = o.length + (bs tx).size := by simp [bs_size]
              have hol2 : (o ++ tx).length ≤ 1000 := by simp; omega
              have hob : bvs o ++ bvs (bs tx).data.toList = bvs (o ++ tx) := by rw [bs_data, bvs_append]
              replace hq2 := hide hq2
              replace hol := hide hol
              replace hob := hide hob
              replace hol2 := hide hol2
              clear hst hno hcm hl3 h8 hap hmay h3 hts hq
              go_wp2_with fail
              refine (may_any ⟨3, 0, tx⟩ _).mono ?_
              rintro e w2 ⟨rfl, hb2⟩
              rw [unhide hmb]
              obtain ⟨d1, d2, d3⟩ := box_cells (x := ⟨3, 0, tx⟩) hb2
              have hown2 := hide (own_below hown (box_only hb2))
              have hbel2 := box_next hbel hb2
              have hz2 := hbel2.size
              go_wp2_with (at_builtin; refine wpList_appStr rfl (.tmp 57) (.tmp 58) _ _ rfl et61 Try.underlying9 w0.heap.size (.slice Ao o.length co) o.length (bvs o) rfl (unhide hown2) (bs tx) rfl ?_ hz2 ?_; omega; intro A4 c4 w4 hown4 hg4 hc4; obtain ⟨e1, e2, e3⟩ := box_after d1 d2 d3 hg4 (own_blk_ne (unhide hown2) (box_blk hb2) (by decide)))
              have hL2 := hL.below (box_only hb2)
              have hL4 := (hL2.grown hg4 (own_blk_ne (unhide hown2) hL2.blk (by decide)) (fun j hj => ⟨((unhide hown2).lt j hj).1, own_own_ne (unhide hown2) hL2.own (by decide) hj⟩)).keepRow hown4
              refine (tell31 ⟨3, 0, tx⟩ tx (unhide hal) (by omega) (by have := bs_size tx; omega) hL4).mono ?_
              rintro e w5 ⟨rfl, v5, hL5⟩
              go_wp2_with fail
              go_roundg (gk - 1)
              case measure => omega
              case rel =>
                refine ⟨k + 1, by go_num, by omega, by omega, p, o ++ tx, v5, _, by go_num, hp, unhide hol2, ?_, hL5.rekept _ (fun _ h => h.elim), unhide hq2, by rw [List.length_append, unhide hal]; rfl, unhide hT2⟩
                have := hL5.outKept hown4
                rw [unhide hob] at this
                rw [unhide hol]
                exact this
          · simp only at h1 h2 h3
            subst h3
            obtain ⟨m, rfl⟩ := Int.eq_ofNat_of_zero_le (show 0 ≤ nn by omega)
            have hpm : p + m ≤ la := by omega
            have e8 : ¬ (la : Int) - p < m := by omega
            have hts : ((a.drop p).take m).length = m := len_comes (unhide hla) hpm
            have hex : (bs a).extract p (p + m) = bs ((a.drop p).take m) := by rw [bs_extract, bs_data]
            have hpl : (p : Int) + m ≤ la := by omega
            have hpn : ((p : Int) + m).toNat = p + m := by omega
            have hbz : (bs ((a.drop p).take m)).size = m := by rw [bs_size, hts]
            rcases h1 with h1 | h1
            · subst h1
              have hcm : D.comes ⟨1, (m : Int), []⟩ (a.drop p) = (a.drop p).take m := by unfold D.comes; simp
              rw [hcm, hts] at hst hno
              by_cases hl3 : 1000 < o.length + m
              · have hq := hno hl3
                simp only [Prod.mk.injEq] at hq
                obtain ⟨rfl, rfl⟩ := hq
                have hl3' : (1000 : Int) - o.length < m := by omega
                clear hst hno hcm hl3 h8 hap hmay h2 hts
                generalize (a.drop p).take m = t at *
                go_wp2_with fail
                refine (may_any ⟨1, m, []⟩ _).mono ?_
                rintro e w2 ⟨rfl, hb2⟩
                rw [unhide hmb]
                obtain ⟨d1, d2, d3⟩ := box_cells (x := ⟨1, m, []⟩) hb2
                go_wp2_with fail
                go_ret2
                exact tres rfl v acc ((hL.below (box_only hb2)).rekept _ (fun _ h => h.elim)) (fun h => absurd h (by decide))
              · have hq := hst hl3
                have hl3' : ¬ (1000 : Int) - o.length < m := by omega
                have hq2 : D.doneF (a.drop (p + m)) (o ++ (a.drop p).take m) (l.drop (k + 1)) = (q, z) := by rw [List.drop_drop] at hq; exact hq
                have hT2 := hide (show (acc ++ [turnS ⟨1, m, []⟩ ((a.drop p).take m)]) ++ D.turns (a.drop (p + m)) (l.drop (k + 1)) = D.turns a l by rw [← hT]; simp [D.turns, D.turn, turnS, List.drop_drop])
                clear hT
                have hol : (o ++ (a.drop p).take m).length = o.length + (bs ((a.drop p).take m)).size := by simp [bs_size]
                have hol2 : (o ++ (a.drop p).take m).length ≤ 1000 := by rw [List.length_append, hts]; omega
                have hob : bvs o ++ bvs (bs ((a.drop p).take m)).data.toList = bvs (o ++ (a.drop p).take m) := by rw [bs_data, bvs_append]
                replace hq2 := hide hq2
                replace hol := hide hol
                replace hob := hide hob
                replace hol2 := hide hol2
                clear hst hno hcm hl3 h8 hap hmay h2 hts hq
                generalize (a.drop p).take m = t at *
                have hbz2 := hide hbz
                go_wp2_with fail
                refine (may_any ⟨1, m, []⟩ _).mono ?_
                rintro e w2 ⟨rfl, hb2⟩
                rw [unhide hmb]
                obtain ⟨d1, d2, d3⟩ := box_cells (x := ⟨1, m, []⟩) hb2
                have hown2 := hide (own_below hown (box_only hb2))
                have hbel2 := box_next hbel hb2
                have hz2 := hbel2.size
                go_wp2_with (at_builtin; refine wpList_appStr rfl (.tmp 57) (.tmp 58) _ _ rfl et61 Try.underlying9 w0.heap.size (.slice Ao o.length co) o.length (bvs o) rfl (unhide hown2) (bs t) rfl ?_ hz2 ?_; (have := unhide hbz2; omega); intro A4 c4 w4 hown4 hg4 hc4; obtain ⟨e1, e2, e3⟩ := box_after d1 d2 d3 hg4 (own_blk_ne (unhide hown2) (box_blk hb2) (by decide)); clear hbz; have hbz := 0)
                have hL2 := hL.below (box_only hb2)
                have hL4 := (hL2.grown hg4 (own_blk_ne (unhide hown2) hL2.blk (by decide)) (fun j hj => ⟨((unhide hown2).lt j hj).1, own_own_ne (unhide hown2) hL2.own (by decide) hj⟩)).keepRow hown4
                refine (tell31 ⟨1, m, []⟩ t (unhide hal) (by omega) (by have := bs_size t; have := unhide hbz2; omega) hL4).mono ?_
                rintro e w5 ⟨rfl, v5, hL5⟩
                go_wp2_with fail
                go_roundg (gk - 1)
                case measure => omega
                case rel =>
                  refine ⟨k + 1, by go_num, by omega, by omega, p + m, o ++ t, v5, _, by go_num, hpm, unhide hol2, ?_, hL5.rekept _ (fun _ h => h.elim), unhide hq2, by rw [List.length_append, unhide hal]; rfl, unhide hT2⟩
                  have := hL5.outKept hown4
                  rw [unhide hob] at this
                  rw [unhide hol]
                  exact this
            · subst h1
              have hcm : D.comes ⟨2, (m : Int), []⟩ (a.drop p) = [] := by unfold D.comes; simp
              rw [hcm] at hst
              have hq := hst (by simp; omega)
              have hq2 : D.doneF (a.drop (p + m)) o (l.drop (k + 1)) = (q, z) := by rw [List.drop_drop, List.append_nil] at hq; exact hq
              have hT2 := hide (show (acc ++ [turnS ⟨2, m, []⟩ ((a.drop p).take m)]) ++ D.turns (a.drop (p + m)) (l.drop (k + 1)) = D.turns a l by rw [← hT]; simp [D.turns, D.turn, turnS, List.drop_drop])
              clear hT
              replace hq2 := hide hq2
              clear hst hno hcm h8 hap hmay h2 hts hq
              generalize (a.drop p).take m = t at *
              go_wp2_with fail
              refine (may_any ⟨2, m, []⟩ _).mono ?_
              rintro e w2 ⟨rfl, hb2⟩
              rw [unhide hmb]
              obtain ⟨d1, d2, d3⟩ := box_cells (x := ⟨2, m, []⟩) hb2
              have hown2 := hide (own_below hown (box_only hb2))
              have hbel2 := box_next hbel hb2
              go_wp2_with fail
              have hL4 := (hL.below (box_only hb2)).keepRow (unhide hown2)
              refine (tell31 ⟨2, m, []⟩ t (unhide hal) (by omega) (by have := bs_size t; omega) hL4).mono ?_
              rintro e w5 ⟨rfl, v5, hL5⟩
              go_wp2_with fail
              go_roundg (gk - 1)
              case measure => omega
              case rel => exact ⟨k + 1, by go_num, by omega, by omega, p + m, o, v5, _, by go_num, hpm, ho, hL5.outKept (unhide hown2), hL5.rekept _ (fun _ h => h.elim), unhide hq2, by rw [List.length_append, unhide hal]; rfl, unhide hT2⟩
      · have hmb := hide (mayB_false hmay)
        rw [dn_1 hmay] at hq
        simp only [Prod.mk.injEq] at hq
        obtain ⟨rfl, rfl⟩ := hq
        clear hmay hap
        go_wp2_with fail
        refine (may_any x _).mono ?_
        rintro e w2 ⟨rfl, hb2⟩
        rw [unhide hmb]
        go_wp2_with fail
        go_ret2
        exact tres rfl v acc ((hL.below (box_only hb2)).rekept _ (fun _ h => h.elim)) (fun h => absurd h (by decide))
    · have hlt' : ¬ (k : Int) < n := by omega
      have hdn : l.drop k = [] := List.drop_eq_nil_of_le (by have := unhide hn; omega)
      rw [hdn, dn_end, unhide hla] at hq
      rw [hdn] at hT
      replace hT := hide hT
      by_cases hpe : la ≤ p
      · rw [if_pos hpe] at hq
        simp only [Prod.mk.injEq] at hq
        obtain ⟨rfl, rfl⟩ := hq
        have hpe' : ((p : Int) != (la : Int)) = false := by rw [bne_eq_false_iff_eq]; omega
        have hcv := run_conv61 (c := co) rfl (Reads.of_own hown)
        clear hpe
        go_wp2_with fail
        go_ret2
        exact tres rfl v acc hL (fun _ => by simpa [D.turns] using unhide hT)
      · rw [if_neg hpe] at hq
        simp only [Prod.mk.injEq] at hq
        obtain ⟨rfl, rfl⟩ := hq
        have hpe' : ((p : Int) != (la : Int)) = true := by rw [bne_iff_ne]; omega
        clear hpe
        go_wp2_with fail
        go_ret2
        exact tres rfl v acc hL (fun h => absurd h (by decide))

set_option maxRecDepth 100000 in
set_option maxHeartbeats 400000 in
theorem done31_long (a : List UInt8) (A : Option Addr) (n c : Nat) (w : World) (g : Nat) (ha : 1000 < a.length) (ha2 : a.length ≤ 140737488355328) :
    Calls Try.prog 27 #[.string (bs a), .slice A n c, .func (Fn.func 31) #[] #[.pointer (some ⟨g, 0, none⟩)]] w fun e w' => e = .returned (.tuple #[.string ⟨#[]⟩, .int .i64 3]) ∧ w = w' := by
  have hsa : (bs a).size = a.length := bs_size a
  have ha' : (1000 : Int) < (bs a).size := by omega
  clear hsa
  go_enter Try.func27, Try.ntmps27
  go_wp2_with fail
  go_ret2
  exact ⟨rfl, rfl⟩
theorem done31_any (a : List UInt8) (A : Option Addr) (l : List D.Ed) (n c : Nat) (w : World) (ha2 : a.length ≤ 140737488355328) (hn : l.length = n) (hn6 : n ≤ 4398046511000) (hok : ∀ x ∈ l, EdOk x) {w0 ws : World} {gl : Nat} {v0 : Value} (hL0 : Lv w0 ws (fun _ => False) w gl v0 []) (hr : Reads w0 w0.heap.size 3 A n (ecs l)) {q : List UInt8} {z : Nat} (hq : D.apply a l = (q, z)) :
    Calls Try.prog 27 #[.string (bs a), .slice A n c, .func (Fn.func 31) #[] #[.pointer (some ⟨gl, 0, none⟩)]] w fun e w' => TRes w0 gl a l q z e w' := by
  unfold D.apply at hq
  by_cases h : 1000 < a.length
  · rw [if_pos h] at hq
    simp only [Prod.mk.injEq] at hq
    obtain ⟨rfl, rfl⟩ := hq
    refine (done31_long a A n c w gl h ha2).mono ?_
    rintro e w' ⟨rfl, rfl⟩
    exact ⟨rfl, v0, [], hL0.rekept _ (fun _ h => h.elim), fun h => absurd h (by decide)⟩
  · rw [if_neg h] at hq
    exact done31_ok a _ A l n c w rfl (by omega) hn hn6 hok hL0 hr hq

set_option maxRecDepth 100000 in
set_option maxHeartbeats 1000000 in
/-- diff.Invert: the way back of any script on any text -/
theorem invert_any (a : List UInt8) (A : Option Addr) (l : List D.Ed) (n c : Nat) (w : World) (ha2 : a.length ≤ 140737488355328) (hn : l.length = n) (hn6 : n ≤ 4398046511000) (hok : ∀ x ∈ l, EdOk x) (hr : Reads w w.heap.size 3 A n (ecs l)) :
    Calls Try.prog 21 #[.string (bs a), .slice A n c] w fun e w' => MRes w (D.invert a l).1 (D.invert a l).2 e w' := by
  obtain ⟨q, z, hq⟩ : ∃ q z, D.apply a l = (q, z) := ⟨_, _, rfl⟩
  have hL0 : Lv w w (fun _ => False) (w.alloc (.cells #[.slice none 0 0] 22)) w.heap.size (.slice none 0 0) [] :=
    ⟨Blk.new w 22 _, World.ownsRow_nil _ _ _ _, by simp [Value.ownBlock], (Below.refl _ _).alloc (Nat.le_refl _) _, Nat.le_refl _, fun _ h => h.elim⟩
  have hd := hide (done31_any a A l n c (w.alloc (.cells #[.slice none 0 0] 22)) ha2 hn hn6 hok hL0 hr hq)
  clear hL0 hr hok hn
  unfold D.invert
  rw [hq]
  by_cases hz : z = 0
  · subst hz
    rw [if_neg (by simp)]
    clear hq
    go_enter Try.func21, Try.ntmps21
    go_wp2_with fail
    refine (unhide hd).mono ?_
    rintro e w2 ⟨rfl, v, acc, hL, hT⟩
    obtain rfl := hT rfl
    have c0 := hL.c0
    obtain ⟨A2, c2, rfl, _, _⟩ := own_form hL.own
    replace hL := hide hL
    go_wp2_with fail
    go_ret2
    exact ⟨_, _, rfl, (unhide hL).own, (unhide hL).bel⟩
  · rw [if_pos (by simpa using hz)]
    have hz' : ((z : Int) != 0) = true := by rw [bne_iff_ne]; omega
    clear hq hz
    go_enter Try.func21, Try.ntmps21
    go_wp2_with fail
    refine (unhide hd).mono ?_
    rintro e w2 ⟨rfl, v, acc, hL, _⟩
    replace hL := hide hL
    go_wp2_with fail
    go_ret2
    exact ⟨_, _, rfl, World.ownsRow_nil _ _ _ _, (unhide hL).bel⟩
end Go.Proofs.Ytakkjehmekekbaa

