/- diff.done, told to nobody: what a script does on a text. -/
import Derived.Test.YtakkjehmekekbaaMake
import Derived.Lib.AppendStr
namespace Go.Proofs.Ytakkjehmekekbaa
open Go.RowKit

theorem info5 : (Try.prog.info? 5).map (fun i => (i.zero, i.size, i.bytes)) = some (some (.int .u8 0), 1, 1) := by kernel_rfl
theorem et61 : ET Try.prog 61 5 (.int .u8 0) 1 := ⟨Try.underlying61, info_parts info5, rfl⟩
/-- 'append(v, s...)', s a string, onto a row of bytes of the call's own -/
theorem wpList_appStr {P : Program} {w : World} {ops : Array Oper} {rest : List Oper} {o : Oper} {a : Act} {Q : Exit → Act → World → Prop} (hgd : o.guard = none) (sl x : Operand) (t u : TypeId)
    (ho : o.op = .call { callee := .builtin .append, args := #[sl, x], argTypes := #[t, u] })
    {e : TypeId} (et : ET P t e (.int .u8 0) 1) (hu : P.underlying u = some .string) (base : Nat)
    (v : Value) (n : Nat) (xs : List Value) (hs : a.eval sl = v) (hown : w.ownsRow base e 1 v n xs) (s : ByteArray) (hx : a.eval x = .string s)
    (hbytes : n + s.size ≤ 140737488355328) (hbase : base ≤ w.heap.size)
    (h : ∀ A' c' w', w'.ownsRow base e 1 (.slice A' (n + s.size) c') (n + s.size) (xs ++ bvs s.data.toList) → w.grownBy w' v.ownBlock → n + s.size ≤ c' → wpList P ops Q rest (a.put o.dst (.slice A' (n + s.size) c')) w') :
    wpList P ops Q (o :: rest) a w := by
  obtain ⟨i, hi, hz0, hz1, hz2⟩ := et.hi
  refine Lib.wpList_append_own_string w hgd sl x t u ho base e i et.ht hu hi hz0 hz1 hz2 v n xs hs hown s hx (by simp only [maxLen]; omega) hbytes hbase fun v' w' h2 h3 _ => ?_
  obtain ⟨A', c', rfl, hc, _⟩ := own_form h2
  exact h A' c' w' h2 h3 hc

set_option maxRecDepth 100000 in
set_option maxHeartbeats 400000 in
theorem tell28 (x : D.Ed) (s : ByteArray) (w : World) :
    Calls Try.prog 28 #[ev x, .string s] w fun e w' => e = .returned (.tuple #[]) ∧ Below w.heap.size w w' := by
  unfold ev
  go_enter Try.func28, Try.ntmps28
  go_wp2
  go_end0
  exact ⟨rfl, (Below.refl _ _).alloc (Nat.le_refl _) _⟩

/-- a row of bytes of the call's own, behind new memory -/
theorem own_below {w w' : World} {base n : Nat} {e : TypeId} {size : Nat} {v : Value} {xs : List Value} (h : w.ownsRow base e size v n xs) (hb : Below w.heap.size w w') : w'.ownsRow base e size v n xs :=
  h.kept (only_of_below hb none) (by cases hv : v.ownBlock <;> simp)
theorem box_next {w0 wr w2 : World} {o : Obj} (h : Below w0.heap.size w0 wr) (hb : Below (wr.alloc o).heap.size (wr.alloc o) w2) : Below w0.heap.size w0 w2 := box_below h hb
theorem box_only {wr w2 : World} {o : Obj} (hb : Below (wr.alloc o).heap.size (wr.alloc o) w2) : Below wr.heap.size wr w2 := ((Below.refl _ _).alloc (Nat.le_refl _) o).trans (hb.mono (by simp))
theorem run_conv61 {w : World} {A : Option Addr} {l : List UInt8} {n c B : Nat} (hn : l.length = n) (hr : Reads w B 1 A n (bvs l)) : (convert 61 9 (.slice A n c)).run Try.prog w = .ok (.string (bs l)) w :=
  run_conv_readsN Try.underlying61 Try.underlying5 l n c hn hr 9 Try.underlying9
theorem len_comes {m : Nat} {a : List UInt8} {p la : Nat} (ha : a.length = la) (h : p + m ≤ la) : ((a.drop p).take m).length = m := by simp; omega

/-- what the loop of done has at its head -/
def NRel (w : World) (la : Nat) (a : List UInt8) (l : List D.Ed) (q : List UInt8) (z k : Nat) (at_ : Value) (out : Value) (wr : World) : Prop :=
  ∃ (p : Nat) (o : List UInt8), at_ = .int .i64 p ∧ p ≤ la ∧ o.length ≤ 1000 ∧ wr.ownsRow w.heap.size 5 1 out o.length (bvs o) ∧ Below w.heap.size w wr ∧ D.doneF (a.drop p) o (l.drop k) = (q, z)
/-- the steps of the document's reckoning -/
theorem dn_end {a o : List UInt8} {p : Nat} : D.doneF (a.drop p) o [] = if a.length ≤ p then (o, 0) else ([], 8) := by
  rw [D.doneF]
  by_cases h : a.length ≤ p
  · rw [if_pos h, if_pos (List.drop_eq_nil_of_le h)]
  · rw [if_neg h, if_neg (by intro h0; have := congrArg List.length h0; simp at this; omega)]
theorem dn_1 {a o : List UInt8} {x : D.Ed} {l : List D.Ed} (h : ¬ D.may x) : D.doneF a o (x :: l) = ([], 1) := by rw [D.doneF, if_pos h]
theorem dn_8 {a o : List UInt8} {x : D.Ed} {l : List D.Ed} (h : D.may x) (h8 : (a.length : Int) < x.n) : D.doneF a o (x :: l) = ([], 8) := by rw [D.doneF, if_neg (by simpa using h), if_pos h8]
theorem dn_3 {a o : List UInt8} {x : D.Ed} {l : List D.Ed} (h : D.may x) (h8 : ¬ (a.length : Int) < x.n) (h3 : 1000 < o.length + (D.comes x a).length) : D.doneF a o (x :: l) = ([], 3) := by rw [D.doneF, if_neg (by simpa using h), if_neg h8, if_pos h3]
theorem dn_0 {a o : List UInt8} {x : D.Ed} {l : List D.Ed} (h : D.may x) (h8 : ¬ (a.length : Int) < x.n) (h3 : ¬ 1000 < o.length + (D.comes x a).length) : D.doneF a o (x :: l) = D.doneF (a.drop x.n.toNat) (o ++ D.comes x a) l := by rw [D.doneF, if_neg (by simpa using h), if_neg h8, if_neg h3]

theorem box_blk {w w2 : World} {o : Array Value} {t : TypeId} (hb : Below (w.alloc (.cells o t)).heap.size (w.alloc (.cells o t)) w2) : Blk w2 w.heap.size t o := (Blk.new w t o).below hb (by simp)
theorem box_after {w2 w4 : World} {g : Nat} {row : Option Nat} {x1 x2 x3 : Value} (d1 : w2.cell? ⟨g, 0, none⟩ = some x1) (d2 : w2.cell? ⟨g, 1, none⟩ = some x2) (d3 : w2.cell? ⟨g, 2, none⟩ = some x3) (hg : w2.grownBy w4 row) (hne : row ≠ some g) :
    w4.cell? ⟨g, 0, none⟩ = some x1 ∧ w4.cell? ⟨g, 1, none⟩ = some x2 ∧ w4.cell? ⟨g, 2, none⟩ = some x3 :=
  ⟨hg.cell d1 (fun e => hne e.symm), hg.cell d2 (fun e => hne e.symm), hg.cell d3 (fun e => hne e.symm)⟩

set_option maxRecDepth 100000 in
set_option maxHeartbeats 8000000 in
theorem done28_ok (a : List UInt8) (la : Nat) (A : Option Addr) (l : List D.Ed) (n c : Nat) (w : World) (hla : a.length = la) (ha : la ≤ 1000) (hn : l.length = n) (hn6 : n ≤ 140737488355328) (hok : ∀ x ∈ l, EdOk x) (hr : Reads w w.heap.size 3 A n (ecs l)) {q : List UInt8} {z : Nat} (hq : D.doneF a [] l = (q, z)) :
    Calls Try.prog 27 #[.string (bs a), .slice A n c, .func (Fn.func 28) #[] #[]] w fun e w' => e = .returned (.tuple #[.string (bs q), .int .i64 z]) ∧ Below w.heap.size w w' := by
  have hsa : (bs a).size = la := by rw [bs_size, hla]
  have ha' : ¬ (1000 : Int) < la := by omega
  replace hla := hide hla
  replace hn := hide hn
  replace hok := hide hok
  replace hr := hide hr
  have HN := hide (show NRel w la a l q z 0 (.int .i64 0) (.slice none 0 0) w from ⟨0, [], rfl, by omega, by simp, World.ownsRow_nil _ _ _ _, Below.refl _ _, by simpa using hq⟩)
  clear hq
  go_enter Try.func27, Try.ntmps27
  go_wp2_with fail
  go_loopg [8, 9, 11, 12, 18] n (fun m at_ out _ _ i wr => ∃ k : Nat, i = .int .i64 k ∧ n ≤ m + k ∧ k ≤ n ∧ NRel w la a l q z k at_ out wr)
  case atStart => exact ⟨0, rfl, by omega, by omega, unhide HN⟩
  case round =>
    clear HN
    obtain ⟨k, rfl, hm, hk, p, o, rfl, hp, ho, hown, hbel, hq⟩ := hrel
    obtain ⟨Ao, co, rfl, hco, _⟩ := own_form hown
    by_cases hlt : k < n
    · have hlt' : (k : Int) < n := by omega
      obtain ⟨ad, x, rfl, hx, hbl, c1, c2, c3⟩ := reads_ed (unhide hn) ((unhide hr).below hbel) hlt
      have hxo : EdOk x := (unhide hok) x (List.mem_of_getElem? hx)
      have hdr : l.drop k = x :: l.drop (k + 1) := by
        rw [List.getElem?_eq_some_iff] at hx
        obtain ⟨h1, h2⟩ := hx
        rw [← h2]; exact List.drop_eq_getElem_cons h1
      rw [hdr] at hq
      have hap : (a.drop p).length = la - p := by rw [List.length_drop, unhide hla]
      clear hx hdr
      by_cases hmay : D.may x
      · have hmb := hide (mayB_true hmay)
        by_cases h8 : ((a.drop p).length : Int) < x.n
        · rw [dn_8 hmay h8] at hq
          simp only [Prod.mk.injEq] at hq
          obtain ⟨rfl, rfl⟩ := hq
          have h8' : (la : Int) - p < x.n := by omega
          clear h8 hap hmay
          go_wp2_with fail
          refine (may_any x _).mono ?_
          rintro e w2 ⟨rfl, hb2⟩
          rw [unhide hmb]
          obtain ⟨d1, d2, d3⟩ := box_cells hb2
          go_wp2_with fail
          go_ret2
          exact ⟨rfl, box_next hbel hb2⟩
        · obtain ⟨kd, nn, tx⟩ := x
          have hst := fun h3 => (dn_0 (o := o) (l := l.drop (k + 1)) hmay h8 h3).symm.trans hq
          have hno := fun h3 => (dn_3 (o := o) (l := l.drop (k + 1)) hmay h8 h3).symm.trans hq
          simp only at c1 c2 c3 h8 hst hno
          unfold EdOk at hxo
          simp only at hxo
          have hmc := hmay
          clear hq
          rcases hmc with ⟨h1, h2, h3⟩ | ⟨h1, h2, h3⟩
          · simp only at h1 h2 h3
            subst h1 h2
            have hcm : D.comes ⟨3, 0, tx⟩ (a.drop p) = tx := by unfold D.comes; simp
            rw [hcm] at hst hno
            have e8 : ¬ (la : Int) - p < 0 := by omega
            have hts : (bs tx).size = tx.length := bs_size tx
            have hpl : (p : Int) ≤ la := by omega
            by_cases hl3 : 1000 < o.length + tx.length
            · have hq := hno hl3
              simp only [Prod.mk.injEq] at hq
              obtain ⟨rfl, rfl⟩ := hq
              have hl3' : (1000 : Int) - o.length < (bs tx).size := by omega
              have hts2 : (bs tx).size ≤ 140737488355328 := by omega
              clear hst hno hcm hl3 h8 hap hmay h3 hts
              go_wp2_with fail
              refine (may_any ⟨3, 0, tx⟩ _).mono ?_
              rintro e w2 ⟨rfl, hb2⟩
              rw [unhide hmb]
              obtain ⟨d1, d2, d3⟩ := box_cells (x := ⟨3, 0, tx⟩) hb2
              go_wp2_with fail
              go_ret2
              exact ⟨rfl, box_next hbel hb2⟩
            · have hq := hst hl3
              have hl3' : ¬ (1000 : Int) - o.length < (bs tx).size := by omega
              have hts2 : (bs tx).size ≤ 1000 := by omega
              have hq2 : D.doneF (a.drop p) (o ++ tx) (l.drop (k + 1)) = (q, z) := by simpa using hq
              have hol : (o ++ tx).length = o.length + (bs tx).size := by simp [bs_size]
              have hol2 : (o ++ tx).length ≤ 1000 := by simp; omega
              have hob : bvs o ++ bvs (bs tx).data.toList = bvs (o ++ tx) := by rw [bs_data, bvs_append]
              replace hq2 := hide hq2
              replace hol := hide hol
              replace hob := hide hob
              replace hol2 := hide hol2
              clear hst hno hcm hl3 h8 hap hmay h3 hts hq
              go_wp2_with fail
              refine (may_any ⟨3, 0, tx⟩ _).mono ?_
              rintro e w2 ⟨rfl, hb2⟩
              rw [unhide hmb]
              obtain ⟨d1, d2, d3⟩ := box_cells (x := ⟨3, 0, tx⟩) hb2
              have hown2 := hide (own_below hown (box_only hb2))
              have hbel2 := box_next hbel hb2
              have hz2 := hbel2.size
              go_wp2_with (at_builtin; refine wpList_appStr rfl (.tmp 57) (.tmp 58) _ _ rfl et61 Try.underlying9 w.heap.size (.slice Ao o.length co) o.length (bvs o) rfl (unhide hown2) (bs tx) rfl ?_ hz2 ?_; omega; intro A4 c4 w4 hown4 hg4 hc4; obtain ⟨e1, e2, e3⟩ := box_after d1 d2 d3 hg4 (own_blk_ne (unhide hown2) (box_blk hb2) (by decide)))
              have hbel4 := hbel2.grown hg4 hz2 (fun j hj => ((unhide hown2).lt j hj).1)
              refine (tell28 ⟨3, 0, tx⟩ (bs tx) _).mono ?_
              rintro e w5 ⟨rfl, hb5⟩
              go_wp2_with fail
              go_roundg (gk - 1)
              case measure => omega
              case rel =>
                refine ⟨k + 1, by go_num, by omega, by omega, p, o ++ tx, by go_num, hp, unhide hol2, ?_, hbel4.trans (hb5.mono hbel4.size), unhide hq2⟩
                have := own_below hown4 hb5
                rw [unhide hob] at this
                rw [unhide hol]
                exact this
          · simp only at h1 h2 h3
            subst h3
            obtain ⟨m, rfl⟩ := Int.eq_ofNat_of_zero_le (show 0 ≤ nn by omega)
            have hpm : p + m ≤ la := by omega
            have e8 : ¬ (la : Int) - p < m := by omega
            have hts : ((a.drop p).take m).length = m := len_comes (unhide hla) hpm
            have hex : (bs a).extract p (p + m) = bs ((a.drop p).take m) := by rw [bs_extract, bs_data]
            have hpl : (p : Int) + m ≤ la := by omega
            have hpn : ((p : Int) + m).toNat = p + m := by omega
            have hbz : (bs ((a.drop p).take m)).size = m := by rw [bs_size, hts]
            rcases h1 with h1 | h1
            · subst h1
              have hcm : D.comes ⟨1, (m : Int), []⟩ (a.drop p) = (a.drop p).take m := by unfold D.comes; simp
              rw [hcm, hts] at hst hno
              by_cases hl3 : 1000 < o.length + m
              · have hq := hno hl3
                simp only [Prod.mk.injEq] at hq
                obtain ⟨rfl, rfl⟩ := hq
                have hl3' : (1000 : Int) - o.length < m := by omega
                clear hst hno hcm hl3 h8 hap hmay h2 hts
                generalize (a.drop p).take m = t at *
                go_wp2_with fail
                refine (may_any ⟨1, m, []⟩ _).mono ?_
                rintro e w2 ⟨rfl, hb2⟩
                rw [unhide hmb]
                obtain ⟨d1, d2, d3⟩ := box_cells (x := ⟨1, m, []⟩) hb2
                go_wp2_with fail
                go_ret2
                exact ⟨rfl, box_next hbel hb2⟩
              · have hq := hst hl3
                have hl3' : ¬ (1000 : Int) - o.length < m := by omega
                have hq2 : D.doneF (a.drop (p + m)) (o ++ (a.drop p).take m) (l.drop (k + 1)) = (q, z) := by rw [List.drop_drop] at hq; exact hq
                have hol : (o ++ (a.drop p).take m).length = o.length + (bs ((a.drop p).take m)).size := by simp [bs_size]
                have hol2 : (o ++ (a.drop p).take m).length ≤ 1000 := by rw [List.length_append, hts]; omega
                have hob : bvs o ++ bvs (bs ((a.drop p).take m)).data.toList = bvs (o ++ (a.drop p).take m) := by rw [bs_data, bvs_append]
                replace hq2 := hide hq2
                replace hol := hide hol
                replace hob := hide hob
                replace hol2 := hide hol2
                clear hst hno hcm hl3 h8 hap hmay h2 hts hq
                generalize (a.drop p).take m = t at *
                have hbz2 := hide hbz
                go_wp2_with fail
                refine (may_any ⟨1, m, []⟩ _).mono ?_
                rintro e w2 ⟨rfl, hb2⟩
                rw [unhide hmb]
                obtain ⟨d1, d2, d3⟩ := box_cells (x := ⟨1, m, []⟩) hb2
                have hown2 := hide (own_below hown (box_only hb2))
                have hbel2 := box_next hbel hb2
                have hz2 := hbel2.size
                go_wp2_with (at_builtin; refine wpList_appStr rfl (.tmp 57) (.tmp 58) _ _ rfl et61 Try.underlying9 w.heap.size (.slice Ao o.length co) o.length (bvs o) rfl (unhide hown2) (bs t) rfl ?_ hz2 ?_; (have := unhide hbz2; omega); intro A4 c4 w4 hown4 hg4 hc4; obtain ⟨e1, e2, e3⟩ := box_after d1 d2 d3 hg4 (own_blk_ne (unhide hown2) (box_blk hb2) (by decide)); clear hbz; have hbz := 0)
                have hbel4 := hbel2.grown hg4 hz2 (fun j hj => ((unhide hown2).lt j hj).1)
                refine (tell28 ⟨1, m, []⟩ (bs t) _).mono ?_
                rintro e w5 ⟨rfl, hb5⟩
                go_wp2_with fail
                go_roundg (gk - 1)
                case measure => omega
                case rel =>
                  refine ⟨k + 1, by go_num, by omega, by omega, p + m, o ++ t, by go_num, hpm, unhide hol2, ?_, hbel4.trans (hb5.mono hbel4.size), unhide hq2⟩
                  have := own_below hown4 hb5
                  rw [unhide hob] at this
                  rw [unhide hol]
                  exact this
            · subst h1
              have hcm : D.comes ⟨2, (m : Int), []⟩ (a.drop p) = [] := by unfold D.comes; simp
              rw [hcm] at hst
              have hq := hst (by simp; omega)
              have hq2 : D.doneF (a.drop (p + m)) o (l.drop (k + 1)) = (q, z) := by rw [List.drop_drop, List.append_nil] at hq; exact hq
              replace hq2 := hide hq2
              clear hst hno hcm h8 hap hmay h2 hts hq
              generalize (a.drop p).take m = t at *
              go_wp2_with fail
              refine (may_any ⟨2, m, []⟩ _).mono ?_
              rintro e w2 ⟨rfl, hb2⟩
              rw [unhide hmb]
              obtain ⟨d1, d2, d3⟩ := box_cells (x := ⟨2, m, []⟩) hb2
              have hown2 := hide (own_below hown (box_only hb2))
              have hbel2 := box_next hbel hb2
              go_wp2_with fail
              refine (tell28 ⟨2, m, []⟩ (bs t) _).mono ?_
              rintro e w5 ⟨rfl, hb5⟩
              go_wp2_with fail
              go_roundg (gk - 1)
              case measure => omega
              case rel => exact ⟨k + 1, by go_num, by omega, by omega, p + m, o, by go_num, hpm, ho, own_below (unhide hown2) hb5, hbel2.trans (hb5.mono hbel2.size), unhide hq2⟩
      · have hmb := hide (mayB_false hmay)
        rw [dn_1 hmay] at hq
        simp only [Prod.mk.injEq] at hq
        obtain ⟨rfl, rfl⟩ := hq
        clear hmay hap
        go_wp2_with fail
        refine (may_any x _).mono ?_
        rintro e w2 ⟨rfl, hb2⟩
        rw [unhide hmb]
        go_wp2_with fail
        go_ret2
        exact ⟨rfl, box_next hbel hb2⟩
    · have hlt' : ¬ (k : Int) < n := by omega
      have hdn : l.drop k = [] := List.drop_eq_nil_of_le (by have := unhide hn; omega)
      rw [hdn, dn_end, unhide hla] at hq
      by_cases hpe : la ≤ p
      · rw [if_pos hpe] at hq
        simp only [Prod.mk.injEq] at hq
        obtain ⟨rfl, rfl⟩ := hq
        have hpe' : ((p : Int) != (la : Int)) = false := by rw [bne_eq_false_iff_eq]; omega
        have hcv := run_conv61 (c := co) rfl (Reads.of_own hown)
        clear hpe
        go_wp2_with fail
        go_ret2
        exact ⟨rfl, hbel⟩
      · rw [if_neg hpe] at hq
        simp only [Prod.mk.injEq] at hq
        obtain ⟨rfl, rfl⟩ := hq
        have hpe' : ((p : Int) != (la : Int)) = true := by rw [bne_iff_ne]; omega
        clear hpe
        go_wp2_with fail
        go_ret2
        exact ⟨rfl, hbel⟩

set_option maxRecDepth 100000 in
set_option maxHeartbeats 400000 in
theorem done28_long (a : List UInt8) (A : Option Addr) (n c : Nat) (w : World) (ha : 1000 < a.length) (ha2 : a.length ≤ 140737488355328) :
    Calls Try.prog 27 #[.string (bs a), .slice A n c, .func (Fn.func 28) #[] #[]] w fun e w' => e = .returned (.tuple #[.string ⟨#[]⟩, .int .i64 3]) ∧ Below w.heap.size w w' := by
  have hsa : (bs a).size = a.length := bs_size a
  have ha' : (1000 : Int) < (bs a).size := by omega
  clear hsa
  go_enter Try.func27, Try.ntmps27
  go_wp2_with fail
  go_ret2
  exact ⟨rfl, Below.refl _ _⟩
theorem done28_any (a : List UInt8) (A : Option Addr) (l : List D.Ed) (n c : Nat) (w : World) (ha2 : a.length ≤ 140737488355328) (hn : l.length = n) (hn6 : n ≤ 140737488355328) (hok : ∀ x ∈ l, EdOk x) (hr : Reads w w.heap.size 3 A n (ecs l)) {q : List UInt8} {z : Nat} (hq : D.apply a l = (q, z)) :
    Calls Try.prog 27 #[.string (bs a), .slice A n c, .func (Fn.func 28) #[] #[]] w fun e w' => e = .returned (.tuple #[.string (bs q), .int .i64 z]) ∧ Below w.heap.size w w' := by
  unfold D.apply at hq
  by_cases h : 1000 < a.length
  · rw [if_pos h] at hq
    simp only [Prod.mk.injEq] at hq
    obtain ⟨rfl, rfl⟩ := hq
    exact done28_long a A n c w h ha2
  · rw [if_neg h] at hq
    exact done28_ok a _ A l n c w rfl (by omega) hn hn6 hok hr hq

set_option maxRecDepth 100000 in
set_option maxHeartbeats 400000 in
/-- diff.Apply: what the document says -/
theorem apply_any (a : List UInt8) (A : Option Addr) (l : List D.Ed) (n c : Nat) (w : World) (ha2 : a.length ≤ 140737488355328) (hn : l.length = n) (hn6 : n ≤ 140737488355328) (hok : ∀ x ∈ l, EdOk x) (hr : Reads w w.heap.size 3 A n (ecs l)) {q : List UInt8} {z : Nat} (hq : D.apply a l = (q, z)) :
    Calls Try.prog 16 #[.string (bs a), .slice A n c] w fun e w' => e = .returned (.tuple #[.string (bs q), .int .i64 z]) ∧ Below w.heap.size w w' := by
  have hc := hide (done28_any a A l n c w ha2 hn hn6 hok hr hq)
  clear hr hq hok hn
  go_enter Try.func16, Try.ntmps16
  go_wp2_with fail
  refine (unhide hc).mono ?_
  rintro e w2 ⟨rfl, hb2⟩
  go_wp2_with fail
  go_ret2
  exact ⟨rfl, hb2⟩
end Go.Proofs.Ytakkjehmekekbaa

