/- The document's Same, told of two scripts that are the same, and its Apply: what any script does on any text. Conditions: texts of at most 2^47 bytes. -/
import Derived.Test.YtakkjehmekekbaaFWalks
import Derived.Laws.StructEq
namespace Go.Proofs.Ytakkjehmekekbaa
open Go.RowKit

theorem fields32' : Try.prog.underlying 32 = some (.struct (Try.prog.fieldsOf 32)) := by kernel_rfl
theorem held32 : Try.prog.stoodInHeld 32 = false := by kernel_rfl
theorem guard32 : Try.prog.eqGuardType Try.prog.depth 32 = false := by kernel_rfl
theorem flds32 : (Try.prog.fieldsOf 32).toList = [{ name := "Kind", type := 3, offset := 0, embedded := false, tag := "", pkgPath := "", byteOffset := 0 }, { name := "N", type := 3, offset := 1, embedded := false, tag := "", pkgPath := "", byteOffset := 8 }, { name := "Text", type := 9, offset := 2, embedded := false, tag := "", pkgPath := "", byteOffset := 16 }] := by kernel_rfl
theorem neq_same (k n : Int) (s : ByteArray) (w : World) : (binOp .neq 32 (.agg #[.int .i64 k, .int .i64 n, .string s]) (.agg #[.int .i64 k, .int .i64 n, .string s])).run Try.prog w = .ok (.bool false) w := by
  rw [run_neq_struct, show (10000 : Nat) = 9998 + 1 + 1 from rfl, run_equalIn_agg w _ 32 _ _ fields32' held32, flds32]
  have u3 : Try.prog.underlying 3 = some (.int .i64) := Try.underlying3
  have u9 : Try.prog.underlying 9 = some .string := Try.underlying9
  simp [go_sem, Op.eqFields, u3, u9]

set_option maxRecDepth 100000 in
set_option maxHeartbeats 1000000 in
/-- Same, told of two scripts that are the same -/
theorem same_any (A B : Option Addr) (l : List D.Ed) (n c d : Nat) (w : World) (hn : l.length = n) (hn6 : n ≤ 140737488355328) (hr : Reads w w.heap.size 3 A n (ecs l)) (hq : Reads w w.heap.size 3 B n (ecs l)) :
    Calls Try.prog 14 #[.slice A n c, .slice B n d] w fun e w' => e = .returned (.bool true) ∧ Below w.heap.size w w' := by
  replace hn := hide hn
  replace hr := hide hr
  replace hq := hide hq
  go_enter Try.func14, Try.ntmps14
  go_wp2_with fail
  go_loopw [4, 5] (fun _ i wr => ∃ k : Nat, i = .int .i64 k ∧ k ≤ n ∧ Below w.heap.size w wr) (fun _ i _ => n - (intOf i).toNat)
  case atStart => exact ⟨0, rfl, Nat.zero_le _, Below.refl _ _⟩
  case round =>
    obtain ⟨k, rfl, hk, hbw⟩ := hrel
    by_cases hlt : k < n
    · obtain ⟨ad, x, rfl, hx, hbl, c1, c2, c3⟩ := reads_ed (unhide hn) ((unhide hr).below hbw) hlt
      obtain ⟨bd, y, rfl, hy, hbl', d1, d2, d3⟩ := reads_ed (unhide hn) ((unhide hq).below hbw) hlt
      rw [hx] at hy
      injection hy with hy
      subst hy
      have hlt' : (k : Int) < n := by omega
      have hg := fun (o1 o2 : Operand) (w' : World) => run_eqGuard_agg w' .neq 32 o1 o2 #[.int .i64 x.kind, .int .i64 x.n, .string (bs x.text)] #[.int .i64 x.kind, .int .i64 x.n, .string (bs x.text)] guard32
      have hne := fun (w' : World) => neq_same x.kind x.n (bs x.text) w'
      clear hx
      go_wp2_with fail
      go_quiet (fail)
      go_wp2_with fail
      go_roundw
      case rel => exact ⟨k + 1, by go_num, by omega, below_drewN hbw _⟩
      case measure => simp [intOf]; omega
    · have hlt' : ¬ (k : Int) < n := by omega
      go_wp2_with fail
      go_ret
      exact ⟨rfl, hbw⟩

theorem ex_take {r : List UInt8} {m : Nat} : (bs r).extract 0 m = bs (r.take m) := by
  have := bs_extract (bs r) 0 m
  simpa [bs_data] using this
theorem ex_drop {r : List UInt8} {m lr : Nat} (hr : r.length = lr) (hm : m ≤ lr) : (bs r).extract m lr = bs (r.drop m) := by
  obtain ⟨d, rfl⟩ : ∃ d, lr = m + d := ⟨lr - m, by omega⟩
  rw [bs_extract, bs_data, List.take_of_length_le (by simp; omega)]
theorem bs_app (a b : List UInt8) : bs a ++ bs b = bs (a ++ b) := by
  apply ByteArray.ext
  simp [bs, ByteArray.data_append]

set_option maxRecDepth 100000 in
set_option maxHeartbeats 4000000 in
theorem rapply_ok (a : List UInt8) (A : Option Addr) (l : List D.Ed) (n c : Nat) (w : World) (ha : a.length ≤ 1000) (hn : l.length = n) (hn6 : n ≤ 140737488355328) (hok : ∀ x ∈ l, EdOk x) (hr : Reads w w.heap.size 3 A n (ecs l)) {q : List UInt8} {z : Nat} (hq : D.doneF a [] l = (q, z)) :
    Calls Try.prog 17 #[.string (bs a), .slice A n c] w fun e w' => e = .returned (.tuple #[.string (bs q), .int .i64 z]) ∧ Below w.heap.size w w' := by
  have hsa : (bs a).size = a.length := bs_size a
  have ha' : ¬ (1000 : Int) < a.length := by omega
  replace hn := hide hn
  replace hok := hide hok
  replace hr := hide hr
  have HN := hide (show ∃ (r o : List UInt8), Value.string (bs a) = .string (bs r) ∧ (Value.string ⟨#[]⟩ : Value) = .string (bs o) ∧ r.length ≤ 1000 ∧ o.length ≤ 1000 ∧ Below w.heap.size w w ∧ D.doneF r o (l.drop 0) = (q, z) from ⟨a, [], rfl, rfl, ha, by simp, Below.refl _ _, by simpa using hq⟩)
  clear hq
  go_enter Try.func17, Try.ntmps17
  go_wp2_with fail
  go_loopg [0, 6, 7, 8, 9] n (fun m at_ out i _ _ wr => ∃ k : Nat, i = .int .i64 k ∧ n ≤ m + k ∧ k ≤ n ∧ ∃ (r o : List UInt8), at_ = .string (bs r) ∧ out = .string (bs o) ∧ r.length ≤ 1000 ∧ o.length ≤ 1000 ∧ Below w.heap.size w wr ∧ D.doneF r o (l.drop k) = (q, z))
  case atStart => exact ⟨0, rfl, by omega, by omega, unhide HN⟩
  case round =>
    clear HN hsa ha'
    obtain ⟨k, rfl, hm, hk, r, o, rfl, rfl, hrl, hol, hbel, hq⟩ := hrel
    obtain ⟨lr, hlr⟩ : ∃ x, r.length = x := ⟨_, rfl⟩
    have hsr : (bs r).size = lr := by rw [bs_size, hlr]
    by_cases hlt : k < n
    · have hlt' : (k : Int) < n := by omega
      obtain ⟨ad, x, rfl, hx, hbl, c1, c2, c3⟩ := reads_ed (unhide hn) ((unhide hr).below hbel) hlt
      have hxo : EdOk x := (unhide hok) x (List.mem_of_getElem? hx)
      have hdr : l.drop k = x :: l.drop (k + 1) := by
        rw [List.getElem?_eq_some_iff] at hx
        obtain ⟨h1, h2⟩ := hx
        rw [← h2]; exact List.drop_eq_getElem_cons h1
      rw [hdr] at hq
      clear hx hdr
      by_cases hmay : D.may x
      · have hmb := hide (mayB_true hmay)
        by_cases h8 : (r.length : Int) < x.n
        · rw [dn_8 hmay h8] at hq
          simp only [Prod.mk.injEq] at hq
          obtain ⟨rfl, rfl⟩ := hq
          have h8' : (lr : Int) < x.n := by omega
          clear h8 hmay
          go_wp2_with fail
          refine (rmay_any x _).mono ?_
          rintro e w2 ⟨rfl, hb2⟩
          rw [unhide hmb]
          obtain ⟨d1, d2, d3⟩ := box_cells hb2
          go_wp2_with fail
          go_ret2
          exact ⟨rfl, box_next hbel hb2⟩
        · obtain ⟨kd, nn, tx⟩ := x
          have hst := fun h3 => (dn_0 (o := o) (l := l.drop (k + 1)) hmay h8 h3).symm.trans hq
          have hno := fun h3 => (dn_3 (o := o) (l := l.drop (k + 1)) hmay h8 h3).symm.trans hq
          have h0 : 0 ≤ nn := by rcases hmay with ⟨_, h, _⟩ | ⟨_, h, _⟩ <;> (simp only at h; omega)
          obtain ⟨m, rfl⟩ := Int.eq_ofNat_of_zero_le h0
          simp only [Int.toNat_natCast] at c1 c2 c3 h8 hst hno
          unfold EdOk at hxo
          simp only at hxo
          have e8 : ¬ (lr : Int) < m := by omega
          have hml : m ≤ lr := by omega
          have hx2 := hide (ex_drop hlr hml)
          clear hq hmay h0 h8
          by_cases h1 : kd = 1
          · subst h1
            have hcm : D.comes ⟨1, (m : Int), tx⟩ r = r.take m := by unfold D.comes; simp
            rw [hcm] at hst hno
            have htl : (r.take m).length = m := by simp; omega
            have hx1 := hide (ex_take (r := r) (m := m))
            by_cases hl3 : 1000 < o.length + (r.take m).length
            · have hq := hno hl3
              simp only [Prod.mk.injEq] at hq
              obtain ⟨rfl, rfl⟩ := hq
              have hap := bs_app o (r.take m)
              have haz : (bs (o ++ r.take m)).size = o.length + m := by rw [bs_size, List.length_append, htl]
              have hl3' : (1000 : Int) < (o.length : Int) + m := by omega
              have hsz : (bs (r.take m)).size = m := by rw [bs_size, htl]
              have hso : (bs o).size = o.length := bs_size o
              clear hst hno hcm hl3 htl
              generalize r.take m = t at *
              generalize r.drop m = u at *
              have hx1 := unhide hx1
              have hx2 := unhide hx2
              go_wp2_with fail
              refine (rmay_any ⟨1, m, tx⟩ _).mono ?_
              rintro e w2 ⟨rfl, hb2⟩
              rw [unhide hmb]
              obtain ⟨d1, d2, d3⟩ := box_cells (x := ⟨1, m, tx⟩) hb2
              go_wp2_with fail
              go_ret2
              exact ⟨rfl, box_next hbel hb2⟩
            · have hq := hst hl3
              have hap := bs_app o (r.take m)
              have haz : (bs (o ++ r.take m)).size = o.length + m := by rw [bs_size, List.length_append, htl]
              have hl3' : ¬ (1000 : Int) < (o.length : Int) + m := by omega
              have hsz : (bs (r.take m)).size = m := by rw [bs_size, htl]
              have hso : (bs o).size = o.length := bs_size o
              have ho2 := hide (show (o ++ r.take m).length ≤ 1000 by rw [List.length_append]; omega)
              have hr2 := hide (show (r.drop m).length ≤ 1000 by rw [List.length_drop]; omega)
              replace hq := hide hq
              clear hst hno hcm hl3 htl
              generalize r.take m = t at *
              generalize r.drop m = u at *
              have hx1 := unhide hx1
              have hx2 := unhide hx2
              go_wp2_with fail
              refine (rmay_any ⟨1, m, tx⟩ _).mono ?_
              rintro e w2 ⟨rfl, hb2⟩
              rw [unhide hmb]
              obtain ⟨d1, d2, d3⟩ := box_cells (x := ⟨1, m, tx⟩) hb2
              go_wp2_with fail
              go_roundg (gk - 1)
              case measure => omega
              case rel => exact ⟨k + 1, by go_num, by omega, by omega, u, o ++ t, rfl, rfl, unhide hr2, unhide ho2, box_next hbel hb2, unhide hq⟩
          · have hcm : D.comes ⟨kd, (m : Int), tx⟩ r = tx := by unfold D.comes; rw [if_neg h1]
            have h1' : (kd == 1) = false := beq_eq_false_iff_ne.2 h1
            rw [hcm] at hst hno
            have hts : (bs tx).size = tx.length := bs_size tx
            have hap := bs_app o tx
            have haz : (bs (o ++ tx)).size = o.length + tx.length := by rw [bs_size, List.length_append]
            have hso : (bs o).size = o.length := bs_size o
            by_cases hl3 : 1000 < o.length + tx.length
            · have hq := hno hl3
              simp only [Prod.mk.injEq] at hq
              obtain ⟨rfl, rfl⟩ := hq
              have hl3' : (1000 : Int) < (o.length : Int) + tx.length := by omega
              clear hst hno hcm hl3 h1
              generalize r.drop m = u at *
              have hx2 := unhide hx2
              go_wp2_with fail
              refine (rmay_any ⟨kd, m, tx⟩ _).mono ?_
              rintro e w2 ⟨rfl, hb2⟩
              rw [unhide hmb]
              obtain ⟨d1, d2, d3⟩ := box_cells (x := ⟨kd, m, tx⟩) hb2
              go_wp2_with fail
              go_ret2
              exact ⟨rfl, box_next hbel hb2⟩
            · have hq := hst hl3
              have hl3' : ¬ (1000 : Int) < (o.length : Int) + tx.length := by omega
              have ho2 := hide (show (o ++ tx).length ≤ 1000 by rw [List.length_append]; omega)
              have hr2 := hide (show (r.drop m).length ≤ 1000 by rw [List.length_drop]; omega)
              replace hq := hide hq
              clear hst hno hcm hl3 h1
              generalize r.drop m = u at *
              have hx2 := unhide hx2
              go_wp2_with fail
              refine (rmay_any ⟨kd, m, tx⟩ _).mono ?_
              rintro e w2 ⟨rfl, hb2⟩
              rw [unhide hmb]
              obtain ⟨d1, d2, d3⟩ := box_cells (x := ⟨kd, m, tx⟩) hb2
              go_wp2_with fail
              go_roundg (gk - 1)
              case measure => omega
              case rel => exact ⟨k + 1, by go_num, by omega, by omega, u, o ++ tx, rfl, rfl, unhide hr2, unhide ho2, box_next hbel hb2, unhide hq⟩
      · have hmb := hide (mayB_false hmay)
        rw [dn_1 hmay] at hq
        simp only [Prod.mk.injEq] at hq
        obtain ⟨rfl, rfl⟩ := hq
        clear hmay
        go_wp2_with fail
        refine (rmay_any x _).mono ?_
        rintro e w2 ⟨rfl, hb2⟩
        rw [unhide hmb]
        go_wp2_with fail
        go_ret2
        exact ⟨rfl, box_next hbel hb2⟩
    · have hlt' : ¬ (k : Int) < n := by omega
      have hdn : l.drop k = [] := List.drop_eq_nil_of_le (by have := unhide hn; omega)
      rw [hdn, D.doneF] at hq
      by_cases hre : r = []
      · rw [if_pos hre] at hq
        simp only [Prod.mk.injEq] at hq
        obtain ⟨rfl, rfl⟩ := hq
        have he := txt_yes hre
        clear hre hlr hsr
        go_wp2_with fail
        go_ret2
        exact ⟨rfl, hbel⟩
      · rw [if_neg hre] at hq
        simp only [Prod.mk.injEq] at hq
        obtain ⟨rfl, rfl⟩ := hq
        have he := txt_no hre
        clear hre hlr hsr
        go_wp2_with fail
        go_ret2
        exact ⟨rfl, hbel⟩

set_option maxRecDepth 100000 in
set_option maxHeartbeats 400000 in
theorem rapply_long (a : List UInt8) (A : Option Addr) (n c : Nat) (w : World) (ha : 1000 < a.length) (ha2 : a.length ≤ 140737488355328) :
    Calls Try.prog 17 #[.string (bs a), .slice A n c] w fun e w' => e = .returned (.tuple #[.string ⟨#[]⟩, .int .i64 3]) ∧ Below w.heap.size w w' := by
  have hsa : (bs a).size = a.length := bs_size a
  have ha' : (1000 : Int) < (bs a).size := by omega
  clear hsa
  go_enter Try.func17, Try.ntmps17
  go_wp2_with fail
  go_ret2
  exact ⟨rfl, Below.refl _ _⟩
/-- the document's Apply -/
theorem rapply_any (a : List UInt8) (A : Option Addr) (l : List D.Ed) (n c : Nat) (w : World) (ha2 : a.length ≤ 140737488355328) (hn : l.length = n) (hn6 : n ≤ 140737488355328) (hok : ∀ x ∈ l, EdOk x) (hr : Reads w w.heap.size 3 A n (ecs l)) {q : List UInt8} {z : Nat} (hq : D.apply a l = (q, z)) :
    Calls Try.prog 17 #[.string (bs a), .slice A n c] w fun e w' => e = .returned (.tuple #[.string (bs q), .int .i64 z]) ∧ Below w.heap.size w w' := by
  unfold D.apply at hq
  by_cases h : 1000 < a.length
  · rw [if_pos h] at hq
    simp only [Prod.mk.injEq] at hq
    obtain ⟨rfl, rfl⟩ := hq
    exact rapply_long a A n c w h ha2
  · rw [if_neg h] at hq
    exact rapply_ok a A l n c w (by omega) hn hn6 hok hr hq
end Go.Proofs.Ytakkjehmekekbaa
