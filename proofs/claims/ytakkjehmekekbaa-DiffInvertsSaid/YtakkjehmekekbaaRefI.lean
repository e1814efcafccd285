/- The document's Invert: the way back of any script on any text. Conditions: a script of at most 2^20 edits, a text of at most 2^47 bytes. -/
import Derived.Test.YtakkjehmekekbaaDone31
namespace Go.Proofs.Ytakkjehmekekbaa
open Go.RowKit

/-- what the loop has at its head -/
def VRel (w : World) (l : List D.Ed) (T : List D.Ed) (k : Nat) (at_ out : Value) (wr : World) : Prop :=
  ∃ (r rest : List UInt8) (acc : List D.Ed), at_ = .string (bs r) ∧ r.length ≤ 1000 ∧ D.Does (l.drop k) r rest ∧ acc.length = k ∧ wr.ownsRow w.heap.size 32 3 out k (ecs acc) ∧ Below w.heap.size w wr ∧ acc ++ D.turns r (l.drop k) = T
/-- one step of a script that does its work -/
theorem does_step {x : D.Ed} {l : List D.Ed} {r rest : List UInt8} (h : D.Does (x :: l) r rest) :
    ∃ m : Nat, x.n = m ∧ m ≤ r.length ∧ (∃ rest', D.Does l (r.drop m) rest') ∧ ((x.kind = 1 ∧ D.turn x r = x) ∨ (x.kind = 2 ∧ D.turn x r = ⟨3, 0, r.take m⟩) ∨ (x.kind = 3 ∧ D.turn x r = ⟨2, x.text.length, []⟩)) := by
  cases h with
  | keep s hs h => exact ⟨s.length, rfl, by simp, ⟨_, by simpa using h⟩, .inl ⟨rfl, by simp [D.turn]⟩⟩
  | cut s hs h => exact ⟨s.length, rfl, by simp, ⟨_, by simpa using h⟩, .inr (.inl ⟨rfl, by simp [D.turn]⟩)⟩
  | put s hs h => exact ⟨0, rfl, by simp, ⟨_, by simpa using h⟩, .inr (.inr ⟨rfl, by simp [D.turn]⟩)⟩
theorem lt_not {w : World} {base n : Nat} {e : TypeId} {size : Nat} {v : Value} {xs : List Value} (h : w.ownsRow base e size v n xs) : v.ownBlock ≠ some w.heap.size := fun hk => by
  have := (h.lt _ hk).2; omega
theorem two_boxes {w : World} {x : D.Ed} {o : Obj} : ((w.alloc (.cells #[.int .i64 x.kind, .int .i64 x.n, .string (bs x.text)] 32)).alloc o).cell? ⟨w.heap.size, 1, none⟩ = some (.int .i64 x.n) :=
  (box_cells (w := w) (x := x) ((Below.refl _ _).alloc (Nat.le_refl _) o)).2.1
theorem v_next {w wr w4 : World} {o1 o2 : Obj} {n : Nat} {v v' : Value} {xs : List Value} (hbel : Below w.heap.size w wr) (hown : wr.ownsRow w.heap.size 32 3 v n xs) (hgr : Gr ((wr.alloc o1).alloc o2) w4 v v') : Below w.heap.size w w4 := by
  have b1 := (hbel.alloc hbel.size o1)
  have b2 := (b1.alloc b1.size o2)
  exact b2.trans (hgr.below (by have := hbel.size; simp; omega) (fun k hk => (hown.lt k hk).1))

set_option maxRecDepth 100000 in
set_option maxHeartbeats 4000000 in
theorem rinvert_ok (a : List UInt8) (A : Option Addr) (l : List D.Ed) (n c : Nat) (w : World) (ha : a.length ≤ 1000) (hn : l.length = n) (hn6 : n ≤ 4398046511000) (hok : ∀ x ∈ l, EdOk x) (hr : Reads w w.heap.size 3 A n (ecs l)) {q : List UInt8} (hq : D.apply a l = (q, 0)) :
    Calls Try.prog 22 #[.string (bs a), .slice A n c] w fun e w' => MRes w (D.turns a l) 0 e w' := by
  have h1 := hide (rapply_any a A l n c w (by omega) hn (by omega) hok hr hq)
  obtain ⟨hd, _, _⟩ := D.apply_ok hq
  have hTn : (D.turns a l).length = n := by
    have : ∀ (l : List D.Ed) a, (D.turns a l).length = l.length := by
      intro l
      induction l with
      | nil => intro a; rfl
      | cons x l ih => intro a; simp [D.turns, ih]
    rw [this, hn]
  have HN := hide fun (w1 : World) (hb : Below w.heap.size w w1) => (show VRel w l (D.turns a l) 0 (.string (bs a)) (.slice none 0 0) w1 from ⟨a, q, [], rfl, ha, by simpa using hd, rfl, World.ownsRow_nil _ _ _ _, hb, rfl⟩)
  generalize D.turns a l = T at *
  replace hn := hide hn
  replace hr := hide hr
  replace hok := hide hok
  replace hTn := hide hTn
  clear hq hd
  go_enter Try.func22, Try.ntmps22
  go_wp2_with fail
  refine (unhide h1).mono ?_
  rintro e w1 ⟨rfl, hb1⟩
  go_wp2_with fail
  go_loopg [0, 8, 9, 10] n (fun m at_ out i _ wr => ∃ k : Nat, i = .int .i64 k ∧ n ≤ m + k ∧ k ≤ n ∧ VRel w l T k at_ out wr)
  case atStart => exact ⟨0, rfl, by omega, by omega, unhide HN _ hb1⟩
  case round =>
    clear HN h1
    obtain ⟨k, rfl, hm, hk, r, rest, acc, rfl, hrl, hds, hal, hown, hbel, hT⟩ := hrel
    obtain ⟨lr, hlr⟩ : ∃ x, r.length = x := ⟨_, rfl⟩
    have hsr : (bs r).size = lr := by rw [bs_size, hlr]
    obtain ⟨Ao, co, rfl, hco, _⟩ := own_form hown
    by_cases hlt : k < n
    · have hlt' : (k : Int) < n := by omega
      obtain ⟨ad, x, rfl, hx, hbl, c1, c2, c3⟩ := reads_ed (unhide hn) ((unhide hr).below hbel) hlt
      have hxo : EdOk x := (unhide hok) x (List.mem_of_getElem? hx)
      have hdr : l.drop k = x :: l.drop (k + 1) := by
        rw [List.getElem?_eq_some_iff] at hx
        obtain ⟨h1, h2⟩ := hx
        rw [← h2]; exact List.drop_eq_getElem_cons h1
      rw [hdr] at hds hT
      obtain ⟨m, hxm, hml, ⟨rest', hds2⟩, hkind⟩ := does_step hds
      rw [D.turns, hxm, Int.toNat_natCast] at hT
      obtain ⟨kd, nn, tx⟩ := x
      simp only at hxm c1 c2 c3 hkind
      subst hxm
      unfold EdOk at hxo
      simp only at hxo
      have hts : (bs tx).size = tx.length := bs_size tx
      have hml' : (m : Int) ≤ lr := by omega
      have hml2 : m ≤ lr := by omega
      have hx1 := ex_take (r := r) (m := m)
      have hx2 := ex_drop hlr hml2
      have hr2 := hide (show (r.drop m).length ≤ 1000 by rw [List.length_drop]; omega)
      have hds2 := hide hds2
      have hown' := hide hown
      have hal' := hide hal
      clear hx hdr hds hal hml
      rcases hkind with ⟨rfl, ht⟩ | ⟨rfl, ht⟩ | ⟨rfl, ht⟩
      · rw [ht] at hT
        have hT2 := hide (show (acc ++ [⟨1, (m : Int), tx⟩]) ++ D.turns (r.drop m) (l.drop (k + 1)) = T by rw [← hT]; simp)
        have hR := hide (reads_new3_at (w := wr.alloc (.cells #[.int .i64 1, .int .i64 m, .string (bs tx)] 32)) (g := wr.heap.size + 1) ⟨1, m, tx⟩ (by simp))
        have hO := hide ((hown.alloc (.cells #[.int .i64 1, .int .i64 m, .string (bs tx)] 32)).alloc (.cells #[.int .i64 1, .int .i64 m, .string (bs tx)] 32))
        have hB := hide (two_boxes (w := wr) (x := ⟨1, m, tx⟩) (o := .cells #[.int .i64 1, .int .i64 m, .string (bs tx)] 32))
        have hsz : w.heap.size ≤ ((wr.alloc (.cells #[.int .i64 1, .int .i64 m, .string (bs tx)] 32)).alloc (.cells #[.int .i64 1, .int .i64 m, .string (bs tx)] 32)).heap.size := by have := hbel.size; simp; omega
        replace hsz := hide hsz
        clear hown hT ht
        generalize r.drop m = u at *
        generalize r.take m = t at *
        go_wp2_with (at_builtin; refine wpList_appE rfl (.tmp 51) (.tmp 53) rfl w.heap.size (.slice Ao k co) k acc rfl (unhide hO) _ _ 1 1 [⟨1, m, tx⟩] rfl (unhide hR) ?_ (unhide hsz) ?_; omega; intro A4 c4 w4 hown4 hgr4 _; have e1 := hgr4.g.cell (unhide hB) (fun e => lt_not (unhide hown') e.symm); have hB4 := hide (v_next hbel (unhide hown') hgr4); replace hown4 := hide hown4; clear hgr4)
        go_roundg (gk - 1)
        case measure => omega
        case rel => exact ⟨k + 1, by go_num, by omega, by omega, u, rest', _, rfl, unhide hr2, unhide hds2, by rw [List.length_append, unhide hal']; rfl, unhide hown4, unhide hB4, unhide hT2⟩
      · rw [ht] at hT
        have hT2 := hide (show (acc ++ [⟨3, 0, r.take m⟩]) ++ D.turns (r.drop m) (l.drop (k + 1)) = T by rw [← hT]; simp)
        generalize r.drop m = u at *
        generalize r.take m = t at *
        have hR := hide (reads_new3_at (w := wr.alloc (.cells #[.int .i64 2, .int .i64 m, .string (bs tx)] 32)) (g := wr.heap.size + 1) ⟨3, 0, t⟩ (by simp))
        have hO := hide ((hown.alloc (.cells #[.int .i64 2, .int .i64 m, .string (bs tx)] 32)).alloc (.cells #[.int .i64 3, .int .i64 0, .string (bs t)] 32))
        have hB := hide (two_boxes (w := wr) (x := ⟨2, m, tx⟩) (o := .cells #[.int .i64 3, .int .i64 0, .string (bs t)] 32))
        have hsz : w.heap.size ≤ ((wr.alloc (.cells #[.int .i64 2, .int .i64 m, .string (bs tx)] 32)).alloc (.cells #[.int .i64 3, .int .i64 0, .string (bs t)] 32)).heap.size := by have := hbel.size; simp; omega
        replace hsz := hide hsz
        clear hown hT ht
        go_wp2_with (at_builtin; refine wpList_appE rfl (.tmp 33) (.tmp 39) rfl w.heap.size (.slice Ao k co) k acc rfl (unhide hO) _ _ 1 1 [⟨3, 0, t⟩] rfl (unhide hR) ?_ (unhide hsz) ?_; omega; intro A4 c4 w4 hown4 hgr4 _; have e1 := hgr4.g.cell (unhide hB) (fun e => lt_not (unhide hown') e.symm); have hB4 := hide (v_next hbel (unhide hown') hgr4); replace hown4 := hide hown4; clear hgr4)
        go_roundg (gk - 1)
        case measure => omega
        case rel => exact ⟨k + 1, by go_num, by omega, by omega, u, rest', _, rfl, unhide hr2, unhide hds2, by rw [List.length_append, unhide hal']; rfl, unhide hown4, unhide hB4, unhide hT2⟩
      · rw [ht] at hT
        have hT2 := hide (show (acc ++ [⟨2, tx.length, []⟩]) ++ D.turns (r.drop m) (l.drop (k + 1)) = T by rw [← hT]; simp)
        generalize r.drop m = u at *
        generalize r.take m = t at *
        have hR := hide (reads_new3_at (w := wr.alloc (.cells #[.int .i64 3, .int .i64 m, .string (bs tx)] 32)) (g := wr.heap.size + 1) ⟨2, tx.length, []⟩ (by simp))
        have hO := hide ((hown.alloc (.cells #[.int .i64 3, .int .i64 m, .string (bs tx)] 32)).alloc (.cells #[.int .i64 2, .int .i64 tx.length, .string ⟨#[]⟩] 32))
        have hB := hide (two_boxes (w := wr) (x := ⟨3, m, tx⟩) (o := .cells #[.int .i64 2, .int .i64 tx.length, .string ⟨#[]⟩] 32))
        have hsz : w.heap.size ≤ ((wr.alloc (.cells #[.int .i64 3, .int .i64 m, .string (bs tx)] 32)).alloc (.cells #[.int .i64 2, .int .i64 tx.length, .string ⟨#[]⟩] 32)).heap.size := by have := hbel.size; simp; omega
        replace hsz := hide hsz
        clear hown hT ht
        go_wp2_with (at_builtin; refine wpList_appE rfl (.tmp 44) (.tmp 49) rfl w.heap.size (.slice Ao k co) k acc rfl (unhide hO) _ _ 1 1 [⟨2, tx.length, []⟩] rfl (unhide hR) ?_ (unhide hsz) ?_; omega; intro A4 c4 w4 hown4 hgr4 _; have e1 := hgr4.g.cell (unhide hB) (fun e => lt_not (unhide hown') e.symm); have hB4 := hide (v_next hbel (unhide hown') hgr4); replace hown4 := hide hown4; clear hgr4)
        go_roundg (gk - 1)
        case measure => omega
        case rel => exact ⟨k + 1, by go_num, by omega, by omega, u, rest', _, rfl, unhide hr2, unhide hds2, by rw [List.length_append, unhide hal']; rfl, unhide hown4, unhide hB4, unhide hT2⟩
    · obtain rfl : k = n := by omega
      have hdn : l.drop k = [] := List.drop_eq_nil_of_le (by have := unhide hn; omega)
      rw [hdn, D.turns, List.append_nil] at hT
      subst hT
      have hF := hide (And.intro hown hbel)
      clear hds hlr hsr hown
      go_wp2_with fail
      go_ret2
      refine ⟨Ao, co, by rw [hal]; rfl, ?_, (unhide hF).2⟩
      rw [hal]
      exact (unhide hF).1

set_option maxRecDepth 100000 in
set_option maxHeartbeats 1000000 in
theorem rinvert_any (a : List UInt8) (A : Option Addr) (l : List D.Ed) (n c : Nat) (w : World) (ha2 : a.length ≤ 140737488355328) (hn : l.length = n) (hn6 : n ≤ 4398046511000) (hok : ∀ x ∈ l, EdOk x) (hr : Reads w w.heap.size 3 A n (ecs l)) :
    Calls Try.prog 22 #[.string (bs a), .slice A n c] w fun e w' => MRes w (D.invert a l).1 (D.invert a l).2 e w' := by
  obtain ⟨q, z, hq⟩ : ∃ q z, D.apply a l = (q, z) := ⟨_, _, rfl⟩
  unfold D.invert
  rw [hq]
  by_cases hz : z = 0
  · subst hz
    rw [if_neg (by simp)]
    exact rinvert_ok a A l n c w (D.apply_ok hq).2.1 hn hn6 hok hr hq
  · rw [if_pos (by simpa using hz)]
    have h1 := hide (rapply_any a A l n c w (by omega) hn (by omega) hok hr hq)
    have hz' : ((z : Int) != 0) = true := by rw [bne_iff_ne]; omega
    clear hq hz hr hok hn
    go_enter Try.func22, Try.ntmps22
    go_wp2_with fail
    refine (unhide h1).mono ?_
    rintro e w1 ⟨rfl, hb1⟩
    go_wp2_with fail
    go_ret2
    exact ⟨_, _, rfl, World.ownsRow_nil _ _ _ _, hb1⟩
end Go.Proofs.Ytakkjehmekekbaa
