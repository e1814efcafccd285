/- wire.List and the document's: the bytes of a list, at every list whose bytes are fewer than 2^47. -/
import Derived.Test.YtdhgobflbacgbaaText
namespace Go.Proofs.Ytdhgobflbacgbaa
open Go.RowKit

/-- texts as values -/
def sv (s : List UInt8) : Value := .string (bs s)
def svs (l : List (List UInt8)) : List Value := l.map sv
theorem svs_length (l : List (List UInt8)) : (svs l).length = l.length := by simp [svs]
theorem svs_get {l : List (List UInt8)} {k : Nat} (h : k < l.length) : (svs l)[k]? = some (sv l[k]) := by simp [svs, h]
theorem svs_one (l : List (List UInt8)) : ∀ u ∈ svs l, u.oneCell' = true := by
  intro u hu
  simp only [svs, List.mem_map] at hu
  obtain ⟨x, _, rfl⟩ := hu
  rfl
theorem bs_data (l : List UInt8) : (bs l).data.toList = l := by simp [bs]

set_option maxRecDepth 100000 in
set_option maxHeartbeats 400000 in
theorem list_big (A : Option Addr) (l : List (List UInt8)) (n c : Nat) (w : World) (hn : l.length = n) (hs : (W.list l).length ≤ 140737488355000) (hn6 : n ≤ 140737488355328) (hr : Reads w w.heap.size 1 A n (svs l)) :
    Calls Try.prog 32 #[.slice A n c] w fun e w' => ∃ A' c', e = .returned (.slice A' (W.list l).length c') ∧
      w'.ownsRow w.heap.size 5 1 (.slice A' (W.list l).length c') (W.list l).length (bvs (W.list l)) ∧ Below w.heap.size w w' := by
  have hc := put_any w.heap.size (.slice none 0 0) 0 [] n w (by omega) (by omega) (World.ownsRow_nil _ _ _ _) (Nat.le_refl _)
  simp only [Nat.zero_add, List.nil_append] at hc
  have hlen : (W.list l).length = (W.num n).length + (W.texts l).length := by simp [W.list, hn]
  have hT := W.texts_take_le l
  have HC := hide hc
  have HN := hide hn
  have hL := hide (show W.list l = W.num n ++ W.texts l by rw [W.list, hn])
  clear hc hn
  have HT := hide hT
  have HL := hide hlen
  clear hT hlen
  go_enter Try.func32, Try.ntmps32
  go_wp2_with (go_at_call 40; refine (unhide HC).mono ?_; rintro e w1 ⟨A1, c1, rfl, hown, hgr⟩)
  have hb1 := hgr.below (Nat.le_refl _) (by simp [Value.ownBlock])
  go_loopw [3, 5, 11] (fun b _ i wr => ∃ k : Nat, i = .int .i64 k ∧ k ≤ n ∧ wr.ownsRow w.heap.size 5 1 b ((W.num n).length + (W.texts (l.take k)).length) (bvs (W.num n ++ W.texts (l.take k))) ∧ Below w.heap.size w wr) (fun _ _ i _ => n - (intOf i).toNat)
  case atStart => exact ⟨0, rfl, Nat.zero_le _, by simpa [W.texts] using hown, hb1⟩
  case round =>
    obtain ⟨k, rfl, hk, hown, hbel⟩ := hrel
    obtain ⟨A2, c2, rfl, _, _⟩ := own_form hown
    by_cases hlt : k < n
    · have hkl : k < l.length := by have := unhide HN; omega
      obtain ⟨ad, u, rfl, hbl, hu, hcell⟩ := (hr.below hbel).at_ hlt
      obtain rfl : sv l[k] = u := by rw [svs_get hkl] at hu; injection hu
      have hsucc := W.texts_take_succ hkl
      have hle := (unhide HT) (k + 1)
      have hle0 := unhide HL
      rw [hsucc] at hle
      simp only [List.length_append] at hle
      have hput := put_any w.heap.size _ _ _ l[k].length wr (by omega) (by omega) hown hbel.size
      replace hput := hide hput
      have HS := hide hsucc
      have hle1 : (W.num n).length + (W.texts (l.take k)).length + (W.num l[k].length).length + (bs l[k]).size ≤ 140737488355328 := by rw [bs_size]; omega
      have hsz : (bs l[k]).size = l[k].length := bs_size _
      clear hsucc hle hle0 hu
      unfold sv at hcell
      go_wp2_with fail
      refine (unhide hput).mono ?_
      rintro e w2 ⟨A3, c3, rfl, hown3, hgr3⟩
      have hb3 := hgr3.below hbel.size (fun j hj => (hown.lt j hj).1)
      have hB3 : Below w.heap.size w w2 := hbel.trans hb3
      have hz3 := hB3.size
      clear hsz
      go_wp2_with (at_builtin; refine wpList_appStr rfl (.tmp 18) (.tmp 19) _ _ rfl et22 Try.underlying9 w.heap.size _ _ _ rfl hown3 (bs l[k]) rfl hle1 hz3 ?_; intro A4 c4 w3 hown4 hg4 hc4)
      have hB4 := hB3.grown hg4 hz3 (fun j hj => (hown3.lt j hj).1)
      have e1 : W.num n ++ W.texts (l.take (k + 1)) = W.num n ++ W.texts (l.take k) ++ W.num l[k].length ++ (bs l[k]).data.toList := by
        rw [unhide HS, bs_data]; simp
      have e2 : bvs (W.num n ++ W.texts (l.take (k + 1))) = bvs (W.num n ++ W.texts (l.take k)) ++ bvs (W.num l[k].length) ++ bvs (bs l[k]).data.toList := by
        rw [e1, bvs_append, bvs_append]
      have e3 : (W.num n).length + (W.texts (l.take (k + 1))).length = (W.num n).length + (W.texts (l.take k)).length + (W.num l[k].length).length + (bs l[k]).size := by
        have := congrArg List.length e1
        simp only [List.length_append] at this
        rw [this, bs_data, bs_size]
      refine ⟨⟨k + 1, by go_num, by omega, ?_, hB4⟩, by simp [intOf]; omega⟩
      rw [e2, e3]
      exact hown4
    · go_wp2_with fail
      go_ret
      have hk' : k = n := by omega
      subst hk'
      have e0 : l.take k = l := List.take_of_length_le (by have := unhide HN; omega)
      rw [e0] at hown ⊢
      rw [unhide HL, unhide hL]
      exact ⟨_, _, rfl, hown, hbel⟩
theorem list_any (A : Option Addr) (l : List (List UInt8)) (n c : Nat) (w : World) (hn : l.length = n) (hs : (W.list l).length ≤ 70368744177664) (hn6 : n ≤ 140737488355328) (hr : Reads w w.heap.size 1 A n (svs l)) :
    Calls Try.prog 32 #[.slice A n c] w fun e w' => ∃ A' c', e = .returned (.slice A' (W.list l).length c') ∧
      w'.ownsRow w.heap.size 5 1 (.slice A' (W.list l).length c') (W.list l).length (bvs (W.list l)) ∧ Below w.heap.size w w' :=
  list_big A l n c w hn (by omega) hn6 hr
end Go.Proofs.Ytdhgobflbacgbaa
