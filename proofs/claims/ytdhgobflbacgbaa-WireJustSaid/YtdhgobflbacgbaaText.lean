/- wire.Text and the document's: the bytes of a text, at every text. -/
import Derived.Test.YtdhgobflbacgbaaGText
import Derived.Lib.AppendStr
namespace Go.Proofs.Ytdhgobflbacgbaa
open Go.RowKit

/-- 'append(v, s...)', s a string, onto a row of bytes of the call's own -/
theorem wpList_appStr {P : Program} {w : World} {ops : Array Oper} {rest : List Oper} {o : Oper} {a : Act} {Q : Exit → Act → World → Prop} (hgd : o.guard = none) (sl x : Operand) (t u : TypeId)
    (ho : o.op = .call { callee := .builtin .append, args := #[sl, x], argTypes := #[t, u] })
    {e : TypeId} (et : ET P t e (.int .u8 0) 1) (hu : P.underlying u = some .string) (base : Nat)
    (v : Value) (n : Nat) (xs : List Value) (hs : a.eval sl = v) (hown : w.ownsRow base e 1 v n xs) (s : ByteArray) (hx : a.eval x = .string s)
    (hbytes : n + s.size ≤ 140737488355328) (hbase : base ≤ w.heap.size)
    (h : ∀ A' c' w', w'.ownsRow base e 1 (.slice A' (n + s.size) c') (n + s.size) (xs ++ bvs s.data.toList) → w.grownBy w' v.ownBlock → n + s.size ≤ c' → wpList P ops Q rest (a.put o.dst (.slice A' (n + s.size) c')) w') :
    wpList P ops Q (o :: rest) a w := by
  obtain ⟨i, hi, hz0, hz1, hz2⟩ := et.hi
  refine Lib.wpList_append_own_string w hgd sl x t u ho base e i et.ht hu hi hz0 hz1 hz2 v n xs hs hown s hx (by simp only [maxLen]; omega) hbytes hbase fun v' w' h2 h3 _ => ?_
  obtain ⟨A', c', rfl, hc, _⟩ := own_form h2
  exact h A' c' w' h2 h3 hc

set_option maxRecDepth 100000 in
set_option maxHeartbeats 400000 in
theorem text_any (s : ByteArray) (w : World) (hs : s.size ≤ 140737488355000) :
    Calls Try.prog 28 #[.string s] w fun e w' => ∃ A c, e = .returned (.slice A (W.text s.data.toList).length c) ∧
      w'.ownsRow w.heap.size 5 1 (.slice A (W.text s.data.toList).length c) (W.text s.data.toList).length (bvs (W.text s.data.toList)) ∧ Below w.heap.size w w' := by
  have hc := put_any w.heap.size (.slice none 0 0) 0 [] s.size w (by omega) (by omega) (World.ownsRow_nil _ _ _ _) (Nat.le_refl _)
  simp only [Nat.zero_add, List.nil_append] at hc
  have hN9 := W.num_len9 (n := s.size) (by omega)
  have e1 : (W.text s.data.toList).length = (W.num s.size).length + s.size := by simp [W.text]
  have e2 : bvs (W.text s.data.toList) = bvs (W.num s.size) ++ bvs s.data.toList := by simp [W.text, bvs]
  rw [e1, e2]
  generalize W.num s.size = l at *
  have HC := hide hc
  clear hc e1 e2
  go_enter Try.func28, Try.ntmps28
  go_wp2_with (first
    | (go_at_call 40; refine (unhide HC).mono ?_; rintro e w1 ⟨A, c, rfl, hown, hgr⟩; have hsz := hgr.g.size)
    | (at_builtin; refine wpList_appStr rfl (.tmp 5) (.tmp 6) _ _ rfl et22 Try.underlying9 w.heap.size (.slice A l.length c) l.length (bvs l) rfl hown s rfl ?_ hsz ?_; omega; intro A1 c1 w2 hown2 hg2 hc2))
  go_ret
  refine ⟨A1, c1, rfl, hown2, ?_⟩
  have hb := hgr.below (Nat.le_refl _) (by simp [Value.ownBlock])
  exact hb.grown hg2 hb.size (fun k hk => (hown.lt k hk).1)

set_option maxRecDepth 100000 in
set_option maxHeartbeats 400000 in
theorem rtext_any (s : ByteArray) (w : World) (hs : s.size ≤ 140737488355000) :
    Calls Try.prog 29 #[.string s] w fun e w' => e = .returned (.string (bs (W.text s.data.toList))) ∧ Below w.heap.size w w' := by
  have hc := rnum_any s.size w (by omega)
  have hN9 := W.num_len9 (n := s.size) (by omega)
  have e2 : bs (W.text s.data.toList) = bs (W.num s.size) ++ s := by
    have : bs s.data.toList = s := by simp [bs]
    rw [show bs (W.num s.size) ++ s = bs (W.num s.size) ++ bs s.data.toList from by rw [this], bs_append]
    simp [W.text]
  rw [e2]
  generalize W.num s.size = l at *
  have hadd := fun w0 => run_string_add_sum (P := Try.prog) w0 (bs l) s (by rw [bs_size]; omega)
  have HC := hide hc
  clear hc e2
  go_enter Try.func29, Try.ntmps29
  go_wp2_with (first
    | (go_at_call 25; refine (unhide HC).mono ?_; rintro e w1 ⟨rfl, hb⟩))
  go_ret
  exact ⟨rfl, hb⟩
end Go.Proofs.Ytdhgobflbacgbaa
