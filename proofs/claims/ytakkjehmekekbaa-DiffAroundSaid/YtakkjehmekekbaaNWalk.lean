/- DiffAround walked whole, and how its pair of texts is opened. Conditions: none beyond what the form itself asks (a text has at most 2^47 - 4096 bytes). -/
import Derived.Test.YtakkjehmekekbaaFWalks
import Derived.Test.YtakkjehmekekbaaOpen
namespace Go.Proofs.Ytakkjehmekekbaa
open Go.RowKit Go.ChangeShapes Go.WideShapes Go.ChangeAt

section
variable {H : Type} {enc : TypeId × Value → H} {w : World}
theorem cells45 : Try.prog.cellsOf 45 = 2 := by kernel_rfl
theorem open_pair {base : Nat} {held : Bool} {v : Value} {d : DataW H} {p : List MemPlace} (hv : Value.okWide Try.prog w .any base 45 v) (h : DataW.Trod enc Try.prog w 0 (fun _ => true) held 45 v d p) :
    ∃ s t : ByteArray, v = .agg #[.string s, .string t] ∧ d = .agg [.lit (.string s.data.toList), .lit (.string t.data.toList)] := by
  obtain ⟨cs, rfl, hsz, _⟩ : ∃ cs, v = .agg cs ∧ cs.size = Try.prog.cellsOf 45 ∧ Row.okWide Try.prog w .any base 45 cs := by
    simpa [Value.okWide, Try.underlying45] using hv
  rw [cells45] at hsz
  obtain ⟨l⟩ := cs
  obtain ⟨c0, c1, rfl⟩ : ∃ c0 c1, l = [c0, c1] := by
    match l, hsz with
    | [a, b], _ => exact ⟨a, b, rfl⟩
  obtain ⟨fuel, hf⟩ := h
  have hf : DataW.trod enc Try.prog w 0 (fun _ => true) held fuel 45 [c0, c1] = some (d, p) := hf
  obtain ⟨ys, m, _, hx, _, hl, hel⟩ := DataW.trod_array Try.underlying45 hf
  have h0 := hel 0 (by omega)
  have h1 := hel 1 (by omega)
  match ys, hl with
  | [y0, y1], _ =>
    rw [cells9] at h0 h1
    obtain ⟨s, e0, hy0, _⟩ := DataW.trod_string Try.underlying9 h0
    obtain ⟨t, e1, hy1, _⟩ := DataW.trod_string Try.underlying9 h1
    simp at e0 e1 hy0 hy1
    subst e0 e1
    exact ⟨s, t, rfl, by simp only [Prod.mk.injEq] at hx; rw [hx.1]; simp [hy0, hy1]⟩
/-- what the form's own reach gives: each text takes at most 2^47 - 4096 bytes -/
theorem pair_sized {ts : List TypeId} {ds : List (DataW H)} (hsz : (DataW.weightsEach Try.prog ts ds).all (· ≤ reachBytes) = true) {j : Nat} {s t : List UInt8}
    (ht : ts[j]? = some 45) (hd0 : ds[j]? = some (.agg [.lit (.string s), .lit (.string t)])) : s.length ≤ 140737488351232 ∧ t.length ≤ 140737488351232 := by
  have h1 : s.length ∈ (.agg [.lit (.string s), .lit (.string t)] : DataW H).weights Try.prog 45 := by simp [DataW.weights, Try.underlying45, DataW.weightsAll]
  have h2 : t.length ∈ (.agg [.lit (.string s), .lit (.string t)] : DataW H).weights Try.prog 45 := by simp [DataW.weights, Try.underlying45, DataW.weightsAll]
  have q1 : s.length ≤ reachBytes := by simpa using List.all_eq_true.1 hsz _ (DataW.weights_mem_each ht hd0 _ h1)
  have q2 : t.length ≤ reachBytes := by simpa using List.all_eq_true.1 hsz _ (DataW.weights_mem_each ht hd0 _ h2)
  exact ⟨by simpa [reachBytes] using q1, by simpa [reachBytes] using q2⟩
end

theorem bs_add (a b : List UInt8) : bs a ++ bs b = bs (a ++ b) := by
  apply ByteArray.ext
  simp [bs, ByteArray.data_append]

set_option maxRecDepth 100000 in
set_option maxHeartbeats 1000000 in
theorem around_1 (a b p s : ByteArray) (x y : Int) (w : World) (ha : a.size ≤ 140737488351232) (hb : b.size ≤ 140737488351232) (hp : p.size ≤ 140737488351232) (hs : s.size ≤ 140737488351232)
    (h1 : ∀ w0 : World, Calls Try.prog 20 #[.string a, .string b] w0 fun e w' => e = .returned (.int .i64 x) ∧ Below w0.heap.size w0 w')
    (h2 : ∀ w0 : World, Calls Try.prog 20 #[.string (p ++ a ++ s), .string (p ++ b ++ s)] w0 fun e w' => e = .returned (.int .i64 y) ∧ Below w0.heap.size w0 w')
    (h : x = y ∨ (y = -1 ∧ x ≠ y)) :
    Calls Try.prog 9 #[.string a, .string b, .agg #[.string p, .string s]] w fun e w' => e = .returned (.bool true) ∧ Below w.heap.size w w' := by
  replace h1 := hide h1
  replace h2 := hide h2
  rcases h with rfl | ⟨rfl, hne⟩
  · go_enter Try.func9, Try.ntmps9
    go_wp2_with fail
    refine (unhide h1 _).mono ?_
    rintro e w1 ⟨rfl, hb1⟩
    have hB := (Blk.new w 45 #[.string p, .string s]).below hb1 (by simp)
    have c0 : w1.cell? ⟨w.heap.size, 0, none⟩ = some (.string p) := by rw [hB.cell 0]; rfl
    have c1 : w1.cell? ⟨w.heap.size, 1, none⟩ = some (.string s) := by rw [hB.cell 1]; rfl
    have hbw := box_below (Below.refl _ w) hb1
    clear hb1 hB
    go_wp2_with fail
    refine (unhide h2 _).mono ?_
    rintro e w2 ⟨rfl, hb2⟩
    go_wp2_with fail
    refine (falive_any _).mono ?_
    rintro e w3 ⟨rfl, hb3⟩
    go_wp2_with fail
    go_ret
    exact ⟨rfl, bel_up (bel_up hbw hb2) hb3⟩
  · have hne' : (x == -1) = false := beq_eq_false_iff_ne.2 hne
    go_enter Try.func9, Try.ntmps9
    go_wp2_with fail
    refine (unhide h1 _).mono ?_
    rintro e w1 ⟨rfl, hb1⟩
    have hB := (Blk.new w 45 #[.string p, .string s]).below hb1 (by simp)
    have c0 : w1.cell? ⟨w.heap.size, 0, none⟩ = some (.string p) := by rw [hB.cell 0]; rfl
    have c1 : w1.cell? ⟨w.heap.size, 1, none⟩ = some (.string s) := by rw [hB.cell 1]; rfl
    have hbw := box_below (Below.refl _ w) hb1
    clear hb1 hB
    go_wp2_with fail
    refine (unhide h2 _).mono ?_
    rintro e w2 ⟨rfl, hb2⟩
    go_wp2_with fail
    refine (falive_any _).mono ?_
    rintro e w3 ⟨rfl, hb3⟩
    go_wp2_with fail
    go_ret
    exact ⟨rfl, bel_up (bel_up hbw hb2) hb3⟩

theorem around_walk (a b p s : ByteArray) (w : World) (ha : a.size ≤ 140737488351232) (hb : b.size ≤ 140737488351232) (hp : p.size ≤ 140737488351232) (hs : s.size ≤ 140737488351232) :
    Calls Try.prog 9 #[.string a, .string b, .agg #[.string p, .string s]] w fun e w' => e = .returned (.bool true) ∧ Below w.heap.size w w' := by
  have ea := bs_self a
  have eb := bs_self b
  have ep := bs_self p
  have es := bs_self s
  have la : a.data.toList.length = a.size := by simp
  have lb : b.data.toList.length = b.size := by simp
  have lp : p.data.toList.length = p.size := by simp
  have ls : s.data.toList.length = s.size := by simp
  have eA : p ++ a ++ s = bs (p.data.toList ++ a.data.toList ++ s.data.toList) := by rw [← bs_add, ← bs_add, ep, ea, es]
  have eB : p ++ b ++ s = bs (p.data.toList ++ b.data.toList ++ s.data.toList) := by rw [← bs_add, ← bs_add, ep, eb, es]
  have lA : (p.data.toList ++ a.data.toList ++ s.data.toList).length = p.size + a.size + s.size := by simp only [List.length_append]; omega
  have lB : (p.data.toList ++ b.data.toList ++ s.data.toList).length = p.size + b.size + s.size := by simp only [List.length_append]; omega
  have hd := D.dist_around p.data.toList s.data.toList a.data.toList b.data.toList
  by_cases h1 : 1000 < a.size ∨ 1000 < b.size
  · refine around_1 a b p s (-1) (-1) w ha hb hp hs (fun w0 => ?_) (fun w0 => ?_) (.inl rfl)
    · have := wcost_huge a.data.toList b.data.toList w0 (by omega) (by omega) (by omega)
      rwa [ea, eb] at this
    · have := wcost_huge (p.data.toList ++ a.data.toList ++ s.data.toList) (p.data.toList ++ b.data.toList ++ s.data.toList) w0 (by omega) (by omega) (by omega)
      rwa [← eA, ← eB] at this
  · have hx : ∀ w0 : World, Calls Try.prog 20 #[.string a, .string b] w0 fun e w' => e = .returned (.int .i64 (D.dist a.data.toList b.data.toList)) ∧ Below w0.heap.size w0 w' := by
      intro w0
      have := wcost_ok a.data.toList b.data.toList w0 (by omega) (by omega)
      rwa [ea, eb] at this
    by_cases h2 : 1000 < p.size + a.size + s.size ∨ 1000 < p.size + b.size + s.size
    · refine around_1 a b p s _ (-1) w ha hb hp hs hx (fun w0 => ?_) (.inr ⟨rfl, by omega⟩)
      have := wcost_huge (p.data.toList ++ a.data.toList ++ s.data.toList) (p.data.toList ++ b.data.toList ++ s.data.toList) w0 (by omega) (by omega) (by omega)
      rwa [← eA, ← eB] at this
    · refine around_1 a b p s _ _ w ha hb hp hs hx (fun w0 => ?_) (.inl rfl)
      have := wcost_ok (p.data.toList ++ a.data.toList ++ s.data.toList) (p.data.toList ++ b.data.toList ++ s.data.toList) w0 (by omega) (by omega)
      rwa [← eA, ← eB, hd] at this
end Go.Proofs.Ytakkjehmekekbaa
