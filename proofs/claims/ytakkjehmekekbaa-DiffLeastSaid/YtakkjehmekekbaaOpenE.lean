/- How a script that came in is opened: its edits, one by one. No conditions. The first lemma is the guide's (extra-structs), which asks to copy it. -/
import Derived.Test.YtakkjehmekekbaaOpen
import Derived.Test.YtakkjehmekekbaaCost
import Derived.Deep.Slices
import Derived.Deep.Fields
import Derived.ChangeSame
import Derived.ChangeArms
import Derived.JoinedCond
namespace Go.Proofs.Ytakkjehmekekbaa
open Go.ChangeShapes Go.WideShapes Go.ChangeAt Go.RowKit Go.Deep

section
variable {H : Type} {enc : TypeId × Value → H} {P : Program} {w : World} {base : Nat} {spare : Nat → Bool} {held : Bool}
theorem open_slice_fields {t e : TypeId} {fs : Array Field} {fuel : Nat} {cs : List Value} {x : DataW H × List MemPlace} (ht : P.underlying t = some (.slice e)) (he : P.underlying e = some (.struct fs))
    (hone : oneCellFields P fs = true) (hC : P.cellsOf e = fs.size) (h : DataW.trod enc P w base spare held fuel t cs = some x) :
    (cs = [.slice none 0 0] ∧ x = (.nil, [])) ∨
    ∃ (a : Addr) (len cap m : Nat) (D : Nat → DataW H) (Pl : Nat → List MemPlace), cs = [.slice (some a) len cap] ∧ base ≤ a.block ∧ len ≤ cap ∧ cap ≤ maxLen ∧ m = (if spare a.block then cap else len) ∧
      x = (.slice ((List.range len).map D) ((List.range (m - len)).map fun j => D (len + j)), MemPlace.row a (m * fs.size) ++ (List.range m).flatMap Pl) ∧
      ∀ i, i < m → ∃ (ys : List (DataW H × List MemPlace)) (n : Nat), D i = .agg (ys.map (·.1)) ∧ Pl i = ys.flatMap (·.2) ∧ ys.length = fs.size ∧
        ∀ (j : Nat) (f : Field), fs[j]? = some f → ∃ (v : Value) (y : DataW H × List MemPlace), w.cell? (a.add (i * fs.size + j)) = some v ∧ ys[j]? = some y ∧ DataW.trod enc P w base spare held n f.type [v] = some y := by
  rcases open_slice ht h with h0 | ⟨a, len, cap, m, n, D, Pl, hcs, hb, hl, hm, hmm, hx, hi⟩
  · exact .inl h0
  · refine .inr ⟨a, len, cap, m, D, Pl, hcs, hb, hl, hm, hmm, by rw [hC] at hx; exact hx, fun i him => ?_⟩
    obtain ⟨cs', hc, ht'⟩ := hi i him
    rw [hC] at hc
    obtain ⟨ys, n', hn', hy, hlen, hyl, hf⟩ := DataW.trod_struct he ht'
    obtain ⟨_, hcl, hat⟩ := World.cells?_some hc
    simp only [Prod.mk.injEq] at hy
    refine ⟨ys, n', hy.1, hy.2, hyl, fun j f hj => ?_⟩
    obtain ⟨ho, hk⟩ := hone_of hone j f hj
    have hjl : j < fs.size := (Array.getElem?_eq_some_iff.1 hj).1
    have hcell := hat j hjl
    have hv : cs'[j]? = some (cs'[j]'(by omega)) := List.getElem?_eq_getElem (by omega)
    have h1 := hf j f hj
    rw [ho, hk] at h1
    have hone' : (cs'.drop j).take 1 = [cs'[j]'(by omega)] := by
      rw [List.drop_eq_getElem_cons (by omega)]
      rfl
    rw [hone'] at h1
    have hys : ys[j]? = some (ys[j]'(by omega)) := List.getElem?_eq_getElem (by omega)
    refine ⟨_, _, ?_, hys, h1.trans hys⟩
    rw [← Go.Deep.add_add, hcell, hv]
end

/-- an edit as a datum -/
def edD {H : Type} (e : D.Ed) : DataW H := .agg [.lit (.int .i64 e.kind), .lit (.int .i64 e.n), .lit (.string e.text)]
theorem cells32 : Try.prog.cellsOf 32 = 3 := by kernel_rfl
theorem fields32 : Try.prog.underlying 32 = some (.struct #[{ name := "Kind", type := 3, offset := 0, embedded := false, tag := "", pkgPath := "", byteOffset := 0 }, { name := "N", type := 3, offset := 1, embedded := false, tag := "", pkgPath := "", byteOffset := 8 }, { name := "Text", type := 9, offset := 2, embedded := false, tag := "", pkgPath := "", byteOffset := 16 }]) := Try.underlying32
theorem one32 : oneCellFields Try.prog #[{ name := "Kind", type := 3, offset := 0, embedded := false, tag := "", pkgPath := "", byteOffset := 0 }, { name := "N", type := 3, offset := 1, embedded := false, tag := "", pkgPath := "", byteOffset := 8 }, { name := "Text", type := 9, offset := 2, embedded := false, tag := "", pkgPath := "", byteOffset := 16 }] = true := by kernel_rfl

theorem ecs_at (l : List D.Ed) (j : Nat) (u : Value) (h : (ecs l)[j]? = some u) : ∃ i, ∃ hi : i < l.length, (j = i * 3 ∧ u = .int .i64 l[i].kind) ∨ (j = i * 3 + 1 ∧ u = .int .i64 l[i].n) ∨ (j = i * 3 + 2 ∧ u = .string (bs l[i].text)) := by
  have hj : j < (ecs l).length := by
    rcases Nat.lt_or_ge j (ecs l).length with h' | h'
    · exact h'
    · rw [List.getElem?_eq_none h'] at h; cases h
  rw [ecs_length] at hj
  have hi : j / 3 < l.length := by omega
  obtain ⟨g0, g1, g2⟩ := ecs_get l (j / 3) hi
  refine ⟨j / 3, hi, ?_⟩
  rcases (show j % 3 = 0 ∨ j % 3 = 1 ∨ j % 3 = 2 by omega) with h3 | h3 | h3
  · rw [show j / 3 * 3 = j by omega, h] at g0
    injection g0 with g0
    exact .inl ⟨by omega, g0⟩
  · rw [show j / 3 * 3 + 1 = j by omega, h] at g1
    injection g1 with g1
    exact .inr (.inl ⟨by omega, g1⟩)
  · rw [show j / 3 * 3 + 2 = j by omega, h] at g2
    injection g2 with g2
    exact .inr (.inr ⟨by omega, g2⟩)

section
variable {H : Type} {enc : TypeId × Value → H} {w : World}
/-- a script that came in -/
theorem open_edits {base : Nat} {held : Bool} {a : Option Addr} {len cap : Nat} {d : DataW H} {p : List MemPlace} (h : DataW.Trod enc Try.prog w base (fun _ => true) held 22 (.slice a len cap) d p) :
    ∃ l : List D.Ed, l.length = len ∧ len ≤ cap ∧ cap ≤ maxLen ∧ Reads w w.heap.size 3 a len (ecs l) ∧ ((d = .nil ∧ len = 0) ∨ ∃ spare, d = .slice (l.map edD) spare) := by
  obtain ⟨fuel, hf⟩ := h
  rcases open_slice_fields Try.underlying22 fields32 one32 cells32 hf with ⟨hcs, hx⟩ | ⟨x, len', cap', m, Dt, Pl, hcs, _, hl, hm, hmm, hx, hi⟩
  · simp [Value.cells] at hcs
    obtain ⟨rfl, rfl, rfl⟩ := hcs
    simp only [Prod.mk.injEq] at hx
    exact ⟨[], rfl, Nat.le_refl _, by simp [maxLen], Reads.none_, .inl ⟨hx.1, rfl⟩⟩
  · simp [Value.cells] at hcs
    obtain ⟨rfl, rfl, rfl⟩ := hcs
    simp only [if_true] at hmm
    subst hmm
    simp only [Prod.mk.injEq] at hx
    have hE : ∀ i, ∃ e : D.Ed, i < len → Dt i = edD e ∧ w.cell? (x.add (i * 3)) = some (.int .i64 e.kind) ∧ w.cell? (x.add (i * 3 + 1)) = some (.int .i64 e.n) ∧ w.cell? (x.add (i * 3 + 2)) = some (.string (bs e.text)) := by
      intro i
      by_cases him : i < len
      · obtain ⟨ys, n, hD, _, hyl, hfd⟩ := hi i (by omega)
        obtain ⟨v0, y0, k0, e0, t0⟩ := hfd 0 _ rfl
        obtain ⟨v1, y1, k1, e1, t1⟩ := hfd 1 _ rfl
        obtain ⟨v2, y2, k2, e2, t2⟩ := hfd 2 _ rfl
        obtain ⟨n0, hv0, hy0, _⟩ := DataW.trod_int Try.underlying3 t0
        obtain ⟨n1, hv1, hy1, _⟩ := DataW.trod_int Try.underlying3 t1
        obtain ⟨s2, hv2, hy2, _⟩ := DataW.trod_string Try.underlying9 t2
        simp only [List.cons.injEq, and_true] at hv0 hv1 hv2
        subst hv0 hv1 hv2 hy0 hy1 hy2
        refine ⟨⟨n0, n1, s2.data.toList⟩, fun _ => ⟨?_, by simpa using k0, by simpa using k1, by rw [show bs s2.data.toList = s2 by simp [bs]]; simpa using k2⟩⟩
        rw [hD]
        match ys, hyl with
        | [a0, a1, a2], _ =>
          simp only [List.getElem?_cons_zero, List.getElem?_cons_succ, Option.some.injEq] at e0 e1 e2
          subst e0 e1 e2
          rfl
      · exact ⟨⟨0, 0, []⟩, fun h => absurd h him⟩
    let f : Nat → D.Ed := fun i => Classical.choose (hE i)
    have hfs : ∀ i, i < len → Dt i = edD (f i) ∧ w.cell? (x.add (i * 3)) = some (.int .i64 (f i).kind) ∧ w.cell? (x.add (i * 3 + 1)) = some (.int .i64 (f i).n) ∧ w.cell? (x.add (i * 3 + 2)) = some (.string (bs (f i).text)) := fun i => Classical.choose_spec (hE i)
    have hlen : ((List.range len).map f).length = len := by simp
    refine ⟨(List.range len).map f, hlen, hl, hm, ⟨by rw [ecs_length, hlen], fun hn => ?_⟩, .inr ⟨_, by
      rw [hx.1, List.map_map]
      congr 1
      exact List.map_congr_left fun i hi' => (hfs i (by simpa using hi')).1⟩⟩
    have h0 := (hfs 0 hn).2.1
    have hb : x.block < w.heap.size := by
      have := World.block_lt_of_cell? w _ h0
      rwa [block_of_add] at this
    refine ⟨x, rfl, hb, fun j u hu => ?_⟩
    obtain ⟨i, hil, hc⟩ := ecs_at _ j u hu
    rw [hlen] at hil
    have hg : ((List.range len).map f)[i]'(by rw [hlen]; exact hil) = f i := by simp
    obtain ⟨_, q0, q1, q2⟩ := hfs i hil
    rcases hc with ⟨rfl, rfl⟩ | ⟨rfl, rfl⟩ | ⟨rfl, rfl⟩
    · rw [hg]; exact q0
    · rw [hg]; exact q1
    · rw [hg]; exact q2
end

/-- what the bound on the bulk gives -/
theorem edits_all {H : Type} : ∀ (l : List D.Ed), l.length ≤ Rows.uptoBulkAll (l.map (edD (H := H))) ∧ ∀ e ∈ l, e.text.length ≤ Rows.uptoBulkAll (l.map (edD (H := H))) := by
  intro l
  induction l with
  | nil => exact ⟨by simp, fun e he => by cases he⟩
  | cons x l ih =>
    simp only [List.map_cons, Rows.uptoBulkAll, List.length_cons]
    have hx : x.text.length + 1 ≤ Rows.uptoBulk (edD x : DataW H) := by simp only [edD, Rows.uptoBulk, Rows.uptoBulkAll]; omega
    refine ⟨by omega, fun e he => ?_⟩
    rcases List.mem_cons.1 he with rfl | he
    · omega
    · have := ih.2 e he; omega
theorem edits_bulk {H : Type} {l : List D.Ed} {len : Nat} {d : DataW H} (hl : l.length = len) (hd : (d = .nil ∧ len = 0) ∨ ∃ spare, d = .slice (l.map edD) spare) (hb : Rows.uptoBulk d ≤ 1048576) :
    len ≤ 1048576 ∧ ∀ e ∈ l, e.text.length ≤ 1048576 := by
  rcases hd with ⟨_, h0⟩ | ⟨spare, rfl⟩
  · have : l = [] := List.eq_nil_of_length_eq_zero (by omega)
    subst this
    exact ⟨by omega, fun e he => by cases he⟩
  · have h := edits_all (H := H) l
    simp only [Rows.uptoBulk] at hb
    exact ⟨by omega, fun e he => by have := h.2 e he; omega⟩
theorem bytes32 : Try.prog.bytesOf 32 = 32 := by kernel_rfl
theorem ed_weight {H : Type} (e : D.Ed) : e.text.length ∈ (edD e : DataW H).weights Try.prog 32 := by
  simp [edD, DataW.weights, DataW.weightsEach]
theorem ed_weights {H : Type} : ∀ (l : List D.Ed) (e : D.Ed), e ∈ l → e.text.length ∈ DataW.weightsAll Try.prog 32 (l.map (edD (H := H))) := by
  intro l
  induction l with
  | nil => intro e he; cases he
  | cons x l ih =>
    intro e he
    simp only [List.map_cons, DataW.weightsAll, List.mem_append]
    rcases List.mem_cons.1 he with rfl | he
    · exact .inl (ed_weight e)
    · exact .inr (ih e he)
/-- what the form's own reach gives: each slice and each text takes at most 2^47 - 4096 bytes -/
theorem edits_sized {H : Type} {ts : List TypeId} {ds : List (DataW H)} (hsz : (DataW.weightsEach Try.prog ts ds).all (· ≤ reachBytes) = true) {j : Nat} {d : DataW H} {l : List D.Ed} {len : Nat}
    (ht : ts[j]? = some 22) (hd0 : ds[j]? = some d) (hl : l.length = len) (hd : (d = .nil ∧ len = 0) ∨ ∃ spare, d = .slice (l.map edD) spare) :
    len ≤ 4398046511000 ∧ ∀ e ∈ l, e.text.length ≤ 140737488351232 := by
  rcases hd with ⟨_, h0⟩ | ⟨spare, rfl⟩
  · have : l = [] := List.eq_nil_of_length_eq_zero (by omega)
    subst this
    exact ⟨by omega, fun e he => by cases he⟩
  · have h1 := sized_slice hsz ht hd0 Try.underlying22
    rw [bytes32] at h1
    simp only [reachBytes, List.length_map] at h1
    refine ⟨by omega, fun e he => ?_⟩
    have hw : e.text.length ∈ (DataW.slice (l.map edD) spare : DataW H).weights Try.prog 22 := by
      simp only [DataW.weights, Try.underlying22]
      exact List.mem_cons_of_mem _ (List.mem_append_left _ (ed_weights l e he))
    have h2 : e.text.length ≤ reachBytes := by simpa using List.all_eq_true.1 hsz _ (DataW.weights_mem_each ht hd0 _ hw)
    simpa [reachBytes] using h2
theorem edits_ok7 {l : List D.Ed} (h : ∀ e ∈ l, e.text.length ≤ 140737488351232) : ∀ x ∈ l, EdOk x := fun x hx => by unfold EdOk; have := h x hx; omega
theorem edits_ok {l : List D.Ed} (h : ∀ e ∈ l, e.text.length ≤ 1048576) : ∀ x ∈ l, EdOk x := fun x hx => by unfold EdOk; have := h x hx; omega
end Go.Proofs.Ytakkjehmekekbaa
