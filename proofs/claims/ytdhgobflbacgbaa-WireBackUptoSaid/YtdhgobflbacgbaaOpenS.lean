/- How a list of texts that came in is opened, and what the bound on the arguments' bulk gives. No conditions. -/
import Derived.Test.YtdhgobflbacgbaaOpen
import Derived.Test.YtdhgobflbacgbaaList
import Derived.SliceStrings
import Derived.JoinedCond
namespace Go.Proofs.Ytdhgobflbacgbaa
open Go.ChangeShapes Go.WideShapes Go.ChangeAt Go.RowKit

section
variable {H : Type} {enc : TypeId × Value → H} {P : Program} {w : World}
/-- a slice of strings that came in -/
theorem open_strs {t e : TypeId} (ht : P.underlying t = some (.slice e)) (he : P.underlying e = some .string) (hc : P.cellsOf e = 1) {base : Nat} {held : Bool}
    {a : Option Addr} {len cap : Nat} {d : DataW H} {p : List MemPlace} (h : DataW.Trod enc P w base (fun _ => true) held t (.slice a len cap) d p) :
    ∃ l : List (List UInt8), l.length = len ∧ len ≤ cap ∧ cap ≤ maxLen ∧ Reads w w.heap.size 1 a len (svs l) ∧ ((d = .nil ∧ len = 0) ∨ ∃ spare, d = .slice (l.map fun s => .lit (.string s)) spare ∧ len + spare.length = cap) := by
  obtain ⟨fuel, hf⟩ := h
  rcases open_strings ht he hc hf with ⟨hcs, hx⟩ | ⟨x, l, c, ss, hcs, _, hl, hm, hz, hx, hcell, _⟩
  · simp [Value.cells] at hcs
    obtain ⟨rfl, rfl, rfl⟩ := hcs
    simp only [Prod.mk.injEq] at hx
    exact ⟨[], rfl, Nat.le_refl _, by simp [maxLen], Reads.none_, .inl ⟨hx.1, rfl⟩⟩
  · simp [Value.cells] at hcs
    obtain ⟨rfl, rfl, rfl⟩ := hcs
    simp only [if_true] at hz
    simp only [Prod.mk.injEq] at hx
    have hlen : ((ss.take len).map fun s => s.data.toList).length = len := by simp; omega
    have hd : (strs (ss.take len) : List (DataW H)) = ((ss.take len).map fun s => s.data.toList).map fun s => .lit (.string s) := by simp [strs, List.map_map, Function.comp_def]
    refine ⟨(ss.take len).map fun s => s.data.toList, hlen, hl, hm, ⟨by simp [svs_length]; omega, fun hn => ?_⟩, .inr ⟨_, by rw [hx.1, hd], by simp [strs]; omega⟩⟩
    have h0 := hcell 0 (by omega)
    have hb : x.block < w.heap.size := by
      have := World.block_lt_of_cell? w _ h0
      rwa [block_of_add] at this
    refine ⟨x, rfl, hb, fun j u hu => ?_⟩
    have hj : j < len := by
      rcases Nat.lt_or_ge j len with h | h
      · exact h
      · rw [List.getElem?_eq_none (by rw [svs_length, hlen]; exact h)] at hu; cases hu
    have hjz : j < ss.length := by omega
    rw [hcell j hjz]
    simp only [svs, List.map_map, List.getElem?_map, List.getElem?_take, if_pos hj, List.getElem?_eq_getElem hjz, Option.map_some, Option.some.injEq, Function.comp_apply, sv] at hu
    subst hu
    simp [List.getD, List.getElem?_eq_getElem hjz, bs]
end

/-- a list's bytes are at most ten for each letter and value of it -/
theorem texts_bulk {H : Type} : ∀ (l : List (List UInt8)), Rows.uptoBulkAll (l.map fun s => (DataW.lit (.string s) : DataW H)) ≤ 1048576 → (W.texts l).length ≤ 10 * Rows.uptoBulkAll (l.map fun s => (DataW.lit (.string s) : DataW H)) := by
  intro l
  induction l with
  | nil => intro _; simp [W.texts]
  | cons s l ih =>
    intro h
    simp only [List.map_cons, Rows.uptoBulkAll, Rows.uptoBulk] at h ⊢
    have h1 := ih (by omega)
    have h2 : (W.num s.length).length ≤ 9 := W.num_len9 (by omega)
    simp only [W.texts, W.text, List.length_append]
    omega
theorem length_bulk {H : Type} : ∀ (l : List (List UInt8)), l.length ≤ Rows.uptoBulkAll (l.map fun s => (DataW.lit (.string s) : DataW H)) := by
  intro l
  induction l with
  | nil => simp
  | cons s l ih => simp only [List.map_cons, Rows.uptoBulkAll, Rows.uptoBulk, List.length_cons]; omega
theorem bulk_slice {H : Type} {elems spare : List (DataW H)} : Rows.uptoBulkAll elems + 1 ≤ Rows.uptoBulk (.slice elems spare) := by
  simp only [Rows.uptoBulk]; omega
theorem bulk_all_length {H : Type} : ∀ (l : List (DataW H)), l.length ≤ Rows.uptoBulkAll l := by
  intro l
  induction l with
  | nil => simp
  | cons d l ih =>
    have : 1 ≤ Rows.uptoBulk d := by
      cases d with
      | lit l => cases l <;> simp [Rows.uptoBulk]
      | _ => simp [Rows.uptoBulk]
    simp only [Rows.uptoBulkAll, List.length_cons]; omega
/-- the bytes of a list of small bulk -/
theorem list_bulk {H : Type} {l : List (List UInt8)} {len : Nat} {d : DataW H} (hl : l.length = len) (hd : (d = .nil ∧ len = 0) ∨ ∃ spare, d = .slice (l.map fun s => .lit (.string s)) spare ∧ True) (hb : Rows.uptoBulk d ≤ 1048576) :
    (W.list l).length ≤ 11000000 ∧ len ≤ 1048576 := by
  rcases hd with ⟨_, h0⟩ | ⟨spare, rfl, _⟩
  · have : l = [] := List.eq_nil_of_length_eq_zero (by omega)
    subst this
    exact ⟨by simp [W.list, W.texts]; have := W.num_len9 (n := 0) (by omega); omega, by omega⟩
  · have h1 := bulk_slice (elems := l.map fun s => (DataW.lit (.string s) : DataW H)) (spare := spare)
    have h2 := length_bulk (H := H) l
    have h3 := texts_bulk (H := H) l (by omega)
    have h4 := W.num_len9 (n := l.length) (by omega)
    simp only [W.list, List.length_append]
    omega
end Go.Proofs.Ytdhgobflbacgbaa
