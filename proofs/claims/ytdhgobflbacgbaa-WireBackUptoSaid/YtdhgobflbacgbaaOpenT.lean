/- How a pair of slices of bytes that came in is opened. -/
import Derived.Test.YtdhgobflbacgbaaOpenS
namespace Go.Proofs.Ytdhgobflbacgbaa
open Go.RowKit Go.ChangeShapes Go.WideShapes Go.ChangeAt

section
variable {H : Type} {enc : TypeId × Value → H} {w : World}
theorem cells57 : Try.prog.cellsOf 57 = 2 := by kernel_rfl
theorem cells22 : Try.prog.cellsOf 22 = 1 := by kernel_rfl
/-- the two slices, each as one that came in by itself -/
theorem open_two {base : Nat} {held : Bool} {v : Value} {d : DataW H} {p : List MemPlace} (hv : Value.okWide Try.prog w .any base 57 v) (h : DataW.Trod enc Try.prog w 0 (fun _ => true) held 57 v d p) :
    ∃ (u0 u1 : Value) (d0 d1 : DataW H) (p0 p1 : List MemPlace) (m : Nat), v = .agg #[u0, u1] ∧ d = .agg [d0, d1] ∧
      DataW.trod enc Try.prog w 0 (fun _ => true) held m 22 [u0] = some (d0, p0) ∧ DataW.trod enc Try.prog w 0 (fun _ => true) held m 22 [u1] = some (d1, p1) := by
  obtain ⟨cs, rfl, hsz, _⟩ : ∃ cs, v = .agg cs ∧ cs.size = Try.prog.cellsOf 57 ∧ Row.okWide Try.prog w .any base 57 cs := by
    simpa [Value.okWide, Try.underlying57] using hv
  rw [cells57] at hsz
  obtain ⟨l⟩ := cs
  obtain ⟨c0, c1, rfl⟩ : ∃ c0 c1, l = [c0, c1] := by
    match l, hsz with
    | [a, b], _ => exact ⟨a, b, rfl⟩
  obtain ⟨fuel, hf⟩ := h
  have hf : DataW.trod enc Try.prog w 0 (fun _ => true) held fuel 57 [c0, c1] = some (d, p) := hf
  obtain ⟨ys, m, _, hx, _, hl, hel⟩ := DataW.trod_array Try.underlying57 hf
  have h0 := hel 0 (by omega)
  have h1 := hel 1 (by omega)
  match ys, hl with
  | [y0, y1], _ =>
    rw [cells22] at h0 h1
    exact ⟨c0, c1, y0.1, y1.1, y0.2, y1.2, m, rfl, by simp only [Prod.mk.injEq] at hx; rw [hx.1]; rfl, h0, h1⟩
/-- a cell that reads as a slice of bytes is one -/
theorem open_bytes1 {held : Bool} {u : Value} {d : DataW H} {p : List MemPlace} {m : Nat} (h : DataW.trod enc Try.prog w 0 (fun _ => true) held m 22 [u] = some (d, p)) :
    ∃ (a : Option Addr) (len cap : Nat) (l : List UInt8), u = .slice a len cap ∧ l.length = len ∧ len ≤ cap ∧ Reads w w.heap.size 1 a len (bvs l) ∧ (Rows.uptoBulk d ≤ 1048576 → len ≤ 1048576) := by
  obtain ⟨a, len, cap, rfl⟩ : ∃ a len cap, u = .slice a len cap := by
    rcases open_ints Try.underlying22 Try.underlying5 cells5 h with ⟨hcs, _⟩ | ⟨x, l, c, zs, hcs, _⟩
    · exact ⟨none, 0, 0, by simpa using hcs⟩
    · exact ⟨_, _, _, by simpa using hcs⟩
  have h' : DataW.Trod enc Try.prog w 0 (fun _ => true) held 22 (.slice a len cap) d p := ⟨m, h⟩
  obtain ⟨l, hl, hc, _, hr, sz⟩ := open_bytes Try.underlying22 Try.underlying5 cells5 h'
  refine ⟨a, len, cap, l, rfl, hl, hc, hr, fun hb => ?_⟩
  rcases sz with ⟨_, h⟩ | ⟨elems, spare, hd, he, _⟩
  · omega
  · have h1 := bulk_slice (elems := elems) (spare := spare)
    have h2 := bulk_all_length elems
    rw [← hd] at h1
    omega
theorem two_bulk {d0 d1 : DataW H} (h : Rows.uptoBulk (.agg [d0, d1] : DataW H) ≤ 1048576) : Rows.uptoBulk d0 ≤ 1048576 ∧ Rows.uptoBulk d1 ≤ 1048576 := by
  simp only [Rows.uptoBulk, Rows.uptoBulkAll] at h
  omega
end
end Go.Proofs.Ytdhgobflbacgbaa
