/- diff.costs: the table of the least costs, at every two texts of at most 1000 bytes. -/
import Derived.Test.YtakkjehmekekbaaMul
import Derived.StillTailTactics
import Derived.Deep.QuietTactic
import Derived.BigQuiet
import Derived.Deep.LoopGhost
import Derived.Outline
namespace Go.Proofs.Ytakkjehmekekbaa
open Go.RowKit

/-- the least cost from a place of a to a place of b -/
def dd (a b : List UInt8) (i j : Nat) : Nat := D.dist (a.drop i) (b.drop j)

theorem info52 : (Try.prog.info? 52).map (fun i => (i.zero, i.size, i.bytes)) = some (some (.int .i16 0), 1, 2) := by kernel_rfl
theorem info53 : (Try.prog.info? 53).map (fun i => (i.zero, i.size, i.bytes)) = some (some (.slice none 0 0), 1, 24) := by kernel_rfl

theorem mk_row {P : Program} (t e : TypeId) {z : Value} {bytes : Nat} (ht : P.underlying t = some (.slice e)) (hi : (P.info? e).map (fun i => (i.zero, i.size, i.bytes)) = some (some z, 1, bytes)) (hz : z.cells = #[z]) (n : Nat) (hn : bytes * n ≤ 281474976710656) (h63 : n ≤ 9223372036854775807) (w : World) :
    (Instr.makeSlice t (.int .i64 (n : Int)) (.int .i64 (n : Int))).run P w = .ok (.slice (some ⟨w.heap.size, 0, none⟩) n n) (w.alloc (.cells (madeCells #[z] n) e)) := by
  obtain ⟨i, hi, h0, h1, h2⟩ := info_parts hi
  have hr := run_make (P := P) w t e i z ht hi h0 .i64 .i64 n n (by omega) (by omega) (by rw [h2]; omega) (by omega)
  rw [hz, h1] at hr
  simpa using hr

theorem mul_bound {x y : Nat} (hx : x ≤ 1001) (hy : y ≤ 1001) : x * y ≤ 1002001 := Nat.mul_le_mul hx hy
theorem row_fits {N : Nat} (h : N ≤ 1002001) : 2 * N ≤ 281474976710656 ∧ N ≤ 9223372036854775807 := by omega
theorem row_fits' {N : Nat} (h : N ≤ 1001) : 24 * N ≤ 281474976710656 ∧ N ≤ 9223372036854775807 := by omega
theorem wrap_mul {x y N : Nat} (h : x * y = N) (hN : N ≤ 1002001) : IntKind.i64.wrap ((x : Int) * (y : Int)) = (N : Int) := by
  rw [← Int.natCast_mul, h]; exact IntWalk.i64_in _ (by omega)

/-- what the first loop has laid -/
def RRel (w : World) (la lb N k : Nat) (wr : World) : Prop :=
  k ≤ la + 1 ∧ (∃ f, wr.rowIs (w.heap.size + 1) 53 (la + 1) f ∧ ∀ i, i < k → f i = .slice (some ⟨w.heap.size, i * (lb + 1), none⟩) (lb + 1) (lb + 1)) ∧ wr.rowIs w.heap.size 52 N (fun _ => .int .i16 0) ∧ Below w.heap.size w wr

theorem RRel.step {w wr : World} {la lb N k P0 P1 : Nat} (hP0 : k * (lb + 1) = P0) (hP1 : P1 = P0 + (lb + 1)) (hlt : k < la + 1) {f : Nat → Value} (hR : wr.rowIs (w.heap.size + 1) 53 (la + 1) f) (hf : ∀ i, i < k → f i = .slice (some ⟨w.heap.size, i * (lb + 1), none⟩) (lb + 1) (lb + 1))
    (hG : wr.rowIs w.heap.size 52 N (fun _ => .int .i16 0)) (hbel : Below w.heap.size w wr) :
    RRel w la lb N (k + 1) (wr.setCell ⟨w.heap.size + 1, k, none⟩ (.slice (some ⟨w.heap.size, P0, none⟩) (P1 - P0) (P1 - P0))) := by
  refine ⟨by omega, ⟨_, hR.set k _, fun i hi => ?_⟩, hG.setOther (by show w.heap.size ≠ w.heap.size + 1; omega) _, hbel.setCell (p := ⟨w.heap.size + 1, k, none⟩) (by show w.heap.size ≤ w.heap.size + 1; omega) _⟩
  by_cases h : i = k
  · subst h
    rw [if_pos rfl, hP0, show P1 - P0 = lb + 1 by omega]
  · rw [if_neg h]; exact hf i (by omega)

/-- what the table holds: of row i the places from j on, and all rows behind -/
def TRel (w : World) (a b : List UInt8) (la lb N i j : Nat) (wr : World) : Prop :=
  wr.rowIs (w.heap.size + 1) 53 (la + 1) (fun i => .slice (some ⟨w.heap.size, i * (lb + 1), none⟩) (lb + 1) (lb + 1)) ∧
    (∃ f, wr.rowIs w.heap.size 52 N f ∧ ∀ r c, r ≤ la → c ≤ lb → (i + 1 ≤ r ∨ (r = i ∧ j ≤ c)) → f (r * (lb + 1) + c) = .int .i16 (dd a b r c)) ∧ Below w.heap.size w wr
/-- .. all rows from m on -/
def ORel (w : World) (a b : List UInt8) (la lb N m : Nat) (wr : World) : Prop :=
  wr.rowIs (w.heap.size + 1) 53 (la + 1) (fun i => .slice (some ⟨w.heap.size, i * (lb + 1), none⟩) (lb + 1) (lb + 1)) ∧
    (∃ f, wr.rowIs w.heap.size 52 N f ∧ ∀ r c, r ≤ la → c ≤ lb → m ≤ r → f (r * (lb + 1) + c) = .int .i16 (dd a b r c)) ∧ Below w.heap.size w wr
theorem RRel.done {w wr : World} {a b : List UInt8} {la lb N : Nat} (h : RRel w la lb N (la + 1) wr) : ORel w a b la lb N (la + 1) wr := by
  obtain ⟨_, ⟨f, hR, hf⟩, hG, hbel⟩ := h
  exact ⟨hR.congr (fun i hi => hf i hi), ⟨_, hG, fun r c h1 h2 h3 => by omega⟩, hbel⟩
theorem ORel.row {w wr : World} {a b : List UInt8} {la lb N i : Nat} (h : ORel w a b la lb N (i + 1) wr) : TRel w a b la lb N i (lb + 1) wr := by
  obtain ⟨h1, ⟨f, h2, h3⟩, h4⟩ := h
  exact ⟨h1, ⟨f, h2, fun r c hr hc hh => h3 r c hr hc (by omega)⟩, h4⟩
theorem TRel.row {w wr : World} {a b : List UInt8} {la lb N i : Nat} (h : TRel w a b la lb N i 0 wr) : ORel w a b la lb N i wr := by
  obtain ⟨h1, ⟨f, h2, h3⟩, h4⟩ := h
  exact ⟨h1, ⟨f, h2, fun r c hr hc hh => h3 r c hr hc (by omega)⟩, h4⟩
theorem idx_inj {W r c i j : Nat} (hc : c < W) (hj : j < W) (h : r * W + c = i * W + j) : r = i ∧ c = j := by
  have h1 : (r * W + c) / W = r := by rw [Nat.mul_comm, Nat.mul_add_div (by omega), Nat.div_eq_of_lt hc, Nat.add_zero]
  have h2 : (i * W + j) / W = i := by rw [Nat.mul_comm, Nat.mul_add_div (by omega), Nat.div_eq_of_lt hj, Nat.add_zero]
  have h3 : r = i := by rw [← h1, h, h2]
  subst h3
  exact ⟨rfl, by omega⟩
theorem TRel.set {w wr : World} {a b : List UInt8} {la lb N i j P0 : Nat} (hP : i * (lb + 1) = P0) (hj : j ≤ lb) (h : TRel w a b la lb N i (j + 1) wr) (n : Nat) :
    TRel w a b la lb N i j ((wr.drewN n).setCell ⟨w.heap.size, P0 + j, none⟩ (.int .i16 (dd a b i j))) := by
  obtain ⟨h1, ⟨f, h2, h3⟩, h4⟩ := h
  refine ⟨(rowIs_drewN h1 n).setOther (by show w.heap.size + 1 ≠ w.heap.size; omega) _, ⟨_, (rowIs_drewN h2 n).set (P0 + j) _, fun r c hr hc hh => ?_⟩, (below_drewN h4 n).setCell (p := ⟨w.heap.size, P0 + j, none⟩) (Nat.le_refl _) _⟩
  by_cases he : r * (lb + 1) + c = P0 + j
  · rw [if_pos he]
    rw [← hP] at he
    obtain ⟨rfl, rfl⟩ := idx_inj (by omega) (by omega) he
    rfl
  · rw [if_neg he]
    refine h3 r c hr hc ?_
    by_cases h5 : r = i
    · subst h5
      refine .inr ⟨rfl, ?_⟩
      rcases hh with hh | ⟨_, hh⟩
      · omega
      · rcases Nat.lt_or_ge j c with h6 | h6
        · omega
        · exfalso; exact he (by rw [hP]; omega)
    · omega
theorem TRel.drewN {w wr : World} {a b : List UInt8} {la lb N i j : Nat} (h : TRel w a b la lb N i j wr) (n : Nat) : TRel w a b la lb N i j (wr.drewN n) := by
  obtain ⟨h1, ⟨f, h2, h3⟩, h4⟩ := h
  exact ⟨rowIs_drewN h1 n, ⟨f, rowIs_drewN h2 n, h3⟩, below_drewN h4 n⟩
theorem TRel.drew {w wr : World} {a b : List UInt8} {la lb N i j : Nat} (h : TRel w a b la lb N i j wr) : TRel w a b la lb N i j wr.drew := by
  obtain ⟨h1, ⟨f, h2, h3⟩, h4⟩ := h
  exact ⟨h1.drew, ⟨f, h2.drew, h3⟩, h4.drew⟩
theorem dd_end {a b : List UInt8} {la j : Nat} (h : a.length = la) : dd a b la j = b.length - j := by
  unfold dd; have : a.drop la = [] := List.drop_eq_nil_of_le (by omega)
  rw [this, D.dist_nil_left, List.length_drop]
theorem dd_right {a b : List UInt8} {lb i : Nat} (h : b.length = lb) : dd a b i lb = a.length - i := by
  unfold dd; have : b.drop lb = [] := List.drop_eq_nil_of_le (by omega)
  rw [this, D.dist_nil_right, List.length_drop]
theorem dd_same {a b : List UInt8} {i j : Nat} (hi : i < a.length) (hj : j < b.length) (h : a[i] = b[j]) : dd a b i j = dd a b (i + 1) (j + 1) := by
  unfold dd; rw [List.drop_eq_getElem_cons hi, List.drop_eq_getElem_cons hj, h, D.dist_same]
theorem dd_other {a b : List UInt8} {i j : Nat} (hi : i < a.length) (hj : j < b.length) (h : a[i] ≠ b[j]) : dd a b i j = 1 + min (dd a b (i + 1) j) (dd a b i (j + 1)) := by
  unfold dd
  conv => lhs; rw [List.drop_eq_getElem_cons hi, List.drop_eq_getElem_cons hj, D.dist_other h]
  rw [← List.drop_eq_getElem_cons hi, ← List.drop_eq_getElem_cons hj]
theorem dd_le (a b : List UInt8) (i j : Nat) : dd a b i j ≤ a.length + b.length := by
  unfold dd; have := D.dist_bound (a.drop i) (b.drop j); simp at this; omega

set_option maxRecDepth 100000 in
set_option maxHeartbeats 4000000 in
theorem costs_any (a b : List UInt8) (la lb N : Nat) (w : World) (hla : a.length = la) (hlb : b.length = lb) (hN : (la + 1) * (lb + 1) = N) (ha : la ≤ 1000) (hb : lb ≤ 1000) :
    Calls Try.prog 23 #[.string (bs a), .string (bs b)] w fun e w' => ∃ R G, e = .returned (.slice (some ⟨R, 0, none⟩) (la + 1) (la + 1)) ∧ w.heap.size ≤ R ∧ w.heap.size ≤ G ∧
      w'.rowIs R 53 (la + 1) (fun i => .slice (some ⟨G, i * (lb + 1), none⟩) (lb + 1) (lb + 1)) ∧ (∃ f, w'.rowIs G 52 N f ∧ ∀ i j, i ≤ la → j ≤ lb → f (i * (lb + 1) + j) = .int .i16 (dd a b i j)) ∧ Below w.heap.size w w' := by
  have hsa : (bs a).size = la := by rw [bs_size, hla]
  have hsb : (bs b).size = lb := by rw [bs_size, hlb]
  have hNle : N ≤ 1002001 := by rw [← hN]; exact mul_bound (by omega) (by omega)
  have hzN := hide (wrap_mul hN hNle)
  have m53 := fun w0 => mk_row (P := Try.prog) 53 52 Try.underlying53 info52 rfl N (row_fits hNle).1 (row_fits hNle).2 w0
  have m49 := fun w0 => mk_row (P := Try.prog) 49 53 Try.underlying49 info53 rfl (la + 1) (row_fits' (by omega)).1 (row_fits' (by omega)).2 w0
  rw [show (((la + 1 : Nat)) : Int) = (la : Int) + 1 from by omega] at m49
  rw [show (((la + 1 : Nat)) : Int) = (la : Int) + 1 from by omega, show (((lb + 1 : Nat)) : Int) = (lb : Int) + 1 from by omega] at hzN
  replace hN := hide hN
  replace hla := hide hla
  replace hlb := hide hlb
  go_enter Try.func23, Try.ntmps23
  go_wp2_with (refine wpList_mul rfl (.tmp 16) (.tmp 17) rfl _ _ _ rfl rfl (unhide hzN) ?_)
  have hG0 := World.rowIs_made w (.int .i16 0) N 52
  have hR0 := World.rowIs_made (w.alloc (.cells (madeCells #[.int .i16 0] N) 52)) (.slice none 0 0) (la + 1) 53
  have hB0 : Below w.heap.size w ((w.alloc (.cells (madeCells #[.int .i16 0] N) 52)).alloc (.cells (madeCells #[.slice none 0 0] (la + 1)) 53)) := ((Below.refl _ _).alloc (Nat.le_refl _) _).alloc (by simp) _
  simp only [World.size_alloc] at hR0
  have hRR := hide (show RRel w la lb N 0 _ from ⟨Nat.zero_le _, ⟨_, hR0, fun i hi => absurd hi (by omega)⟩, hG0.alloc _, hB0⟩)
  clear hG0 hR0 hB0 m53 m49
  go_loopg [8, 26] (la + 1) (fun m _ x wr => ∃ k : Nat, x = .int .i64 k ∧ la + 1 ≤ m + k ∧ RRel w la lb N k wr)
  case atStart => exact ⟨0, rfl, by omega, unhide hRR⟩
  case round =>
    clear hRR
    obtain ⟨k, rfl, hm, hk, ⟨f, hR, hf⟩, hG, hbel⟩ := hrel
    by_cases hlt : k < la + 1
    · obtain ⟨P0, hP0⟩ : ∃ x, k * (lb + 1) = x := ⟨_, rfl⟩
      obtain ⟨P1, hP1⟩ : ∃ x, (k + 1) * (lb + 1) = x := ⟨_, rfl⟩
      have hP01 : P1 = P0 + (lb + 1) := by rw [← hP1, ← hP0, Nat.succ_mul]
      have hPN : P1 ≤ N := by rw [← hP1, ← unhide hN]; exact Nat.mul_le_mul_right _ hlt
      have z0 := hide (wrap_mul hP0 (by omega))
      have z1 := hide (wrap_mul hP1 (by omega))
      rw [show (((lb + 1 : Nat)) : Int) = (lb : Int) + 1 from by omega] at z0 z1
      rw [show (((k + 1 : Nat)) : Int) = (k : Int) + 1 from by omega] at z1
      have b1 : (P0 : Int) ≤ P1 := by omega
      have b2 : (P1 : Int) ≤ N := by omega
      have b3 : (P1 : Int) ≤ 1002001 := by omega
      have hcell := hR.cell (i := k) hlt
      have hfr := hR.frozen k
      have hlt' : (k : Int) < (la : Int) + 1 := by omega
      have hne : ¬ P1 = P0 := by omega
      have HS := hide (RRel.step hP0 hP01 hlt hR hf hG hbel)
      clear hf hP01 hP1 hP0 hR hG hbel
      go_wp2_with (first
        | (refine wpList_mul rfl (.tmp 32) (.tmp 33) rfl _ _ _ rfl rfl (unhide z0) ?_)
        | (refine wpList_mul rfl (.tmp 36) (.tmp 37) rfl _ _ _ rfl rfl (unhide z1) ?_)
        | (refine wpList_mul rfl (.tmp 40) (.tmp 41) rfl _ _ _ rfl rfl (unhide z1) ?_))
      go_roundg (gk - 1)
      case measure => omega
      case rel => exact ⟨k + 1, by go_num, by omega, unhide HS⟩
    · obtain rfl : k = la + 1 := by omega
      have hT := hide (show ORel w a b la lb N (la + 1) wr from RRel.done ⟨hk, ⟨f, hR, hf⟩, hG, hbel⟩)
      clear hk hR hf hG hbel hlt
      rw [show (((la + 1 : Nat)) : Int) = (la : Int) + 1 from by omega]
      go_wp2_with fail
      go_loopg [9, 10] (la + 1) (fun m x _ wr => x = .int .i64 ((m : Int) - 1) ∧ m ≤ la + 1 ∧ ORel w a b la lb N m wr)
      case atStart => exact ⟨by go_num, by omega, unhide hT⟩
      case round =>
        clear hT
        obtain ⟨rfl, hm, hT⟩ := hrel
        cases gk with
        | zero =>
          rw [show (((0 : Nat) : Int) - 1) = -1 from rfl]
          replace hT := hide hT
          go_wp2_with fail
          go_ret
          obtain ⟨h1, ⟨f, h2, h3⟩, h4⟩ := unhide hT
          exact ⟨_, _, rfl, by omega, by omega, h1, ⟨f, h2, fun i j hi hj => h3 i j hi hj (Nat.zero_le _)⟩, h4⟩
        | succ i =>
          rw [show (((i + 1 : Nat) : Int) - 1) = (i : Int) from by omega]
          replace hT := hide hT.row
          go_wp2_with fail
          go_loopg [10] (lb + 1) (fun m x wr => x = .int .i64 ((m : Int) - 1) ∧ m ≤ lb + 1 ∧ TRel w a b la lb N i m wr)
          case atStart => exact ⟨by go_num, by omega, unhide hT⟩
          case round =>
            clear hT
            obtain ⟨rfl, hmj, hT⟩ := hrel
            cases gk with
            | zero =>
              rw [show (((0 : Nat) : Int) - 1) = -1 from rfl]
              replace hT := hide hT.row
              go_wp2_with fail
              go_roundg i
              case measure => omega
              case rel => exact ⟨by go_num, by omega, unhide hT⟩
            | succ j =>
              rw [show (((j + 1 : Nat) : Int) - 1) = (j : Int) from by omega]
              obtain ⟨P0, hP0⟩ : ∃ x, i * (lb + 1) = x := ⟨_, rfl⟩
              obtain ⟨hR, ⟨f, hG, hf⟩, hbel⟩ := id hT
              have hPN : P0 + (lb + 1) ≤ N := by
                have := Nat.mul_le_mul_right (lb + 1) (show i + 1 ≤ la + 1 by omega)
                rw [unhide hN, Nat.succ_mul, hP0] at this
                exact this
              have hRi : wr.cell? ⟨w.heap.size + 1, i, none⟩ = some (.slice (some ⟨w.heap.size, P0, none⟩) (lb + 1) (lb + 1)) := by rw [hR.cell (by omega), hP0]
              have hGc : wr.cell? ⟨w.heap.size, P0 + j, none⟩ = some (f (P0 + j)) := hG.cell (by omega)
              have hGf := hG.frozen (P0 + j)
              have hS := fun n => TRel.set hP0 (show j ≤ lb by omega) hT n
              by_cases hi : i = la
              · have e1 : ((i : Int) == (la : Int)) = true := by rw [beq_iff_eq]; omega
                have hd : dd a b i j = lb - j := by rw [hi, dd_end (unhide hla), unhide hlb]
                have hS0 := hS 0
                rw [hd, World.drewN_zero] at hS0
                replace hS0 := hide hS0
                have e2 : IntKind.i16.wrap ((lb : Int) - j) = ((lb - j : Nat) : Int) := by
                  rw [show ((lb : Int) - j) = ((lb - j : Nat) : Int) from by omega]; exact IntWalk.i16_in _ (by omega)
                clear hd hi hS hR hG hf hbel hT
                go_wp2_with fail
                go_roundg j
                case measure => omega
                case rel => exact ⟨rfl, by omega, unhide hS0⟩
              · have e1 : ((i : Int) == (la : Int)) = false := by rw [beq_eq_false_iff_ne]; omega
                by_cases hj : j = lb
                · have e2 : ((j : Int) == (lb : Int)) = true := by rw [beq_iff_eq]; omega
                  have hd : dd a b i j = la - i := by rw [hj, dd_right (unhide hlb), unhide hla]
                  have hS0 := hS 0
                  rw [hd, World.drewN_zero] at hS0
                  replace hS0 := hide hS0
                  have e3 : IntKind.i16.wrap ((la : Int) - i) = ((la - i : Nat) : Int) := by
                    rw [show ((la : Int) - i) = ((la - i : Nat) : Int) from by omega]; exact IntWalk.i16_in _ (by omega)
                  clear hd hi hj hS hR hG hf hbel hT
                  go_wp2_with fail
                  go_roundg j
                  case measure => omega
                  case rel => exact ⟨rfl, by omega, unhide hS0⟩
                · have e2 : ((j : Int) == (lb : Int)) = false := by rw [beq_eq_false_iff_ne]; omega
                  have hil : i < a.length := by have := unhide hla; omega
                  have hjl : j < b.length := by have := unhide hlb; omega
                  have hila : (i : Int) < la := by omega
                  have hjlb : (j : Int) < lb := by omega
                  obtain ⟨P1, hP1⟩ : ∃ x, (i + 1) * (lb + 1) = x := ⟨_, rfl⟩
                  have hRi1 : wr.cell? ⟨w.heap.size + 1, i + 1, none⟩ = some (.slice (some ⟨w.heap.size, P1, none⟩) (lb + 1) (lb + 1)) := by rw [hR.cell (by omega), hP1]
                  have hP1N : P1 + (lb + 1) ≤ N := by
                    have := Nat.mul_le_mul_right (lb + 1) (show i + 1 + 1 ≤ la + 1 by omega)
                    rw [unhide hN, Nat.succ_mul, hP1] at this
                    exact this
                  have hv1 : wr.cell? ⟨w.heap.size, P1 + (j + 1), none⟩ = some (.int .i16 (dd a b (i + 1) (j + 1))) := by rw [hG.cell (by omega), ← hP1, hf _ _ (by omega) (by omega) (.inl (by omega))]
                  have hv2 : wr.cell? ⟨w.heap.size, P1 + j, none⟩ = some (.int .i16 (dd a b (i + 1) j)) := by rw [hG.cell (by omega), ← hP1, hf _ _ (by omega) (by omega) (.inl (by omega))]
                  have hv3 : wr.cell? ⟨w.heap.size, P0 + (j + 1), none⟩ = some (.int .i16 (dd a b i (j + 1))) := by rw [hG.cell (by omega), ← hP0, hf _ _ (by omega) (by omega) (.inr ⟨rfl, by omega⟩)]
                  have hl1 : (j : Int) + 1 < (lb : Int) + 1 := by omega
                  have hl2 : (i : Int) + 1 < (la : Int) + 1 := by omega
                  have hia : i < (bs a).size := by omega
                  have hjb : j < (bs b).size := by omega
                  have d2 := dd_le a b (i + 1) j
                  have d3 := dd_le a b i (j + 1)
                  rw [unhide hla, unhide hlb] at d2 d3
                  have g1 : (i : Int) < (la : Int) + 1 := by omega
                  have g2 : (j : Int) < (lb : Int) + 1 := by omega
                  have g3 : IntKind.i64.wrap ((i : Int) + 1) = (i : Int) + 1 := IntWalk.i64_in _ (by omega)
                  have g4 : IntKind.i64.wrap ((j : Int) + 1) = (j : Int) + 1 := IntWalk.i64_in _ (by omega)
                  have g5 : ((i : Int) + 1).toNat = i + 1 := by omega
                  have g6 : ((j : Int) + 1).toNat = j + 1 := by omega
                  have g7 : (0 : Int) ≤ (i : Int) + 1 := by omega
                  have g8 : (0 : Int) ≤ (j : Int) + 1 := by omega
                  have HT := hide (fun n => hT.drewN n)
                  by_cases hab : a[i] = b[j]
                  · have hq : ((((bs a)[i]'hia).toNat : Int) == (((bs b)[j]'hjb).toNat : Int)) = true := by
                      rw [beq_iff_eq]; show ((a[i].toNat : Int) = (b[j].toNat : Int)); rw [hab]
                    have HD := hide (dd_same hil hjl hab)
                    replace hP0 := hide hP0
                    clear hi hj hR hG hf hbel hT hab hP1 hv2 hv3 hS d2 d3
                    go_wp2_with fail
                    go_quiet (fail)
                    go_wp2_with fail
                    have q1 : (wr.drewN nq).cell? ⟨w.heap.size + 1, i, none⟩ = _ := hRi
                    have q2 : (wr.drewN nq).cell? ⟨w.heap.size + 1, i + 1, none⟩ = _ := hRi1
                    have q3 : (wr.drewN nq).cell? ⟨w.heap.size, P1 + (j + 1), none⟩ = _ := hv1
                    have q4 : (wr.drewN nq).cell? ⟨w.heap.size, P0 + j, none⟩ = _ := hGc
                    have q5 : (wr.drewN nq).frozen? ⟨w.heap.size, P0 + j, none⟩ = false := hGf
                    have hT' := (unhide HT) nq
                    clear HT hRi hRi1 hv1 hGc hGf
                    generalize wr.drewN nq = wq at *
                    have hS := hide (fun n => TRel.set (unhide hP0) (show j ≤ lb by omega) hT' n)
                    rw [unhide HD] at hS
                    clear hT'
                    go_still_tail 15, (by kernel_rfl)
                    go_wp2_with fail
                    have e := (unhide hS) 0
                    rw [World.drewN_zero] at e
                    go_roundg j
                    case measure => omega
                    case rel => exact ⟨rfl, by omega, e.drew⟩
                  · have hq : ((((bs a)[i]'hia).toNat : Int) == (((bs b)[j]'hjb).toNat : Int)) = false := by
                      rw [beq_eq_false_iff_ne]; intro h; exact hab (UInt8.toNat_inj.mp (by have h' : ((a[i].toNat : Int) = (b[j].toNat : Int)) := h; omega))
                    have HD := hide (dd_other hil hjl hab)
                    replace hP0 := hide hP0
                    clear hi hj hR hG hf hbel hT hab hP1 hv1 hS
                    generalize dd a b (i + 1) j = x at *
                    generalize dd a b i (j + 1) = y at *
                    go_wp2_with fail
                    go_quiet (fail)
                    go_wp2_with fail
                    have q1 : (wr.drewN nq).cell? ⟨w.heap.size + 1, i, none⟩ = _ := hRi
                    have q2 : (wr.drewN nq).cell? ⟨w.heap.size + 1, i + 1, none⟩ = _ := hRi1
                    have q3 : (wr.drewN nq).cell? ⟨w.heap.size, P1 + j, none⟩ = _ := hv2
                    have q6 : (wr.drewN nq).cell? ⟨w.heap.size, P0 + (j + 1), none⟩ = _ := hv3
                    have q4 : (wr.drewN nq).cell? ⟨w.heap.size, P0 + j, none⟩ = _ := hGc
                    have q5 : (wr.drewN nq).frozen? ⟨w.heap.size, P0 + j, none⟩ = false := hGf
                    have hT' := (unhide HT) nq
                    clear HT hRi hRi1 hv2 hv3 hGc hGf
                    generalize wr.drewN nq = wq at *
                    have hS := hide (fun n => TRel.set (unhide hP0) (show j ≤ lb by omega) hT' n)
                    rw [unhide HD] at hS
                    clear hT'
                    go_still_tail 24, (by kernel_rfl)
                    go_wp2_with fail
                    all_goals
                      have e := (unhide hS) 0
                      rw [World.drewN_zero] at e
                      go_roundg j
                      case measure => omega
                      case rel =>
                        first
                          | (rw [show ((1 + min x y : Nat) : Int) = 1 + (x : Int) from by omega] at e; exact ⟨rfl, by omega, e.drew⟩)
                          | (rw [show ((1 + min x y : Nat) : Int) = 1 + (y : Int) from by omega] at e; exact ⟨rfl, by omega, e.drew⟩)
end Go.Proofs.Ytakkjehmekekbaa
