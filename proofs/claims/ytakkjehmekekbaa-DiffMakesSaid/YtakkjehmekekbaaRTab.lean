/- The document's Table: the least costs, at every two texts of at most 1000 bytes. -/
import Derived.Test.YtakkjehmekekbaaTab
namespace Go.Proofs.Ytakkjehmekekbaa
open Go.RowKit

theorem info3 : (Try.prog.info? 3).map (fun i => (i.zero, i.size, i.bytes)) = some (some (.int .i64 0), 1, 8) := by kernel_rfl
theorem info57 : (Try.prog.info? 57).map (fun i => (i.zero, i.size, i.bytes)) = some (some (.slice none 0 0), 1, 24) := by kernel_rfl
theorem row_fits8 {N : Nat} (h : N ≤ 1001) : 8 * N ≤ 281474976710656 ∧ N ≤ 9223372036854775807 := by omega

/-- the rows from m on stand, and are whole -/
structure TOut (w : World) (a b : List UInt8) (la lb m : Nat) (wr : World) : Prop where
  rows : ∃ f, wr.rowIs w.heap.size 57 (la + 1) f ∧ ∀ r, m ≤ r → r ≤ la → f r = .slice (some ⟨w.heap.size + 1 + (la - r), 0, none⟩) (lb + 1) (lb + 1)
  full : ∀ r, m ≤ r → r ≤ la → wr.rowIs (w.heap.size + 1 + (la - r)) 3 (lb + 1) (fun c => .int .i64 (dd a b r c))
  size : wr.heap.size = w.heap.size + 1 + (la + 1 - m)
  bel : Below w.heap.size w wr
/-- .. and row i from place j on -/
structure TIn (w : World) (a b : List UInt8) (la lb i j : Nat) (wr : World) : Prop where
  hi : i ≤ la
  rows : ∃ f, wr.rowIs w.heap.size 57 (la + 1) f ∧ ∀ r, i ≤ r → r ≤ la → f r = .slice (some ⟨w.heap.size + 1 + (la - r), 0, none⟩) (lb + 1) (lb + 1)
  full : ∀ r, i + 1 ≤ r → r ≤ la → wr.rowIs (w.heap.size + 1 + (la - r)) 3 (lb + 1) (fun c => .int .i64 (dd a b r c))
  row : ∃ f, wr.rowIs (w.heap.size + 1 + (la - i)) 3 (lb + 1) f ∧ ∀ c, j ≤ c → c ≤ lb → f c = .int .i64 (dd a b i c)
  size : wr.heap.size = w.heap.size + 1 + (la + 1 - i)
  bel : Below w.heap.size w wr

section
variable {w wr : World} {a b : List UInt8} {la lb i j : Nat}
theorem TIn.done (h : TIn w a b la lb i 0 wr) : TOut w a b la lb i wr := by
  refine ⟨h.rows, fun r h1 h2 => ?_, h.size, h.bel⟩
  rcases Nat.lt_or_ge i r with h3 | h3
  · exact h.full r h3 h2
  · obtain rfl : r = i := by omega
    obtain ⟨f, hf, hv⟩ := h.row
    exact hf.congr fun c hc => hv c (Nat.zero_le _) (by omega)
theorem TIn.drewN (h : TIn w a b la lb i j wr) (n : Nat) : TIn w a b la lb i j (wr.drewN n) := by
  obtain ⟨hi, ⟨f, hf, hv⟩, hfull, ⟨g, hg, hw⟩, hs, hb⟩ := h
  exact ⟨hi, ⟨f, rowIs_drewN hf n, hv⟩, fun r h1 h2 => rowIs_drewN (hfull r h1 h2) n, ⟨g, rowIs_drewN hg n, hw⟩, hs, below_drewN hb n⟩
theorem TIn.drew (h : TIn w a b la lb i j wr) : TIn w a b la lb i j wr.drew := by
  obtain ⟨hi, ⟨f, hf, hv⟩, hfull, ⟨g, hg, hw⟩, hs, hb⟩ := h
  exact ⟨hi, ⟨f, hf.drew, hv⟩, fun r h1 h2 => (hfull r h1 h2).drew, ⟨g, hg.drew, hw⟩, hs, hb.drew⟩
/-- a place of row i ahead of those that are known is written -/
theorem TIn.put (h : TIn w a b la lb i (j + 1) wr) (u : Value) : TIn w a b la lb i (j + 1) (wr.setCell ⟨w.heap.size + 1 + (la - i), j, none⟩ u) := by
  obtain ⟨hi, ⟨f, hf, hv⟩, hfull, ⟨g, hg, hw⟩, hs, hb⟩ := h
  refine ⟨hi, ⟨f, hf.setOther (by show w.heap.size ≠ w.heap.size + 1 + (la - i); omega) _, hv⟩, fun r h1 h2 => (hfull r h1 h2).setOther (by show w.heap.size + 1 + (la - r) ≠ w.heap.size + 1 + (la - i); omega) _, ⟨_, hg.set j _, fun c h1 h2 => ?_⟩, by simpa using hs, hb.setCell (p := ⟨w.heap.size + 1 + (la - i), j, none⟩) (by show w.heap.size ≤ w.heap.size + 1 + (la - i); omega) _⟩
  rw [if_neg (by omega)]
  exact hw c h1 h2
/-- .. with what stands there in the end -/
theorem TIn.set (h : TIn w a b la lb i (j + 1) wr) : TIn w a b la lb i j (wr.setCell ⟨w.heap.size + 1 + (la - i), j, none⟩ (.int .i64 (dd a b i j))) := by
  obtain ⟨hi, ⟨f, hf, hv⟩, hfull, ⟨g, hg, hw⟩, hs, hb⟩ := h
  refine ⟨hi, ⟨f, hf.setOther (by show w.heap.size ≠ w.heap.size + 1 + (la - i); omega) _, hv⟩, fun r h1 h2 => (hfull r h1 h2).setOther (by show w.heap.size + 1 + (la - r) ≠ w.heap.size + 1 + (la - i); omega) _, ⟨_, hg.set j _, fun c h1 h2 => ?_⟩, by simpa using hs, hb.setCell (p := ⟨w.heap.size + 1 + (la - i), j, none⟩) (by show w.heap.size ≤ w.heap.size + 1 + (la - i); omega) _⟩
  by_cases hc : c = j
  · subst hc; rw [if_pos rfl]
  · rw [if_neg hc]
    exact hw c (by omega) h2
/-- a new row is laid -/
theorem TOut.lay (h : TOut w a b la lb (i + 1) wr) (hi : i ≤ la) {o : Obj} (ho : o = .cells (madeCells #[.int .i64 0] (lb + 1)) 3) :
    TIn w a b la lb i (lb + 1) ((wr.alloc o).setCell ⟨w.heap.size, i, none⟩ (.slice (some ⟨wr.heap.size, 0, none⟩) (lb + 1) (lb + 1))) := by
  subst ho
  obtain ⟨⟨f, hf, hv⟩, hfull, hs, hb⟩ := h
  have hsz : wr.heap.size = w.heap.size + 1 + (la - i) := by omega
  have hn := World.rowIs_made wr (.int .i64 0) (lb + 1) 3
  rw [hsz] at hn
  refine ⟨hi, ⟨_, (hf.alloc _).set i _, fun r h1 h2 => ?_⟩, fun r h1 h2 => ((hfull r h1 h2).alloc _).setOther (by show w.heap.size + 1 + (la - r) ≠ w.heap.size; omega) _, ⟨_, hn.setOther (by show w.heap.size + 1 + (la - i) ≠ w.heap.size; omega) _, fun c h1 h2 => by omega⟩, by simp; omega, (hb.alloc hb.size _).setCell (p := ⟨w.heap.size, i, none⟩) (Nat.le_refl _) _⟩
  by_cases hr : r = i
  · subst hr; rw [if_pos rfl, hsz]
  · rw [if_neg hr]
    exact hv r (by omega) h2
/-- what is read there -/
theorem TIn.near (h : TIn w a b la lb i (j + 1) wr) (hj : j ≤ lb) : wr.cell? ⟨w.heap.size, i, none⟩ = some (.slice (some ⟨w.heap.size + 1 + (la - i), 0, none⟩) (lb + 1) (lb + 1)) ∧ (∃ u, wr.cell? ⟨w.heap.size + 1 + (la - i), j, none⟩ = some u) ∧ wr.frozen? ⟨w.heap.size + 1 + (la - i), j, none⟩ = false := by
  obtain ⟨hi, ⟨f, hf, hv⟩, hfull, ⟨g, hg, hw⟩, hs, hb⟩ := h
  exact ⟨by rw [hf.cell (by omega), hv i (Nat.le_refl _) hi], ⟨_, hg.cell (by omega)⟩, hg.frozen j⟩
theorem TIn.far (h : TIn w a b la lb i (j + 1) wr) (hi : i < la) (hj : j < lb) : wr.cell? ⟨w.heap.size, i + 1, none⟩ = some (.slice (some ⟨w.heap.size + 1 + (la - (i + 1)), 0, none⟩) (lb + 1) (lb + 1)) ∧
    wr.cell? ⟨w.heap.size + 1 + (la - (i + 1)), j, none⟩ = some (.int .i64 (dd a b (i + 1) j)) ∧ wr.cell? ⟨w.heap.size + 1 + (la - (i + 1)), j + 1, none⟩ = some (.int .i64 (dd a b (i + 1) (j + 1))) ∧ wr.cell? ⟨w.heap.size + 1 + (la - i), j + 1, none⟩ = some (.int .i64 (dd a b i (j + 1))) := by
  obtain ⟨_, ⟨f, hf, hv⟩, hfull, ⟨g, hg, hw⟩, hs, hb⟩ := h
  have hF := hfull (i + 1) (Nat.le_refl _) (by omega)
  exact ⟨by rw [hf.cell (by omega), hv (i + 1) (by omega) (by omega)], by rw [hF.cell (by omega)], by rw [hF.cell (by omega)], by rw [hg.cell (by omega), hw (j + 1) (Nat.le_refl _) (by omega)]⟩
end

set_option maxRecDepth 100000 in
set_option maxHeartbeats 4000000 in
theorem rtable_any (a b : List UInt8) (la lb : Nat) (w : World) (hla : a.length = la) (hlb : b.length = lb) (ha : la ≤ 1000) (hb : lb ≤ 1000) :
    Calls Try.prog 25 #[.string (bs a), .string (bs b)] w fun e w' => e = .returned (.slice (some ⟨w.heap.size, 0, none⟩) (la + 1) (la + 1)) ∧ TOut w a b la lb 0 w' := by
  have hsa : (bs a).size = la := by rw [bs_size, hla]
  have hsb : (bs b).size = lb := by rw [bs_size, hlb]
  have m54 := fun w0 => mk_row (P := Try.prog) 54 57 Try.underlying54 info57 rfl (la + 1) (row_fits' (by omega)).1 (row_fits' (by omega)).2 w0
  have m57 := fun w0 => mk_row (P := Try.prog) 57 3 Try.underlying57 info3 rfl (lb + 1) (row_fits8 (by omega)).1 (row_fits8 (by omega)).2 w0
  rw [show (((la + 1 : Nat)) : Int) = (la : Int) + 1 from by omega] at m54
  rw [show (((lb + 1 : Nat)) : Int) = (lb : Int) + 1 from by omega] at m57
  have hR0 := World.rowIs_made w (.slice none 0 0) (la + 1) 57
  have hT0 := hide (show TOut w a b la lb (la + 1) (w.alloc (.cells (madeCells #[.slice none 0 0] (la + 1)) 57)) from ⟨⟨_, hR0, fun r h1 h2 => by omega⟩, fun r h1 h2 => by omega, by simp, (Below.refl _ _).alloc (Nat.le_refl _) _⟩)
  replace hla := hide hla
  replace hlb := hide hlb
  clear hR0
  go_enter Try.func25, Try.ntmps25
  go_wp2_with fail
  clear m54
  go_loopg [6, 7] (la + 1) (fun m x _ wr => x = .int .i64 ((m : Int) - 1) ∧ m ≤ la + 1 ∧ TOut w a b la lb m wr)
  case atStart => exact ⟨by go_num, by omega, unhide hT0⟩
  case round =>
    clear hT0
    obtain ⟨rfl, hm, hT⟩ := hrel
    cases gk with
    | zero =>
      rw [show (((0 : Nat) : Int) - 1) = -1 from rfl]
      replace hT := hide hT
      go_wp2_with fail
      go_ret
      exact ⟨rfl, unhide hT⟩
    | succ i =>
      rw [show (((i + 1 : Nat) : Int) - 1) = (i : Int) from by omega]
      obtain ⟨f, hf, _⟩ := hT.rows
      have c0 : (wr.alloc (.cells (madeCells #[.int .i64 0] (lb + 1)) 3)).cell? ⟨w.heap.size, i, none⟩ = some (f i) := (hf.alloc _).cell (by omega)
      have f0 := (hf.alloc (.cells (madeCells #[.int .i64 0] (lb + 1)) 3)).frozen i
      have hI := hide (hT.lay (i := i) (by omega) rfl)
      have hil : (i : Int) < (la : Int) + 1 := by omega
      clear hT hf
      go_wp2_with fail
      clear c0 f0 hil m57
      go_loopg [7] (lb + 1) (fun m x wr => x = .int .i64 ((m : Int) - 1) ∧ m ≤ lb + 1 ∧ TIn w a b la lb i m wr)
      case atStart => exact ⟨by go_num, by omega, unhide hI⟩
      case round =>
        clear hI
        obtain ⟨rfl, hmj, hT⟩ := hrel
        cases gk with
        | zero =>
          rw [show (((0 : Nat) : Int) - 1) = -1 from rfl]
          replace hT := hide hT.done
          go_wp2_with fail
          go_roundg i
          case measure => omega
          case rel => exact ⟨by go_num, by omega, unhide hT⟩
        | succ j =>
          rw [show (((j + 1 : Nat) : Int) - 1) = (j : Int) from by omega]
          obtain ⟨n1, ⟨u, n2⟩, n3⟩ := hT.near (by omega)
          have g1 : (i : Int) < (la : Int) + 1 := by omega
          have g2 : (j : Int) < (lb : Int) + 1 := by omega
          by_cases hend : i = la ∨ j = lb
          · have hdv : ((dd a b i j : Nat) : Int) = (la : Int) - i + lb - j := by
              rcases hend with rfl | rfl
              · rw [dd_end (unhide hla), unhide hlb]; omega
              · rw [dd_right (unhide hlb), unhide hla]; omega
            have hS := hide hT.set
            rw [hdv] at hS
            clear hdv hT
            obtain ⟨Bi, hBi⟩ : ∃ x, w.heap.size + 1 + (la - i) = x := ⟨_, rfl⟩
            rw [hBi] at n1 n2 n3 hS
            by_cases hi : i = la
            · have e1 : ((i : Int) == (la : Int)) = true := by rw [beq_iff_eq]; omega
              clear hend hi hBi
              go_wp2_with fail
              go_roundg j
              case measure => omega
              case rel => exact ⟨rfl, by omega, unhide hS⟩
            · have hj : j = lb := by omega
              have e1 : ((i : Int) == (la : Int)) = false := by rw [beq_eq_false_iff_ne]; omega
              have e2 : ((j : Int) == (lb : Int)) = true := by rw [beq_iff_eq]; omega
              clear hend hi hj hBi
              go_wp2_with fail
              go_roundg j
              case measure => omega
              case rel => exact ⟨rfl, by omega, unhide hS⟩
          · have hila : i < la := by omega
            have hjlb : j < lb := by omega
            have e1 : ((i : Int) == (la : Int)) = false := by rw [beq_eq_false_iff_ne]; omega
            have e2 : ((j : Int) == (lb : Int)) = false := by rw [beq_eq_false_iff_ne]; omega
            have hil : i < a.length := by have := unhide hla; omega
            have hjl : j < b.length := by have := unhide hlb; omega
            have hl1 : (j : Int) + 1 < (lb : Int) + 1 := by omega
            have hl2 : (i : Int) + 1 < (la : Int) + 1 := by omega
            have hia : i < (bs a).size := by omega
            have hjb : j < (bs b).size := by omega
            obtain ⟨k1, k2, k3, k4⟩ := hT.far hila hjlb
            have d2 := dd_le a b (i + 1) j
            have d3 := dd_le a b i (j + 1)
            have d4 := dd_le a b (i + 1) (j + 1)
            rw [unhide hla, unhide hlb] at d2 d3 d4
            have g3 : IntKind.i64.wrap ((i : Int) + 1) = (i : Int) + 1 := IntWalk.i64_in _ (by omega)
            have g4 : IntKind.i64.wrap ((j : Int) + 1) = (j : Int) + 1 := IntWalk.i64_in _ (by omega)
            have g5 : ((i : Int) + 1).toNat = i + 1 := by omega
            have g6 : ((j : Int) + 1).toNat = j + 1 := by omega
            have g7 : (0 : Int) ≤ (i : Int) + 1 := by omega
            have g8 : (0 : Int) ≤ (j : Int) + 1 := by omega
            have hdo := fun h => dd_other hil hjl h
            have hds := fun h => dd_same hil hjl h
            have HT := hide hT
            clear hT hend
            obtain ⟨Bi, hBi⟩ : ∃ x, w.heap.size + 1 + (la - i) = x := ⟨_, rfl⟩
            obtain ⟨Bj, hBj⟩ : ∃ x, w.heap.size + 1 + (la - (i + 1)) = x := ⟨_, rfl⟩
            rw [hBi] at n1 n2 n3 k4
            rw [hBj] at k1 k2 k3
            replace hBi := hide hBi
            replace hBj := hide hBj
            replace hdo := hide hdo
            replace hds := hide hds
            go_wp2_with fail
            have x1 : IntKind.i64.wrap (1 + (dd a b (i + 1) j : Int)) = 1 + (dd a b (i + 1) j : Int) := IntWalk.i64_in _ (by omega)
            have x2 : IntKind.i64.wrap (1 + (dd a b i (j + 1) : Int)) = 1 + (dd a b i (j + 1) : Int) := IntWalk.i64_in _ (by omega)
            go_still_tail 24, (by kernel_rfl)
            go_wp2_with fail
            · have hS1 := hide fun n => ((unhide HT).put (.int .i64 (1 + (dd a b i (j + 1) : Int)))).drew.drewN n
              rw [unhide hBi] at hS1
              clear k1 k2 k3 k4 n1 n2 n3
              by_cases hab : a[i] = b[j]
              · have hq : ((((bs a)[i]'hia).toNat : Int) == (((bs b)[j]'hjb).toNat : Int)) = true := by
                  rw [beq_iff_eq]; show ((a[i].toNat : Int) = (b[j].toNat : Int)); rw [hab]
                have HD := hide (unhide hds hab)
                clear hab hdo hds x1 x2 h d2 d3
                go_quiet (fail)
                go_wp2_with fail
                have T2 := unhide hS1 nq
                clear hS1 HT
                generalize (wr.setCell ⟨Bi, j, none⟩ (.int .i64 (1 + (dd a b i (j + 1) : Int)))).drew.drewN nq = wq at *
                obtain ⟨n1, ⟨u, n2⟩, n3⟩ := T2.near (by omega)
                obtain ⟨k1, k2, k3, k4⟩ := T2.far hila hjlb
                have hS := hide T2.set
                rw [unhide HD] at hS
                rw [unhide hBi] at n1 n2 n3 k4 hS
                rw [unhide hBj] at k1 k2 k3
                clear T2 k2 k4 HD
                go_still_tail 15, (by kernel_rfl)
                go_wp2_with fail
                go_roundg j
                case measure => omega
                case rel => exact ⟨rfl, by omega, (unhide hS).drew⟩
              · have hq : ((((bs a)[i]'hia).toNat : Int) == (((bs b)[j]'hjb).toNat : Int)) = false := by
                  rw [beq_eq_false_iff_ne]; intro h; exact hab (UInt8.toNat_inj.mp (by have h' : ((a[i].toNat : Int) = (b[j].toNat : Int)) := h; omega))
                have hdv : ((dd a b i j : Nat) : Int) = (1 + (dd a b i (j + 1) : Int)) := by rw [unhide hdo hab]; omega
                have hS := (unhide HT).set
                rw [hdv, unhide hBi] at hS
                have hS2 := hide fun n => hS.drewN n
                clear hab hdo hds x1 x2 h d2 d3 hS hS1 HT hdv
                go_quiet (fail)
                go_wp2_with fail
                go_roundg j
                case measure => omega
                case rel => exact ⟨rfl, by omega, (unhide hS2) _⟩
            · have hS1 := hide fun n => ((unhide HT).put (.int .i64 (1 + (dd a b (i + 1) j : Int)))).drew.drewN n
              rw [unhide hBi] at hS1
              clear k1 k2 k3 k4 n1 n2 n3
              by_cases hab : a[i] = b[j]
              · have hq : ((((bs a)[i]'hia).toNat : Int) == (((bs b)[j]'hjb).toNat : Int)) = true := by
                  rw [beq_iff_eq]; show ((a[i].toNat : Int) = (b[j].toNat : Int)); rw [hab]
                have HD := hide (unhide hds hab)
                clear hab hdo hds x1 x2 h d2 d3
                go_quiet (fail)
                go_wp2_with fail
                have T2 := unhide hS1 nq
                clear hS1 HT
                generalize (wr.setCell ⟨Bi, j, none⟩ (.int .i64 (1 + (dd a b (i + 1) j : Int)))).drew.drewN nq = wq at *
                obtain ⟨n1, ⟨u, n2⟩, n3⟩ := T2.near (by omega)
                obtain ⟨k1, k2, k3, k4⟩ := T2.far hila hjlb
                have hS := hide T2.set
                rw [unhide HD] at hS
                rw [unhide hBi] at n1 n2 n3 k4 hS
                rw [unhide hBj] at k1 k2 k3
                clear T2 k2 k4 HD
                go_still_tail 15, (by kernel_rfl)
                go_wp2_with fail
                go_roundg j
                case measure => omega
                case rel => exact ⟨rfl, by omega, (unhide hS).drew⟩
              · have hq : ((((bs a)[i]'hia).toNat : Int) == (((bs b)[j]'hjb).toNat : Int)) = false := by
                  rw [beq_eq_false_iff_ne]; intro h; exact hab (UInt8.toNat_inj.mp (by have h' : ((a[i].toNat : Int) = (b[j].toNat : Int)) := h; omega))
                have hdv : ((dd a b i j : Nat) : Int) = (1 + (dd a b (i + 1) j : Int)) := by rw [unhide hdo hab]; omega
                have hS := (unhide HT).set
                rw [hdv, unhide hBi] at hS
                have hS2 := hide fun n => hS.drewN n
                clear hab hdo hds x1 x2 h d2 d3 hS hS1 HT hdv
                go_quiet (fail)
                go_wp2_with fail
                go_roundg j
                case measure => omega
                case rel => exact ⟨rfl, by omega, (unhide hS2) _⟩
end Go.Proofs.Ytakkjehmekekbaa
