/- The walk of the statement WireBack: it returns true, at every number. Conditions: a list of at most 1048576 texts whose bytes are at most 11000000; what lies ahead and behind has at most 1048576 bytes each. -/
import Derived.Test.YtdhgobflbacgbaaBack
import Derived.Test.YtdhgobflbacgbaaLent
import Derived.Test.YtdhgobflbacgbaaGList
import Derived.Deep.RegionHeld3
import Derived.Deep.DeepCutAuto
import Derived.Deep.QuietTactic
import Derived.BigQuiet
import Derived.StillTailTactics
namespace Go.Proofs.Ytdhgobflbacgbaa
open Go.RowKit

theorem bel2 {w a b : World} (h : Below w.heap.size w a) (k : Below a.heap.size a b) : Below w.heap.size w b := h.trans (k.mono h.size)
theorem reads2 {w0 w : World} {n size : Nat} {A : Option Addr} {xs : List Value} (h : Reads w0 w0.heap.size size A n xs) (hb : Below w0.heap.size w0 w) : Reads w w.heap.size size A n xs := (h.below hb).more hb.size

theorem own_below {w w' : World} {base n : Nat} {e : TypeId} {size : Nat} {v : Value} {xs : List Value} (h : w.ownsRow base e size v n xs) (hb : Below w.heap.size w w') : w'.ownsRow base e size v n xs :=
  h.kept (only_of_below hb none) (by cases v.ownBlock <;> simp)
theorem own_capB {w : World} {base n c : Nat} {e : TypeId} {size : Nat} {A : Option Addr} {xs : List Value} (h : w.ownsRow base e size (.slice A n c) n xs) : n ≤ c := by
  obtain ⟨A', c', e, h1, _⟩ := own_form h
  injection e with _ _ e
  omega
/-- a slice of bytes of no elements, made new -/
theorem made0 (w : World) {B : Nat} (hB : B ≤ w.heap.size) : (w.alloc (.cells #[] 5)).ownsRow B 5 1 (.slice (some ⟨w.heap.size, 0, none⟩) 0 0) 0 [] := World.ownsRow_made w #[] 0 hB (Nat.zero_le _) rfl

set_option maxRecDepth 100000 in
set_option maxHeartbeats 2000000 in
theorem wireBack_walk (n : Int) (N : Nat) (Al : Option Addr) (L : List (List UInt8)) (nl cl : Nat) (A0 A1 : Option Addr) (a0 a1 : List UInt8) (n0 c0 n1 c1 : Nat) (w : World)
    (hN : N < 9223372036854775808) (hnN : (0 ≤ n ∧ n = N) ∨ (n < 0 ∧ -(n + 1) = N)) (hnl : L.length = nl) (hs : (W.list L).length ≤ 11000000) (hn6 : nl ≤ 1048576)
    (h0 : a0.length = n0) (h1 : a1.length = n1) (hn0 : n0 ≤ 1048576) (hn1 : n1 ≤ 1048576)
    (hrL : Reads w w.heap.size 1 Al nl (svs L)) (hr0 : Reads w w.heap.size 1 A0 n0 (bvs a0)) (hr1 : Reads w w.heap.size 1 A1 n1 (bvs a1)) :
    Calls Try.prog 10 #[.int .i64 n, .slice Al nl cl, .agg #[.slice A0 n0 c0, .slice A1 n1 c1]] w fun e w' => e = .returned (.bool true) ∧ Below w.heap.size w w' := by
  have hnum := hide (fun w0 => num_any N w0 hN)
  have htx := hide (fun w0 h0 => list_any Al L nl cl w0 hnl (by omega) (by omega) h0)
  have hBN := hide (W.back_num a0 a1 N L hN)
  have hBL := hide (fun h1 h2 => W.back_list a0 a1 N L h1 h2)
  have hm9 := W.num_len9 hN
  have hel := hide (fun s h => Nat.le_trans (W.text_le_list L s h) hs)
  generalize W.num N = LN at *
  generalize W.list L = LL at *
  generalize hLN : LN.length = m at *
  generalize hLL : LL.length = k at *
  replace hLN := hide hLN
  replace hLL := hide hLL
  replace hnl := hide hnl
  replace h0 := hide h0
  replace h1 := hide h1
  go_enter Try.func10, Try.ntmps10
  go_upto_if 22 with fail
  go_cut [0] (fun s wx => s = .int .i64 N ∧ wx = w.alloc (.cells #[.slice A0 n0 c0, .slice A1 n1 c1] 57))
  case first =>
    rcases hnN with ⟨hp, rfl⟩ | ⟨hp, he⟩
    · have hd : ¬ ((N : Int) < 0) := by omega
      go_wp2_with fail
      go_meet
      exact ⟨rfl, rfl⟩
    · go_wp2_with fail
      go_meet
      exact ⟨rfl, rfl⟩
  case rest =>
    obtain ⟨rfl, rfl⟩ := hcut
    clear hnN
    have hblk := hide (Blk.new w 57 #[.slice A0 n0 c0, .slice A1 n1 c1])
    go_upto_if 32 with (go_at_call 23; refine ((unhide hnum) _).mono ?_; rintro e w1 ⟨Aa, ca, rfl, hown, hbN⟩; have hma := own_capB hown)
    have hb1 : Below w.heap.size w w1 := ((Below.refl _ _).alloc (Nat.le_refl _) _).trans (hbN.mono (by simp))
    replace hblk := (unhide hblk).below hbN (by simp)
    have r0 : Reads w1 w1.heap.size 1 A0 n0 (bvs a0) := reads2 hr0 hb1
    have r1 : Reads w1 w1.heap.size 1 A1 n1 (bvs a1) := reads2 hr1 hb1
    have rL : Reads w1 w1.heap.size 1 Al nl (svs L) := reads2 hrL hb1
    have ra : Reads w1 w1.heap.size 1 Aa m (bvs LN) := Reads.of_own hown
    have g1 : w.heap.size < w1.heap.size := hblk.lt
    clear hown hr0 hr1 hrL hbN hnum
    replace hb1 := hide hb1
    generalize hge : w.heap.size = g at *
    replace hge := hide hge
    have cb : ∀ o, (w1.alloc o).cell? ⟨g, 0, none⟩ = some (.slice A0 n0 c0) := fun o => by rw [(hblk.alloc o).cell]; rfl
    replace hblk := hide hblk
    go_wp2_with (first
      | (at_builtin; refine wpList_appS rfl (.tmp 33) (.tmp 35) _ rfl et22 w1.heap.size _ 0 [] rfl (made0 w1 (Nat.le_refl _)) w1.heap.size A0 n0 c0 (bvs a0) rfl (r0.alloc (Nat.le_refl _) _) (bvs_one _) ?_ (by decide) ?_ ?_; omega; simp; intro A2 c2 w2 hown2 hgr2 hc2; have hb2 := gr_below ((Below.refl w1.heap.size w1).alloc (Nat.le_refl _) _) (Nat.le_refl _) (made0 w1 (Nat.le_refl _)) hgr2; simp only [Nat.zero_add, List.nil_append] at hown2 hgr2 hc2; clear hgr2)
      | (at_builtin; refine wpList_appS rfl (.tmp 36) (.tmp 37) _ rfl et22 w1.heap.size _ n0 (bvs a0) rfl hown2 w1.heap.size Aa m ca (bvs LN) rfl (ra.below hb2) (bvs_one _) ?_ (by decide) hb2.size ?_; omega; intro A3 c3 w3 hown3 hgr3 hc3; have hb3 := gr_below hb2 (Nat.le_refl _) hown2 hgr3; clear hgr3)
      | (go_at_call 32; refine ((unhide htx) _ (reads2 rL hb3)).mono ?_; rintro e w4 ⟨A4, c4, rfl, hown4, hb4⟩; have hown34 := own_below hown3 hb4; have hb14 := bel2 hb3 hb4)
      | (at_builtin; refine wpList_appS rfl (.tmp 38) (.tmp 40) _ rfl et22 w1.heap.size _ (n0 + m) (bvs a0 ++ bvs LN) rfl hown34 w4.heap.size A4 k c4 (bvs LL) rfl (Reads.of_own hown4) (bvs_one _) ?_ (by decide) hb14.size ?_; omega; intro A5 c5 w5 hown5 hgr5 hc5; have hb5 := gr_below hb14 (Nat.le_refl _) hown34 hgr5; clear hgr5))
    have hbg := hide ((unhide hb1).trans (hb5.mono (Nat.le_of_lt g1)))
    have hblk5 := (unhide hblk).below hb5 g1
    have r05 := hide (reads2 r0 hb5)
    have r15 := hide (reads2 r1 hb5)
    have rL5 := hide (reads2 rL hb5)
    have rb5 : Reads w5 w5.heap.size 1 A5 (n0 + m + k) (bvs (a0 ++ LN ++ LL)) := by
      have := Reads.of_own hown5
      rwa [← bvs_append, ← bvs_append] at this
    have g5 : g < w5.heap.size := hblk5.lt
    have hSS := hide (fun (w' : World) (hb : Below w5.heap.size w5 w') => (show Below w5.heap.size w5 w' ∧ w'.cell? ⟨g, 0, none⟩ = some (.slice A0 n0 c0) ∧ w'.cell? ⟨g, 1, none⟩ = some (.slice A1 n1 c1) from
      ⟨hb, by rw [(hblk5.below hb g5).cell]; rfl, by rw [(hblk5.below hb g5).cell]; rfl⟩))
    have cb0 := ((unhide hSS) w5 (Below.refl _ _)).2.1
    have cb1 := ((unhide hSS) w5 (Below.refl _ _)).2.2
    have hlb := hide (show (a0 ++ LN ++ LL).length = n0 + m + k by simp only [List.length_append, unhide h0, unhide hLN, unhide hLL])
    have hGN := hide (show gv (W.gnum (a0 ++ LN ++ LL ++ a1) (n0 : Int)) = .tuple #[.int .i64 N, .int .i64 ((n0 : Int) + m), .int .i64 0] by
      have := unhide hBN
      rw [unhide h0] at this
      rw [this]
      simp [gv])
    have hGL : Hid (L.length ≤ 131072 → (∀ s ∈ L, s.length ≤ 131072) → W.glist (a0 ++ LN ++ LL ++ a1) ((n0 : Int) + m) = (L, n0 + m + k, 0)) := hide (by
      have := unhide hBL
      rw [unhide h0] at this
      intro q1 q2
      rw [← this q1 q2]
      simp)
    generalize a0 ++ LN ++ LL = bb at *
    clear hb1 hb5 hblk hblk5 r0 r1 rL ra hown5 hown34 hown4 hown3 hown2 hb2 hb3 hb4 hb14 cb hc2 hc3 hBN hBL htx
    replace rb5 := hide rb5
    go_region_held3 (fun w' => Below w5.heap.size w5 w' ∧ w'.cell? ⟨g, 0, none⟩ = some (.slice A0 n0 c0) ∧ w'.cell? ⟨g, 1, none⟩ = some (.slice A1 n1 c1))
      ((refine (unhide hSS) _ ?_; first | exact (Below.refl _ _).drew | exact (Below.refl _ _).drew.alloc (Nat.le_refl _) _ | assumption))
      (first
        | (refine step_made (by rfl) (.tmp 43) (.tmp 44) _ (by rfl) et22 w5 _ (by rfl) (made0 w5.drew (Nat.le_refl _)) w5.heap.size A5 (n0 + m + k) c5 bb (by rfl) ((unhide rb5).below ((Below.refl _ _).drew.alloc (Nat.le_refl _) _)) (by omega) ((Below.refl _ _).drew.alloc (Nat.le_refl _) _) ?_; intro A6 c6 w6 hown6 hgr6 hb6 hc6; clear hgr6)
        | (refine step_more (by rfl) (.tmp 45) (.tmp 47) _ (by rfl) et22 w5 A6 (n0 + m + k) c6 bb (by rfl) hown6 w5.heap.size A1 n1 c1 a1 (by rfl) ((unhide r15).below hb6) (by omega) hb6 ?_; intro A7 c7 w7 hown7 hb7 hc7)
        | (go_at_call 19; refine (get_eq _ A7 (bb ++ a1) (n0 + m + k + n1) c7 n0 _ (by simp only [List.length_append, unhide hlb, unhide h1]) (by omega) (Reads.of_own hown7) (x := N) (y := (n0 : Int) + m) (z := 0) (unhide hGN)).mono ?_; rintro e w8 ⟨rfl, rfl⟩))
    obtain ⟨cb07, cb17⟩ := ((unhide hSS) w7 hb7).2
    clear hown6 hown7 hb6 hc6 hc7 cb0 cb1
    go_wp2_with fail
    clear cb07 cb17
    go_loopw [13, 14, 15, 16, 17] (fun i _ _ _ _ wr => ∃ t : Nat, i = .int .i64 t ∧ t ≤ nl ∧ Below w5.heap.size w5 wr ∧ ∀ (q : Nat) (h : q < L.length), q < t → L[q].length ≤ 131072) (fun i _ _ _ _ _ => nl - (intOf i).toNat)
    case atStart => exact ⟨0, rfl, Nat.zero_le _, hb7, fun q _ h => by omega⟩
    case round =>
      clear hb7
      obtain ⟨t, rfl, ht, hbr, hall⟩ := hrel
      replace hall := hide hall
      by_cases hlt : t < nl
      · have hkl : t < L.length := by have := unhide hnl; omega
        obtain ⟨ad, u, rfl, hbl, hu, hcell⟩ := (unhide rL5).at_ hlt
        obtain rfl : sv L[t] = u := by rw [svs_get hkl] at hu; injection hu
        unfold sv at hcell
        have hnext := hide (fun (h : L[t].length ≤ 131072) (q : Nat) (hq : q < L.length) (hqt : q < t + 1) => (show L[q].length ≤ 131072 from by
          by_cases e : q = t
          · subst e; exact h
          · exact (unhide hall) q hq (by omega)))
        have hz11 := (unhide hel) L[t] (List.getElem_mem hkl)
        generalize hsL : L[t] = sL at *
        replace hsL := hide hsL
        have hSS2 := hide (fun (w' : World) (hb : Below w5.heap.size w5 w') => (show Below w5.heap.size w5 w' ∧ w'.cell? ⟨g, 0, none⟩ = some (.slice A0 n0 c0) ∧ w'.cell? ⟨g, 1, none⟩ = some (.slice A1 n1 c1) ∧ w'.cell? (ad.add t) = some (.string (bs sL)) from
          ⟨hb, ((unhide hSS) w' hb).2.1, ((unhide hSS) w' hb).2.2, by rw [hb.cell (by rw [block_of_add]; exact hbl)]; exact hcell⟩))
        clear hcell hu
        have htx := hide (fun w0 => text_any (bs sL) w0 (by rw [bs_size]; omega))
        rw [bs_data] at htx
        have hlT := W.text_length sL
        have hy9 := W.num_len9 (n := sL.length) (by omega)
        have hT1 := hide (W.back_text a0 a1 sL)
        have hT2 := hide (fun h => W.back_long a0 a1 sL h (by omega))
        have hzs : (bs sL).size = sL.length := bs_size sL
        generalize W.text sL = T at *
        generalize hTq : T.length = q at *
        generalize sL.length = z at *
        generalize (W.num z).length = y at *
        have hq11 : q ≤ 11000009 := by omega
        replace hTq := hide hTq
        replace hlT := hide hlT
        replace hzs := hide hzs
        go_upto_region 13 with fail
        go_cut [14] (fun s wx => ∃ A c, s = .slice A (n0 + q + n1) c ∧ n0 + q + n1 ≤ c ∧ Below w5.heap.size w5 wx ∧ Reads wx wx.heap.size 1 A (n0 + q + n1) (bvs (a0 ++ T ++ a1)))
        case first =>
          go_region_held3 (fun w' => Below w5.heap.size w5 w' ∧ w'.cell? ⟨g, 0, none⟩ = some (.slice A0 n0 c0) ∧ w'.cell? ⟨g, 1, none⟩ = some (.slice A1 n1 c1) ∧ w'.cell? (ad.add t) = some (.string (bs sL)))
            ((refine (unhide hSS2) _ ?_; first | exact hbr.drew | exact hbr.drew.alloc hbr.size _ | exact hbc | exact hbc.alloc hbc.size _ | assumption))
            (first
              | (refine step_made (by rfl) (.tmp 79) (.tmp 81) _ (by rfl) et22 w5 _ (by rfl) (made0 wr.drew hbr.size) w5.heap.size A0 n0 c0 a0 (by rfl) ((unhide r05).below (hbr.drew.alloc hbr.size _)) (by omega) (hbr.drew.alloc hbr.size _) ?_; intro A6 c6 w6 hown6 hgr6 hbc hc6; clear hgr6)
              | (refine step_made (by rfl) (.tmp 79) (.tmp 81) _ (by rfl) et22 w5 _ (by rfl) hrow w5.heap.size A0 n0 c0 a0 (by rfl) ((unhide r05).below hbc) (by omega) hbc ?_; intro A6 c6 w6 hown6 hgr6 hbc hc6; have hT := hT.kept hgr6 (Or.inr (fun he => by have := (hT.lt _ he).1; simp at this)); clear hgr6)
              | (refine step_made (by rfl) (.tmp 79) (.tmp 81) _ (by rfl) et22 w5 _ (by rfl) (made0 _ hbc.size) w5.heap.size A0 n0 c0 a0 (by rfl) ((unhide r05).below (hbc.alloc hbc.size _)) (by omega) (hbc.alloc hbc.size _) ?_; intro A6 c6 w6 hown6 hgr6 hbc hc6; have hT := (hT.alloc _).kept hgr6 (Or.inr (fun he => Nat.lt_irrefl _ (hT.lt _ he).2)); clear hgr6)
              | (refine step_more (by rfl) (.tmp 82) (.tmp 87) _ (by rfl) et22 w5 A6 n0 c6 a0 (by rfl) hown6 _ A8 q c8 T (by rfl) (Reads.of_own hT) (by omega) hbc ?_; intro A9 c9 w9 hown9 hbc hc9)
              | (refine step_more (by rfl) (.tmp 88) (.tmp 90) _ (by rfl) et22 w5 A9 (n0 + q) c9 (a0 ++ T) (by rfl) hown9 w5.heap.size A1 n1 c1 a1 (by rfl) ((unhide r15).below hbc) (by omega) hbc ?_; intro A10 c10 w10 hown10 hbc hc10)
              | (go_at_call 28; refine ((unhide htx) wr.drew).mono ?_; rintro e w8 ⟨A8, c8, rfl, hT, hb8⟩; have hbc := bel2 hbr.drew hb8)
              | (go_at_call 28; refine ((unhide htx) (wr.drew.alloc (.cells #[] 5))).mono ?_; rintro e w8 ⟨A8, c8, rfl, hT, hb8⟩; have hbc := bel2 (hbr.drew.alloc hbr.size _) hb8; have hrow := own_below (made0 wr.drew hbr.size) hb8)
              | (go_at_call 28; refine ((unhide htx) _).mono ?_; rintro e w8 ⟨A8, c8, rfl, hT, hb8⟩; have hbc := bel2 hbc hb8; have hown6 := own_below hown6 hb8))
          all_goals go_wp2_with fail
          all_goals go_meet
          all_goals exact ⟨_, _, rfl, hc10, hbc, Reads.of_own hown10⟩
        case rest =>
          obtain ⟨A10, c10, rfl, hc10, hbc, r10⟩ := hcut
          have hl10 : (a0 ++ T ++ a1).length = n0 + q + n1 := by simp only [List.length_append, unhide h0, unhide h1, unhide hTq]
          have hgt := gtext_any wc.heap.size A10 (a0 ++ T ++ a1) c10 n0 wc (by omega) (by omega) (by rw [hl10]; exact r10)
          rw [hl10] at hgt
          obtain ⟨-, cw0, cw1, cwt⟩ := (unhide hSS2) wc hbc
          have hzs' := unhide hzs
          have hlt0 : (0 : Int) ≤ t := by omega
          have hlt1 : (t : Int) < nl := by omega
          clear hl10 r10 hbr htx
          replace hbc := hide hbc
          by_cases hz : 131072 < z
          · have e1 := (unhide hT2) hz
            rw [unhide h0] at e1
            rw [e1] at hgt
            replace hgt : Calls Try.prog 26 #[.slice A10 (n0 + q + n1) c10, .int .i64 n0] wc fun e w' => e = .returned (.tuple #[.string ⟨#[]⟩, .int .i64 0, .int .i64 3]) ∧ wc = w' := hgt
            replace hgt := hide hgt
            clear e1
            go_wp2_with (first
              | (go_at_call 26; refine (unhide hgt).mono ?_; rintro e w11 ⟨rfl, rfl⟩)
              | (go_at_call 22; refine (alive_any _).mono ?_; rintro e w12 ⟨rfl, hb12⟩))
            go_ret
            exact ⟨rfl, (unhide hge) ▸ (unhide hbg).trans ((bel2 (unhide hbc) hb12).mono (Nat.le_of_lt g5))⟩
          · have e1 := (unhide hT1) (by omega)
            rw [unhide h0] at e1
            rw [e1] at hgt
            replace hgt : Calls Try.prog 26 #[.slice A10 (n0 + q + n1) c10, .int .i64 n0] wc fun e w' => e = .returned (.tuple #[.string (bs sL), .int .i64 ((n0 : Int) + q), .int .i64 0]) ∧ wc = w' := hgt
            replace hgt := hide hgt
            clear e1
            go_wp2_with (first
              | (go_at_call 26; refine (unhide hgt).mono ?_; rintro e w11 ⟨rfl, rfl⟩))
            go_roundw
            case rel => exact ⟨t + 1, by go_num, by omega, unhide hbc, (unhide hnext) (by omega)⟩
            case measure => simp [intOf]; omega
      · have htn : t = nl := by omega
        have hall2 : ∀ s ∈ L, s.length ≤ 131072 := fun s hs => by
          obtain ⟨q, hq, rfl⟩ := List.getElem_of_mem hs
          exact (unhide hall) q hq (by have := unhide hnl; omega)
        by_cases h131 : 131072 < nl
        · clear hall2
          go_wp2_with (go_at_call 22; refine (alive_any _).mono ?_; rintro e w8 ⟨rfl, hb8⟩)
          go_ret
          exact ⟨rfl, (unhide hge) ▸ (unhide hbg).trans ((bel2 hbr hb8).mono (Nat.le_of_lt g5))⟩
        · have hgl := (unhide hGL) (by have := unhide hnl; omega) hall2
          have hLX := hide (fun (A : Option Addr) (c : Nat) (w0 : World) (hc : n0 + m + k + n1 ≤ c) (hr : Reads w0 w0.heap.size 1 A (n0 + m + k + n1) (bvs (bb ++ a1))) =>
            (show Calls Try.prog 30 #[.slice A (n0 + m + k + n1) c, .int .i64 ((n0 : Int) + m)] w0 fun e w' => ∃ A' c', e = .returned (.tuple #[.slice A' nl c', .int .i64 ((n0 + m + k : Nat) : Int), .int .i64 0]) ∧
                w'.ownsRow w0.heap.size 9 1 (.slice A' nl c') nl (svs L) ∧ Below w0.heap.size w0 w' from by
              have hlen : (bb ++ a1).length = n0 + m + k + n1 := by rw [List.length_append, unhide hlb, unhide h1]
              have h := glist_any A (bb ++ a1) c ((n0 : Int) + m) w0 (by omega) (by omega) (by rw [hlen]; exact hr)
              rw [hgl, hlen] at h
              unfold LPost at h
              simp only [unhide hnl] at h
              exact h))
          clear hgl hall2
          go_wp2_with fail
          go_region_held3 (fun w' => Below w5.heap.size w5 w' ∧ w'.cell? ⟨g, 0, none⟩ = some (.slice A0 n0 c0) ∧ w'.cell? ⟨g, 1, none⟩ = some (.slice A1 n1 c1))
            ((refine (unhide hSS) _ ?_; first | exact hbr.drew | exact hbr.drew.alloc hbr.size _ | assumption))
            (first
              | (refine step_made (by rfl) (.tmp 137) (.tmp 138) _ (by rfl) et22 w5 _ (by rfl) (made0 wr.drew hbr.size) w5.heap.size A5 (n0 + m + k) c5 bb (by rfl) ((unhide rb5).below (hbr.drew.alloc hbr.size _)) (by omega) (hbr.drew.alloc hbr.size _) ?_; intro A6 c6 w6 hown6 hgr6 hb6 hc6; clear hgr6)
              | (refine step_more (by rfl) (.tmp 139) (.tmp 141) _ (by rfl) et22 w5 A6 (n0 + m + k) c6 bb (by rfl) hown6 w5.heap.size A1 n1 c1 a1 (by rfl) ((unhide r15).below hb6) (by omega) hb6 ?_; intro A7 c7 w7 hown7 hb7 hc7)
              | (go_at_call 30; refine ((unhide hLX) A7 c7 _ hc7 (Reads.of_own hown7)).mono ?_; rintro e w8 ⟨A8, c8, rfl, hown8, hb8⟩; have hb78 := bel2 hb7 hb8))
          have r8 := hide (Reads.of_own hown8)
          clear hown8 hown7 hown6 hb6 hb7 hb8 hLX
          replace hb78 := hide hb78
          go_wp2_with (first
            | (go_at_call 34; refine (same_any _ _ A8 Al L nl c8 cl _ (unhide hnl) (by omega) (unhide r8) ((unhide rL5).below (unhide hb78))).mono ?_; rintro e w10 ⟨rfl, j, rfl⟩)
            | (go_at_call 22; refine (alive_any _).mono ?_; rintro e w12 ⟨rfl, hb12⟩))
          go_ret
          exact ⟨rfl, (unhide hge) ▸ (unhide hbg).trans ((bel2 (below_drewN (unhide hb78) j) hb12).mono (Nat.le_of_lt g5))⟩
end Go.Proofs.Ytdhgobflbacgbaa
