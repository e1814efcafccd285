/- Reading back what was put, with anything ahead and behind: the plain law, and how an append of bytes onto a row of the call's own is a step of a drawn region. No conditions. -/
import Derived.Test.YtdhgobflbacgbaaTrip
import Derived.Test.YtdhgobflbacgbaaList
import Derived.Test.YtdhgobflbacgbaaRGList
namespace Go.Proofs.Ytdhgobflbacgbaa
open Go.RowKit

namespace W
theorem back_num (a0 a1 : List UInt8) (N : Nat) (L : List (List UInt8)) (hN : N < 9223372036854775808) : gnum (a0 ++ num N ++ list L ++ a1) (a0.length : Int) = (N, a0.length + (num N).length, 0) := by
  have h := gnum_num a0 (list L ++ a1) N hN
  simpa only [List.append_assoc] using h
theorem back_text (a0 a1 s : List UInt8) (hs : s.length ≤ 131072) : gtext (a0 ++ text s ++ a1) (a0.length : Int) = (s, a0.length + (text s).length, 0) := by
  have h := gtext_text a0 a1 s hs
  simpa only [List.append_assoc] using h
theorem back_long (a0 a1 s : List UInt8) (hs : 131072 < s.length) (h9 : s.length < 9223372036854775808) : gtext (a0 ++ text s ++ a1) (a0.length : Int) = ([], 0, 3) := by
  have h := gtext_long a0 a1 s hs h9
  simpa only [List.append_assoc] using h
theorem back_list (a0 a1 : List UInt8) (N : Nat) (L : List (List UInt8)) (hL : L.length ≤ 131072) (h : ∀ s ∈ L, s.length ≤ 131072) :
    glist (a0 ++ num N ++ list L ++ a1) ((a0.length + (num N).length : Nat) : Int) = (L, a0.length + (num N).length + (list L).length, 0) := by
  have h := glist_list (a0 ++ num N) a1 L hL h
  rw [List.length_append] at h
  rw [List.append_assoc (a0 ++ num N)]
  exact h
theorem text_le_texts (L : List (List UInt8)) : ∀ s ∈ L, s.length ≤ (texts L).length := by
  induction L with
  | nil => intro s h; cases h
  | cons x L ih =>
    intro s h
    simp only [texts, text, List.length_append]
    rcases List.mem_cons.1 h with rfl | h
    · omega
    · have := ih s h; omega
theorem text_le_list (L : List (List UInt8)) (s : List UInt8) (h : s ∈ L) : s.length ≤ (list L).length := by
  have := text_le_texts L s h
  simp only [list, List.length_append]; omega
theorem text_length (s : List UInt8) : (text s).length = (num s.length).length + s.length := by simp [text]
end W

/-- 'append(v, x...)' onto a row of the call's own, as a step of a region that draws -/
theorem step_appS {P : Program} {w : World} {ops : Array Oper} {o : Oper} {a : Act} {K : Act → World → Prop} {Q : Exit → Act → World → Prop} {E : Prop} (hgd : o.guard = none) (s x : Operand) (t : TypeId)
    (ho : o.op = .call { callee := .builtin .append, args := #[s, x], argTypes := #[t, t] })
    {e : TypeId} {z : Value} {bytes : Nat} (et : ET P t e z bytes) (base : Nat)
    (v : Value) (n : Nat) (xs : List Value) (hs : a.eval s = v) (hown : w.ownsRow base e 1 v n xs)
    (B : Nat) (A : Option Addr) (m c : Nat) (news : List Value) (hx : a.eval x = .slice A m c) (hr : Reads w B 1 A m news) (h1 : ∀ u ∈ news, u.oneCell' = true)
    (hbytes : (n + m) * bytes ≤ 140737488355328) (hb : 0 < bytes) (hbase : base ≤ w.heap.size)
    (h : ∀ A' c' w', w'.ownsRow base e 1 (.slice A' (n + m) c') (n + m) (xs ++ news) → Gr w w' v (.slice A' (n + m) c') → n + m ≤ c' → K (a.put o.dst (.slice A' (n + m) c')) w') :
    if Region.wanted o (yielded ops a.tmps) = true then Oper.wp P o a w K Q else E := by
  obtain ⟨i, hi, hz0, hz1, hz2⟩ := et.hi
  have h63 : n + m ≤ maxLen := by
    have : (n + m) * 1 ≤ (n + m) * bytes := Nat.mul_le_mul_left _ hb
    simp only [maxLen]; omega
  refine step_append_any w hgd s x t ho base e i z 1 bytes et.ht hi hz0 hz1 hz2 et.hz (by omega) v n xs hs hown B A m c news hx hr h1 h63 hbytes hbase fun v' w' h2 h3 h4 => ?_
  obtain ⟨A', c', rfl, hc, _⟩ := own_form h2
  exact h A' c' w' h2 (Gr.of_grown h3 h4) hc

/-- a row of the call's own, some words longer: nothing of before was touched, but for the row -/
theorem gr_below {B : Nat} {ws w w' : World} {e : TypeId} {size n : Nat} {v v' : Value} {xs : List Value} (hb : Below B ws w) (hB : B ≤ ws.heap.size) (hown : w.ownsRow B e size v n xs) (hgr : Gr w w' v v') : Below B ws w' :=
  hb.trans (hgr.below (Nat.le_trans hB hb.size) (fun k hk => (hown.lt k hk).1))

/-- 'append([]byte{}, x...)', as a step of a region that draws: ws is the world from which on all is ours -/
theorem step_made {P : Program} {w : World} {ops : Array Oper} {o : Oper} {a : Act} {K : Act → World → Prop} {Q : Exit → Act → World → Prop} {E : Prop} (hgd : o.guard = none) (s x : Operand) (t : TypeId)
    (ho : o.op = .call { callee := .builtin .append, args := #[s, x], argTypes := #[t, t] })
    (et : ET P t 5 (.int .u8 0) 1) (ws : World) (g : Nat) (hs : a.eval s = .slice (some ⟨g, 0, none⟩) 0 0) (hown : w.ownsRow ws.heap.size 5 1 (.slice (some ⟨g, 0, none⟩) 0 0) 0 [])
    (B : Nat) (A : Option Addr) (m c : Nat) (l : List UInt8) (hx : a.eval x = .slice A m c) (hr : Reads w B 1 A m (bvs l)) (hm : m ≤ 140737488355328) (hb : Below ws.heap.size ws w)
    (h : ∀ A' c' w', w'.ownsRow ws.heap.size 5 1 (.slice A' m c') m (bvs l) → w.grownBy w' (some g) → Below ws.heap.size ws w' → m ≤ c' → K (a.put o.dst (.slice A' m c')) w') :
    if Region.wanted o (yielded ops a.tmps) = true then Oper.wp P o a w K Q else E := by
  refine step_appS hgd s x t ho et ws.heap.size _ 0 [] hs hown B A m c (bvs l) hx hr (bvs_one _) (by omega) (by decide) hb.size fun A' c' w' h1 h2 h3 => ?_
  have hbw := gr_below hb (Nat.le_refl _) hown h2
  rw [Nat.zero_add] at h1 h2 h3 ⊢
  exact h A' c' w' h1 h2.g hbw h3

/-- 'append(v, x...)', v bytes that are ours, as a step of a region that draws -/
theorem step_more {P : Program} {w : World} {ops : Array Oper} {o : Oper} {a : Act} {K : Act → World → Prop} {Q : Exit → Act → World → Prop} {E : Prop} (hgd : o.guard = none) (s x : Operand) (t : TypeId)
    (ho : o.op = .call { callee := .builtin .append, args := #[s, x], argTypes := #[t, t] })
    (et : ET P t 5 (.int .u8 0) 1) (ws : World) (Av : Option Addr) (n cv : Nat) (lv : List UInt8) (hs : a.eval s = .slice Av n cv) (hown : w.ownsRow ws.heap.size 5 1 (.slice Av n cv) n (bvs lv))
    (B : Nat) (A : Option Addr) (m c : Nat) (l : List UInt8) (hx : a.eval x = .slice A m c) (hr : Reads w B 1 A m (bvs l)) (hm : n + m ≤ 140737488355328) (hb : Below ws.heap.size ws w)
    (h : ∀ A' c' w', w'.ownsRow ws.heap.size 5 1 (.slice A' (n + m) c') (n + m) (bvs (lv ++ l)) → Below ws.heap.size ws w' → n + m ≤ c' → K (a.put o.dst (.slice A' (n + m) c')) w') :
    if Region.wanted o (yielded ops a.tmps) = true then Oper.wp P o a w K Q else E := by
  refine step_appS hgd s x t ho et ws.heap.size _ n (bvs lv) hs hown B A m c (bvs l) hx hr (bvs_one _) (by omega) (by decide) hb.size fun A' c' w' h1 h2 h3 => ?_
  have hbw := gr_below hb (Nat.le_refl _) hown h2
  rw [← bvs_append] at h1
  exact h A' c' w' h1 hbw h3

/-- what a call made stays what it is while a row of ours, of another block, grows -/
theorem reads_apart {w w' : World} {B n : Nat} {A : Option Addr} {xs : List Value} {row : Option Nat} (h : Reads w B 1 A n xs) (hB : B ≤ w.heap.size) (hg : w.grownBy w' row) (hne : ∀ ad, A = some ad → row ≠ some ad.block) : Reads w' B 1 A n xs :=
  ⟨h.1, fun hn => by
    obtain ⟨ad, e, hb, hc⟩ := h.2 hn
    exact ⟨ad, e, hb, fun j u hu => (World.cell?_of_block (hg.block _ (by rw [block_of_add]; omega) (by rw [block_of_add]; exact fun h' => hne ad e h'.symm))).trans (hc j u hu)⟩⟩
end Go.Proofs.Ytdhgobflbacgbaa
