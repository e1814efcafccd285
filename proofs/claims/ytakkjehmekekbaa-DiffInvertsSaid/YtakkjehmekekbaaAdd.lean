/- diff.Make's closure add: one byte more of a kind. -/
import Derived.Test.YtakkjehmekekbaaTab
import Derived.Test.YtakkjehmekekbaaCost
import Derived.Deep.DeepCutAuto
namespace Go.Proofs.Ytakkjehmekekbaa
open Go.RowKit

theorem info32 : (Try.prog.info? 32).map (fun i => (i.zero, i.size, i.bytes)) = some (some (.agg #[.int .i64 0, .int .i64 0, .string ⟨#[]⟩]), 3, 32) := by kernel_rfl

theorem more_new {l : List D.Ed} {k : Int} {s : List UInt8} (h : ∀ e, l.getLast? = some e → e.kind ≠ k) : D.more l k s = l ++ [⟨k, if k = 3 then 0 else 1, if k = 3 then s else []⟩] := by
  induction l with
  | nil => rfl
  | cons e l ih =>
    cases l with
    | nil => rw [D.more, if_neg (h e rfl)]; rfl
    | cons e' l => rw [D.more, ih (by simpa using h)]; rfl
theorem more_last (init : List D.Ed) (e : D.Ed) {k : Int} {s : List UInt8} (h : e.kind = k) : D.more (init ++ [e]) k s = init ++ [⟨k, if k = 3 then e.n else e.n + 1, if k = 3 then e.text ++ s else e.text⟩] := by
  induction init with
  | nil => simp [D.more, h]
  | cons x init ih =>
    cases init with
    | nil => simp [D.more, h]
    | cons y init => simp only [List.cons_append] at ih ⊢; rw [D.more, ih]

/-- no edit is great -/
def Small (M : Nat) (l : List D.Ed) : Prop := l.length ≤ M ∧ ∀ e ∈ l, 0 ≤ e.n ∧ e.n ≤ M ∧ e.text.length ≤ M
theorem Small.more {M : Nat} {l : List D.Ed} (h : Small M l) (k : Int) {s : List UInt8} (hs : s.length ≤ 1) : Small (M + 1) (D.more l k s) := by
  obtain ⟨h1, h2⟩ := h
  rcases List.eq_nil_or_concat l with rfl | ⟨init, e, rfl⟩
  · refine ⟨by simp [D.more], fun x hx => ?_⟩
    simp only [D.more, List.mem_singleton] at hx
    subst hx
    simp only
    split <;> simp <;> omega
  · rw [List.concat_eq_append] at *
    have he := h2 e (by simp)
    by_cases hk : e.kind = k
    · rw [more_last init e hk]
      refine ⟨by simp at h1 ⊢; omega, fun x hx => ?_⟩
      rcases List.mem_append.1 hx with hx | hx
      · have := h2 x (by simp [hx]); omega
      · simp only [List.mem_singleton] at hx
        subst hx
        simp only
        split <;> simp <;> omega
    · rw [more_new (by intro x hx; simp at hx; subst hx; exact hk)]
      refine ⟨by simp at h1 ⊢; omega, fun x hx => ?_⟩
      rcases List.mem_append.1 hx with hx | hx
      · have := h2 x hx; omega
      · simp only [List.mem_singleton] at hx
        subst hx
        simp only
        split <;> simp <;> omega

/-- where the call stands: its variable, its row of edits, what was there, and what it keeps -/
structure Lv (w0 ws : World) (kept : Nat → Prop) (w : World) (gl : Nat) (v : Value) (l : List D.Ed) : Prop where
  blk : Blk w gl 22 #[v]
  own : w.ownsRow w0.heap.size 32 3 v l.length (ecs l)
  ne : v.ownBlock ≠ some gl
  bel : Below w0.heap.size w0 w
  ge : w0.heap.size ≤ gl
  kp : ∀ k, kept k → k < w.heap.size ∧ k ≠ gl ∧ v.ownBlock ≠ some k ∧ w.heap[k]? = ws.heap[k]?

theorem only_set {w : World} (g i : Nat) (u : Value) : w.grownBy (w.setCell ⟨g, i, none⟩ u) (some g) := only_setCell (World.grownBy.refl w _) (.inl rfl) u
theorem blk_set_other {w : World} {g k : Nat} (u : Value) (i : Nat) (h : k ≠ g) : (w.setCell ⟨g, i, none⟩ u).heap[k]? = w.heap[k]? := Below.heap_setCell w ⟨g, i, none⟩ u k h
/-- a cell of an own row is written -/
theorem own_set {w : World} {base n size g : Nat} {e : TypeId} {v : Value} {xs : List Value} (h : w.ownsRow base e size v n xs) (hg : v.ownBlock = some g) (i : Nat) (u : Value) : (w.setCell ⟨g, i, none⟩ u).ownsRow base e size v n (xs.set i u) := by
  rcases h.2 with ⟨rfl, _⟩ | ⟨g', cap, cur, rfl, hb, hh, hn, hc, hs, hx⟩
  · simp [Value.ownBlock] at hg
  · obtain rfl : g' = g := by simpa [Value.ownBlock] using hg
    refine ⟨by rw [List.length_set]; exact h.1, .inr ⟨g', cap, cur.setIfInBounds i u, rfl, hb, ?_, hn, hc, by simpa using hs, ?_⟩⟩
    · simp [World.setCell, Array.getElem?_modify, hh]
    · rw [← hx]; simp [List.take_set]

section
variable {w0 ws w w' : World} {kept : Nat → Prop} {gl : Nat} {v : Value} {l : List D.Ed}
theorem Lv.size (h : Lv w0 ws kept w gl v l) : w0.heap.size ≤ w.heap.size := h.bel.size
theorem Lv.c0 (h : Lv w0 ws kept w gl v l) : w.cell? ⟨gl, 0, none⟩ = some v := h.blk.cell 0
theorem Lv.f0 (h : Lv w0 ws kept w gl v l) : w.frozen? ⟨gl, 0, none⟩ = false := h.blk.frozen 0
theorem Lv.below (h : Lv w0 ws kept w gl v l) (hb : Below w.heap.size w w') : Lv w0 ws kept w' gl v l :=
  ⟨h.blk.below hb h.blk.lt, h.own.kept (only_of_below hb none) (by cases hv : v.ownBlock <;> simp), h.ne, h.bel.trans (hb.mono h.bel.size), h.ge,
    fun k hk => by
      obtain ⟨a, b, c, d⟩ := h.kp k hk
      exact ⟨Nat.lt_of_lt_of_le a hb.size, b, c, (hb.block k a).trans d⟩⟩
theorem Lv.drewN (h : Lv w0 ws kept w gl v l) (k : Nat) : Lv w0 ws kept (w.drewN k) gl v l := h.below (below_drewN (Below.refl _ _) k)
theorem Lv.drew (h : Lv w0 ws kept w gl v l) : Lv w0 ws kept w.drew gl v l := h.below (Below.refl _ _).drew
theorem Lv.alloc (h : Lv w0 ws kept w gl v l) (o : Obj) : Lv w0 ws kept (w.alloc o) gl v l := h.below ((Below.refl _ _).alloc (Nat.le_refl _) o)
/-- an edit put behind -/
theorem Lv.app (h : Lv w0 ws kept w gl v l) {v' : Value} {x : D.Ed} (hown : w'.ownsRow w0.heap.size 32 3 v' (l.length + 1) (ecs l ++ ec x)) (hg : Gr w w' v v') :
    Lv w0 ws kept (w'.setCell ⟨gl, 0, none⟩ v') gl v' (l ++ [x]) := by
  have hgb : some gl ≠ v.ownBlock := fun he => h.ne he.symm
  have hno : v'.ownBlock ≠ some gl := by
    rcases hg.at_ with he | ⟨k, he, hk⟩
    · rw [he]; exact h.ne
    · rw [he]; intro hx; injection hx with hx; have := h.blk.lt; omega
  have hbel : Below w0.heap.size w0 w' := h.bel.trans (hg.below h.bel.size (fun k hk => (h.own.lt k hk).1))
  refine ⟨?_, ?_, hno, hbel.setCell (p := ⟨gl, 0, none⟩) h.ge _, h.ge, ?_⟩
  · have := (h.blk.grown hg.g hgb).set_ 0 v'
    simpa using this
  · refine World.ownsRow.kept ?_ (only_set gl 0 v') (.inr hno)
    rw [List.length_append, ecs_append]
    simpa [ecs] using hown
  · intro k hk
    obtain ⟨a, b, c, d⟩ := h.kp k hk
    refine ⟨?_, b, ?_, ?_⟩
    · have := hg.g.size; simp [World.setCell]; omega
    · rcases hg.at_ with he | ⟨j, he, hj⟩
      · rw [he]; exact c
      · rw [he]; intro hx; injection hx with hx; omega
    · rw [blk_set_other _ _ b, hg.g.block k a (fun he => c he.symm), d]
end
section
variable {w0 ws w w' : World} {kept : Nat → Prop} {gl g n c : Nat} {init : List D.Ed} {e : D.Ed}
theorem ecs_set1 (init : List D.Ed) (e : D.Ed) (m : Int) : (ecs (init ++ [e])).set (init.length * 3 + 1) (.int .i64 m) = ecs (init ++ [⟨e.kind, m, e.text⟩]) := by
  have hl : init.length * 3 = (ecs init).length := (ecs_length init).symm
  rw [ecs_append, ecs_append, hl, List.set_append_right _ _ (by omega), show (ecs init).length + 1 - (ecs init).length = 1 by omega]
  rfl
theorem ecs_set2 (init : List D.Ed) (e : D.Ed) (t : List UInt8) : (ecs (init ++ [e])).set (init.length * 3 + 2) (.string (bs t)) = ecs (init ++ [⟨e.kind, e.n, t⟩]) := by
  have hl : init.length * 3 = (ecs init).length := (ecs_length init).symm
  rw [ecs_append, ecs_append, hl, List.set_append_right _ _ (by omega), show (ecs init).length + 2 - (ecs init).length = 2 by omega]
  rfl
/-- a cell of the row is written -/
theorem Lv.put (h : Lv w0 ws kept w gl (.slice (some ⟨g, 0, none⟩) n c) (init ++ [e])) (i : Nat) (u : Value) (e' : D.Ed) (hu : (ecs (init ++ [e])).set i u = ecs (init ++ [e'])) :
    Lv w0 ws kept (w.setCell ⟨g, i, none⟩ u) gl (.slice (some ⟨g, 0, none⟩) n c) (init ++ [e']) := by
  have hgl : g ≠ gl := fun he => h.ne (by rw [he]; rfl)
  have hlt := h.own.lt g rfl
  refine ⟨h.blk.far (p := ⟨g, i, none⟩) (by exact fun he => hgl he.symm) u, ?_, h.ne, h.bel.setCell (p := ⟨g, i, none⟩) hlt.1 _, h.ge, ?_⟩
  · have := own_set h.own (g := g) rfl i u
    rw [hu] at this
    simpa using this
  · intro k hk
    obtain ⟨a, b, c, d⟩ := h.kp k hk
    refine ⟨by simpa [World.setCell] using a, b, c, ?_⟩
    rw [blk_set_other _ _ (fun he => c (by rw [he]; rfl)), d]
/-- the cells of the last edit -/
theorem Lv.last (h : Lv w0 ws kept w gl (.slice (some ⟨g, 0, none⟩) n c) (init ++ [e])) :
    w.cell? ⟨g, init.length * 3, none⟩ = some (.int .i64 e.kind) ∧ w.cell? ⟨g, init.length * 3 + 1, none⟩ = some (.int .i64 e.n) ∧ w.cell? ⟨g, init.length * 3 + 2, none⟩ = some (.string (bs e.text)) ∧
      (∀ i, w.frozen? ⟨g, i, none⟩ = false) := by
  have hg := ecs_get (init ++ [e]) init.length (by simp)
  simp only [List.getElem_append_right (Nat.le_refl _), Nat.sub_self, List.getElem_singleton] at hg
  have hc := h.own.cells (g := g) rfl
  have ha : ∀ j, (⟨g, 0, none⟩ : Addr).add j = ⟨g, j, none⟩ := fun j => by unfold Addr.add; split <;> simp_all
  refine ⟨by rw [← ha]; exact hc _ _ hg.1, by rw [← ha]; exact hc _ _ hg.2.1, by rw [← ha]; exact hc _ _ hg.2.2, fun i => ?_⟩
  rcases h.own.2 with ⟨hv, _⟩ | ⟨g', cap, cur, hv, _, hh, _⟩
  · cases hv
  · injection hv with h1
    injection h1 with h1
    injection h1 with h1
    subst h1
    simp [World.frozen?, hh]
end

theorem reads_new3 (w : World) (x : D.Ed) : Reads (w.alloc (.cells #[.int .i64 x.kind, .int .i64 x.n, .string (bs x.text)] 32)) (w.heap.size + 1) 3 (some ⟨w.heap.size, 0, none⟩) 1 (ec x) := by
  refine ⟨rfl, fun _ => ⟨_, rfl, by simp, fun j u hu => ?_⟩⟩
  rw [show (⟨w.heap.size, 0, none⟩ : Addr).add j = ⟨w.heap.size, j, none⟩ from by unfold Addr.add; split <;> simp_all]
  rw [(Blk.new w 32 _).cell j]
  simpa [ec] using hu
theorem ec_one (x : D.Ed) : ∀ u ∈ ec x, u.oneCell' = true := by intro u hu; simp only [ec, List.mem_cons, List.not_mem_nil, or_false] at hu; rcases hu with rfl | rfl | rfl <;> rfl

theorem str_add (w : World) (a b : List UInt8) (h : a.length + b.length ≤ 9223372036854775807) : (Op.stringOp .add (bs a) (bs b)).run Try.prog w = .ok (.string (bs (a ++ b))) w := by
  rw [run_string_add_sum w _ _ (by rw [bs_size, bs_size]; exact h), bs_append]
/-- what add leaves -/
def AddRes (w0 ws : World) (kept : Nat → Prop) (gl : Nat) (l : List D.Ed) (e : Ending) (w' : World) : Prop :=
  e = .returned (.tuple #[]) ∧ ∃ v', Lv w0 ws kept w' gl v' l

set_option maxRecDepth 100000 in
set_option maxHeartbeats 2000000 in
theorem add_last3 {w0 ws w : World} {kept : Nat → Prop} {gl M : Nat} {v : Value} {init : List D.Ed} {e : D.Ed} (s : List UInt8) (hs : s.length ≤ 1) (hM : M ≤ 4000) (_hn0 : 0 ≤ e.n) (_hn1 : e.n ≤ M) (hte : e.text.length ≤ M) (hin : init.length ≤ M) (hk : e.kind = 3) (h : Lv w0 ws kept w gl v (init ++ [e])) :
    Calls Try.prog 24 #[.int .i64 3, .string (bs s), .pointer (some ⟨gl, 0, none⟩)] w fun r w' => AddRes w0 ws kept gl (init ++ [⟨3, e.n, e.text ++ s⟩]) r w' := by
  obtain ⟨g, c, hv, _, _⟩ := h.own.form (by simp)
  have hlen : (init ++ [e]).length = init.length + 1 := by simp
  rw [hlen] at hv
  subst hv
  obtain ⟨d0, d1, d2, df⟩ := h.last
  have c0 := h.c0
  rw [hk] at d0
  have df1 := df (init.length * 3 + 1)
  have df2 := df (init.length * 3 + 2)
  have hadd := fun w0 => str_add w0 e.text s (by omega)
  have HR := hide (h.put (init.length * 3 + 2) (.string (bs (e.text ++ s))) ⟨e.kind, e.n, e.text ++ s⟩ (ecs_set2 init e (e.text ++ s)))
  rw [hk] at HR
  have hi1 : ((init.length : Int) + 1 - 1) = (init.length : Int) := by omega
  clear df h hlen hk
  generalize init.length = n at *
  go_enter Try.func24, Try.ntmps24
  go_wp2_with fail
  go_end0
  exact ⟨rfl, _, unhide HR⟩

set_option maxRecDepth 100000 in
set_option maxHeartbeats 2000000 in
theorem add_last {w0 ws w : World} {kept : Nat → Prop} {gl M : Nat} {v : Value} {init : List D.Ed} {e : D.Ed} (k : Int) (hk3 : k ≠ 3) (s : List UInt8) (_hs : s.length ≤ 1) (hM : M ≤ 4000) (hn0 : 0 ≤ e.n) (hn1 : e.n ≤ M) (_hte : e.text.length ≤ M) (hin : init.length ≤ M) (hk : e.kind = k) (h : Lv w0 ws kept w gl v (init ++ [e])) :
    Calls Try.prog 24 #[.int .i64 k, .string (bs s), .pointer (some ⟨gl, 0, none⟩)] w fun r w' => AddRes w0 ws kept gl (init ++ [⟨k, e.n + 1, e.text⟩]) r w' := by
  obtain ⟨g, c, hv, _, _⟩ := h.own.form (by simp)
  have hlen : (init ++ [e]).length = init.length + 1 := by simp
  rw [hlen] at hv
  subst hv
  obtain ⟨d0, d1, d2, df⟩ := h.last
  have c0 := h.c0
  rw [hk] at d0
  have df1 := df (init.length * 3 + 1)
  have df2 := df (init.length * 3 + 2)
  have hk3' : (k == 3) = false := beq_eq_false_iff_ne.2 hk3
  have HR := hide (h.put (init.length * 3 + 1) (.int .i64 (e.n + 1)) ⟨e.kind, e.n + 1, e.text⟩ (ecs_set1 init e (e.n + 1)))
  rw [hk] at HR
  have hi1 : ((init.length : Int) + 1 - 1) = (init.length : Int) := by omega
  clear df h hlen hk hk3
  generalize init.length = n at *
  go_enter Try.func24, Try.ntmps24
  go_wp2_with fail
  go_end0
  exact ⟨rfl, _, unhide HR⟩

set_option maxRecDepth 100000 in
set_option maxHeartbeats 2000000 in
theorem add_new03 {w0 ws w : World} {kept : Nat → Prop} {gl _M : Nat} {v : Value} (s : List UInt8) (hs : s.length ≤ 1) (h : Lv w0 ws kept w gl v []) :
    Calls Try.prog 24 #[.int .i64 3, .string (bs s), .pointer (some ⟨gl, 0, none⟩)] w fun r w' => AddRes w0 ws kept gl ([] ++ [⟨3, 0, s⟩]) r w' := by
  obtain ⟨i0, hi0, hz0, hz1, hz2⟩ := info_parts info32
  obtain ⟨A, c, rfl, _, _⟩ := own_form h.own
  have c0 := h.c0
  simp only [List.length_nil] at c0
  have hl0 : ([] : List D.Ed).length = 0 := rfl
  have hA := hide (h.alloc (.cells #[.int .i64 3, .int .i64 0, .string ⟨#[]⟩] 32))
  have HR := hide (show Reads (w.alloc (.cells #[.int .i64 3, .int .i64 0, .string ⟨#[]⟩] 32)) (w.heap.size + 1) 3 (some ⟨w.heap.size, 0, none⟩) 1 (ec ⟨3, 0, []⟩) from reads_new3 w ⟨3, 0, []⟩)
  have hfin : ∀ (v4 : Value) (w4 : World), w4.ownsRow w0.heap.size 32 3 v4 (0 + 1) (ecs [] ++ ec ⟨3, 0, []⟩) → (w.alloc (.cells #[.int .i64 3, .int .i64 0, .string ⟨#[]⟩] 32)).grownBy w4 ((.slice A 0 c) : Value).ownBlock → (v4.ownBlock = ((.slice A 0 c) : Value).ownBlock ∨ v4.ownBlock = some (w.alloc (.cells #[.int .i64 3, .int .i64 0, .string ⟨#[]⟩] 32)).heap.size) →
      ∃ g4 c4, v4 = .slice (some ⟨g4, 0, none⟩) (0 + 1) c4 ∧ g4 ≠ gl ∧ w4.cell? ⟨gl, 0, none⟩ = some (.slice A 0 c) ∧ w4.frozen? ⟨gl, 0, none⟩ = false ∧ w4.cell? ⟨g4, 0 * 3 + 1, none⟩ = some (.int .i64 0) ∧ w4.cell? ⟨g4, 0 * 3 + 2, none⟩ = some (.string ⟨#[]⟩) ∧ (∀ i, w4.frozen? ⟨g4, i, none⟩ = false) ∧
        (∀ e', (ecs ([] ++ [⟨3, 0, []⟩])).set (0 * 3 + 2) e' = ecs ([] ++ [⟨3, 0, s⟩]) → Lv w0 ws kept ((w4.setCell ⟨gl, 0, none⟩ v4).setCell ⟨g4, 0 * 3 + 2, none⟩ e') gl v4 ([] ++ [⟨3, 0, s⟩])) := by
    intro v4 w4 hown4 hg4 hat4
    have hgr := Gr.of_grown hg4 hat4
    have hx := (unhide hA).app (x := ⟨3, 0, []⟩) (by simpa using hown4) hgr
    obtain ⟨g4, c4, rfl, _, _⟩ := hown4.form (by omega)
    have hne : g4 ≠ gl := fun he => hx.ne (by rw [he]; rfl)
    have hb := (unhide hA).blk.grown hg4 (fun he => (unhide hA).ne he.symm)
    obtain ⟨_, e1, e2, e3⟩ := hx.last
    have hne2 : gl ≠ g4 := fun he => hne he.symm
    rw [World.cell?_setCell_other _ _ _ _ (by simp)] at e1 e2
    refine ⟨g4, c4, rfl, hne, hb.cell 0, hb.frozen 0, by exact e1, by exact e2, fun i => by have := e3 i; simpa using this, fun e' he => ?_⟩
    exact hx.put _ e' _ he
  have hset : (ecs ([] ++ [⟨3, 0, []⟩])).set (0 * 3 + 2) (.string (bs s)) = ecs ([] ++ [⟨3, 0, s⟩]) := by
    have := ecs_set2 [] ⟨3, 0, []⟩ s
    exact this
  have hown := hide (show (w.alloc (.cells #[.int .i64 3, .int .i64 0, .string ⟨#[]⟩] 32)).ownsRow w0.heap.size 32 3 (.slice A 0 c) 0 (ecs []) by have := (unhide hA).own; exact this)
  have hsz := (unhide hA).size
  replace hfin := hide hfin
  replace hset := hide hset
  replace hz0 := hide hz0
  replace hz1 := hide hz1
  replace hz2 := hide hz2
  replace hi0 := hide hi0
  clear hl0
  have hadd : ∀ w0, (Op.stringOp .add ⟨#[]⟩ (bs s)).run Try.prog w0 = .ok (.string (bs s)) w0 := fun w0 => str_add w0 [] s (by simp; omega)
  clear h
  go_enter Try.func24, Try.ntmps24
  go_wp2_with (at_builtin; refine wpList_append_any _ rfl (.tmp 19) (.tmp 22) 22 rfl w0.heap.size 32 i0 _ 3 32 Try.underlying22 (unhide hi0) (unhide hz0) (unhide hz1) (unhide hz2) rfl (by omega) (.slice A 0 c) 0 (ecs []) rfl (unhide hown) _ _ 1 1 (ec ⟨3, 0, []⟩) rfl (unhide HR) (ec_one _) (by simp only [maxLen]; omega) (by omega) hsz ?_; intro v4 w4 hown4 hg4 hat4; obtain ⟨g4, c4, rfl, hne, cg, fg, r1, r2, rf, hput⟩ := (unhide hfin) _ _ hown4 hg4 hat4; clear hown4 hg4 hat4; have hP := hide (hput _ (unhide hset)); have hne2 : ¬ gl = g4 := fun he => hne he.symm; have rf1 := rf (0 * 3 + 1); have rf2 := rf (0 * 3 + 2); clear rf hput)
  go_end0
  exact ⟨rfl, _, unhide hP⟩

set_option maxRecDepth 100000 in
set_option maxHeartbeats 2000000 in
theorem add_new3 {w0 ws w : World} {kept : Nat → Prop} {gl M : Nat} {v : Value} {init : List D.Ed} {e : D.Ed} (s : List UInt8) (hs : s.length ≤ 1) (hM : M ≤ 4000) (hin : init.length ≤ M) (hk : e.kind ≠ 3) (h : Lv w0 ws kept w gl v (init ++ [e])) :
    Calls Try.prog 24 #[.int .i64 3, .string (bs s), .pointer (some ⟨gl, 0, none⟩)] w fun r w' => AddRes w0 ws kept gl ((init ++ [e]) ++ [⟨3, 0, s⟩]) r w' := by
  obtain ⟨i0, hi0, hz0, hz1, hz2⟩ := info_parts info32
  obtain ⟨g, c, hv, _, _⟩ := h.own.form (by simp)
  have hlen : (init ++ [e]).length = init.length + 1 := by simp
  rw [hlen] at hv
  subst hv
  obtain ⟨d0, _, _, _⟩ := h.last
  have c0 := h.c0
  have hkn : (e.kind != 3) = true := by rw [bne_iff_ne]; exact hk
  have hi1 : ((init.length : Int) + 1 - 1) = (init.length : Int) := by omega
  have hA := hide (h.alloc (.cells #[.int .i64 3, .int .i64 0, .string ⟨#[]⟩] 32))
  have HR := hide (show Reads (w.alloc (.cells #[.int .i64 3, .int .i64 0, .string ⟨#[]⟩] 32)) (w.heap.size + 1) 3 (some ⟨w.heap.size, 0, none⟩) 1 (ec ⟨3, 0, []⟩) from reads_new3 w ⟨3, 0, []⟩)
  have hfin : ∀ (v4 : Value) (w4 : World), w4.ownsRow w0.heap.size 32 3 v4 ((init.length + 1) + 1) (ecs (init ++ [e]) ++ ec ⟨3, 0, []⟩) → (w.alloc (.cells #[.int .i64 3, .int .i64 0, .string ⟨#[]⟩] 32)).grownBy w4 ((.slice (some ⟨g, 0, none⟩) (init.length + 1) c) : Value).ownBlock → (v4.ownBlock = ((.slice (some ⟨g, 0, none⟩) (init.length + 1) c) : Value).ownBlock ∨ v4.ownBlock = some (w.alloc (.cells #[.int .i64 3, .int .i64 0, .string ⟨#[]⟩] 32)).heap.size) →
      ∃ g4 c4, v4 = .slice (some ⟨g4, 0, none⟩) ((init.length + 1) + 1) c4 ∧ g4 ≠ gl ∧ w4.cell? ⟨gl, 0, none⟩ = some (.slice (some ⟨g, 0, none⟩) (init.length + 1) c) ∧ w4.frozen? ⟨gl, 0, none⟩ = false ∧ w4.cell? ⟨g4, (init.length + 1) * 3 + 1, none⟩ = some (.int .i64 0) ∧ w4.cell? ⟨g4, (init.length + 1) * 3 + 2, none⟩ = some (.string ⟨#[]⟩) ∧ (∀ i, w4.frozen? ⟨g4, i, none⟩ = false) ∧
        (∀ e', (ecs ((init ++ [e]) ++ [⟨3, 0, []⟩])).set ((init.length + 1) * 3 + 2) e' = ecs ((init ++ [e]) ++ [⟨3, 0, s⟩]) → Lv w0 ws kept ((w4.setCell ⟨gl, 0, none⟩ v4).setCell ⟨g4, (init.length + 1) * 3 + 2, none⟩ e') gl v4 ((init ++ [e]) ++ [⟨3, 0, s⟩])) := by
    intro v4 w4 hown4 hg4 hat4
    have hgr := Gr.of_grown hg4 hat4
    have hx := (unhide hA).app (x := ⟨3, 0, []⟩) (by rw [hlen]; exact hown4) hgr
    obtain ⟨g4, c4, rfl, _, _⟩ := hown4.form (by omega)
    have hne : g4 ≠ gl := fun he => hx.ne (by rw [he]; rfl)
    have hb := (unhide hA).blk.grown hg4 (fun he => (unhide hA).ne he.symm)
    obtain ⟨_, e1, e2, e3⟩ := hx.last
    have hne2 : gl ≠ g4 := fun he => hne he.symm
    rw [World.cell?_setCell_other _ _ _ _ (by simp)] at e1 e2
    refine ⟨g4, c4, rfl, hne, hb.cell 0, hb.frozen 0, by rw [hlen] at e1; exact e1, by rw [hlen] at e2; exact e2, fun i => by have := e3 i; simpa using this, fun e' he => ?_⟩
    exact hx.put _ e' _ he
  have hset : (ecs ((init ++ [e]) ++ [⟨3, 0, []⟩])).set ((init.length + 1) * 3 + 2) (.string (bs s)) = ecs ((init ++ [e]) ++ [⟨3, 0, s⟩]) := by
    have := ecs_set2 (init ++ [e]) ⟨3, 0, []⟩ s
    rw [hlen] at this
    exact this
  have hown := hide (show (w.alloc (.cells #[.int .i64 3, .int .i64 0, .string ⟨#[]⟩] 32)).ownsRow w0.heap.size 32 3 (.slice (some ⟨g, 0, none⟩) (init.length + 1) c) (init.length + 1) (ecs (init ++ [e])) by have := (unhide hA).own; rw [hlen] at this; exact this)
  have hsz := (unhide hA).size
  replace hfin := hide hfin
  replace hset := hide hset
  replace hz0 := hide hz0
  replace hz1 := hide hz1
  replace hz2 := hide hz2
  replace hi0 := hide hi0
  clear hlen hk
  have hadd : ∀ w0, (Op.stringOp .add ⟨#[]⟩ (bs s)).run Try.prog w0 = .ok (.string (bs s)) w0 := fun w0 => str_add w0 [] s (by simp; omega)
  clear h
  go_enter Try.func24, Try.ntmps24
  go_wp2_with (at_builtin; refine wpList_append_any _ rfl (.tmp 19) (.tmp 22) 22 rfl w0.heap.size 32 i0 _ 3 32 Try.underlying22 (unhide hi0) (unhide hz0) (unhide hz1) (unhide hz2) rfl (by omega) (.slice (some ⟨g, 0, none⟩) (init.length + 1) c) (init.length + 1) (ecs (init ++ [e])) rfl (unhide hown) _ _ 1 1 (ec ⟨3, 0, []⟩) rfl (unhide HR) (ec_one _) (by simp only [maxLen]; omega) (by omega) hsz ?_; intro v4 w4 hown4 hg4 hat4; obtain ⟨g4, c4, rfl, hne, cg, fg, r1, r2, rf, hput⟩ := (unhide hfin) _ _ hown4 hg4 hat4; clear hown4 hg4 hat4; have hP := hide (hput _ (unhide hset)); have hne2 : ¬ gl = g4 := fun he => hne he.symm; have rf1 := rf ((init.length + 1) * 3 + 1); have rf2 := rf ((init.length + 1) * 3 + 2); clear rf hput)
  go_end0
  exact ⟨rfl, _, unhide hP⟩

set_option maxRecDepth 100000 in
set_option maxHeartbeats 2000000 in
theorem add_new0 {w0 ws w : World} {kept : Nat → Prop} {gl _M : Nat} {v : Value} (k : Int) (hk3 : k ≠ 3) (s : List UInt8) (_hs : s.length ≤ 1) (h : Lv w0 ws kept w gl v []) :
    Calls Try.prog 24 #[.int .i64 k, .string (bs s), .pointer (some ⟨gl, 0, none⟩)] w fun r w' => AddRes w0 ws kept gl ([] ++ [⟨k, 1, []⟩]) r w' := by
  obtain ⟨i0, hi0, hz0, hz1, hz2⟩ := info_parts info32
  obtain ⟨A, c, rfl, _, _⟩ := own_form h.own
  have c0 := h.c0
  simp only [List.length_nil] at c0
  have hl0 : ([] : List D.Ed).length = 0 := rfl
  have hA := hide (h.alloc (.cells #[.int .i64 k, .int .i64 0, .string ⟨#[]⟩] 32))
  have HR := hide (show Reads (w.alloc (.cells #[.int .i64 k, .int .i64 0, .string ⟨#[]⟩] 32)) (w.heap.size + 1) 3 (some ⟨w.heap.size, 0, none⟩) 1 (ec ⟨k, 0, []⟩) from reads_new3 w ⟨k, 0, []⟩)
  have hfin : ∀ (v4 : Value) (w4 : World), w4.ownsRow w0.heap.size 32 3 v4 (0 + 1) (ecs [] ++ ec ⟨k, 0, []⟩) → (w.alloc (.cells #[.int .i64 k, .int .i64 0, .string ⟨#[]⟩] 32)).grownBy w4 ((.slice A 0 c) : Value).ownBlock → (v4.ownBlock = ((.slice A 0 c) : Value).ownBlock ∨ v4.ownBlock = some (w.alloc (.cells #[.int .i64 k, .int .i64 0, .string ⟨#[]⟩] 32)).heap.size) →
      ∃ g4 c4, v4 = .slice (some ⟨g4, 0, none⟩) (0 + 1) c4 ∧ g4 ≠ gl ∧ w4.cell? ⟨gl, 0, none⟩ = some (.slice A 0 c) ∧ w4.frozen? ⟨gl, 0, none⟩ = false ∧ w4.cell? ⟨g4, 0 * 3 + 1, none⟩ = some (.int .i64 0) ∧ w4.cell? ⟨g4, 0 * 3 + 2, none⟩ = some (.string ⟨#[]⟩) ∧ (∀ i, w4.frozen? ⟨g4, i, none⟩ = false) ∧
        (∀ e', (ecs ([] ++ [⟨k, 0, []⟩])).set (0 * 3 + 1) e' = ecs ([] ++ [⟨k, 1, []⟩]) → Lv w0 ws kept ((w4.setCell ⟨gl, 0, none⟩ v4).setCell ⟨g4, 0 * 3 + 1, none⟩ e') gl v4 ([] ++ [⟨k, 1, []⟩])) := by
    intro v4 w4 hown4 hg4 hat4
    have hgr := Gr.of_grown hg4 hat4
    have hx := (unhide hA).app (x := ⟨k, 0, []⟩) (by simpa using hown4) hgr
    obtain ⟨g4, c4, rfl, _, _⟩ := hown4.form (by omega)
    have hne : g4 ≠ gl := fun he => hx.ne (by rw [he]; rfl)
    have hb := (unhide hA).blk.grown hg4 (fun he => (unhide hA).ne he.symm)
    obtain ⟨_, e1, e2, e3⟩ := hx.last
    have hne2 : gl ≠ g4 := fun he => hne he.symm
    rw [World.cell?_setCell_other _ _ _ _ (by simp)] at e1 e2
    refine ⟨g4, c4, rfl, hne, hb.cell 0, hb.frozen 0, by exact e1, by exact e2, fun i => by have := e3 i; simpa using this, fun e' he => ?_⟩
    exact hx.put _ e' _ he
  have hset : (ecs ([] ++ [⟨k, 0, []⟩])).set (0 * 3 + 1) (.int .i64 1) = ecs ([] ++ [⟨k, 1, []⟩]) := by
    have := ecs_set1 [] ⟨k, 0, []⟩ 1
    exact this
  have hk3' : (k == 3) = false := beq_eq_false_iff_ne.2 hk3
  have hown := hide (show (w.alloc (.cells #[.int .i64 k, .int .i64 0, .string ⟨#[]⟩] 32)).ownsRow w0.heap.size 32 3 (.slice A 0 c) 0 (ecs []) by have := (unhide hA).own; exact this)
  have hsz := (unhide hA).size
  replace hfin := hide hfin
  replace hset := hide hset
  replace hz0 := hide hz0
  replace hz1 := hide hz1
  replace hz2 := hide hz2
  replace hi0 := hide hi0
  clear hl0
  clear hk3
  clear h
  go_enter Try.func24, Try.ntmps24
  go_wp2_with (at_builtin; refine wpList_append_any _ rfl (.tmp 19) (.tmp 22) 22 rfl w0.heap.size 32 i0 _ 3 32 Try.underlying22 (unhide hi0) (unhide hz0) (unhide hz1) (unhide hz2) rfl (by omega) (.slice A 0 c) 0 (ecs []) rfl (unhide hown) _ _ 1 1 (ec ⟨k, 0, []⟩) rfl (unhide HR) (ec_one _) (by simp only [maxLen]; omega) (by omega) hsz ?_; intro v4 w4 hown4 hg4 hat4; obtain ⟨g4, c4, rfl, hne, cg, fg, r1, r2, rf, hput⟩ := (unhide hfin) _ _ hown4 hg4 hat4; clear hown4 hg4 hat4; have hP := hide (hput _ (unhide hset)); have hne2 : ¬ gl = g4 := fun he => hne he.symm; have rf1 := rf (0 * 3 + 1); have rf2 := rf (0 * 3 + 2); clear rf hput)
  go_end0
  exact ⟨rfl, _, unhide hP⟩

set_option maxRecDepth 100000 in
set_option maxHeartbeats 2000000 in
theorem add_new {w0 ws w : World} {kept : Nat → Prop} {gl M : Nat} {v : Value} {init : List D.Ed} {e : D.Ed} (k : Int) (hk3 : k ≠ 3) (s : List UInt8) (_hs : s.length ≤ 1) (hM : M ≤ 4000) (hin : init.length ≤ M) (hk : e.kind ≠ k) (h : Lv w0 ws kept w gl v (init ++ [e])) :
    Calls Try.prog 24 #[.int .i64 k, .string (bs s), .pointer (some ⟨gl, 0, none⟩)] w fun r w' => AddRes w0 ws kept gl ((init ++ [e]) ++ [⟨k, 1, []⟩]) r w' := by
  obtain ⟨i0, hi0, hz0, hz1, hz2⟩ := info_parts info32
  obtain ⟨g, c, hv, _, _⟩ := h.own.form (by simp)
  have hlen : (init ++ [e]).length = init.length + 1 := by simp
  rw [hlen] at hv
  subst hv
  obtain ⟨d0, _, _, _⟩ := h.last
  have c0 := h.c0
  have hkn : (e.kind != k) = true := by rw [bne_iff_ne]; exact hk
  have hi1 : ((init.length : Int) + 1 - 1) = (init.length : Int) := by omega
  have hA := hide (h.alloc (.cells #[.int .i64 k, .int .i64 0, .string ⟨#[]⟩] 32))
  have HR := hide (show Reads (w.alloc (.cells #[.int .i64 k, .int .i64 0, .string ⟨#[]⟩] 32)) (w.heap.size + 1) 3 (some ⟨w.heap.size, 0, none⟩) 1 (ec ⟨k, 0, []⟩) from reads_new3 w ⟨k, 0, []⟩)
  have hfin : ∀ (v4 : Value) (w4 : World), w4.ownsRow w0.heap.size 32 3 v4 ((init.length + 1) + 1) (ecs (init ++ [e]) ++ ec ⟨k, 0, []⟩) → (w.alloc (.cells #[.int .i64 k, .int .i64 0, .string ⟨#[]⟩] 32)).grownBy w4 ((.slice (some ⟨g, 0, none⟩) (init.length + 1) c) : Value).ownBlock → (v4.ownBlock = ((.slice (some ⟨g, 0, none⟩) (init.length + 1) c) : Value).ownBlock ∨ v4.ownBlock = some (w.alloc (.cells #[.int .i64 k, .int .i64 0, .string ⟨#[]⟩] 32)).heap.size) →
      ∃ g4 c4, v4 = .slice (some ⟨g4, 0, none⟩) ((init.length + 1) + 1) c4 ∧ g4 ≠ gl ∧ w4.cell? ⟨gl, 0, none⟩ = some (.slice (some ⟨g, 0, none⟩) (init.length + 1) c) ∧ w4.frozen? ⟨gl, 0, none⟩ = false ∧ w4.cell? ⟨g4, (init.length + 1) * 3 + 1, none⟩ = some (.int .i64 0) ∧ w4.cell? ⟨g4, (init.length + 1) * 3 + 2, none⟩ = some (.string ⟨#[]⟩) ∧ (∀ i, w4.frozen? ⟨g4, i, none⟩ = false) ∧
        (∀ e', (ecs ((init ++ [e]) ++ [⟨k, 0, []⟩])).set ((init.length + 1) * 3 + 1) e' = ecs ((init ++ [e]) ++ [⟨k, 1, []⟩]) → Lv w0 ws kept ((w4.setCell ⟨gl, 0, none⟩ v4).setCell ⟨g4, (init.length + 1) * 3 + 1, none⟩ e') gl v4 ((init ++ [e]) ++ [⟨k, 1, []⟩])) := by
    intro v4 w4 hown4 hg4 hat4
    have hgr := Gr.of_grown hg4 hat4
    have hx := (unhide hA).app (x := ⟨k, 0, []⟩) (by rw [hlen]; exact hown4) hgr
    obtain ⟨g4, c4, rfl, _, _⟩ := hown4.form (by omega)
    have hne : g4 ≠ gl := fun he => hx.ne (by rw [he]; rfl)
    have hb := (unhide hA).blk.grown hg4 (fun he => (unhide hA).ne he.symm)
    obtain ⟨_, e1, e2, e3⟩ := hx.last
    have hne2 : gl ≠ g4 := fun he => hne he.symm
    rw [World.cell?_setCell_other _ _ _ _ (by simp)] at e1 e2
    refine ⟨g4, c4, rfl, hne, hb.cell 0, hb.frozen 0, by rw [hlen] at e1; exact e1, by rw [hlen] at e2; exact e2, fun i => by have := e3 i; simpa using this, fun e' he => ?_⟩
    exact hx.put _ e' _ he
  have hset : (ecs ((init ++ [e]) ++ [⟨k, 0, []⟩])).set ((init.length + 1) * 3 + 1) (.int .i64 1) = ecs ((init ++ [e]) ++ [⟨k, 1, []⟩]) := by
    have := ecs_set1 (init ++ [e]) ⟨k, 0, []⟩ 1
    rw [hlen] at this
    exact this
  have hk3' : (k == 3) = false := beq_eq_false_iff_ne.2 hk3
  have hown := hide (show (w.alloc (.cells #[.int .i64 k, .int .i64 0, .string ⟨#[]⟩] 32)).ownsRow w0.heap.size 32 3 (.slice (some ⟨g, 0, none⟩) (init.length + 1) c) (init.length + 1) (ecs (init ++ [e])) by have := (unhide hA).own; rw [hlen] at this; exact this)
  have hsz := (unhide hA).size
  replace hfin := hide hfin
  replace hset := hide hset
  replace hz0 := hide hz0
  replace hz1 := hide hz1
  replace hz2 := hide hz2
  replace hi0 := hide hi0
  clear hlen hk
  clear hk3
  clear h
  go_enter Try.func24, Try.ntmps24
  go_wp2_with (at_builtin; refine wpList_append_any _ rfl (.tmp 19) (.tmp 22) 22 rfl w0.heap.size 32 i0 _ 3 32 Try.underlying22 (unhide hi0) (unhide hz0) (unhide hz1) (unhide hz2) rfl (by omega) (.slice (some ⟨g, 0, none⟩) (init.length + 1) c) (init.length + 1) (ecs (init ++ [e])) rfl (unhide hown) _ _ 1 1 (ec ⟨k, 0, []⟩) rfl (unhide HR) (ec_one _) (by simp only [maxLen]; omega) (by omega) hsz ?_; intro v4 w4 hown4 hg4 hat4; obtain ⟨g4, c4, rfl, hne, cg, fg, r1, r2, rf, hput⟩ := (unhide hfin) _ _ hown4 hg4 hat4; clear hown4 hg4 hat4; have hP := hide (hput _ (unhide hset)); have hne2 : ¬ gl = g4 := fun he => hne he.symm; have rf1 := rf ((init.length + 1) * 3 + 1); have rf2 := rf ((init.length + 1) * 3 + 2); clear rf hput)
  go_end0
  exact ⟨rfl, _, unhide hP⟩

/-- diff.Make's add: one byte more of a kind -/
theorem add_any {w0 ws w : World} {kept : Nat → Prop} {gl M : Nat} {v : Value} {l : List D.Ed} (k : Int) (s : List UInt8) (hs : s.length ≤ 1) (hM : M ≤ 4000) (hsm : Small M l) (h : Lv w0 ws kept w gl v l) :
    Calls Try.prog 24 #[.int .i64 k, .string (bs s), .pointer (some ⟨gl, 0, none⟩)] w fun r w' => AddRes w0 ws kept gl (D.more l k s) r w' := by
  rcases List.eq_nil_or_concat l with rfl | ⟨init, e, rfl⟩
  · rw [more_new (by intro e he; cases he)]
    by_cases hk : k = 3
    · subst hk
      rw [if_pos rfl, if_pos rfl]
      exact add_new03 (_M := 0) s hs h
    · rw [if_neg hk, if_neg hk]
      exact add_new0 (_M := 0) k hk s hs h
  · rw [List.concat_eq_append] at *
    obtain ⟨h1, h2⟩ := hsm
    have he := h2 e (by simp)
    have hin : init.length ≤ M := by simp at h1; omega
    by_cases hek : e.kind = k
    · rw [more_last init e hek]
      by_cases hk : k = 3
      · subst hk
        rw [if_pos rfl, if_pos rfl]
        exact add_last3 s hs hM he.1 he.2.1 he.2.2 hin hek h
      · rw [if_neg hk, if_neg hk]
        exact add_last k hk s hs hM he.1 he.2.1 he.2.2 hin hek h
    · rw [more_new (by intro x hx; simp at hx; subst hx; exact hek)]
      by_cases hk : k = 3
      · subst hk
        rw [if_pos rfl, if_pos rfl]
        exact add_new3 s hs hM hin hek h
      · rw [if_neg hk, if_neg hk]
        exact add_new k hk s hs hM hin hek h
end Go.Proofs.Ytakkjehmekekbaa
