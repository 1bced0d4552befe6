/- The draws' tasks: l20Task. -/
import Derived.Test.YtndbfdgflflfpaaDrawD
import Derived.Test.YtndbfdgflflfpaaTask
import Derived.Deep.RegionHeld3
import Derived.Deep.RegionLaw
import Derived.Deep.Cut
import Derived.Deep.DeepFit
import Derived.Outline
namespace Go.Proofs.Ytndbfdgflflfpaa
open Go.RowKit

theorem infoDeed : (Try.prog.info? 46).map (fun i => (i.zero, i.size, i.bytes)) = some (some (.agg #[.slice none 0 0, .int .i64 0, .int .i64 0, .int .i64 0]), 4, 48) := by kernel_rfl

/-- A deed in a row: where its condition lies, and its sets. -/
structure DE where
  ao : Option Addr
  l : Nat
  cp : Nat
  a : Int
  b : Int
  c : Int
def DE.cells (e : DE) : List Value := [.slice e.ao e.l e.cp, .int .i64 e.a, .int .i64 e.b, .int .i64 e.c]
def DE.ok (w : World) (base : Nat) (e : DE) : Prop := ((e.ao = none ∧ e.l = 0 ∧ e.cp = 0) ∨ ∃ g, e.ao = some ⟨g, 0, none⟩ ∧ OutS w base g e.l e.cp) ∧ e.l ≤ 4 ∧ (-3 ≤ e.a ∧ e.a ≤ 600) ∧ (-3 ≤ e.b ∧ e.b ≤ 600) ∧ (-3 ≤ e.c ∧ e.c ≤ 600)
def DE.few (e : DE) : Prop := Few e.a ∧ Few e.b ∧ Few e.c
def rowCells (es : List DE) : List Value := es.flatMap DE.cells
theorem rowCells_len : ∀ es : List DE, (rowCells es).length = es.length * 4
  | [] => rfl
  | e :: es => by
    have ih := rowCells_len es
    rw [rowCells, List.flatMap_cons, List.length_append, ← rowCells, ih]
    simp [DE.cells]; omega
theorem rowCells_app (es : List DE) (e : DE) : rowCells (es ++ [e]) = rowCells es ++ e.cells := by simp [rowCells, List.flatMap_append]
theorem rowCells_at : ∀ (es : List DE) (k : Nat) (e : DE), es[k]? = some e → ∀ j, j < 4 → (rowCells es)[k * 4 + j]? = e.cells[j]?
  | [], k, e, h, _, _ => by simp at h
  | x :: es, 0, e, h, j, hj => by
    simp at h; subst h
    rw [rowCells, List.flatMap_cons, Nat.zero_mul, Nat.zero_add, List.getElem?_append_left (by simp [DE.cells]; omega)]
  | x :: es, k + 1, e, h, j, hj => by
    rw [rowCells, List.flatMap_cons, List.getElem?_append_right (by simp [DE.cells]; omega)]
    have := rowCells_at es k e (by simpa using h) j hj
    rw [show (k + 1) * 4 + j - x.cells.length = k * 4 + j by simp [DE.cells]; omega]
    exact this

/-- v is the call's own row of deeds. -/
def DRow (w : World) (base : Nat) (v : Value) (es : List DE) : Prop := w.ownsRow base 46 4 v es.length (rowCells es) ∧ ∀ e ∈ es, e.ok w base

theorem DE.ok.other {w w' : World} {base r : Nat} {e : DE} (h : e.ok w base) (hg : w.grownBy w' (some r)) (hne : ∀ g, e.ao = some ⟨g, 0, none⟩ → g ≠ r) : e.ok w' base := by
  obtain ⟨h1, h2⟩ := h
  refine ⟨?_, h2⟩
  rcases h1 with h1 | ⟨g, h3, h4⟩
  · exact .inl h1
  · exact .inr ⟨g, h3, OutS.other h4 hg (hne g h3)⟩

/-- A block of another kind than that of the conditions. -/
theorem DRow.other {w w' : World} {base r : Nat} {v : Value} {es : List DE} (h : DRow w base v es) (hg : w.grownBy w' (some r)) (hv : v.ownBlock ≠ some r) (hne : ∀ e ∈ es, ∀ g, e.ao = some ⟨g, 0, none⟩ → g ≠ r) : DRow w' base v es :=
  ⟨h.1.kept hg (.inr hv), fun e he => (h.2 e he).other hg (hne e he)⟩

theorem DRow.low {w w' : World} {base r : Nat} {v : Value} {es : List DE} (h : DRow w base v es) (hg : w.grownBy w' (some r)) (hr : r < base) : DRow w' base v es := by
  refine h.other hg (fun e => ?_) (fun e he g hgg => ?_)
  · have := (h.1.lt r e).1; omega
  · rcases (h.2 e he).1 with ⟨h1, _⟩ | ⟨g', h1, h2⟩
    · rw [h1] at hgg; cases hgg
    · rw [h1] at hgg; injection hgg with hgg; injection hgg with hgg
      have := h2.lt.1; omega

theorem DRow.alloc {w : World} {base : Nat} {v : Value} {es : List DE} (h : DRow w base v es) (o : Obj) : DRow (w.alloc o) base v es := by
  refine ⟨h.1.alloc o, fun e he => ?_⟩
  obtain ⟨h1, h2⟩ := h.2 e he
  refine ⟨?_, h2⟩
  rcases h1 with h1 | ⟨g, h3, h4⟩
  · exact .inl h1
  · exact .inr ⟨g, h3, h4.alloc o⟩

theorem out_kind {w : World} {base g n cap : Nat} (h : OutS w base g n cap) : ∃ c, w.heap[g]? = some (.cells c 3 (0, 0)) := by
  obtain ⟨zs, h1, h2, h3⟩ := h
  rcases h3.2 with ⟨h4, _⟩ | ⟨g', cap', cur, h4, h5, h6, _⟩
  · cases h4
  · injection h4 with e1; injection e1 with e1; injection e1 with e1; subst e1
    exact ⟨cur, h6⟩

theorem out_ne {w : World} {base g n cap r : Nat} {c : Array Value} {t : TypeId} {p : Nat × Nat} (h : OutS w base g n cap) (hr : w.heap[r]? = some (.cells c t p)) (ht : t ≠ 3) : g ≠ r := by
  rintro rfl
  obtain ⟨c', h'⟩ := out_kind h
  rw [h'] at hr; injection hr with hr; injection hr with _ e _; exact ht e.symm

/-- The row's own turn leaves the conditions: they are of another kind. -/
theorem DRow.ne {w : World} {base r : Nat} {v : Value} {es : List DE} {c : Array Value} {t : TypeId} {p : Nat × Nat} (h : DRow w base v es) (hr : w.heap[r]? = some (.cells c t p)) (ht : t ≠ 3) : ∀ e ∈ es, ∀ g, e.ao = some ⟨g, 0, none⟩ → g ≠ r := by
  intro e he g hg
  rcases (h.2 e he).1 with ⟨h1, _⟩ | ⟨g', h1, h2⟩
  · rw [h1] at hg; cases hg
  · rw [h1] at hg; injection hg with hg; injection hg with hg; subst hg
    exact out_ne h2 hr ht

theorem row_shape {w : World} {base : Nat} {e : TypeId} {v : Value} {n : Nat} {xs : List Value} (h : w.ownsRow base e 4 v n xs) : (v = .slice none 0 0 ∧ n = 0) ∨ ∃ g cap c, v = .slice (some ⟨g, 0, none⟩) n cap ∧ base ≤ g ∧ w.heap[g]? = some (.cells c e (0, 0)) := by
  rcases h.2 with h1 | ⟨g, cap, cur, h1, h2, h3, _⟩
  · exact .inl h1
  · exact .inr ⟨g, cap, cur, h1, h2, h3⟩

/-- 'append(v, d)', v the call's own row of deeds, d in a block of its own, as one operation. -/
theorem wp_appendD (w : World) {o : Oper} {a : Act} {K : Act → World → Prop} {Q : Exit → Act → World → Prop} (s x : Operand)
    (ho : o.op = .call { callee := .builtin .append, args := #[s, x], argTypes := #[33, 33] })
    (base : Nat) (v : Value) (es : List DE) (d : DE) (B : Nat) (hs : a.eval s = v) (hx : a.eval x = .slice (some ⟨B, 0, none⟩) 1 1)
    (hown : DRow w base v es) (hd : d.ok w base) (hB : ∀ j u, d.cells[j]? = some u → w.cell? ⟨B, j, none⟩ = some u) (hn : es.length ≤ 1000) (hbase : base ≤ w.heap.size)
    (h : ∀ g cap w', DRow w' base (.slice (some ⟨g, 0, none⟩) (es.length + 1) cap) (es ++ [d]) → w.grownBy w' v.ownBlock → K (a.put o.dst (.slice (some ⟨g, 0, none⟩) (es.length + 1) cap)) w') : o.wp Try.prog a w K Q := by
  obtain ⟨i, hi, hz, hsz, hby⟩ := info_parts infoDeed
  refine wp_append_own w s x 33 ho base 46 i _ 4 48 Try.underlying33 hi hz hsz hby rfl (by decide) v es.length _ hs hown.1 ⟨B, 0, none⟩ 1 1 d.cells hx rfl ?_ ?_ ?_ ?_ hbase ?_
  · intro j u hj
    rw [Addr.add_lit, Nat.zero_add]
    exact hB j u hj
  · intro u hu
    simp only [DE.cells, List.mem_cons, List.not_mem_nil, or_false] at hu
    rcases hu with rfl | rfl | rfl | rfl <;> rfl
  · unfold maxLen; omega
  · omega
  · intro v' w' ho' hg hnil
    have hne : v' ≠ .slice none 0 0 := fun e => by have := (hnil.1 e).2; omega
    rcases row_shape ho' with ⟨h1, _⟩ | ⟨g, cap, c, rfl, hbg, hgc⟩
    · exact absurd h1 hne
    · refine h g cap w' ⟨by rw [rowCells_app, List.length_append]; exact ho', fun e he => ?_⟩ hg
      have hok : e.ok w base := by
        rcases List.mem_append.1 he with he | he
        · exact hown.2 e he
        · simp at he; subst he; exact hd
      cases hvb : v.ownBlock with
      | none =>
        rw [hvb] at hg
        obtain ⟨h1, h2⟩ := hok
        refine ⟨?_, h2⟩
        rcases h1 with h1 | ⟨g', h3, zs, h4, h5, h6⟩
        · exact .inl h1
        · exact .inr ⟨g', h3, zs, h4, h5, h6.kept hg (.inr (by simp [Value.ownBlock]))⟩
      | some r =>
        rw [hvb] at hg
        refine hok.other hg (fun g' hg' => ?_)
        rcases row_shape hown.1 with ⟨h1, _⟩ | ⟨r', cap', c', h1, _, h2⟩
        · rw [h1] at hvb; simp [Value.ownBlock] at hvb
        · rw [h1] at hvb; simp [Value.ownBlock] at hvb; subst hvb
          rcases hok.1 with ⟨h3, _⟩ | ⟨g'', h3, h4⟩
          · rw [h3] at hg'; cases hg'
          · rw [h3] at hg'; injection hg' with hg'; injection hg' with hg'; subst hg'
            exact out_ne h4 h2 (by decide)

theorem few_app {es : List DE} {ao : Option Addr} {l cp : Nat} {a b c : Int} (h : ∀ e ∈ es, DE.few e) (h2 : Few a ∧ Few b ∧ Few c) : ∀ e ∈ es ++ [⟨ao, l, cp, a, b, c⟩], DE.few e := by
  intro e he
  rcases List.mem_append.1 he with he | he
  · exact h e he
  · simp at he; subst he; exact h2

theorem DRow.lt {w : World} {base n cp g : Nat} {es : List DE} (h : DRow w base (.slice (some ⟨g, 0, none⟩) n cp) es) : g < w.heap.size := (h.1.lt g rfl).2

theorem own_put4 {w : World} {base : Nat} {e : TypeId} {g n cap : Nat} {xs : List Value} (h : w.ownsRow base e 4 (.slice (some ⟨g, 0, none⟩) n cap) n xs) (i : Nat) (u : Value) :
    (w.setCell ⟨g, i, none⟩ u).ownsRow base e 4 (.slice (some ⟨g, 0, none⟩) n cap) n (xs.set i u) := by
  obtain ⟨h1, h2⟩ := h
  rcases h2 with ⟨h3, _⟩ | ⟨g', cap', cur, h3, h4, h5, h6, h7, h8, h9⟩
  · cases h3
  · injection h3 with e1 e2 e3
    injection e1 with e1; injection e1 with e1 _ _
    subst e1; subst e3
    refine ⟨by simpa using h1, .inr ⟨_, _, cur.setIfInBounds i u, rfl, h4, ?_, h6, h7, by simpa using h8, ?_⟩⟩
    · simp [World.setCell, Array.getElem?_modify, h5]
    · rw [← h9, Array.toList_setIfInBounds, List.take_set]

theorem rowCells_set : ∀ (es : List DE) (j : Nat) (e : DE), j < es.length → ((((rowCells es).set (j * 4) (.slice e.ao e.l e.cp)).set (j * 4 + 1) (.int .i64 e.a)).set (j * 4 + 2) (.int .i64 e.b)).set (j * 4 + 3) (.int .i64 e.c) = rowCells (es.set j e)
  | [], j, e, h => by simp at h
  | x :: es, 0, e, _ => by simp [rowCells, DE.cells]
  | x :: es, j + 1, e, h => by
    have ih := rowCells_set es j e (by simpa using h)
    have e1 : ∀ k (u : Value) (xs : List Value), (x.cells ++ xs).set ((j + 1) * 4 + k) u = x.cells ++ xs.set (j * 4 + k) u := fun k u xs => by
      rw [List.set_append_right _ _ (by simp [DE.cells]; omega)]; congr 2; simp [DE.cells]; omega
    have e0 : ∀ (u : Value) (xs : List Value), (x.cells ++ xs).set ((j + 1) * 4) u = x.cells ++ xs.set (j * 4) u := fun u xs => e1 0 u xs
    have hc : rowCells (x :: es) = x.cells ++ rowCells es := by simp [rowCells]
    rw [hc, e0, e1, e1, e1, ih]; simp [rowCells]

theorem DRow.set {w : World} {base g cp j : Nat} {es : List DE} (h : DRow w base (.slice (some ⟨g, 0, none⟩) es.length cp) es) (hj : j < es.length) (e : DE) (he : e.ok w base) :
    DRow ((((w.setCell ⟨g, j * 4, none⟩ (.slice e.ao e.l e.cp)).setCell ⟨g, j * 4 + 1, none⟩ (.int .i64 e.a)).setCell ⟨g, j * 4 + 2, none⟩ (.int .i64 e.b)).setCell ⟨g, j * 4 + 3, none⟩ (.int .i64 e.c)) base (.slice (some ⟨g, 0, none⟩) (es.set j e).length cp) (es.set j e) := by
  have h4 := grown_trans (grown_trans (grown_trans (grown_setCell w g (j * 4) (.slice e.ao e.l e.cp)) (grown_setCell _ g (j * 4 + 1) (.int .i64 e.a))) (grown_setCell _ g (j * 4 + 2) (.int .i64 e.b))) (grown_setCell _ g (j * 4 + 3) (.int .i64 e.c))
  obtain ⟨c, hc⟩ : ∃ c, w.heap[g]? = some (.cells c 46 (0, 0)) := by
    rcases row_shape h.1 with ⟨h1, _⟩ | ⟨g', cap', c, h1, _, h2⟩
    · cases h1
    · injection h1 with e1; injection e1 with e1; injection e1 with e1; subst e1; exact ⟨c, h2⟩
  refine ⟨?_, fun x hx => ?_⟩
  · have hp := own_put4 (own_put4 (own_put4 (own_put4 h.1 (j * 4) (.slice e.ao e.l e.cp)) (j * 4 + 1) (.int .i64 e.a)) (j * 4 + 2) (.int .i64 e.b)) (j * 4 + 3) (.int .i64 e.c)
    rw [rowCells_set es j e hj] at hp
    rw [List.length_set]; exact hp
  · rcases List.mem_or_eq_of_mem_set hx with hx | rfl
    · exact (h.2 x hx).other h4 (DRow.ne h hc (by decide) x hx)
    · refine he.other h4 (fun g' hg' => ?_)
      rcases he.1 with ⟨h1, _⟩ | ⟨g'', h1, h2⟩
      · rw [h1] at hg'; cases hg'
      · rw [h1] at hg'; injection hg' with hg'; injection hg' with hg'; subst hg'
        exact out_ne h2 hc (by decide)

theorem DRow.at {w : World} {base cp j : Nat} {ao : Option Addr} {es : List DE} (h : DRow w base (.slice ao es.length cp) es) (hj : j < es.length) :
    ∃ g e, ao = some ⟨g, 0, none⟩ ∧ base ≤ g ∧ es[j]? = some e ∧ e.ok w base ∧ w.cell? ⟨g, j * 4, none⟩ = some (.slice e.ao e.l e.cp) ∧ w.cell? ⟨g, j * 4 + 1, none⟩ = some (.int .i64 e.a) ∧ w.cell? ⟨g, j * 4 + 2, none⟩ = some (.int .i64 e.b) ∧ w.cell? ⟨g, j * 4 + 3, none⟩ = some (.int .i64 e.c) ∧
      (∀ i, w.frozen? ⟨g, i, none⟩ = false) ∧ es.length ≤ cp ∧ cp ≤ maxLen ∧ ∃ c, w.heap[g]? = some (.cells c 46 (0, 0)) := by
  rcases h.1.2 with ⟨_, h0⟩ | ⟨g, cap, cur, h1, h2, h3, h4, h5, _⟩
  · omega
  · injection h1 with e1 e2 e3
    subst e1; subst e3
    obtain ⟨e, he⟩ : ∃ e, es[j]? = some e := ⟨_, List.getElem?_eq_getElem hj⟩
    have hc : ∀ i, i < 4 → ∀ u, e.cells[i]? = some u → w.cell? ⟨g, j * 4 + i, none⟩ = some u := fun i hi u hu => by
      have := h.1.cells (g := g) rfl (j * 4 + i) u ((rowCells_at es j e he i hi).trans hu)
      simpa [Addr.add_lit] using this
    exact ⟨g, e, rfl, h2, he, h.2 e (List.mem_of_getElem? he), hc 0 (by omega) _ rfl, hc 1 (by omega) _ rfl, hc 2 (by omega) _ rfl, hc 3 (by omega) _ rfl, fun i => blk_frozen h3 i, h4, h5, cur, h3⟩

theorem step_appendD {ops : Array Oper} {o : Oper} {a : Act} {w : World} {K : Act → World → Prop} {Q : Exit → Act → World → Prop} {E : Prop} (hgd : o.guard = none) (s x : Operand)
    (ho : o.op = .call { callee := .builtin .append, args := #[s, x], argTypes := #[33, 33] })
    (base : Nat) (v : Value) (es : List DE) (d : DE) (B : Nat) (hs : a.eval s = v) (hx : a.eval x = .slice (some ⟨B, 0, none⟩) 1 1)
    (hown : DRow w base v es) (hd : d.ok w base) (hB : ∀ j u, d.cells[j]? = some u → w.cell? ⟨B, j, none⟩ = some u) (hn : es.length ≤ 1000) (hbase : base ≤ w.heap.size)
    (h : ∀ g cap w', DRow w' base (.slice (some ⟨g, 0, none⟩) (es.length + 1) cap) (es ++ [d]) → w.grownBy w' v.ownBlock → K (a.put o.dst (.slice (some ⟨g, 0, none⟩) (es.length + 1) cap)) w') :
    if Region.wanted o (yielded ops a.tmps) = true then Oper.wp Try.prog o a w K Q else E := by
  rw [if_pos (by simp [Region.wanted, hgd])]
  exact wp_appendD w s x ho base v es d B hs hx hown hd hB hn hbase h

/-- Block T holds a task. -/
def TBlk (w : World) (T : Nat) (s : Int) (gv dv : Value) : Prop := w.heap[T]? = some (.cells #[.int .i64 s, gv, dv] 35 (0, 0))
theorem TBlk.kept {w w' : World} {T : Nat} {s : Int} {gv dv : Value} {row : Option Nat} (h : TBlk w T s gv dv) (hg : w.grownBy w' row) (hne : row ≠ some T) : TBlk w' T s gv dv :=
  (hg.block T (Array.getElem?_eq_some_iff.1 h).1 (fun e => hne e.symm)).trans h
theorem TBlk.lt {w : World} {T : Nat} {s : Int} {gv dv : Value} (h : TBlk w T s gv dv) : T < w.heap.size := (Array.getElem?_eq_some_iff.1 h).1
theorem TBlk.cells {w : World} {T : Nat} {s : Int} {gv dv : Value} (h : TBlk w T s gv dv) : w.cell? ⟨T, 0, none⟩ = some (.int .i64 s) ∧ w.cell? ⟨T, 1, none⟩ = some gv ∧ w.cell? ⟨T, 2, none⟩ = some dv :=
  ⟨(blk_cell h 0).trans rfl, (blk_cell h 1).trans rfl, (blk_cell h 2).trans rfl⟩
theorem TBlk.set0 {w : World} {T : Nat} {s x : Int} {gv dv : Value} (h : TBlk w T s gv dv) : TBlk (w.setCell ⟨T, 0, none⟩ (.int .i64 x)) T x gv dv := (blk_set h 0 (.int .i64 x)).trans rfl
theorem TBlk.set1 {w : World} {T : Nat} {s : Int} {gv dv u : Value} (h : TBlk w T s gv dv) : TBlk (w.setCell ⟨T, 1, none⟩ u) T s u dv := (blk_set h 1 u).trans rfl
theorem TBlk.set2 {w : World} {T : Nat} {s : Int} {gv dv u : Value} (h : TBlk w T s gv dv) : TBlk (w.setCell ⟨T, 2, none⟩ u) T s gv u := (blk_set h 2 u).trans rfl
theorem TBlk.row {w : World} {T base : Nat} {s : Int} {gv dv v : Value} {es : List DE} (h : TBlk w T s gv dv) (hr : DRow w base v es) : v.ownBlock ≠ some T := by
  intro e
  rcases row_shape hr.1 with ⟨h1, _⟩ | ⟨g, cap, c, h1, _, h2⟩
  · rw [h1] at e; simp [Value.ownBlock] at e
  · rw [h1] at e; simp [Value.ownBlock] at e; subst e
    rw [h] at h2; injection h2 with h2; injection h2 with _ e _; exact absurd e (by decide)
theorem row_out {w : World} {base b g n cap : Nat} {v : Value} {es : List DE} (hr : DRow w base v es) (ho : OutS w b g n cap) : v.ownBlock ≠ some g := by
  intro e
  rcases row_shape hr.1 with ⟨h1, _⟩ | ⟨g', cap', c, h1, _, h2⟩
  · rw [h1] at e; simp [Value.ownBlock] at e
  · rw [h1] at e; simp [Value.ownBlock] at e; subst e
    exact out_ne ho h2 (by decide) rfl
theorem OutS.kept {w w' : World} {base g n cap : Nat} {row : Option Nat} (h : OutS w base g n cap) (hg : w.grownBy w' row) (hne : row ≠ some g) : OutS w' base g n cap := by
  obtain ⟨zs, h1, h2, h3⟩ := h
  exact ⟨zs, h1, h2, h3.kept hg (.inr (by simpa [Value.ownBlock] using Ne.symm hne))⟩
theorem RdOk.kept {w w' : World} {r N : Nat} {row : Option Nat} (h : RdOk w r N) (hg : w.grownBy w' row) (hne : ∀ g, row = some g → r < g) : RdOk w' r N := by
  cases row with
  | some g => exact h.grown hg (hne g rfl)
  | none =>
    have h2 : w.grownBy w' (some (r + 1)) := ⟨hg.os, hg.tape, hg.output, hg.size, fun i hi _ => hg.block i hi (by simp)⟩
    exact h.grown h2 (by omega)
theorem grown_kept {w w1 w2 : World} {r : Nat} {row : Option Nat} (h : w.grownBy w1 (some r)) (k : w1.grownBy w2 row) (hg : ∀ g, row = some g → w.heap.size ≤ g) : w.grownBy w2 (some r) := by
  cases row with
  | some g => exact grown_new h k (hg g rfl)
  | none => exact grown_trans h ⟨k.os, k.tape, k.output, k.size, fun i hi _ => k.block i hi (by simp)⟩

theorem deed_cell {w wr w5 : World} {T r : Nat} {s0 : Int} {gv dv : Value} (HT : TBlk wr T s0 gv dv) (hTw : w.heap.size + 1 ≤ T) (hlt : r < w.heap.size) (hgd : wr.grownBy w5 (some r)) (o : Obj) :
    w5.cell? ⟨T, 2, none⟩ = some dv ∧ (w5.alloc o).cell? ⟨T, 2, none⟩ = some dv :=
  ⟨(TBlk.cells (HT.kept hgd (by simp; omega))).2.2, (TBlk.cells ((HT.kept hgd (by simp; omega)).kept (grown_alloc w5 o none) (by simp))).2.2⟩

theorem deed_row {w wr w5 : World} {T r N : Nat} {s0 : Int} {g n cap cp gd nd cd : Nat} {ao : Option Addr} {es : List DE} {a b c : Int}
    (HT : TBlk wr T s0 (.slice (some ⟨g, 0, none⟩) n cap) (.slice ao es.length cp)) (HV : TBlk wr w.heap.size 0 (.slice none 0 0) (.slice none 0 0)) (HO : OutS wr w.heap.size g n cap) (HD : DRow wr w.heap.size (.slice ao es.length cp) es) (HG : w.grownBy wr (some r))
    (hTw : w.heap.size + 1 ≤ T) (hlt : r < w.heap.size) (hnd : nd ≤ 4) (hod : OutS w5 wr.heap.size gd nd cd) (hfa : Few a) (hfb : Few b) (hfc : Few c) (hrd : RdOk w5 r N) (hgd : wr.grownBy w5 (some r)) :
    DRow (w5.alloc (.cells #[.slice (some ⟨gd, 0, none⟩) nd cd, .int .i64 a, .int .i64 b, .int .i64 c] 46)) w.heap.size (.slice ao es.length cp) es ∧
    DE.ok (w5.alloc (.cells #[.slice (some ⟨gd, 0, none⟩) nd cd, .int .i64 a, .int .i64 b, .int .i64 c] 46)) w.heap.size ⟨some ⟨gd, 0, none⟩, nd, cd, a, b, c⟩ ∧
    (∀ j u, (DE.cells ⟨some ⟨gd, 0, none⟩, nd, cd, a, b, c⟩)[j]? = some u → (w5.alloc (.cells #[.slice (some ⟨gd, 0, none⟩) nd cd, .int .i64 a, .int .i64 b, .int .i64 c] 46)).cell? ⟨w5.heap.size, j, none⟩ = some u) ∧
    w.heap.size ≤ (w5.alloc (.cells #[.slice (some ⟨gd, 0, none⟩) nd cd, .int .i64 a, .int .i64 b, .int .i64 c] 46)).heap.size ∧
    (∀ g6 cap6 w6, DRow w6 w.heap.size (.slice (some ⟨g6, 0, none⟩) (es.length + 1) cap6) (es ++ [⟨some ⟨gd, 0, none⟩, nd, cd, a, b, c⟩]) → (w5.alloc (.cells #[.slice (some ⟨gd, 0, none⟩) nd cd, .int .i64 a, .int .i64 b, .int .i64 c] 46)).grownBy w6 (Value.ownBlock (.slice ao es.length cp)) →
      w6.cell? ⟨T, 2, none⟩ = some (.slice ao es.length cp) ∧ w6.frozen? ⟨T, 2, none⟩ = false ∧
      TBlk (w6.setCell ⟨T, 2, none⟩ (.slice (some ⟨g6, 0, none⟩) (es.length + 1) cap6)) T s0 (.slice (some ⟨g, 0, none⟩) n cap) (.slice (some ⟨g6, 0, none⟩) (es.length + 1) cap6) ∧
      TBlk (w6.setCell ⟨T, 2, none⟩ (.slice (some ⟨g6, 0, none⟩) (es.length + 1) cap6)) w.heap.size 0 (.slice none 0 0) (.slice none 0 0) ∧
      OutS (w6.setCell ⟨T, 2, none⟩ (.slice (some ⟨g6, 0, none⟩) (es.length + 1) cap6)) w.heap.size g n cap ∧
      DRow (w6.setCell ⟨T, 2, none⟩ (.slice (some ⟨g6, 0, none⟩) (es.length + 1) cap6)) w.heap.size (.slice (some ⟨g6, 0, none⟩) (es.length + 1) cap6) (es ++ [⟨some ⟨gd, 0, none⟩, nd, cd, a, b, c⟩]) ∧
      RdOk (w6.setCell ⟨T, 2, none⟩ (.slice (some ⟨g6, 0, none⟩) (es.length + 1) cap6)) r N ∧
      w.grownBy (w6.setCell ⟨T, 2, none⟩ (.slice (some ⟨g6, 0, none⟩) (es.length + 1) cap6)) (some r)) := by
  have hga := grown_alloc w5 (.cells #[.slice (some ⟨gd, 0, none⟩) nd cd, .int .i64 a, .int .i64 b, .int .i64 c] 46) (some r)
  have hba := (Below.refl w5.heap.size w5).alloc (Nat.le_refl _) (.cells #[.slice (some ⟨gd, 0, none⟩) nd cd, .int .i64 a, .int .i64 b, .int .i64 c] 46)
  have hD5 := (HD.low hgd hlt).alloc (.cells #[.slice (some ⟨gd, 0, none⟩) nd cd, .int .i64 a, .int .i64 b, .int .i64 c] 46)
  have hw : w.heap.size ≤ wr.heap.size := HG.size
  have hT5 := (HT.kept hgd (by simp; omega)).kept hga (by simp; omega)
  have hV5 := (HV.kept hgd (by simp; omega)).kept hga (by simp; omega)
  have hO5 := (HO.grown hgd hlt).alloc (.cells #[.slice (some ⟨gd, 0, none⟩) nd cd, .int .i64 a, .int .i64 b, .int .i64 c] 46)
  have hR5 := hrd.below hba
  have hG5 := grown_trans (grown_trans HG hgd) hga
  obtain ⟨wa, hwa⟩ : ∃ wa, wa = w5.alloc (.cells #[.slice (some ⟨gd, 0, none⟩) nd cd, .int .i64 a, .int .i64 b, .int .i64 c] 46) := ⟨_, rfl⟩
  have hod5 := (OutS.base hod hw).alloc (.cells #[.slice (some ⟨gd, 0, none⟩) nd cd, .int .i64 a, .int .i64 b, .int .i64 c] 46)
  have hcell : ∀ j u, (DE.cells ⟨some ⟨gd, 0, none⟩, nd, cd, a, b, c⟩)[j]? = some u → (w5.alloc (.cells #[.slice (some ⟨gd, 0, none⟩) nd cd, .int .i64 a, .int .i64 b, .int .i64 c] 46)).cell? ⟨w5.heap.size, j, none⟩ = some u := by
    intro j u hj; rw [cell_new]; simpa [DE.cells] using hj
  rw [← hwa] at hD5 hT5 hV5 hO5 hR5 hG5 hod5 hcell ⊢
  clear hwa hga hba
  unfold Few at hfa hfb hfc
  refine ⟨hD5, ⟨.inr ⟨gd, rfl, hod5⟩, hnd, by simp only; omega, by simp only; omega, by simp only; omega⟩, hcell, hG5.size, fun g6 cap6 w6 hD6 hg6 => ?_⟩
  have hrow : ∀ q, Value.ownBlock (.slice ao es.length cp) = some q → w.heap.size ≤ q := fun q hq => (hD5.1.lt q hq).1
  have hT6 := hT5.kept hg6 (TBlk.row hT5 hD5)
  have hV6 := hV5.kept hg6 (TBlk.row hV5 hD5)
  have hO6 := hO5.kept hg6 (row_out hD5 hO5)
  have hR6 := hR5.kept hg6 (fun q hq => by have := hrow q hq; omega)
  have hG6 := grown_kept hG5 hg6 hrow
  have hgs := grown_setCell w6 T 2 (.slice (some ⟨g6, 0, none⟩) (es.length + 1) cap6)
  refine ⟨(TBlk.cells hT6).2.2, blk_frozen hT6 2, hT6.set2, hV6.kept hgs (by simp; omega), hO6.kept hgs (fun e => by injection e with e; exact out_ne hO6 hT6 (by decide) e.symm), DRow.other hD6 hgs (fun e => TBlk.row hT6 hD6 e) (DRow.ne hD6 hT6 (by decide)), hR6.grown hgs (by omega), grown_new hG6 hgs (by omega)⟩

theorem deed_flip {w wr : World} {T r M : Nat} {s0 : Int} {g n cap cp dg j : Nat} {es : List DE} {o : Obj} {z : Int}
    (HT : TBlk wr T s0 (.slice (some ⟨g, 0, none⟩) n cap) (.slice (some ⟨dg, 0, none⟩) es.length cp)) (HV : TBlk wr w.heap.size 0 (.slice none 0 0) (.slice none 0 0)) (HO : OutS wr w.heap.size g n cap) (HD : DRow wr w.heap.size (.slice (some ⟨dg, 0, none⟩) es.length cp) es) (HR : RdOk wr r M) (HG : w.grownBy wr (some r))
    (hlt : r < w.heap.size) (hj : j < es.length) (hz : -3 ≤ z ∧ z ≤ 600) (hF : ∀ i e, j ≤ i → es[i]? = some e → DE.few e) :
    let W := ((((((wr.setCell ⟨dg, j * 4, none⟩ (.slice (some ⟨wr.heap.size + 1, 0, none⟩) 1 1)).setCell ⟨dg, j * 4 + 1, none⟩ (.int .i64 0)).setCell ⟨dg, j * 4 + 2, none⟩ (.int .i64 0)).setCell ⟨dg, j * 4 + 3, none⟩ (.int .i64 z)).alloc o).alloc (.cells #[.int .i64 5] 3))
    let es' := es.set j ⟨some ⟨wr.heap.size + 1, 0, none⟩, 1, 1, 0, 0, z⟩
    TBlk W T s0 (.slice (some ⟨g, 0, none⟩) n cap) (.slice (some ⟨dg, 0, none⟩) es'.length cp) ∧ TBlk W w.heap.size 0 (.slice none 0 0) (.slice none 0 0) ∧ OutS W w.heap.size g n cap ∧ DRow W w.heap.size (.slice (some ⟨dg, 0, none⟩) es'.length cp) es' ∧ RdOk W r M ∧ w.grownBy W (some r) ∧ (∀ i e, j + 1 ≤ i → es'[i]? = some e → DE.few e) := by
  intro W es'
  have h4 := grown_trans (grown_trans (grown_trans (grown_setCell wr dg (j * 4) (.slice (some ⟨wr.heap.size + 1, 0, none⟩) 1 1)) (grown_setCell _ dg (j * 4 + 1) (.int .i64 0))) (grown_setCell _ dg (j * 4 + 2) (.int .i64 0))) (grown_setCell _ dg (j * 4 + 3) (.int .i64 z))
  have hW : wr.grownBy W (some dg) := grown_trans (grown_trans h4 (grown_alloc _ o _)) (grown_alloc _ _ _)
  obtain ⟨c, hc⟩ : ∃ c, wr.heap[dg]? = some (.cells c 46 (0, 0)) := by
    rcases row_shape HD.1 with ⟨h1, _⟩ | ⟨g', cap', c, h1, _, h2⟩
    · cases h1
    · injection h1 with e1; injection e1 with e1; injection e1 with e1; subst e1; exact ⟨c, h2⟩
  have hdg := HD.1.lt dg rfl
  have hlen : es'.length = es.length := List.length_set
  have hgr := HG.size
  have hnew : OutS W w.heap.size (wr.heap.size + 1) 1 1 := by
    have := OutS.new (w := ((((wr.setCell ⟨dg, j * 4, none⟩ (.slice (some ⟨wr.heap.size + 1, 0, none⟩) 1 1)).setCell ⟨dg, j * 4 + 1, none⟩ (.int .i64 0)).setCell ⟨dg, j * 4 + 2, none⟩ (.int .i64 0)).setCell ⟨dg, j * 4 + 3, none⟩ (.int .i64 z)).alloc o) (base := w.heap.size) [5] (i64_one (i64_of (by omega) (by omega))) (by simp [World.setCell]; omega) (by simp)
    have e : (((((wr.setCell ⟨dg, j * 4, none⟩ (.slice (some ⟨wr.heap.size + 1, 0, none⟩) 1 1)).setCell ⟨dg, j * 4 + 1, none⟩ (.int .i64 0)).setCell ⟨dg, j * 4 + 2, none⟩ (.int .i64 0)).setCell ⟨dg, j * 4 + 3, none⟩ (.int .i64 z)).alloc o).heap.size = wr.heap.size + 1 := by simp [World.setCell]
    rw [e] at this; exact this
  refine ⟨?_, HV.kept hW (fun e => by injection e with e; rw [e] at hc; rw [HV] at hc; injection hc with hc; injection hc with _ q _; exact absurd q (by decide)), HO.kept hW (fun e => by injection e with e; exact out_ne HO hc (by decide) e.symm), ⟨?_, fun x hx => ?_⟩, HR.grown hW (by omega), grown_new HG hW hdg.1, fun i e hi he => ?_⟩
  · rw [hlen]; exact HT.kept hW (TBlk.row HT HD)
  · rw [hlen]
    have hp := own_put4 (own_put4 (own_put4 (own_put4 HD.1 (j * 4) (.slice (some ⟨wr.heap.size + 1, 0, none⟩) 1 1)) (j * 4 + 1) (.int .i64 0)) (j * 4 + 2) (.int .i64 0)) (j * 4 + 3) (.int .i64 z)
    have hs := rowCells_set es j ⟨some ⟨wr.heap.size + 1, 0, none⟩, 1, 1, 0, 0, z⟩ hj
    simp only at hs
    rw [hs] at hp
    exact (hp.alloc o).alloc _
  · rcases List.mem_or_eq_of_mem_set hx with hx | rfl
    · exact (HD.2 x hx).other hW (DRow.ne HD hc (by decide) x hx)
    · exact ⟨.inr ⟨_, rfl, hnew⟩, by simp, by simp, by simp, by simpa using hz⟩
  · rw [List.getElem?_set_ne (by omega)] at he
    exact hF i e (by omega) he

theorem task_out {w wo : World} {r M : Nat} {s : Int} {g n cap l cp : Nat} {ao : Option Addr} {es : List DE}
    (HV : TBlk wo w.heap.size 0 (.slice none 0 0) (.slice none 0 0)) (HO : OutS wo w.heap.size g n cap) (HD : DRow wo w.heap.size (.slice ao l cp) es) (HR : RdOk wo r M) (HG : w.grownBy wo (some r)) (hlt : r < w.heap.size) :
    let W := ((wo.setCell ⟨w.heap.size, 0, none⟩ (.int .i64 s)).setCell ⟨w.heap.size, 1, none⟩ (.slice (some ⟨g, 0, none⟩) n cap)).setCell ⟨w.heap.size, 2, none⟩ (.slice ao l cp)
    OutS W w.heap.size g n cap ∧ DRow W w.heap.size (.slice ao l cp) es ∧ RdOk W r M ∧ w.grownBy W (some r) := by
  intro W
  have hW : wo.grownBy W (some w.heap.size) := grown_trans (grown_trans (grown_setCell wo w.heap.size 0 (.int .i64 s)) (grown_setCell _ w.heap.size 1 (.slice (some ⟨g, 0, none⟩) n cap))) (grown_setCell _ w.heap.size 2 (.slice ao l cp))
  exact ⟨HO.kept hW (fun e => by injection e with e; exact out_ne HO HV (by decide) e.symm), DRow.other HD hW (fun e => TBlk.row HV HD e) (DRow.ne HD HV (by decide)), HR.grown hW hlt, grown_new HG hW (Nat.le_refl _)⟩

/-- 'append(v, d)' as one operation of a plain region. -/
theorem wpList_appendD (w : World) {ops : Array Oper} {rest : List Oper} {o : Oper} {a : Act} {Q : Exit → Act → World → Prop} (hgd : o.guard = none) (s x : Operand)
    (ho : o.op = .call { callee := .builtin .append, args := #[s, x], argTypes := #[33, 33] })
    (base : Nat) (v : Value) (es : List DE) (d : DE) (B : Nat) (hs : a.eval s = v) (hx : a.eval x = .slice (some ⟨B, 0, none⟩) 1 1)
    (hown : DRow w base v es) (hd : d.ok w base) (hB : ∀ j u, d.cells[j]? = some u → w.cell? ⟨B, j, none⟩ = some u) (hn : es.length ≤ 1000) (hbase : base ≤ w.heap.size)
    (h : ∀ g cap w', DRow w' base (.slice (some ⟨g, 0, none⟩) (es.length + 1) cap) (es ++ [d]) → w.grownBy w' v.ownBlock → wpList Try.prog ops Q rest (a.put o.dst (.slice (some ⟨g, 0, none⟩) (es.length + 1) cap)) w') : wpList Try.prog ops Q (o :: rest) a w :=
  wpList_plain hgd fun _ hK => wp_appendD w s x ho base v es d B hs hx hown hd hB hn hbase fun g cap w' h2 h3 => hK _ _ (h g cap w' h2 h3)

set_option maxRecDepth 100000 in
set_option maxHeartbeats 4000000 in
theorem spec_l20Task (r N : Nat) (m : Int) (w : World) (h : RdOk w r N) (hN : N ≤ 800000) (hm : 0 ≤ m) (hm2 : m ≤ 1000) :
    Calls Try.prog 49 #[.pointer (some ⟨r, 0, none⟩), .int .i64 m] w fun e w' => ∃ s g n cap ao l cp es, e = .returned (.agg #[.int .i64 s, .slice (some ⟨g, 0, none⟩) n cap, .slice ao l cp]) ∧ -1 ≤ s ∧ s ≤ 32 ∧ n ≤ 6 ∧ OutS w' w.heap.size g n cap ∧ DRow w' w.heap.size (.slice ao l cp) es ∧ es.length ≤ 7 ∧ RdOk w' r (N + 400) ∧ w.grownBy w' (some r) := by
  have HR := hidI h; have hlt := h.lt; clear h
  go_enter Try.func49, Try.ntmps49
  go_wp2_with fail
  have HV := hidI (show TBlk (w.alloc (.cells #[.int .i64 0, .slice none 0 0, .slice none 0 0] 35)) w.heap.size 0 (.slice none 0 0) (.slice none 0 0) from heap_alloc_new w _)
  have HR := hidI (HR.out.below ((Below.refl _ _).alloc (Nat.le_refl _) (.cells #[.int .i64 0, .slice none 0 0, .slice none 0 0] 35)))
  have HG := hidI (grown_alloc w (.cells #[.int .i64 0, .slice none 0 0, .slice none 0 0] 35) (some r))
  have hsz0 : (w.alloc (.cells #[.int .i64 0, .slice none 0 0, .slice none 0 0] 35)).heap.size = w.heap.size + 1 := by simp
  obtain ⟨wv, hwv⟩ : ∃ wv, wv = w.alloc (.cells #[.int .i64 0, .slice none 0 0, .slice none 0 0] 35) := ⟨_, rfl⟩
  rw [← hwv] at HV HR HG hsz0 ⊢
  clear hwv
  go_fit (spec_pickI r N 32 wv HR.out (by omega) (by omega) (by omega)); rintro e w1 ⟨s0, rfl, hs0, hr, hg⟩
  have hs1 := hg.size
  have HV := hidI (HV.out.kept hg (by simp; omega)); have HR := hidI hr; have HG := hidI (grown_trans HG.out hg); clear hr hg
  go_wp2_with fail
  go_fit (spec_l20Need r (N + 1) w1 HR.out (by omega)); rintro e w2 ⟨g, n, cap, rfl, hn, ho, hr, hg⟩
  have hs2 := hg.size
  have HO := hidI (OutS.base ho (show w.heap.size ≤ w1.heap.size by omega))
  have HV := hidI (HV.out.kept hg (by simp; omega)); have HR := hidI hr; have HG := hidI (grown_trans HG.out hg); clear hr hg ho
  have HT := hidI (show TBlk (w2.alloc (.cells #[.int .i64 (s0 : Int), .slice (some ⟨g, 0, none⟩) n cap, .slice none 0 0] 35)) w2.heap.size s0 (.slice (some ⟨g, 0, none⟩) n cap) (.slice none 0 0) from heap_alloc_new w2 _)
  have HV := hidI (HV.out.kept (grown_alloc w2 (.cells #[.int .i64 (s0 : Int), .slice (some ⟨g, 0, none⟩) n cap, .slice none 0 0] 35) none) (by simp))
  have HO := hidI (HO.out.alloc (.cells #[.int .i64 (s0 : Int), .slice (some ⟨g, 0, none⟩) n cap, .slice none 0 0] 35))
  have HR := hidI (HR.out.below ((Below.refl _ _).alloc (Nat.le_refl _) (.cells #[.int .i64 (s0 : Int), .slice (some ⟨g, 0, none⟩) n cap, .slice none 0 0] 35)))
  have HG := hidI (grown_trans HG.out (grown_alloc w2 (.cells #[.int .i64 (s0 : Int), .slice (some ⟨g, 0, none⟩) n cap, .slice none 0 0] 35) (some r)))
  have HD := hidI (show DRow (w2.alloc (.cells #[.int .i64 (s0 : Int), .slice (some ⟨g, 0, none⟩) n cap, .slice none 0 0] 35)) w.heap.size (.slice none 0 0) [] from ⟨World.ownsRow_nil _ _ _ _, by simp⟩)
  obtain ⟨wT, hwT⟩ : ∃ wT, wT = w2.alloc (.cells #[.int .i64 (s0 : Int), .slice (some ⟨g, 0, none⟩) n cap, .slice none 0 0] 35) := ⟨_, rfl⟩
  obtain ⟨T, hTT⟩ : ∃ T, T = w2.heap.size := ⟨_, rfl⟩
  have hTw : w.heap.size + 1 ≤ T := by omega
  go_wp2_with fail
  rw [← hwT] at HT HV HO HR HG HD ⊢
  rw [← hTT] at HT
  try rw [← hTT]
  clear hwT hTT hs1 hs2 hsz0
  refine (spec_pickI r (N + 9) 2 _ HR.out (by omega) (by omega) (by omega)).mono ?_; rintro e w3 ⟨k3, rfl, hk3, rk3, gk3⟩
  have HT := hidI (HT.out.kept gk3 (by simp; omega)); have HV := hidI (HV.out.kept gk3 (by simp; omega)); have HO := hidI (HO.out.grown gk3 hlt); have HD := hidI (HD.out.low gk3 hlt); have HG := hidI (grown_trans HG.out gk3); have HR := hidI rk3; clear gk3 rk3
  go_upto_if 16 with fail
  go_cut [] from 9 (fun wx => ∃ g n cap M : Nat, M ≤ N + 13 ∧ n ≤ 6 ∧ Hid (TBlk wx T s0 (.slice (some ⟨g, 0, none⟩) n cap) (.slice none 0 0)) ∧ Hid (TBlk wx w.heap.size 0 (.slice none 0 0) (.slice none 0 0)) ∧ Hid (OutS wx w.heap.size g n cap) ∧ Hid (DRow wx w.heap.size (.slice none 0 0) []) ∧ Hid (RdOk wx r M) ∧ Hid (w.grownBy wx (some r)))
  case first =>
    obtain ⟨t0, t1, t2⟩ := TBlk.cells HT.out
    rcases Nat.eq_zero_or_pos k3 with rfl | hp3
    · go_wp2_with fail
      refine (spec_pickI r (N + 10) 5 _ HR.out (by omega) (by omega) (by omega)).mono ?_; rintro e wa ⟨ka, rfl, hka, rka, gka⟩
      have HT := hidI (HT.out.kept gka (by simp; omega)); have HV := hidI (HV.out.kept gka (by simp; omega)); have HO := hidI (HO.out.grown gka hlt); have HD := hidI (HD.out.low gka hlt); have HG := hidI (grown_trans HG.out gka)
      have HR := hidI rka; clear gka rka
      go_wp2_with fail
      refine (spec_pickI r (N + 11) 5 _ HR.out (by omega) (by omega) (by omega)).mono ?_; rintro e wb ⟨kb, rfl, hkb, rkb, gkb⟩
      have HT := hidI (HT.out.kept gkb (by simp; omega)); have HV := hidI (HV.out.kept gkb (by simp; omega)); have HO := hidI (HO.out.grown gkb hlt); have HD := hidI (HD.out.low gkb hlt); have HG := hidI (grown_trans HG.out gkb)
      have HR := hidI rkb; clear gkb rkb
      go_wp2_with fail
      refine (spec_pickI r (N + 12) 5 _ HR.out (by omega) (by omega) (by omega)).mono ?_; rintro e wc0 ⟨kc, rfl, hkc, rkc, gkc⟩
      have HT := hidI (HT.out.kept gkc (by simp; omega)); have HV := hidI (HV.out.kept gkc (by simp; omega)); have HO := hidI (HO.out.grown gkc hlt); have HD := hidI (HD.out.low gkc hlt); have HG := hidI (grown_trans HG.out gkc)
      have HR := hidI rkc; clear gkc rkc t0 t1 t2
      have hbs := HG.out.size
      have HN := hidI (OutS.new (w := wc0) (base := w.heap.size) [(ka : Int), kb, 8, kc, 7, 8] (by intro z hz; simp only [List.mem_cons, List.not_mem_nil, or_false] at hz; rcases hz with rfl | rfl | rfl | rfl | rfl | rfl <;> unfold I64 <;> omega) hbs (by simp))
      have hga := grown_alloc wc0 (.cells #[.int .i64 (ka : Int), .int .i64 (kb : Int), .int .i64 8, .int .i64 (kc : Int), .int .i64 7, .int .i64 8] 3) (some r)
      have HT := hidI (HT.out.kept hga (by simp; omega)); have HV := hidI (HV.out.kept hga (by simp; omega)); have HO := hidI (HO.out.grown hga hlt); have HD := hidI (HD.out.low hga hlt); have HG := hidI (grown_trans HG.out hga)
      have HR := hidI (HR.out.below ((Below.refl _ _).alloc (Nat.le_refl _) (.cells #[.int .i64 (ka : Int), .int .i64 (kb : Int), .int .i64 8, .int .i64 (kc : Int), .int .i64 7, .int .i64 8] 3)))
      obtain ⟨t0, t1, t2⟩ := TBlk.cells HT.out
      have tz1 := blk_frozen HT.out 1
      have hgs := grown_setCell (wc0.alloc (.cells #[.int .i64 (ka : Int), .int .i64 (kb : Int), .int .i64 8, .int .i64 (kc : Int), .int .i64 7, .int .i64 8] 3)) T 1 (.slice (some ⟨wc0.heap.size, 0, none⟩) 6 6)
      have HN := hidI (OutS.kept HN.out hgs (fun e => by injection e with e; exact out_ne HN.out HT.out (by decide) e.symm))
      have HV := hidI (HV.out.kept hgs (by simp; omega)); have HD := hidI (DRow.other HD.out hgs (fun e => TBlk.row HT.out HD.out e) (DRow.ne HD.out HT.out (by decide))); have HR := hidI (HR.out.grown hgs (by omega)); have HG := hidI (grown_new HG.out hgs (by omega)); have HT := hidI (TBlk.set1 (u := .slice (some ⟨wc0.heap.size, 0, none⟩) 6 6) HT.out)
      clear hga hgs hbs
      go_wp2_with fail
      go_meet
      case rel => exact ⟨wc0.heap.size, 6, 6, N + 13, by omega, by omega, HT, HV, HN, HD, HR, HG⟩
    · go_wp2_with fail
      go_meet
      case rel => exact ⟨g, n, cap, N + 10, by omega, by omega, HT, HV, HO, HD, HR, HG⟩
  case rest =>
    clear HT HV HO HD HR HG hn
    obtain ⟨g, n, cap, M0, hM0, hn, HT, HV, HO, HD, HR, HG⟩ := hcut
    obtain ⟨t0, t1, t2⟩ := TBlk.cells HT.out
    go_wp2_with fail
    refine (spec_pickI r M0 7 _ HR.out (by omega) (by omega) (by omega)).mono ?_; rintro e w4 ⟨K, rfl, hK, r4, g4⟩
    have HT := hidI (HT.out.kept g4 (by simp; omega)); have HV := hidI (HV.out.kept g4 (by simp; omega)); have HO := hidI (HO.out.grown g4 hlt); have HD := hidI (HD.out.low g4 hlt); have HG := hidI (grown_trans HG.out g4)
    have HR := hidI r4; clear g4 r4
    go_wp2_with fail
    go_loopw [6] (fun i wr => ∃ (k M cp : Nat) (ao : Option Addr) (es : List DE), i = .int .i64 k ∧ k + es.length ≤ 6 ∧ M + 20 * k ≤ N + 150 ∧ Hid (TBlk wr T s0 (.slice (some ⟨g, 0, none⟩) n cap) (.slice ao es.length cp)) ∧ Hid (TBlk wr w.heap.size 0 (.slice none 0 0) (.slice none 0 0)) ∧ Hid (OutS wr w.heap.size g n cap) ∧ Hid (DRow wr w.heap.size (.slice ao es.length cp) es) ∧ Hid (RdOk wr r M) ∧ Hid (w.grownBy wr (some r)) ∧ Hid (∀ e ∈ es, DE.few e)) (fun i _ => (intOf i).toNat)
    case atStart => exact ⟨K, M0 + 1, 0, none, [], rfl, by simp; omega, by omega, HT, HV, HO, HD, HR, HG, hidI (by simp)⟩
    case round =>
      clear HT HV HO HD HR HG t0 t1 t2
      obtain ⟨k, M, cp, ao, es, rfl, hkl, hM, HT, HV, HO, HD, HR, HG, HF⟩ := hrel
      obtain ⟨t0, t1, t2⟩ := TBlk.cells HT.out
      rcases Nat.eq_zero_or_pos k with rfl | hk1
      rotate_left
      · have hk2 : (0 : Int) < k := by omega
        have tf2 := blk_frozen HT.out 2
        go_wp2_with fail
        have J1 := hidI hkl; have J2 := hidI hM; have J4 := hidI hTw; have J5 := hidI hlt; have J6 := hidI hN; have J7 := hidI (show M ≤ 840000 by omega); have J8 := hidI hk1
        have HTd := hidI (show TBlk wr.drew T s0 (.slice (some ⟨g, 0, none⟩) n cap) (.slice ao es.length cp) from HT.out)
        have HVd := hidI (show TBlk wr.drew w.heap.size 0 (.slice none 0 0) (.slice none 0 0) from HV.out)
        have HOd := hidI (HO.out.kept (row := none) (show wr.grownBy wr.drew none from ⟨rfl, rfl, rfl, Nat.le_refl _, fun _ _ _ => rfl⟩) (by simp))
        have HDd := hidI (HD.out.low (show wr.grownBy wr.drew (some r) from ⟨rfl, rfl, rfl, Nat.le_refl _, fun _ _ _ => rfl⟩) hlt)
        have HGd := hidI (grown_trans HG.out (show wr.grownBy wr.drew (some r) from ⟨rfl, rfl, rfl, Nat.le_refl _, fun _ _ _ => rfl⟩))
        have HR1 := hidI (HR.out.below (Below.refl wr.heap.size wr).drew)
        clear hkl hM hTw hlt hN hk1 hm hm2 hn hs0 hK
        have HZ := hidI (fun (w5 : World) (gd nd cd : Nat) (a b c : Int) (hnd : nd ≤ 4) (hod : OutS w5 wr.drew.heap.size gd nd cd) (hfa : Few a) (hfb : Few b) (hfc : Few c) (hrd : RdOk w5 r (M + 20)) (hgd : wr.drew.grownBy w5 (some r)) => deed_row HTd.out HVd.out HOd.out HDd.out HGd.out J4.out J5.out hnd hod hfa hfb hfc hrd hgd)
        have HZ2 := hidI (fun (w5 : World) (o : Obj) (hgd : wr.drew.grownBy w5 (some r)) => deed_cell HTd.out J4.out J5.out hgd o)
        go_region_law (first | (rw [if_pos (by rfl)]; go_simp; go_at_call 73; refine (spec_l20Deed r M 0 _ HR1.out J7.out (by decide) (by decide)).mono ?_; rintro e w5 ⟨gd, nd, cd, a, b, c, rfl, hnd, hod, hfa, hfb, hfc, hrd, hgd⟩; have Z := hidI (HZ.out w5 gd nd cd a b c hnd hod hfa hfb hfc hrd hgd); obtain ⟨y1, y2⟩ := HZ2.out w5 (.cells #[.slice (some ⟨gd, 0, none⟩) nd cd, .int .i64 a, .int .i64 b, .int .i64 c] 46) hgd; have HFD := hidI (show Few a ∧ Few b ∧ Few c from ⟨hfa, hfb, hfc⟩); clear hnd hod hfa hfb hfc hrd hgd; dsimp only) | (refine step_appendD rfl _ _ rfl w.heap.size (.slice ao es.length cp) es ⟨some ⟨gd, 0, none⟩, nd, cd, a, b, c⟩ w5.heap.size rfl rfl Z.out.1 Z.out.2.1 Z.out.2.2.1 (by have := J1.out; omega) Z.out.2.2.2.1 ?_; intro g6 cap6 w6 hD6 hg6; have Y := hidI (Z.out.2.2.2.2 g6 cap6 w6 hD6 hg6); have t26 := Y.out.1; have tf6 := Y.out.2.1; clear hD6 hg6))
        all_goals
          have hkl := J1.out; have hM := J2.out; have hk1 := J8.out
          go_wp2_with fail
          go_roundw
          case rel => exact ⟨k - 1, M + 20, cap6, some ⟨g6, 0, none⟩, es ++ [⟨some ⟨gd, 0, none⟩, nd, cd, a, b, c⟩], by go_num, by simp; omega, by omega, hidI (by rw [List.length_append]; exact Y.out.2.2.1), hidI Y.out.2.2.2.1, hidI Y.out.2.2.2.2.1, hidI (by rw [List.length_append]; exact Y.out.2.2.2.2.2.1), hidI Y.out.2.2.2.2.2.2.1, hidI Y.out.2.2.2.2.2.2.2, hidI (few_app HF.out HFD.out)⟩
          case measure => simp [intOf]; omega
      · have hM9 : M ≤ N + 150 := by omega
        have hel : es.length ≤ 6 := by omega
        clear hM hkl
        go_wp2_with fail
        refine (spec_pickI r M 4 _ HR.out (by omega) (by omega) (by omega)).mono ?_; rintro e w5 ⟨k5, rfl, hk5, r5, g5⟩
        have HT := hidI (HT.out.kept g5 (by simp; omega)); have HV := hidI (HV.out.kept g5 (by simp; omega)); have HO := hidI (HO.out.grown g5 hlt); have HD := hidI (HD.out.low g5 hlt); have HG := hidI (grown_trans HG.out g5)
        have HR := hidI r5; clear g5 r5 t0 t1 t2
        obtain ⟨t0, t1, t2⟩ := TBlk.cells HT.out
        rcases Nat.eq_zero_or_pos k5 with rfl | hp5
        rotate_left
        · go_wp2_with fail
          refine (spec_odd r (M + 1) m _ HR.out (by omega) hm (by omega)).mono ?_; rintro e wo ⟨b, rfl, ro, go, _⟩
          have HT := hidI (HT.out.kept go (by simp; omega)); have HV := hidI (HV.out.kept go (by simp; omega)); have HO := hidI (HO.out.grown go hlt); have HD := hidI (HD.out.low go hlt); have HG := hidI (grown_trans HG.out go)
          have HR := hidI ro; clear go ro t0 t1 t2
          cases b
          · obtain ⟨t0, t1, t2⟩ := TBlk.cells HT.out
            obtain ⟨v0, v1, v2⟩ := TBlk.cells HV.out
            have z0 := blk_frozen HV.out 0; have z1 := blk_frozen HV.out 1; have z2 := blk_frozen HV.out 2
            go_wp2_with fail
            refine bodyPost_ret (v := .agg #[.int .i64 (s0 : Int), .slice (some ⟨g, 0, none⟩) n cap, .slice ao es.length cp]) (by simp [results, Try.results49, go_sem, v0, v1, v2]) rfl ?_
            have hto := task_out (s := (s0 : Int)) HV.out HO.out HD.out HR.out HG.out hlt
            exact ⟨_, _, _, _, _, _, _, _, rfl, by omega, by omega, by omega, hto.1, hto.2.1, by first | omega | (simp; omega), hto.2.2.1.mono (by omega), hto.2.2.2⟩
          go_wp2_with fail
          refine (spec_pickI r ((M + 1) + 1) 3 _ HR.out (by omega) (by omega) (by omega)).mono ?_; rintro e wp ⟨kp, rfl, hkp, rp, gp⟩
          have HT := hidI (HT.out.kept gp (by simp; omega)); have HV := hidI (HV.out.kept gp (by simp; omega)); have HO := hidI (HO.out.grown gp hlt); have HD := hidI (HD.out.low gp hlt); have HG := hidI (grown_trans HG.out gp)
          have HR := hidI rp; clear gp rp
          obtain ⟨t0, t1, t2⟩ := TBlk.cells HT.out
          have tz0 := blk_frozen HT.out 0; have tz1 := blk_frozen HT.out 1; have tz2 := blk_frozen HT.out 2
          rcases Nat.lt_or_ge kp 1 with q0 | q0
          · obtain rfl : kp = 0 := by omega
            have hga := grown_alloc wp (.cells #[.int .i64 (-1), .int .i64 32] 3) (some r)
            have hP := heap_alloc_new wp (.cells #[.int .i64 (-1), .int .i64 32] 3)
            have hPr : r < wp.heap.size := Nat.lt_of_lt_of_le hlt HG.out.size
            have HT := hidI (HT.out.kept hga (by simp; omega)); have HV := hidI (HV.out.kept hga (by simp; omega)); have HO := hidI (HO.out.grown hga hlt); have HD := hidI (HD.out.low hga hlt); have HG := hidI (grown_trans HG.out hga)
            have HR := hidI (HR.out.below ((Below.refl _ _).alloc (Nat.le_refl _) (.cells #[.int .i64 (-1), .int .i64 32] 3)))
            have HP := hidI hP; clear hga hP
            go_wp2_with fail
            refine (spec_pickI r ((M + 1) + 2) 2 _ HR.out (by omega) (by omega) (by omega)).mono ?_; rintro e wq ⟨kq, rfl, hkq, rq, gq⟩
            have HT := hidI (HT.out.kept gq (by simp; omega)); have HV := hidI (HV.out.kept gq (by simp; omega)); have HO := hidI (HO.out.grown gq hlt); have HD := hidI (HD.out.low gq hlt); have HG := hidI (grown_trans HG.out gq)
            have HR := hidI rq
            have hP := (gq.block wp.heap.size (by simp) (by simp; omega)).trans HP.out
            clear gq rq t0 t1 t2 tz0 tz1 tz2
            obtain ⟨t0, t1, t2⟩ := TBlk.cells HT.out
            have tz0 := blk_frozen HT.out 0
            have p0 : wq.cell? ⟨wp.heap.size, 0, none⟩ = some (.int .i64 (-1)) := (blk_cell hP 0).trans rfl
            have p1 : wq.cell? ⟨wp.heap.size, 1, none⟩ = some (.int .i64 32) := (blk_cell hP 1).trans rfl
            clear hP
            obtain rfl | rfl : kq = 0 ∨ kq = 1 := by omega
            · have hgs := grown_setCell wq T 0 (.int .i64 (-1))
              have HO := hidI (HO.out.kept hgs (fun e => by injection e with e; exact out_ne HO.out HT.out (by decide) e.symm)); have HV := hidI (HV.out.kept hgs (by simp; omega)); have HD := hidI (DRow.other HD.out hgs (fun e => TBlk.row HT.out HD.out e) (DRow.ne HD.out HT.out (by decide))); have HR := hidI (HR.out.grown hgs (by omega)); have HG := hidI (grown_new HG.out hgs (by omega)); have HT := hidI (TBlk.set0 (x := (-1)) HT.out)
              clear hgs
              obtain ⟨t0, t1, t2⟩ := TBlk.cells HT.out
              obtain ⟨v0, v1, v2⟩ := TBlk.cells HV.out
              have z0 := blk_frozen HV.out 0; have z1 := blk_frozen HV.out 1; have z2 := blk_frozen HV.out 2
              go_wp2_with fail
              refine bodyPost_ret (v := .agg #[.int .i64 (-1), .slice (some ⟨g, 0, none⟩) n cap, .slice ao es.length cp]) (by simp [results, Try.results49, go_sem, v0, v1, v2]) rfl ?_
              have hto := task_out (s := (-1)) HV.out HO.out HD.out HR.out HG.out hlt
              exact ⟨_, _, _, _, _, _, _, _, rfl, by omega, by omega, by omega, hto.1, hto.2.1, by first | omega | (simp; omega), hto.2.2.1.mono (by omega), hto.2.2.2⟩
            · have hgs := grown_setCell wq T 0 (.int .i64 32)
              have HO := hidI (HO.out.kept hgs (fun e => by injection e with e; exact out_ne HO.out HT.out (by decide) e.symm)); have HV := hidI (HV.out.kept hgs (by simp; omega)); have HD := hidI (DRow.other HD.out hgs (fun e => TBlk.row HT.out HD.out e) (DRow.ne HD.out HT.out (by decide))); have HR := hidI (HR.out.grown hgs (by omega)); have HG := hidI (grown_new HG.out hgs (by omega)); have HT := hidI (TBlk.set0 (x := 32) HT.out)
              clear hgs
              obtain ⟨t0, t1, t2⟩ := TBlk.cells HT.out
              obtain ⟨v0, v1, v2⟩ := TBlk.cells HV.out
              have z0 := blk_frozen HV.out 0; have z1 := blk_frozen HV.out 1; have z2 := blk_frozen HV.out 2
              go_wp2_with fail
              refine bodyPost_ret (v := .agg #[.int .i64 32, .slice (some ⟨g, 0, none⟩) n cap, .slice ao es.length cp]) (by simp [results, Try.results49, go_sem, v0, v1, v2]) rfl ?_
              have hto := task_out (s := 32) HV.out HO.out HD.out HR.out HG.out hlt
              exact ⟨_, _, _, _, _, _, _, _, rfl, by omega, by omega, by omega, hto.1, hto.2.1, by first | omega | (simp; omega), hto.2.2.1.mono (by omega), hto.2.2.2⟩
          rcases Nat.lt_or_ge kp 2 with q1 | q1
          · obtain rfl : kp = 1 := by omega
            have hga := grown_alloc wp (.cells #[] 3) (some r)
            have hbs := HG.out.size
            have HT := hidI (HT.out.kept hga (by simp; omega)); have HV := hidI (HV.out.kept hga (by simp; omega)); have HO := hidI (HO.out.grown hga hlt); have HD := hidI (HD.out.low hga hlt); have HG := hidI (grown_trans HG.out hga)
            have HR := hidI (HR.out.below ((Below.refl _ _).alloc (Nat.le_refl _) (.cells #[] 3)))
            obtain ⟨y0, y1, y2⟩ := TBlk.cells HT.out
            have yz := blk_frozen HT.out 1
            have HN := hidI (OutS.new (w := wp) (base := w.heap.size) [] (by simp) hbs (by simp))
            have hgs := grown_setCell (wp.alloc (.cells #[] 3)) T 1 (.slice (some ⟨wp.heap.size, 0, none⟩) 0 0)
            have HN := hidI (OutS.kept HN.out hgs (fun e => by injection e with e; exact out_ne HN.out HT.out (by decide) e.symm))
            have HV := hidI (HV.out.kept hgs (by simp; omega)); have HD := hidI (DRow.other HD.out hgs (fun e => TBlk.row HT.out HD.out e) (DRow.ne HD.out HT.out (by decide))); have HR := hidI (HR.out.grown hgs (by omega)); have HG := hidI (grown_new HG.out hgs (by omega)); have HT := hidI (TBlk.set1 (u := .slice (some ⟨wp.heap.size, 0, none⟩) 0 0) HT.out)
            have HO := HN
            clear hga hgs hbs
            obtain ⟨t0, t1, t2⟩ := TBlk.cells HT.out
            obtain ⟨v0, v1, v2⟩ := TBlk.cells HV.out
            have z0 := blk_frozen HV.out 0; have z1 := blk_frozen HV.out 1; have z2 := blk_frozen HV.out 2
            go_wp2_with fail
            refine bodyPost_ret (v := .agg #[.int .i64 (s0 : Int), .slice (some ⟨wp.heap.size, 0, none⟩) 0 0, .slice ao es.length cp]) (by simp [results, Try.results49, go_sem, v0, v1, v2]) rfl ?_
            have hto := task_out (s := (s0 : Int)) HV.out HO.out HD.out HR.out HG.out hlt
            exact ⟨_, _, _, _, _, _, _, _, rfl, by omega, by omega, by omega, hto.1, hto.2.1, by first | omega | (simp; omega), hto.2.2.1.mono (by omega), hto.2.2.2⟩
          · have q2 : (2 : Int) ≤ kp := by omega
            have hga := grown_alloc wp (.cells #[.slice none 0 0, .int .i64 0, .int .i64 0, .int .i64 0] 46) (some r)
            have hbs := HG.out.size
            have HT := hidI (HT.out.kept hga (by simp; omega)); have HV := hidI (HV.out.kept hga (by simp; omega)); have HO := hidI (HO.out.grown hga hlt); have HD := hidI (HD.out.low hga hlt); have HG := hidI (grown_trans HG.out hga)
            have HR := hidI (HR.out.below ((Below.refl _ _).alloc (Nat.le_refl _) (.cells #[.slice none 0 0, .int .i64 0, .int .i64 0, .int .i64 0] 46)))
            have hd0 : DE.ok (wp.alloc (.cells #[.slice none 0 0, .int .i64 0, .int .i64 0, .int .i64 0] 46)) w.heap.size ⟨none, 0, 0, 0, 0, 0⟩ := ⟨.inl ⟨rfl, rfl, rfl⟩, by simp, by simp, by simp, by simp⟩
            have hcl : ∀ j u, (DE.cells ⟨none, 0, 0, 0, 0, 0⟩)[j]? = some u → (wp.alloc (.cells #[.slice none 0 0, .int .i64 0, .int .i64 0, .int .i64 0] 46)).cell? ⟨wp.heap.size, j, none⟩ = some u := by intro j u hj; rw [cell_new]; simpa [DE.cells] using hj
            have hbs2 : w.heap.size ≤ (wp.alloc (.cells #[.slice none 0 0, .int .i64 0, .int .i64 0, .int .i64 0] 46)).heap.size := by simp; omega
            have hn1000 : es.length ≤ 1000 := by omega
            have HX := hidI hd0; have HY := hidI hcl
            clear hd0 hcl hga
            go_wp2_with (at_builtin; refine wpList_appendD _ rfl _ _ rfl w.heap.size _ es ⟨none, 0, 0, 0, 0, 0⟩ _ rfl rfl HD.out HX.out HY.out hn1000 hbs2 ?_)
            intro g6 cap6 w6 hD6 hg6
            have hrow : ∀ q, Value.ownBlock (.slice ao es.length cp) = some q → w.heap.size ≤ q := fun q hq => (HD.out.1.lt q hq).1
            have HV := hidI (HV.out.kept hg6 (TBlk.row HV.out HD.out)); have HO := hidI (HO.out.kept hg6 (row_out HD.out HO.out)); have HR := hidI (HR.out.kept hg6 (fun q hq => by have := hrow q hq; omega)); have HG := hidI (grown_kept HG.out hg6 hrow); have HT := hidI (HT.out.kept hg6 (TBlk.row HT.out HD.out)); have HD := hidI hD6
            clear hrow hg6 hD6 t0 t1 t2 tz0 tz1 tz2
            obtain ⟨t0, t1, t2⟩ := TBlk.cells HT.out
            have tz2 := blk_frozen HT.out 2
            have hgs := grown_setCell w6 T 2 (.slice (some ⟨g6, 0, none⟩) (es.length + 1) cap6)
            have HO := hidI (HO.out.kept hgs (fun e => by injection e with e; exact out_ne HO.out HT.out (by decide) e.symm)); have HV := hidI (HV.out.kept hgs (by simp; omega)); have HD := hidI (DRow.other HD.out hgs (fun e => TBlk.row HT.out HD.out e) (DRow.ne HD.out HT.out (by decide))); have HR := hidI (HR.out.grown hgs (by omega)); have HG := hidI (grown_new HG.out hgs (by omega)); have HT := hidI (TBlk.set2 (u := .slice (some ⟨g6, 0, none⟩) (es.length + 1) cap6) HT.out)
            clear hgs
            obtain ⟨t0, t1, t2⟩ := TBlk.cells HT.out
            obtain ⟨v0, v1, v2⟩ := TBlk.cells HV.out
            have z0 := blk_frozen HV.out 0; have z1 := blk_frozen HV.out 1; have z2 := blk_frozen HV.out 2
            go_wp2_with fail
            refine bodyPost_ret (v := .agg #[.int .i64 (s0 : Int), .slice (some ⟨g, 0, none⟩) n cap, .slice (some ⟨g6, 0, none⟩) (es.length + 1) cap6]) (by simp [results, Try.results49, go_sem, v0, v1, v2]) rfl ?_
            have hto := task_out (s := (s0 : Int)) HV.out HO.out HD.out HR.out HG.out hlt
            exact ⟨_, _, _, _, _, _, _, _, rfl, by omega, by omega, by omega, hto.1, hto.2.1, by first | omega | (simp; omega), hto.2.2.1.mono (by omega), hto.2.2.2⟩
        go_wp2_with fail
        go_loopw [7] (fun i wr => ∃ (j cp : Nat) (ao : Option Addr) (es : List DE), i = .int .i64 j ∧ j ≤ es.length ∧ es.length ≤ 6 ∧ Hid (TBlk wr T s0 (.slice (some ⟨g, 0, none⟩) n cap) (.slice ao es.length cp)) ∧ Hid (TBlk wr w.heap.size 0 (.slice none 0 0) (.slice none 0 0)) ∧ Hid (OutS wr w.heap.size g n cap) ∧ Hid (DRow wr w.heap.size (.slice ao es.length cp) es) ∧ Hid (RdOk wr r (M + 1)) ∧ Hid (w.grownBy wr (some r)) ∧ Hid (∀ i e, j ≤ i → es[i]? = some e → DE.few e)) (fun i _ => 6 - (intOf i).toNat)
        case atStart => exact ⟨0, cp, ao, es, rfl, by omega, hel, HT, HV, HO, HD, HR, HG, hidI (fun i e _ he => HF.out e (List.mem_of_getElem? he))⟩
        case round =>
          clear HT HV HO HD HR HG HF t0 t1 t2 hel
          obtain ⟨j, cp, ao, es, rfl, hj, hel, HT, HV, HO, HD, HR, HG, HF⟩ := hrel
          obtain ⟨t0, t1, t2⟩ := TBlk.cells HT.out
          rcases Nat.lt_or_ge j es.length with hj2 | hj2
          rotate_left
          · obtain rfl : j = es.length := by omega
            go_wp2_with fail
            refine (spec_odd r (M + 1) m _ HR.out (by omega) hm (by omega)).mono ?_; rintro e wo ⟨b, rfl, ro, go, _⟩
            have HT := hidI (HT.out.kept go (by simp; omega)); have HV := hidI (HV.out.kept go (by simp; omega)); have HO := hidI (HO.out.grown go hlt); have HD := hidI (HD.out.low go hlt); have HG := hidI (grown_trans HG.out go)
            have HR := hidI ro; clear go ro t0 t1 t2
            cases b
            · obtain ⟨t0, t1, t2⟩ := TBlk.cells HT.out
              obtain ⟨v0, v1, v2⟩ := TBlk.cells HV.out
              have z0 := blk_frozen HV.out 0; have z1 := blk_frozen HV.out 1; have z2 := blk_frozen HV.out 2
              go_wp2_with fail
              refine bodyPost_ret (v := .agg #[.int .i64 (s0 : Int), .slice (some ⟨g, 0, none⟩) n cap, .slice ao es.length cp]) (by simp [results, Try.results49, go_sem, v0, v1, v2]) rfl ?_
              have hto := task_out (s := (s0 : Int)) HV.out HO.out HD.out HR.out HG.out hlt
              exact ⟨_, _, _, _, _, _, _, _, rfl, by omega, by omega, by omega, hto.1, hto.2.1, by first | omega | (simp; omega), hto.2.2.1.mono (by omega), hto.2.2.2⟩
            go_wp2_with fail
            refine (spec_pickI r ((M + 1) + 1) 3 _ HR.out (by omega) (by omega) (by omega)).mono ?_; rintro e wp ⟨kp, rfl, hkp, rp, gp⟩
            have HT := hidI (HT.out.kept gp (by simp; omega)); have HV := hidI (HV.out.kept gp (by simp; omega)); have HO := hidI (HO.out.grown gp hlt); have HD := hidI (HD.out.low gp hlt); have HG := hidI (grown_trans HG.out gp)
            have HR := hidI rp; clear gp rp
            obtain ⟨t0, t1, t2⟩ := TBlk.cells HT.out
            have tz0 := blk_frozen HT.out 0; have tz1 := blk_frozen HT.out 1; have tz2 := blk_frozen HT.out 2
            rcases Nat.lt_or_ge kp 1 with q0 | q0
            · obtain rfl : kp = 0 := by omega
              have hga := grown_alloc wp (.cells #[.int .i64 (-1), .int .i64 32] 3) (some r)
              have hP := heap_alloc_new wp (.cells #[.int .i64 (-1), .int .i64 32] 3)
              have hPr : r < wp.heap.size := Nat.lt_of_lt_of_le hlt HG.out.size
              have HT := hidI (HT.out.kept hga (by simp; omega)); have HV := hidI (HV.out.kept hga (by simp; omega)); have HO := hidI (HO.out.grown hga hlt); have HD := hidI (HD.out.low hga hlt); have HG := hidI (grown_trans HG.out hga)
              have HR := hidI (HR.out.below ((Below.refl _ _).alloc (Nat.le_refl _) (.cells #[.int .i64 (-1), .int .i64 32] 3)))
              have HP := hidI hP; clear hga hP
              go_wp2_with fail
              refine (spec_pickI r ((M + 1) + 2) 2 _ HR.out (by omega) (by omega) (by omega)).mono ?_; rintro e wq ⟨kq, rfl, hkq, rq, gq⟩
              have HT := hidI (HT.out.kept gq (by simp; omega)); have HV := hidI (HV.out.kept gq (by simp; omega)); have HO := hidI (HO.out.grown gq hlt); have HD := hidI (HD.out.low gq hlt); have HG := hidI (grown_trans HG.out gq)
              have HR := hidI rq
              have hP := (gq.block wp.heap.size (by simp) (by simp; omega)).trans HP.out
              clear gq rq t0 t1 t2 tz0 tz1 tz2
              obtain ⟨t0, t1, t2⟩ := TBlk.cells HT.out
              have tz0 := blk_frozen HT.out 0
              have p0 : wq.cell? ⟨wp.heap.size, 0, none⟩ = some (.int .i64 (-1)) := (blk_cell hP 0).trans rfl
              have p1 : wq.cell? ⟨wp.heap.size, 1, none⟩ = some (.int .i64 32) := (blk_cell hP 1).trans rfl
              clear hP
              obtain rfl | rfl : kq = 0 ∨ kq = 1 := by omega
              · have hgs := grown_setCell wq T 0 (.int .i64 (-1))
                have HO := hidI (HO.out.kept hgs (fun e => by injection e with e; exact out_ne HO.out HT.out (by decide) e.symm)); have HV := hidI (HV.out.kept hgs (by simp; omega)); have HD := hidI (DRow.other HD.out hgs (fun e => TBlk.row HT.out HD.out e) (DRow.ne HD.out HT.out (by decide))); have HR := hidI (HR.out.grown hgs (by omega)); have HG := hidI (grown_new HG.out hgs (by omega)); have HT := hidI (TBlk.set0 (x := (-1)) HT.out)
                clear hgs
                obtain ⟨t0, t1, t2⟩ := TBlk.cells HT.out
                obtain ⟨v0, v1, v2⟩ := TBlk.cells HV.out
                have z0 := blk_frozen HV.out 0; have z1 := blk_frozen HV.out 1; have z2 := blk_frozen HV.out 2
                go_wp2_with fail
                refine bodyPost_ret (v := .agg #[.int .i64 (-1), .slice (some ⟨g, 0, none⟩) n cap, .slice ao es.length cp]) (by simp [results, Try.results49, go_sem, v0, v1, v2]) rfl ?_
                have hto := task_out (s := (-1)) HV.out HO.out HD.out HR.out HG.out hlt
                exact ⟨_, _, _, _, _, _, _, _, rfl, by omega, by omega, by omega, hto.1, hto.2.1, by first | omega | (simp; omega), hto.2.2.1.mono (by omega), hto.2.2.2⟩
              · have hgs := grown_setCell wq T 0 (.int .i64 32)
                have HO := hidI (HO.out.kept hgs (fun e => by injection e with e; exact out_ne HO.out HT.out (by decide) e.symm)); have HV := hidI (HV.out.kept hgs (by simp; omega)); have HD := hidI (DRow.other HD.out hgs (fun e => TBlk.row HT.out HD.out e) (DRow.ne HD.out HT.out (by decide))); have HR := hidI (HR.out.grown hgs (by omega)); have HG := hidI (grown_new HG.out hgs (by omega)); have HT := hidI (TBlk.set0 (x := 32) HT.out)
                clear hgs
                obtain ⟨t0, t1, t2⟩ := TBlk.cells HT.out
                obtain ⟨v0, v1, v2⟩ := TBlk.cells HV.out
                have z0 := blk_frozen HV.out 0; have z1 := blk_frozen HV.out 1; have z2 := blk_frozen HV.out 2
                go_wp2_with fail
                refine bodyPost_ret (v := .agg #[.int .i64 32, .slice (some ⟨g, 0, none⟩) n cap, .slice ao es.length cp]) (by simp [results, Try.results49, go_sem, v0, v1, v2]) rfl ?_
                have hto := task_out (s := 32) HV.out HO.out HD.out HR.out HG.out hlt
                exact ⟨_, _, _, _, _, _, _, _, rfl, by omega, by omega, by omega, hto.1, hto.2.1, by first | omega | (simp; omega), hto.2.2.1.mono (by omega), hto.2.2.2⟩
            rcases Nat.lt_or_ge kp 2 with q1 | q1
            · obtain rfl : kp = 1 := by omega
              have hga := grown_alloc wp (.cells #[] 3) (some r)
              have hbs := HG.out.size
              have HT := hidI (HT.out.kept hga (by simp; omega)); have HV := hidI (HV.out.kept hga (by simp; omega)); have HO := hidI (HO.out.grown hga hlt); have HD := hidI (HD.out.low hga hlt); have HG := hidI (grown_trans HG.out hga)
              have HR := hidI (HR.out.below ((Below.refl _ _).alloc (Nat.le_refl _) (.cells #[] 3)))
              obtain ⟨y0, y1, y2⟩ := TBlk.cells HT.out
              have yz := blk_frozen HT.out 1
              have HN := hidI (OutS.new (w := wp) (base := w.heap.size) [] (by simp) hbs (by simp))
              have hgs := grown_setCell (wp.alloc (.cells #[] 3)) T 1 (.slice (some ⟨wp.heap.size, 0, none⟩) 0 0)
              have HN := hidI (OutS.kept HN.out hgs (fun e => by injection e with e; exact out_ne HN.out HT.out (by decide) e.symm))
              have HV := hidI (HV.out.kept hgs (by simp; omega)); have HD := hidI (DRow.other HD.out hgs (fun e => TBlk.row HT.out HD.out e) (DRow.ne HD.out HT.out (by decide))); have HR := hidI (HR.out.grown hgs (by omega)); have HG := hidI (grown_new HG.out hgs (by omega)); have HT := hidI (TBlk.set1 (u := .slice (some ⟨wp.heap.size, 0, none⟩) 0 0) HT.out)
              have HO := HN
              clear hga hgs hbs
              obtain ⟨t0, t1, t2⟩ := TBlk.cells HT.out
              obtain ⟨v0, v1, v2⟩ := TBlk.cells HV.out
              have z0 := blk_frozen HV.out 0; have z1 := blk_frozen HV.out 1; have z2 := blk_frozen HV.out 2
              go_wp2_with fail
              refine bodyPost_ret (v := .agg #[.int .i64 (s0 : Int), .slice (some ⟨wp.heap.size, 0, none⟩) 0 0, .slice ao es.length cp]) (by simp [results, Try.results49, go_sem, v0, v1, v2]) rfl ?_
              have hto := task_out (s := (s0 : Int)) HV.out HO.out HD.out HR.out HG.out hlt
              exact ⟨_, _, _, _, _, _, _, _, rfl, by omega, by omega, by omega, hto.1, hto.2.1, by first | omega | (simp; omega), hto.2.2.1.mono (by omega), hto.2.2.2⟩
            · have q2 : (2 : Int) ≤ kp := by omega
              have hga := grown_alloc wp (.cells #[.slice none 0 0, .int .i64 0, .int .i64 0, .int .i64 0] 46) (some r)
              have hbs := HG.out.size
              have HT := hidI (HT.out.kept hga (by simp; omega)); have HV := hidI (HV.out.kept hga (by simp; omega)); have HO := hidI (HO.out.grown hga hlt); have HD := hidI (HD.out.low hga hlt); have HG := hidI (grown_trans HG.out hga)
              have HR := hidI (HR.out.below ((Below.refl _ _).alloc (Nat.le_refl _) (.cells #[.slice none 0 0, .int .i64 0, .int .i64 0, .int .i64 0] 46)))
              have hd0 : DE.ok (wp.alloc (.cells #[.slice none 0 0, .int .i64 0, .int .i64 0, .int .i64 0] 46)) w.heap.size ⟨none, 0, 0, 0, 0, 0⟩ := ⟨.inl ⟨rfl, rfl, rfl⟩, by simp, by simp, by simp, by simp⟩
              have hcl : ∀ j u, (DE.cells ⟨none, 0, 0, 0, 0, 0⟩)[j]? = some u → (wp.alloc (.cells #[.slice none 0 0, .int .i64 0, .int .i64 0, .int .i64 0] 46)).cell? ⟨wp.heap.size, j, none⟩ = some u := by intro j u hj; rw [cell_new]; simpa [DE.cells] using hj
              have hbs2 : w.heap.size ≤ (wp.alloc (.cells #[.slice none 0 0, .int .i64 0, .int .i64 0, .int .i64 0] 46)).heap.size := by simp; omega
              have hn1000 : es.length ≤ 1000 := by omega
              have HX := hidI hd0; have HY := hidI hcl
              clear hd0 hcl hga
              go_wp2_with (at_builtin; refine wpList_appendD _ rfl _ _ rfl w.heap.size _ es ⟨none, 0, 0, 0, 0, 0⟩ _ rfl rfl HD.out HX.out HY.out hn1000 hbs2 ?_)
              intro g6 cap6 w6 hD6 hg6
              have hrow : ∀ q, Value.ownBlock (.slice ao es.length cp) = some q → w.heap.size ≤ q := fun q hq => (HD.out.1.lt q hq).1
              have HV := hidI (HV.out.kept hg6 (TBlk.row HV.out HD.out)); have HO := hidI (HO.out.kept hg6 (row_out HD.out HO.out)); have HR := hidI (HR.out.kept hg6 (fun q hq => by have := hrow q hq; omega)); have HG := hidI (grown_kept HG.out hg6 hrow); have HT := hidI (HT.out.kept hg6 (TBlk.row HT.out HD.out)); have HD := hidI hD6
              clear hrow hg6 hD6 t0 t1 t2 tz0 tz1 tz2
              obtain ⟨t0, t1, t2⟩ := TBlk.cells HT.out
              have tz2 := blk_frozen HT.out 2
              have hgs := grown_setCell w6 T 2 (.slice (some ⟨g6, 0, none⟩) (es.length + 1) cap6)
              have HO := hidI (HO.out.kept hgs (fun e => by injection e with e; exact out_ne HO.out HT.out (by decide) e.symm)); have HV := hidI (HV.out.kept hgs (by simp; omega)); have HD := hidI (DRow.other HD.out hgs (fun e => TBlk.row HT.out HD.out e) (DRow.ne HD.out HT.out (by decide))); have HR := hidI (HR.out.grown hgs (by omega)); have HG := hidI (grown_new HG.out hgs (by omega)); have HT := hidI (TBlk.set2 (u := .slice (some ⟨g6, 0, none⟩) (es.length + 1) cap6) HT.out)
              clear hgs
              obtain ⟨t0, t1, t2⟩ := TBlk.cells HT.out
              obtain ⟨v0, v1, v2⟩ := TBlk.cells HV.out
              have z0 := blk_frozen HV.out 0; have z1 := blk_frozen HV.out 1; have z2 := blk_frozen HV.out 2
              go_wp2_with fail
              refine bodyPost_ret (v := .agg #[.int .i64 (s0 : Int), .slice (some ⟨g, 0, none⟩) n cap, .slice (some ⟨g6, 0, none⟩) (es.length + 1) cap6]) (by simp [results, Try.results49, go_sem, v0, v1, v2]) rfl ?_
              have hto := task_out (s := (s0 : Int)) HV.out HO.out HD.out HR.out HG.out hlt
              exact ⟨_, _, _, _, _, _, _, _, rfl, by omega, by omega, by omega, hto.1, hto.2.1, by first | omega | (simp; omega), hto.2.2.1.mono (by omega), hto.2.2.2⟩
          · obtain ⟨dg, de, rfl, hdg, hde, hdok, e0, e1, e2, e3, efz, hcp1, hcp2, dgc⟩ := DRow.at HD.out hj2
            have hj3 : (j : Int) < (es.length : Int) := by omega
            have hff := HF.out j de (Nat.le_refl _) hde
            unfold maxLen at hcp2
            have hTl := HT.out.lt
            have hdl := DRow.lt HD.out
            obtain ⟨hfa, hfb, hfc⟩ := hff
            unfold Few at hfa hfb hfc
            have f0 := efz (j * 4); have f1 := efz (j * 4 + 1); have f2 := efz (j * 4 + 2); have f3 := efz (j * 4 + 3)
            go_wp2_with fail
            go_roundw
            case rel =>
              have hfl := deed_flip (o := .cells #[.slice de.ao de.l de.cp, .int .i64 de.a, .int .i64 de.b, .int .i64 de.c] 46) (z := de.a + de.b + de.c) HT.out HV.out HO.out HD.out HR.out HG.out hlt hj2 ⟨by omega, by omega⟩ HF.out
              exact ⟨j + 1, cp, some ⟨dg, 0, none⟩, _, by go_num, by rw [List.length_set]; omega, by rw [List.length_set]; omega, hidI hfl.1, hidI hfl.2.1, hidI hfl.2.2.1, hidI hfl.2.2.2.1, hidI hfl.2.2.2.2.1, hidI hfl.2.2.2.2.2.1, hidI hfl.2.2.2.2.2.2⟩
            case measure => simp [intOf]; omega
end Go.Proofs.Ytndbfdgflflfpaa
