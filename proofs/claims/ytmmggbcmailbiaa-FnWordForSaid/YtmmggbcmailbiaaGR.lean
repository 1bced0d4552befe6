/- Slices of slices of ints: those that are read, those of the call's own. -/
import Derived.Test.YtmmggbcmailbiaaOwn
import Derived.Test.YtmmggbcmailbiaaInts
import Derived.Test.YtmmggbcmailbiaaStepL
namespace Go.Proofs.Ytmmggbcmailbiaa
open Go.RowKit

/-- u reads as the ints p, and its block, if it has one, is a block of ints. -/
def El (w : World) (u : Value) (p : List Int) : Prop := IntS w u p ∧ ∀ k, u.ownBlock = some k → ∃ c fr, w.heap[k]? = some (.cells c 3 fr)

theorem El.below {w w' : World} {u : Value} {p : List Int} (h : El w u p) (hb : Below w.heap.size w w') : El w' u p :=
  ⟨h.1.below hb, fun k hk => by
    obtain ⟨c, fr, hc⟩ := h.2 k hk
    exact ⟨c, fr, (hb.block k (Array.getElem?_eq_some_iff.1 hc).1).trans hc⟩⟩

theorem El.lt {w : World} {u : Value} {p : List Int} (h : El w u p) {k : Nat} (hk : u.ownBlock = some k) : k < w.heap.size := by
  obtain ⟨c, fr, hc⟩ := h.2 k hk
  exact (Array.getElem?_eq_some_iff.1 hc).1

/-- Another block's turn. -/
theorem El.kept {w w' : World} {u : Value} {p : List Int} {row : Option Nat} (h : El w u p) (hg : w.grownBy w' row) (hr : ∀ k, u.ownBlock = some k → row ≠ some k) : El w' u p := by
  refine ⟨?_, fun k hk => ?_⟩
  · obtain ⟨hz, ao, cap, rfl, h1, h2, h3⟩ := h.1
    refine ⟨hz, ao, cap, rfl, h1, h2, ?_⟩
    rcases h3 with h3 | ⟨b, off, rfl, h4, h5⟩
    · exact .inl h3
    · refine .inr ⟨b, off, rfl, Nat.lt_of_lt_of_le h4 hg.size, fun j hj => ?_⟩
      rw [← h5 j hj]
      exact World.cell?_of_block (a := ⟨b, off + j, none⟩) (hg.block b h4 (fun e => hr b rfl e.symm))
  · obtain ⟨c, fr, hc⟩ := h.2 k hk
    exact ⟨c, fr, (hg.block k (Array.getElem?_eq_some_iff.1 hc).1 (fun e => hr k hk e.symm)).trans hc⟩

/-- The turn of a block that is no block of ints. -/
theorem El.keptT {w w' : World} {u : Value} {p : List Int} {g : Nat} (h : El w u p) (hg : w.grownBy w' (some g)) (hr : ∀ c fr, w.heap[g]? ≠ some (.cells c 3 fr)) : El w' u p :=
  h.kept hg (fun k hk e => by
    obtain ⟨c, fr, hc⟩ := h.2 k hk
    injection e with e
    subst e
    exact hr c fr hc)

theorem El.nil (w : World) : El w (.slice none 0 0) [] := ⟨IntS.nil w, fun k hk => by cases hk⟩

theorem El.ofOwn {w : World} {base : Nat} {v : Value} {n : Nat} {zs : List Int} (h : w.ownsRow base 3 1 v n (zs.map (Value.int .i64))) (hz : ∀ z ∈ zs, I64 z) : El w v zs :=
  ⟨(IntS.ofOwn h hz).2, fun k hk => by
    rcases h.2 with ⟨rfl, _⟩ | ⟨g, cap, cur, rfl, _, h5, _⟩
    · cases hk
    · simp only [Value.ownBlock] at hk; injection hk with hk; subst hk; exact ⟨cur, _, h5⟩⟩

/-- v is a slice of slices that reads as pss. -/
def IntSS (w : World) (v : Value) (pss : List (List Int)) : Prop :=
  ∃ ao cap, v = .slice ao pss.length cap ∧ pss.length ≤ cap ∧ cap ≤ maxLen ∧
   (pss = [] ∧ (ao = none → cap = 0) ∨ ∃ b off, ao = some ⟨b, off, none⟩ ∧ b < w.heap.size ∧ ∀ (j : Nat) (p : List Int), pss[j]? = some p → ∃ u, w.cell? ⟨b, off + j, none⟩ = some u ∧ IntS w u p)

theorem IntSS.below {w w' : World} {v : Value} {pss : List (List Int)} (h : IntSS w v pss) (hb : Below w.heap.size w w') : IntSS w' v pss := by
  obtain ⟨ao, cap, rfl, h1, h2, h3⟩ := h
  refine ⟨ao, cap, rfl, h1, h2, ?_⟩
  rcases h3 with h3 | ⟨b, off, rfl, h4, h5⟩
  · exact .inl h3
  · refine .inr ⟨b, off, rfl, Nat.lt_of_lt_of_le h4 hb.size, fun j p hp => ?_⟩
    obtain ⟨u, hc, hu⟩ := h5 j p hp
    exact ⟨u, (hb.cell (p := ⟨b, off + j, none⟩) h4).trans hc, hu.below hb⟩

theorem IntSS.nil (w : World) : IntSS w (.slice none 0 0) [] := ⟨none, 0, rfl, by simp, by simp, .inl ⟨rfl, fun _ => rfl⟩⟩

/-- A row of rows of the call's own: its elements us read as pss. -/
def RowsOwn (w : World) (base : Nat) (v : Value) (us : List Value) (pss : List (List Int)) : Prop :=
  w.ownsRow base 24 1 v pss.length us ∧ ∀ (j : Nat) (u : Value) (p : List Int), us[j]? = some u → pss[j]? = some p → El w u p

theorem RowsOwn.len {w : World} {base : Nat} {v : Value} {us : List Value} {pss : List (List Int)} (h : RowsOwn w base v us pss) : us.length = pss.length := by
  have := h.1.1; omega

theorem RowsOwn.below {w w' : World} {base : Nat} {v : Value} {us : List Value} {pss : List (List Int)} (h : RowsOwn w base v us pss) (hb : Below w.heap.size w w') : RowsOwn w' base v us pss :=
  ⟨own_below h.1 hb, fun j u p hu hp => (h.2 j u p hu hp).below hb⟩

theorem RowsOwn.base {w : World} {base base' : Nat} {v : Value} {us : List Value} {pss : List (List Int)} (h : RowsOwn w base v us pss) (hb : base' ≤ base) : RowsOwn w base' v us pss :=
  ⟨own_base h.1 hb, h.2⟩

theorem RowsOwn.reads {w : World} {base : Nat} {v : Value} {us : List Value} {pss : List (List Int)} (h : RowsOwn w base v us pss) : IntSS w v pss := by
  have hl := h.len
  have h' := h
  obtain ⟨h1, h2⟩ := h
  rcases h1.2 with ⟨rfl, h0⟩ | ⟨g, cap, cur, rfl, h4, h5, h6, h7, h8, h9⟩
  · obtain rfl : pss = [] := List.eq_nil_of_length_eq_zero h0
    exact IntSS.nil w
  · refine ⟨_, _, rfl, h6, h7, .inr ⟨g, 0, rfl, (Array.getElem?_eq_some_iff.1 h5).1, fun j p hp => ?_⟩⟩
    have hj : j < us.length := by rw [hl]; exact (List.getElem?_eq_some_iff.1 hp).1
    have hu : us[j]? = some us[j] := List.getElem?_eq_getElem hj
    refine ⟨us[j], ?_, (h2 j _ p hu hp).1⟩
    rw [Nat.zero_add]
    exact (own_cell h1 hu).1

/-- The turn of a block that is not the row's and not an element's. -/
theorem RowsOwn.other {w w' : World} {base g : Nat} {v : Value} {us : List Value} {pss : List (List Int)} (h : RowsOwn w base v us pss) (hg : w.grownBy w' (some g)) (hv : v.ownBlock ≠ some g) (hu : ∀ u ∈ us, u.ownBlock ≠ some g) : RowsOwn w' base v us pss :=
  ⟨own_grown h.1 hg (fun k hk e => hv (by rw [hk, e])), fun j u p hj hp => (h.2 j u p hj hp).kept hg (fun k hk e => hu u (List.mem_of_getElem? hj) (by rw [hk]; exact e.symm))⟩

/-- The turn of a new block. -/
theorem RowsOwn.alloc {w : World} {base : Nat} {v : Value} {us : List Value} {pss : List (List Int)} (h : RowsOwn w base v us pss) (o : Obj) : RowsOwn (w.alloc o) base v us pss :=
  h.below ((Below.refl _ _).alloc (Nat.le_refl _) o)

theorem RowsOwn.snoc {us : List Value} {pss : List (List Int)} {w : World} {u : Value} {p : List Int} (hl : us.length = pss.length) (h : ∀ (j : Nat) (u : Value) (p : List Int), us[j]? = some u → pss[j]? = some p → El w u p) (hu : El w u p) :
    ∀ (j : Nat) (u' : Value) (p' : List Int), (us ++ [u])[j]? = some u' → (pss ++ [p])[j]? = some p' → El w u' p' := by
  intro j u' p' hj hp
  rcases Nat.lt_or_ge j us.length with hlt | hge
  · rw [List.getElem?_append_left hlt] at hj
    rw [List.getElem?_append_left (by omega)] at hp
    exact h j u' p' hj hp
  · rw [List.getElem?_append_right hge] at hj
    rw [List.getElem?_append_right (by omega)] at hp
    have h0 : j - us.length = 0 := by
      have := (List.getElem?_eq_some_iff.1 hj).1
      simp at this; omega
    rw [h0] at hj
    rw [show j - pss.length = 0 by omega] at hp
    simp at hj hp
    subst hj; subst hp; exact hu

theorem infoRows : (Try.prog.info? 24).map (fun i => (i.zero, i.size, i.bytes)) = some (some (.slice none 0 0), 1, 24) := by kernel_rfl

theorem slice_one {w : World} {u : Value} {p : List Int} (h : El w u p) : u.oneCell' = true := by
  obtain ⟨_, ao, cap, rfl, _⟩ := h.1
  rfl

/-- A row's block is no block of ints. -/
theorem row_not_int {w : World} {base : Nat} {v : Value} {n : Nat} {us : List Value} (h : w.ownsRow base 24 1 v n us) {g : Nat} (hg : v.ownBlock = some g) : ∀ c fr, w.heap[g]? ≠ some (.cells c 3 fr) := by
  intro c fr hc
  rcases h.2 with ⟨rfl, _⟩ | ⟨g', cap, cur, rfl, _, h5, _⟩
  · cases hg
  · simp only [Value.ownBlock] at hg; injection hg with hg; subst hg
    rw [h5] at hc
    injection hc with hc; injection hc with _ hc; exact absurd hc (by decide)

/-- 'append(v, u)', v a row of rows of the call's own. -/
theorem wpList_pushR (w : World) {ops : Array Oper} {rest : List Oper} {o : Oper} {a : Act} {Q : Exit → Act → World → Prop} (hgd : o.guard = none) (s x : Operand)
    (ho : o.op = .call { callee := .builtin .append, args := #[s, x], argTypes := #[23, 23] })
    (base : Nat) (v : Value) (us : List Value) (pss : List (List Int)) (u : Value) (p : List Int) (hs : a.eval s = v) (hx : a.eval x = .slice (some ⟨w.heap.size, 0, none⟩) 1 1)
    (hown : RowsOwn w base v us pss) (hu : El w u p) (hn : pss.length ≤ 100000000) (hbase : base ≤ w.heap.size)
    (h : ∀ g cap w', base ≤ g → RowsOwn w' base (.slice (some ⟨g, 0, none⟩) (pss.length + 1) cap) (us ++ [u]) (pss ++ [p]) → (∀ W, Below base W w → Below base W w') → (w.alloc (.cells #[u] 24)).grownBy w' v.ownBlock → (v.ownBlock = some g ∨ g = w.heap.size + 1) →
      wpList Try.prog ops Q rest (a.put o.dst (.slice (some ⟨g, 0, none⟩) (pss.length + 1) cap)) w') : wpList Try.prog ops Q (o :: rest) a (w.alloc (.cells #[u] 24)) := by
  refine wpList_plain hgd fun K hK => ?_
  obtain ⟨i, hi, hz, hsz, hby⟩ := info_parts infoRows
  refine wp_append_lies _ s x 23 ho base 24 i (.slice none 0 0) 1 24 Try.underlying23 hi hz hsz hby rfl (by decide) v pss.length us hs (hown.1.alloc _) ⟨w.heap.size, 0, none⟩ 1 1 [u] hx rfl ?_ ?_ (by decide) ?_ ?_ (by simp; omega) (w.heap.size + 1) (by simp) ?_
  · intro j u' hj
    match j, hj with
    | 0, hj => simp at hj; subst hj; exact cell_at rfl rfl
  · intro u' hu'; simp at hu'; subst hu'; exact slice_one hu
  · simp [maxLen]; omega
  · omega
  · intro g cap w' ho' hg hl hs'
    have hb0 : Below w.heap.size w (w.alloc (.cells #[u] 24)) := (Below.refl _ _).alloc (Nat.le_refl _) _
    refine hK _ _ (h g cap w' (own_lt ho').1 ⟨by simpa using ho', ?_⟩ (fun W hW => ?_) hg hl)
    · refine RowsOwn.snoc hown.len (fun j u' p' hj hp => ?_) ?_
      · have he := (hown.2 j u' p' hj hp).below hb0
        cases e : v.ownBlock with
        | none => rw [e] at hg; exact he.kept hg (fun k _ e => by cases e)
        | some gv => rw [e] at hg; exact he.keptT hg (row_not_int (hown.1.alloc _) e)
      · have he := hu.below hb0
        cases e : v.ownBlock with
        | none => rw [e] at hg; exact he.kept hg (fun k _ e => by cases e)
        | some gv => rw [e] at hg; exact he.keptT hg (row_not_int (hown.1.alloc _) e)
    · refine (hW.alloc hbase _).grown hg (by simp; omega) (fun k hk => ?_)
      exact (hown.1.lt k hk).1
end Go.Proofs.Ytmmggbcmailbiaa
