/- One element put behind a slice that the call itself has made. -/
import Derived.Test.YtmmggbcmailbiaaBase
import Derived.Laws.OwnMore
import Derived.Laws.AppendOwnNone
namespace Go.Proofs.Ytmmggbcmailbiaa
open Go.RowKit

theorem cell_new (w : World) (c : Array Value) (t : TypeId) (i : Nat) : (w.alloc (.cells c t)).cell? ⟨w.heap.size, i, none⟩ = c[i]? := by
  have hh := heap_alloc_new w (.cells c t)
  unfold World.cell?
  rw [hh]; rfl

theorem own_shape {w : World} {base : Nat} {e : TypeId} {v : Value} {n : Nat} {xs : List Value} (h : w.ownsRow base e 1 v n xs) (hv : v ≠ .slice none 0 0) : ∃ g cap, v = .slice (some ⟨g, 0, none⟩) n cap ∧ base ≤ g := by
  rcases h.2 with ⟨h1, _⟩ | ⟨g, cap, cur, h1, h2, _⟩
  · exact absurd h1 hv
  · exact ⟨g, cap, h1, h2⟩

/-- 'append(v, u)', v nil or the call's own. -/
theorem wpList_push {P : Program} (w : World) {ops : Array Oper} {rest : List Oper} {o : Oper} {a : Act} {Q : Exit → Act → World → Prop} (hgd : o.guard = none) (s x : Operand) (t : TypeId)
    (ho : o.op = .call { callee := .builtin .append, args := #[s, x], argTypes := #[t, t] })
    (base : Nat) (e : TypeId) (z : Value) (bytes : Nat) (ht : P.underlying t = some (.slice e)) (hinfo : (P.info? e).map (fun i => (i.zero, i.size, i.bytes)) = some (some z, 1, bytes))
    (hzs : z.cells.size = 1) (v : Value) (n : Nat) (xs : List Value) (u : Value) (hs : a.eval s = v) (hx : a.eval x = .slice (some ⟨w.heap.size, 0, none⟩) 1 1)
    (hown : w.ownsRow base e 1 v n xs) (hu : u.oneCell' = true) (hn : n ≤ 1099511627776) (hb : bytes ≤ 64) (hbase : base ≤ w.heap.size)
    (h : ∀ g cap w', base ≤ g → w'.ownsRow base e 1 (.slice (some ⟨g, 0, none⟩) (n + 1) cap) (n + 1) (xs ++ [u]) → (∀ W, Below base W w → Below base W w') → (w.alloc (.cells #[u] e)).grownBy w' v.ownBlock →
      wpList P ops Q rest (a.put o.dst (.slice (some ⟨g, 0, none⟩) (n + 1) cap)) w') : wpList P ops Q (o :: rest) a (w.alloc (.cells #[u] e)) := by
  obtain ⟨i, hi, hz, hsz, hby⟩ := info_parts hinfo
  refine wpList_append_own _ hgd s x t ho base e i z 1 bytes ht hi hz hsz hby hzs (by decide) v n xs hs (hown.alloc _) ⟨w.heap.size, 0, none⟩ 1 1 [u] hx rfl ?_ ?_ ?_ ?_ ?_ ?_
  · intro j u' hj
    match j, hj with
    | 0, hj =>
      simp at hj; subst hj
      have hh := heap_alloc_new w (.cells #[u] e)
      show (w.alloc (.cells #[u] e)).cell? ⟨w.heap.size, 0, none⟩ = some u
      unfold World.cell?
      rw [hh]; rfl
  · intro u' hu'; simp at hu'; subst hu'; exact hu
  · simp [maxLen]; omega
  · have : (n + 1) * bytes ≤ (n + 1) * 64 := Nat.mul_le_mul_left _ hb
    omega
  · simp; omega
  · intro v' w' ho' hg hnil
    have hne : v' ≠ .slice none 0 0 := fun e => by have := (hnil.1 e).2; omega
    obtain ⟨g, cap, rfl, hg'⟩ := own_shape ho' hne
    refine h g cap w' hg' ho' (fun W hW => ?_) hg
    refine (hW.alloc hbase _).grown hg (by simp; omega) (fun k hk => ?_)
    exact (hown.lt k hk).1

theorem own_base {w : World} {base base' : Nat} {e : TypeId} {v : Value} {n : Nat} {xs : List Value} (h : w.ownsRow base e 1 v n xs) (hb : base' ≤ base) : w.ownsRow base' e 1 v n xs := by
  obtain ⟨h1, h2⟩ := h
  rcases h2 with h2 | ⟨g, cap, cur, a1, a2, a3⟩
  · exact ⟨h1, .inl h2⟩
  · exact ⟨h1, .inr ⟨g, cap, cur, a1, by omega, a3⟩⟩

/-- The row, one cell shorter or cut. -/
theorem own_cut {w : World} {base : Nat} {e : TypeId} {g n cap m : Nat} {xs : List Value} (h : w.ownsRow base e 1 (.slice (some ⟨g, 0, none⟩) n cap) n xs) (hm : m ≤ n) : w.ownsRow base e 1 (.slice (some ⟨g, 0, none⟩) m cap) m (xs.take m) := by
  obtain ⟨h1, h2⟩ := h
  rcases h2 with ⟨h3, _⟩ | ⟨g', cap', cur, h3, h4, h5, h6, h7, h8, h9⟩
  · cases h3
  · injection h3 with e1 e2 e3
    injection e1 with e1; injection e1 with e1 _ _
    subst e1; subst e3
    refine ⟨by simp; omega, .inr ⟨_, _, cur, rfl, h4, h5, by omega, h7, h8, ?_⟩⟩
    rw [← h9, List.take_take, Nat.mul_one, Nat.mul_one, Nat.min_eq_left hm]

/-- A store into it. -/
theorem own_put {w : World} {base : Nat} {e : TypeId} {g n cap : Nat} {xs : List Value} (h : w.ownsRow base e 1 (.slice (some ⟨g, 0, none⟩) n cap) n xs) (i : Nat) (u : Value) :
    (w.setCell ⟨g, i, none⟩ u).ownsRow base e 1 (.slice (some ⟨g, 0, none⟩) n cap) n (xs.set i u) := by
  obtain ⟨h1, h2⟩ := h
  rcases h2 with ⟨h3, _⟩ | ⟨g', cap', cur, h3, h4, h5, h6, h7, h8, h9⟩
  · cases h3
  · injection h3 with e1 e2 e3
    injection e1 with e1; injection e1 with e1 _ _
    subst e1; subst e3
    refine ⟨by simpa using h1, .inr ⟨_, _, cur.setIfInBounds i u, rfl, h4, ?_, h6, h7, by simpa using h8, ?_⟩⟩
    · simp [World.setCell, Array.getElem?_modify, h5]
    · rw [← h9, Array.toList_setIfInBounds, List.take_set]

theorem own_cell {w : World} {base : Nat} {e : TypeId} {g n cap : Nat} {xs : List Value} (h : w.ownsRow base e 1 (.slice (some ⟨g, 0, none⟩) n cap) n xs) {i : Nat} {u : Value} (hi : xs[i]? = some u) : w.cell? ⟨g, i, none⟩ = some u ∧ w.frozen? ⟨g, i, none⟩ = false := by
  obtain ⟨h1, h2⟩ := h
  rcases h2 with ⟨h3, _⟩ | ⟨g', cap', cur, h3, h4, h5, h6, h7, h8, h9⟩
  · cases h3
  · injection h3 with e1 e2 e3
    injection e1 with e1; injection e1 with e1 _ _
    subst e1; subst e3
    rw [← h9, List.getElem?_take] at hi
    split at hi
    · exact ⟨by simpa [World.cell?, h5] using hi, by simp [World.frozen?, h5]⟩
    · cases hi

theorem own_lt {w : World} {base : Nat} {e : TypeId} {g n cap : Nat} {xs : List Value} (h : w.ownsRow base e 1 (.slice (some ⟨g, 0, none⟩) n cap) n xs) : base ≤ g ∧ g < w.heap.size ∧ n ≤ cap ∧ cap ≤ maxLen := by
  obtain ⟨h1, h2⟩ := h
  rcases h2 with ⟨h3, _⟩ | ⟨g', cap', cur, h3, h4, h5, h6, h7, h8, h9⟩
  · cases h3
  · injection h3 with e1 e2 e3
    injection e1 with e1; injection e1 with e1 _ _
    subst e1; subst e3
    exact ⟨h4, (Array.getElem?_eq_some_iff.1 h5).1, h6, h7⟩

/-- A slice of ints of the call's own reads as one. -/
theorem IntS.ofOwn {w : World} {base : Nat} {e : TypeId} {v : Value} {n : Nat} {zs : List Int} (h : w.ownsRow base e 1 v n (zs.map (Value.int .i64))) (hz : ∀ z ∈ zs, I64 z) : n = zs.length ∧ IntS w v zs := by
  have hl : n = zs.length := by have := h.1; simp at this; omega
  refine ⟨hl, hz, ?_⟩
  subst hl
  have h' := h
  rcases h.2 with ⟨rfl, h0⟩ | ⟨g, cap, cur, rfl, h4, h5, h6, h7, h8, h9⟩
  · obtain rfl : zs = [] := List.eq_nil_of_length_eq_zero h0
    exact ⟨none, 0, rfl, by simp, by simp, .inl ⟨rfl, fun _ => rfl⟩⟩
  · refine ⟨_, _, rfl, h6, h7, .inr ⟨g, 0, rfl, (Array.getElem?_eq_some_iff.1 h5).1, fun j hj => ?_⟩⟩
    rw [Nat.zero_add]
    exact (own_cell h' (by simp [List.getD, hj])).1

/-- 'append(v, u...)', v nil or the call's own, u a slice of ints, nil or empty too. -/
theorem wpList_appendS {P : Program} (w : World) {ops : Array Oper} {rest : List Oper} {o : Oper} {a : Act} {Q : Exit → Act → World → Prop} (hgd : o.guard = none) (s x : Operand) (t : TypeId)
    (ho : o.op = .call { callee := .builtin .append, args := #[s, x], argTypes := #[t, t] })
    (base : Nat) (e : TypeId) (ht : P.underlying t = some (.slice e)) (hinfo : (P.info? e).map (fun i => (i.zero, i.size, i.bytes)) = some (some (.int .i64 0), 1, 8))
    (v : Value) (n : Nat) (xs : List Int) (u : Value) (zs : List Int) (hs : a.eval s = v) (hx : a.eval x = u)
    (hown : w.ownsRow base e 1 v n (xs.map (Value.int .i64))) (hu : IntS w u zs) (hn : n + zs.length ≤ 1099511627776) (hbase : base ≤ w.heap.size)
    (h : ∀ v' w', w'.ownsRow base e 1 v' (n + zs.length) ((xs ++ zs).map (Value.int .i64)) → (∀ W, Below base W w → Below base W w') → w.grownBy w' v.ownBlock → (v' = .slice none 0 0 ↔ v = .slice none 0 0 ∧ zs = []) →
      wpList P ops Q rest (a.put o.dst v') w') : wpList P ops Q (o :: rest) a w := by
  obtain ⟨i, hi, hz, hsz, hby⟩ := info_parts hinfo
  obtain ⟨_, ao, cap, rfl, h1, h2, h3⟩ := hu
  cases ao with
  | none =>
    rcases h3 with ⟨rfl, hc⟩ | ⟨b, off, hc, _⟩
    · obtain rfl := hc rfl
      refine wpList_append_own_none hgd s x t ho base e i 1 ht hi v n _ hs hown hx ?_
      have := h v w (by simpa using hown) (fun _ hW => hW) ⟨rfl, rfl, rfl, Nat.le_refl _, fun _ _ _ => rfl⟩ (by simp)
      exact this
    · cases hc
  | some ad =>
    refine wpList_append_own _ hgd s x t ho base e i (.int .i64 0) 1 8 ht hi hz hsz hby rfl (by decide) v n _ hs hown ad zs.length cap (zs.map (Value.int .i64)) hx (by simp) ?_ (ints_oneCell _ _) ?_ ?_ hbase ?_
    · intro j u' hj
      have hjl : j < zs.length := by have := (List.getElem?_eq_some_iff.1 hj).1; simpa using this
      rcases h3 with ⟨rfl, _⟩ | ⟨b, off, hc, _, h4⟩
      · simp at hjl
      · injection hc with hc; subst hc
        rw [Addr.add_lit, h4 j hjl]
        rw [List.getElem?_map] at hj
        simp [List.getD, List.getElem?_eq_getElem hjl] at hj ⊢
        exact hj
    · simp [maxLen]; omega
    · omega
    · intro v' w' ho' hg hnil
      refine h v' w' (by rw [List.map_append]; exact ho') (fun W hW => ?_) hg ?_
      · exact hW.grown hg hbase (fun k hk => (hown.lt k hk).1)
      · rw [hnil]; constructor
        · rintro ⟨h5, h6⟩; exact ⟨h5, List.eq_nil_of_length_eq_zero h6⟩
        · rintro ⟨h5, h6⟩; exact ⟨h5, by rw [h6]; rfl⟩

theorem grown_setCell (w : World) (g i : Nat) (u : Value) : w.grownBy (w.setCell ⟨g, i, none⟩ u) (some g) :=
  ⟨rfl, rfl, rfl, by simp [World.setCell], fun k _ hk => Below.heap_setCell _ _ _ _ (fun e => hk (by rw [e]))⟩

theorem grown_trans {a b c : World} {r : Option Nat} (h : a.grownBy b r) (k : b.grownBy c r) : a.grownBy c r :=
  ⟨k.os.trans h.os, k.tape.trans h.tape, k.output.trans h.output, Nat.le_trans h.size k.size, fun i hi hr => (k.block i (Nat.lt_of_lt_of_le hi h.size) hr).trans (h.block i hi hr)⟩

/-- What lies in another block reads as it did. -/
theorem IntS.grown {w w' : World} {v : Value} {zs : List Int} {r : Option Nat} (h : IntS w v zs) (hg : w.grownBy w' r) (hne : v.ownBlock = none ∨ v.ownBlock ≠ r) : IntS w' v zs := by
  obtain ⟨h0, ao, cap, rfl, h1, h2, h3⟩ := h
  refine ⟨h0, ao, cap, rfl, h1, h2, ?_⟩
  rcases h3 with h3 | ⟨b, off, rfl, h4, h5⟩
  · exact .inl h3
  · refine .inr ⟨b, off, rfl, Nat.lt_of_lt_of_le h4 hg.size, fun j hj => ?_⟩
    have hb := hg.block b h4 (by simpa [Value.ownBlock] using hne)
    exact (World.cell?_of_block (w := w) (a := ⟨b, off + j, none⟩) hb).trans (h5 j hj)

/-- What is owned in another block stays. -/
theorem own_grown {w w' : World} {base : Nat} {e : TypeId} {v : Value} {n : Nat} {xs : List Value} {g : Nat} (h : w.ownsRow base e 1 v n xs) (hg : w.grownBy w' (some g)) (hne : ∀ k, v.ownBlock = some k → k ≠ g) : w'.ownsRow base e 1 v n xs := by
  refine h.kept hg ?_
  cases e : v.ownBlock with
  | none => exact .inl rfl
  | some k => exact .inr (fun h' => hne k e (Option.some.inj h'))

theorem IntS.setCell {w : World} {v : Value} {zs : List Int} (h : IntS w v zs) (g i : Nat) (u : Value) (hne : ∀ k, v.ownBlock = some k → k ≠ g) : IntS (w.setCell ⟨g, i, none⟩ u) v zs := by
  refine h.grown (grown_setCell w g i u) ?_
  cases e : v.ownBlock with
  | none => exact .inl rfl
  | some k => exact .inr (fun h' => hne k e (Option.some.inj h'))

theorem blk_cell {w : World} {b : Nat} {c : Array Value} {t : TypeId} (h : w.heap[b]? = some (.cells c t (0, 0))) (i : Nat) : w.cell? ⟨b, i, none⟩ = c[i]? := by
  unfold World.cell?; rw [h]; rfl
theorem blk_frozen {w : World} {b : Nat} {c : Array Value} {t : TypeId} (h : w.heap[b]? = some (.cells c t (0, 0))) (i : Nat) : w.frozen? ⟨b, i, none⟩ = false := by
  unfold World.frozen?; rw [h]; simp
theorem blk_set {w : World} {g : Nat} {c : Array Value} {t : TypeId} (h : w.heap[g]? = some (.cells c t (0, 0))) (i : Nat) (u : Value) : (w.setCell ⟨g, i, none⟩ u).heap[g]? = some (.cells (c.setIfInBounds i u) t (0, 0)) := by
  simp [World.setCell, Array.getElem?_modify, h]
end Go.Proofs.Ytmmggbcmailbiaa
