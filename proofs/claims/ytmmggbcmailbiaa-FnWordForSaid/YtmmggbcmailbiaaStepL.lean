/- append as one step of a region that draws its order; a row of one cell. -/
import Derived.Test.YtmmggbcmailbiaaOwn
import Derived.Test.YtmmggbcmailbiaaMark
import Derived.Deep.RegionHeld3
import Derived.Deep.RegionLaw
import Derived.Deep.AppendLies
namespace Go.Proofs.Ytmmggbcmailbiaa
open Go.RowKit

theorem own_one (w : World) (u : Value) (t : TypeId) : (w.alloc (.cells #[u] t)).ownsRow w.heap.size t 1 (.slice (some ⟨w.heap.size, 0, none⟩) 1 1) 1 [u] := by
  refine own_of_row (f := fun _ => u) (World.rowIs_alloc w #[u] t (fun _ => u) ?_) rfl ?_ (by show 1 ≤ maxLen; decide)
  · intro i hi
    obtain rfl : i = 0 := by simp at hi; omega
    rfl
  · intro i hi
    obtain rfl : i = 0 := by simp at hi; omega
    rfl

theorem own_drew {w : World} {base : Nat} {e : TypeId} {v : Value} {n : Nat} {xs : List Value} (h : w.ownsRow base e 1 v n xs) : w.drew.ownsRow base e 1 v n xs := h

theorem own_below {w w' : World} {base : Nat} {e : TypeId} {v : Value} {n : Nat} {xs : List Value} (h : w.ownsRow base e 1 v n xs) (hb : Below w.heap.size w w') : w'.ownsRow base e 1 v n xs := by
  obtain ⟨h1, h2⟩ := h
  rcases h2 with h2 | ⟨g, cap, cur, a1, a2, a3, a4⟩
  · exact ⟨h1, .inl h2⟩
  · exact ⟨h1, .inr ⟨g, cap, cur, a1, a2, by rw [hb.block g (Array.getElem?_eq_some_iff.1 a3).1]; exact a3, a4⟩⟩

theorem cell_old {w : World} {o : Obj} {b i : Nat} {u : Value} (h : b < w.heap.size) (hc : w.cell? ⟨b, i, none⟩ = some u) : (w.alloc o).cell? ⟨b, i, none⟩ = some u :=
  (((Below.refl w.heap.size w).alloc (Nat.le_refl _) o).cell (p := ⟨b, i, none⟩) h).trans hc

theorem cell_drew {w : World} {p : Addr} {u : Value} (h : w.cell? p = some u) : w.drew.cell? p = some u := h

theorem cell_at {w : World} {c : Array Value} {t : TypeId} {B i : Nat} {u : Value} (hb : B = w.heap.size) (hc : c[i]? = some u) : (w.alloc (.cells c t)).cell? ⟨B, i, none⟩ = some u := by
  subst hb; rw [cell_new, hc]

/-- A row of the call's own that is not nil. -/
theorem own_addr {w : World} {base : Nat} {e : TypeId} {v : Value} {n : Nat} {xs : List Value} (h : w.ownsRow base e 1 v n xs) (hn : 1 ≤ n) : ∃ g cap, v = .slice (some ⟨g, 0, none⟩) n cap ∧ base ≤ g := by
  rcases h.2 with ⟨_, h1⟩ | ⟨g, cap, cur, h1, h2, _⟩
  · omega
  · exact ⟨g, cap, h1, h2⟩

/-- 'append(v, u)', the one element in a cell of its own. -/
theorem step_push {P : Program} {ops : Array Oper} {o : Oper} {a : Act} {w : World} {K : Act → World → Prop} {Q : Exit → Act → World → Prop} {E : Prop} (hgd : o.guard = none) (s x : Operand) (t : TypeId)
    (ho : o.op = .call { callee := .builtin .append, args := #[s, x], argTypes := #[t, t] })
    (base : Nat) (e : TypeId) (z : Value) (bytes : Nat) (ht : P.underlying t = some (.slice e)) (hinfo : (P.info? e).map (fun i => (i.zero, i.size, i.bytes)) = some (some z, 1, bytes))
    (hzs : z.cells.size = 1) (v : Value) (n : Nat) (xs : List Value) (u : Value) (B : Nat) (hs : a.eval s = v) (hx : a.eval x = .slice (some ⟨B, 0, none⟩) 1 1)
    (hown : w.ownsRow base e 1 v n xs) (hB : w.cell? ⟨B, 0, none⟩ = some u) (hu : u.oneCell' = true) (hn : n ≤ 1099511627776) (hb : bytes ≤ 64) (hbase : base ≤ w.heap.size)
    (h : ∀ g cap w', base ≤ g → w'.ownsRow base e 1 (.slice (some ⟨g, 0, none⟩) (n + 1) cap) (n + 1) (xs ++ [u]) → (∀ W, Below base W w → Below base W w') → w.grownBy w' v.ownBlock →
      K (a.put o.dst (.slice (some ⟨g, 0, none⟩) (n + 1) cap)) w') :
    if Region.wanted o (yielded ops a.tmps) = true then Oper.wp P o a w K Q else E := by
  rw [if_pos (by simp [Region.wanted, hgd])]
  obtain ⟨i, hi, hz, hsz, hby⟩ := info_parts hinfo
  refine wp_append_own w s x t ho base e i z 1 bytes ht hi hz hsz hby hzs (by decide) v n xs hs hown ⟨B, 0, none⟩ 1 1 [u] hx rfl ?_ ?_ ?_ ?_ hbase ?_
  · intro j u' hj
    match j, hj with
    | 0, hj => simp at hj; subst hj; exact hB
  · intro u' hu'; simp at hu'; subst hu'; exact hu
  · simp [maxLen]; omega
  · have : (n + 1) * bytes ≤ (n + 1) * 64 := Nat.mul_le_mul_left _ hb
    omega
  · intro v' w' ho' hg hnil
    have hne : v' ≠ .slice none 0 0 := fun e => by have := (hnil.1 e).2; omega
    obtain ⟨g, cap, rfl, hg'⟩ := own_shape ho' hne
    exact h g cap w' hg' ho' (fun W hW => hW.grown hg hbase (fun k hk => (hown.lt k hk).1)) hg

/-- 'append(v, u...)', u a slice of ints that is not empty. -/
theorem step_appendS {P : Program} {ops : Array Oper} {o : Oper} {a : Act} {w : World} {K : Act → World → Prop} {Q : Exit → Act → World → Prop} {E : Prop} (hgd : o.guard = none) (s x : Operand) (t : TypeId)
    (ho : o.op = .call { callee := .builtin .append, args := #[s, x], argTypes := #[t, t] })
    (base : Nat) (e : TypeId) (ht : P.underlying t = some (.slice e)) (hinfo : (P.info? e).map (fun i => (i.zero, i.size, i.bytes)) = some (some (.int .i64 0), 1, 8))
    (v : Value) (n : Nat) (xs : List Int) (u : Value) (zs : List Int) (hs : a.eval s = v) (hx : a.eval x = u)
    (hown : w.ownsRow base e 1 v n (xs.map (Value.int .i64))) (hu : IntS w u zs) (hz0 : 1 ≤ zs.length) (hn : n + zs.length ≤ 1099511627776) (hbase : base ≤ w.heap.size)
    (h : ∀ g cap w', base ≤ g → w'.ownsRow base e 1 (.slice (some ⟨g, 0, none⟩) (n + zs.length) cap) (n + zs.length) ((xs ++ zs).map (Value.int .i64)) → (∀ W, Below base W w → Below base W w') → w.grownBy w' v.ownBlock →
      K (a.put o.dst (.slice (some ⟨g, 0, none⟩) (n + zs.length) cap)) w') :
    if Region.wanted o (yielded ops a.tmps) = true then Oper.wp P o a w K Q else E := by
  rw [if_pos (by simp [Region.wanted, hgd])]
  obtain ⟨i, hi, hz, hsz, hby⟩ := info_parts hinfo
  obtain ⟨_, ao, cap, rfl, h1, h2, h3⟩ := hu
  rcases h3 with ⟨rfl, _⟩ | ⟨b, off, rfl, _, h4⟩
  · simp at hz0
  refine wp_append_own w s x t ho base e i (.int .i64 0) 1 8 ht hi hz hsz hby rfl (by decide) v n _ hs hown ⟨b, off, none⟩ zs.length cap (zs.map (Value.int .i64)) hx (by simp) ?_ (ints_oneCell _ _) ?_ ?_ hbase ?_
  · intro j u' hj
    have hjl : j < zs.length := by have := (List.getElem?_eq_some_iff.1 hj).1; simpa using this
    rw [Addr.add_lit, h4 j hjl]
    rw [List.getElem?_map] at hj
    simp [List.getD, List.getElem?_eq_getElem hjl] at hj ⊢
    exact hj
  · simp [maxLen]; omega
  · omega
  · intro v' w' ho' hg hnil
    have hne : v' ≠ .slice none 0 0 := fun e => by have := (hnil.1 e).2; omega
    obtain ⟨g, cap, rfl, hg'⟩ := own_shape ho' hne
    exact h g cap w' hg' (by rw [List.map_append]; exact ho') (fun W hW => hW.grown hg hbase (fun k hk => (hown.lt k hk).1)) hg

/-- A slice and a truth that are handed back: the numbers of the one, in new memory, if there are any. -/
def GivesS (w w' : World) (o : Option (List Int)) (e : Ending) : Prop := ∃ v, e = .returned (.tuple #[v, .bool o.isSome]) ∧ w'.ownsRow w.heap.size 3 1 v (o.getD []).length ((o.getD []).map (Value.int .i64)) ∧ Below w.heap.size w w'

theorem GivesS.none (w : World) : GivesS w w none (.returned (.tuple #[.slice none 0 0, .bool false])) := ⟨_, rfl, World.ownsRow_nil _ _ _ _, Below.refl _ _⟩

/-- A slice that is handed back: its numbers in new memory. -/
def GivesL (w w' : World) (zs : List Int) (e : Ending) : Prop := ∃ v, e = .returned v ∧ w'.ownsRow w.heap.size 3 1 v zs.length (zs.map (Value.int .i64)) ∧ Below w.heap.size w w'

theorem own_made {w : World} {base B : Nat} (hb : B = w.heap.size) (h : base ≤ w.heap.size) (t : TypeId) : (w.alloc (.cells #[] t)).ownsRow base t 1 (.slice (some ⟨B, 0, none⟩) 0 0) 0 [] := by
  subst hb; exact World.ownsRow_made w #[] 0 h (by decide) (by simp)

/-- What an append leaves as it was: every block that is not the row's own. -/
def Keeps (w w' : World) (v : Value) (g : Nat) : Prop := g < w'.heap.size ∧ ∀ B, B < w.heap.size → v.ownBlock ≠ some B → B ≠ g ∧ ∀ i u, w.cell? ⟨B, i, none⟩ = some u → w'.cell? ⟨B, i, none⟩ = some u

theorem keeps_of {w w' : World} {v : Value} {g : Nat} (hg : w.grownBy w' v.ownBlock) (hl : v.ownBlock = some g ∨ g = w.heap.size) (hs : g < w'.heap.size) : Keeps w w' v g := by
  refine ⟨hs, fun B hB hne => ⟨?_, fun i u hu => ?_⟩⟩
  · rintro rfl
    rcases hl with h | h
    · exact hne h
    · omega
  · rw [hg.cell_far ⟨B, i, none⟩ hB (fun e => hne e.symm)]; exact hu

/-- A cell that was laid ahead of two appends and a call between them. -/
theorem chain_cell {X1 w1 w6 w2 : World} {v0 : Value} {g1 g2 n c B i : Nat} {u : Value} (K1 : Keeps X1 w1 v0 g1) (BH : Below w1.heap.size w1 w6) (K2 : Keeps w6 w2 (.slice (some ⟨g1, 0, none⟩) n c) g2)
    (hB : B < X1.heap.size) (hX : X1.heap.size ≤ w1.heap.size) (hne : v0.ownBlock ≠ some B) (hc : X1.cell? ⟨B, i, none⟩ = some u) : w2.cell? ⟨B, i, none⟩ = some u := by
  obtain ⟨h1, h2⟩ := K1.2 B hB hne
  have h3 := (BH.cell (p := ⟨B, i, none⟩) (Nat.lt_of_lt_of_le hB hX)).trans (h2 i u hc)
  refine (K2.2 B (Nat.lt_of_lt_of_le (Nat.lt_of_lt_of_le hB hX) BH.size) ?_).2 i u h3
  intro e
  simp only [Value.ownBlock] at e
  injection e with e
  exact h1 e.symm

/-- 'append(v, u)', with what it keeps. -/
theorem step_pushK {P : Program} {ops : Array Oper} {o : Oper} {a : Act} {w : World} {K : Act → World → Prop} {Q : Exit → Act → World → Prop} {E : Prop} (hgd : o.guard = none) (s x : Operand) (t : TypeId)
    (ho : o.op = .call { callee := .builtin .append, args := #[s, x], argTypes := #[t, t] })
    (base : Nat) (e : TypeId) (z : Value) (bytes : Nat) (ht : P.underlying t = some (.slice e)) (hinfo : (P.info? e).map (fun i => (i.zero, i.size, i.bytes)) = some (some z, 1, bytes))
    (hzs : z.cells.size = 1) (v : Value) (n : Nat) (xs : List Value) (u : Value) (B : Nat) (hs : a.eval s = v) (hx : a.eval x = .slice (some ⟨B, 0, none⟩) 1 1)
    (hown : w.ownsRow base e 1 v n xs) (hB : w.cell? ⟨B, 0, none⟩ = some u) (hu : u.oneCell' = true) (hn : n ≤ 1099511627776) (hb : bytes ≤ 64) (hbase : base ≤ w.heap.size)
    (h : ∀ g cap w', base ≤ g → w'.ownsRow base e 1 (.slice (some ⟨g, 0, none⟩) (n + 1) cap) (n + 1) (xs ++ [u]) → Below base w w' → Keeps w w' v g →
      K (a.put o.dst (.slice (some ⟨g, 0, none⟩) (n + 1) cap)) w') :
    if Region.wanted o (yielded ops a.tmps) = true then Oper.wp P o a w K Q else E := by
  obtain ⟨i, hi, hz, hsz, hby⟩ := info_parts hinfo
  refine step_append_lies w hgd s x t ho base e i z 1 bytes ht hi hz hsz hby hzs (by decide) v n xs hs hown ⟨B, 0, none⟩ 1 1 [u] hx rfl ?_ ?_ (by decide) ?_ ?_ hbase w.heap.size rfl ?_
  · intro j u' hj
    match j, hj with
    | 0, hj => simp at hj; subst hj; exact hB
  · intro u' hu'; simp at hu'; subst hu'; exact hu
  · simp [maxLen]; omega
  · have : (n + 1) * bytes ≤ (n + 1) * 64 := Nat.mul_le_mul_left _ hb
    omega
  · intro g cap w' ho' hg hl hs'
    exact h g cap w' (own_lt ho').1 ho' ((Below.refl _ _).grown hg hbase (fun k hk => (hown.lt k hk).1)) (keeps_of hg hl hs')

/-- 'append(v, u...)', u a slice of ints that is not empty, with what it keeps. -/
theorem step_appendK {P : Program} {ops : Array Oper} {o : Oper} {a : Act} {w : World} {K : Act → World → Prop} {Q : Exit → Act → World → Prop} {E : Prop} (hgd : o.guard = none) (s x : Operand) (t : TypeId)
    (ho : o.op = .call { callee := .builtin .append, args := #[s, x], argTypes := #[t, t] })
    (base : Nat) (e : TypeId) (ht : P.underlying t = some (.slice e)) (hinfo : (P.info? e).map (fun i => (i.zero, i.size, i.bytes)) = some (some (.int .i64 0), 1, 8))
    (v : Value) (n : Nat) (xs : List Int) (u : Value) (zs : List Int) (hs : a.eval s = v) (hx : a.eval x = u)
    (m : Nat) (hm : n + zs.length = m) (hown : w.ownsRow base e 1 v n (xs.map (Value.int .i64))) (hu : IntS w u zs) (hz0 : 1 ≤ zs.length) (hn : n + zs.length ≤ 1099511627776) (hbase : base ≤ w.heap.size)
    (h : ∀ g cap w', base ≤ g → w'.ownsRow base e 1 (.slice (some ⟨g, 0, none⟩) m cap) m ((xs ++ zs).map (Value.int .i64)) → Below base w w' → Keeps w w' v g →
      K (a.put o.dst (.slice (some ⟨g, 0, none⟩) m cap)) w') :
    if Region.wanted o (yielded ops a.tmps) = true then Oper.wp P o a w K Q else E := by
  subst hm
  obtain ⟨i, hi, hz, hsz, hby⟩ := info_parts hinfo
  obtain ⟨_, ao, cap, rfl, h1, h2, h3⟩ := hu
  rcases h3 with ⟨rfl, _⟩ | ⟨b, off, rfl, _, h4⟩
  · simp at hz0
  refine step_append_lies w hgd s x t ho base e i (.int .i64 0) 1 8 ht hi hz hsz hby rfl (by decide) v n _ hs hown ⟨b, off, none⟩ zs.length cap (zs.map (Value.int .i64)) hx (by simp) ?_ (ints_oneCell _ _) hz0 ?_ ?_ hbase w.heap.size rfl ?_
  · intro j u' hj
    have hjl : j < zs.length := by have := (List.getElem?_eq_some_iff.1 hj).1; simpa using this
    rw [Addr.add_lit, h4 j hjl]
    rw [List.getElem?_map] at hj
    simp [List.getD, List.getElem?_eq_getElem hjl] at hj ⊢
    exact hj
  · simp [maxLen]; omega
  · omega
  · intro g cap w' ho' hg hl hs'
    exact h g cap w' (own_lt ho').1 (by rw [List.map_append]; exact ho') ((Below.refl _ _).grown hg hbase (fun k hk => (hown.lt k hk).1)) (keeps_of hg hl hs')

theorem IntS.take {w : World} {ao : Option Addr} {n cap : Nat} {zs : List Int} (h : IntS w (.slice ao n cap) zs) {m : Nat} (hm : m ≤ n) : IntS w (.slice ao m cap) (zs.take m) := by
  obtain ⟨hz, ao', cap', e, h1, h2, h3⟩ := h
  injection e with e1 e2 e3
  subst e1; subst e2; subst e3
  have hl : (zs.take m).length = m := by simp; omega
  refine ⟨fun z hz' => hz z (List.mem_of_mem_take hz'), ao, cap, by rw [hl], by omega, h2, ?_⟩
  rcases h3 with ⟨rfl, h3⟩ | ⟨b, off, h3, h4, h5⟩
  · exact .inl ⟨by simp, h3⟩
  · refine .inr ⟨b, off, h3, h4, fun j hj => ?_⟩
    rw [hl] at hj
    rw [h5 j (by omega)]
    simp [List.getD, List.getElem?_take, hj]

theorem IntS.part {w : World} {b off n cap : Nat} {zs : List Int} (h : IntS w (.slice (some ⟨b, off, none⟩) n cap) zs) {i m : Nat} (hm : i + m ≤ n) (h0 : 1 ≤ m) : IntS w (.slice (some ⟨b, off + i, none⟩) m (cap - i)) ((zs.drop i).take m) := by
  obtain ⟨hz, ao', cap', e, h1, h2, h3⟩ := h
  injection e with e1 e2 e3
  subst e1; subst e2; subst e3
  have hl : ((zs.drop i).take m).length = m := by simp; omega
  refine ⟨fun z hz' => hz z (List.mem_of_mem_drop (List.mem_of_mem_take hz')), _, cap - i, by rw [hl], by omega, by unfold maxLen at *; omega, ?_⟩
  rcases h3 with ⟨rfl, h3⟩ | ⟨b', off', h3, h4, h5⟩
  · simp at hm; omega
  · injection h3 with h3; injection h3 with e1 e2; subst e1; subst e2
    refine .inr ⟨b, off + i, rfl, h4, fun j hj => ?_⟩
    rw [hl] at hj
    rw [Nat.add_assoc, h5 (i + j) (by omega)]
    simp [List.getD, List.getElem?_take, hj]

theorem IntS.addr {w : World} {v : Value} {zs : List Int} (h : IntS w v zs) (hn : 1 ≤ zs.length) : ∃ b off cap, v = .slice (some ⟨b, off, none⟩) zs.length cap ∧ zs.length ≤ cap ∧ cap ≤ maxLen ∧ b < w.heap.size ∧ ∀ j, j < zs.length → w.cell? ⟨b, off + j, none⟩ = some (.int .i64 (zs.getD j 0)) := by
  obtain ⟨hz, ao', cap', rfl, h1, h2, h3⟩ := h
  rcases h3 with ⟨rfl, h3⟩ | ⟨b, off, rfl, h4, h5⟩
  · simp at hn
  · exact ⟨b, off, cap', rfl, h1, h2, h4, h5⟩
end Go.Proofs.Ytmmggbcmailbiaa
