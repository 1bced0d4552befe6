/- The form's reading of a task. -/
import Derived.Test.YtndbfdgflflfpaaTaskL
import Derived.Outline
namespace Go.Proofs.Ytndbfdgflflfpaa
open Go.RowKit Go.ChangeShapes Go.WideShapes Go.ChangeAt Go.Joins

theorem four_of {α : Type} {cs : List α} (h : cs.length = 4) : ∃ a b c d, cs = [a, b, c, d] := by
  match cs, h with
  | [a, b, c, d], _ => exact ⟨a, b, c, d, rfl⟩

theorem cellsDeed : Try.prog.cellsOf 90 = 4 := by kernel_rfl
theorem cellsSlice : Try.prog.cellsOf 22 = 1 := by kernel_rfl

theorem open_Deed_cs {H : Type} {enc : TypeId × Value → H} {W : World} {fuel : Nat} {cs : List Value} {y : DataW H × List MemPlace}
    (hf : DataW.trod enc Try.prog W 0 (fun _ => true) true fuel 90 cs = some y) (hlt : ∀ x ∈ y.2, x.block < W.heap.size) :
    ∃ so l cp m, cs = [.slice so l cp, .int .i64 m.on, .int .i64 m.off, .int .i64 m.flip] ∧ IsDeed W (.agg #[.slice so l cp, .int .i64 m.on, .int .i64 m.off, .int .i64 m.flip]) m := by
  obtain ⟨y0, y1, y2, y3, n, rfl, hl, h0, h1, h2, h3⟩ := trod_struct4 Try.underlying90 hf
  obtain ⟨v0, v1, v2, v3, rfl⟩ := four_of (hl.trans cellsDeed)
  simp only [cellsSlice, cellsInt, List.drop_zero, List.drop_succ_cons, List.take_succ_cons, List.take_zero] at h0 h1 h2 h3
  obtain ⟨zs, hz⟩ := open_IntS_cs h0 (fun x hx => hlt x (by simp [hx]))
  obtain ⟨a, rfl, ha⟩ := open_I64_cs h1
  obtain ⟨b, rfl, hb⟩ := open_I64_cs h2
  obtain ⟨c, rfl, hc⟩ := open_I64_cs h3
  obtain ⟨ao, cp, e⟩ : ∃ ao cp, v0 = .slice ao zs.length cp := by obtain ⟨_, a, c, h1, _⟩ := hz; exact ⟨a, c, h1⟩
  subst e
  exact ⟨_, _, _, ⟨zs, a, b, c⟩, rfl, _, _, _, rfl, hz, ha, hb, hc⟩

theorem choose_list {α : Type} {n : Nat} {P : Nat → α → Prop} (h : ∀ k, k < n → ∃ a, P k a) : ∃ l : List α, l.length = n ∧ ∀ k a, l[k]? = some a → P k a := by
  induction n with
  | zero => exact ⟨[], rfl, by simp⟩
  | succ n ih =>
    obtain ⟨l, hl, hp⟩ := ih (fun k hk => h k (by omega))
    obtain ⟨a, ha⟩ := h n (by omega)
    refine ⟨l ++ [a], by simp [hl], fun k b hk => ?_⟩
    by_cases hkn : k < n
    · rw [List.getElem?_append_left (by omega)] at hk; exact hp k b hk
    · have hk2 : k < (l ++ [a]).length := (List.getElem?_eq_some_iff.1 hk).1
      simp [hl] at hk2
      obtain rfl : k = n := by omega
      rw [List.getElem?_append_right (by omega)] at hk
      simp [hl] at hk
      subst hk; exact ha

theorem open_DeedS_cs {H : Type} {enc : TypeId × Value → H} {W : World} {fuel : Nat} {v : Value} {y : DataW H × List MemPlace}
    (hf : DataW.trod enc Try.prog W 0 (fun _ => true) true fuel 28 [v] = some y) (hlt : ∀ x ∈ y.2, x.block < W.heap.size) : ∃ ds, DeedS W v ds := by
  rcases DataW.trod_slice Try.underlying28 hf with ⟨hcs, hx⟩ | ⟨a, len, cap, elems, rest, n, _, hcs, rfl, hb, hl, hm, hlen, hel, _⟩
  · obtain rfl : v = .slice none 0 0 := by simpa using hcs
    exact ⟨[], none, 0, rfl, by simp, by simp, .inl ⟨rfl, fun _ => rfl⟩⟩
  · obtain rfl : v = .slice (some a) len cap := by simpa using hcs
    by_cases h0 : len = 0
    · subst h0
      exact ⟨[], _, _, rfl, by simp, hm, .inl ⟨rfl, fun h => by cases h⟩⟩
    · obtain ⟨b, off, spot⟩ := a
      have raw : ∀ k, k < len → ∃ so l cp m, b < W.heap.size ∧ (∀ i, i < 4 → W.cell? (((⟨b, off, spot⟩ : Addr).add (k * 4)).add i) = [Value.slice so l cp, .int .i64 m.on, .int .i64 m.off, .int .i64 m.flip][i]?) ∧ IsDeed W (.agg #[.slice so l cp, .int .i64 m.on, .int .i64 m.off, .int .i64 m.flip]) m := by
        intro k hk
        have h1 := hel k hk
        rw [cellsDeed, List.getElem?_eq_getElem (by omega)] at h1
        obtain ⟨cs, h2, h3⟩ := Option.bind_eq_some_iff.1 h1
        obtain ⟨so, l, cp, m, rfl, hD⟩ := open_Deed_cs h3 (fun x hx => hlt x (by
          refine List.mem_append_right _ (List.mem_flatMap.2 ⟨elems[k], List.mem_append_left _ (List.getElem_mem _), hx⟩)))
        have hbl := World.cells?_block h2 (by omega)
        obtain ⟨hb', hl4, hc⟩ := World.cells?_some h2
        refine ⟨so, l, cp, m, ?_, hc, hD⟩
        by_cases e : k * 4 = 0
        · rw [e] at hbl; simpa [Addr.add] using hbl
        · simpa [Addr.add, e] using hbl
      have hspot : spot = none := by
        obtain ⟨so, l, cp, m, _, hc, _⟩ := raw 0 (by omega)
        have := hc 0 (by omega)
        simpa [Addr.add] using World.cell?_spot (by simpa [Addr.add] using this)
      subst hspot
      have each : ∀ k, k < len → ∃ d : DeedM, b < W.heap.size ∧ ∃ so l cp, W.cell? ⟨b, off + k * 4, none⟩ = some (.slice so l cp) ∧ W.cell? ⟨b, off + k * 4 + 1, none⟩ = some (.int .i64 d.on) ∧ W.cell? ⟨b, off + k * 4 + 2, none⟩ = some (.int .i64 d.off) ∧ W.cell? ⟨b, off + k * 4 + 3, none⟩ = some (.int .i64 d.flip) ∧
          IsDeed W (.agg #[.slice so l cp, .int .i64 d.on, .int .i64 d.off, .int .i64 d.flip]) d := by
        intro k hk
        obtain ⟨so, l, cp, m, hbl, hc, hD⟩ := raw k hk
        simp only [add_plain] at hc
        exact ⟨m, hbl, so, l, cp, hc 0 (by omega), hc 1 (by omega), hc 2 (by omega), hc 3 (by omega), hD⟩
      obtain ⟨ds, hdl, hds⟩ := choose_list each
      have hbW := (each 0 (by omega)).choose_spec.1
      refine ⟨ds, some ⟨b, off, none⟩, cap, by rw [hdl], by omega, hm, .inr ⟨b, off, rfl, hbW, fun k d hk => (hds k d hk).2⟩⟩

set_option maxRecDepth 100000 in
/-- An argument of the laws' type Task. -/
theorem open_Task {H : Type} {enc : TypeId × Value → H} {W : World} {base : Nat} {v : Value} {d : DataW H} {p : List MemPlace}
    (hok : Value.okWide Try.prog W .any base 30 v) (h : DataW.Trod enc Try.prog W 0 (fun _ => true) true 30 v d p) (hlt : ∀ x ∈ p, x.block < W.heap.size) : ∃ t, IsTask W v t := by
  obtain ⟨v0, v1, v2, y0, y1, y2, n, rfl, rfl, rfl, h0, h1, h2⟩ := open_agg3 Try.underlying30 (by kernel_rfl) (by kernel_rfl) hok h
  obtain ⟨a, rfl, ha⟩ := open_I64_cs h0
  obtain ⟨zs, hz⟩ := open_IntS_cs h1 (fun x hx => hlt x (by simp [hx]))
  obtain ⟨ds, hd⟩ := open_DeedS_cs h2 (fun x hx => hlt x (by simp [hx]))
  obtain ⟨go, gc, e⟩ : ∃ ao cp, v1 = .slice ao zs.length cp := by obtain ⟨_, a, c, h1, _⟩ := hz; exact ⟨a, c, h1⟩
  obtain ⟨ao, cp, e'⟩ : ∃ ao cp, v2 = .slice ao ds.length cp := by obtain ⟨a, c, h1, _⟩ := hd; exact ⟨a, c, h1⟩
  subst e; subst e'
  exact ⟨⟨a, zs, ds⟩, _, _, _, _, _, _, rfl, ha, hz, hd⟩
end Go.Proofs.Ytndbfdgflflfpaa
