/- Drawn tasks as the laws get them. -/
import Derived.Test.YtndbfdgflflfpaaDrawT
import Derived.Outline
namespace Go.Proofs.Ytndbfdgflflfpaa
open Go.RowKit

theorem de_ints {w : World} {base : Nat} {e : DE} (h : e.ok w base) : ∃ zs, IntS w (.slice e.ao e.l e.cp) zs ∧ zs.length ≤ 4 := by
  obtain ⟨h1, h2, -⟩ := h
  rcases h1 with ⟨a, b, c⟩ | ⟨g, a, h3⟩
  · rw [a, b, c]; exact ⟨[], IntS.nil w, by simp⟩
  · obtain ⟨zs, hz, hi⟩ := h3.ints
    rw [a]; exact ⟨zs, hi, by omega⟩

theorem row_deeds (w : World) (base : Nat) : ∀ es : List DE, (∀ e ∈ es, e.ok w base) → ∃ ds : List DeedM, ds.length = es.length ∧ (∀ d ∈ ds, d.need.length ≤ 4) ∧
    ∀ (k : Nat) (d : DeedM), ds[k]? = some d → ∃ e : DE, es[k]? = some e ∧ d.on = e.a ∧ d.off = e.b ∧ d.flip = e.c ∧ IntS w (.slice e.ao e.l e.cp) d.need ∧ I64 e.a ∧ I64 e.b ∧ I64 e.c
  | [], _ => ⟨[], rfl, by simp, by simp⟩
  | e :: es, h => by
    obtain ⟨ds, h1, h2, h3⟩ := row_deeds w base es (fun x hx => h x (List.mem_cons_of_mem _ hx))
    have he := h e (List.mem_cons_self ..)
    obtain ⟨zs, hz, hl⟩ := de_ints he
    obtain ⟨-, -, q1, q2, q3⟩ := he
    refine ⟨⟨zs, e.a, e.b, e.c⟩ :: ds, by simp [h1], fun d hd => ?_, fun k d hk => ?_⟩
    · rcases List.mem_cons.1 hd with rfl | hd
      · exact hl
      · exact h2 d hd
    · cases k with
      | zero =>
        simp at hk; subst hk
        exact ⟨e, by simp, rfl, rfl, rfl, hz, by unfold I64; omega, by unfold I64; omega, by unfold I64; omega⟩
      | succ k =>
        obtain ⟨e', a1, a2⟩ := h3 k d (by simpa using hk)
        exact ⟨e', by simpa using a1, a2⟩

theorem drow_len {w : World} {base l cp : Nat} {ao : Option Addr} {es : List DE} (h : DRow w base (.slice ao l cp) es) : l = es.length := by
  rcases row_shape h.1 with ⟨h1, h2⟩ | ⟨g, cap, c, h1, _⟩
  · injection h1 with _ e _; omega
  · injection h1 with _ e _

theorem drow_deeds {w : World} {base l cp : Nat} {ao : Option Addr} {es : List DE} (h : DRow w base (.slice ao l cp) es) : ∃ ds, DeedS w (.slice ao l cp) ds ∧ ds.length = es.length ∧ ∀ d ∈ ds, d.need.length ≤ 4 := by
  obtain ⟨ds, h1, h2, h3⟩ := row_deeds w base es h.2
  have hl := drow_len h
  refine ⟨ds, ?_, h1, h2⟩
  rcases h.1.2 with ⟨h4, h5⟩ | ⟨g, cap, cur, h4, h5, h6, h7, h8, h9, h10⟩
  · injection h4 with e1 e2 e3
    subst e1; subst e2; subst e3
    have : ds = [] := List.eq_nil_of_length_eq_zero (by omega)
    subst this
    exact ⟨none, 0, rfl, by simp, by simp, .inl ⟨rfl, fun _ => rfl⟩⟩
  · injection h4 with e1 e2 e3
    subst e1; subst e2; subst e3
    refine ⟨_, _, by rw [h1], by omega, h8, .inr ⟨g, 0, rfl, (Array.getElem?_eq_some_iff.1 h6).1, fun k d hk => ?_⟩⟩
    obtain ⟨e, he, a1, a2, a3, a4, i1, i2, i3⟩ := h3 k d hk
    have hc : ∀ i, i < 4 → ∀ u, e.cells[i]? = some u → w.cell? ⟨g, 0 + k * 4 + i, none⟩ = some u := fun i hi u hu => by
      have := h.1.cells (g := g) rfl (k * 4 + i) u ((rowCells_at es k e he i hi).trans hu)
      simpa [Addr.add_lit] using this
    refine ⟨e.ao, e.l, e.cp, hc 0 (by omega) _ rfl, ?_, ?_, ?_, ?_⟩
    · rw [a1]; exact hc 1 (by omega) _ rfl
    · rw [a2]; exact hc 2 (by omega) _ rfl
    · rw [a3]; exact hc 3 (by omega) _ rfl
    · exact ⟨_, _, _, by rw [a1, a2, a3], a4, by rw [a1]; exact i1, by rw [a2]; exact i2, by rw [a3]; exact i3⟩

/-- A task as it is drawn. -/
def Drawn (w : World) (s : Int) (g n cap l cp : Nat) (ao : Option Addr) (t : TaskM) : Prop :=
  IsTask w (.agg #[.int .i64 s, .slice (some ⟨g, 0, none⟩) n cap, .slice ao l cp]) t ∧ t.start = s ∧ t.goal.length = n ∧ n ≤ 6 ∧ t.deeds.length = l ∧ l ≤ 7 ∧ ∀ d ∈ t.deeds, d.need.length ≤ 4

theorem drawn_of {w : World} {base g n cap l cp : Nat} {s : Int} {ao : Option Addr} {es : List DE} (HO : OutS w base g n cap) (HD : DRow w base (.slice ao l cp) es) (hs : -1 ≤ s ∧ s ≤ 32) (hn : n ≤ 6) (he : es.length ≤ 7) : ∃ t, Drawn w s g n cap l cp ao t := by
  obtain ⟨zs, hz, hi⟩ := HO.ints
  obtain ⟨ds, hd, hdl, hdn⟩ := drow_deeds HD
  have hl := drow_len HD
  exact ⟨⟨s, zs, ds⟩, ⟨_, _, _, _, _, _, rfl, by show I64 s; unfold I64; omega, hi, hd⟩, rfl, hz, hn, by show ds.length = l; omega, by omega, hdn⟩

theorem Drawn.below {w w' : World} {s : Int} {g n cap l cp : Nat} {ao : Option Addr} {t : TaskM} (h : Drawn w s g n cap l cp ao t) (hb : Below w.heap.size w w') : Drawn w' s g n cap l cp ao t :=
  ⟨h.1.below hb, h.2⟩

end Go.Proofs.Ytndbfdgflflfpaa
