/- The laws' helpers on deeds: szDeed, toDeed, eqDeed; the reading of a deed. -/
import Derived.Test.YtndbfdgflflfpaaDeed
import Derived.Test.YtndbfdgflflfpaaOpen
import Derived.Lib.SmallJoins
import Derived.Deep.RegionHeld3
import Derived.Outline
namespace Go.Proofs.Ytndbfdgflflfpaa
open Go.RowKit Go.ChangeShapes Go.WideShapes Go.ChangeAt Go.Joins

def szInts (n : Nat) (left : Int) : Int := if n ≤ left then left - n else -1

theorem szIntS_any (zs : List Int) (v : Value) (left : Int) (w : World) (h : IntS w v zs) (h0 : 0 ≤ left) (h1 : left ≤ 1048576) :
    Calls Try.prog 38 #[v, .int .i64 left] w fun e w' => e = .returned (.int .i64 (szInts zs.length left)) ∧ w = w' := by
  obtain ⟨hz, ao, cap, rfl, hcap, hmax, -⟩ := h
  unfold maxLen at hmax
  by_cases hl : (zs.length : Int) ≤ left
  · have HF := hidI (show szInts zs.length left = left - zs.length by unfold szInts; rw [if_pos hl])
    go_enter Try.func38, Try.ntmps38
    go_wp2
    go_ret
    exact ⟨ret_int HF.out.symm, rfl⟩
  · have HF := hidI (show szInts zs.length left = -1 by unfold szInts; rw [if_neg hl])
    go_enter Try.func38, Try.ntmps38
    go_wp2
    go_ret
    exact ⟨ret_int HF.out.symm, rfl⟩

theorem szInts_le {n : Nat} {left : Int} (h0 : 0 ≤ left) (h : ¬ szInts n left < 0) : (n : Int) ≤ left ∧ szInts n left = left - n := by
  unfold szInts at *
  by_cases c : (n : Int) ≤ left
  · rw [if_pos c] at *; exact ⟨c, rfl⟩
  · rw [if_neg c] at h; omega

theorem szDeed_any (d : DeedM) (v : Value) (left : Int) (w : World) (h : IsDeed w v d) (h0 : 0 ≤ left) (h1 : left ≤ 1048576) :
    Calls Try.prog 67 #[v, .int .i64 left] w fun e w' => e = .returned (.int .i64 (szInts d.need.length left)) ∧ Below w.heap.size w w' := by
  obtain ⟨ao, l, cp, rfl, hn, _⟩ := h
  have HA := hidI (hn.below ((Below.refl _ _).alloc (Nat.le_refl _) (.cells #[.slice ao l cp, .int .i64 d.on, .int .i64 d.off, .int .i64 d.flip] 90)))
  by_cases hl : (d.need.length : Int) ≤ left
  · have HF := hidI (show szInts d.need.length left = left - d.need.length by unfold szInts; rw [if_pos hl])
    go_enter Try.func67, Try.ntmps67
    go_wp2_with (go_at_call 38; refine (szIntS_any _ _ _ _ HA.out h0 h1).mono ?_; rintro e w' ⟨rfl, rfl⟩; rw [HF.out])
    go_ret
    exact ⟨ret_int HF.out.symm, (Below.refl _ _).alloc (Nat.le_refl _) _⟩
  · have HF := hidI (show szInts d.need.length left = -1 by unfold szInts; rw [if_neg hl])
    go_enter Try.func67, Try.ntmps67
    go_wp2_with (go_at_call 38; refine (szIntS_any _ _ _ _ HA.out h0 h1).mono ?_; rintro e w' ⟨rfl, rfl⟩; rw [HF.out])
    go_ret
    exact ⟨ret_int HF.out.symm, (Below.refl _ _).alloc (Nat.le_refl _) _⟩

set_option maxHeartbeats 400000 in
theorem toDeed_any (d : DeedM) (v : Value) (w : World) (h : IsDeed w v d) (hl : d.need.length ≤ 4000000) :
    Calls Try.prog 69 #[v] w fun e w' => ∃ v', e = .returned v' ∧ IsDeed w' v' d ∧ Below w.heap.size w w' ∧ ∃ g n, v' = .agg #[.slice (some ⟨g, 0, none⟩) n n, .int .i64 d.on, .int .i64 d.off, .int .i64 d.flip] ∧ w.heap.size ≤ g := by
  obtain ⟨ao, l, cp, rfl, hn, hI⟩ := h
  go_enter Try.func69, Try.ntmps69
  go_wp2_with fail
  refine (toIntS_ex d.need _ _ (hn.below ((((Below.refl _ _).alloc (Nat.le_refl _) _).alloc (by simp) _).alloc (by simp only [World.size_alloc]; omega) _)) hl).mono ?_; rintro e w1 ⟨rfl, rfl⟩
  go_wp2_with fail
  go_returns
  refine ⟨_, rfl, ⟨_, _, _, rfl, ?_, hI⟩, ?_, _, _, rfl, by omega⟩
  · refine IntS.ofRow (t := 3) (f := fun j => .int .i64 (d.need.getD j 0)) ?_ (fun _ _ => rfl) hn.1 (by unfold maxLen; omega)
    have h3 : ∀ (W : World), W.heap.size = w.heap.size + 3 → (W.alloc (.cells (intCells d.need) 3)).rowIs (w.heap.size + 3) 3 d.need.length (fun j => .int .i64 (d.need.getD j 0)) := fun W h => by rw [← h]; exact row_intCells _ _ _
    exact h3 _ (by simp)
  · exact ((((Below.refl _ _).alloc (Nat.le_refl _) _).alloc (by simp) _).alloc (by simp only [World.size_alloc]; omega) _).alloc (by simp only [World.size_alloc]; omega) _

theorem eqDeed_any (d : DeedM) (v u : Value) (w : World) (h : IsDeed w v d) (h' : IsDeed w u d) :
    Calls Try.prog 71 #[v, u] w fun e w' => e = .returned (.bool true) ∧ Below w.heap.size w w' := by
  obtain ⟨ao, l, cp, rfl, hn, hI⟩ := h
  obtain ⟨ao', l', cp', rfl, hu, _⟩ := h'
  have b1 := ((Below.refl w.heap.size w).alloc (Nat.le_refl _) (.cells #[.slice ao l cp, .int .i64 d.on, .int .i64 d.off, .int .i64 d.flip] 46)).alloc (by simp) (.cells #[.slice ao' l' cp', .int .i64 d.on, .int .i64 d.off, .int .i64 d.flip] 46)
  have HA := hidI (hn.below b1)
  have HB := hidI (hu.below b1)
  have HC := hidI b1; clear b1
  go_enter Try.func71, Try.ntmps71
  go_wp2_with fail
  refine (eqIntS_any _ _ _ _ _ HA.out HB.out).mono ?_; rintro e w' ⟨rfl, n, rfl⟩
  simp only [decide_true]
  go_wp2_with fail
  go_ret
  exact ⟨rfl, HC.out.trans ((bdraw _ n).mono (by simp only [World.size_alloc]; omega))⟩

set_option maxRecDepth 100000 in
/-- An argument of the laws' type Deed. -/
theorem open_Deed {H : Type} {enc : TypeId × Value → H} {W : World} {base : Nat} {v : Value} {d : DataW H} {p : List MemPlace}
    (hok : Value.okWide Try.prog W .any base 90 v) (h : DataW.Trod enc Try.prog W 0 (fun _ => true) true 90 v d p) (hlt : ∀ x ∈ p, x.block < W.heap.size) : ∃ m, IsDeed W v m := by
  obtain ⟨v0, v1, v2, v3, y0, y1, y2, y3, n, rfl, rfl, rfl, h0, h1, h2, h3⟩ := open_agg4 Try.underlying90 (by kernel_rfl) (by kernel_rfl) hok h
  obtain ⟨zs, hz⟩ := open_IntS_cs h0 (fun x hx => hlt x (by simp [hx]))
  obtain ⟨a, rfl, ha⟩ := open_I64_cs h1
  obtain ⟨b, rfl, hb⟩ := open_I64_cs h2
  obtain ⟨c, rfl, hc⟩ := open_I64_cs h3
  obtain ⟨ao, cp, e⟩ : ∃ ao cp, v0 = .slice ao zs.length cp := by obtain ⟨_, a, c, h1, _⟩ := hz; exact ⟨a, c, h1⟩
  subst e
  exact ⟨⟨zs, a, b, c⟩, _, _, _, rfl, hz, ha, hb, hc⟩
end Go.Proofs.Ytndbfdgflflfpaa
