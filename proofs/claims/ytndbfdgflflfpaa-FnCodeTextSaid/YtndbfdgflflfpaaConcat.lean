/- slices.Grow of the nil slice, slices.Concat of two slices of ints. -/
import Derived.Test.YtndbfdgflflfpaaRows
import Derived.Test.YtndbfdgflflfpaaOwn
import Derived.Test.YtndbfdgflflfpaaInts
import Derived.Lib.AppendZerosOnto
import Derived.Lib.AppendZeros
import Derived.Outline
namespace Go.Proofs.Ytndbfdgflflfpaa
open Go.RowKit

set_option maxHeartbeats 400000 in
theorem grow_nil (n : Nat) (w : World) (hn : n ≤ 1000000000) :
    Calls Try.prog 86 #[.slice none 0 0, .int .i64 n] w fun e w' => ∃ v, e = .returned v ∧ w'.ownsRow w.heap.size 3 1 v 0 [] ∧ Below w.heap.size w w' := by
  by_cases h0 : n = 0
  · subst h0
    go_enter Try.func86, Try.ntmps86
    go_wp2
    go_ret
    exact ⟨_, rfl, World.ownsRow_nil _ _ _ _, Below.refl _ _⟩
  · obtain ⟨i, hi, hz, hsz, hby⟩ := info_parts infoInt
    have hold : (Builtin.firstCells i.size 0 (.slice none 0 0)).run Try.prog w.drew = .ok #[] w.drew := run_firstCells_none w.drew i.size 0 0 0
    have hn1 : 1 ≤ n := by omega
    have hrz : ∀ ty, (Builtin.append_ #[22, 3] ty #[.slice none 0 0, .int .i64 n]).run Try.prog w = .ok (.slice (some ⟨w.heap.size, 0, none⟩) n (grownCap w n 0 3))
        (w.drew.alloc (.cells (#[] ++ Builtin.zeroCells (Value.int .i64 0).cells n ++ Builtin.zeroCells (Value.int .i64 0).cells (grownCap w n 0 3 - n)) 3)) := fun ty => by
      have h := Lib.run_append_grow_zeros w 22 3 ty 3 i (.int .i64 0) .i64 .i64 Try.underlying22 Try.underlying3 hi hz none 0 0 [] hold n (by omega) (by omega) (by omega) (by omega)
        (by rw [hby]; omega) (by rw [Nat.zero_add, hby]; exact growslice_fits (by omega) (by omega))
      simpa using h
    have hGn : n ≤ grownCap w n 0 3 := grownCap_ge w _ _ _
    have hG63 := grownCap_le_maxLen w n 0 3 (by unfold maxLen; omega)
    obtain ⟨G, hG⟩ : ∃ G, G = grownCap w n 0 3 := ⟨_, rfl⟩
    rw [← hG] at hrz hGn hG63
    have HZ := hidI hrz
    have hmax : G ≤ 9223372036854775807 := by unfold maxLen at hG63; omega
    have HM := hidI hG63
    clear hG hold h0 hi hz hsz hby hrz hG63
    go_enter Try.func86, Try.ntmps86
    go_wp2_with (at_builtin; refine Lib.wpList_append_run _ rfl _ _ 22 3 rfl (.slice none 0 0) (.int .i64 n) rfl rfl _ _ (HZ.out _) ?_)
    go_ret
    refine ⟨_, rfl, World.ownsRow_made w.drew _ G (Nat.le_refl _) HM.out ?_, (Below.refl _ _).drew.alloc (Nat.le_refl _) _⟩
    simp [size_zeroCells, Value.cells]
    omega

set_option maxHeartbeats 1000000 in
/-- slices.Concat(a, b): a new slice, or nil if both are empty. -/
theorem concat_two (xs ys : List Int) (va vb : Value) (b : Nat) (w : World) (hx : IntS w va xs) (hy : IntS w vb ys) (hl : xs.length + ys.length ≤ 100000000)
    (ha : w.cell? ⟨b, 0, none⟩ = some va) (hb : w.cell? ⟨b, 1, none⟩ = some vb) (hlt : b < w.heap.size) :
    Calls Try.prog 66 #[.slice (some ⟨b, 0, none⟩) 2 2] w fun e w' => ∃ v, e = .returned v ∧ w'.ownsRow w.heap.size 3 1 v (xs ++ ys).length ((xs ++ ys).map (Value.int .i64)) ∧ Below w.heap.size w w' := by
  obtain ⟨ca, aa, e1, k1⟩ : ∃ ca aa, va = .slice aa xs.length ca ∧ xs.length ≤ ca := by obtain ⟨_, a, c, h1, h2, _⟩ := hx; exact ⟨c, a, h1, h2⟩
  obtain ⟨cb, ab, e2, k2⟩ : ∃ cb ab, vb = .slice ab ys.length cb ∧ ys.length ≤ cb := by obtain ⟨_, a, c, h1, h2, _⟩ := hy; exact ⟨c, a, h1, h2⟩
  subst e1; subst e2
  go_enter Try.func66, Try.ntmps66
  go_wp2_with fail
  refine wp_loop_rounds 3 ?_
  rw [rounds_succ]
  go_wp2_with fail
  rw [rounds_succ]
  go_wp2_with fail
  rw [rounds_succ]
  go_wp2_with fail
  rw [show ((xs.length : Int) + (ys.length : Int)) = ((xs.length + ys.length : Nat) : Int) from by omega]
  refine (grow_nil (xs.length + ys.length) _ (by omega)).mono ?_
  rintro e w1 ⟨v, rfl, ho, hb1⟩
  have HO := hidI ho; clear ho
  have hx1 := hx.below hb1
  have hy1 := hy.below hb1
  have ha1 : w1.cell? ⟨b, 0, none⟩ = some (.slice aa xs.length ca) := (hb1.cell (p := ⟨b, 0, none⟩) hlt).trans ha
  have hbb1 : w1.cell? ⟨b, 1, none⟩ = some (.slice ab ys.length cb) := (hb1.cell (p := ⟨b, 1, none⟩) hlt).trans hb
  have hs1 := hb1.size
  go_wp2_with fail
  refine wp_loop_rounds 3 ?_
  rw [rounds_succ]
  go_wp2_with (at_builtin; refine wpList_appendS _ rfl _ _ 22 rfl w.heap.size 3 Try.underlying22 infoInt v 0 [] (.slice aa xs.length ca) xs rfl rfl HO.out hx1 (by omega) hs1 ?_)
  intro v2 w2 ho2 hb2 hg2 _
  (try simp only [Nat.zero_add, List.nil_append] at ho2)
  have HO2 := hidI ho2; clear ho2
  have hb2' := hb2 _ hb1
  have HG := hidI hg2; clear hg2 hb2
  have hs2 := hb2'.size
  have hbb2 : w2.cell? ⟨b, 1, none⟩ = some (.slice ab ys.length cb) := (hb2'.cell (p := ⟨b, 1, none⟩) hlt).trans hb
  have hy2 := hy.below hb2'
  go_wp2_with fail
  rw [rounds_succ]
  go_wp2_with (at_builtin; refine wpList_appendS _ rfl _ _ 22 rfl w.heap.size 3 Try.underlying22 infoInt v2 xs.length xs (.slice ab ys.length cb) ys rfl rfl HO2.out hy2 (by omega) hs2 ?_)
  intro v3 w3 ho3 hb3 hg3 _
  have HO3 := hidI ho3; clear ho3
  have hb3' := hb3 _ hb2'
  clear hg3 hb3
  go_wp2_with fail
  rw [rounds_succ]
  go_wp2_with fail
  go_ret
  exact ⟨_, rfl, by rw [List.length_append, List.map_append]; exact HO3.out, hb3'⟩
end Go.Proofs.Ytndbfdgflflfpaa
