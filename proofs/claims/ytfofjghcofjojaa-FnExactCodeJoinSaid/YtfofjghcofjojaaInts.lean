/- The laws' helpers on slices of ints: toIntS copies, eqIntS compares. -/
import Derived.Test.YtfofjghcofjojaaRows
import Derived.Test.YtfofjghcofjojaaBase
import Derived.Deep.OwnRows
import Derived.Deep.QuietTactic
import Derived.BigQuiet
import Derived.Outline
namespace Go.Proofs.Ytfofjghcofjojaa
open Go.RowKit

theorem infoInt : (Try.prog.info? 3).map (fun i => (i.zero, i.size, i.bytes)) = some (some (.int .i64 0), 1, 8) := by kernel_rfl

/-- A row of the call's own, whole, reads as a slice. -/
theorem IntS.ofRow {w : World} {b : Nat} {t : TypeId} {zs : List Int} {f : Nat → Value} (h : w.rowIs b t zs.length f) (hf : ∀ j, j < zs.length → f j = .int .i64 (zs.getD j 0)) (hz : ∀ z ∈ zs, I64 z) (hm : zs.length ≤ maxLen) :
    IntS w (.slice (some ⟨b, 0, none⟩) zs.length zs.length) zs :=
  ⟨hz, _, _, rfl, Nat.le_refl _, hm, .inr ⟨b, 0, rfl, h.lt, fun j hj => by rw [Nat.zero_add, h.cell hj, hf j hj]⟩⟩

set_option maxHeartbeats 400000 in
/-- toIntS: a new slice that reads as the old one does. -/
theorem toIntS_any (zs : List Int) (v : Value) (w : World) (h : IntS w v zs) (hlen : zs.length ≤ 4000000) :
    Calls Try.prog 16 #[v] w fun e w' => e = .returned (.slice (some ⟨w.heap.size, 0, none⟩) zs.length zs.length) ∧ IntS w' (.slice (some ⟨w.heap.size, 0, none⟩) zs.length zs.length) zs ∧ w'.rowIs w.heap.size 3 zs.length (fun j => .int .i64 (zs.getD j 0)) ∧ Below w.heap.size w w' := by
  obtain ⟨hz, ao, cap, rfl, hcap, hmax, hcells⟩ := h
  have hmk := run_make_row' 22 3 (.int .i64 0) 8 Try.underlying22 infoInt rfl .i64 .i64 zs.length (by omega) (by omega)
  rcases hcells with ⟨rfl, _⟩ | ⟨b, off, rfl, hb, hc⟩
  · have hmk : ∀ w, (Instr.makeSlice 22 (.int .i64 0) (.int .i64 0)).run Try.prog w = .ok (.slice (some ⟨w.heap.size, 0, none⟩) 0 0) (w.alloc (.cells (madeCells #[.int .i64 0] 0) 3)) := fun w => run_make_row' 22 3 (.int .i64 0) 8 Try.underlying22 infoInt rfl .i64 .i64 0 (by omega) (by omega) w
    go_enter Try.func16, Try.ntmps16
    go_wp2
    go_rounds 1
    go_ret
    refine ⟨rfl, ?_, ?_, (Below.refl _ _).alloc (Nat.le_refl _) _⟩
    · exact IntS.ofRow (zs := []) (World.rowIs_made w _ 0 _) (by simp) (by simp) (by simp)
    · exact (World.rowIs_made w _ 0 _).congr (by omega)
  · unfold maxLen at hmax
    have HS := hidI (World.rowIs_made w (.int .i64 0) zs.length 3)
    go_enter Try.func16, Try.ntmps16
    go_wp2
    go_loopw [4] (fun i wr => ∃ k : Nat, k ≤ zs.length ∧ i = .int .i64 k ∧ Hid (wr.rowIs w.heap.size 3 zs.length (fun j => if j < k then .int .i64 (zs.getD j 0) else .int .i64 0)) ∧ Below w.heap.size w wr)
      (fun i _ => zs.length - (intOf i).toNat)
    case atStart =>
      exact ⟨0, by omega, rfl, hidI (HS.out.congr (by intro j hj; simp)), (Below.refl _ _).alloc (Nat.le_refl _) _⟩
    case round =>
      clear HS hmk
      obtain ⟨k, hk, rfl, HR, hbel⟩ := hrel
      obtain ⟨z, Hd, Hg, _⟩ := at_k zs k
      have hcell : k < zs.length → wr.cell? ⟨b, off + k, none⟩ = some (.int .i64 z) := fun h => by rw [← Hg.out h]; exact (hbel.cell (p := ⟨b, off + k, none⟩) hb).trans (hc k h)
      have hnew : k < zs.length → wr.cell? ⟨w.heap.size, k, none⟩ = some (.int .i64 0) := fun h => by rw [HR.out.cell h]; simp
      have hfz : wr.frozen? ⟨w.heap.size, k, none⟩ = false := HR.out.frozen k
      have Hc := hidI hc; clear hc
      go_wp2
      · have hlt : k < zs.length := by assumption
        go_roundw
        case rel =>
          refine ⟨k + 1, by omega, by go_num, hidI ((HR.out.set k _).congr ?_), hbel.setCell (by simp) _⟩
          intro j hj
          by_cases h1 : j = k
          · subst h1; simp [← Hg.out hlt]
          · simp only [h1, if_false]
            by_cases h2 : j < k
            · rw [if_pos h2, if_pos (by omega)]
            · rw [if_neg h2, if_neg (by omega)]
        case measure => simp [intOf]; omega
      · have hge : ¬ k < zs.length := by assumption
        go_ret
        have hrow := HR.out.congr (g := fun j => .int .i64 (zs.getD j 0)) (by intro j hj; rw [if_pos (by omega)])
        exact ⟨rfl, IntS.ofRow hrow (fun j hj => rfl) hz (by simp [maxLen]; omega), hrow, hbel⟩

theorem eq_drop {zs ys : List Int} {k : Nat} {a b : Int} {l m : List Int} (hz : zs.drop k = a :: l) (hy : ys.drop k = b :: m) (h : a ≠ b) : zs ≠ ys := by
  rintro rfl
  rw [hz] at hy
  exact h (List.cons.inj hy).1

theorem take_next {zs ys : List Int} {k : Nat} {z : Int} {l m : List Int} (h : zs.take k = ys.take k) (hz : zs.drop k = z :: l) (hy : ys.drop k = z :: m) : zs.take (k + 1) = ys.take (k + 1) := by
  have e1 : zs.take (k + 1) = zs.take k ++ (zs.drop k).take 1 := by rw [List.take_add]
  have e2 : ys.take (k + 1) = ys.take k ++ (ys.drop k).take 1 := by rw [List.take_add]
  rw [e1, e2, hz, hy, h]; rfl

set_option maxHeartbeats 400000 in
/-- eqIntS: the same numbers. -/
theorem eqIntS_any (zs ys : List Int) (v u : Value) (w : World) (h : IntS w v zs) (hu : IntS w u ys) :
    Calls Try.prog 18 #[v, u] w fun e w' => e = .returned (.bool (decide (zs = ys))) ∧ ∃ n, w' = w.drewN n := by
  obtain ⟨hz, ao, cap, rfl, hcap, hmax, hcells⟩ := h
  obtain ⟨hy, ao', cap', rfl, hcap', hmax', hcells'⟩ := hu
  unfold maxLen at hmax hmax'
  by_cases hl : zs.length = ys.length
  · rcases hcells with ⟨rfl, _⟩ | ⟨b, off, rfl, hb, hc⟩
    · obtain rfl : ys = [] := List.eq_nil_of_length_eq_zero hl.symm
      go_enter Try.func18, Try.ntmps18
      go_wp2
      go_rounds 1
      go_ret
      exact ⟨rfl, 0, rfl⟩
    · rcases hcells' with ⟨rfl, _⟩ | ⟨b', off', rfl, hb', hc'⟩
      · obtain rfl : zs = [] := List.eq_nil_of_length_eq_zero hl
        go_enter Try.func18, Try.ntmps18
        go_wp2
        go_rounds 1
        go_ret
        exact ⟨rfl, 0, rfl⟩
      · have HL := hidI hl; clear hl
        have hle : zs.length ≤ ys.length := by rw [HL.out]; exact Nat.le_refl _
        have hge : ys.length ≤ zs.length := by rw [HL.out]; exact Nat.le_refl _
        go_enter Try.func18, Try.ntmps18
        go_wp2
        go_loopw [5] (fun i wr => ∃ k n : Nat, k ≤ zs.length ∧ i = .int .i64 k ∧ Hid (zs.take k = ys.take k) ∧ Hid (wr = w.drewN n)) (fun i _ => zs.length - (intOf i).toNat)
        case atStart => exact ⟨0, 0, by omega, rfl, hidI (by simp), hidI rfl⟩
        case round =>
          obtain ⟨k, n, hk, rfl, HR, HW⟩ := hrel
          obtain ⟨z, Hd, Hg, _⟩ := at_k zs k
          obtain ⟨y, Hd', Hg', _⟩ := at_k ys k
          by_cases hlt : k < zs.length
          · have hlt' : k < ys.length := by omega
            have hcell : wr.cell? ⟨b, off + k, none⟩ = some (.int .i64 z) := by rw [HW.out, ← Hg.out hlt]; simpa using hc k hlt
            have hcell' : wr.cell? ⟨b', off' + k, none⟩ = some (.int .i64 y) := by rw [HW.out, ← Hg'.out hlt']; simpa using hc' k hlt'
            have hk1 : (k : Int) < (zs.length : Int) := by omega
            have hk2 : (k : Int) < (ys.length : Int) := by omega
            have Hc := hidI hc; have Hc' := hidI hc'; clear hc hc'
            by_cases hzy : z = y
            · subst hzy
              go_wp2
              go_quiet (fail)
              go_wp2
              go_roundw
              case rel => exact ⟨k + 1, n + nq, by omega, by go_num, hidI (take_next HR.out (Hd.out hlt) (Hd'.out hlt')), hidI (by rw [HW.out, World.drewN_drewN])⟩
              case measure => simp [intOf]; omega
            · go_wp2
              go_quiet (fail)
              go_wp2
              all_goals first
                | (exfalso; simp_all; done)
                | (go_ret
                   refine ⟨ret_bool ?_, n + nq, by rw [HW.out, World.drewN_drewN]⟩
                   rw [decide_eq_false (eq_drop (Hd.out hlt) (Hd'.out hlt') hzy)])
          · have Hc := hidI hc; have Hc' := hidI hc'; clear hc hc'
            go_wp2
            go_ret
            refine ⟨ret_bool ?_, n, HW.out⟩
            have := HR.out
            rw [List.take_of_length_le (by omega), List.take_of_length_le (by omega)] at this
            simp [this]
  · go_enter Try.func18, Try.ntmps18
    go_wp2
    go_ret
    refine ⟨ret_bool ?_, 0, rfl⟩
    rw [decide_eq_false (fun e => hl (by rw [e]))]
end Go.Proofs.Ytfofjghcofjojaa
