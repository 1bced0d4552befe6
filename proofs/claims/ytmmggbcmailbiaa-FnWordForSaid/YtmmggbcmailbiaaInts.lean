/- The laws' helpers on slices of ints: toIntS copies, eqIntS compares. -/
import Derived.Test.YtmmggbcmailbiaaRows
import Derived.Test.YtmmggbcmailbiaaBase
import Derived.Deep.OwnRows
import Derived.Deep.QuietTactic
import Derived.BigQuiet
import Derived.Outline
namespace Go.Proofs.Ytmmggbcmailbiaa
open Go.RowKit

theorem infoInt : (Try.prog.info? 3).map (fun i => (i.zero, i.size, i.bytes)) = some (some (.int .i64 0), 1, 8) := by kernel_rfl

theorem quiet_same {P : Program} {f : FuncId} {args : Array Value} {w : World} {n : Nat} {v : Value}
    (h : Calls P f args (w.drewN n) fun e w' => e = .returned v ∧ w.drewN n = w') : Calls P f args (w.drewN n) fun e w'' => e = .returned v ∧ ∃ m, w'' = w.drewN m :=
  h.mono fun _ _ ⟨he, hm⟩ => ⟨he, n, hm.symm⟩

/-- A row of the call's own, whole, reads as a slice. -/
theorem IntS.ofRow {w : World} {b : Nat} {t : TypeId} {zs : List Int} {f : Nat → Value} (h : w.rowIs b t zs.length f) (hf : ∀ j, j < zs.length → f j = .int .i64 (zs.getD j 0)) (hz : ∀ z ∈ zs, I64 z) (hm : zs.length ≤ maxLen) :
    IntS w (.slice (some ⟨b, 0, none⟩) zs.length zs.length) zs :=
  ⟨hz, _, _, rfl, Nat.le_refl _, hm, .inr ⟨b, 0, rfl, h.lt, fun j hj => by rw [Nat.zero_add, h.cell hj, hf j hj]⟩⟩

/-- The cells of a slice of ints, as a block. -/
def intCells (zs : List Int) : Array Value := (zs.map (Value.int .i64)).toArray
theorem intCells_get (zs : List Int) (j : Nat) (h : j < zs.length) : (intCells zs)[j]? = some (.int .i64 (zs.getD j 0)) := by
  simp [intCells, List.getD, h]
theorem intCells_size (zs : List Int) : (intCells zs).size = zs.length := by simp [intCells]

def partCells (zs : List Int) (k : Nat) : Array Value := Array.ofFn (fun i : Fin zs.length => if i.val < k then Value.int .i64 (zs.getD i.val 0) else Value.int .i64 0)
theorem partCells_zero (zs : List Int) : madeCells #[Value.int .i64 0] zs.length = partCells zs 0 := by
  unfold partCells
  apply Array.ext
  · simp [size_madeCells]
  · intro i h1 h2
    simp [madeCells, Nat.mod_one]
theorem partCells_get (zs : List Int) (k : Nat) (h : k < zs.length) : (partCells zs k)[k]? = some (.int .i64 0) := by
  simp [partCells, h]
theorem partCells_set (zs : List Int) (k : Nat) (h : k < zs.length) : (partCells zs k).setIfInBounds k (.int .i64 (zs.getD k 0)) = partCells zs (k + 1) := by
  unfold partCells
  apply Array.ext
  · simp
  · intro j h1 h2
    have hj : j < zs.length := by simpa using h2
    by_cases e : k = j
    · subst e; simp [List.getD, hj]
    · rw [Array.getElem_setIfInBounds (by simpa using hj), if_neg e]
      simp only [Array.getElem_ofFn]
      by_cases h3 : j < k
      · rw [if_pos h3, if_pos (by omega)]
      · rw [if_neg h3, if_neg (by omega)]
theorem partCells_all (zs : List Int) : partCells zs zs.length = intCells zs := by
  unfold partCells intCells
  apply Array.ext
  · simp
  · intro j h1 h2
    have hj : j < zs.length := by simpa using h1
    simp [List.getD, hj]

set_option maxHeartbeats 400000 in
/-- toIntS: one new block, that holds the same numbers. -/
theorem toIntS_ex (zs : List Int) (v : Value) (w : World) (h : IntS w v zs) (hlen : zs.length ≤ 4000000) :
    Calls Try.prog 33 #[v] w fun e w' => e = .returned (.slice (some ⟨w.heap.size, 0, none⟩) zs.length zs.length) ∧ w' = w.alloc (.cells (intCells zs) 3) := by
  obtain ⟨hz, ao, cap, rfl, hcap, hmax, hcells⟩ := h
  have hmk := run_make_row' 24 3 (.int .i64 0) 8 Try.underlying24 infoInt rfl .i64 .i64 zs.length (by omega) (by omega)
  rcases hcells with ⟨rfl, _⟩ | ⟨b, off, rfl, hb, hc⟩
  · have hmk : ∀ w, (Instr.makeSlice 24 (.int .i64 0) (.int .i64 0)).run Try.prog w = .ok (.slice (some ⟨w.heap.size, 0, none⟩) 0 0) (w.alloc (.cells (madeCells #[.int .i64 0] 0) 3)) := fun w => run_make_row' 24 3 (.int .i64 0) 8 Try.underlying24 infoInt rfl .i64 .i64 0 (by omega) (by omega) w
    go_enter Try.func33, Try.ntmps33
    go_wp2
    go_rounds 1
    go_ret
    exact ⟨rfl, by rw [show madeCells #[Value.int .i64 0] 0 = intCells [] from by rw [show (0 : Nat) = ([] : List Int).length from rfl, partCells_zero]; exact partCells_all []]⟩
  · unfold maxLen at hmax
    go_enter Try.func33, Try.ntmps33
    go_wp2
    go_loopw [4] (fun i wr => ∃ k : Nat, k ≤ zs.length ∧ i = .int .i64 k ∧ Hid (wr = w.alloc (.cells (partCells zs k) 3))) (fun i _ => zs.length - (intOf i).toNat)
    case atStart =>
      exact ⟨0, by omega, rfl, hidI (by rw [partCells_zero])⟩
    case round =>
      clear hmk
      obtain ⟨k, hk, rfl, HR⟩ := hrel
      obtain ⟨z, Hd, Hg, _⟩ := at_k zs k
      have hcell : k < zs.length → wr.cell? ⟨b, off + k, none⟩ = some (.int .i64 z) := fun h => by
        rw [← Hg.out h, HR.out]; exact (((Below.refl w.heap.size w).alloc (Nat.le_refl _) _).cell (p := ⟨b, off + k, none⟩) hb).trans (hc k h)
      have hnew : k < zs.length → wr.cell? ⟨w.heap.size, k, none⟩ = some (.int .i64 0) := fun h => by
        rw [HR.out]; unfold World.cell?; rw [heap_alloc_new]; exact partCells_get zs k h
      have hfz : wr.frozen? ⟨w.heap.size, k, none⟩ = false := by rw [HR.out]; unfold World.frozen?; rw [heap_alloc_new]; simp
      have Hc := hidI hc; clear hc
      go_wp2
      · have hlt : k < zs.length := by assumption
        go_roundw
        case rel =>
          refine ⟨k + 1, by omega, by go_num, hidI ?_⟩
          rw [HR.out, World.setCell_alloc_at _ _ _ _ _ rfl, ← Hg.out hlt, partCells_set zs k hlt]
        case measure => simp [intOf]; omega
      · have hge : ¬ k < zs.length := by assumption
        obtain rfl : k = zs.length := by omega
        go_ret
        exact ⟨rfl, by rw [HR.out, partCells_all]⟩

theorem row_intCells (zs : List Int) (w : World) (t : TypeId) : (w.alloc (.cells (intCells zs) t)).rowIs w.heap.size t zs.length (fun j => .int .i64 (zs.getD j 0)) := by
  have := World.rowIs_alloc w (intCells zs) t (fun j => .int .i64 (zs.getD j 0)) (by intro j hj; rw [intCells_size] at hj; exact intCells_get zs j hj)
  rwa [intCells_size] at this

/-- toIntS: a new slice that reads as the old one does. -/
theorem toIntS_any (zs : List Int) (v : Value) (w : World) (h : IntS w v zs) (hlen : zs.length ≤ 4000000) :
    Calls Try.prog 33 #[v] w fun e w' => e = .returned (.slice (some ⟨w.heap.size, 0, none⟩) zs.length zs.length) ∧ IntS w' (.slice (some ⟨w.heap.size, 0, none⟩) zs.length zs.length) zs ∧ w'.rowIs w.heap.size 3 zs.length (fun j => .int .i64 (zs.getD j 0)) ∧ Below w.heap.size w w' := by
  refine (toIntS_ex zs v w h hlen).mono ?_
  rintro e w' ⟨rfl, rfl⟩
  exact ⟨rfl, IntS.ofRow (row_intCells zs w _) (fun _ _ => rfl) h.1 (by unfold maxLen; omega), row_intCells zs w _, (Below.refl _ _).alloc (Nat.le_refl _) _⟩
theorem eq_drop {zs ys : List Int} {k : Nat} {a b : Int} {l m : List Int} (hz : zs.drop k = a :: l) (hy : ys.drop k = b :: m) (h : a ≠ b) : zs ≠ ys := by
  rintro rfl
  rw [hz] at hy
  exact h (List.cons.inj hy).1

theorem take_next {zs ys : List Int} {k : Nat} {z : Int} {l m : List Int} (h : zs.take k = ys.take k) (hz : zs.drop k = z :: l) (hy : ys.drop k = z :: m) : zs.take (k + 1) = ys.take (k + 1) := by
  have e1 : zs.take (k + 1) = zs.take k ++ (zs.drop k).take 1 := by rw [List.take_add]
  have e2 : ys.take (k + 1) = ys.take k ++ (ys.drop k).take 1 := by rw [List.take_add]
  rw [e1, e2, hz, hy, h]; rfl

set_option maxHeartbeats 400000 in
/-- eqIntS: the same numbers. -/
theorem eqIntS_any (zs ys : List Int) (v u : Value) (w : World) (h : IntS w v zs) (hu : IntS w u ys) :
    Calls Try.prog 34 #[v, u] w fun e w' => e = .returned (.bool (decide (zs = ys))) ∧ ∃ n, w' = w.drewN n := by
  obtain ⟨hz, ao, cap, rfl, hcap, hmax, hcells⟩ := h
  obtain ⟨hy, ao', cap', rfl, hcap', hmax', hcells'⟩ := hu
  unfold maxLen at hmax hmax'
  by_cases hl : zs.length = ys.length
  · rcases hcells with ⟨rfl, _⟩ | ⟨b, off, rfl, hb, hc⟩
    · obtain rfl : ys = [] := List.eq_nil_of_length_eq_zero hl.symm
      go_enter Try.func34, Try.ntmps34
      go_wp2
      go_rounds 1
      go_ret
      exact ⟨rfl, 0, rfl⟩
    · rcases hcells' with ⟨rfl, _⟩ | ⟨b', off', rfl, hb', hc'⟩
      · obtain rfl : zs = [] := List.eq_nil_of_length_eq_zero hl
        go_enter Try.func34, Try.ntmps34
        go_wp2
        go_rounds 1
        go_ret
        exact ⟨rfl, 0, rfl⟩
      · have HL := hidI hl; clear hl
        have hle : zs.length ≤ ys.length := by rw [HL.out]; exact Nat.le_refl _
        have hge : ys.length ≤ zs.length := by rw [HL.out]; exact Nat.le_refl _
        go_enter Try.func34, Try.ntmps34
        go_wp2
        go_loopw [5] (fun i wr => ∃ k n : Nat, k ≤ zs.length ∧ i = .int .i64 k ∧ Hid (zs.take k = ys.take k) ∧ Hid (wr = w.drewN n)) (fun i _ => zs.length - (intOf i).toNat)
        case atStart => exact ⟨0, 0, by omega, rfl, hidI (by simp), hidI rfl⟩
        case round =>
          obtain ⟨k, n, hk, rfl, HR, HW⟩ := hrel
          obtain ⟨z, Hd, Hg, _⟩ := at_k zs k
          obtain ⟨y, Hd', Hg', _⟩ := at_k ys k
          by_cases hlt : k < zs.length
          · have hlt' : k < ys.length := by omega
            have hcell : wr.cell? ⟨b, off + k, none⟩ = some (.int .i64 z) := by rw [HW.out, ← Hg.out hlt]; simpa using hc k hlt
            have hcell' : wr.cell? ⟨b', off' + k, none⟩ = some (.int .i64 y) := by rw [HW.out, ← Hg'.out hlt']; simpa using hc' k hlt'
            have hk1 : (k : Int) < (zs.length : Int) := by omega
            have hk2 : (k : Int) < (ys.length : Int) := by omega
            have Hc := hidI hc; have Hc' := hidI hc'; clear hc hc'
            by_cases hzy : z = y
            · subst hzy
              go_wp2
              go_quiet (fail)
              go_wp2
              go_roundw
              case rel => exact ⟨k + 1, n + nq, by omega, by go_num, hidI (take_next HR.out (Hd.out hlt) (Hd'.out hlt')), hidI (by rw [HW.out, World.drewN_drewN])⟩
              case measure => simp [intOf]; omega
            · go_wp2
              go_quiet (fail)
              go_wp2
              all_goals first
                | (exfalso; simp_all; done)
                | (go_ret
                   refine ⟨ret_bool ?_, n + nq, by rw [HW.out, World.drewN_drewN]⟩
                   rw [decide_eq_false (eq_drop (Hd.out hlt) (Hd'.out hlt') hzy)])
          · have Hc := hidI hc; have Hc' := hidI hc'; clear hc hc'
            go_wp2
            go_ret
            refine ⟨ret_bool ?_, n, HW.out⟩
            have := HR.out
            rw [List.take_of_length_le (by omega), List.take_of_length_le (by omega)] at this
            simp [this]
  · go_enter Try.func34, Try.ntmps34
    go_wp2
    go_ret
    refine ⟨ret_bool ?_, 0, rfl⟩
    rw [decide_eq_false (fun e => hl (by rw [e]))]
end Go.Proofs.Ytmmggbcmailbiaa
