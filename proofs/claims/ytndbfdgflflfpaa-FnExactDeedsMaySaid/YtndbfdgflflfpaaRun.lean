/- impl.runCode and spec.l5Run run a code on a stack. -/
import Derived.Test.YtndbfdgflflfpaaCdV
import Derived.Test.YtndbfdgflflfpaaBits
import Derived.Deep.OwnRows
import Derived.Outline
namespace Go.Proofs.Ytndbfdgflflfpaa
open Go.RowKit

def runStep (S : Nat) (s : Int) (st : List Bool) : List Bool :=
  if s = 5 then true :: st
  else if s = 6 then false :: st
  else if s = 7 then (match st with | a :: r => (!a) :: r | [] => [])
  else if s = 8 then (match st with | b :: a :: r => (a && b) :: r | r => r)
  else if s = 9 then (match st with | b :: a :: r => (a || b) :: r | r => r)
  else S.testBit s.toNat :: st

def runGo (S : Nat) : List Int → List Bool → List Bool
  | [], st => st
  | s :: l, st => runGo S l (runStep S s st)

def runAll (zs : List Int) (S : Nat) : Bool := (runGo S zs []).headD false

theorem rowIs_rep (w : World) (t : TypeId) : (w.alloc (.cells (Array.replicate 40 (.bool false)) t)).rowIs w.heap.size t 40 (fun _ => .bool false) := by
  have := World.rowIs_alloc w (Array.replicate 40 (.bool false)) t (fun _ => .bool false) (by intro i hi; simp at hi; simp [hi])
  simpa using this

theorem stack_put {p r : List Bool} {c : Bool} {f : Nat → Value} (hv : ∀ j, j < (p ++ r).length → f j = .bool ((p ++ r).reverse.getD j false)) :
    ∀ j, j < (c :: r).length → (fun j => if j = r.length then Value.bool c else f j) j = .bool ((c :: r).reverse.getD j false) := by
  intro j hj
  simp only [List.length_cons] at hj
  by_cases e : j = r.length
  · subst e; simp
  · have h1 : j < r.length := by omega
    simp only [if_neg e]
    rw [hv j (by simp; omega)]
    simp [List.getD, List.getElem?_append, h1]

theorem bit_eq1 (S Z : Nat) (hS : S < 32) : Value.bool (bits .and .i64 ((S : Int) / 2 ^ Z) 1 == 1) = .bool (S.testBit Z) := by
  have h1 : ((S : Int) / 2 ^ Z) = ((S / 2 ^ Z : Nat) : Int) := by simp
  have h2 : S / 2 ^ Z ≤ S := Nat.div_le_self _ _
  rw [h1, show (1 : Int) = ((1 : Nat) : Int) from rfl, and_i64 _ _ (by omega) (by omega), bit_is]
  by_cases h : S.testBit Z = true
  · rw [if_pos h, h]; rfl
  · rw [if_neg h]; simp at h; rw [h]; rfl

set_option maxHeartbeats 1000000 in
theorem impl_runCode (zs : List Int) (S : Nat) (v : Value) (w : World) (h : IntS w v zs) (hf : fits zs 0) (hl : zs.length ≤ 40) (hS : S < 32) :
    Calls Try.prog 53 #[v, .int .i64 S] w fun e w' => e = .returned (.bool (runAll zs S)) ∧ Below w.heap.size w w' := by
  obtain ⟨hz, ao, cap, rfl, hcap, hmax, hcells⟩ := h
  unfold maxLen at hmax
  have hne : zs ≠ [] := by rintro rfl; simp [fits] at hf
  rcases hcells with ⟨rfl, _⟩ | ⟨b, off, rfl, hb, hc⟩
  · exact absurd rfl hne
  · have HF := hidI hf; clear hf
    go_enter Try.func53, Try.ntmps53
    go_wp2
    have HW := hidI (rowIs_rep w 98)
    go_loopw [6, 11] (fun t i wr => ∃ (k : Nat) (st : List Bool) (f : Nat → Value), k ≤ zs.length ∧ i = .int .i64 k ∧ t = .int .i64 st.length ∧ st.length ≤ k ∧ Hid (runAll zs S = (runGo S (zs.drop k) st).headD false) ∧ Hid (fits (zs.drop k) st.length) ∧
       Hid (wr.rowIs w.heap.size 98 40 f) ∧ Hid (∀ j, j < st.length → f j = .bool (st.reverse.getD j false)) ∧ Below w.heap.size w wr) (fun _ i _ => zs.length - (intOf i).toNat)
    case atStart => exact ⟨0, [], _, by omega, rfl, rfl, by simp, hidI rfl, HF, hidI HW.out, hidI (by simp), (Below.refl _ _).alloc (Nat.le_refl _) _⟩
    case round =>
      clear HW HF
      obtain ⟨k, st, f, hk, rfl, rfl, hst, HR, HF, HW, HV, hbel⟩ := hrel
      obtain ⟨z, Hd, Hg, HP⟩ := at_k zs k
      by_cases hlt : k < zs.length
      · have hcell : wr.cell? ⟨b, off + k, none⟩ = some (.int .i64 z) := by rw [← Hg.out hlt]; exact (hbel.cell (p := ⟨b, off + k, none⟩) hb).trans (hc k hlt)
        have Hc := hidI hc; clear hc
        have hfit := HF.out
        rw [Hd.out hlt, fits] at hfit
        obtain ⟨z0, z9, f1, f2, f3⟩ := hfit
        have hR := HR.out; rw [Hd.out hlt, runGo] at hR
        clear HR HF HP
        by_cases z4 : z ≤ 6
        · -- a push
          have HFit := hidI (f1 z4); clear f1 f2 f3
          have hnew : wr.cell? ⟨w.heap.size, st.length, none⟩ = some (f st.length) := HW.out.cell (by omega)
          have hfz : wr.frozen? ⟨w.heap.size, st.length, none⟩ = false := HW.out.frozen _
          have hlt40 : st.length < 40 := by omega
          by_cases z5 : z = 5
          · subst z5
            have HR := hidI hR; clear hR
            go_wp2
            go_roundw
            case rel => exact ⟨k + 1, true :: st, _, by omega, by go_num, by go_num, by simp; omega, hidI HR.out, HFit, hidI (HW.out.set _ _), hidI (stack_put (p := []) HV.out), hbel.setCell (by simp) _⟩
            case measure => simp [intOf]; omega
          · by_cases z6 : z = 6
            · subst z6
              have HR := hidI hR; clear hR
              go_wp2
              go_roundw
              case rel => exact ⟨k + 1, false :: st, _, by omega, by go_num, by go_num, by simp; omega, hidI HR.out, HFit, hidI (HW.out.set _ _), hidI (stack_put (p := []) HV.out), hbel.setCell (by simp) _⟩
              case measure => simp [intOf]; omega
            · have HR := hidI hR; clear hR
              obtain ⟨Z, rfl⟩ := Int.eq_ofNat_of_zero_le z0
              have hZ : Z < 5 := by omega
              have hz5 : ((Z : Int) == 5) = false := by simp; omega
              have hz6 : ((Z : Int) == 6) = false := by simp; omega
              have hz7 : ((Z : Int) == 7) = false := by simp; omega
              have hz8 : ((Z : Int) == 8) = false := by simp; omega
              have hz9 : ((Z : Int) == 9) = false := by simp; omega
              clear z5 z6
              go_wp2
              go_roundw
              case rel =>
                refine ⟨k + 1, S.testBit Z :: st, _, by omega, by go_num, by go_num, by simp; omega, hidI ?_, HFit, hidI ((HW.out.set _ _).congr (g := fun j => if j = st.length then .bool (S.testBit Z) else f j) ?_), hidI (stack_put (p := []) HV.out), hbel.setCell (by simp) _⟩
                · rw [HR.out]; unfold runStep
                  rw [if_neg (by omega), if_neg (by omega), if_neg (by omega), if_neg (by omega), if_neg (by omega), Int.toNat_natCast]
                · intro j hj
                  by_cases e : j = st.length
                  · rw [if_pos e, if_pos e]
                    exact bit_eq1 S Z hS
                  · rw [if_neg e, if_neg e]
              case measure => simp [intOf]; omega
        · by_cases z7 : z = 7
          · subst z7
            have f2' := f2 rfl; clear f1 f2 f3
            obtain ⟨hst1, hfit⟩ := f2'
            rcases st with _ | ⟨a, r⟩
            · simp at hst1
            have HFit := hidI hfit; clear hfit
            have HR := hidI hR; clear hR
            have ha : wr.cell? ⟨w.heap.size, r.length, none⟩ = some (.bool a) := by rw [HW.out.cell (by simp at hst; omega), HV.out _ (by simp)]; simp
            have hfz : wr.frozen? ⟨w.heap.size, r.length, none⟩ = false := HW.out.frozen _
            have hlt40 : r.length < 40 := by simp at hst; omega
            cases a
            all_goals
              go_wp2
              go_roundw
              case rel => exact ⟨k + 1, _ :: r, _, by omega, by go_num, by first | go_num | simp, by simp at hst ⊢; omega, hidI HR.out, HFit, hidI (HW.out.set _ _), hidI (stack_put (p := [_]) HV.out), hbel.setCell (by simp) _⟩
              case measure => simp [intOf]; omega
          · have z8 : 8 ≤ z := by omega
            have f3' := f3 z8; clear f1 f2 f3
            obtain ⟨hst2, hfit⟩ := f3'
            rcases st with _ | ⟨c, _ | ⟨a, r⟩⟩
            · simp at hst2
            · simp at hst2
            have HFit := hidI hfit; clear hfit
            have HR := hidI hR; clear hR
            have hlt40 : r.length + 1 < 40 := by simp at hst; omega
            have hc1 : wr.cell? ⟨w.heap.size, r.length + 1, none⟩ = some (.bool c) := by rw [HW.out.cell (by omega), HV.out _ (by simp)]; simp
            have ha : wr.cell? ⟨w.heap.size, r.length, none⟩ = some (.bool a) := by rw [HW.out.cell (by omega), HV.out _ (by simp; omega)]; simp
            have hfz : wr.frozen? ⟨w.heap.size, r.length, none⟩ = false := HW.out.frozen _
            obtain rfl | rfl : z = 8 ∨ z = 9 := by omega
            all_goals cases a
            all_goals
              go_wp2
              go_roundw
              case rel => exact ⟨k + 1, _ :: r, _, by omega, by go_num, by first | go_num | simp, by simp at hst ⊢; omega, hidI HR.out, HFit, hidI (HW.out.set _ _), hidI (stack_put (p := [_, _]) HV.out), hbel.setCell (by simp) _⟩
              case measure => simp [intOf]; omega
      · have hd : zs.drop k = [] := List.drop_of_length_le (by omega)
        have h1 : st.length = 1 := by have := HF.out; rw [hd] at this; exact this
        obtain ⟨x, rfl⟩ := List.length_eq_one_iff.1 h1
        have h0 : wr.cell? ⟨w.heap.size, 0, none⟩ = some (.bool x) := by rw [HW.out.cell (by omega), HV.out 0 (by simp)]; simp
        have hx := HR.out; rw [hd] at hx
        have HX := hidI hx; clear hx h1 hc HP
        go_wp2
        go_ret
        exact ⟨ret_bool (by rw [HX.out]; rfl), hbel⟩
end Go.Proofs.Ytndbfdgflflfpaa
