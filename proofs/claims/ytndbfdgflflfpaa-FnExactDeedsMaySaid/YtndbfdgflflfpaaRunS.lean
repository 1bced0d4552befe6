/- spec.l5Run runs a code on a stack. -/
import Derived.Test.YtndbfdgflflfpaaRun
import Derived.Test.YtndbfdgflflfpaaSets
import Derived.Test.YtndbfdgflflfpaaOwn
import Derived.Outline
namespace Go.Proofs.Ytndbfdgflflfpaa
open Go.RowKit

theorem infoBool : (Try.prog.info? 4).map (fun i => (i.zero, i.size, i.bytes)) = some (some (.bool false), 1, 1) := by kernel_rfl

/-- The stack as cells, the lowest first. -/
def cellsB (st : List Bool) : List Value := st.reverse.map .bool
theorem cellsB_len (st : List Bool) : (cellsB st).length = st.length := by simp [cellsB]
theorem cellsB_cons (a : Bool) (st : List Bool) : cellsB (a :: st) = cellsB st ++ [.bool a] := by simp [cellsB]
theorem cellsB_top (a : Bool) (st : List Bool) : (cellsB (a :: st))[st.length]? = some (.bool a) := by simp [cellsB]
theorem cellsB_next (a b : Bool) (st : List Bool) : (cellsB (b :: a :: st))[st.length]? = some (.bool a) := by simp [cellsB]
theorem cellsB_set (a c : Bool) (st : List Bool) : (cellsB (a :: st)).set st.length (.bool c) = cellsB (c :: st) := by
  simp [cellsB, List.set_append]
theorem cellsB_drop (a b c : Bool) (st : List Bool) : ((cellsB (b :: a :: st)).set st.length (.bool c)).take (st.length + 1) = cellsB (c :: st) := by
  simp [cellsB, List.set_append, List.take_append]; rw [List.take_of_length_le (by simp)]

set_option maxRecDepth 100000 in
set_option maxHeartbeats 1000000 in
theorem spec_l5Run (zs : List Int) (S : Nat) (v : Value) (w : World) (h : IntS w v zs) (hf : fits zs 0) (hl : zs.length ≤ 40) (hS : S < 32) :
    Calls Try.prog 61 #[v, .int .i64 S] w fun e w' => e = .returned (.bool (runAll zs S)) ∧ Below w.heap.size w w' := by
  obtain ⟨hz, ao, cap, rfl, hcap, hmax, hcells⟩ := h
  unfold maxLen at hmax
  have hne : zs ≠ [] := by rintro rfl; simp [fits] at hf
  rcases hcells with ⟨rfl, _⟩ | ⟨b, off, rfl, hb, hc⟩
  · exact absurd rfl hne
  · have HF := hidI hf; clear hf
    go_enter Try.func61, Try.ntmps61
    go_wp2_with fail
    go_loopw [5, 6] (fun t i wr => ∃ (k : Nat) (st : List Bool) (g c : Nat), k ≤ zs.length ∧ i = .int .i64 k ∧ t = .slice (some ⟨g, 0, none⟩) st.length c ∧ st.length ≤ k ∧ Hid (runAll zs S = (runGo S (zs.drop k) st).headD false) ∧ Hid (fits (zs.drop k) st.length) ∧
       Hid (wr.ownsRow w.heap.size 4 1 (.slice (some ⟨g, 0, none⟩) st.length c) st.length (cellsB st)) ∧ Below w.heap.size w wr) (fun _ i _ => zs.length - (intOf i).toNat)
    case atStart => exact ⟨0, [], _, _, by omega, rfl, rfl, by simp, hidI rfl, HF, hidI (World.ownsRow_made w #[] 0 (Nat.le_refl _) (by decide) (by simp)), (Below.refl _ _).alloc (Nat.le_refl _) _⟩
    case round =>
      clear HF
      obtain ⟨k, st, g, c, hk, rfl, rfl, hst, HR, HF, HO, hbel⟩ := hrel
      obtain ⟨z, Hd, Hg, HP⟩ := at_k zs k
      obtain ⟨hg1, hg2, hg3, hg4⟩ := own_lt HO.out
      unfold maxLen at hg4
      by_cases hlt : k < zs.length
      · have hcell : wr.cell? ⟨b, off + k, none⟩ = some (.int .i64 z) := by rw [← Hg.out hlt]; exact (hbel.cell (p := ⟨b, off + k, none⟩) hb).trans (hc k hlt)
        have Hc := hidI hc; clear hc
        have hfit := HF.out
        rw [Hd.out hlt, fits] at hfit
        obtain ⟨z0, z9, f1, f2, f3⟩ := hfit
        have hR := HR.out; rw [Hd.out hlt, runGo] at hR
        clear HR HF HP
        have hsz := hbel.size
        by_cases z4 : z ≤ 6
        · -- a push
          have HFit := hidI (f1 z4); clear f1 f2 f3
          by_cases z5 : z = 5
          · subst z5
            have HR := hidI hR; clear hR
            go_wp2_with (at_builtin; refine wpList_push _ rfl _ _ 111 rfl w.heap.size 4 (.bool false) 1 Try.underlying111 infoBool rfl (.slice (some ⟨g, 0, none⟩) st.length c) st.length (cellsB st) (.bool true) rfl rfl HO.out rfl (by omega) (by decide) hsz ?_)
            intro g' c' w1 hg' ho' hb' _
            have HO' := hidI ho'; have HB := hidI hb'; clear ho' hb'
            go_wp2_with fail
            go_roundw
            case rel => exact ⟨k + 1, true :: st, g', c', by omega, by go_num, by go_num, by simp; omega, hidI (by rw [HR.out]; (rfl)), HFit, hidI (by rw [cellsB_cons]; exact HO'.out), HB.out _ hbel⟩
            case measure => simp [intOf]; omega
          · by_cases z6 : z = 6
            · subst z6
              have HR := hidI hR; clear hR
              go_wp2_with (at_builtin; refine wpList_push _ rfl _ _ 111 rfl w.heap.size 4 (.bool false) 1 Try.underlying111 infoBool rfl (.slice (some ⟨g, 0, none⟩) st.length c) st.length (cellsB st) (.bool false) rfl rfl HO.out rfl (by omega) (by decide) hsz ?_)
              intro g' c' w1 hg' ho' hb' _
              have HO' := hidI ho'; have HB := hidI hb'; clear ho' hb'
              go_wp2_with fail
              go_roundw
              case rel => exact ⟨k + 1, false :: st, g', c', by omega, by go_num, by go_num, by simp; omega, hidI (by rw [HR.out]; (rfl)), HFit, hidI (by rw [cellsB_cons]; exact HO'.out), HB.out _ hbel⟩
              case measure => simp [intOf]; omega
            · have HR := hidI hR; clear hR
              obtain ⟨Z, rfl⟩ := Int.eq_ofNat_of_zero_le z0
              have hZ : Z < 5 := by omega
              clear z5 z6
              cases hbit : S.testBit Z
              · have Hb := hidI hbit; clear hbit
                go_wp2_with (first | (at_builtin; refine wpList_push _ rfl _ _ 111 rfl w.heap.size 4 (.bool false) 1 Try.underlying111 infoBool rfl (.slice (some ⟨g, 0, none⟩) st.length c) st.length (cellsB st) (.bool false) rfl rfl HO.out rfl (by omega) (by decide) hsz ?_) | (go_at_call 84; refine (spec_l1Bit S Z _ (by omega) (by omega)).mono ?_; rintro e w' ⟨rfl, rfl⟩; rw [Hb.out]; simp only [b2_true, b2_false]))
                intro g' c' w1 hg' ho' hb' _
                have HO' := hidI ho'; have HB := hidI hb'; clear ho' hb'
                go_wp2_with fail
                go_roundw
                case rel => exact ⟨k + 1, false :: st, g', c', by omega, by go_num, by go_num, by simp; omega, hidI (by rw [HR.out]; (unfold runStep; rw [if_neg (by omega), if_neg (by omega), if_neg (by omega), if_neg (by omega), if_neg (by omega), Int.toNat_natCast, Hb.out])), HFit, hidI (by rw [cellsB_cons]; exact HO'.out), HB.out _ hbel⟩
                case measure => simp [intOf]; omega
              · have Hb := hidI hbit; clear hbit
                go_wp2_with (first | (at_builtin; refine wpList_push _ rfl _ _ 111 rfl w.heap.size 4 (.bool false) 1 Try.underlying111 infoBool rfl (.slice (some ⟨g, 0, none⟩) st.length c) st.length (cellsB st) (.bool true) rfl rfl HO.out rfl (by omega) (by decide) hsz ?_) | (go_at_call 84; refine (spec_l1Bit S Z _ (by omega) (by omega)).mono ?_; rintro e w' ⟨rfl, rfl⟩; rw [Hb.out]; simp only [b2_true, b2_false]))
                intro g' c' w1 hg' ho' hb' _
                have HO' := hidI ho'; have HB := hidI hb'; clear ho' hb'
                go_wp2_with fail
                go_roundw
                case rel => exact ⟨k + 1, true :: st, g', c', by omega, by go_num, by go_num, by simp; omega, hidI (by rw [HR.out]; (unfold runStep; rw [if_neg (by omega), if_neg (by omega), if_neg (by omega), if_neg (by omega), if_neg (by omega), Int.toNat_natCast, Hb.out])), HFit, hidI (by rw [cellsB_cons]; exact HO'.out), HB.out _ hbel⟩
                case measure => simp [intOf]; omega
        · by_cases z7 : z = 7
          · subst z7
            have f2' := f2 rfl; clear f1 f2 f3
            obtain ⟨hst1, hfit⟩ := f2'
            rcases st with _ | ⟨a, r⟩
            · simp at hst1
            have HFit := hidI hfit; clear hfit
            have HR := hidI hR; clear hR
            have ha := own_cell HO.out (cellsB_top a r)
            obtain ⟨ha, hfz⟩ := ha
            have hr1 : r.length + 1 ≤ k := by simpa using hst
            simp only [List.length_cons] at HO hg3
            cases a
            all_goals
              go_wp2_with fail
              go_roundw
              case rel => exact ⟨k + 1, _ :: r, g, c, by omega, by go_num, by first | rfl | simp, by simp; omega, hidI HR.out, HFit, hidI (by rw [← cellsB_set]; exact own_put HO.out _ _), hbel.setCell hg1 _⟩
              case measure => simp [intOf]; omega
          · have z8 : 8 ≤ z := by omega
            have f3' := f3 z8; clear f1 f2 f3
            obtain ⟨hst2, hfit⟩ := f3'
            rcases st with _ | ⟨d, _ | ⟨a, r⟩⟩
            · simp at hst2
            · simp at hst2
            have HFit := hidI hfit; clear hfit
            have HR := hidI hR; clear hR
            have hc1 : wr.cell? ⟨g, r.length + 1, none⟩ = some (.bool d) := (own_cell HO.out (cellsB_top d (a :: r))).1
            obtain ⟨ha, hfz⟩ := own_cell HO.out (cellsB_next a d r)
            have hr1 : r.length + 2 ≤ k := by simpa using hst
            simp only [List.length_cons] at HO hg3
            obtain rfl | rfl : z = 8 ∨ z = 9 := by omega
            all_goals cases a
            all_goals
              go_wp2_with fail
              go_roundw
              case rel => exact ⟨k + 1, _ :: r, g, c, by omega, by go_num, by first | rfl | simp, by simp; omega, hidI HR.out, HFit, hidI (by rw [← cellsB_drop]; exact own_cut (own_put HO.out _ _) (Nat.le_succ _)), hbel.setCell hg1 _⟩
              case measure => simp [intOf]; omega
      · have hd : zs.drop k = [] := List.drop_of_length_le (by omega)
        have h1 : st.length = 1 := by have := HF.out; rw [hd] at this; exact this
        obtain ⟨x, rfl⟩ := List.length_eq_one_iff.1 h1
        have h0 := (own_cell HO.out (cellsB_top x [])).1
        simp only [List.length_nil] at h0
        have hx := HR.out; rw [hd] at hx
        have HX := hidI hx; clear hx h1 hc HP
        go_wp2_with fail
        go_ret
        exact ⟨ret_bool (by rw [HX.out]; rfl), hbel⟩
end Go.Proofs.Ytndbfdgflflfpaa
