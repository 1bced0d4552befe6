/- Codes as trees: impl.conditionOf makes one out of a code. -/
import Derived.Test.YtndbfdgflflfpaaTreeP
import Derived.Test.YtndbfdgflflfpaaConcat
import Derived.Test.YtndbfdgflflfpaaStepL
import Derived.Outline
namespace Go.Proofs.Ytndbfdgflflfpaa
open Go.RowKit

theorem infoCond : (Try.prog.info? 82).map (fun i => (i.zero, i.size, i.bytes)) = some (some .nilIface, 1, 16) := by kernel_rfl

/-- The value of a tree. -/
def Cond.val : Cond → Value
  | .one s => .iface 102 (.agg #[.int .i64 s])
  | .neg c => .iface 105 (.agg #[c.val])
  | .two s l h => .iface 109 (.agg #[.int .i64 s, l.val, h.val])

theorem Cond.one_cell (c : Cond) : c.val.oneCell' = true := by cases c <;> rfl

/-- The value, its kind in sight. -/
theorem Cond.shape (c : Cond) : ∃ t v, c.val = .iface t v := by cases c <;> exact ⟨_, _, rfl⟩

set_option maxHeartbeats 1000000 in
theorem impl_conditionOf (zs : List Int) (v : Value) (w : World) (h : IntS w v zs) (hf : fits zs 0) (hl : zs.length ≤ 40) :
    Calls Try.prog 59 #[v] w fun e w' => e = .returned (condOf zs).val ∧ Below w.heap.size w w' := by
  obtain ⟨hz, ao, cap, rfl, hcap, hmax, hcells⟩ := h
  unfold maxLen at hmax
  have hne : zs ≠ [] := by rintro rfl; simp [fits] at hf
  rcases hcells with ⟨rfl, _⟩ | ⟨b, off, rfl, hb, hc⟩
  · exact absurd rfl hne
  · have HF := hidI hf; clear hf
    go_enter Try.func59, Try.ntmps59
    go_wp2_with fail
    go_loopw [3, 9] (fun sv i wr => ∃ (k : Nat) (st : List Cond), k ≤ zs.length ∧ i = .int .i64 k ∧ st.length ≤ k ∧ Hid (condOf zs = (build (zs.drop k) st).headD (.one 0)) ∧ Hid (fits (zs.drop k) st.length) ∧
       (∃ g n cp, sv = .slice g n cp ∧ n = st.length) ∧ Hid (wr.ownsRow w.heap.size 82 1 sv st.length (st.reverse.map Cond.val)) ∧ Hid (Below w.heap.size w wr)) (fun _ i _ => zs.length - (intOf i).toNat)
    case atStart => exact ⟨0, [], by omega, rfl, by simp, hidI rfl, HF, ⟨none, 0, 0, rfl, rfl⟩, hidI (World.ownsRow_nil _ _ _ _), hidI (Below.refl _ _)⟩
    case round =>
      clear HF
      obtain ⟨k, st, hk, rfl, hst, HR, HF, ⟨g0, n0, cp0, rfl, rfl⟩, HO, HB⟩ := hrel
      obtain ⟨z, Hd, Hg, HP⟩ := at_k zs k
      by_cases hlt : k < zs.length
      · have hcell : wr.cell? ⟨b, off + k, none⟩ = some (.int .i64 z) := by rw [← Hg.out hlt]; exact (HB.out.cell (p := ⟨b, off + k, none⟩) hb).trans (hc k hlt)
        have Hc := hidI hc; clear hc
        have hfit := HF.out
        rw [Hd.out hlt, fits] at hfit
        obtain ⟨z0, z9, f1, f2, f3⟩ := hfit
        have hR := HR.out; rw [Hd.out hlt, build] at hR
        have hsz := HB.out.size
        clear HR HF HP
        by_cases z4 : z ≤ 6
        · have HFit := hidI (f1 z4); clear f1 f2 f3
          have e1 : push z st = .one z :: st := by unfold push; rw [if_neg (by omega), if_neg (by omega)]
          rw [e1] at hR
          have HR := hidI hR; clear hR e1
          have hz7 : (z == 7) = false := by simp; omega
          have hz8 : (z == 8) = false := by simp; omega
          have hz9 : (z == 9) = false := by simp; omega
          go_wp2_with (at_builtin; refine wpList_push _ rfl _ _ 110 rfl w.heap.size 82 .nilIface 16 Try.underlying110 infoCond rfl (.slice g0 st.length cp0) st.length (st.reverse.map Cond.val) _ rfl rfl HO.out rfl (by omega) (by decide) hsz ?_)
          intro g c w2 hg ho2 hb2 _
          have HO2 := hidI ho2; have HB2 := hidI (hb2 _ HB.out); clear ho2 hb2
          go_wp2_with fail
          refine ⟨?rel, ?measure⟩
          case rel => exact ⟨k + 1, .one z :: st, by omega, by go_num, by simp; omega, HR, HFit, ⟨_, _, _, rfl, by simp⟩, hidI (by simpa [Cond.val] using HO2.out), HB2⟩
          case measure => simp [intOf]; omega
        · by_cases z7 : z = 7
          · subst z7
            obtain ⟨hst1, hfit⟩ := f2 rfl; clear f1 f2 f3
            rcases st with _ | ⟨a, r⟩
            · simp at hst1
            have HFit := hidI hfit; clear hfit
            have HR := hidI hR; clear hR
            obtain ⟨g, rfl⟩ : ∃ g, g0 = some ⟨g, 0, none⟩ := by
              rcases HO.out.2 with ⟨h1, h2⟩ | ⟨g, cap, cur, h1, _⟩
              · simp at h2
              · injection h1 with h1; exact ⟨g, h1⟩
            obtain ⟨ca, fa⟩ := own_cell HO.out (i := r.length) (u := a.val) (by simp)
            simp only [List.length_cons] at *
            have hr0 : (0 : Int) ≤ (r.length : Int) := by omega
            have hr1 : (r.length : Int) < 40 := by omega
            have hbg := own_lt HO.out
            obtain ⟨ta, va, ha⟩ := a.shape
            rw [ha] at ca
            have HV : Hid ((Cond.neg a).val = .iface 105 (.agg #[.iface ta va])) := by refine hidI ?_; rw [Cond.val, ha]
            clear ha
            go_wp2_with fail
            refine ⟨?rel, ?measure⟩
            case rel => exact ⟨k + 1, .neg a :: r, by omega, by go_num, by simp; omega, HR, HFit, ⟨_, _, _, rfl, by simp⟩, hidI (by have := own_put HO.out r.length (Cond.neg a).val; rw [← HV.out]; simpa using this), hidI (HB.out.setCell (p := ⟨g, r.length, none⟩) hbg.1 _)⟩
            case measure => simp [intOf]; omega
          · have z8 : 8 ≤ z := by omega
            obtain ⟨hst2, hfit⟩ := f3 z8; clear f1 f2 f3
            rcases st with _ | ⟨c, _ | ⟨a, r⟩⟩
            · simp at hst2
            · simp at hst2
            have HFit := hidI hfit; clear hfit
            obtain ⟨g, rfl⟩ : ∃ g, g0 = some ⟨g, 0, none⟩ := by
              rcases HO.out.2 with ⟨h1, h2⟩ | ⟨g, cap, cur, h1, _⟩
              · simp at h2
              · injection h1 with h1; exact ⟨g, h1⟩
            obtain ⟨ca, fa⟩ := own_cell HO.out (i := r.length) (u := a.val) (by simp)
            obtain ⟨cc, fc⟩ := own_cell HO.out (i := r.length + 1) (u := c.val) (by simp)
            have hbg := own_lt HO.out
            have hs : z = 8 ∨ z = 9 := by omega
            have e1 : push z (c :: a :: r) = .two z a c :: r := by unfold push; rw [if_neg z7, if_pos hs]
            rw [e1] at hR
            have HR := hidI hR; clear hR e1
            have HO2 : Hid ((wr.setCell ⟨g, r.length, none⟩ (Cond.two z a c).val).ownsRow w.heap.size 82 1 (.slice (some ⟨g, 0, none⟩) (r.length + 1) cp0) (r.length + 1) ((Cond.two z a c :: r).reverse.map Cond.val)) := by
              refine hidI ?_
              have h1 := own_cut (own_put HO.out r.length (Cond.two z a c).val) (m := r.length + 1) (by simp)
              have e2 : (((c :: a :: r).reverse.map Cond.val).set r.length (Cond.two z a c).val).take (r.length + 1) = (Cond.two z a c :: r).reverse.map Cond.val := by
                simp [List.set_append, List.take_append]
                exact List.take_of_length_le (by simp)
              rw [e2] at h1; exact h1
            simp only [List.length_cons] at *
            have hr0 : (0 : Int) ≤ (r.length : Int) := by omega
            have hr1 : (r.length : Int) < 40 := by omega
            have hcp : ((r.length + 1 : Nat) : Int) ≤ (cp0 : Int) := by omega
            obtain ⟨ta, va, ha⟩ := a.shape
            obtain ⟨tc, vc, hc'⟩ := c.shape
            have HA := hidI ha; have HC := hidI hc'
            rw [ha] at ca; rw [hc'] at cc
            clear ha hc'
            have HV : Hid ((Cond.two z a c).val = .iface 109 (.agg #[.int .i64 z, .iface ta va, .iface tc vc])) := by refine hidI ?_; rw [Cond.val, HA.out, HC.out]
            rcases hs with rfl | rfl
            all_goals
              go_wp2_with fail
              go_region
              go_wp2_with fail
              refine ⟨?rel, ?measure⟩
              case rel => exact ⟨k + 1, .two _ a c :: r, by omega, by go_num, by simp; omega, HR, HFit, ⟨_, _, _, rfl, by simp⟩, hidI (by rw [← HV.out]; exact own_drew HO2.out), hidI (by rw [← HV.out]; exact (HB.out.setCell (p := ⟨g, r.length, none⟩) hbg.1 _).drew)⟩
              case measure => simp [intOf]; omega
      · have hd : zs.drop k = [] := List.drop_of_length_le (by omega)
        have h1 : st.length = 1 := by have := HF.out; rw [hd] at this; exact this
        obtain ⟨x, rfl⟩ := List.length_eq_one_iff.1 h1
        obtain ⟨g, rfl⟩ : ∃ g, g0 = some ⟨g, 0, none⟩ := by
          rcases HO.out.2 with ⟨h1, h2⟩ | ⟨g, cap, cur, h1, _⟩
          · simp at h2
          · injection h1 with h1; exact ⟨g, h1⟩
        obtain ⟨h0, _⟩ := own_cell HO.out (i := 0) (u := x.val) (by simp)
        have hx := HR.out; rw [hd] at hx
        have HX := hidI hx; clear hx h1 hc HP
        go_wp2_with fail
        go_ret
        exact ⟨by rw [HX.out]; rfl, HB.out⟩
end Go.Proofs.Ytndbfdgflflfpaa
