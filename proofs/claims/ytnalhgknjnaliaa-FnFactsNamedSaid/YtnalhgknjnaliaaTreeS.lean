/- The steps of a tree: impl's three methods. -/
import Derived.Test.YtnalhgknjnaliaaTree
import Derived.Test.YtnalhgknjnaliaaMark
namespace Go.Proofs.Ytnalhgknjnaliaa
open Go.RowKit

def Cond.ty : Cond → TypeId
  | .one _ => 76
  | .neg _ => 79
  | .two _ _ _ => 83
def Cond.arg : Cond → Value
  | .one s => .agg #[.int .i64 s]
  | .neg c => .agg #[c.val]
  | .two s l h => .agg #[.int .i64 s, l.val, h.val]
def Cond.fn : Cond → FuncId
  | .one _ => 91
  | .neg _ => 92
  | .two _ _ _ => 93

/-- The method of each of the three types that the interface's own row names. -/
theorem method_steps {s : String} {k : Nat} (hs : Try.prog.underlying 56 = some (.interface #[(s, k)])) (n : Nat) (c : Cond) (w : World) : (method (n + 1) c.ty c.arg s).run Try.prog w = .ok (c.fn, c.arg) w := by
  rw [Try.underlying56] at hs
  simp only [Option.some.injEq, TypeDesc.interface.injEq, Array.mk.injEq, List.cons.injEq, Prod.mk.injEq, and_true] at hs
  obtain ⟨rfl, -⟩ := hs
  cases c <;> kernel_rfl

theorem call_steps (c : Cond) (args : Array Value) (w : World) : (callFunc c.fn args).run Try.prog w = .ok (.enter c.fn args) w := by cases c <;> kernel_rfl

theorem Cond.val_is (c : Cond) : c.val = .iface c.ty c.arg := by cases c <;> rfl

set_option maxRecDepth 100000 in
set_option maxHeartbeats 1000000 in
theorem steps_any (c : Cond) : ∀ w, c.steps.length ≤ 100000 → c.Ok → Calls Try.prog c.fn #[c.arg] w fun e w' => ∃ v, e = .returned v ∧ w'.ownsRow w.heap.size 3 1 v c.steps.length (c.steps.map (Value.int .i64)) ∧ Below w.heap.size w w' := by
  induction c with
  | one s =>
    intro w hl hk
    show Calls Try.prog 91 #[.agg #[.int .i64 s]] w _
    go_enter Try.func91, Try.ntmps91
    go_wp2_with fail
    go_ret
    refine ⟨_, rfl, ?_, ((Below.refl _ _).alloc (Nat.le_refl _) _).alloc (by simp) _⟩
    have := own_base (own_one (w.alloc (.cells #[.int .i64 s] 76)) (.int .i64 s) 3) (base' := w.heap.size) (by simp)
    simpa [Cond.steps] using this
  | neg c ih =>
    intro w hl hk
    show Calls Try.prog 92 #[.agg #[c.val]] w _
    rw [c.val_is]
    have HM := fun n w => method_steps Try.underlying56 n c w
    have HC := fun a w => call_steps c a w
    generalize c.ty = T at HM
    generalize c.arg = A at HM ih
    generalize c.fn = F at HM HC ih
    have hl2 : c.steps.length ≤ 100000 := by simp [Cond.steps] at hl; omega
    go_enter Try.func92, Try.ntmps92
    go_wp2_with fail
    refine (ih _ hl2 hk).mono ?_; rintro e w1 ⟨v, rfl, ho, b1⟩
    have HO := hidI (own_base ho (base' := w.heap.size) (by simp))
    have HB : Hid (Below w.heap.size w w1) := hidI (((Below.refl w.heap.size w).alloc (Nat.le_refl _) _).trans (b1.mono (by simp)))
    have hs1 := HB.out.size
    clear ho b1
    go_wp2_with (at_builtin; refine wpList_push _ rfl _ _ 24 rfl w.heap.size 3 (.int .i64 0) 8 Try.underlying24 infoInt rfl v c.steps.length (c.steps.map (Value.int .i64)) _ rfl rfl HO.out rfl (by omega) (by decide) hs1 ?_)
    intro g cp w2 hg ho2 hb2 _
    have HO2 := hidI ho2; have HB2 := hidI (hb2 _ HB.out); clear ho2 hb2
    go_wp2_with fail
    go_ret
    exact ⟨_, rfl, by simpa [Cond.steps] using HO2.out, HB2.out⟩
  | two s l h ihl ihh =>
    intro w hl hk
    show Calls Try.prog 93 #[.agg #[.int .i64 s, l.val, h.val]] w _
    have hl2 : l.steps.length + h.steps.length + 1 ≤ 100000 := by simp [Cond.steps] at hl; omega
    have hnl := steps_ne l
    have hnh := steps_ne h
    have HI1 : Hid (∀ z ∈ l.steps, I64 z) := hidI (fun z hz => by have := steps_range l hk.2.1 z hz; unfold I64; omega)
    have HI2 : Hid (∀ z ∈ h.steps, I64 z) := hidI (fun z hz => by have := steps_range h hk.2.2 z hz; unfold I64; omega)
    rw [l.val_is, h.val_is]
    have HM := fun n w => method_steps Try.underlying56 n l w
    have HC := fun a w => call_steps l a w
    have HM2 := fun n w => method_steps Try.underlying56 n h w
    have HC2 := fun a w => call_steps h a w
    generalize l.ty = T at HM
    generalize l.arg = A at HM ihl
    generalize l.fn = F at HM HC ihl
    generalize h.ty = T2 at HM2
    generalize h.arg = A2 at HM2 ihh
    generalize h.fn = F2 at HM2 HC2 ihh
    go_enter Try.func93, Try.ntmps93
    go_wp2_with fail
    have c0 : (w.alloc (.cells #[.int .i64 s, .iface T A, .iface T2 A2] 83)).cell? ⟨w.heap.size, 0, none⟩ = some (.int .i64 s) := by rw [cell_new]; rfl
    have c1 : (w.alloc (.cells #[.int .i64 s, .iface T A, .iface T2 A2] 83)).cell? ⟨w.heap.size, 1, none⟩ = some (.iface T A) := by rw [cell_new]; rfl
    have c2 : (w.alloc (.cells #[.int .i64 s, .iface T A, .iface T2 A2] 83)).cell? ⟨w.heap.size, 2, none⟩ = some (.iface T2 A2) := by rw [cell_new]; rfl
    have B0 : Below w.heap.size w (w.alloc (.cells #[.int .i64 s, .iface T A, .iface T2 A2] 83)) := (Below.refl _ _).alloc (Nat.le_refl _) _
    have hs0 : w.heap.size < (w.alloc (.cells #[.int .i64 s, .iface T A, .iface T2 A2] 83)).heap.size := by simp
    generalize w.alloc (.cells #[.int .i64 s, .iface T A, .iface T2 A2] 83) = W0 at c0 c1 c2 B0 hs0 ⊢
    have HB0 := hidI B0; have HIL := hidI ihl; have HIH := hidI ihh; have HS0 := hidI hs0; clear B0 ihl ihh hs0
    go_region_held3 (fun W => W.cell? ⟨w.heap.size, 0, none⟩ = some (.int .i64 s) ∧ W.cell? ⟨w.heap.size, 1, none⟩ = some (.iface T A) ∧ W.cell? ⟨w.heap.size, 2, none⟩ = some (.iface T2 A2)) (first | exact ⟨c0, c1, c2⟩ | (refine ⟨?_, ?_, ?_⟩ <;> first | assumption | (refine cell_old ?_ ?_ <;> first | assumption | (simp; omega) | (refine cell_old ?_ ?_ <;> assumption)))) (first | (refine (HIL.out _ (by omega) hk.2.1).mono ?_; rintro e w5 ⟨vl, rfl, ol, bl⟩; obtain ⟨gl, cl, rfl, hgl⟩ := own_addr ol hnl; have OL := hidI ol; have BL := hidI bl; have q5 : w.heap.size < w5.heap.size := Nat.lt_of_lt_of_le (by first | exact HS0.out | (have := HS0.out; simp; omega)) bl.size; have d0 := (bl.cell (p := ⟨w.heap.size, 0, none⟩) (by first | exact HS0.out | (have := HS0.out; simp; omega))).trans (by first | exact c0 | exact cell_old HS0.out c0); have d1 := (bl.cell (p := ⟨w.heap.size, 1, none⟩) (by first | exact HS0.out | (have := HS0.out; simp; omega))).trans (by first | exact c1 | exact cell_old HS0.out c1); have d2 := (bl.cell (p := ⟨w.heap.size, 2, none⟩) (by first | exact HS0.out | (have := HS0.out; simp; omega))).trans (by first | exact c2 | exact cell_old HS0.out c2); have z5 := hidI bl.size; have Y5 := hidI (show Below w.heap.size w w5 from Below.trans (by first | exact HB0.out.drew | exact HB0.out.drew.alloc (Nat.le_of_lt HS0.out) _) (bl.mono (by first | exact Nat.le_of_lt HS0.out | (have := HS0.out; simp; omega)))); clear ol bl) | (refine (HIH.out _ (by omega) hk.2.2).mono ?_; rintro e w6 ⟨vh, rfl, oh, bh⟩; obtain ⟨gh, ch, rfl, hgh⟩ := own_addr oh hnh; have BH := hidI bh; have q6 : w.heap.size < w6.heap.size := Nat.lt_of_lt_of_le (by first | exact q5 | (have := q5; simp; omega)) bh.size; have e0 := (bh.cell (p := ⟨w.heap.size, 0, none⟩) (by first | exact q5 | (have := q5; simp; omega))).trans (by first | exact d0 | exact cell_old q5 d0); have e1 := (bh.cell (p := ⟨w.heap.size, 1, none⟩) (by first | exact q5 | (have := q5; simp; omega))).trans (by first | exact d1 | exact cell_old q5 d1); have e2 := (bh.cell (p := ⟨w.heap.size, 2, none⟩) (by first | exact q5 | (have := q5; simp; omega))).trans (by first | exact d2 | exact cell_old q5 d2); have HX := hidI (fun W (hW : Below w6.heap.size w6 W) => (IntS.ofOwn (own_below (by first | exact OL.out | exact OL.out.alloc _) bh) HI1.out).2.below hW); have HY := hidI (fun W (hW : Below w6.heap.size w6 W) => (IntS.ofOwn oh HI2.out).2.below hW); have z6 := hidI bh.size; have Y6 := hidI (show Below w.heap.size w w6 from Below.trans (by first | exact Y5.out | exact Y5.out.alloc (Nat.le_of_lt q5) _) (bh.mono (by first | exact Nat.le_of_lt q5 | (have := q5; simp; omega)))); clear oh bh) | (go_at_call 61; refine (concat_two l.steps h.steps _ _ _ _ (HX.out _ (by first | exact (Below.refl _ _).alloc (Nat.le_refl _) _ | exact ((Below.refl _ _).alloc (Nat.le_refl _) _).alloc (by simp) _)) (HY.out _ (by first | exact (Below.refl _ _).alloc (Nat.le_refl _) _ | exact ((Below.refl _ _).alloc (Nat.le_refl _) _).alloc (by simp) _)) (by omega) (by first | exact cell_at (by simp) rfl | exact cell_old (by first | (simp; done) | (simp; omega)) (cell_at (by simp) rfl)) (by first | exact cell_at (by simp) rfl | exact cell_old (by first | (simp; done) | (simp; omega)) (cell_at (by simp) rfl)) (by first | (simp; done) | (simp; omega))).mono ?_; rintro e w7 ⟨vc, rfl, oc, bc⟩; obtain ⟨gc, cc, rfl, hgc⟩ := own_addr oc (by simp; omega); have BC := hidI bc; have g0 := (bc.cell (p := ⟨w.heap.size, 0, none⟩) (by have := q6; simp; omega)).trans (by first | exact cell_old q6 e0 | exact cell_old (by have := q6; simp; omega) (cell_old q6 e0)); have g1 := (bc.cell (p := ⟨w.heap.size, 1, none⟩) (by have := q6; simp; omega)).trans (by first | exact cell_old q6 e1 | exact cell_old (by have := q6; simp; omega) (cell_old q6 e1)); have g2 := (bc.cell (p := ⟨w.heap.size, 2, none⟩) (by have := q6; simp; omega)).trans (by first | exact cell_old q6 e2 | exact cell_old (by have := q6; simp; omega) (cell_old q6 e2)); have O7 := hidI (by have t := own_base oc (base' := w.heap.size + 1) (by have := q6; simp; omega); rw [List.length_append] at t; exact t); have q7 : w.heap.size < w7.heap.size := Nat.lt_of_lt_of_le (by have := q6; simp; omega) bc.size; have Y7 := hidI (show Below w.heap.size w w7 from Below.trans (by first | exact Y6.out.alloc (Nat.le_of_lt q6) _ | exact (Y6.out.alloc (Nat.le_of_lt q6) _).alloc (by have := q6; simp; omega) _) (bc.mono (by have := q6; simp; omega))); clear oc bc) | (refine step_push rfl _ _ 24 rfl (w.heap.size + 1) 3 (.int .i64 0) 8 Try.underlying24 infoInt rfl (.slice (some ⟨gc, 0, none⟩) (l.steps.length + h.steps.length) cc) (l.steps.length + h.steps.length) ((l.steps ++ h.steps).map (Value.int .i64)) (.int .i64 s) _ rfl rfl (by first | exact O7.out | exact O7.out.alloc _) (by first | exact cell_at (by simp) rfl | exact ((BC.out.cell (p := ⟨_, 0, none⟩) (by first | (simp; done) | (simp; omega))).trans (cell_at (by simp) rfl)) | exact ((BC.out.cell (p := ⟨_, 0, none⟩) (by first | (simp; done) | (simp; omega))).trans (cell_old (by first | (simp; done) | (simp; omega)) (cell_at (by simp) rfl))) | exact ((BC.out.cell (p := ⟨_, 0, none⟩) (by have h1 := z5.out; have h2 := z6.out; (try simp at h1); (try simp at h2); (try simp); omega)).trans (cell_old (by have h1 := z5.out; have h2 := z6.out; (try simp at h1); (try simp at h2); (try simp); omega) ((BH.out.cell (p := ⟨_, 0, none⟩) (by first | (simp; done) | (simp; omega))).trans (cell_at (by simp) rfl)))) | exact ((BC.out.cell (p := ⟨_, 0, none⟩) (by have h1 := z5.out; have h2 := z6.out; (try simp at h1); (try simp at h2); (try simp); omega)).trans (cell_old (by have h1 := z5.out; have h2 := z6.out; (try simp at h1); (try simp at h2); (try simp); omega) ((BH.out.cell (p := ⟨_, 0, none⟩) (by have h1 := z5.out; have h2 := z6.out; (try simp at h1); (try simp at h2); (try simp); omega)).trans ((BL.out.cell (p := ⟨_, 0, none⟩) (by first | (simp; done) | (simp; omega))).trans (cell_at (by simp) rfl)))))) rfl (by omega) (by decide) (by have := q7; first | omega | (simp; omega)) ?_; intro g8 c8 w8 hg8 o8 b8 gr8; have O8 := hidI o8; have hb8 := b8 _ (Below.refl _ _); have B8 := hidI (show Below w.heap.size w w8 from Below.trans (by first | exact Y7.out | exact Y7.out.alloc (Nat.le_of_lt q7) _) (hb8.mono (Nat.le_succ _))); have h0 := (hb8.cell (p := ⟨w.heap.size, 0, none⟩) (Nat.lt_succ_self _)).trans (by first | exact g0 | exact cell_old q7 g0); have h1 := (hb8.cell (p := ⟨w.heap.size, 1, none⟩) (Nat.lt_succ_self _)).trans (by first | exact g1 | exact cell_old q7 g1); have h2 := (hb8.cell (p := ⟨w.heap.size, 2, none⟩) (Nat.lt_succ_self _)).trans (by first | exact g2 | exact cell_old q7 g2); clear o8 b8 hb8 gr8))
    all_goals
      go_wp2_with fail
      go_ret
      refine ⟨_, rfl, ?_, B8.out⟩
      have := own_base O8.out (base' := w.heap.size) (Nat.le_succ _)
      simpa [Cond.steps, Nat.add_assoc] using this
end Go.Proofs.Ytnalhgknjnaliaa
