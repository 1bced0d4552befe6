/- behindDeed, l6Do and DeedDo. -/
import Derived.Test.YtndbfdgflflfpaaDeed
import Derived.Test.YtndbfdgflflfpaaInts
import Derived.Outline
namespace Go.Proofs.Ytndbfdgflflfpaa
open Go.RowKit

/-- The state behind a deed, or -1. -/
def behind (d : DeedM) (S : Nat) : Int := if runAll d.need S then ((butNot (S ||| d.on.toNat) d.off.toNat ^^^ d.flip.toNat : Nat) : Int) else -1

def deedDo (d : DeedM) (n : Int) : Int := if deedValid d && inS n then behind d n.toNat else -1

theorem deed_valid {d : DeedM} (h : deedValid d = true) : ∃ a b c : Nat, d = ⟨d.need, a, b, c⟩ ∧ a < 32 ∧ b < 32 ∧ c < 32 ∧ a &&& b = 0 ∧ a &&& c = 0 ∧ b &&& c = 0 ∧ codeValid d.need = true := by
  unfold deedValid at h
  simp only [Bool.and_eq_true] at h
  obtain ⟨⟨⟨⟨⟨⟨h1, h2⟩, h3⟩, h4⟩, h5⟩, h6⟩, h7⟩ := h
  obtain ⟨a, ha, ha'⟩ := inS_true h2
  obtain ⟨b, hb, hb'⟩ := inS_true h3
  obtain ⟨c, hc, hc'⟩ := inS_true h4
  obtain ⟨need, on, off, flip⟩ := d
  simp only at *
  subst ha; subst hb; subst hc
  exact ⟨a, b, c, rfl, ha', hb', hc', by simpa using of_decide_eq_true h5, by simpa using of_decide_eq_true h6, by simpa using of_decide_eq_true h7, h1⟩

theorem and_or_zero {S a b : Nat} (h : a &&& b = 0) : (S ||| a) &&& b = S &&& b := by
  refine Nat.eq_of_testBit_eq fun i => ?_
  have hi : (a &&& b).testBit i = false := by rw [h]; simp
  rw [Nat.testBit_and] at hi
  rw [Nat.testBit_and, Nat.testBit_or, Nat.testBit_and]
  cases S.testBit i <;> cases ha : a.testBit i <;> cases hb : b.testBit i <;> simp_all

theorem butNot_sub (x y : Nat) : butNot x y = x - (x &&& y) := by
  have h1 := xor_add_and x x (x &&& y) (Nat.le_refl _)
  have h2 : x &&& (x &&& y) = x &&& y := by rw [← Nat.and_assoc, Nat.and_self]
  rw [h2] at h1
  unfold butNot
  have : x &&& y ≤ x := Nat.and_le_left
  omega

theorem butNot_lt32 {x y : Nat} (h : x < 32) : butNot x y < 32 := Nat.lt_of_le_of_lt (butNot_le x y) h

theorem behind_lt (d : DeedM) (h : deedValid d = true) (S : Nat) (hS : S < 32) : behind d S = -1 ∨ ∃ T : Nat, T < 32 ∧ behind d S = T := by
  obtain ⟨a, b, c, hd, ha, hb, hc, -⟩ := deed_valid h
  unfold behind
  by_cases hr : runAll d.need S = true
  · rw [if_pos hr]
    refine .inr ⟨_, ?_, rfl⟩
    rw [hd]; simp only [Int.toNat_natCast]
    exact xor_lt32 (butNot_lt32 (or_lt32 hS ha)) hc
  · rw [if_neg hr]; exact .inl rfl

set_option maxHeartbeats 400000 in
theorem impl_behindDeed (d : DeedM) (S : Nat) (v : Value) (w : World) (hd : IsDeed w v d) (hv : deedValid d = true) (hS : S < 32) :
    Calls Try.prog 45 #[v, .int .i64 S] w fun e w' => e = .returned (.int .i64 (behind d S)) ∧ Below w.heap.size w w' := by
  obtain ⟨a, b, c, hdd, ha, hb, hc, -, -, -, hcv⟩ := deed_valid hv
  obtain ⟨need, on, off, flip⟩ := d
  simp only [DeedM.mk.injEq, true_and] at hdd hcv
  obtain ⟨rfl, rfl, rfl⟩ := hdd
  obtain ⟨ao, l, cp, rfl, hn, -⟩ := hd
  simp only at *
  have HFit := hidI (fits_of_valid hcv)
  have HA := hidI (hn.below ((Below.refl _ _).alloc (Nat.le_refl _) (.cells #[.slice ao l cp, .int .i64 a, .int .i64 b, .int .i64 c] 46)))
  cases hr : runAll need S
  · have HF := hidI (show behind ⟨need, a, b, c⟩ S = -1 by unfold behind; rw [hr]; rfl)
    have HR := hidI hr; clear hr hcv hv
    go_enter Try.func45, Try.ntmps45
    go_wp2_with (go_at_call 53; refine (impl_runCode need S _ _ HA.out HFit.out.1 HFit.out.2.2 hS).mono ?_; rintro e w1 ⟨rfl, b1⟩; rw [HR.out])
    go_ret
    exact ⟨ret_int HF.out.symm, (Below.refl w.heap.size w).alloc (Nat.le_refl _) _ |>.trans (‹Below _ _ _›.mono (by simp))⟩
  · have HF := hidI (show behind ⟨need, a, b, c⟩ S = ((butNot (S ||| a) b ^^^ c : Nat) : Int) by unfold behind; rw [hr]; rfl)
    have HR := hidI hr; clear hr hcv hv
    have h1 := or_i64 S a (by omega) (by omega)
    have q1 := or_lt32 hS ha
    have h2 := andNot_i64 (S ||| a) b (by omega) (by omega)
    have q2 := butNot_lt32 (y := b) q1
    have h3 := xor_i64 (butNot (S ||| a) b) c (by omega) (by omega)
    go_enter Try.func45, Try.ntmps45
    go_wp2_with fail
    refine (impl_runCode need S _ _ HA.out HFit.out.1 HFit.out.2.2 hS).mono ?_; rintro e w1 ⟨rfl, b1⟩; rw [HR.out]
    have c1 : w1.cell? ⟨w.heap.size, 1, none⟩ = some (.int .i64 a) := (b1.cell (by simp)).trans (by rw [cell_new]; rfl)
    have c2 : w1.cell? ⟨w.heap.size, 2, none⟩ = some (.int .i64 b) := (b1.cell (by simp)).trans (by rw [cell_new]; rfl)
    have c3 : w1.cell? ⟨w.heap.size, 3, none⟩ = some (.int .i64 c) := (b1.cell (by simp)).trans (by rw [cell_new]; rfl)
    have HB := hidI (((Below.refl w.heap.size w).alloc (Nat.le_refl _) _).trans (b1.mono (by simp))); clear b1
    go_wp2_with fail
    go_ret
    exact ⟨ret_int HF.out.symm, HB.out⟩

set_option maxHeartbeats 400000 in
theorem spec_l6Do (d : DeedM) (S : Nat) (v : Value) (w : World) (hd : IsDeed w v d) (hv : deedValid d = true) (hS : S < 32) :
    Calls Try.prog 68 #[v, .int .i64 S] w fun e w' => e = .returned (.int .i64 (behind d S)) ∧ Below w.heap.size w w' := by
  obtain ⟨a, b, c, hdd, ha, hb, hc, hab, -, -, hcv⟩ := deed_valid hv
  obtain ⟨need, on, off, flip⟩ := d
  simp only [DeedM.mk.injEq, true_and] at hdd hcv
  obtain ⟨rfl, rfl, rfl⟩ := hdd
  obtain ⟨ao, l, cp, rfl, hn, -⟩ := hd
  simp only at *
  have HFit := hidI (fits_of_valid hcv)
  have HA := hidI (hn.below ((Below.refl _ _).alloc (Nat.le_refl _) (.cells #[.slice ao l cp, .int .i64 a, .int .i64 b, .int .i64 c] 46)))
  cases hr : runAll need S
  · have HF := hidI (show behind ⟨need, a, b, c⟩ S = -1 by unfold behind; rw [hr]; rfl)
    have HR := hidI hr; clear hr hcv hv hab
    go_enter Try.func68, Try.ntmps68
    go_wp2_with (go_at_call 61; refine (spec_l5Run need S _ _ HA.out HFit.out.1 HFit.out.2.2 hS).mono ?_; rintro e w1 ⟨rfl, b1⟩; rw [HR.out])
    go_ret
    exact ⟨ret_int HF.out.symm, (Below.refl w.heap.size w).alloc (Nat.le_refl _) _ |>.trans (‹Below _ _ _›.mono (by simp))⟩
  · have HF := hidI (show behind ⟨need, a, b, c⟩ S = ((butNot (S ||| a) b ^^^ c : Nat) : Int) by unfold behind; rw [hr]; rfl)
    have HR := hidI hr; clear hr hcv hv
    have q1 := or_lt32 hS ha
    have q2 := butNot_lt32 (y := b) q1
    have hsub : butNot (S ||| a) b = (S ||| a) - (S &&& b) := by rw [butNot_sub, and_or_zero hab]
    have hle : S &&& b ≤ S ||| a := Nat.le_trans Nat.and_le_left Nat.left_le_or
    have HS := hidI hsub; clear hsub hab
    go_enter Try.func68, Try.ntmps68
    go_wp2_with fail
    refine (spec_l5Run need S _ _ HA.out HFit.out.1 HFit.out.2.2 hS).mono ?_; rintro e w1 ⟨rfl, b1⟩; rw [HR.out]
    have c1 : w1.cell? ⟨w.heap.size, 1, none⟩ = some (.int .i64 a) := (b1.cell (by simp)).trans (by rw [cell_new]; rfl)
    have c2 : w1.cell? ⟨w.heap.size, 2, none⟩ = some (.int .i64 b) := (b1.cell (by simp)).trans (by rw [cell_new]; rfl)
    have c3 : w1.cell? ⟨w.heap.size, 3, none⟩ = some (.int .i64 c) := (b1.cell (by simp)).trans (by rw [cell_new]; rfl)
    have HB := hidI (((Below.refl w.heap.size w).alloc (Nat.le_refl _) _).trans (b1.mono (by simp))); clear b1
    have hw : IntKind.i64.wrap (((S ||| a : Nat) : Int) - ((S &&& b : Nat) : Int)) = ((butNot (S ||| a) b : Nat) : Int) := by
      rw [IntWalk.i64_in _ ⟨by omega, by omega⟩, HS.out]; omega
    go_wp2_with fail
    go_quiet ((first | (go_at_call 88; exact quiet_same (spec_l1Either S a _ (by omega) (by omega))) | (go_at_call 75; exact quiet_same (spec_l1Both S b _ (by omega) (by omega))) | (go_at_call 87; exact quiet_same (spec_l1Other (butNot (S ||| a) b) c _ (by omega) (by omega)))))
    go_wp2_with fail
    go_ret
    exact ⟨ret_int HF.out.symm, HB.out.trans ((bdraw _ _).mono HB.out.size)⟩


theorem spec_DeedDo (d : DeedM) (n : Int) (v : Value) (w : World) (hd : IsDeed w v d) (hl : d.need.length ≤ 4000000) :
    Calls Try.prog 40 #[v, .int .i64 n] w fun e w' => e = .returned (.int .i64 (deedDo d n)) ∧ Below w.heap.size w w' := by
  obtain ⟨ao, l, cp, hv, -⟩ := id hd
  have bb := (Below.refl w.heap.size w).alloc (Nat.le_refl _) (.cells #[.slice ao l cp, .int .i64 d.on, .int .i64 d.off, .int .i64 d.flip] 46)
  have hD := hd.below bb
  rw [hv] at hD
  subst hv
  have HD := hidI hD; have HBB := hidI bb; clear hD bb
  cases hdv : deedValid d
  · have HF := hidI (show deedDo d n = -1 by unfold deedDo; rw [hdv]; rfl)
    have HV := hidI hdv; clear hdv
    go_enter Try.func40, Try.ntmps40
    go_wp2_with fail
    refine (spec_DeedValid d _ _ HD.out hl).mono ?_; rintro e w1 ⟨rfl, b1⟩; rw [HV.out]
    go_wp2_with fail
    go_ret
    exact ⟨ret_int HF.out.symm, HBB.out.trans (b1.mono (by simp))⟩
  · cases hin : inS n
    · have HF := hidI (show deedDo d n = -1 by unfold deedDo; rw [hdv, hin]; rfl)
      have HV := hidI hdv; clear hdv
      go_enter Try.func40, Try.ntmps40
      go_wp2_with fail
      refine (spec_DeedValid d _ _ HD.out hl).mono ?_; rintro e w1 ⟨rfl, b1⟩; rw [HV.out]
      go_wp2_with (go_at_call 52; refine (spec_l1InS _ _).mono ?_; rintro e w' ⟨rfl, rfl⟩)
      go_ret
      exact ⟨ret_int HF.out.symm, HBB.out.trans (b1.mono (by simp))⟩
    · obtain ⟨S, rfl, hS⟩ := inS_true hin
      have HF := hidI (show deedDo d S = behind d S by unfold deedDo; rw [hdv, hin]; rfl)
      have HV := hidI hdv; clear hdv
      go_enter Try.func40, Try.ntmps40
      go_wp2_with fail
      refine (spec_DeedValid d _ _ HD.out hl).mono ?_; rintro e w1 ⟨rfl, b1⟩; rw [HV.out]
      have c0 : w1.cell? ⟨w.heap.size, 0, none⟩ = some (.slice ao l cp) := (b1.cell (by simp)).trans (by rw [cell_new]; rfl)
      have c1 : w1.cell? ⟨w.heap.size, 1, none⟩ = some (.int .i64 d.on) := (b1.cell (by simp)).trans (by rw [cell_new]; rfl)
      have c2 : w1.cell? ⟨w.heap.size, 2, none⟩ = some (.int .i64 d.off) := (b1.cell (by simp)).trans (by rw [cell_new]; rfl)
      have c3 : w1.cell? ⟨w.heap.size, 3, none⟩ = some (.int .i64 d.flip) := (b1.cell (by simp)).trans (by rw [cell_new]; rfl)
      have H1 := hidI b1; clear b1
      go_wp2_with (go_at_call 52; refine (spec_l1InS _ _).mono ?_; rintro e w' ⟨rfl, rfl⟩)
      refine (spec_l6Do d S _ _ (HD.out.below H1.out) HV.out hS).mono ?_; rintro e w2 ⟨rfl, b2⟩
      go_wp2_with fail
      go_ret
      exact ⟨ret_int HF.out.symm, HBB.out.trans ((bthen H1.out b2).mono (by simp))⟩
end Go.Proofs.Ytndbfdgflflfpaa
