/- DeedValid, of the program and of the reference. -/
import Derived.Test.YtndbfdgflflfpaaTruth
import Derived.Outline
namespace Go.Proofs.Ytndbfdgflflfpaa
open Go.RowKit

/-- n is a state, or a set of facts. -/
def inS (n : Int) : Bool := decide (0 ≤ n ∧ n < 32)

theorem inS_true {n : Int} (h : inS n = true) : ∃ a : Nat, n = a ∧ a < 32 := by
  have := of_decide_eq_true h
  exact ⟨n.toNat, by omega, by omega⟩
theorem inS_nat {a : Nat} (h : a < 32) : inS a = true := decide_eq_true (by omega)
theorem inS_false {n : Int} (h : inS n = false) : n < 0 ∨ 31 < n := by have := of_decide_eq_false h; omega

theorem impl_stateOkS (n : Int) (w : World) :
    Calls Try.prog 44 #[.int .i64 n] w fun e w' => e = .returned (.bool (inS n)) ∧ w = w' := impl_stateOk n w

theorem spec_l1InS (n : Int) (w : World) :
    Calls Try.prog 52 #[.int .i64 n, .int .i64 0, .int .i64 31] w fun e w' => e = .returned (.bool (inS n)) ∧ w = w' := by
  cases h : inS n
  · exact spec_l1In' n 0 31 w (inS_false h)
  · obtain ⟨a, rfl, ha⟩ := inS_true h
    exact spec_l1In a 0 31 w (by omega)

structure DeedM where
  need : List Int
  on : Int
  off : Int
  flip : Int

def apartS (a b : Int) : Bool := decide (a.toNat &&& b.toNat = 0)

def deedValid (d : DeedM) : Bool := codeValid d.need && inS d.on && inS d.off && inS d.flip && apartS d.on d.off && apartS d.on d.flip && apartS d.off d.flip

theorem apart_and {a b : Nat} (ha : a < 32) (hb : b < 32) : (bits .and .i64 (a : Int) (b : Int) == 0) = apartS a b := by
  rw [and_i64 a b (by omega) (by omega)]
  unfold apartS
  simp only [Int.toNat_natCast]
  by_cases h : a &&& b = 0
  · rw [decide_eq_true h, h]; rfl
  · rw [decide_eq_false h]
    simp
    omega

theorem spec_l1BothS (a b : Nat) (w : World) (ha : a < 32) (hb : b < 32) :
    Calls Try.prog 75 #[.int .i64 a, .int .i64 b] w fun e w' => ∃ P : Nat, e = .returned (.int .i64 P) ∧ w = w' ∧ ((P : Int) == 0) = apartS a b := by
  refine (spec_l1Both a b w (by omega) (by omega)).mono ?_
  rintro e w' ⟨rfl, rfl⟩
  refine ⟨_, rfl, rfl, ?_⟩
  unfold apartS
  simp only [Int.toNat_natCast]
  by_cases h : a &&& b = 0
  · rw [decide_eq_true h, h]; rfl
  · rw [decide_eq_false h]
    simp
    omega

/-- v is a deed (a struct of four cells) that reads as d. -/
def IsDeed (w : World) (v : Value) (d : DeedM) : Prop := ∃ ao l cp, v = .agg #[.slice ao l cp, .int .i64 d.on, .int .i64 d.off, .int .i64 d.flip] ∧ IntS w (.slice ao l cp) d.need ∧ I64 d.on ∧ I64 d.off ∧ I64 d.flip

theorem IsDeed.below {w w' : World} {v : Value} {d : DeedM} (h : IsDeed w v d) (hb : Below w.heap.size w w') : IsDeed w' v d := by
  obtain ⟨ao, l, cp, h1, h2, h3⟩ := h
  exact ⟨ao, l, cp, h1, h2.below hb, h3⟩

set_option maxHeartbeats 1000000 in
theorem impl_DeedValid (d : DeedM) (v : Value) (w : World) (hd : IsDeed w v d) :
    Calls Try.prog 70 #[v] w fun e w' => e = .returned (.bool (deedValid d)) ∧ Below w.heap.size w w' := by
  obtain ⟨ao, l, cp, rfl, h, i1, i2, i3⟩ := hd
  obtain ⟨need, on, off, flip⟩ := d
  simp only at *
  have HA := hidI (h.below ((Below.refl _ _).alloc (Nat.le_refl _) (.cells #[.slice ao l cp, .int .i64 on, .int .i64 off, .int .i64 flip] 46)))
  cases ha : codeValid need
  · go_enter Try.func70, Try.ntmps70
    go_wp2_with (first | (go_at_call 28; refine (impl_CodeValid need _ _ HA.out).mono ?_; rintro e w' ⟨rfl, rfl⟩))
    go_ret
    exact ⟨ret_bool (by simp [deedValid, ha]), (Below.refl _ _).alloc (Nat.le_refl _) _⟩
  cases hb : inS on
  · go_enter Try.func70, Try.ntmps70
    go_wp2_with (first | (go_at_call 28; refine (impl_CodeValid need _ _ HA.out).mono ?_; rintro e w' ⟨rfl, rfl⟩) | (go_at_call 44; refine (impl_stateOkS _ _).mono ?_; rintro e w' ⟨rfl, rfl⟩))
    go_ret
    exact ⟨ret_bool (by simp [deedValid, hb]), (Below.refl _ _).alloc (Nat.le_refl _) _⟩
  cases hc : inS off
  · go_enter Try.func70, Try.ntmps70
    go_wp2_with (first | (go_at_call 28; refine (impl_CodeValid need _ _ HA.out).mono ?_; rintro e w' ⟨rfl, rfl⟩) | (go_at_call 44; refine (impl_stateOkS _ _).mono ?_; rintro e w' ⟨rfl, rfl⟩))
    go_ret
    exact ⟨ret_bool (by simp [deedValid, hc]), (Below.refl _ _).alloc (Nat.le_refl _) _⟩
  cases hf : inS flip
  · go_enter Try.func70, Try.ntmps70
    go_wp2_with (first | (go_at_call 28; refine (impl_CodeValid need _ _ HA.out).mono ?_; rintro e w' ⟨rfl, rfl⟩) | (go_at_call 44; refine (impl_stateOkS _ _).mono ?_; rintro e w' ⟨rfl, rfl⟩))
    go_ret
    exact ⟨ret_bool (by simp [deedValid, hf]), (Below.refl _ _).alloc (Nat.le_refl _) _⟩
  obtain ⟨a, rfl, ha32⟩ := inS_true hb
  obtain ⟨b, rfl, hb32⟩ := inS_true hc
  obtain ⟨c, rfl, hc32⟩ := inS_true hf
  have hab := apart_and ha32 hb32
  have hac := apart_and ha32 hc32
  have hbc := apart_and hb32 hc32
  have HF := hidI (show deedValid ⟨need, a, b, c⟩ = (apartS a b && apartS a c && apartS b c) by simp [deedValid, ha, hb, hc, hf])
  cases p1 : apartS a b
  all_goals cases p2 : apartS a c
  all_goals cases p3 : apartS b c
  all_goals
    rw [p1] at hab; rw [p2] at hac; rw [p3] at hbc
    have HP1 := hidI p1; have HP2 := hidI p2; have HP3 := hidI p3
    clear p1 p2 p3
    go_enter Try.func70, Try.ntmps70
    go_wp2_with (first | (go_at_call 28; refine (impl_CodeValid need _ _ HA.out).mono ?_; rintro e w' ⟨rfl, rfl⟩) | (go_at_call 44; refine (impl_stateOkS _ _).mono ?_; rintro e w' ⟨rfl, rfl⟩))
    go_ret
    exact ⟨ret_bool (by rw [HF.out, HP1.out, HP2.out, HP3.out]; rfl), (Below.refl _ _).alloc (Nat.le_refl _) _⟩

set_option maxHeartbeats 1000000 in
theorem spec_DeedValid (d : DeedM) (v : Value) (w : World) (hd : IsDeed w v d) (hl : d.need.length ≤ 4000000) :
    Calls Try.prog 51 #[v] w fun e w' => e = .returned (.bool (deedValid d)) ∧ Below w.heap.size w w' := by
  obtain ⟨ao, l, cp, rfl, h, i1, i2, i3⟩ := hd
  obtain ⟨need, on, off, flip⟩ := d
  simp only at *
  have HA := hidI (h.below ((Below.refl _ _).alloc (Nat.le_refl _) (.cells #[.slice ao l cp, .int .i64 on, .int .i64 off, .int .i64 flip] 46)))
  cases hb : inS on
  · go_enter Try.func51, Try.ntmps51
    go_wp2_with (first | (go_at_call 52; refine (spec_l1InS _ _).mono ?_; rintro e w' ⟨rfl, rfl⟩))
    go_ret
    exact ⟨ret_bool (by simp [deedValid, hb]), (Below.refl _ _).alloc (Nat.le_refl _) _⟩
  cases hc : inS off
  · go_enter Try.func51, Try.ntmps51
    go_wp2_with (first | (go_at_call 52; refine (spec_l1InS _ _).mono ?_; rintro e w' ⟨rfl, rfl⟩))
    go_ret
    exact ⟨ret_bool (by simp [deedValid, hc]), (Below.refl _ _).alloc (Nat.le_refl _) _⟩
  cases hf : inS flip
  · go_enter Try.func51, Try.ntmps51
    go_wp2_with (first | (go_at_call 52; refine (spec_l1InS _ _).mono ?_; rintro e w' ⟨rfl, rfl⟩))
    go_ret
    exact ⟨ret_bool (by simp [deedValid, hf]), (Below.refl _ _).alloc (Nat.le_refl _) _⟩
  cases ha : codeValid need
  · go_enter Try.func51, Try.ntmps51
    go_wp2_with (first | (go_at_call 52; refine (spec_l1InS _ _).mono ?_; rintro e w' ⟨rfl, rfl⟩) | (go_at_call 34; refine (spec_CodeValid need _ _ HA.out hl).mono ?_; rintro e w' ⟨rfl, rfl⟩))
    go_ret
    exact ⟨ret_bool (by simp [deedValid, ha]), (Below.refl _ _).alloc (Nat.le_refl _) _⟩
  obtain ⟨a, rfl, ha32⟩ := inS_true hb
  obtain ⟨b, rfl, hb32⟩ := inS_true hc
  obtain ⟨c, rfl, hc32⟩ := inS_true hf
  have HF := hidI (show deedValid ⟨need, a, b, c⟩ = (apartS a b && apartS a c && apartS b c) by simp [deedValid, ha, hb, hc, hf])
  cases p1 : apartS a b
  all_goals cases p2 : apartS a c
  all_goals cases p3 : apartS b c
  all_goals
    have HP1 := hidI p1; have HP2 := hidI p2; have HP3 := hidI p3
    clear p1 p2 p3
    go_enter Try.func51, Try.ntmps51
    go_wp2_with (first | (go_at_call 52; refine (spec_l1InS _ _).mono ?_; rintro e w' ⟨rfl, rfl⟩) | (go_at_call 34; refine (spec_CodeValid need _ _ HA.out hl).mono ?_; rintro e w' ⟨rfl, rfl⟩) | (go_at_call 75; refine (spec_l1BothS _ _ _ (by assumption) (by assumption)).mono ?_; rintro e w' ⟨P, rfl, rfl, hP⟩; (first | rw [HP1.out] at hP | rw [HP2.out] at hP | rw [HP3.out] at hP)))
    go_ret
    exact ⟨ret_bool (by rw [HF.out, HP1.out, HP2.out, HP3.out]; rfl), (Below.refl _ _).alloc (Nat.le_refl _) _⟩
end Go.Proofs.Ytndbfdgflflfpaa
