/- OrbitOf, OrbitsMany, GroupHas of the program at other arguments. -/
import Derived.Test.YtmmggbcmailbiaaGH
namespace Go.Proofs.Ytmmggbcmailbiaa
open Go.RowKit Grp

theorem impl_OrbitOf_no (places x : Int) (pss : List (List Int)) (v : Value) (w : World) (h : IntSS w v pss) (hm : mvalid places pss = false ∨ inP places x = false) :
    Calls Try.prog 45 #[.int .i64 places, v, .int .i64 x] w fun e w' => e = .returned (.slice none 0 0) ∧ w = w' := by
  have HM := hidI h
  obtain ⟨ao, cap, hv, _, _⟩ := id h
  subst hv
  clear h
  cases hmv : mvalid places pss
  · have HO := hidI hmv; clear hmv hm
    go_enter Try.func45, Try.ntmps45
    go_wp2_with fail
    refine (impl_MovesValid places pss _ _ HM.out).mono ?_; rintro e w' ⟨rfl, rfl⟩; rw [HO.out]
    go_wp2_with fail
    go_ret
    exact ⟨rfl, rfl⟩
  have hin : inP places x = false := hm.resolve_left (by rw [hmv]; simp)
  unfold inP at hin
  have hin2 := of_decide_eq_false hin
  have HO := hidI hmv; clear hmv hm hin
  by_cases h0 : x < 0
  · clear hin2
    go_enter Try.func45, Try.ntmps45
    go_wp2_with fail
    refine (impl_MovesValid places pss _ _ HM.out).mono ?_; rintro e w' ⟨rfl, rfl⟩; rw [HO.out]
    go_wp2_with fail
    go_ret
    exact ⟨rfl, rfl⟩
  have hp : places ≤ x := by omega
  clear hin2
  go_enter Try.func45, Try.ntmps45
  go_wp2_with fail
  refine (impl_MovesValid places pss _ _ HM.out).mono ?_; rintro e w' ⟨rfl, rfl⟩; rw [HO.out]
  go_wp2_with fail
  go_ret
  exact ⟨rfl, rfl⟩

theorem impl_OrbitsMany_no (places : Int) (pss : List (List Int)) (v : Value) (w : World) (h : IntSS w v pss) (hm : mvalid places pss = false) :
    Calls Try.prog 43 #[.int .i64 places, v] w fun e w' => e = .returned (.int .i64 (-1)) ∧ w = w' := by
  have HM := hidI h; have HO := hidI hm
  obtain ⟨ao, cap, hv, _, _⟩ := id h
  subst hv
  clear h hm
  go_enter Try.func43, Try.ntmps43
  go_wp2_with fail
  refine (impl_MovesValid places pss _ _ HM.out).mono ?_; rintro e w' ⟨rfl, rfl⟩; rw [HO.out]
  go_wp2_with fail
  go_ret
  exact ⟨rfl, rfl⟩

/-- Generators and a permutation of as many places. -/
def gvalid (places : Int) (pss : List (List Int)) (zs : List Int) : Bool := mvalid places pss && pvalid zs && decide ((zs.length : Int) = places)

theorem gvalid_iff (places : Int) (pss : List (List Int)) (zs : List Int) : gvalid places pss zs = true ↔ ∃ (n : Nat) (ms : List Pm) (p : Pm), places = n ∧ 1 ≤ n ∧ n ≤ 5 ∧ pss = ms.map up ∧ ms.length ≤ 3 ∧ OkM n ms ∧ zs = up p ∧ IsP n p := by
  unfold gvalid
  rw [Bool.and_eq_true, Bool.and_eq_true, decide_eq_true_iff]
  constructor
  · rintro ⟨⟨hm, hp⟩, hl⟩
    obtain ⟨n, ms, rfl, h1, h5, rfl, h3, hok⟩ := (mvalid_iff _ _).1 hm
    obtain ⟨p, rfl, hpp, _, _⟩ := (pvalid_iff zs).1 hp
    rw [up_len] at hl
    have : p.length = n := by omega
    rw [this] at hpp
    exact ⟨n, ms, p, rfl, h1, h5, rfl, h3, hok, rfl, hpp⟩
  · rintro ⟨n, ms, p, rfl, h1, h5, rfl, h3, hok, rfl, hpp⟩
    exact ⟨⟨(mvalid_iff _ _).2 ⟨n, ms, rfl, h1, h5, rfl, h3, hok⟩, pvalid_up hpp h1 h5⟩, by rw [up_len, hpp.len]⟩

theorem impl_GroupHas_no (places : Int) (pss : List (List Int)) (zs : List Int) (v u : Value) (w : World) (h : IntSS w v pss) (hu : IntS w u zs) (hg : gvalid places pss zs = false) :
    Calls Try.prog 20 #[.int .i64 places, v, u] w fun e w' => e = .returned (.bool false) ∧ w = w' := by
  have HM := hidI h; have HU := hidI hu
  obtain ⟨ao, cap, hv, _, _⟩ := id h
  subst hv
  obtain ⟨_, uo, uc, huv, _, hum, _⟩ := id hu
  subst huv
  unfold maxLen at hum
  clear h hu
  cases hmv : mvalid places pss
  · have HO := hidI hmv; clear hmv hg
    go_enter Try.func20, Try.ntmps20
    go_wp2_with fail
    refine (impl_MovesValid places pss _ _ HM.out).mono ?_; rintro e w' ⟨rfl, rfl⟩; rw [HO.out]
    go_wp2_with fail
    go_ret
    exact ⟨rfl, rfl⟩
  cases hpv : pvalid zs
  · have HO := hidI hmv; have HPv := hidI hpv; clear hmv hpv hg
    go_enter Try.func20, Try.ntmps20
    go_wp2_with fail
    refine (impl_MovesValid places pss _ _ HM.out).mono ?_; rintro e w' ⟨rfl, rfl⟩; rw [HO.out]
    go_wp2_with fail
    refine (impl_PermValid zs _ _ HU.out).mono ?_; rintro e w' ⟨rfl, rfl⟩; rw [HPv.out]
    go_wp2_with fail
    go_ret
    exact ⟨rfl, rfl⟩
  have hne : ((zs.length : Int) != places) = true := by
    unfold gvalid at hg
    rw [hmv, hpv] at hg
    simp at hg ⊢
    exact hg
  have HO := hidI hmv; have HPv := hidI hpv; clear hmv hpv hg
  go_enter Try.func20, Try.ntmps20
  go_wp2_with fail
  refine (impl_MovesValid places pss _ _ HM.out).mono ?_; rintro e w' ⟨rfl, rfl⟩; rw [HO.out]
  go_wp2_with fail
  refine (impl_PermValid zs _ _ HU.out).mono ?_; rintro e w' ⟨rfl, rfl⟩; rw [HPv.out]
  go_wp2_with fail
  go_ret
  exact ⟨rfl, rfl⟩
end Go.Proofs.Ytmmggbcmailbiaa
