/- OrbitOf, OrbitsMany, FixedSum of the reference; FixedSum of the program; all for any arguments. -/
import Derived.Test.YtmmggbcmailbiaaGXA
namespace Go.Proofs.Ytmmggbcmailbiaa
open Go.RowKit Grp

set_option maxHeartbeats 400000 in
theorem spec_OrbitOf_noM (places x : Int) (pss : List (List Int)) (v : Value) (w : World) (h : IntSS w v pss) (hmv : mvalid places pss = false) (hl : ∀ m ∈ pss, m.length ≤ 4000000) :
    Calls Try.prog 54 #[.int .i64 places, v, .int .i64 x] w fun e w' => GivesL w w' [] e := by
  have HM := hidI h; have HL := hidI hl
  obtain ⟨ao, cap, hv, _, _⟩ := id h
  subst hv
  have HO := hidI hmv; clear hmv h hl
  go_enter Try.func54, Try.ntmps54
  go_wp2_with fail
  refine (spec_MovesValid places pss _ _ (HM.out.below ((Below.refl _ _).alloc (Nat.le_refl _) _)) HL.out).mono ?_; rintro e w1 ⟨rfl, n1, hw1⟩; rw [HO.out]
  have B1 := hidI (show Below w.heap.size w w1 by rw [hw1]; exact bthen ((Below.refl _ _).alloc (Nat.le_refl _) _) (bdraw _ _))
  have O1 := hidI (show w1.ownsRow w.heap.size 3 1 (.slice (some ⟨w.heap.size, 0, none⟩) 0 0) 0 [] by rw [hw1]; exact own_below (own_made rfl (Nat.le_refl _) _) (bdraw _ _))
  clear hw1
  go_wp2_with fail
  go_ret
  exact ⟨_, rfl, O1.out, B1.out⟩

set_option maxHeartbeats 400000 in
theorem spec_OrbitOf_noP (n : Nat) (x : Int) (pss : List (List Int)) (v : Value) (w : World) (h : IntSS w v pss) (hmv : mvalid (n : Int) pss = true) (h1 : 1 ≤ n) (h5 : n ≤ 5) (hin : inP (n : Int) x = false) (hl : ∀ m ∈ pss, m.length ≤ 4000000) :
    Calls Try.prog 54 #[.int .i64 (n : Int), v, .int .i64 x] w fun e w' => GivesL w w' [] e := by
  have HM := hidI h; have HL := hidI hl
  obtain ⟨ao, cap, hv, _, _⟩ := id h
  subst hv
  have hib : inB x 0 ((n : Int) - 1) = false := by rw [inP_inB _ _ (by omega)]; exact hin
  have HO := hidI hmv; clear hmv hin h hl
  go_enter Try.func54, Try.ntmps54
  go_wp2_with fail
  refine (spec_MovesValid (n : Int) pss _ _ (HM.out.below ((Below.refl _ _).alloc (Nat.le_refl _) _)) HL.out).mono ?_; rintro e w1 ⟨rfl, n1, hw1⟩; rw [HO.out]
  have B1 := hidI (show Below w.heap.size w w1 by rw [hw1]; exact bthen ((Below.refl _ _).alloc (Nat.le_refl _) _) (bdraw _ _))
  have O1 := hidI (show w1.ownsRow w.heap.size 3 1 (.slice (some ⟨w.heap.size, 0, none⟩) 0 0) 0 [] by rw [hw1]; exact own_below (own_made rfl (Nat.le_refl _) _) (bdraw _ _))
  clear hw1
  go_wp2_with fail
  refine (spec_l1InQ _ _ _ _ _ hib).mono ?_; rintro e w' ⟨rfl, rfl⟩
  go_wp2_with fail
  go_ret
  exact ⟨_, rfl, O1.out, B1.out⟩

def orbOf (places : Int) (pss : List (List Int)) (x : Int) : List Nat := if mvalid places pss = true ∧ inP places x = true then orbAsc places.toNat (pss.map toP) x.toNat else []
theorem orbOf_valid {n x : Nat} {qs : List Pm} (h1 : 1 ≤ n) (h5 : n ≤ 5) (h3 : qs.length ≤ 3) (hm : OkM n qs) (hx : x < n) : orbOf (n : Int) (qs.map up) (x : Int) = orbAsc n qs x := by
  unfold orbOf
  rw [if_pos ⟨(mvalid_iff _ _).2 ⟨n, qs, rfl, h1, h5, rfl, h3, hm⟩, decide_eq_true (by omega)⟩, toP_ups, Int.toNat_natCast, Int.toNat_natCast]
theorem orbOf_no {places x : Int} {pss : List (List Int)} (h : mvalid places pss = false ∨ inP places x = false) : orbOf places pss x = [] := by
  unfold orbOf
  rw [if_neg (fun e => by rcases h with h | h <;> rw [h] at e <;> simp at e)]

theorem impl_OrbitOfA (places x : Int) (pss : List (List Int)) (v : Value) (w : World) (h : IntSS w v pss) :
    Calls Try.prog 45 #[.int .i64 places, v, .int .i64 x] w fun e w' => GivesL w w' (upW (orbOf places pss x)) e := by
  rcases leaving_cases (places := places) (x := x) (pss := pss) with hm | ⟨n, k, qs, rfl, rfl, h1, h5, rfl, h3, hok, hk⟩
  · rw [orbOf_no hm]
    refine (impl_OrbitOf_no places x pss v w h hm).mono ?_
    rintro e w' ⟨rfl, rfl⟩
    exact ⟨_, rfl, World.ownsRow_nil _ _ _ _, Below.refl _ _⟩
  · rw [orbOf_valid h1 h5 h3 hok hk]
    exact impl_OrbitOf n k qs v w h hok h1 h5 h3 hk

theorem spec_OrbitOfA (places x : Int) (pss : List (List Int)) (v : Value) (w : World) (h : IntSS w v pss) (hl : ∀ m ∈ pss, m.length ≤ 4000000) :
    Calls Try.prog 54 #[.int .i64 places, v, .int .i64 x] w fun e w' => GivesL w w' (upW (orbOf places pss x)) e := by
  cases hmv : mvalid places pss
  · rw [orbOf_no (.inl hmv)]
    exact spec_OrbitOf_noM places x pss v w h hmv hl
  rcases leaving_cases (places := places) (x := x) (pss := pss) with hm | ⟨n, k, qs, rfl, rfl, h1, h5, rfl, h3, hok, hk⟩
  · rw [orbOf_no hm]
    obtain ⟨n, qs, rfl, h1, h5, rfl, h3, hok⟩ := (mvalid_iff _ _).1 hmv
    exact spec_OrbitOf_noP n x _ v w h hmv h1 h5 (hm.resolve_left (by rw [hmv]; simp)) hl
  · rw [orbOf_valid h1 h5 h3 hok hk]
    exact spec_OrbitOf n k qs v w h hok h1 h5 h3 hk

theorem upW_I64' {n : Nat} {ms : List Pm} {x : Nat} (h5 : n ≤ 5) : ∀ z ∈ upW (orbAsc n ms x), I64 z :=
  upW_I64 (fun y hy => by unfold orbAsc at hy; rw [List.mem_filter, List.mem_range] at hy; omega)

/-! OrbitsMany of the reference. -/

set_option maxRecDepth 100000 in
set_option maxHeartbeats 4000000 in
theorem spec_OrbitsMany (n : Nat) (ms : List Pm) (v : Value) (w : World) (h : IntSS w v (ms.map up)) (hm : OkM n ms) (h1 : 1 ≤ n) (h5 : n ≤ 5) (h3 : ms.length ≤ 3) :
    Calls Try.prog 44 #[.int .i64 (n : Int), v] w fun e w' => e = .returned (.int .i64 (manyTo n ms n : Nat)) ∧ Below w.heap.size w w' := by
  have HV := hidI (show mvalid (n : Int) (ms.map up) = true from (mvalid_iff _ _).2 ⟨n, ms, rfl, h1, h5, rfl, h3, hm⟩)
  have HLN := hidI (ups_lens hm h5)
  have HM := hidI h; have HO := hidI hm
  obtain ⟨ao, cap, hv, hcap, hmax⟩ := ints_of_rows h
  subst hv
  clear h hm
  go_enter Try.func44, Try.ntmps44
  go_wp2_with fail
  refine (spec_MovesValid (n : Int) (ms.map up) _ _ HM.out HLN.out).mono ?_; rintro e w1 ⟨rfl, n1, hw1⟩; rw [HV.out]
  have hb1 : Below w.heap.size w w1 := by rw [hw1]; exact bdraw _ _
  have B1 := hidI hb1
  clear hw1 hb1
  go_wp2_with fail
  go_loopw [5, 6] (fun v5 v6 wr => ∃ (k : Nat), v5 = .int .i64 (manyTo n ms k : Nat) ∧ v6 = .int .i64 (k : Nat) ∧ k ≤ n ∧ Hid (Below w.heap.size w wr)) (fun _ v6 _ => n - (intOf v6).toNat)
  case atStart => exact ⟨0, rfl, rfl, by omega, B1⟩
  case round =>
    clear B1
    obtain ⟨k, rfl, rfl, hk, HB⟩ := hrel
    by_cases hlt : k < n
    rotate_left
    · have hkI : ¬ (k : Int) < (n : Int) := by omega
      have HEn := hidI (show k = n by omega)
      go_wp2_with fail
      go_ret
      exact ⟨by rw [HEn.out]; rfl, HB.out⟩
    have hkI : (k : Int) < (n : Int) := by omega
    have hmt := manyTo_succ n ms k
    have hml := manyTo_le n ms k
    go_wp2_with fail
    refine (spec_OrbitOf n k ms _ wr (HM.out.below HB.out) HO.out h1 h5 h3 hlt).mono ?_; rintro e w2 ⟨v2, rfl, o2, b2⟩
    have hI := (IntS.ofOwn o2 (upW_I64' h5)).2
    obtain ⟨f1, f2, f3⟩ := rep_facts h5 HO.out hlt
    have hne : 1 ≤ (upW (orbAsc n ms k)).length := by
      rw [upW_len]; cases e : orbAsc n ms k with
      | nil => rw [e] at f3; cases f3
      | cons a l => simp
    obtain ⟨b, off, c2, hv2, hc1, hc2, hb, hcu⟩ := hI.addr hne
    unfold maxLen at hc2
    subst hv2
    have e0 : w2.cell? ⟨b, off, none⟩ = some (.int .i64 (rep n ms k : Nat)) := by
      have := hcu 0 (by omega)
      rw [Nat.add_zero] at this
      rw [this]
      congr 2
      unfold upW
      cases e : orbAsc n ms k with
      | nil => rw [e] at f3; cases f3
      | cons a l => rw [e] at f3; injection f3 with f3; rw [← f3]; rfl
    have HB2 := hidI (bthen HB.out b2)
    have hl := least_rep h5 HO.out hlt
    obtain ⟨r, hr⟩ : ∃ r, r = rep n ms k := ⟨_, rfl⟩
    rw [← hr] at e0 hl
    have h0I : (0 : Int) < ((upW (orbAsc n ms k)).length : Int) := by omega
    obtain ⟨L, hL⟩ : ∃ L, L = (upW (orbAsc n ms k)).length := ⟨_, rfl⟩
    rw [← hL] at h0I hc1 ⊢
    clear o2 b2 hI f1 f2 f3 hcu hr hL hne
    by_cases he : r = k
    · have hbe : ((r : Int) == (k : Int)) = true := by simp; omega
      have HC2 := hidI (show manyTo n ms k + 1 = manyTo n ms (k + 1) by rw [hmt, if_pos (hl.2 he)])
      clear he hl hmt
      go_wp2_with fail
      go_roundw
      case rel => exact ⟨k + 1, by rw [← HC2.out]; go_num, by go_num, by omega, HB2⟩
      case measure => simp [intOf]; omega
    · have hbe : ((r : Int) == (k : Int)) = false := by simp; omega
      have HC2 := hidI (show manyTo n ms k = manyTo n ms (k + 1) by rw [hmt, if_neg (fun e => he (hl.1 e))]; rfl)
      clear he hl hmt
      go_wp2_with fail
      go_roundw
      case rel => exact ⟨k + 1, by rw [← HC2.out], by go_num, by omega, HB2⟩
      case measure => simp [intOf]; omega

theorem spec_OrbitsMany_no (places : Int) (pss : List (List Int)) (v : Value) (w : World) (h : IntSS w v pss) (hm : mvalid places pss = false) (hl : ∀ m ∈ pss, m.length ≤ 4000000) :
    Calls Try.prog 44 #[.int .i64 places, v] w fun e w' => e = .returned (.int .i64 (-1)) ∧ Below w.heap.size w w' := by
  have HM := hidI h; have HO := hidI hm; have HL := hidI hl
  obtain ⟨ao, cap, hv, _, _⟩ := id h
  subst hv
  clear h hm hl
  go_enter Try.func44, Try.ntmps44
  go_wp2_with fail
  refine (spec_MovesValid places pss _ _ HM.out HL.out).mono ?_; rintro e w1 ⟨rfl, n1, hw1⟩; rw [HO.out]
  have B1 := hidI (show Below w.heap.size w w1 by rw [hw1]; exact bdraw _ _)
  clear hw1
  go_wp2_with fail
  go_ret
  exact ⟨rfl, B1.out⟩

def manyOf (places : Int) (pss : List (List Int)) : Int := if mvalid places pss = true then (manyTo places.toNat (pss.map toP) places.toNat : Nat) else -1
theorem manyOf_valid {n : Nat} {qs : List Pm} (h1 : 1 ≤ n) (h5 : n ≤ 5) (h3 : qs.length ≤ 3) (hm : OkM n qs) : manyOf (n : Int) (qs.map up) = (manyTo n qs n : Nat) := by
  unfold manyOf
  rw [if_pos ((mvalid_iff _ _).2 ⟨n, qs, rfl, h1, h5, rfl, h3, hm⟩), toP_ups, Int.toNat_natCast]
theorem manyOf_no {places : Int} {pss : List (List Int)} (h : mvalid places pss = false) : manyOf places pss = -1 := by unfold manyOf; rw [h]; rfl

theorem impl_OrbitsManyA (places : Int) (pss : List (List Int)) (v : Value) (w : World) (h : IntSS w v pss) :
    Calls Try.prog 43 #[.int .i64 places, v] w fun e w' => e = .returned (.int .i64 (manyOf places pss)) ∧ Below w.heap.size w w' := by
  cases hm : mvalid places pss
  · rw [manyOf_no hm]
    refine (impl_OrbitsMany_no places pss v w h hm).mono ?_
    rintro e w' ⟨rfl, rfl⟩
    exact ⟨rfl, Below.refl _ _⟩
  · obtain ⟨n, qs, rfl, h1, h5, rfl, h3, hok⟩ := (mvalid_iff _ _).1 hm
    rw [manyOf_valid h1 h5 h3 hok]
    exact impl_OrbitsMany n qs v w h hok h1 h5 h3

theorem spec_OrbitsManyA (places : Int) (pss : List (List Int)) (v : Value) (w : World) (h : IntSS w v pss) (hl : ∀ m ∈ pss, m.length ≤ 4000000) :
    Calls Try.prog 44 #[.int .i64 places, v] w fun e w' => e = .returned (.int .i64 (manyOf places pss)) ∧ Below w.heap.size w w' := by
  cases hm : mvalid places pss
  · rw [manyOf_no hm]
    exact spec_OrbitsMany_no places pss v w h hm hl
  · obtain ⟨n, qs, rfl, h1, h5, rfl, h3, hok⟩ := (mvalid_iff _ _).1 hm
    rw [manyOf_valid h1 h5 h3 hok]
    exact spec_OrbitsMany n qs v w h hok h1 h5 h3
end Go.Proofs.Ytmmggbcmailbiaa
