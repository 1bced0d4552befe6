/- GroupOrder, GroupHas, LeavingOrder of both for any arguments; the reference's LeavingOrder. -/
import Derived.Test.YtmmggbcmailbiaaGUO
import Derived.Test.YtmmggbcmailbiaaGWX
namespace Go.Proofs.Ytmmggbcmailbiaa
open Go.RowKit Grp

def orderOf (places : Int) (pss : List (List Int)) : Int := if mvalid places pss = true then (size places.toNat (pss.map toP) : Nat) else -1
theorem orderOf_valid {n : Nat} {qs : List Pm} (h1 : 1 ≤ n) (h5 : n ≤ 5) (h3 : qs.length ≤ 3) (hm : OkM n qs) : orderOf (n : Int) (qs.map up) = (size n qs : Nat) := by
  unfold orderOf
  rw [if_pos ((mvalid_iff _ _).2 ⟨n, qs, rfl, h1, h5, rfl, h3, hm⟩), toP_ups, Int.toNat_natCast]
theorem orderOf_no {places : Int} {pss : List (List Int)} (h : mvalid places pss = false) : orderOf places pss = -1 := by unfold orderOf; rw [h]; rfl

theorem impl_GroupOrderA (places : Int) (pss : List (List Int)) (v : Value) (w : World) (h : IntSS w v pss) :
    Calls Try.prog 30 #[.int .i64 places, v] w fun e w' => e = .returned (.int .i64 (orderOf places pss)) ∧ Below w.heap.size w w' := by
  cases hm : mvalid places pss
  · rw [orderOf_no hm]
    refine (impl_GroupOrder_no places pss v w h hm).mono ?_
    rintro e w' ⟨rfl, rfl⟩
    exact ⟨rfl, Below.refl _ _⟩
  · obtain ⟨n, qs, rfl, h1, h5, rfl, h3, hok⟩ := (mvalid_iff _ _).1 hm
    rw [orderOf_valid h1 h5 h3 hok]
    exact impl_GroupOrder n qs v w h hok h1 h5 h3

theorem spec_GroupOrderA (places : Int) (pss : List (List Int)) (v : Value) (w : World) (h : IntSS w v pss) (hl : ∀ m ∈ pss, m.length ≤ 4000000) :
    Calls Try.prog 41 #[.int .i64 places, v] w fun e w' => e = .returned (.int .i64 (orderOf places pss)) ∧ Below w.heap.size w w' := by
  cases hm : mvalid places pss
  · rw [orderOf_no hm]
    exact spec_GroupOrder_no places pss v w h hm hl
  · obtain ⟨n, qs, rfl, h1, h5, rfl, h3, hok⟩ := (mvalid_iff _ _).1 hm
    rw [orderOf_valid h1 h5 h3 hok]
    exact spec_GroupOrder n qs v w h hok h1 h5 h3

def hasOf (places : Int) (pss : List (List Int)) (zs : List Int) : Bool := gvalid places pss zs && has places.toNat (pss.map toP) (toP zs)
theorem hasOf_valid {n : Nat} {qs : List Pm} {p : Pm} (h1 : 1 ≤ n) (h5 : n ≤ 5) (h3 : qs.length ≤ 3) (hm : OkM n qs) (hp : IsP n p) : hasOf (n : Int) (qs.map up) (up p) = has n qs p := by
  unfold hasOf
  rw [(gvalid_iff _ _ _).2 ⟨n, qs, p, rfl, h1, h5, rfl, h3, hm, rfl, hp⟩, toP_ups, toP_up, Int.toNat_natCast]; rfl
theorem hasOf_no {places : Int} {pss : List (List Int)} {zs : List Int} (h : gvalid places pss zs = false) : hasOf places pss zs = false := by unfold hasOf; rw [h]; rfl

theorem impl_GroupHasA (places : Int) (pss : List (List Int)) (zs : List Int) (v u : Value) (w : World) (h : IntSS w v pss) (hu : IntS w u zs) :
    Calls Try.prog 20 #[.int .i64 places, v, u] w fun e w' => e = .returned (.bool (hasOf places pss zs)) ∧ Below w.heap.size w w' := by
  cases hm : gvalid places pss zs
  · rw [hasOf_no hm]
    refine (impl_GroupHas_no places pss zs v u w h hu hm).mono ?_
    rintro e w' ⟨rfl, rfl⟩
    exact ⟨rfl, Below.refl _ _⟩
  · obtain ⟨n, qs, p, rfl, h1, h5, rfl, h3, hok, rfl, hp⟩ := (gvalid_iff _ _ _).1 hm
    rw [hasOf_valid h1 h5 h3 hok hp]
    exact impl_GroupHas n qs p v u w h hu hp hok h1 h5 h3

theorem spec_GroupHasA (places : Int) (pss : List (List Int)) (zs : List Int) (v u : Value) (w : World) (h : IntSS w v pss) (hu : IntS w u zs) (hl : ∀ m ∈ pss, m.length ≤ 4000000) (hzl : zs.length ≤ 4000000) :
    Calls Try.prog 26 #[.int .i64 places, v, u] w fun e w' => e = .returned (.bool (hasOf places pss zs)) ∧ Below w.heap.size w w' := by
  cases hm : gvalid places pss zs
  · rw [hasOf_no hm]
    exact spec_GroupHas_no places pss zs v u w h hu hm hl hzl
  · obtain ⟨n, qs, p, rfl, h1, h5, rfl, h3, hok, rfl, hp⟩ := (gvalid_iff _ _ _).1 hm
    rw [hasOf_valid h1 h5 h3 hok hp]
    exact spec_GroupHas n qs p v u w h hu hp hok h1 h5 h3

/-! The reference's LeavingOrder. -/

theorem stab_take {G : List Pm} {x k : Nat} {g : Pm} (h : G[k]? = some g) : (stab (G.take (k + 1)) x).length = (stab (G.take k) x).length + if ap g x = x then 1 else 0 := by
  unfold stab
  rw [take_snoc' h, List.filter_append, List.length_append]
  by_cases e : ap g x = x
  · rw [if_pos e]; simp [e]
  · rw [if_neg e]; simp [e]

set_option maxRecDepth 100000 in
set_option maxHeartbeats 4000000 in
theorem spec_LeavingOrder (n x : Nat) (ms : List Pm) (v : Value) (w : World) (h : IntSS w v (ms.map up)) (hm : OkM n ms) (h1 : 1 ≤ n) (h5 : n ≤ 5) (h3 : ms.length ≤ 3) (hx : x < n) :
    Calls Try.prog 39 #[.int .i64 (n : Int), v, .int .i64 (x : Int)] w fun e w' => e = .returned (.int .i64 ((stab (groupL n ms) x).length : Nat)) ∧ Below w.heap.size w w' := by
  have HV := hidI (show mvalid (n : Int) (ms.map up) = true from (mvalid_iff _ _).2 ⟨n, ms, rfl, h1, h5, rfl, h3, hm⟩)
  have HLN := hidI (ups_lens hm h5)
  have HM := hidI h; have HO := hidI hm
  obtain ⟨ao, cap, hv, hcap, hmax⟩ := ints_of_rows h
  subst hv
  have hib := inB_place hx
  clear h hm
  go_enter Try.func39, Try.ntmps39
  go_wp2_with fail
  refine (spec_MovesValid (n : Int) (ms.map up) _ _ HM.out HLN.out).mono ?_; rintro e w1 ⟨rfl, n1, hw1⟩; rw [HV.out]
  have hb1 : Below w.heap.size w w1 := by rw [hw1]; exact bdraw _ _
  have B1 := hidI hb1
  have M1 := hidI (HM.out.below hb1)
  clear hw1 hb1
  go_wp2_with (go_at_call 87; refine (spec_l1InQ _ _ _ _ _ hib).mono ?_; rintro e w' ⟨rfl, rfl⟩)
  refine (spec_GroupAll n ms _ _ M1.out HO.out h1 h5 h3).mono ?_; rintro e w2 ⟨v2, us, rfl, r2, b2⟩
  obtain ⟨G, hG⟩ : ∃ G, G = groupL n ms := ⟨_, rfl⟩
  have hPP : permsOf (groupW n ms) = G.map up := by rw [permsOf_keys, hG]; rfl
  rw [hPP] at r2
  have HGP := hidI (show ∀ g ∈ G, IsP n g from fun g hg => (grp_groupL h5 HO.out).isP g (by rw [← hG]; exact hg))
  have hGl : G.length ≤ 120 := by
    rw [hG, ← size_eq h5 HO.out]; exact size_le h1 h5 HO.out
  have HG := hidI hG
  have HR := hidI r2.reads
  have HB2 := hidI (bthen B1.out b2)
  obtain ⟨bo, bc, hv2, hbc, hbm⟩ := ints_of_rows r2.reads
  subst hv2
  unfold maxLen at hbm
  clear r2 b2 hG hPP
  go_wp2_with fail
  go_loop [7, 9] (fun u7 u9 => ∃ (k c : Nat), u7 = .int .i64 (c : Nat) ∧ u9 = .int .i64 (k : Nat) ∧ k ≤ G.length ∧ c ≤ k ∧ Hid (c = (stab (G.take k) x).length)) (fun _ u9 => G.length - (intOf u9).toNat)
  case atStart => exact ⟨0, 0, rfl, rfl, by omega, by omega, hidI (by simp [stab])⟩
  case round =>
    obtain ⟨k, c, rfl, rfl, hk, hck, HC⟩ := hrel
    by_cases hlt : k < G.length
    rotate_left
    · have hkn : k = G.length := by omega
      have HEn := hidI (show c = (stab G x).length by rw [HC.out, hkn, List.take_length])
      have hkI : ¬ (k : Int) < (G.length : Int) := by omega
      clear hkn
      go_wp2_with fail
      go_ret
      exact ⟨by rw [HEn.out, HG.out]; rfl, HB2.out⟩
    have hkI : (k : Int) < (G.length : Int) := by omega
    obtain ⟨g, hg⟩ : ∃ g, G[k]? = some g := ⟨_, List.getElem?_eq_getElem hlt⟩
    obtain ⟨b, off, ug, hbo, hb, hcg, hug⟩ := IntSS.at HR.out hg
    subst hbo
    have hgp := HGP.out g (List.mem_of_getElem? hg)
    obtain ⟨bg, og, cg, rfl, hg1, hg2, hbg, hcu⟩ := up_cells hug hgp h1
    unfold maxLen at hg2
    have ex := hcu x hx
    have hxI : (x : Int) < (n : Int) := by omega
    have hst := stab_take (x := x) hg
    obtain ⟨t, ht⟩ : ∃ t, t = ap g x := ⟨_, rfl⟩
    rw [← ht] at ex hst
    clear hcu hug hg ht
    by_cases he : t = x
    · have hbe : ((t : Int) == (x : Int)) = true := by simp; omega
      have HC2 := hidI (show c + 1 = (stab (G.take (k + 1)) x).length by rw [hst, if_pos he, ← HC.out])
      clear he hst
      go_wp2_with fail
      go_round
      case rel => exact ⟨k + 1, c + 1, by go_num, by go_num, by omega, by omega, HC2⟩
      case measure => simp [intOf]; omega
    · have hbe : ((t : Int) == (x : Int)) = false := by simp; omega
      have HC2 := hidI (show c = (stab (G.take (k + 1)) x).length by rw [hst, if_neg he, ← HC.out]; rfl)
      clear he hst
      go_wp2_with fail
      go_round
      case rel => exact ⟨k + 1, c, rfl, by go_num, by omega, by omega, HC2⟩
      case measure => simp [intOf]; omega

theorem inP_inB (places x : Int) (hp : -9223372036854775808 < places) : inB x 0 (places - 1) = inP places x := by
  unfold inB inP
  rw [decide_eq_decide]; omega

set_option maxHeartbeats 400000 in
theorem spec_LeavingOrder_noM (places x : Int) (pss : List (List Int)) (v : Value) (w : World) (h : IntSS w v pss) (hmv : mvalid places pss = false) (hl : ∀ m ∈ pss, m.length ≤ 4000000) :
    Calls Try.prog 39 #[.int .i64 places, v, .int .i64 x] w fun e w' => e = .returned (.int .i64 (-1)) ∧ Below w.heap.size w w' := by
  have HM := hidI h; have HL := hidI hl
  obtain ⟨ao, cap, hv, _, _⟩ := id h
  subst hv
  have HO := hidI hmv; clear hmv h hl
  go_enter Try.func39, Try.ntmps39
  go_wp2_with fail
  refine (spec_MovesValid places pss _ _ HM.out HL.out).mono ?_; rintro e w1 ⟨rfl, n1, hw1⟩; rw [HO.out]
  have B1 := hidI (show Below w.heap.size w w1 by rw [hw1]; exact bdraw _ _)
  clear hw1
  go_wp2_with fail
  go_ret
  exact ⟨rfl, B1.out⟩

set_option maxHeartbeats 400000 in
theorem spec_LeavingOrder_noP (n : Nat) (x : Int) (pss : List (List Int)) (v : Value) (w : World) (h : IntSS w v pss) (hmv : mvalid (n : Int) pss = true) (h1 : 1 ≤ n) (h5 : n ≤ 5) (hin : inP (n : Int) x = false) (hl : ∀ m ∈ pss, m.length ≤ 4000000) :
    Calls Try.prog 39 #[.int .i64 (n : Int), v, .int .i64 x] w fun e w' => e = .returned (.int .i64 (-1)) ∧ Below w.heap.size w w' := by
  have HM := hidI h; have HL := hidI hl
  obtain ⟨ao, cap, hv, _, _⟩ := id h
  subst hv
  have hib : inB x 0 ((n : Int) - 1) = false := by rw [inP_inB _ _ (by omega)]; exact hin
  have HO := hidI hmv; clear hmv hin h hl
  go_enter Try.func39, Try.ntmps39
  go_wp2_with fail
  refine (spec_MovesValid (n : Int) pss _ _ HM.out HL.out).mono ?_; rintro e w1 ⟨rfl, n1, hw1⟩; rw [HO.out]
  have B1 := hidI (show Below w.heap.size w w1 by rw [hw1]; exact bdraw _ _)
  clear hw1
  go_wp2_with fail
  refine (spec_l1InQ _ _ _ _ _ hib).mono ?_; rintro e w' ⟨rfl, rfl⟩
  go_wp2_with fail
  go_ret
  exact ⟨rfl, B1.out⟩

theorem spec_LeavingOrder_no (places x : Int) (pss : List (List Int)) (v : Value) (w : World) (h : IntSS w v pss) (hm : mvalid places pss = false ∨ inP places x = false) (hl : ∀ m ∈ pss, m.length ≤ 4000000) :
    Calls Try.prog 39 #[.int .i64 places, v, .int .i64 x] w fun e w' => e = .returned (.int .i64 (-1)) ∧ Below w.heap.size w w' := by
  cases hmv : mvalid places pss
  · exact spec_LeavingOrder_noM places x pss v w h hmv hl
  obtain ⟨n, qs, rfl, h1, h5, rfl, h3, hok⟩ := (mvalid_iff _ _).1 hmv
  exact spec_LeavingOrder_noP n x _ v w h hmv h1 h5 (hm.resolve_left (by rw [hmv]; simp)) hl

def leavOf (places : Int) (pss : List (List Int)) (x : Int) : Int := if mvalid places pss = true ∧ inP places x = true then ((stab (groupL places.toNat (pss.map toP)) x.toNat).length : Nat) else -1
theorem leavOf_valid {n x : Nat} {qs : List Pm} (h1 : 1 ≤ n) (h5 : n ≤ 5) (h3 : qs.length ≤ 3) (hm : OkM n qs) (hx : x < n) : leavOf (n : Int) (qs.map up) (x : Int) = ((stab (groupL n qs) x).length : Nat) := by
  unfold leavOf
  rw [if_pos ⟨(mvalid_iff _ _).2 ⟨n, qs, rfl, h1, h5, rfl, h3, hm⟩, decide_eq_true (by omega)⟩, toP_ups, Int.toNat_natCast, Int.toNat_natCast]
theorem leavOf_no {places x : Int} {pss : List (List Int)} (h : mvalid places pss = false ∨ inP places x = false) : leavOf places pss x = -1 := by
  unfold leavOf
  rw [if_neg (fun e => by rcases h with h | h <;> rw [h] at e <;> simp at e)]

theorem leaving_cases {places x : Int} {pss : List (List Int)} : (mvalid places pss = false ∨ inP places x = false) ∨ ∃ (n k : Nat) (qs : List Pm), places = n ∧ x = k ∧ 1 ≤ n ∧ n ≤ 5 ∧ pss = qs.map up ∧ qs.length ≤ 3 ∧ OkM n qs ∧ k < n := by
  cases hm : mvalid places pss
  · exact .inl (.inl rfl)
  cases hx : inP places x
  · exact .inl (.inr rfl)
  obtain ⟨n, qs, rfl, h1, h5, rfl, h3, hok⟩ := (mvalid_iff _ _).1 hm
  obtain ⟨k, rfl, hk⟩ := inP_nat hx
  exact .inr ⟨n, k, qs, rfl, rfl, h1, h5, rfl, h3, hok, hk⟩

theorem leave_size {n x : Nat} {ms : List Pm} (h5 : n ≤ 5) (hm : OkM n ms) (hx : x < n) : size n (leave n ms x) = (stab (groupL n ms) x).length := by
  rw [size_eq h5 (leave_ok h5 hm hx), leave_len h5 hm hx]

theorem impl_LeavingOrderA (places x : Int) (pss : List (List Int)) (v : Value) (w : World) (h : IntSS w v pss) :
    Calls Try.prog 40 #[.int .i64 places, v, .int .i64 x] w fun e w' => e = .returned (.int .i64 (leavOf places pss x)) ∧ Below w.heap.size w w' := by
  rcases leaving_cases (places := places) (x := x) (pss := pss) with hm | ⟨n, k, qs, rfl, rfl, h1, h5, rfl, h3, hok, hk⟩
  · rw [leavOf_no hm]
    refine (impl_LeavingOrder_no places x pss v w h hm).mono ?_
    rintro e w' ⟨rfl, rfl⟩
    exact ⟨rfl, Below.refl _ _⟩
  · rw [leavOf_valid h1 h5 h3 hok hk, ← leave_size h5 hok hk]
    exact impl_LeavingOrder n k qs v w h hok h1 h5 h3 hk

theorem spec_LeavingOrderA (places x : Int) (pss : List (List Int)) (v : Value) (w : World) (h : IntSS w v pss) (hl : ∀ m ∈ pss, m.length ≤ 4000000) :
    Calls Try.prog 39 #[.int .i64 places, v, .int .i64 x] w fun e w' => e = .returned (.int .i64 (leavOf places pss x)) ∧ Below w.heap.size w w' := by
  rcases leaving_cases (places := places) (x := x) (pss := pss) with hm | ⟨n, k, qs, rfl, rfl, h1, h5, rfl, h3, hok, hk⟩
  · rw [leavOf_no hm]
    exact spec_LeavingOrder_no places x pss v w h hm hl
  · rw [leavOf_valid h1 h5 h3 hok hk]
    exact spec_LeavingOrder n k qs v w h hok h1 h5 h3 hk
end Go.Proofs.Ytmmggbcmailbiaa
