/- WordPerm of both. -/
import Derived.Test.YtmmggbcmailbiaaGFS
namespace Go.Proofs.Ytmmggbcmailbiaa
open Go.RowKit Grp

def wordsIn (ms : List Pm) (zs : List Int) : Bool := zs.all (fun z => inP (ms.length : Int) z)
theorem wordP_snoc (n : Nat) (ms : List Pm) (w : List Nat) (j : Nat) : wordP n ms (w ++ [j]) = join (wordP n ms w) (ms.getD j []) := by unfold wordP; rw [List.foldl_append]; rfl
theorem foldP_gen {n : Nat} {ms : List Pm} : ∀ (w : List Nat) (p : Pm), Gen n ms p → (∀ j ∈ w, j < ms.length) → Gen n ms (w.foldl (fun p j => join p (ms.getD j [])) p)
  | [], _, h, _ => h
  | j :: w, p, h, hj => by
    have hjl := hj j (by simp)
    have hg : ms.getD j [] ∈ ms := by rw [List.getD_eq_getElem?_getD, List.getElem?_eq_getElem hjl]; exact List.getElem_mem hjl
    exact foldP_gen w _ (h.step hg) (fun i hi => hj i (by simp [hi]))
theorem wordP_isP {n : Nat} {ms : List Pm} {w : List Nat} (h : ∀ j ∈ w, j < ms.length) : Gen n ms (wordP n ms w) := foldP_gen w _ Gen.one h

theorem wordsIn_nat {ms : List Pm} {zs : List Int} (h : ∀ z ∈ zs, inP (ms.length : Int) z = true) : ∀ j ∈ zs.map Int.toNat, j < ms.length := by
  intro j hj
  obtain ⟨z, hz, rfl⟩ := List.mem_map.1 hj
  have := of_decide_eq_true (h z hz)
  omega

def wpOf (places : Int) (pss : List (List Int)) (zs : List Int) : List Int := if mvalid places pss = true ∧ wordsIn (pss.map toP) zs = true then up (wordP places.toNat (pss.map toP) (zs.map Int.toNat)) else []
theorem wpOf_valid {n : Nat} {ms : List Pm} {zs : List Int} (h1 : 1 ≤ n) (h5 : n ≤ 5) (h3 : ms.length ≤ 3) (hm : OkM n ms) (h : wordsIn ms zs = true) : wpOf (n : Int) (ms.map up) zs = up (wordP n ms (zs.map Int.toNat)) := by
  unfold wpOf
  rw [toP_ups, if_pos ⟨(mvalid_iff _ _).2 ⟨n, ms, rfl, h1, h5, rfl, h3, hm⟩, h⟩, Int.toNat_natCast]
theorem wpOf_no {places : Int} {pss : List (List Int)} (zs : List Int) (h : mvalid places pss = false) : wpOf places pss zs = [] := by unfold wpOf; rw [h]; simp
theorem wpOf_out {n : Nat} {ms : List Pm} {zs : List Int} {k : Nat} {z : Int} (hz : zs[k]? = some z) (h : inP (ms.length : Int) z = false) : wpOf (n : Int) (ms.map up) zs = [] := by
  unfold wpOf
  rw [if_neg]
  rintro ⟨_, h2⟩
  rw [toP_ups] at h2
  unfold wordsIn at h2
  rw [List.all_eq_true] at h2
  have := h2 z (List.mem_of_getElem? hz)
  rw [h] at this; cases this

theorem wordsIn_take {ms : List Pm} {zs : List Int} (h : ∀ z ∈ zs.take zs.length, inP (ms.length : Int) z = true) : wordsIn ms zs = true := by
  unfold wordsIn; rw [List.all_eq_true]; rw [List.take_length] at h; exact h

set_option maxRecDepth 100000 in
set_option maxHeartbeats 4000000 in
theorem impl_WordPerm (n : Nat) (ms : List Pm) (zs : List Int) (v u : Value) (w : World) (h : IntSS w v (ms.map up)) (hu : IntS w u zs) (hm : OkM n ms) (h1 : 1 ≤ n) (h5 : n ≤ 5) (h3 : ms.length ≤ 3) :
    Calls Try.prog 24 #[.int .i64 (n : Int), v, u] w fun e w' => GivesL w w' (wpOf n (ms.map up) zs) e := by
  have HV := hidI (show mvalid (n : Int) (ms.map up) = true from (mvalid_iff _ _).2 ⟨n, ms, rfl, h1, h5, rfl, h3, hm⟩)
  have HM := hidI h; have HO := hidI hm; have HU := hidI hu
  obtain ⟨ao, cap, hv, hcap, hmax⟩ := ints_of_rows h
  subst hv
  unfold maxLen at hmax
  obtain ⟨_, uo, uc, hu1, hul, hum, _⟩ := id hu
  subst hu1
  unfold maxLen at hum
  clear h hm hu
  go_enter Try.func24, Try.ntmps24
  go_wp2_with fail
  refine (impl_MovesValid (n : Int) (ms.map up) _ _ HM.out).mono ?_; rintro e w' ⟨rfl, rfl⟩; rw [HV.out]
  go_wp2_with fail
  refine (impl_PermNone n _ h1 h5).mono ?_; rintro e w1 ⟨v0, rfl, o1, b1⟩
  obtain ⟨_, no, nc, hv0, _⟩ := id (El.ofOwn o1 (up_I64 (isP_id n) h5)).1
  subst hv0
  have O1 := hidI (own_base o1 (Nat.le_refl _)); have B1 := hidI b1
  clear o1 b1
  go_wp2_with fail
  go_loopw [7, 18] (fun v7 vk wr => ∃ (k : Nat) (q : Pm) (qo : Option Addr) (qc : Nat), v7 = .slice qo (up q).length qc ∧ vk = .int .i64 (k : Nat) ∧ k ≤ zs.length ∧ Hid (∀ z ∈ zs.take k, inP (ms.length : Int) z = true) ∧ Hid (q = wordP n ms ((zs.take k).map Int.toNat)) ∧
    Hid (wr.ownsRow w.heap.size 3 1 (.slice qo (up q).length qc) (up q).length ((up q).map (Value.int .i64))) ∧ Hid (Below w.heap.size w wr)) (fun _ vk _ => zs.length - (intOf vk).toNat)
  case atStart => exact ⟨0, idP n, no, nc, rfl, rfl, by omega, hidI (by simp), hidI rfl, O1, B1⟩
  case round =>
    clear O1 B1
    obtain ⟨k, q, qo, qc, rfl, rfl, hk, HIn, HQ, HOw, HB⟩ := hrel
    have HQP := hidI (show IsP n q by rw [HQ.out]; exact (wordP_isP (wordsIn_nat HIn.out)).isP HO.out)
    by_cases hlt : k < zs.length
    rotate_left
    · have hkn : k = zs.length := by omega
      have HEn := hidI (show wpOf n (ms.map up) zs = up q by
        have hi := HIn.out
        rw [hkn] at hi
        rw [wpOf_valid h1 h5 h3 HO.out (wordsIn_take hi), HQ.out, hkn, List.take_length])
      have hkI : ¬ (k : Int) < (zs.length : Int) := by omega
      clear hkn
      go_wp2_with fail
      go_ret
      rw [HEn.out]
      exact ⟨_, rfl, HOw.out, HB.out⟩
    have hkI : (k : Int) < (zs.length : Int) := by omega
    obtain ⟨z, hz⟩ : ∃ z, zs[k]? = some z := ⟨_, List.getElem?_eq_getElem hlt⟩
    obtain ⟨bz, oz, cz, hzv, -, -, hbz, hcz⟩ := HU.out.addr (show 1 ≤ zs.length by omega)
    injection hzv with hz1 hz2 hz3
    subst hz1
    have ez : wr.cell? ⟨bz, oz + k, none⟩ = some (.int .i64 z) := by
      have := hcz k hlt
      rw [List.getD_eq_getElem?_getD, hz] at this
      exact (HB.out.cell (p := ⟨bz, oz + k, none⟩) hbz).trans this
    have HZ := hidI hz
    clear hz hz2 hz3 hcz
    by_cases hz0 : z < 0
    · have HEn := hidI (wpOf_out (n := n) (ms := ms) HZ.out (decide_eq_false (by omega)))
      go_wp2_with fail
      go_ret
      rw [HEn.out]
      exact ⟨_, rfl, World.ownsRow_nil _ _ _ _, HB.out⟩
    by_cases hzl : (ms.length : Int) ≤ z
    · have HEn := hidI (wpOf_out (n := n) (ms := ms) HZ.out (decide_eq_false (by omega)))
      go_wp2_with fail
      go_ret
      rw [HEn.out]
      exact ⟨_, rfl, World.ownsRow_nil _ _ _ _, HB.out⟩
    obtain ⟨j, rfl⟩ := Int.eq_ofNat_of_zero_le (show 0 ≤ z by omega)
    have hjl : j < ms.length := by omega
    have hjI : (j : Int) < (ms.length : Int) := by omega
    obtain ⟨m, hm⟩ : ∃ m, ms[j]? = some m := ⟨_, List.getElem?_eq_getElem hjl⟩
    have HMP := hidI (HO.out m (List.mem_of_getElem? hm))
    obtain ⟨b, off, um, hao, hb, hcm, hum2⟩ := IntSS.at HM.out hm
    subst hao
    have ecm := (HB.out.cell (p := ⟨b, off + j, none⟩) hb).trans hcm
    have HUM := hidI (hum2.below HB.out)
    obtain ⟨_, mo, mc, humv, _⟩ := id HUM.out
    subst humv
    have HIn2 := hidI (show ∀ z ∈ zs.take (k + 1), inP (ms.length : Int) z = true from fun z hz => by
      rw [take_snoc' HZ.out, List.mem_append] at hz
      rcases hz with hz | hz
      · exact HIn.out z hz
      · rw [List.mem_singleton.1 hz]; exact decide_eq_true (by omega))
    have HQ2 := hidI (show join q m = wordP n ms ((zs.take (k + 1)).map Int.toNat) by
      rw [take_snoc' HZ.out, List.map_append]
      show _ = wordP n ms (_ ++ [j])
      rw [wordP_snoc, ← HQ.out, List.getD_eq_getElem?_getD, hm]; rfl)
    have HLf := hidI (IntS.ofOwn HOw.out (up_I64 HQP.out h5)).2
    have hsw := HB.out.size
    clear hm hcm hum2 hz0 hzl
    go_wp2_with fail
    refine (impl_permJoin n q m _ _ wr HLf.out HUM.out HQP.out HMP.out h1 h5).mono ?_; rintro e w5 ⟨v5, rfl, o5, b5⟩
    obtain ⟨_, q5, c5, hv5, _⟩ := id (El.ofOwn o5 (up_I64 (isP_join HQP.out HMP.out) h5)).1
    subst hv5
    have O5 := hidI (own_base o5 hsw); have B5 := hidI (bthen HB.out b5)
    clear o5 b5
    go_wp2_with fail
    go_roundw
    case rel => exact ⟨k + 1, join q m, q5, c5, rfl, by go_num, by omega, HIn2, HQ2, O5, B5⟩
    case measure => simp [intOf]; omega

theorem impl_WordPerm_no (places : Int) (pss : List (List Int)) (zs : List Int) (v u : Value) (w : World) (h : IntSS w v pss) (hu : IntS w u zs) (hm : mvalid places pss = false) :
    Calls Try.prog 24 #[.int .i64 places, v, u] w fun e w' => e = .returned (.slice none 0 0) ∧ w = w' := by
  have HM := hidI h; have HO := hidI hm
  obtain ⟨ao, cap, hv, _, _⟩ := id h
  subst hv
  obtain ⟨_, uo, uc, hu1, _⟩ := id hu
  subst hu1
  clear h hm hu
  go_enter Try.func24, Try.ntmps24
  go_wp2_with fail
  refine (impl_MovesValid places pss _ _ HM.out).mono ?_; rintro e w' ⟨rfl, rfl⟩; rw [HO.out]
  go_wp2_with fail
  go_ret
  exact ⟨rfl, rfl⟩

theorem impl_WordPermA (places : Int) (pss : List (List Int)) (zs : List Int) (v u : Value) (w : World) (h : IntSS w v pss) (hu : IntS w u zs) :
    Calls Try.prog 24 #[.int .i64 places, v, u] w fun e w' => GivesL w w' (wpOf places pss zs) e := by
  cases hm : mvalid places pss
  · rw [wpOf_no zs hm]
    refine (impl_WordPerm_no places pss zs v u w h hu hm).mono ?_
    rintro e w' ⟨rfl, rfl⟩
    exact ⟨_, rfl, World.ownsRow_nil _ _ _ _, Below.refl _ _⟩
  · obtain ⟨n, qs, rfl, h1, h5, rfl, h3, hok⟩ := (mvalid_iff _ _).1 hm
    exact impl_WordPerm n qs zs v u w h hu hok h1 h5 h3
end Go.Proofs.Ytmmggbcmailbiaa
