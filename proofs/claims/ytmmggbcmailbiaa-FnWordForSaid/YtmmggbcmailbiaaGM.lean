/- MovesValid, PermNone, of the program and of the reference. -/
import Derived.Test.YtmmggbcmailbiaaGV
namespace Go.Proofs.Ytmmggbcmailbiaa
open Go.RowKit Grp

def mvalid (places : Int) (ms : List (List Int)) : Bool := decide (1 ≤ places ∧ places ≤ 5 ∧ ms.length ≤ 3 ∧ ∀ m ∈ ms, pvalid m = true ∧ (m.length : Int) = places)

theorem mvalid_head {places : Int} {ms : List (List Int)} (h : ¬ (1 ≤ places ∧ places ≤ 5 ∧ ms.length ≤ 3)) : mvalid places ms = false := by
  unfold mvalid; rw [decide_eq_false_iff_not]; rintro ⟨h1, h2, h3, _⟩; exact h ⟨h1, h2, h3⟩
theorem mvalid_out {places : Int} {ms : List (List Int)} {m : List Int} (hm : m ∈ ms) (h : ¬ (pvalid m = true ∧ (m.length : Int) = places)) : mvalid places ms = false := by
  unfold mvalid; rw [decide_eq_false_iff_not]; rintro ⟨_, _, _, h4⟩; exact h (h4 m hm)
theorem mvalid_yes {places : Int} {ms : List (List Int)} (h : 1 ≤ places ∧ places ≤ 5 ∧ ms.length ≤ 3) (h4 : ∀ m ∈ ms, pvalid m = true ∧ (m.length : Int) = places) : mvalid places ms = true := by
  unfold mvalid; rw [decide_eq_true_iff]; exact ⟨h.1, h.2.1, h.2.2, h4⟩
theorem take_snoc' {α : Type} {l : List α} {k : Nat} {a : α} (h : l[k]? = some a) : l.take (k + 1) = l.take k ++ [a] := by
  have hl := (List.getElem?_eq_some_iff.1 h).1
  rw [List.take_succ_eq_append_getElem hl, (List.getElem?_eq_some_iff.1 h).2]

/-- Valid generators are permutations. -/
theorem mvalid_iff (places : Int) (ms : List (List Int)) : mvalid places ms = true ↔ ∃ (n : Nat) (qs : List Pm), places = n ∧ 1 ≤ n ∧ n ≤ 5 ∧ ms = qs.map up ∧ qs.length ≤ 3 ∧ OkM n qs := by
  unfold mvalid
  rw [decide_eq_true_iff]
  constructor
  · rintro ⟨h1, h2, h3, h4⟩
    have he : ms = (ms.map (fun m => m.map Int.toNat)).map up := by
      rw [List.map_map]
      refine (List.map_id _).symm.trans (List.map_congr_left (fun m hm => ?_))
      obtain ⟨q, hq, _⟩ := (pvalid_iff m).1 (h4 m hm).1
      subst hq
      unfold up
      simp [List.map_map, Function.comp_def]
    refine ⟨places.toNat, ms.map (fun m => m.map Int.toNat), by omega, by omega, by omega, he, by simpa using h3, ?_⟩
    intro q hq
    obtain ⟨m, hm, rfl⟩ := List.mem_map.1 hq
    obtain ⟨hv, hl⟩ := h4 m hm
    obtain ⟨q, hq2, hP, _⟩ := (pvalid_iff m).1 hv
    subst hq2
    have e : (up q).map Int.toNat = q := by unfold up; simp [List.map_map, Function.comp_def]
    rw [e]
    rw [up_len] at hl
    have : q.length = places.toNat := by omega
    rw [← this]; exact hP
  · rintro ⟨n, qs, rfl, h1, h5, rfl, h3, hok⟩
    refine ⟨by omega, by omega, by simpa using h3, ?_⟩
    intro m hm
    obtain ⟨q, hq, rfl⟩ := List.mem_map.1 hm
    exact ⟨pvalid_up (hok q hq) h1 h5, by rw [up_len, (hok q hq).len]⟩

set_option maxHeartbeats 1000000 in
theorem impl_MovesValid (places : Int) (ms : List (List Int)) (v : Value) (w : World) (h : IntSS w v ms) :
    Calls Try.prog 29 #[.int .i64 places, v] w fun e w' => e = .returned (.bool (mvalid places ms)) ∧ w = w' := by
  obtain ⟨ao, cap, rfl, hcap, hmax, hcells⟩ := h
  unfold maxLen at hmax
  by_cases hh : 1 ≤ places ∧ places ≤ 5 ∧ ms.length ≤ 3
  rotate_left
  · have HF := hidI (mvalid_head hh)
    by_cases h1 : places < 1
    · go_enter Try.func29, Try.ntmps29
      go_wp2_with fail
      go_ret
      exact ⟨ret_bool HF.out.symm, rfl⟩
    by_cases h5 : 5 < places
    · go_enter Try.func29, Try.ntmps29
      go_wp2_with fail
      go_ret
      exact ⟨ret_bool HF.out.symm, rfl⟩
    have h3 : (3 : Int) < (ms.length : Int) := by omega
    go_enter Try.func29, Try.ntmps29
    go_wp2_with fail
    go_ret
    exact ⟨ret_bool HF.out.symm, rfl⟩
  have h1 : ¬ places < 1 := by omega
  have h5 : ¬ 5 < places := by omega
  have h3 : ¬ (3 : Int) < (ms.length : Int) := by omega
  have hl3 : ms.length ≤ 3 := hh.2.2
  have HH := hidI hh; clear hh
  rcases hcells with ⟨rfl, _⟩ | ⟨b, off, rfl, hb, hc⟩
  · have HF := hidI (mvalid_yes HH.out (by simp))
    go_enter Try.func29, Try.ntmps29
    go_wp2_with fail
    refine wp_loop_rounds 1 ?_
    rw [rounds_succ]
    go_wp2_with fail
    go_ret
    exact ⟨ret_bool HF.out.symm, rfl⟩
  · go_enter Try.func29, Try.ntmps29
    go_wp2_with fail
    go_loop [20] (fun i => ∃ k : Nat, k ≤ ms.length ∧ i = .int .i64 k ∧ Hid (∀ m ∈ ms.take k, pvalid m = true ∧ (m.length : Int) = places)) (fun i => ms.length - (intOf i).toNat)
    case atStart => exact ⟨0, by omega, rfl, hidI (by simp)⟩
    case round =>
      obtain ⟨k, hk, rfl, HA⟩ := hrel
      by_cases hlt : k < ms.length
      · have hm : ms[k]? = some ms[k] := List.getElem?_eq_getElem hlt
        obtain ⟨m, hm0⟩ : ∃ m, m = ms[k] := ⟨_, rfl⟩
        rw [← hm0] at hm; clear hm0
        obtain ⟨u, hcell, hu⟩ := hc k m hm
        have hu' := hu
        obtain ⟨_, mo, mc, rfl, hmc, hmm, _⟩ := hu'
        unfold maxLen at hmm
        have HU := hidI hu; have HM := hidI hm; have Hc := hidI hc
        have hkI : (k : Int) < (ms.length : Int) := by omega
        clear hc hu hm
        by_cases hln : (m.length : Int) = places
        rotate_left
        · have HF := hidI (mvalid_out (List.mem_of_getElem? HM.out) (fun h => hln h.2))
          have hlb : ((m.length : Int) != places) = true := by simp [hln]
          clear hln
          go_wp2_with fail
          go_ret
          exact ⟨ret_bool HF.out.symm, rfl⟩
        have hlb : ((m.length : Int) != places) = false := by simp [hln]
        have HLN := hidI hln; clear hln
        cases hv : pvalid m
        · have HF := hidI (mvalid_out (ms := ms) (places := places) (List.mem_of_getElem? HM.out) (fun h => by rw [hv] at h; cases h.1))
          have HV := hidI hv; clear hv
          go_wp2_with (go_at_call 61; refine (impl_PermValid m _ _ HU.out).mono ?_; rintro e w' ⟨rfl, rfl⟩; rw [HV.out])
          go_ret
          exact ⟨ret_bool HF.out.symm, rfl⟩
        · have HA2 := hidI (show ∀ m ∈ ms.take (k + 1), pvalid m = true ∧ (m.length : Int) = places by
            intro x hx; rw [take_snoc' HM.out, List.mem_append] at hx
            rcases hx with hx | hx
            · exact HA.out x hx
            · rw [List.mem_singleton.1 hx]; exact ⟨hv, HLN.out⟩)
          have HV := hidI hv; clear hv
          go_wp2_with (go_at_call 61; refine (impl_PermValid m _ _ HU.out).mono ?_; rintro e w' ⟨rfl, rfl⟩; rw [HV.out])
          go_round
          case rel => exact ⟨k + 1, by omega, by go_num, HA2⟩
          case measure => simp [intOf]; omega
      · have hk2 : k = ms.length := by omega
        have HF := hidI (mvalid_yes HH.out (by have := HA.out; rw [hk2, List.take_length] at this; exact this))
        have hkI : ¬ (k : Int) < (ms.length : Int) := by omega
        clear hk2 hlt
        go_wp2_with fail
        go_ret
        exact ⟨ret_bool HF.out.symm, rfl⟩

theorem mvalid_end {places : Int} {ms : List (List Int)} {k : Nat} (hk : k = ms.length) (h4 : ∀ m ∈ ms.take k, pvalid m = true ∧ (m.length : Int) = places) : mvalid places ms = (inB places 1 5 && decide ((ms.length : Int) ≤ 3)) := by
  subst hk
  rw [List.take_length] at h4
  unfold inB
  by_cases h : 1 ≤ places ∧ places ≤ 5 ∧ ms.length ≤ 3
  · rw [mvalid_yes h h4, decide_eq_true (by omega), decide_eq_true (by omega)]; rfl
  · rw [mvalid_head h]
    by_cases h2 : 1 ≤ places ∧ places ≤ 5
    · rw [decide_eq_true h2, decide_eq_false (by omega)]; rfl
    · rw [decide_eq_false h2]; rfl

set_option maxHeartbeats 1000000 in
theorem spec_MovesValid (places : Int) (ms : List (List Int)) (v : Value) (w : World) (h : IntSS w v ms) (hlen : ∀ m ∈ ms, m.length ≤ 4000000) :
    Calls Try.prog 64 #[.int .i64 places, v] w fun e w' => e = .returned (.bool (mvalid places ms)) ∧ ∃ n, w' = w.drewN n := by
  obtain ⟨ao, cap, rfl, hcap, hmax, hcells⟩ := h
  unfold maxLen at hmax
  have HLEN := hidI hlen; clear hlen
  have tail : ∀ k, k = ms.length → (∀ m ∈ ms.take k, pvalid m = true ∧ (m.length : Int) = places) → ∃ a b : Bool, inB places 1 5 = a ∧ decide ((ms.length : Int) ≤ 3) = b ∧ mvalid places ms = (a && b) := fun k hk h => ⟨_, _, rfl, rfl, mvalid_end hk h⟩
  have HT := hidI tail; clear tail
  rcases hcells with ⟨rfl, _⟩ | ⟨b, off, rfl, hb, hc⟩
  · obtain ⟨a, b, ha, hb, hF⟩ := HT.out 0 rfl (by simp)
    have HA := hidI ha; have HF := hidI hF; clear ha hF
    cases a
    · go_enter Try.func64, Try.ntmps64
      go_wp2_with fail
      refine wp_loop_rounds 1 ?_
      rw [rounds_succ]
      go_wp2_with (go_at_call 87; refine (spec_l1InQ _ _ _ _ _ HA.out).mono ?_; rintro e w' ⟨rfl, rfl⟩)
      go_ret
      exact ⟨ret_bool (by rw [HF.out]; rfl), 0, rfl⟩
    · have hb' : b = true := by rw [← hb]; simp
      subst hb'
      clear hb
      go_enter Try.func64, Try.ntmps64
      go_wp2_with fail
      refine wp_loop_rounds 1 ?_
      rw [rounds_succ]
      go_wp2_with (go_at_call 87; refine (spec_l1InQ _ _ _ _ _ HA.out).mono ?_; rintro e w' ⟨rfl, rfl⟩)
      go_ret
      exact ⟨ret_bool (by rw [HF.out]; rfl), 0, rfl⟩
  · go_enter Try.func64, Try.ntmps64
    go_wp2_with fail
    go_loopw [5] (fun i wr => ∃ k n : Nat, k ≤ ms.length ∧ i = .int .i64 k ∧ Hid (∀ m ∈ ms.take k, pvalid m = true ∧ (m.length : Int) = places) ∧ Hid (wr = w.drewN n)) (fun i _ => ms.length - (intOf i).toNat)
    case atStart => exact ⟨0, 0, by omega, rfl, hidI (by simp), hidI rfl⟩
    case round =>
      obtain ⟨k, n, hk, rfl, HA, HW⟩ := hrel
      by_cases hlt : k < ms.length
      · have hm : ms[k]? = some ms[k] := List.getElem?_eq_getElem hlt
        obtain ⟨m, hm0⟩ : ∃ m, m = ms[k] := ⟨_, rfl⟩
        rw [← hm0] at hm; clear hm0
        obtain ⟨u, hcell, hu⟩ := hc k m hm
        have hcr : wr.cell? ⟨b, off + k, none⟩ = some u := by rw [HW.out]; exact hcell
        have hu' := hu
        obtain ⟨_, mo, mc, rfl, hmc, hmm, _⟩ := hu'
        unfold maxLen at hmm
        have HU := hidI (show IntS wr (.slice mo m.length mc) m by rw [HW.out]; exact hu.below (bdraw w n))
        have HM := hidI hm; have Hc := hidI hc
        have hml := HLEN.out m (List.mem_of_getElem? hm)
        have hkI : (k : Int) < (ms.length : Int) := by omega
        clear hc hu hm hcell
        cases hv : pvalid m
        · have HF := hidI (mvalid_out (ms := ms) (places := places) (List.mem_of_getElem? HM.out) (fun h => by rw [hv] at h; cases h.1))
          have HV := hidI hv; clear hv
          go_wp2_with fail
          refine (spec_PermValid m _ _ HU.out hml).mono ?_; rintro e w5 ⟨rfl, n5, hw5⟩; rw [HV.out]
          have HW5 := hidI (show w5 = w.drewN (n + n5) by rw [hw5, HW.out, World.drewN_drewN]); clear hw5
          go_wp2_with fail
          go_ret
          exact ⟨ret_bool HF.out.symm, _, HW5.out⟩
        by_cases hln : (m.length : Int) = places
        rotate_left
        · have HF := hidI (mvalid_out (List.mem_of_getElem? HM.out) (fun h => hln h.2))
          have hlb : ((m.length : Int) != places) = true := by simp [hln]
          have HV := hidI hv; clear hv hln
          go_wp2_with fail
          refine (spec_PermValid m _ _ HU.out hml).mono ?_; rintro e w5 ⟨rfl, n5, hw5⟩; rw [HV.out]
          have HW5 := hidI (show w5 = w.drewN (n + n5) by rw [hw5, HW.out, World.drewN_drewN])
          have hcr5 : w5.cell? ⟨b, off + k, none⟩ = some (.slice mo m.length mc) := by rw [hw5]; exact hcr
          clear hw5
          go_wp2_with fail
          go_ret
          exact ⟨ret_bool HF.out.symm, _, HW5.out⟩
        have hlb : ((m.length : Int) != places) = false := by simp [hln]
        have HA2 := hidI (show ∀ m ∈ ms.take (k + 1), pvalid m = true ∧ (m.length : Int) = places by
          intro x hx; rw [take_snoc' HM.out, List.mem_append] at hx
          rcases hx with hx | hx
          · exact HA.out x hx
          · rw [List.mem_singleton.1 hx]; exact ⟨hv, hln⟩)
        have HV := hidI hv; clear hv hln
        go_wp2_with fail
        refine (spec_PermValid m _ _ HU.out hml).mono ?_; rintro e w5 ⟨rfl, n5, hw5⟩; rw [HV.out]
        have HW5 := hidI (show w5 = w.drewN (n + n5) by rw [hw5, HW.out, World.drewN_drewN])
        have hcr5 : w5.cell? ⟨b, off + k, none⟩ = some (.slice mo m.length mc) := by rw [hw5]; exact hcr
        clear hw5
        go_wp2_with fail
        go_roundw
        case rel => exact ⟨k + 1, _, by omega, by go_num, HA2, HW5⟩
        case measure => simp [intOf]; omega
      · obtain ⟨a, c, ha, hb3, hF⟩ := HT.out k (by omega) HA.out
        have HI := hidI ha; have HF := hidI hF; clear ha hF
        have hkI : ¬ (k : Int) < (ms.length : Int) := by omega
        cases a
        · clear hb3
          go_wp2_with (go_at_call 87; refine (spec_l1InQ _ _ _ _ _ HI.out).mono ?_; rintro e w' ⟨rfl, rfl⟩)
          go_ret
          exact ⟨ret_bool (by rw [HF.out]; rfl), n, HW.out⟩
        · cases c
          · go_wp2_with (go_at_call 87; refine (spec_l1InQ _ _ _ _ _ HI.out).mono ?_; rintro e w' ⟨rfl, rfl⟩)
            go_ret
            exact ⟨ret_bool (by rw [HF.out]; first | rfl | (simp; done) | (simp at hb3 ⊢; omega)), n, HW.out⟩
          · go_wp2_with (go_at_call 87; refine (spec_l1InQ _ _ _ _ _ HI.out).mono ?_; rintro e w' ⟨rfl, rfl⟩)
            go_ret
            exact ⟨ret_bool (by rw [HF.out]; first | rfl | (simp; done) | (simp at hb3 ⊢; omega)), n, HW.out⟩
end Go.Proofs.Ytmmggbcmailbiaa
