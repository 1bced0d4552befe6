/- The reference's OrbitOf. -/
import Derived.Test.YtmmggbcmailbiaaGT
namespace Go.Proofs.Ytmmggbcmailbiaa
open Go.RowKit Grp

theorem idx_tag {R : NP} {t : Nat} (hN : (R.map Prod.fst).Nodup) (ht : t ∈ R.map Prod.fst) : R[(numsI R).idxOf (t : Int)]? = some (t, tagO R t) := by
  have hm : (t : Int) ∈ numsI R := numsI_mem.2 ht
  have hl := List.idxOf_lt_length_of_mem hm
  have hg : (numsI R)[(numsI R).idxOf (t : Int)]? = some (t : Int) := by rw [List.getElem?_eq_getElem hl]; exact congrArg some (List.getElem_idxOf hl)
  rw [numsI_len] at hl
  obtain ⟨z, hz⟩ : ∃ z, R[(numsI R).idxOf (t : Int)]? = some z := ⟨_, List.getElem?_eq_getElem hl⟩
  unfold numsI at hg
  rw [List.getElem?_map] at hg
  unfold numsI at hz ⊢
  rw [hz] at hg ⊢
  simp only [Option.map_some] at hg
  injection hg with hg
  have h1 : z.1 = t := by omega
  have h2 := tagO_mem ht
  have h3 : (t, z.2) ∈ R := by rw [← h1]; exact List.mem_of_getElem? hz
  rw [← nodup_key hN h3 h2, ← h1]

/-- Of what lay in w, nothing has turned but the block b. -/
structure Sep (b : Nat) (w W : World) : Prop where
  size : w.heap.size ≤ W.heap.size
  same : ∀ k, k < w.heap.size → k ≠ b → W.heap[k]? = w.heap[k]?
theorem Sep.refl (b : Nat) (w : World) : Sep b w w := ⟨Nat.le_refl _, fun _ _ _ => rfl⟩
theorem Sep.below {b : Nat} {w W W' : World} (h : Sep b w W) (hb : Below W.heap.size W W') : Sep b w W' :=
  ⟨Nat.le_trans h.size hb.size, fun k hk hne => (hb.block k (Nat.lt_of_lt_of_le hk h.size)).trans (h.same k hk hne)⟩
theorem Sep.grown {b : Nat} {w W W' : World} {r : Option Nat} (h : Sep b w W) (hg : W.grownBy W' r) (hr : ∀ k, r = some k → k = b ∨ w.heap.size ≤ k) : Sep b w W' :=
  ⟨Nat.le_trans h.size hg.size, fun k hk hne => (hg.block k (Nat.lt_of_lt_of_le hk h.size) (fun e => by have := hr k e.symm; omega)).trans (h.same k hk hne)⟩

/-- The block b holds no cell. -/
def Bare (b : Nat) (w : World) : Prop := ∀ i, w.cell? ⟨b, i, none⟩ = none
theorem bare_made (w : World) (t : TypeId) : Bare w.heap.size (w.alloc (.cells #[] t)) := fun i => by rw [cell_new]; simp
theorem Bare.below {b : Nat} {w w' : World} (h : Bare b w) (hb : Below w.heap.size w w') (hl : b < w.heap.size) : Bare b w' := fun i => by
  rw [World.cell?_of_block (a := ⟨b, i, none⟩) (hb.block b hl)]; exact h i

theorem IntS.sep {b : Nat} {w W : World} {v : Value} {zs : List Int} (h : IntS w v zs) (he : Bare b w) (hs : Sep b w W) : IntS W v zs := by
  obtain ⟨hz, ao, cap, rfl, h1, h2, h3⟩ := h
  refine ⟨hz, ao, cap, rfl, h1, h2, ?_⟩
  rcases h3 with h3 | ⟨b', off, rfl, h4, h5⟩
  · exact .inl h3
  · refine .inr ⟨b', off, rfl, Nat.lt_of_lt_of_le h4 hs.size, fun j hj => ?_⟩
    have hc := h5 j hj
    have hne : b' ≠ b := fun e => by subst e; rw [he (off + j)] at hc; cases hc
    exact (World.cell?_of_block (a := ⟨b', off + j, none⟩) (hs.same b' h4 hne)).trans hc

theorem IntSS.sep {b : Nat} {w W : World} {v : Value} {pss : List (List Int)} (h : IntSS w v pss) (he : Bare b w) (hs : Sep b w W) : IntSS W v pss := by
  obtain ⟨ao, cap, rfl, h1, h2, h3⟩ := h
  refine ⟨ao, cap, rfl, h1, h2, ?_⟩
  rcases h3 with h3 | ⟨b', off, rfl, h4, h5⟩
  · exact .inl h3
  · refine .inr ⟨b', off, rfl, Nat.lt_of_lt_of_le h4 hs.size, fun j p hj => ?_⟩
    obtain ⟨u, hc, hu⟩ := h5 j p hj
    have hne : b' ≠ b := fun e => by subst e; rw [he (off + j)] at hc; cases hc
    exact ⟨u, (World.cell?_of_block (a := ⟨b', off + j, none⟩) (hs.same b' h4 hne)).trans hc, hu.sep he hs⟩

theorem orbitR_ok {n x : Nat} {ms : List Pm} (h5 : n ≤ 5) (hm : OkM n ms) (hx : x < n) : (∀ z ∈ orbitW n ms x, z.1 < n ∧ IsP n z.2) ∧ (orbitW n ms x).length ≤ 5 := by
  refine ⟨fun z hz => ⟨((orbitW_facts h5 hm hx).1 z hz).1, (((orbitW_facts h5 hm hx).1 z hz).2.1).isP hm⟩, ?_⟩
  have h2 := len_le (l := (orbitW n ms x).map Prod.fst) (m := List.range n) (orbitW_facts h5 hm hx).2.1 (fun z hz => by
    obtain ⟨q, hq, rfl⟩ := List.mem_map.1 hz
    exact List.mem_range.2 ((orbitW_facts h5 hm hx).1 q hq).1)
  rw [List.length_map, List.length_range] at h2
  omega

theorem inB_place {n x : Nat} (hx : x < n) : inB (x : Int) 0 ((n : Int) - 1) = true := decide_eq_true (by omega)

set_option maxRecDepth 100000 in
set_option maxHeartbeats 4000000 in
theorem spec_OrbitOf (n x : Nat) (ms : List Pm) (v : Value) (w : World) (h : IntSS w v (ms.map up)) (hm : OkM n ms) (h1 : 1 ≤ n) (h5 : n ≤ 5) (h3 : ms.length ≤ 3) (hx : x < n) :
    Calls Try.prog 54 #[.int .i64 (n : Int), v, .int .i64 (x : Int)] w fun e w' => GivesL w w' (upW (orbAsc n ms x)) e := by
  have HV := hidI (show mvalid (n : Int) (ms.map up) = true from (mvalid_iff _ _).2 ⟨n, ms, rfl, h1, h5, rfl, h3, hm⟩)
  have HLN := hidI (ups_lens hm h5)
  have HM := hidI h; have HO := hidI hm
  obtain ⟨ao, cap, hv, hcap, hmax⟩ := ints_of_rows h
  subst hv
  unfold maxLen at hmax
  have hib := inB_place hx
  clear h hm
  go_enter Try.func54, Try.ntmps54
  go_wp2_with fail
  refine (spec_MovesValid (n : Int) (ms.map up) _ _ (HM.out.below ((Below.refl _ _).alloc (Nat.le_refl _) _)) HLN.out).mono ?_; rintro e w1 ⟨rfl, n1, hw1⟩; rw [HV.out]
  have B1 := hidI (show Below w.heap.size w w1 by rw [hw1]; exact bthen ((Below.refl _ _).alloc (Nat.le_refl _) _) (bdraw _ _))
  have O1 := hidI (show w1.ownsRow w.heap.size 3 1 (.slice (some ⟨w.heap.size, 0, none⟩) 0 0) 0 [] by rw [hw1]; exact own_below (own_made rfl (Nat.le_refl _) _) (bdraw _ _))
  have hs1 : w1.heap.size = w.heap.size + 1 := by rw [hw1]; simp [World.drewN]
  have E1 := hidI (show Bare w.heap.size w1 by rw [hw1]; exact (bare_made w 3).below (bdraw _ _) (by simp))
  clear hw1
  go_wp2_with (go_at_call 87; refine (spec_l1InQ _ _ _ _ _ hib).mono ?_; rintro e w' ⟨rfl, rfl⟩)
  refine (spec_l4Orbit n x ms _ w1 (HM.out.below B1.out) HO.out h1 h5 (by omega) hx).mono ?_; rintro e w2 ⟨vf, vb, rfl, hif, hib2, b2⟩
  obtain ⟨hro, hrl⟩ := orbitR_ok h5 HO.out hx
  have HF := hidI hif
  obtain ⟨_, fo, fc, hvf, _⟩ := id hif
  obtain ⟨bo, bc, hvb, _⟩ := id hib2
  subst hvf; subst hvb
  have HB2 := hidI (bthen B1.out b2)
  have HO2 := hidI (own_below O1.out b2)
  have E2 := hidI (E1.out.below b2 (by omega))
  have s2 := b2.size
  obtain ⟨R, hR⟩ : ∃ R, R = orbitW n ms x := ⟨_, rfl⟩
  have HR := hidI hR
  rw [← hR] at hrl HF
  clear hif hib2 b2 O1 E1 hro hR
  rw [show (orbitW n ms x) = R from HR.out.symm]
  go_wp2_with fail
  go_loopw [7, 10] (fun vo vi wr => ∃ (k g c : Nat) (zs : List Nat), vo = .slice (some ⟨g, 0, none⟩) zs.length c ∧ vi = .int .i64 (k : Nat) ∧ k ≤ n ∧ zs.length ≤ k ∧ Hid (zs = (List.range k).filter (fun y => decide (y ∈ R.map Prod.fst))) ∧
    Hid (wr.ownsRow w.heap.size 3 1 (.slice (some ⟨g, 0, none⟩) zs.length c) zs.length ((upW zs).map (Value.int .i64))) ∧ Hid (g = w.heap.size ∨ w2.heap.size ≤ g) ∧ Hid (Sep w.heap.size w2 wr) ∧ Hid (Below w.heap.size w wr)) (fun _ vi _ => n - (intOf vi).toNat)
  case atStart => exact ⟨0, w.heap.size, 0, [], rfl, rfl, by omega, by simp, hidI rfl, HO2, hidI (.inl rfl), hidI (Sep.refl _ _), HB2⟩
  case round =>
    clear HO2 HB2
    obtain ⟨k, g, c, zs, rfl, rfl, hk, hzl, HZ, HOw, HG, HSp, HB⟩ := hrel
    have hsw := HB.out.size
    by_cases hlt : k < n
    rotate_left
    · have hkn := hidI (show k = n by omega)
      have hkI : ¬ (k : Int) < (n : Int) := by omega
      go_wp2_with fail
      go_ret
      have he : orbAsc n ms x = zs := by unfold orbAsc; rw [HZ.out, hkn.out, HR.out]; rfl
      refine ⟨_, rfl, ?_, HB.out⟩
      rw [he, upW_len]; exact HOw.out
    have hkI : (k : Int) < (n : Int) := by omega
    have HFw := hidI (HF.out.sep E2.out HSp.out)
    go_wp2_with fail
    refine (spec_l1Has (numsI R) (k : Int) _ _ HFw.out (by rw [numsI_len]; omega)).mono ?_; rintro e w' ⟨rfl, rfl⟩
    by_cases hin : k ∈ R.map Prod.fst
    rotate_left
    · rw [decide_eq_false (fun h => hin (numsI_mem.1 h))]
      have HZ2 := hidI (filt_out HZ.out hin)
      clear hin
      go_wp2_with fail
      go_roundw
      case rel => exact ⟨k + 1, g, c, zs, rfl, by go_num, by omega, by omega, HZ2, HOw, HG, HSp, HB⟩
      case measure => simp [intOf]; omega
    rw [decide_eq_true (numsI_mem.2 hin)]
    have HZ2 := hidI (filt_in HZ.out hin)
    clear hin
    go_wp2_with (at_builtin; refine wpList_pushI wr rfl _ _ rfl w.heap.size (.slice (some ⟨g, 0, none⟩) zs.length c) zs.length ((upW zs).map (Value.int .i64)) (k : Int) rfl rfl HOw.out (by omega) (by omega) ?_)
    intro g1 c1 w3 hg1 o1 gr1 l1
    have gr1 : (wr.alloc (.cells #[.int .i64 (k : Int)] 3)).grownBy w3 (some g) := gr1
    have ba := (Below.refl wr.heap.size wr).alloc (Nat.le_refl _) (.cells #[.int .i64 (k : Int)] 3)
    have HSp1 := hidI ((HSp.out.below ba).grown gr1 (fun k e => by injection e with e; subst e; exact HG.out))
    have HG1 := hidI (show g1 = w.heap.size ∨ w2.heap.size ≤ g1 by
      rcases l1 with e | e
      · have : g = g1 := by injection e
        rw [← this]; exact HG.out
      · have := HSp.out.size; omega)
    have HB1 := hidI ((HB.out.trans (ba.mono hsw)).grown gr1 (by simp; omega) (fun j e => (HOw.out.lt j e).1))
    have HO1 := hidI (show w3.ownsRow w.heap.size 3 1 (.slice (some ⟨g1, 0, none⟩) (zs ++ [k]).length c1) (zs ++ [k]).length ((upW (zs ++ [k])).map (Value.int .i64)) by
      rw [upW_snoc, List.map_append, List.length_append]; exact o1)
    clear o1 gr1 l1 ba HOw HSp HB HG HFw
    go_wp2_with fail
    go_roundw
    case rel => exact ⟨k + 1, g1, c1, zs ++ [k], by rw [List.length_append]; rfl, by go_num, by omega, by simp; omega, HZ2, HO1, HG1, HSp1, HB1⟩
    case measure => simp [intOf]; omega
end Go.Proofs.Ytmmggbcmailbiaa
