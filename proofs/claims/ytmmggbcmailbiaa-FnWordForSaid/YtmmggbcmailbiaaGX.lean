/- WordFor of the program and of the reference. -/
import Derived.Test.YtmmggbcmailbiaaGA
namespace Go.Proofs.Ytmmggbcmailbiaa
open Go.RowKit Grp

def findW (L : PW) (zs : List Int) : Option (List Nat) := (L.find? (fun x => decide (up x.1 = zs))).map Prod.snd
def wres (o : Option (List Nat)) : List Int := match o with | some w => upW w | none => []

theorem find_hit {L : PW} {zs : List Int} {k : Nat} {x : Pm × List Nat} (hx : L[k]? = some x) (hn : ∀ y ∈ L.take k, up y.1 ≠ zs) (he : up x.1 = zs) : findW L zs = some x.2 := by
  unfold findW
  have hl := (List.getElem?_eq_some_iff.1 hx).1
  have e : L = L.take k ++ x :: L.drop (k + 1) := by
    conv => lhs; rw [← List.take_append_drop k L]
    rw [List.drop_eq_getElem_cons hl, (List.getElem?_eq_some_iff.1 hx).2]
  rw [e, List.find?_append, List.find?_eq_none.2 (fun y hy => by simpa using hn y hy)]
  simp [he]

theorem find_no {L : PW} {zs : List Int} (hn : ∀ y ∈ L, up y.1 ≠ zs) : findW L zs = none := by
  unfold findW
  rw [List.find?_eq_none.2 (fun y hy => by simpa using hn y hy)]; rfl

theorem find_pre {L G : PW} {zs : List Int} {w : List Nat} (h : L <+: G) (hf : findW L zs = some w) : findW G zs = some w := by
  obtain ⟨t, rfl⟩ := h
  unfold findW at *
  rw [List.find?_append]
  cases e : L.find? (fun x => decide (up x.1 = zs)) with
  | none => rw [e] at hf; cases hf
  | some y => rw [e] at hf; exact hf

theorem not_take {L : PW} {zs : List Int} {k : Nat} {x : Pm × List Nat} (hx : L[k]? = some x) (hn : ∀ y ∈ L.take k, up y.1 ≠ zs) (he : ¬ up x.1 = zs) : ∀ y ∈ L.take (k + 1), up y.1 ≠ zs := by
  intro y hy
  rw [take_snoc' hx, List.mem_append] at hy
  rcases hy with hy | hy
  · exact hn y hy
  · rw [List.mem_singleton.1 hy]; exact he

/-- A slice of ints and an answer are handed back. -/
def GivesT (w w' : World) (o : Option (List Nat)) (e : Ending) : Prop := ∃ v, e = .returned (.tuple #[v, .bool o.isSome]) ∧ w'.ownsRow w.heap.size 3 1 v (wres o).length ((wres o).map (Value.int .i64)) ∧ Below w.heap.size w w'
def GivesI (w w' : World) (o : Option (List Nat)) (e : Ending) : Prop := ∃ v, e = .returned (.tuple #[v, .bool o.isSome]) ∧ IntS w' v (wres o) ∧ Below w.heap.size w w'

theorem gives_none (w w' : World) (hb : Below w.heap.size w w') : GivesT w w' none (.returned (.tuple #[.slice none 0 0, .bool false])) := ⟨_, rfl, World.ownsRow_nil _ _ _ _, hb⟩

theorem pvalid_len {n : Nat} {zs : List Int} (hv : pvalid zs = true) (hl : zs.length = n) : ∃ q, zs = up q ∧ IsP n q := by
  obtain ⟨q, rfl, hq, _, _⟩ := (pvalid_iff zs).1 hv
  rw [up_len] at hl
  exact ⟨q, rfl, hl ▸ hq⟩

theorem find_bad {n : Nat} {ms : List Pm} {zs : List Int} (hm : OkM n ms) (h1 : 1 ≤ n) (h5 : n ≤ 5) (hn : n ≤ 5) (hb : ¬ (pvalid zs = true ∧ zs.length = n)) : findW (groupW n ms) zs = none := by
  refine find_no fun y hy e => hb ?_
  have hP := ((groupW_facts hn hm).1 y hy).1.isP hm
  subst e
  exact ⟨pvalid_up hP h1 h5, by rw [up_len, hP.len]⟩

theorem WOwn.at {w : World} {base : Nat} {us : List Value} {pss : List (List Int)} {k : Nat} {p : List Int} (h : WOwn w base us pss) (hl : us.length = pss.length) (hp : pss[k]? = some p) : ∃ u, us[k]? = some u ∧ w.ownsRow base 3 1 u p.length (p.map (Value.int .i64)) := by
  have hk : k < us.length := by rw [hl]; exact (List.getElem?_eq_some_iff.1 hp).1
  exact ⟨us[k], List.getElem?_eq_getElem hk, h k _ p (List.getElem?_eq_getElem hk) hp⟩

set_option maxHeartbeats 2000000 in
theorem impl_WordFor (n : Nat) (ms : List Pm) (zs : List Int) (v u : Value) (w : World) (h : IntSS w v (ms.map up)) (hu : IntS w u zs) (hm : OkM n ms) (h1 : 1 ≤ n) (h5 : n ≤ 5) (h3 : ms.length ≤ 3) :
    Calls Try.prog 17 #[.int .i64 (n : Int), v, u] w fun e w' => GivesT w w' (findW (groupW n ms) zs) e := by
  have HV := hidI (show mvalid (n : Int) (ms.map up) = true from (mvalid_iff _ _).2 ⟨n, ms, rfl, h1, h5, rfl, h3, hm⟩)
  have HM := hidI h; have HO := hidI hm; have HU := hidI hu
  obtain ⟨ao, cap, hv, _, _⟩ := ints_of_rows h
  obtain ⟨_, uo, uc, hu1, hul, hum, _⟩ := id hu
  subst hv; subst hu1
  unfold maxLen at hum
  clear h hu
  by_cases hb : pvalid zs = true ∧ zs.length = n
  rotate_left
  · have HF := hidI (find_bad hm h1 h5 h5 hb)
    rw [HF.out]
    cases hpv : pvalid zs
    · have HP := hidI hpv; clear hpv hb hm
      go_enter Try.func17, Try.ntmps17
      go_wp2_with fail
      refine (impl_MovesValid (n : Int) (ms.map up) _ _ HM.out).mono ?_; rintro e w' ⟨rfl, rfl⟩; rw [HV.out]
      go_wp2_with fail
      refine (impl_PermValid zs _ _ HU.out).mono ?_; rintro e w' ⟨rfl, rfl⟩; rw [HP.out]
      go_wp2_with fail
      go_ret2
      exact gives_none _ _ (Below.refl _ _)
    · have hne : ((zs.length : Int) != (n : Int)) = true := by
        have : ¬ zs.length = n := fun e => hb ⟨hpv, e⟩
        simp; omega
      have HP := hidI hpv; clear hpv hb hm
      go_enter Try.func17, Try.ntmps17
      go_wp2_with fail
      refine (impl_MovesValid (n : Int) (ms.map up) _ _ HM.out).mono ?_; rintro e w' ⟨rfl, rfl⟩; rw [HV.out]
      go_wp2_with fail
      refine (impl_PermValid zs _ _ HU.out).mono ?_; rintro e w' ⟨rfl, rfl⟩; rw [HP.out]
      go_wp2_with fail
      go_ret2
      exact gives_none _ _ (Below.refl _ _)
  obtain ⟨hpv, hln⟩ := hb
  obtain ⟨q, rfl, hq⟩ := pvalid_len hpv hln
  have HP := hidI hpv; have HQ := hidI hq; clear hpv hq hm
  have hne : (((up q).length : Int) != (n : Int)) = false := by rw [hln]; simp
  have HLN := hidI hln; clear hln
  go_enter Try.func17, Try.ntmps17
  go_wp2_with fail
  refine (impl_MovesValid (n : Int) (ms.map up) _ _ HM.out).mono ?_; rintro e w' ⟨rfl, rfl⟩; rw [HV.out]
  go_wp2_with fail
  refine (impl_PermValid (up q) _ _ HU.out).mono ?_; rintro e w' ⟨rfl, rfl⟩; rw [HP.out]
  go_wp2_with fail
  refine (impl_groupWords n ms _ _ HM.out HO.out h1 h5 h3).mono ?_; rintro e w1 ⟨gp, cp, gw, cw, us, xs, rfl, _, r1, r2, wo, b⟩
  have hlt1 := r1.lt (permsOf_len _).symm
  have hlt2 := r2.lt (wordsOf_len _).symm
  have hG := hidI (fun y hy => ((groupW_facts h5 HO.out).1 y hy).1.isP HO.out)
  have R1 := hidI r1; have R2 := hidI r2; have WO := hidI wo; have B := hidI b
  have hs1 := b.size
  clear r1 r2 wo b
  obtain ⟨G, hGd⟩ : ∃ G, G = groupW n ms := ⟨_, rfl⟩
  rw [← hGd] at R1 R2 WO hlt1 hlt2 hG ⊢
  have HGE := hidI hGd; clear hGd
  obtain ⟨hp1, hp2, hp3, hp4⟩ := hlt1; obtain ⟨hw1, hw2, hw3, hw4⟩ := hlt2
  unfold maxLen at hp4 hw4
  go_wp2_with fail
  go_loopw [35] (fun i wr => ∃ (k m : Nat), k ≤ G.length ∧ i = .int .i64 k ∧ Hid (∀ y ∈ G.take k, up y.1 ≠ up q) ∧ Hid (wr = w1.drewN m)) (fun i _ => G.length - (intOf i).toNat)
  case atStart => exact ⟨0, 0, by omega, rfl, hidI (by simp), hidI rfl⟩
  case round =>
    obtain ⟨k, m, hk, rfl, HE, HW⟩ := hrel
    have BR := hidI (show Below w1.heap.size w1 wr by rw [HW.out]; exact bdraw _ _)
    by_cases hlt : k < G.length
    rotate_left
    · have hkI : ¬ (k : Int) < (G.length : Int) := by omega
      have HF := hidI (show findW G (up q) = none from find_no (fun y hy => HE.out y (by rw [List.take_of_length_le (by omega)]; exact hy)))
      go_wp2_with fail
      go_ret2
      rw [← HGE.out, HF.out]
      exact gives_none _ _ (bthen B.out BR.out)
    have hkI : (k : Int) < (G.length : Int) := by omega
    obtain ⟨x, hx⟩ : ∃ x, G[k]? = some x := ⟨_, List.getElem?_eq_getElem hlt⟩
    have hpk : (permsOf G)[k]? = some (up x.1) := by unfold permsOf; rw [List.getElem?_map, hx]; rfl
    have hwk : (wordsOf G)[k]? = some (upW x.2) := by unfold wordsOf; rw [List.getElem?_map, hx]; rfl
    have RP' := R1.out; have RW' := R2.out
    rw [← permsOf_len] at RP'; rw [← wordsOf_len] at RW'
    obtain ⟨up0, hup, hcp, hep⟩ := (RP'.below BR.out).at hpk
    obtain ⟨uw0, huw, hcw, hew⟩ := (RW'.below BR.out).at hwk
    have hwown := (WO.out.below BR.out) k uw0 _ huw hwk
    obtain ⟨_, po, pc, hupv, _⟩ := id hep.1
    obtain ⟨_, wo', wc, huwv, _⟩ := id hew.1
    subst hupv; subst huwv
    have HEP := hidI hep.1; have HWN := hidI hwown
    have HXP := hidI (hG.out x (List.mem_of_getElem? hx))
    have HX := hidI hx
    have hbs := BR.out.size
    clear RP' RW' hup huw hep hew hpk hwk hwown hx
    by_cases he : x.1 = q
    · have HF := hidI (show findW G (up q) = some x.2 from find_hit HX.out HE.out (by rw [he]))
      have HD := hidI (decide_eq_true he)
      clear he
      go_wp2_with fail
      refine (impl_permSame n x.1 q _ _ _ HEP.out (HU.out.below (bthen B.out BR.out)) HXP.out HQ.out h1 h5).mono ?_; rintro e w5 ⟨rfl, n5, hw5⟩; rw [HD.out]
      have B5 := hidI (show Below wr.heap.size wr w5 by rw [hw5]; exact bdraw _ _)
      clear hw5
      have hc5 := (B5.out.cell (p := ⟨gw, k, none⟩) (by show gw < wr.heap.size; omega)).trans hcw
      go_wp2_with fail
      go_ret2
      rw [← HGE.out, HF.out]
      exact ⟨_, rfl, own_below HWN.out B5.out, bthen (bthen B.out BR.out) B5.out⟩
    · have HE2 := hidI (not_take HX.out HE.out (fun e => he (up_inj e)))
      have HD := hidI (decide_eq_false he)
      clear he
      go_wp2_with fail
      refine (impl_permSame n x.1 q _ _ _ HEP.out (HU.out.below (bthen B.out BR.out)) HXP.out HQ.out h1 h5).mono ?_; rintro e w5 ⟨rfl, n5, hw5⟩; rw [HD.out]
      have HW5 := hidI (show w5 = w1.drewN (m + n5) by rw [hw5, HW.out, World.drewN_drewN]); clear hw5
      go_wp2_with fail
      go_roundw
      case rel => exact ⟨k + 1, _, by omega, by go_num, HE2, HW5⟩
      case measure => simp [intOf]; omega

theorem impl_WordFor_no (places : Int) (pss : List (List Int)) (zs : List Int) (v u : Value) (w : World) (h : IntSS w v pss) (hu : IntS w u zs) (hm : mvalid places pss = false) :
    Calls Try.prog 17 #[.int .i64 places, v, u] w fun e w' => e = .returned (.tuple #[.slice none 0 0, .bool false]) ∧ w = w' := by
  have HM := hidI h; have HO := hidI hm
  obtain ⟨ao, cap, hv, _, _⟩ := id h
  obtain ⟨_, uo, uc, hu1, hul, hum, _⟩ := id hu
  subst hv; subst hu1
  clear h hm hu
  go_enter Try.func17, Try.ntmps17
  go_wp2_with fail
  refine (impl_MovesValid places pss _ _ HM.out).mono ?_; rintro e w' ⟨rfl, rfl⟩; rw [HO.out]
  go_wp2_with fail
  go_ret2
  exact ⟨rfl, rfl⟩

theorem spec_WordFor_no (places : Int) (pss : List (List Int)) (zs : List Int) (v u : Value) (w : World) (h : IntSS w v pss) (hu : IntS w u zs) (hm : mvalid places pss = false) (hl : ∀ m ∈ pss, m.length ≤ 4000000) :
    Calls Try.prog 18 #[.int .i64 places, v, u] w fun e w' => GivesI w w' none e := by
  have HM := hidI h; have HO := hidI hm; have HL := hidI hl
  obtain ⟨ao, cap, hv, _, _⟩ := id h
  obtain ⟨_, uo, uc, hu1, hul, hum, _⟩ := id hu
  subst hv; subst hu1
  clear h hm hl hu
  go_enter Try.func18, Try.ntmps18
  go_wp2_with fail
  refine (spec_MovesValid places pss _ _ HM.out HL.out).mono ?_; rintro e w' ⟨rfl, n, hw⟩; rw [HO.out]
  have HB := hidI (show Below w.heap.size w w' by rw [hw]; exact bdraw _ _)
  clear hw
  go_wp2_with fail
  go_ret2
  exact ⟨_, rfl, (IntS.ofOwn (zs := []) (own_made (w := w') (base := w'.heap.size) rfl (Nat.le_refl _) 3) (by simp)).2, HB.out.alloc HB.out.size _⟩

set_option maxRecDepth 100000 in
set_option maxHeartbeats 4000000 in
theorem spec_WordFor (n : Nat) (ms : List Pm) (zs : List Int) (v u : Value) (w : World) (h : IntSS w v (ms.map up)) (hu : IntS w u zs) (hm : OkM n ms) (h1 : 1 ≤ n) (h5 : n ≤ 5) (h3 : ms.length ≤ 3) :
    Calls Try.prog 18 #[.int .i64 (n : Int), v, u] w fun e w' => GivesI w w' (findW (groupW n ms) zs) e := by
  have HV := hidI (show mvalid (n : Int) (ms.map up) = true from (mvalid_iff _ _).2 ⟨n, ms, rfl, h1, h5, rfl, h3, hm⟩)
  have HLN := hidI (ups_lens hm h5)
  have HM := hidI h; have HO := hidI hm; have HU := hidI hu
  obtain ⟨ao, cap, hv, hcap, hmax⟩ := ints_of_rows h
  obtain ⟨_, uo, uc, hu1, hul, hum, _⟩ := id hu
  subst hv; subst hu1
  unfold maxLen at hmax hum
  clear h hm hu
  obtain ⟨G, hGd⟩ : ∃ G, G = groupW n ms := ⟨_, rfl⟩
  rw [← hGd]
  have HGE := hidI hGd; clear hGd
  go_enter Try.func18, Try.ntmps18
  go_wp2_with fail
  refine (spec_MovesValid (n : Int) (ms.map up) _ _ HM.out HLN.out).mono ?_; rintro e w1 ⟨rfl, n1, hw1⟩; rw [HV.out]
  have B1 := hidI (show Below w.heap.size w w1 by rw [hw1]; exact bdraw _ _)
  clear hw1
  go_wp2_with fail
  refine (spec_PermNone n w1 h1 h5).mono ?_; rintro e w2 ⟨v0, rfl, o2, b2⟩
  have E0 := hidI (El.ofOwn o2 (up_I64 (isP_id n) h5))
  have hs1 := B1.out.size
  have B2 := hidI (bthen B1.out b2)
  have hs2 := b2.size
  obtain ⟨_, no, nc, hv0, _⟩ := id E0.out.1
  subst hv0
  clear o2 b2
  go_wp2_with fail
  have R0 := RowsOwn.one w2 _ _ E0.out
  have RP := hidI (((R0.alloc (.cells #[] 3)).alloc (.cells #[.slice (some ⟨w2.heap.size + 1, 0, none⟩) 0 0] 24)).base (show w.heap.size ≤ w2.heap.size by omega))
  have hz : ((w2.alloc (.cells #[.slice no (up (idP n)).length nc] 24)).alloc (.cells #[] 3)).heap.size = w2.heap.size + 2 := by simp
  have hz1 : (w2.alloc (.cells #[.slice no (up (idP n)).length nc] 24)).heap.size = w2.heap.size + 1 := by simp
  have EW := El.ofOwn (zs := []) (own_made (w := w2.alloc (.cells #[.slice no (up (idP n)).length nc] 24)) (base := w2.heap.size) hz1.symm (by omega) 3) (by simp)
  have RW := hidI ((RowsOwn.one ((w2.alloc (.cells #[.slice no (up (idP n)).length nc] 24)).alloc (.cells #[] 3)) _ _ EW).base (show w.heap.size ≤ _ by rw [hz]; omega))
  rw [hz] at RW
  have BB := hidI (((B2.out.alloc (by omega) (.cells #[.slice no (up (idP n)).length nc] 24)).alloc (by rw [hz1]; omega) (.cells #[] 3)).alloc (by rw [hz]; omega) (.cells #[.slice (some ⟨w2.heap.size + 1, 0, none⟩) 0 0] 24))
  clear R0 E0 EW hz hz1
  obtain ⟨wa, hwa⟩ : ∃ x, x = ((w2.alloc (.cells #[.slice no (up (idP n)).length nc] 24)).alloc (.cells #[] 3)).alloc (.cells #[.slice (some ⟨w2.heap.size + 1, 0, none⟩) 0 0] 24) := ⟨_, rfl⟩
  have RP := hidI (show RowsOwn wa _ _ _ _ by rw [hwa]; exact RP.out); have RW := hidI (show RowsOwn wa _ _ _ _ by rw [hwa]; exact RW.out); have BB := hidI (show Below w.heap.size w wa by rw [hwa]; exact BB.out)
  rw [← hwa]
  clear hwa
  go_loopw [8, 9, 10] (fun vp vw va wr => ∃ (k : Nat) (L : PW) (gp cp gw cw : Nat) (us xs : List Value), vp = .slice (some ⟨gp, 0, none⟩) L.length cp ∧ vw = .slice (some ⟨gw, 0, none⟩) L.length cw ∧ va = .int .i64 (k : Int) ∧ k ≤ L.length ∧ L.length ≤ 3125 ∧ gp ≠ gw ∧
    Hid (RowsOwn wr w.heap.size (.slice (some ⟨gp, 0, none⟩) L.length cp) us (permsOf L)) ∧ Hid (RowsOwn wr w.heap.size (.slice (some ⟨gw, 0, none⟩) L.length cw) xs (wordsOf L)) ∧ Hid (LOk n ms k L) ∧ Hid (∀ y ∈ L.take k, up y.1 ≠ zs) ∧ Hid (bfs (nextW ms) (fuelW - k) k L = G) ∧ Hid (Below w.heap.size w wr)) (fun _ _ va _ => 4000 - (intOf va).toNat)
  case atStart => exact ⟨0, [(idP n, [])], _, _, _, _, _, _, rfl, rfl, rfl, by simp, by simp, by omega, RP, RW, hidI (lok_start n ms), hidI (by simp), hidI (by rw [HGE.out]; rfl), BB⟩
  case round =>
    clear RP RW BB
    obtain ⟨k, L, gp, cp, gw, cw, us, xs, rfl, rfl, rfl, hk, hL, hne, RP, RW, HL, HN, HE, HB⟩ := hrel
    by_cases hlt : k < L.length
    rotate_left
    · have hEnd : L = G := by rw [← HE.out]; exact (bfs_end (by omega)).symm
      have HF := hidI (show findW G zs = none from find_no (fun y hy => HN.out y (by rw [List.take_of_length_le (by omega), hEnd]; exact hy)))
      have hkI : ¬ (k : Int) < (L.length : Int) := by omega
      clear hEnd
      go_wp2_with fail
      go_ret2
      rw [HF.out]
      exact ⟨_, rfl, (IntS.ofOwn (zs := []) (own_made (w := wr) (base := wr.heap.size) rfl (Nat.le_refl _) 3) (by simp)).2, HB.out.alloc HB.out.size _⟩
    obtain ⟨x, hx⟩ : ∃ x, L[k]? = some x := ⟨_, List.getElem?_eq_getElem hlt⟩
    have hkI : (k : Int) < (L.length : Int) := by omega
    have HX := hidI hx
    have hxm := List.mem_of_getElem? hx
    have HG := hidI (HL.out.gen x hxm); have HWd := hidI (HL.out.word x hxm); have hwl := HL.out.len x hxm
    have HNX := hidI (bfs_next (next := nextW ms) hx (show k < fuelW by unfold fuelW; omega))
    have hpk : (permsOf L)[k]? = some (up x.1) := by unfold permsOf; rw [List.getElem?_map, HX.out]; rfl
    have hwk : (wordsOf L)[k]? = some (upW x.2) := by unfold wordsOf; rw [List.getElem?_map, HX.out]; rfl
    have RP' := RP.out; have RW' := RW.out
    rw [← permsOf_len] at RP'; rw [← wordsOf_len] at RW'
    obtain ⟨up0, hup, hcp, hep⟩ := RP'.at hpk
    obtain ⟨uw0, huw, hcw, hew⟩ := RW'.at hwk
    have hgp := RP.out.lt (permsOf_len _).symm; have hgw := RW.out.lt (wordsOf_len _).symm
    obtain ⟨_, po, pc, hupv, _⟩ := id hep.1
    obtain ⟨_, wo', wc, huwv, _⟩ := id hew.1
    subst hupv; subst huwv
    have HEP := hidI hep; have HEW := hidI hew
    obtain ⟨hgp1, hgp2, hgp3, hgp4⟩ := hgp; obtain ⟨hgw1, hgw2, hgw3, hgw4⟩ := hgw
    unfold maxLen at hgp4 hgw4
    clear RP' RW' hup huw hep hew hpk hwk hx hxm
    by_cases he : up x.1 = zs
    · have HF := hidI (show findW G zs = some x.2 from find_pre (by rw [← HE.out]; exact bfs_pre _ _ _ _) (find_hit HX.out HN.out he))
      have HD := hidI (decide_eq_true he)
      clear he
      go_wp2_with fail
      refine (spec_l4Same (up x.1) zs _ _ _ HEP.out.1 (HU.out.below HB.out)).mono ?_; rintro e w5 ⟨rfl, n5, hw5⟩; rw [HD.out]
      have B5 := hidI (show Below wr.heap.size wr w5 by rw [hw5]; exact bdraw _ _)
      clear hw5
      have hc5 := (B5.out.cell (p := ⟨gw, k, none⟩) hgw2).trans hcw
      clear hcw
      go_wp2_with fail
      go_ret2
      rw [HF.out]
      exact ⟨_, rfl, (HEW.out.below B5.out).1, bthen HB.out B5.out⟩
    have HN2 := hidI (not_take HX.out HN.out he)
    have HD := hidI (decide_eq_false he)
    clear he
    go_wp2_with fail
    refine (spec_l4Same (up x.1) zs _ _ _ HEP.out.1 (HU.out.below HB.out)).mono ?_; rintro e w5 ⟨rfl, n5, hw5⟩; rw [HD.out]
    have b5 : Below wr.heap.size wr w5 := by rw [hw5]; exact bdraw _ _
    clear hw5
    have RP5 := hidI (RP.out.below b5); have RW5 := hidI (RW.out.below b5); have B5 := hidI (bthen HB.out b5)
    clear b5 RP RW HB HEP HEW hcp hcw hgp1 hgp2 hgw1 hgw2 hgp3 hgp4 hgw3 hgw4
    go_wp2_with fail
    go_loopw [8, 9, 11] (fun vp vw vi wr => ∃ (j : Nat) (M : PW) (gp cp gw cw : Nat) (us xs : List Value), vi = .int .i64 (j : Int) ∧ vp = .slice (some ⟨gp, 0, none⟩) M.length cp ∧ vw = .slice (some ⟨gw, 0, none⟩) M.length cw ∧ j ≤ ms.length ∧ k < M.length ∧ M.length ≤ 3125 ∧ gp ≠ gw ∧
      Hid (RowsOwn wr w.heap.size (.slice (some ⟨gp, 0, none⟩) M.length cp) us (permsOf M)) ∧ Hid (RowsOwn wr w.heap.size (.slice (some ⟨gw, 0, none⟩) M.length cw) xs (wordsOf M)) ∧ Hid (LOk n ms (k + 1) M) ∧ Hid (L <+: M) ∧ Hid (adds M ((nextW ms x).drop j) = adds L (nextW ms x)) ∧ Hid (Below w.heap.size w wr)) (fun _ _ vi _ => ms.length - (intOf vi).toNat)
    case atStart => exact ⟨0, L, gp, cp, gw, cw, us, xs, rfl, rfl, rfl, by omega, hlt, hL, hne, RP5, RW5, hidI HL.out.more, hidI (List.prefix_refl _), hidI rfl, B5⟩
    case round =>
      clear RP5 RW5 B5
      obtain ⟨wo, rfl⟩ : ∃ wo : World, wo = wr := ⟨_, rfl⟩
      obtain ⟨j, M, gp, cp, gw, cw, us, xs, rfl, rfl, rfl, hj, hkM, hML, hne, RP, RW, HL2, HPM, HA, HB⟩ := hrel
      have HXM := hidI (show M[k]? = some x by obtain ⟨t, ht⟩ := HPM.out; rw [← ht, List.getElem?_append_left hlt]; exact HX.out)
      by_cases hjl : j < ms.length
      rotate_left
      · have hEnd := hidI (show M = adds L (nextW ms x) by rw [← HA.out]; exact (adds_end (by omega) M).symm)
        have HN3 := hidI (show ∀ y ∈ M.take (k + 1), up y.1 ≠ zs by
          obtain ⟨t, ht⟩ := HPM.out
          rw [← ht, List.take_append_of_le_length (by omega)]; exact HN2.out)
        have hjI : ¬ (j : Int) < (ms.length : Int) := by omega
        go_wp2_with fail
        go_roundw
        case rel => exact ⟨k + 1, M, gp, cp, gw, cw, us, xs, rfl, rfl, by go_num, by omega, hML, hne, RP, RW, HL2, HN3, hidI (by rw [hEnd.out, ← HNX.out]; exact HE.out), HB⟩
        case measure => simp [intOf]; omega
      obtain ⟨m, hm⟩ : ∃ m, ms[j]? = some m := ⟨_, List.getElem?_eq_getElem hjl⟩
      have hjI : (j : Int) < (ms.length : Int) := by omega
      have HMP := hidI (HO.out m (List.mem_of_getElem? hm))
      obtain ⟨b, off, um, hao, hb, hcm, hum⟩ := IntSS.at (HM.out.below HB.out) hm
      subst hao
      have hpk : (permsOf M)[k]? = some (up x.1) := by unfold permsOf; rw [List.getElem?_map, HXM.out]; rfl
      have hwk : (wordsOf M)[k]? = some (upW x.2) := by unfold wordsOf; rw [List.getElem?_map, HXM.out]; rfl
      have RP' := RP.out; have RW' := RW.out
      rw [← permsOf_len] at RP'; rw [← wordsOf_len] at RW'
      obtain ⟨up0, hup, hcp, hep⟩ := RP'.at hpk
      obtain ⟨uw0, huw, hcw, hew⟩ := RW'.at hwk
      have hgp := RP.out.lt (permsOf_len _).symm; have hgw := RW.out.lt (wordsOf_len _).symm
      have HXP := hidI (HG.out.isP HO.out)
      have HEP := hidI hep; have HUM := hidI hum; have HEW := hidI hew
      have HADD := hidI (adds_next (x := x) hm M)
      have Hm := hidI hm
      obtain ⟨hgp1, hgp2, hgp3, hgp4⟩ := hgp; obtain ⟨hgw1, hgw2, hgw3, hgw4⟩ := hgw
      unfold maxLen at hgp4 hgw4
      have hkMI : (k : Int) < (M.length : Int) := by omega
      obtain ⟨_, mo, mc, humv, _⟩ := id HUM.out
      obtain ⟨_, po', pc', hupv, _⟩ := id HEP.out.1
      obtain ⟨_, wo2, wc2, huwv, _⟩ := id HEW.out.1
      subst humv; subst hupv; subst huwv
      clear hm hpk hwk hep hew hum hup huw RP' RW'
      go_wp2_with fail
      have HW := hidI (show Below wo.heap.size wo wo.drew from (Below.refl _ _).drew)
      go_region_held3 (fun W => W.cell? ⟨gp, k, none⟩ = some (.slice po' (up x.1).length pc') ∧ W.cell? ⟨b, off + j, none⟩ = some (.slice mo (up m).length mc) ∧ Hid (Below wo.heap.size wo W)) (first | exact ⟨hcp, hcm, HW⟩ | (refine ⟨?_, ?_, ?_⟩ <;> assumption)) (first | (go_at_call 67; refine (spec_PermThen n x.1 m _ _ _ (HEP.out.1.below HW.out) (HUM.out.below HW.out) HXP.out HMP.out h1 h5).mono ?_; rintro e w5 ⟨vn, rfl, o5, b5⟩; have EN := hidI (El.ofOwn o5 (up_I64 (isP_join HXP.out HMP.out) h5)); have b5' := bthen HW.out b5; have RP5 := hidI (RP.out.below b5'); have RW5 := hidI (RW.out.below b5'); have EW5 := hidI (HEW.out.below b5'); have B5 := hidI (bthen HB.out b5'); have q5 := hidI b5'; have cp5 := (b5'.cell (p := ⟨gp, k, none⟩) hgp2).trans hcp; have cm5 := (b5'.cell (p := ⟨b, off + j, none⟩) hb).trans hcm; have cw5 := hidI ((b5'.cell (p := ⟨gw, k, none⟩) hgw2).trans hcw); have hs5 := b5'.size; obtain ⟨_, no, nc, hvn, _⟩ := id EN.out.1; subst hvn; clear o5 b5 b5') | fail)
      clear HW hcp hcm hcw cp5 cm5 HEP HUM RP RW HEW HB
      go_wp2_with fail
      refine (spec_l4Has (permsOf M) (up (join x.1 m)) _ _ _ RP5.out.reads EN.out.1).mono ?_
      rintro e w6 ⟨rfl, n6, hw6⟩
      have b6 : Below w5.heap.size w5 w6 := by rw [hw6]; exact bdraw _ _
      have RP6 := hidI (RP5.out.below b6); have RW6 := hidI (RW5.out.below b6); have EW6 := hidI (EW5.out.below b6); have B6 := hidI (bthen B5.out b6); have EN6 := hidI (EN.out.below b6)
      have hs6 := b6.size
      clear hw6 b6 RP5 RW5 B5 EN EW5 q5
      by_cases hin : join x.1 m ∈ M.map Prod.fst
      · rw [decide_eq_true (mem_permsOf.2 hin)]
        have HADD' := hidI (show adds M ((nextW ms x).drop (j + 1)) = adds L (nextW ms x) by rw [← HA.out, HADD.out, addK_in hin])
        clear hin
        go_wp2_with fail
        go_roundw
        case rel => exact ⟨j + 1, M, gp, cp, gw, cw, us, xs, by go_num, rfl, rfl, by omega, hkM, hML, hne, RP6, RW6, HL2, HPM, HADD', B6⟩
        case measure => simp [intOf]; omega
      rw [decide_eq_false (fun h => hin (mem_permsOf.1 h))]
      have eM := addK_out (x := (join x.1 m, x.2 ++ [j])) hin
      have HADD' := hidI (show adds (M ++ [(join x.1 m, x.2 ++ [j])]) ((nextW ms x).drop (j + 1)) = adds L (nextW ms x) by rw [← HA.out, HADD.out, eM])
      have HL' := hidI (show LOk n ms (k + 1) (M ++ [(join x.1 m, x.2 ++ [j])]) by rw [← eM]; exact HL2.out.add HG.out HWd.out hwl Hm.out)
      have hM1 := HL'.out.le h5 HO.out
      rw [List.length_append, List.length_singleton] at hM1
      have HPM' := hidI (show L <+: M ++ [(join x.1 m, x.2 ++ [j])] from HPM.out.trans (List.prefix_append _ _))
      have HWL := hidI (show (upW x.2).length = x.2.length from List.length_map _)
      clear hin eM HA HADD Hm
      go_wp2_with (at_builtin; refine wpList_pushR w6 rfl _ _ rfl w.heap.size (.slice (some ⟨gp, 0, none⟩) M.length cp) us (permsOf M) (.slice no (up (join x.1 m)).length nc) (up (join x.1 m)) rfl rfl RP6.out EN6.out (by rw [permsOf_len]; omega) (by omega) ?_)
      intro g7 c7 w7 hg7 rp7 hb7 hgr7 hl7
      rw [permsOf_len] at rp7 ⊢
      simp only [Value.ownBlock] at hgr7 hl7
      have hs7 := hgr7.size
      rw [World.size_alloc] at hs7
      have RP7 := hidI rp7; have B7 := hidI (hb7 _ B6.out)
      have RW7 := hidI ((RW6.out.alloc (.cells #[.slice no (up (join x.1 m)).length nc] 24)).otherR (RP6.out.alloc (.cells #[.slice no (up (join x.1 m)).length nc] 24)) hgr7 rfl (fun e => hne (Option.some.inj e).symm))
      have hl7' : g7 < w6.heap.size ∨ g7 = w6.heap.size + 1 := by rcases hl7 with h | h; (· exact .inl (by rw [← Option.some.inj h]; omega)); (· exact .inr h)
      have hne7 : g7 ≠ gw := by rcases hl7 with h | h; (· rw [← Option.some.inj h]; exact hne); (· omega)
      clear rp7 hb7 hgr7 hl7 RP6 RW6 B6 EN6 EW6 cw5
      have RW7' := RW7.out
      rw [← wordsOf_len] at RW7'
      obtain ⟨uw7, huw7, hcw7, hew7⟩ := RW7'.at (show (wordsOf M)[k]? = some (upW x.2) by unfold wordsOf; rw [List.getElem?_map, HXM.out]; rfl)
      have hgw7 := RW7.out.lt (wordsOf_len _).symm
      have hgp7 := RP7.out.1
      obtain ⟨_, wo7, wc7, huwv7, _⟩ := id hew7.1
      subst huwv7
      have EW7 := hidI hew7
      obtain ⟨hgw71, hgw72, _, _⟩ := hgw7
      clear RW7' hew7 huw7 hgp7
      have hc8 : (w7.alloc (.cells #[] 3)).cell? ⟨gw, k, none⟩ = some (.slice wo7 (upW x.2).length wc7) := (((Below.refl w7.heap.size w7).alloc (Nat.le_refl _) (.cells #[] 3)).cell (p := ⟨gw, k, none⟩) hgw72).trans hcw7
      go_wp2_with (at_builtin; refine wpList_appendS _ rfl _ _ 24 rfl w7.heap.size 3 Try.underlying24 infoInt (.slice (some ⟨w7.heap.size, 0, none⟩) 0 0) 0 [] (.slice wo7 (upW x.2).length wc7) (upW x.2) rfl rfl (own_made rfl (Nat.le_refl _) _) (EW7.out.below ((Below.refl _ _).alloc (Nat.le_refl _) _)).1 (by rw [HWL.out]; omega) (by simp) ?_)
      intro v8 w8 ho8 hb8 _ _
      (try simp only [Nat.zero_add, List.nil_append] at ho8)
      have hb8' := hb8 _ ((Below.refl w7.heap.size w7).alloc (Nat.le_refl _) (.cells #[] 3))
      have HO8 := hidI ho8; have HB8 := hidI hb8'
      have hs8 := hb8'.size
      clear hb8 ho8 hb8' hc8 hcw7 EW7
      go_wp2_with (at_builtin; refine wpList_push w8 rfl _ _ 24 rfl w7.heap.size 3 (.int .i64 0) 8 Try.underlying24 infoInt rfl v8 (upW x.2).length ((upW x.2).map (Value.int .i64)) (.int .i64 (j : Int)) rfl rfl HO8.out rfl (by rw [HWL.out]; omega) (by decide) (by omega) ?_)
      intro g9 c9 w9 hg9 ho9 hb9 _
      have b9 := hb9 _ HB8.out
      have hs9 := b9.size
      have RP9 := hidI (RP7.out.below b9); have RW9 := hidI (RW7.out.below b9); have B9 := hidI (bthen B7.out b9)
      have EW9 := hidI (show El w9 (.slice (some ⟨g9, 0, none⟩) ((upW x.2).length + 1) c9) (upW (x.2 ++ [j])) from by
        have e : (upW x.2).map (Value.int .i64) ++ [.int .i64 (j : Int)] = (upW (x.2 ++ [j])).map (Value.int .i64) := by unfold upW; simp
        rw [e] at ho9
        exact El.ofOwn ho9 (upW_I64 (fun i hi => by
          rcases List.mem_append.1 hi with hi | hi
          · have := HWd.out i hi; omega
          · rw [List.mem_singleton.1 hi]; omega)))
      clear ho9 hb9 b9 HO8 HB8 RP7 RW7 B7
      go_wp2_with (at_builtin; refine wpList_pushR w9 rfl _ _ rfl w.heap.size (.slice (some ⟨gw, 0, none⟩) M.length cw) xs (wordsOf M) (.slice (some ⟨g9, 0, none⟩) ((upW x.2).length + 1) c9) (upW (x.2 ++ [j])) rfl rfl RW9.out EW9.out (by rw [wordsOf_len]; omega) (by omega) ?_)
      intro g10 c10 w10 hg10 rw10 hb10 hgr10 hl10
      rw [wordsOf_len] at rw10 ⊢
      simp only [Value.ownBlock] at hgr10 hl10
      have RW10 := hidI rw10
      have RP10 := hidI ((RP9.out.alloc (.cells #[.slice (some ⟨g9, 0, none⟩) ((upW x.2).length + 1) c9] 24)).otherR (RW9.out.alloc (.cells #[.slice (some ⟨g9, 0, none⟩) ((upW x.2).length + 1) c9] 24)) hgr10 rfl (fun e => hne7 (Option.some.inj e)))
      have B10 := hidI (hb10 _ B9.out)
      have hne10 : g7 ≠ g10 := by rcases hl10 with h | h; (· rw [← Option.some.inj h]; exact hne7); (· omega)
      clear rw10 hb10 hgr10 hl10 RP9 RW9 B9 EW9
      go_wp2_with fail
      go_roundw
      case rel => exact ⟨j + 1, M ++ [(join x.1 m, x.2 ++ [j])], g7, c7, g10, c10, us ++ [.slice no (up (join x.1 m)).length nc], xs ++ [.slice (some ⟨g9, 0, none⟩) ((upW x.2).length + 1) c9], by go_num, by rw [List.length_append]; rfl, by rw [List.length_append]; rfl, by omega, by rw [List.length_append]; omega, by rw [List.length_append]; exact hM1, hne10, hidI (by rw [permsOf_snoc, List.length_append]; exact RP10.out), hidI (by rw [wordsOf_snoc, List.length_append]; exact RW10.out), HL', HPM', HADD', B10⟩
      case measure => simp [intOf]; omega
end Go.Proofs.Ytmmggbcmailbiaa
