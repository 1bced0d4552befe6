/- The reference's l4Orbit, l4Index. -/
import Derived.Test.YtmmggbcmailbiaaGN
import Derived.Test.YtmmggbcmailbiaaGQT
import Derived.Deep.QuietTactic
import Derived.BigQuiet
namespace Go.Proofs.Ytmmggbcmailbiaa
open Go.RowKit Grp

def numsI (L : NP) : List Int := L.map (fun y => (y.1 : Int))
theorem numsI_len (L : NP) : (numsI L).length = L.length := List.length_map _
theorem numsOf_eq (L : NP) : numsOf L = (numsI L).map (Value.int .i64) := by unfold numsOf numsI; rw [List.map_map]; rfl
theorem numsI_mem {L : NP} {t : Nat} : (t : Int) ∈ numsI L ↔ t ∈ L.map Prod.fst := by
  unfold numsI
  rw [List.mem_map, List.mem_map]
  constructor
  · rintro ⟨y, hy, e⟩; exact ⟨y, hy, by omega⟩
  · rintro ⟨y, hy, e⟩; exact ⟨y, hy, by omega⟩
theorem numsI_I64 {n : Nat} {L : NP} (h : ∀ z ∈ L, z.1 < n ∧ IsP n z.2) (h5 : n ≤ 5) : ∀ z ∈ numsI L, I64 z := by
  intro z hz
  obtain ⟨y, hy, rfl⟩ := List.mem_map.1 hz
  have := (h y hy).1
  unfold I64; omega

/-- 'append(v, u)' within a region that draws its order. -/
theorem step_pushR (w : World) {ops : Array Oper} {o : Oper} {a : Act} {K : Act → World → Prop} {Q : Exit → Act → World → Prop} {E : Prop} (hgd : o.guard = none) (s x : Operand)
    (ho : o.op = .call { callee := .builtin .append, args := #[s, x], argTypes := #[23, 23] })
    (base : Nat) (v : Value) (us : List Value) (pss : List (List Int)) (u : Value) (p : List Int) (hs : a.eval s = v) (hx : a.eval x = .slice (some ⟨w.heap.size, 0, none⟩) 1 1)
    (hown : RowsOwn w base v us pss) (hu : El w u p) (hn : pss.length ≤ 100000000) (hbase : base ≤ w.heap.size)
    (h : ∀ g cap w', base ≤ g → RowsOwn w' base (.slice (some ⟨g, 0, none⟩) (pss.length + 1) cap) (us ++ [u]) (pss ++ [p]) → (w.alloc (.cells #[u] 24)).grownBy w' v.ownBlock → (v.ownBlock = some g ∨ g = w.heap.size + 1) →
      K (a.put o.dst (.slice (some ⟨g, 0, none⟩) (pss.length + 1) cap)) w') : if Region.wanted o (yielded ops a.tmps) = true then Oper.wp Try.prog o a (w.alloc (.cells #[u] 24)) K Q else E := by
  rw [if_pos (by simp [Region.wanted, hgd])]
  obtain ⟨i, hi, hz, hsz, hby⟩ := info_parts infoRows
  refine wp_append_lies _ s x 23 ho base 24 i (.slice none 0 0) 1 24 Try.underlying23 hi hz hsz hby rfl (by decide) v pss.length us hs (hown.1.alloc _) ⟨w.heap.size, 0, none⟩ 1 1 [u] hx rfl ?_ ?_ (by decide) ?_ ?_ (by simp; omega) (w.heap.size + 1) (by simp) ?_
  · intro j u' hj
    match j, hj with
    | 0, hj => simp at hj; subst hj; exact cell_at rfl rfl
  · intro u' hu'; simp at hu'; subst hu'; exact slice_one hu
  · simp [maxLen]; omega
  · omega
  · intro g cap w' ho' hg hl hs'
    have hb0 : Below w.heap.size w (w.alloc (.cells #[u] 24)) := (Below.refl _ _).alloc (Nat.le_refl _) _
    refine h g cap w' (own_lt ho').1 ⟨by simpa using ho', ?_⟩ hg hl
    refine RowsOwn.snoc hown.len (fun j u' p' hj hp => ?_) ?_
    · have he := (hown.2 j u' p' hj hp).below hb0
      cases e : v.ownBlock with
      | none => rw [e] at hg; exact he.kept hg (fun k _ e => by cases e)
      | some gv => rw [e] at hg; exact he.keptT hg (row_not_int (hown.1.alloc _) e)
    · have he := hu.below hb0
      cases e : v.ownBlock with
      | none => rw [e] at hg; exact he.kept hg (fun k _ e => by cases e)
      | some gv => rw [e] at hg; exact he.keptT hg (row_not_int (hown.1.alloc _) e)

theorem KeepX.same' {A X : Nat → Prop} {W W' : World} (h : W'.heap = W.heap) : KeepX A X W W' := ⟨by rw [h]; exact Nat.le_refl _, fun k _ => by rw [h]⟩
theorem drewN_heap (w : World) (n : Nat) : (w.drewN n).heap = w.heap := rfl

/-- The places of the orbit, and what brings there. -/
def GivesO (w w' : World) (R : NP) (e : Ending) : Prop := ∃ vf vb, e = .returned (.tuple #[vf, vb]) ∧ IntS w' vf (numsI R) ∧ IntSS w' vb (bringsOf R) ∧ Below w.heap.size w w'

set_option maxRecDepth 100000 in
set_option maxHeartbeats 4000000 in
theorem spec_l4Orbit (n x : Nat) (ms : List Pm) (v : Value) (w : World) (h : IntSS w v (ms.map up)) (hm : OkM n ms) (h1 : 1 ≤ n) (h5 : n ≤ 5) (h3 : ms.length ≤ 1000) (hx : x < n) :
    Calls Try.prog 80 #[.int .i64 (n : Int), v, .int .i64 (x : Int)] w fun e w' => GivesO w w' (orbitW n ms x) e := by
  have HM := hidI hm; have HSS := hidI h
  obtain ⟨ao, cap, hv, hcap, hmax⟩ := ints_of_rows h
  subst hv
  unfold maxLen at hmax
  have s0 : (w.alloc (.cells #[.int .i64 (x : Nat)] 3)).heap.size = w.heap.size + 1 := by simp
  clear h hm
  go_enter Try.func80, Try.ntmps80
  go_wp2_with fail
  refine (spec_PermNone n _ h1 h5).mono ?_; rintro e w2 ⟨v0, rfl, o2, b2⟩
  rw [s0] at b2 o2
  have E2 := hidI (El.ofOwn o2 (up_I64 (isP_id n) h5))
  obtain ⟨_, no, nc, hv0, _⟩ := id E2.out.1
  subst hv0
  have hs2 := b2.size
  have HST := hidI (ost_start (X0 := 2 ^ x) (A := fun _ => False) (w0 := w) rfl h1 h5 hx (Below.refl w.heap.size w) (fun _ h => h.elim) o2 b2)
  obtain ⟨P, hP⟩ : ∃ P : Nat, P = 2 ^ x := ⟨_, rfl⟩
  rw [← hP] at HST
  have HB2 := hidI (show Below w.heap.size w (w2.alloc (.cells #[.slice no (up (idP n)).length nc] 24)) from ((Below.refl w.heap.size w).alloc (Nat.le_refl _) (.cells #[.int .i64 (x : Nat)] 3)).trans ((b2.alloc (by omega) (.cells #[.slice no (up (idP n)).length nc] 24)).mono (by omega)))
  clear hP o2 b2 E2 s0
  go_wp2_with fail
  go_loopw [8, 9, 10] (fun vf vb va wr => ∃ (k : Nat) (L : NP) (X : Nat → Prop) (gf cf gb cb S : Nat) (us : List Value), vf = .slice (some ⟨gf, 0, none⟩) L.length cf ∧ vb = .slice (some ⟨gb, 0, none⟩) L.length cb ∧ va = .int .i64 (k : Nat) ∧ k ≤ L.length ∧
    Hid (OSt n w.heap.size (fun _ => False) w L X gf cf gb cb S us wr) ∧ Hid (Below w.heap.size w wr) ∧ Hid (bfs (nextO ms) (fuelW - k) k L = orbitW n ms x)) (fun _ _ va _ => 6 - (intOf va).toNat)
  case atStart => exact ⟨0, [(x, idP n)], _, _, _, _, _, P, _, rfl, rfl, rfl, by simp, HST, HB2, hidI rfl⟩
  case round =>
    clear HST HB2
    obtain ⟨k, L, X, gf, cf, gb, cb, S, us, rfl, rfl, rfl, hk, HO, HB, HE⟩ := hrel
    have lf := own_lt HO.out.found
    obtain ⟨lf1, lf2, lf3, lf4⟩ := lf
    unfold maxLen at lf4
    by_cases hlt : k < L.length
    rotate_left
    · have hEnd := hidI (show L = orbitW n ms x by rw [← HE.out]; exact (bfsO_end (by omega)).symm)
      have hkI : ¬ (k : Int) < (L.length : Int) := by omega
      go_wp2_with fail
      go_ret2
      have hf := HO.out.found
      rw [numsOf_eq] at hf
      have hi := (IntS.ofOwn hf (numsI_I64 HO.out.ok h5)).2
      have hr := HO.out.brings.reads
      rw [hEnd.out] at hi hr
      rw [hEnd.out]
      exact ⟨_, _, rfl, hi, hr, HB.out⟩
    obtain ⟨y, hy0⟩ : ∃ y, L[k]? = some y := ⟨_, List.getElem?_eq_getElem hlt⟩
    have hkI : (k : Int) < (L.length : Int) := by omega
    have HYk := hidI hy0
    have hl5 := HO.out.len h5
    have HNX := hidI (bfsO_next (next := nextO ms) hy0 (show k < fuelW by unfold fuelW; omega))
    clear hy0 lf1 lf2 lf3 lf4
    go_wp2_with fail
    obtain ⟨wo, rfl⟩ : ∃ wo : World, wo = wr := ⟨_, rfl⟩
    go_loopw [8, 9, 11] (fun vf vb vj wr => ∃ (j : Nat) (M : NP) (X : Nat → Prop) (gf cf gb cb S : Nat) (us : List Value), vf = .slice (some ⟨gf, 0, none⟩) M.length cf ∧ vb = .slice (some ⟨gb, 0, none⟩) M.length cb ∧ vj = .int .i64 (j : Nat) ∧ j ≤ ms.length ∧ k < M.length ∧
      Hid (OSt n w.heap.size (fun _ => False) w M X gf cf gb cb S us wr) ∧ Hid (Below w.heap.size w wr) ∧ Hid (M[k]? = some y) ∧ Hid (adds M ((nextO ms y).drop j) = adds L (nextO ms y))) (fun _ _ vj _ => ms.length - (intOf vj).toNat)
    case atStart => exact ⟨0, L, X, gf, cf, gb, cb, S, us, rfl, rfl, rfl, by omega, hlt, HO, HB, HYk, hidI rfl⟩
    case round =>
      clear HO HB
      obtain ⟨j, M, X, gf, cf, gb, cb, S, us, rfl, rfl, rfl, hj, hkM, HO, HB, HMk, HAd⟩ := hrel
      by_cases hjl : j < ms.length
      rotate_left
      · have hEnd := hidI (show M = adds L (nextO ms y) by rw [← HAd.out]; exact (addsO_end (by omega) M).symm)
        have hjI : ¬ (j : Int) < (ms.length : Int) := by omega
        go_wp2_with fail
        go_roundw
        case rel => exact ⟨k + 1, M, X, gf, cf, gb, cb, S, us, rfl, rfl, by go_num, by omega, HO, HB, hidI (by rw [hEnd.out, ← HNX.out]; exact HE.out)⟩
        case measure => simp [intOf]; omega
      obtain ⟨m, hm⟩ : ∃ m, ms[j]? = some m := ⟨_, List.getElem?_eq_getElem hjl⟩
      have hjI : (j : Int) < (ms.length : Int) := by omega
      have HMP := hidI (HM.out m (List.mem_of_getElem? hm))
      obtain ⟨b, off, um, hao, hb, hcm, hum⟩ := IntSS.at HSS.out hm
      subst hao
      have ecm := (HB.out.cell (p := ⟨b, off + j, none⟩) hb).trans hcm
      have humw := hum.below HB.out
      obtain ⟨bm, om, cm, rfl, hm1, hm2, hbm, hcu⟩ := up_cells humw HMP.out h1
      unfold maxLen at hm2
      have HUM0 := hidI hum; have HUM := hidI humw
      have hyn := (HO.out.ok y (List.mem_of_getElem? HMk.out)).1
      have HYP := hidI (HO.out.ok y (List.mem_of_getElem? HMk.out)).2
      have eto := hcu y.1 hyn
      have htn := ap_lt HMP.out hyn
      have ef : wr.cell? ⟨gf, k, none⟩ = some (.int .i64 (y.1 : Nat)) := (own_cell HO.out.found (by unfold numsOf; rw [List.getElem?_map, HMk.out]; rfl)).1
      have hkMI : (k : Int) < (M.length : Int) := by omega
      have hynI : (y.1 : Int) < (n : Int) := by omega
      have lf := own_lt HO.out.found
      have lb := HO.out.brings.lt (bringsOf_len M).symm
      obtain ⟨lf1, lf2, lf3, lf4⟩ := lf
      obtain ⟨lb1, lb2, lb3, lb4⟩ := lb
      unfold maxLen at lf4 lb4
      have hM5 := HO.out.len h5
      have HADD := hidI (addsO_next (x := y) hm M)
      obtain ⟨t, ht⟩ : ∃ t, t = ap m y.1 := ⟨_, rfl⟩
      rw [← ht] at eto htn HADD
      have hbk : (bringsOf M)[k]? = some (up y.2) := by unfold bringsOf; rw [List.getElem?_map, HMk.out]; rfl
      clear hcu hm hum humw hcm ht
      go_wp2_with fail
      go_quiet (fail)
      have HOd := hidI (HO.out.round (w' := wr.drewN nq) (KeepX.same' rfl))
      have HBd := hidI (HB.out.trans ((bdraw wr nq).mono HB.out.size))
      have HFd := hidI (show IntS (wr.drewN nq) (.slice (some ⟨gf, 0, none⟩) M.length cf) (numsI M) by
        have hf := HOd.out.found
        rw [numsOf_eq] at hf
        exact (IntS.ofOwn hf (numsI_I64 HOd.out.ok h5)).2)
      have HUMd := hidI (HUM.out.below (bdraw wr nq))
      obtain ⟨wd, hwd⟩ : ∃ wd, wd = wr.drewN nq := ⟨_, rfl⟩
      have ecm2 : wd.cell? ⟨b, off + j, none⟩ = some (.slice (some ⟨bm, om, none⟩) n cm) := by rw [hwd]; exact ecm
      have hsd : wd.heap.size = wr.heap.size := by rw [hwd]; rfl
      rw [← hwd] at HOd HBd HFd HUMd ⊢
      rw [← hsd] at lf2 lb2 hbm
      clear hwd hsd HO HB HUM ecm ef eto
      have hswd := HBd.out.size
      go_wp2_with fail
      refine (spec_l1Has (numsI M) (t : Int) _ _ HFd.out (by rw [numsI_len]; omega)).mono ?_; rintro e w' ⟨rfl, rfl⟩
      by_cases hin : t ∈ M.map Prod.fst
      · rw [decide_eq_true (numsI_mem.2 hin)]
        have HADD' := hidI (show adds M ((nextO ms y).drop (j + 1)) = adds L (nextO ms y) by rw [← HAd.out, HADD.out]; unfold addK; rw [if_pos hin])
        clear hin
        go_wp2_with fail
        go_roundw
        case rel => exact ⟨j + 1, M, X, gf, cf, gb, cb, S, us, rfl, rfl, by go_num, by omega, hkM, HOd, HBd, HMk, HADD'⟩
        case measure => simp [intOf]; omega
      rw [decide_eq_false (fun h => hin (numsI_mem.1 h))]
      have HADD' := hidI (show adds (M ++ [(t, join y.2 m)]) ((nextO ms y).drop (j + 1)) = adds L (nextO ms y) by rw [← HAd.out, HADD.out]; unfold addK; rw [if_neg hin])
      have HNOT := hidI hin
      clear hin HADD HAd
      go_wp2_with (at_builtin; refine wpList_pushI wd rfl _ _ rfl w.heap.size (.slice (some ⟨gf, 0, none⟩) M.length cf) M.length (numsOf M) (t : Int) rfl rfl HOd.out.found (by omega) (by omega) ?_)
      intro g1 c1 w1 hg1 o1 gr1 l1
      have gr1 : (wd.alloc (.cells #[.int .i64 (t : Int)] 3)).grownBy w1 (some gf) := gr1
      have M1 := (Moves.alloc (X := X) wd (.cells #[.int .i64 (t : Int)] 3)).andThen (.of_grown gr1 (fun k e => by injection e with e; subst e; exact HOd.out.xf))
      have sw1 := M1.size
      have HB1 := hidI (HBd.out.trans (M1.below (fun k h => (HOd.out.from_ k h).1) HOd.out.sz.2))
      have hcm1 : w1.cell? ⟨b, off + j, none⟩ = some (.slice (some ⟨bm, om, none⟩) n cm) := (HB1.out.cell (p := ⟨b, off + j, none⟩) hb).trans ((HBd.out.cell (p := ⟨b, off + j, none⟩) hb).symm.trans ecm2)
      have HUM1 := hidI (HUM0.out.below HB1.out)
      have RB1 := hidI ((HOd.out.brings.alloc (.cells #[.int .i64 (t : Int)] 3)).other gr1 (fun e => HOd.out.ne (by injection e with e; exact e.symm)) HOd.out.du)
      have hbr := RB1.out
      rw [← bringsOf_len M] at hbr
      obtain ⟨uk, huk, e2, he2⟩ := hbr.at hbk
      have HE2 := hidI he2
      obtain ⟨_, yo2, yc2, huv2, _⟩ := id he2.1
      subst huv2
      have O1 := hidI o1; have GR1 := hidI gr1; have L1 := hidI l1; have HMV := hidI M1
      clear he2 huk hbr hbk M1 o1 gr1 l1 ecm2
      go_wp2_with fail
      refine wp_region_any (by kernel_rfl) ?_
      change wpAny _ _ _ _ _ _ _ (World.drew _)
      refine take_at (i := 0) (v := ?_) 48 rfl rfl (by kernel_rfl) (by kernel_rfl) (by kernel_rfl) (fun _ _ _ h => h) (Or.inl ⟨by rfl, ?_⟩) ?_
      rotate_left
      · intro w; go_simp; try with_reducible rfl
      (try simp only [Act.put, List.setIfInBounds_toArray, List.set_cons_zero, List.set_cons_succ])
      refine take_at (i := 1) (v := ?_) 49 rfl rfl (by kernel_rfl) (by kernel_rfl) (by kernel_rfl) (fun _ _ _ h => h) (Or.inl ⟨by rfl, ?_⟩) ?_
      rotate_left
      · intro w; go_simp; try with_reducible rfl
      (try simp only [Act.put, List.setIfInBounds_toArray, List.set_cons_zero, List.set_cons_succ])
      refine take_at (i := 2) (v := ?_) 50 rfl rfl (by kernel_rfl) (by kernel_rfl) (by kernel_rfl) (fun _ _ _ h => h) (Or.inl ⟨by rfl, ?_⟩) ?_
      rotate_left
      · intro w; go_simp; try with_reducible rfl
      (try simp only [Act.put, List.setIfInBounds_toArray, List.set_cons_zero, List.set_cons_succ])
      refine take_at (i := 3) (v := ?_) 51 rfl rfl (by kernel_rfl) (by kernel_rfl) (by kernel_rfl) (fun _ _ _ h => h) (Or.inl ⟨by rfl, ?_⟩) ?_
      rotate_left
      · intro w; go_simp; try with_reducible rfl
      (try simp only [Act.put, List.setIfInBounds_toArray, List.set_cons_zero, List.set_cons_succ])
      refine take_at (i := 5) (v := ?_) 53 rfl rfl (by kernel_rfl) (by kernel_rfl) (by kernel_rfl) (fun _ _ _ h => h) (Or.inl ⟨by rfl, ?_⟩) ?_
      rotate_left
      · intro w; go_simp; try with_reducible rfl
      (try simp only [Act.put, List.setIfInBounds_toArray, List.set_cons_zero, List.set_cons_succ])
      refine take_at (i := 6) (v := ?_) 54 rfl rfl (by kernel_rfl) (by kernel_rfl) (by kernel_rfl) (fun _ _ _ h => h) (Or.inl ⟨by rfl, ?_⟩) ?_
      rotate_left
      · intro w; go_simp; try with_reducible rfl
      (try simp only [Act.put, List.setIfInBounds_toArray, List.set_cons_zero, List.set_cons_succ])
      refine take_at (i := 7) (v := ?_) 55 rfl rfl (by kernel_rfl) (by kernel_rfl) (by kernel_rfl) (fun _ _ _ h => h) (Or.inl ⟨by rfl, ?_⟩) ?_
      rotate_left
      · intro w; go_simp; try with_reducible rfl
      (try simp only [Act.put, List.setIfInBounds_toArray, List.set_cons_zero, List.set_cons_succ])
      refine wpAny_two (i := 4) (j := 8) (vi := .slice yo2 (up y.2).length yc2) (vj := .slice (some ⟨bm, om, none⟩) n cm) 52 56 rfl rfl (by decide) (by decide) rfl rfl rfl rfl (by kernel_rfl) (by kernel_rfl) (by kernel_rfl) (by go_simp) (by go_simp) (by go_simp) (by go_simp) ?_
      (try simp only [Act.put, List.setIfInBounds_toArray, List.set_cons_zero, List.set_cons_succ])
      refine wpAny_ready (rs := [9]) (by kernel_rfl) (by simp) ?_
      refine AllReady.cons rfl (fun K hK => ?_) AllReady.nil
      go_simp
      have hb1d : Below w1.heap.size w1 w1.drew := (Below.refl _ w1).drew
      refine (spec_PermThen n y.2 m _ _ w1.drew (HE2.out.1.below hb1d) (HUM1.out.below hb1d) HYP.out HMP.out h1 h5).mono ?_; rintro e w5 ⟨v5, rfl, o5, b5⟩
      have EN := hidI (El.ofOwn o5 (up_I64 (isP_join HYP.out HMP.out) h5))
      obtain ⟨_, no5, nc5, hv5, _⟩ := id EN.out.1
      subst hv5
      have b5 : Below w1.heap.size w1 w5 := bthen hb1d b5
      have O5 := hidI (show w5.ownsRow w1.heap.size 3 1 _ _ _ from o5); have B5 := hidI b5; have sw5 := b5.size
      have RB5 := hidI (RB1.out.below b5)
      clear o5 b5 e2 hb1d
      refine hK _ _ ?_; clear hK K
      refine wpAny_ready (rs := [10]) (by kernel_rfl) (by simp) ?_
      refine AllReady.cons rfl (fun K hK => ?_) AllReady.nil
      go_simp
      refine hK _ _ ?_; clear hK K
      refine wpAny_ready (rs := [11]) (by kernel_rfl) (by simp) ?_
      refine AllReady.cons rfl (fun K hK => ?_) AllReady.nil
      refine step_pushR w5 rfl _ _ rfl w.heap.size (.slice (some ⟨gb, 0, none⟩) M.length cb) us (bringsOf M) (.slice no5 (up (join y.2 m)).length nc5) (up (join y.2 m)) rfl rfl RB5.out EN.out (by rw [bringsOf_len]; omega) (by omega) ?_
      intro g3 c3 w3 hg3 rp3 gr3 l3
      rw [bringsOf_len] at rp3 ⊢
      have gr3 : (w5.alloc (.cells #[.slice no5 (up (join y.2 m)).length nc5] 24)).grownBy w3 (some gb) := gr3
      obtain ⟨hMV, hO3⟩ := OSt.add (y := (t, join y.2 m)) HOd.out (fun _ h => h.elim) ⟨htn, isP_join HYP.out HMP.out⟩ HNOT.out h5 O1.out GR1.out (L1.out.imp (fun e => by injection e) id) O5.out B5.out rp3 gr3 (l3.imp (fun e => by injection e) id)
      have HO3 := hidI hO3
      have HB3 := hidI (HBd.out.trans (hMV.below (fun k h => (HOd.out.from_ k h).1) HOd.out.sz.2))
      have HMk' := hidI (show (M ++ [(t, join y.2 m)])[k]? = some y by rw [List.getElem?_append_left hkM]; exact HMk.out)
      clear rp3 gr3 l3 hMV hO3 RB1 RB5 HOd HBd
      refine hK _ _ ?_; clear hK K
      (try simp only [Act.put, List.setIfInBounds_toArray, List.set_cons_zero, List.set_cons_succ])
      refine wpAny_ready (rs := [12]) (by kernel_rfl) (by simp) ?_
      refine AllReady.cons rfl (fun K hK => ?_) AllReady.nil
      go_simp
      refine hK _ _ ?_; clear hK K
      refine wpAny_done (by kernel_rfl) ?_ _
      go_wp2_with fail
      go_roundw
      case rel => exact ⟨j + 1, M ++ [(t, join y.2 m)], more X wd w3, g1, c1, g3, c3, S ||| 2 ^ t, us ++ [.slice no5 (up (join y.2 m)).length nc5], by rw [List.length_append]; rfl, by rw [List.length_append]; rfl, by go_num, by omega, by rw [List.length_append]; omega, HO3, HB3, HMk', HADD'⟩
      case measure => simp [intOf]; omega
end Go.Proofs.Ytmmggbcmailbiaa
