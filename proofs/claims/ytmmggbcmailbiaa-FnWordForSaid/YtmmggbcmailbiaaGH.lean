/- The program's GroupHas. -/
import Derived.Test.YtmmggbcmailbiaaGY
namespace Go.Proofs.Ytmmggbcmailbiaa
open Go.RowKit Grp

attribute [local go_sem] Oper.semAt_some

/-- What is left of the permutation; it does not lie in the block b. -/
def LeftOk (b : Nat) (w : World) (v : Value) (q : Pm) : Prop := IntS w v (up q) ∧ ∀ k, v.ownBlock = some k → k ≠ b
/-- The rows read so whatever the block b holds. -/
def RowsBut (b : Nat) (w : World) (v : Value) (pss : List (List Int)) : Prop :=
  ∀ W : World, w.heap.size ≤ W.heap.size → (∀ k, k < w.heap.size → k ≠ b → W.heap[k]? = w.heap[k]?) → IntSS W v pss
theorem RowsBut.reads {b : Nat} {w : World} {v : Value} {pss : List (List Int)} (h : RowsBut b w v pss) : IntSS w v pss := h w (Nat.le_refl _) (fun _ _ _ => rfl)

/-- A round has left: the place was found. -/
def GStop (w wr : World) (q : Pm) (k : Nat) (pre : NP) (X : Nat → Prop) (W : World) : Prop :=
  (∃ y ∈ pre, y.1 = ap q k ∧ ∃ lv, Boxed W w.heap.size 24 lv ∧ El W lv (up (join q (turn y.2))) ∧ ∀ b, lv.ownBlock = some b → ¬ X b ∧ w.heap.size < b) ∧
  Boxed W wr.heap.size 3 (.int .i64 (k : Nat)) ∧ Boxed W (wr.heap.size + 1) 4 (.bool true) ∧ (∀ b, b < wr.heap.size → b ≠ w.heap.size → W.heap[b]? = wr.heap[b]?) ∧ wr.heap.size + 1 < W.heap.size ∧ Below w.heap.size w W

theorem gstop_abx {w wr : World} {q : Pm} {k B : Nat} (hs : w.heap.size < wr.heap.size) (hB : wr.heap.size + 1 < B) : AbX B (GStop w wr q k) := by
  rintro pre X W W' hX hBW ⟨⟨y, hy, he, lv, hb, hl, hn⟩, h9, h10, hk, hsz, hbl⟩ hm
  have hm' : ∀ b, b < B → ¬ X b := fun b h e => by have := (hX b e).1; omega
  refine ⟨⟨y, hy, he, lv, hm.boxed (hm' _ (by omega)) hb, hl.block hm.size (fun b e => hm.block b (hl.lt e) (hn b e).1), fun b e => ⟨?_, (hn b e).2⟩⟩, hm.boxed (hm' _ (by omega)) h9, hm.boxed (hm' _ (by omega)) h10, fun b h1 h2 => (hm.block b (by omega) (hm' b (by omega))).trans (hk b h1 h2), Nat.lt_of_lt_of_le hsz hm.size, hbl.trans (hm.below (fun b e => by have := (hX b e).1; omega) (by omega))⟩
  rintro (h | h)
  · exact (hn b e).1 h
  · have := hl.lt e; omega

theorem size_setCell' (W : World) (b i : Nat) (v : Value) : W.heap.size ≤ (W.setCell ⟨b, i, none⟩ v).heap.size := (grown_setCell W b i v).size

theorem ghas_stop {w wr W w5 w6 : World} {X : Nat → Prop} {q : Pm} {k : Nat} {pre : NP} {jv v0 v1 : Value} {zs : List Int}
    (hsb : w.heap.size < wr.heap.size) (hsW : wr.heap.size + 1 < W.heap.size) (hB : Below w.heap.size w wr) (hBw : Below wr.heap.size wr W) (hB6 : Below W.heap.size W w6)
    (hX : ∀ k, X k → wr.heap.size + 1 < k ∧ k < W.heap.size) (s5 : W.heap.size ≤ w5.heap.size) (hN : ∀ k, jv.ownBlock = some k → w5.heap.size ≤ k) (hE : El w6 jv zs)
    (h7 : Boxed w6 w.heap.size 24 v0) (h10 : Boxed (w6.setCell ⟨w.heap.size, 0, none⟩ jv) (wr.heap.size + 1) 4 v1) (h9 : Boxed W wr.heap.size 3 (.int .i64 (k : Nat))) :
    KeepX (fun _ => False) X W ((w6.setCell ⟨w.heap.size, 0, none⟩ jv).setCell ⟨wr.heap.size + 1, 0, none⟩ (.bool true)) ∧
    ∀ y ∈ pre, y.1 = ap q k → zs = up (join q (turn y.2)) → GStop w wr q k pre X ((w6.setCell ⟨w.heap.size, 0, none⟩ jv).setCell ⟨wr.heap.size + 1, 0, none⟩ (.bool true)) := by
  have s6 := hB6.size
  have o1 : ∀ b, b ≠ w.heap.size → b ≠ wr.heap.size + 1 → ((w6.setCell ⟨w.heap.size, 0, none⟩ jv).setCell ⟨wr.heap.size + 1, 0, none⟩ (.bool true)).heap[b]? = w6.heap[b]? := fun b h1 h2 =>
    (Below.heap_setCell _ _ _ _ (by show b ≠ wr.heap.size + 1; exact h2)).trans (Below.heap_setCell _ _ _ _ (by show b ≠ w.heap.size; exact h1))
  have z1 := size_setCell' w6 w.heap.size 0 jv
  have z2 := size_setCell' (w6.setCell ⟨w.heap.size, 0, none⟩ jv) (wr.heap.size + 1) 0 (.bool true)
  refine ⟨⟨by omega, fun b hb => ?_⟩, fun y hy he hz => ⟨⟨y, hy, he, jv, ?_, ?_, fun b e => ?_⟩, ?_, h10.set _, fun b h1 h2 => ?_, by omega, ?_⟩⟩
  · rcases hb with hb | hb
    · exact hb.elim
    · have := hX b hb
      exact (o1 b (by omega) (by omega)).trans (hB6.block b this.2)
  · exact (Below.heap_setCell _ _ _ _ (by show w.heap.size ≠ wr.heap.size + 1; omega)).trans (h7.set jv)
  · rw [← hz]
    exact hE.block (by omega) (fun b e => o1 b (by have := hN b e; omega) (by have := hN b e; omega))
  · have := hN b e
    exact ⟨fun h => by have := hX b h; omega, by omega⟩
  · exact (o1 _ (by omega) (by omega)).trans ((hB6.block _ (by omega)).trans h9)
  · exact (o1 b h2 (by omega)).trans ((hB6.block b (by omega)).trans (hBw.block b h1))
  · exact (((hB.trans (hBw.mono (by omega))).trans (hB6.mono (by omega))).setCell (Nat.le_refl _) _).setCell (by show w.heap.size ≤ wr.heap.size + 1; omega) _

set_option maxRecDepth 100000 in
set_option maxHeartbeats 4000000 in
theorem impl_GroupHas (n : Nat) (ms : List Pm) (p : Pm) (v u : Value) (w : World) (h : IntSS w v (ms.map up)) (hu : IntS w u (up p)) (hp : IsP n p) (hm : OkM n ms) (h1 : 1 ≤ n) (h5 : n ≤ 5) (h3 : ms.length ≤ 3) :
    Calls Try.prog 20 #[.int .i64 (n : Int), v, u] w fun e w' => e = .returned (.bool (has n ms p)) ∧ Below w.heap.size w w' := by
  have HV := hidI (show mvalid (n : Int) (ms.map up) = true from (mvalid_iff _ _).2 ⟨n, ms, rfl, h1, h5, rfl, h3, hm⟩)
  have HVP := hidI (pvalid_up hp h1 h5)
  have HM := hidI h; have HO := hidI hm; have HU := hidI hu; have HP := hidI hp
  obtain ⟨ao, cap, hv, hcap, hmax⟩ := ints_of_rows h
  subst hv
  unfold maxLen at hmax
  obtain ⟨bu, ou, cu, hu0, hu1, hu2, hu3, -⟩ := up_cells hu hp h1
  subst hu0
  have hnn : ((n : Int) != (n : Int)) = false := by simp
  clear h hm hu hp
  refine (callsIn_wide (n := 9)).1 ?_
  refine callsIn_of_wp_marks Try.func20 rfl trivial ?_ rfl
  refine wpIn_wide.2 ?_
  simp only [Try.ntmps20, List.size_toArray, List.length_cons, List.length_nil, Nat.reduceAdd, Nat.reduceSub, Array.replicate_succ, Array.replicate_zero, List.push_toArray, List.append_toArray, List.nil_append, List.cons_append]
  go_wp2_with fail
  refine (impl_MovesValid (n : Int) (ms.map up) _ _ HM.out).mono ?_; rintro e w' ⟨rfl, rfl⟩; rw [HV.out]
  go_wp2_with fail
  refine (impl_PermValid (up p) _ _ HU.out).mono ?_; rintro e w' ⟨rfl, rfl⟩; rw [HVP.out]
  go_wp2_with fail
  have HX0 := hidI (Boxed.new w 24 (.slice (some ⟨bu, ou, none⟩) n cu))
  have HB0 := hidI ((Below.refl w.heap.size w).alloc (Nat.le_refl _) (.cells #[.slice (some ⟨bu, ou, none⟩) n cu] 24))
  have HF0 := hidI (show LeftOk w.heap.size (w.alloc (.cells #[.slice (some ⟨bu, ou, none⟩) n cu] 24)) (.slice (some ⟨bu, ou, none⟩) n cu) p from
    ⟨HU.out.below ((Below.refl _ _).alloc (Nat.le_refl _) _), fun k e => by
      have e' : bu = k := by injection e
      omega⟩)
  have HS0 := hidI (show RowsBut w.heap.size (w.alloc (.cells #[.slice (some ⟨bu, ou, none⟩) n cu] 24)) (.slice ao ms.length cap) (ms.map up) from
    fun W hs hk => SameTo.rows ⟨by simp at hs; omega, fun k h => (hk k (by simp; omega) (by omega)).trans (Below.heap_alloc _ _ _ h)⟩ HM.out)
  refine wp_loop (fun a w' => ∃ (u8 u9 u10 u11 u12 u31 u32 u33 u34 u35 u36 u37 u38 u39 u40 u41 u42 u43 u44 u45 u46 u47 u48 u49 u50 u51 u52 u53 u54 u55 u56 : Value) (ds : List Deferred), (∃ (k : Nat) (ks : List Pm) (q : Pm) (ao : Option Addr) (cap : Nat) (Ds : List Nat) (lv : Value), u8 = .slice ao ks.length cap ∧ u31 = .int .i64 (k : Nat) ∧ ds = Ds.map markOf ∧ k ≤ n ∧ ks.length ≤ 1000 ∧ Hid (OkM n ks) ∧ Hid (IsP n q) ∧
      Hid (RowsBut w.heap.size w' (.slice ao ks.length cap) (ks.map up)) ∧ Hid (Boxed w' w.heap.size 24 lv) ∧ Hid (LeftOk w.heap.size w' lv q) ∧ Hid (hasFrom n ks q (List.range' k (n - k)) = has n ms p) ∧ Hid (Below w.heap.size w w') ∧ Hid (MarksOk w.heap.size Ds w')) ∧
    a = { tmps := #[.int .i64 (n : Int), .slice ao ms.length cap, .slice (some ⟨bu, ou, none⟩) n cu, undef, undef, undef, .bool false, .pointer (some ⟨w.heap.size, 0, none⟩), u8, u9, u10, u11, u12, .int .i64 (n : Int), .slice ao ms.length cap, .bool true, .bool false, .bool false, .slice (some ⟨bu, ou, none⟩) n cu, .bool true, .bool false, .bool false, .bool false, .slice (some ⟨bu, ou, none⟩) n cu, .int .i64 (n : Int), .int .i64 (n : Int), .bool false, .bool false, .slice (some ⟨bu, ou, none⟩) n cu, .slice ao ms.length cap, .int .i64 (n : Int), u31, u32, u33, u34, u35, u36, u37, u38, u39, u40, u41, u42, u43, u44, u45, u46, u47, u48, u49, u50, u51, u52, u53, u54, u55, u56], defers := ds }) (fun a _ => n - (intOf (a.tmps.getD 31 undef)).toNat) ?start ?round
  case start =>
    (repeat apply Exists.intro)
    refine ⟨?_, rfl⟩
    exact ⟨0, ms, p, ao, cap, [], _, rfl, rfl, rfl, by omega, by omega, HO, HP, HS0, HX0, HF0, hidI (by unfold has; rw [List.range_eq_range']; rfl), HB0, hidI (MarksOk.nil _ _)⟩
  case round =>
    rintro a wr ⟨u8, u9, u10, u11, u12, u31, u32, u33, u34, u35, u36, u37, u38, u39, u40, u41, u42, u43, u44, u45, u46, u47, u48, u49, u50, u51, u52, u53, u54, u55, u56, ds, ⟨k, ks, q, ao2, cap2, Ds, lv, rfl, rfl, rfl, hk, hk3, HK, HQ, HS, HXB, HLf, HE, HB, HMk⟩, rfl⟩
    dsimp only
    clear HX0 HB0 HF0 HS0
    have HSr := hidI (HS.out.reads)
    obtain ⟨ao', cap', hv', hcap', hmax'⟩ := ints_of_rows HSr.out
    injection hv' with e1 e2 e3
    subst e1; subst e3
    unfold maxLen at hmax'
    clear e2
    obtain ⟨bl, ol, cl, hlv, hl1, hl2, hl3, hlc⟩ := up_cells HLf.out.1 HQ.out h1
    unfold maxLen at hl2
    subst hlv
    have Hlc := hidI hlc; clear hlc
    have hsw := HB.out.size
    have hsb : w.heap.size < wr.heap.size := HXB.out.lt
    by_cases hlt : k < n
    rotate_left
    · have hkI : ¬ (k : Int) < (n : Int) := by omega
      have HEn := hidI (show has n ms p = true by rw [← HE.out, show n - k = 0 by omega]; rfl)
      go_wp2_with fail
      refine leaves_marks Ds wr HMk.out HB.out.size (fun W' hb => ⟨_, results_tmp rfl _ _ _, by rw [HEn.out]; rfl, HB.out.trans hb⟩)
    have hkI : (k : Int) < (n : Int) := by omega
    obtain ⟨wc, hwc⟩ : ∃ wc, wc = (wr.alloc (.cells #[.int .i64 (k : Nat)] 3)).alloc (.cells #[.bool false] 4) := ⟨_, rfl⟩
    have hsc : wc.heap.size = wr.heap.size + 2 := by rw [hwc]; simp
    have hbc : Below wr.heap.size wr wc := by rw [hwc]; exact ((Below.refl wr.heap.size wr).alloc (Nat.le_refl _) _).alloc (by simp) _
    have hx9 : Boxed wc wr.heap.size 3 (.int .i64 (k : Nat)) := by rw [hwc]; exact (Boxed.new wr _ _).alloc _
    have hx10 : Boxed wc (wr.heap.size + 1) 4 (.bool false) := by
      rw [hwc]; have := Boxed.new (wr.alloc (.cells #[.int .i64 (k : Nat)] 3)) 4 (.bool false); rwa [World.size_alloc] at this
    have c9 := hx9.cell
    have HWC := hidI hwc
    have c9' : (wr.alloc (.cells #[.int .i64 (k : Nat)] 3)).cell? ⟨wr.heap.size, 0, none⟩ = some (.int .i64 (k : Nat)) := cell_at rfl rfl
    have c9'' : ((wr.alloc (.cells #[.int .i64 (k : Nat)] 3)).alloc (.cells #[.bool false] 4)).cell? ⟨wr.heap.size, 0, none⟩ = some (.int .i64 (k : Nat)) := by rw [← hwc]; exact c9
    have HBC := hidI hbc; have HX9 := hidI hx9; have HX10 := hidI hx10
    clear hwc hbc hx9 hx10
    go_wp2_with fail
    rw [← HWC.out]
    clear c9' c9''
    refine (impl_orbitSeq (n : Int) ao2 ks.length cap2 (k : Int) wc).mono ?_; rintro e w4 ⟨rfl, hw4⟩
    have SQ := hidI (orbit_made 8 n k ks ao2 cap2 wr wc HSr.out HBC.out h1 h5 hk3 HK.out hlt w4 hw4)
    have hs4 : w4.heap.size = wr.heap.size + 5 := by rw [hw4]; simp; omega
    have hb4 : Below wc.heap.size wc w4 := by rw [hw4]; exact (((Below.refl wc.heap.size wc).alloc (Nat.le_refl _) _).alloc (by simp) _).alloc (by simp; omega) _
    have HB4 := hidI (bthen HBC.out hb4)
    have HX94 := hidI (show Boxed w4 _ _ _ from (hb4.block _ (by omega)).trans HX9.out)
    have HX104 := hidI (show Boxed w4 _ _ _ from (hb4.block _ (by omega)).trans HX10.out)
    have HX74 := hidI (show Boxed w4 _ _ _ from (HB4.out.block _ hsb).trans HXB.out)
    rw [hsc] at SQ ⊢
    clear hw4 hb4 c9
    go_wp2_with fail
    refine (wpIn_wide (n := 9)).1 ?_
    refine wpIn_rangeFunc_X (by decide) rfl (enters_of Try.func90 (by kernel_rfl) rfl) SQ.out (by rintro k (h | h | h | h) <;> omega) rdO_put (Below.refl _ _) (fun _ _ => rfl)
      (fun pre _ W => (∀ z ∈ pre, z.1 ≠ ap q k) ∧ Below w4.heap.size w4 W)
      (fun c pre X W => c = .exit 2 ∧ GStop w wr q k pre X W) (AbX.and (abx_pure _) (abx_below (Nat.le_refl _) (Nat.le_refl _))) (fun c => AbX.and (abx_pure (fun _ => c = .exit 2)) (gstop_abx (by omega) (by omega))) ⟨by simp, Below.refl _ _⟩ ?round2 ?done ?stop
    case round2 =>
      rintro l pre y v X W W1 ⟨hne, hBv⟩ hpre hrd hox hX hsz K hK
      have HYP := hidI ((((orbitW_facts h5 HK.out hlt).1 y (hpre.subset (by simp))).2.1).isP HK.out)
      have HRD := hidI hrd
      obtain ⟨_, yo, yc, hyv, _⟩ := id hrd
      subst hyv
      have HBw := hidI (bthen HB4.out hBv)
      have hx7w : Boxed W w.heap.size 24 _ := (hBv.block _ (by omega)).trans HX74.out
      have hx9w : Boxed W wr.heap.size 3 _ := (hBv.block _ (by omega)).trans HX94.out
      have hx10w : Boxed W (wr.heap.size + 1) 4 _ := (hBv.block _ (by omega)).trans HX104.out
      have c7 := hx7w.cell
      have c9 := hx9w.cell
      have hal : W.cell? ⟨bl, ol + k, none⟩ = some (.int .i64 (ap q k : Nat)) := (HBw.out.cell (p := ⟨bl, ol + k, none⟩) hl3).trans (Hlc.out k hlt)
      have HX7W := hidI hx7w; have HX9W := hidI hx9w; have HX10W := hidI hx10w; have HX := hidI hX; have HNE := hidI hne; have HBv := hidI hBv
      obtain ⟨t, ht⟩ : ∃ t, t = ap q k := ⟨_, rfl⟩
      rw [← ht] at hal
      have HT := hidI ht
      clear SQ HX94 HX104 HX74 hne hBv hpre hrd hX hx7w hx9w hx10w ht
      by_cases hey : y.1 = t
      rotate_left
      · have hb : ((y.1 : Int) == (t : Int)) = false := by simp; omega
        have HN2 := hidI (show ∀ z ∈ pre ++ [y], z.1 ≠ ap q k from fun z hz => by
          rcases List.mem_append.1 hz with hz | hz
          · exact HNE.out z hz
          · rw [List.mem_singleton.1 hz, ← HT.out]; exact hey)
        clear hey
        unfold encO
        gi_wp2
        refine hK.out _ ?_
        clear hK
        gi_wp2
        exact ⟨KeepX.refl _ _ _, HN2.out, HBv.out⟩
      have HEq := hidI (show y.1 = ap q k by rw [hey, HT.out])
      subst hey
      have hb : ((y.1 : Int) == (y.1 : Int)) = true := by simp
      unfold encO
      gi_wp2
      refine hK.out _ ?_
      clear hK
      gi_wp2
      refine region_roundA (by kernel_rfl) (by kernel_rfl) (fun ⟨_, _, h⟩ => h) ?_
      have hbk : Below W.heap.size W W.drew := (Below.refl _ W).drew
      have HLW := hidI (show IntS W (.slice (some ⟨bl, ol, none⟩) n cl) (up q) from HLf.out.1.below HBw.out)
      refine take_at (i := 1) (v := ?_) 47 rfl rfl (by kernel_rfl) (by kernel_rfl) (by kernel_rfl) (fun _ _ _ h => h) (Or.inl ⟨by rfl, ?_⟩) ?_
      rotate_left
      · intro w; go_simp; try with_reducible rfl
      (try simp only [Act.put, List.setIfInBounds_toArray, List.set_cons_zero, List.set_cons_succ])
      refine wpAny_ready (rs := [0, 2]) (by kernel_rfl) (by simp) ?_
      refine AllReady.cons rfl (fun K hK => ?_) (AllReady.cons rfl (fun K hK => ?_) AllReady.nil)
      · go_simp
        refine hK _ _ ?_; clear hK K
        refine wpAny_ready (rs := [2]) (by kernel_rfl) (by simp) ?_
        refine AllReady.cons rfl (fun K hK => ?_) AllReady.nil
        go_simp
        refine (impl_permTurn n y.2 _ W.drew (IntS.below HRD.out hbk) HYP.out h1 h5).mono ?_; rintro e w5 ⟨vt, rfl, o5, b5⟩
        have HE5 := hidI (El.ofOwn o5 (up_I64 (isP_turn HYP.out) h5))
        obtain ⟨_, to, tc, htv, _⟩ := id HE5.out.1
        subst htv
        have B5 := hidI (bthen hbk b5)
        have LF5 : LeftOk w.heap.size w5 (.slice (some ⟨bl, ol, none⟩) n cl) q := ⟨HLW.out.below B5.out, HLf.out.2⟩
        have s5 := B5.out.size
        clear o5 b5
        refine hK _ _ ?_; clear hK K
        refine wpAny_ready (rs := [3]) (by kernel_rfl) (by simp) ?_
        refine AllReady.cons rfl (fun K hK => ?_) AllReady.nil
        go_simp
        refine (impl_permJoin n q (turn y.2) _ _ w5 LF5.1 HE5.out.1 HQ.out (isP_turn HYP.out) h1 h5).mono ?_; rintro e w6 ⟨vj, rfl, o6, b6⟩
        have HE6 := hidI (El.ofOwn o6 (up_I64 (isP_join HQ.out (isP_turn HYP.out)) h5))
        obtain ⟨_, jo, jc, hvj, _⟩ := id HE6.out.1
        subst hvj
        have B6 := hidI (bthen B5.out b6)
        have HN6 := hidI (fun k e => (o6.lt k e).1)
        have s6 := b6.size
        have hx76 : Boxed w6 w.heap.size 24 _ := (B6.out.block _ (by omega)).trans HX7W.out
        have c76 := hx76.cell
        have f76 := hx76.frozen
        have HX76 := hidI hx76
        clear o6 b6 hx76
        refine hK _ _ ?_; clear hK K
        refine wpAny_ready (rs := [4]) (by kernel_rfl) (by simp) ?_
        refine AllReady.cons rfl (fun K hK => ?_) AllReady.nil
        go_simp
        refine hK _ _ ?_; clear hK K
        refine wpAny_done (by kernel_rfl) ?_ _
        have ne10 : (⟨w.heap.size, 0, none⟩ : Addr).block ≠ (⟨wr.heap.size + 1, 0, none⟩ : Addr).block := by show w.heap.size ≠ wr.heap.size + 1; omega
        have hx106 : Boxed (w6.setCell ⟨w.heap.size, 0, none⟩ (.slice jo (up (join q (turn y.2))).length jc)) (wr.heap.size + 1) 4 (.bool false) := (Below.heap_setCell _ _ _ _ (by show wr.heap.size + 1 ≠ w.heap.size; omega)).trans ((B6.out.block _ (by omega)).trans HX10W.out)
        have c106 := hx106.cell
        have f106 := hx106.frozen
        have HX106 := hidI hx106
        clear hx106 ne10
        gi_wp2
        have gs := ghas_stop (q := q) (k := k) (pre := pre ++ [y]) hsb (by omega) HB.out HBw.out B6.out (fun k h => ⟨by have := HX.out k h; omega, (HX.out k h).2⟩) s5 HN6.out HE6.out HX76.out HX106.out HX9W.out
        exact ⟨gs.1, rfl, gs.2 y (by simp) HEq.out rfl⟩
      · go_simp
        refine (impl_permTurn n y.2 _ W.drew (IntS.below HRD.out hbk) HYP.out h1 h5).mono ?_; rintro e w5 ⟨vt, rfl, o5, b5⟩
        have HE5 := hidI (El.ofOwn o5 (up_I64 (isP_turn HYP.out) h5))
        obtain ⟨_, to, tc, htv, _⟩ := id HE5.out.1
        subst htv
        have B5 := hidI (bthen hbk b5)
        have LF5 : LeftOk w.heap.size w5 (.slice (some ⟨bl, ol, none⟩) n cl) q := ⟨HLW.out.below B5.out, HLf.out.2⟩
        have s5 := B5.out.size
        have c75 := (Boxed.cell ((B5.out.block _ (by omega)).trans HX7W.out : Boxed w5 w.heap.size 24 (.slice (some ⟨bl, ol, none⟩) n cl)))
        clear o5 b5
        refine hK _ _ ?_; clear hK K
        refine wpAny_ready (rs := [0]) (by kernel_rfl) (by simp) ?_
        refine AllReady.cons rfl (fun K hK => ?_) AllReady.nil
        go_simp
        refine hK _ _ ?_; clear hK K
        refine wpAny_ready (rs := [3]) (by kernel_rfl) (by simp) ?_
        refine AllReady.cons rfl (fun K hK => ?_) AllReady.nil
        go_simp
        refine (impl_permJoin n q (turn y.2) _ _ w5 LF5.1 HE5.out.1 HQ.out (isP_turn HYP.out) h1 h5).mono ?_; rintro e w6 ⟨vj, rfl, o6, b6⟩
        have HE6 := hidI (El.ofOwn o6 (up_I64 (isP_join HQ.out (isP_turn HYP.out)) h5))
        obtain ⟨_, jo, jc, hvj, _⟩ := id HE6.out.1
        subst hvj
        have B6 := hidI (bthen B5.out b6)
        have HN6 := hidI (fun k e => (o6.lt k e).1)
        have s6 := b6.size
        have hx76 : Boxed w6 w.heap.size 24 _ := (B6.out.block _ (by omega)).trans HX7W.out
        have c76 := hx76.cell
        have f76 := hx76.frozen
        have HX76 := hidI hx76
        clear o6 b6 hx76
        refine hK _ _ ?_; clear hK K
        refine wpAny_ready (rs := [4]) (by kernel_rfl) (by simp) ?_
        refine AllReady.cons rfl (fun K hK => ?_) AllReady.nil
        go_simp
        refine hK _ _ ?_; clear hK K
        refine wpAny_done (by kernel_rfl) ?_ _
        have ne10 : (⟨w.heap.size, 0, none⟩ : Addr).block ≠ (⟨wr.heap.size + 1, 0, none⟩ : Addr).block := by show w.heap.size ≠ wr.heap.size + 1; omega
        have hx106 : Boxed (w6.setCell ⟨w.heap.size, 0, none⟩ (.slice jo (up (join q (turn y.2))).length jc)) (wr.heap.size + 1) 4 (.bool false) := (Below.heap_setCell _ _ _ _ (by show wr.heap.size + 1 ≠ w.heap.size; omega)).trans ((B6.out.block _ (by omega)).trans HX10W.out)
        have c106 := hx106.cell
        have f106 := hx106.frozen
        have HX106 := hidI hx106
        clear hx106 ne10
        gi_wp2
        have gs := ghas_stop (q := q) (k := k) (pre := pre ++ [y]) hsb (by omega) HB.out HBw.out B6.out (fun k h => ⟨by have := HX.out k h; omega, (HX.out k h).2⟩) s5 HN6.out HE6.out HX76.out HX106.out HX9W.out
        exact ⟨gs.1, rfl, gs.2 y (by simp) HEq.out rfl⟩
    case done =>
      rintro D X W hD hX hsz ⟨hne, hBv⟩ hK
      have hDw := hX _ hD
      have HNo := hidI (show has n ms p = false by
        rw [← HE.out, show n - k = (n - (k + 1)) + 1 by omega]
        show hasFrom n ks q (k :: List.range' (k + 1) (n - (k + 1))) = false
        unfold hasFrom
        rw [if_neg (fun hm => by
          obtain ⟨z, hz, e⟩ := List.mem_map.1 hm
          exact hne z hz e)])
      have c10 := Boxed.cell ((hBv.block _ (by omega)).trans HX104.out : Boxed W (wr.heap.size + 1) 4 (.bool false))
      have HBd := hidI (bthen HB4.out hBv)
      have HMd := hidI (HMk.out.cons HBd.out (by omega) (by omega) hK)
      have HBB := hidI (HB.out.trans (HBd.out.mono (by omega)))
      clear SQ HX94 HX104 HX74 hD hX hne hBv hK
      go_wp2_with fail
      refine leaves_marks (D :: Ds) W HMd.out HBB.out.size (fun W' hb => ⟨_, results_tmp rfl _ _ _, by rw [HNo.out]; rfl, HBB.out.trans hb⟩)
    case stop =>
      rintro D X c pre W hD hX hsz hpre ⟨rfl, ⟨y, hy, hye, lv, hb7, hel, hlvn⟩, hx9, hx10, hbut, hsW, hBd⟩ hK
      have hDw := hX _ hD
      have c9 := hx9.cell
      have c10 := hx10.cell
      have hyR := hpre.subset hy
      obtain ⟨f1, f2, f3⟩ := (orbitW_facts h5 HK.out hlt).1 y hyR
      have HSp := hidI (show hasFrom n (leave n ks k) (join q (turn y.2)) (List.range' (k + 1) (n - (k + 1))) = has n ms p by
        rw [← HE.out, show n - k = (n - (k + 1)) + 1 by omega]
        show _ = hasFrom n ks q (k :: List.range' (k + 1) (n - (k + 1)))
        conv => rhs; unfold hasFrom
        rw [if_pos (show ap q k ∈ orbitL n ks k from List.mem_map.2 ⟨y, hyR, hye⟩)]
        rw [← hye, tag_of h5 HK.out hlt hyR])
      have HQ2 := hidI (isP_join HQ.out (isP_turn (f2.isP HK.out)))
      have HSW := hidI (HS.out W (by omega) hbut)
      have hMd : MarksOk w.heap.size (D :: Ds) W := ⟨List.nodup_cons.2 ⟨fun hm => by have := (Array.getElem?_eq_some_iff.1 (HMk.out.2 D hm).2).1; omega, HMk.out.1⟩, fun d hd => by
        rcases List.mem_cons.1 hd with rfl | hd
        · exact ⟨by omega, hK⟩
        · have h0 := HMk.out.2 d hd
          refine ⟨h0.1, (hbut d (Array.getElem?_eq_some_iff.1 h0.2).1 (fun e => ?_)).trans h0.2⟩
          have h2 := h0.2
          rw [e, show wr.heap[w.heap.size]? = _ from HXB.out] at h2
          cases h2⟩
      have HMd := hidI hMd; have HB7 := hidI hb7; have HEL := hidI hel; have HLN := hidI (fun b e => (hlvn b e).2); have HBd := hidI hBd
      clear SQ HX94 HX104 HX74 hD hX hsz hpre hy hye hb7 hel hlvn hx9 hx10 hbut hK hMd f1 f2 f3 hyR hBd
      refine wpIn_wide.2 ?_
      go_wp2_with fail
      refine (impl_leavingMoves n k ks _ W HSW.out HK.out h1 h5 hk3 hlt).mono ?_; rintro e w8 ⟨v8, rfl, h8s, b8, h8f⟩
      obtain ⟨ao8, cap8, hv8, _, _⟩ := ints_of_rows h8s
      subst hv8
      have B8 := hidI b8
      have HB78 := hidI (show Boxed w8 w.heap.size 24 lv from (b8.block _ (by omega)).trans HB7.out)
      have HRB := hidI (show RowsBut w.heap.size w8 (.slice ao8 (leave n ks k).length cap8) ((leave n ks k).map up) from
        fun W' hs hk => h8f W' w.heap.size (by omega) hs (fun c fr e => by
          rw [show w8.heap[w.heap.size]? = _ from HB78.out] at e
          injection e with e; injection e with _ e; exact absurd e (by decide)) hk)
      clear h8s b8 h8f
      go_wp2_with fail
      refine ⟨?_, ?measure⟩
      (repeat apply Exists.intro)
      refine ⟨?rel, rfl⟩
      case rel => exact ⟨k + 1, leave n ks k, join q (turn y.2), ao8, cap8, D :: Ds, lv, rfl, by go_num, rfl, by omega, by have := (leave_lv h5 HK.out hlt).len h1 h5; omega, hidI (leave_ok h5 HK.out hlt), HQ2, HRB, HB78, hidI ⟨HEL.out.1.below B8.out, fun b e => by have := HLN.out b e; omega⟩, HSp, hidI (bthen HBd.out B8.out), hidI (HMd.out.below B8.out)⟩
      case measure => simp [intOf]; omega
end Go.Proofs.Ytmmggbcmailbiaa
