/- The contract of the iterator over an orbit. -/
import Derived.Test.YtmmggbcmailbiaaGI
import Derived.Test.YtmmggbcmailbiaaGA
namespace Go.Proofs.Ytmmggbcmailbiaa
open Go.RowKit Grp

def encO (y : Nat × Pm) (v : Value) : Array Value := #[.int .i64 (y.1 : Nat), v]
def rdO (w : World) (v : Value) (y : Nat × Pm) : Prop := IntS w v (up y.2)

/-- All that lay in w lies in w' as it lay. -/
structure SameTo (w w' : World) : Prop where
  size : w.heap.size ≤ w'.heap.size
  block : ∀ k, k < w.heap.size → w'.heap[k]? = w.heap[k]?

theorem SameTo.below {w w' : World} (h : SameTo w w') : Below w.heap.size w { w' with os := w.os, tape := w.tape, output := w.output } := ⟨rfl, rfl, rfl, h.size, h.block⟩
theorem SameTo.cell {w w' : World} (h : SameTo w w') {b i : Nat} {u : Value} (hb : b < w.heap.size) (hc : w.cell? ⟨b, i, none⟩ = some u) : w'.cell? ⟨b, i, none⟩ = some u := (h.below.cell (p := ⟨b, i, none⟩) hb).trans hc
theorem SameTo.ints {w w' : World} (h : SameTo w w') {v : Value} {zs : List Int} (hv : IntS w v zs) : IntS w' v zs := by
  have : IntS { w' with os := w.os, tape := w.tape, output := w.output } v zs := hv.below h.below
  exact this
theorem SameTo.rows {w w' : World} (h : SameTo w w') {v : Value} {pss : List (List Int)} (hv : IntSS w v pss) : IntSS w' v pss := by
  have : IntSS { w' with os := w.os, tape := w.tape, output := w.output } v pss := hv.below h.below
  exact this

/-- What the iterator reads. -/
def Reads (n x bp : Nat) (v : Value) (w00 w : World) : Prop :=
  w.cell? ⟨bp, 0, none⟩ = some (.int .i64 (n : Nat)) ∧ w.cell? ⟨bp + 1, 0, none⟩ = some v ∧ w.cell? ⟨bp + 2, 0, none⟩ = some (.int .i64 (x : Nat)) ∧ SameTo w00 w

theorem nextO_get {ms : List Pm} {x : Nat × Pm} {j : Nat} {m : Pm} (h : ms[j]? = some m) : (nextO ms x).drop j = (ap m x.1, join x.2 m) :: (nextO ms x).drop (j + 1) := by
  have hl : j < (nextO ms x).length := by unfold nextO; rw [List.length_map]; exact (List.getElem?_eq_some_iff.1 h).1
  rw [List.drop_eq_getElem_cons hl]
  congr 1
  have e : (nextO ms x)[j]? = some (ap m x.1, join x.2 m) := by unfold nextO; rw [List.getElem?_map, h]; rfl
  exact (List.getElem?_eq_some_iff.1 e).2
theorem addsO_next {ms : List Pm} {x : Nat × Pm} {j : Nat} {m : Pm} (h : ms[j]? = some m) (L : NP) : adds L ((nextO ms x).drop j) = adds (addK L (ap m x.1, join x.2 m)) ((nextO ms x).drop (j + 1)) := by
  rw [nextO_get h]; rfl
theorem addsO_end {ms : List Pm} {x : Nat × Pm} {j : Nat} (h : ms.length ≤ j) (L : NP) : adds L ((nextO ms x).drop j) = L := by
  rw [List.drop_eq_nil_of_le (by unfold nextO; rw [List.length_map]; exact h)]; rfl
theorem bfsO_next {next : Nat × Pm → NP} {k : Nat} {L : NP} {x : Nat × Pm} (h : L[k]? = some x) (hk : k < fuelW) : bfs next (fuelW - k) k L = bfs next (fuelW - (k + 1)) (k + 1) (adds L (next x)) := by
  rw [show fuelW - k = (fuelW - (k + 1)) + 1 by omega]
  conv => lhs; unfold bfs
  rw [h]
theorem bfsO_end {next : Nat × Pm → NP} {f k : Nat} {L : NP} (h : L.length ≤ k) : bfs next f k L = L := by
  cases f with
  | zero => rfl
  | succ f => unfold bfs; rw [List.getElem?_eq_none h]

theorem bit_eq0v (S Z : Nat) (hS : S < 32) : (bits .and .i64 ((S : Int) / 2 ^ Z) 1 == 0) = !S.testBit Z := by
  have h1 : ((S : Int) / 2 ^ Z) = ((S / 2 ^ Z : Nat) : Int) := by simp
  have h2 : S / 2 ^ Z ≤ S := Nat.div_le_self _ _
  rw [h1, show (1 : Int) = ((1 : Nat) : Int) from rfl, and_i64 _ _ (by omega) (by omega), bit_is]
  by_cases h : S.testBit Z = true
  · rw [if_pos h, h]; rfl
  · rw [if_neg h]; simp at h; rw [h]; rfl

/-- The beginning: one place is found. -/
theorem ost_start {n x X0 : Nat} {A : Nat → Prop} {w0 W w2 : World} {u : Value} (h0 : X0 = 2 ^ x) (h1 : 1 ≤ n) (h5 : n ≤ 5) (hx : x < n) (hb : Below w0.heap.size w0 W) (hA : ∀ k, A k → k < w0.heap.size)
    (o2 : w2.ownsRow (W.heap.size + 1) 3 1 u (up (idP n)).length ((up (idP n)).map (Value.int .i64))) (b2 : Below (W.heap.size + 1) (W.alloc (.cells #[.int .i64 (x : Nat)] 3)) w2) :
    OSt n W.heap.size A w0 [(x, idP n)] (more (fun _ => False) W (w2.alloc (.cells #[u] 24))) W.heap.size 1 w2.heap.size 1 X0 [u] (w2.alloc (.cells #[u] 24)) := by
  have s0 : (W.alloc (.cells #[.int .i64 (x : Nat)] 3)).heap.size = W.heap.size + 1 := by simp
  have s2 := b2.size
  have hub : ∀ k, u.ownBlock = some k → W.heap.size + 1 ≤ k ∧ k < w2.heap.size := fun k e => by
    rcases o2.2 with ⟨rfl, _⟩ | ⟨g, cap, cur, rfl, h4, h5', _⟩
    · cases e
    · injection e with e; subst e; exact ⟨h4, (Array.getElem?_eq_some_iff.1 h5').1⟩
  have sA : (w2.alloc (.cells #[u] 24)).heap.size = w2.heap.size + 1 := by simp
  have hin : ∀ k, W.heap.size ≤ k → k < w2.heap.size + 1 → more (fun _ => False) W (w2.alloc (.cells #[u] 24)) k := fun k h h' => .inr ⟨h, by rw [sA]; exact h'⟩
  have ba : Below w2.heap.size w2 (w2.alloc (.cells #[u] 24)) := (Below.refl _ _).alloc (Nat.le_refl _) _
  refine { found := ?_, brings := ?_, xf := hin _ (Nat.le_refl _) (by omega), xb := hin _ (by omega) (by omega), xu := ?_, ne := by omega, du := ?_, from_ := ?_, seen := ?_, ok := ?_, nodup := by simp, a := ?_, sz := ⟨hb.size, by rw [sA]; omega⟩ }
  · have hfb : ∀ k, (Value.slice (some ⟨W.heap.size, 0, none⟩) 1 1).ownBlock = some k → w2.heap[k]? = (W.alloc (.cells #[.int .i64 (x : Nat)] 3)).heap[k]? := by
      intro k e
      have e' : W.heap.size = k := by injection e
      exact b2.block _ (by omega)
    exact own_below (own_block (own_one W (.int .i64 (x : Nat)) 3) hfb) ba
  · exact (RowsOwn.one w2 u (up (idP n)) (El.ofOwn o2 (up_I64 (isP_id n) h5))).base (by omega)
  · intro v hv k e
    rw [List.mem_singleton.1 hv] at e
    have := hub k e
    exact hin k (by omega) (by omega)
  · intro v hv e
    rw [List.mem_singleton.1 hv] at e
    have := hub _ e
    omega
  · rintro k (h | h)
    · exact h.elim
    · exact h
  · intro y
    rw [h0, Nat.testBit_two_pow]; simp [eq_comm]
  · intro z hz
    rw [List.mem_singleton.1 hz]; exact ⟨hx, isP_id n⟩
  · intro k hk
    have hk0 := hA k hk
    have := hb.size
    rw [ba.block k (by omega), b2.block k (by omega), Below.heap_alloc _ _ _ (by omega)]
    exact hb.block k hk0

set_option maxRecDepth 100000 in
set_option maxHeartbeats 4000000 in
theorem orbit_seq (nn n x bp : Nat) (ms : List Pm) (v : Value) (A : Nat → Prop) (w00 w0 : World) (hss : IntSS w00 v (ms.map up)) (h1 : 1 ≤ n) (h5 : n ≤ 5) (h3 : ms.length ≤ 1000) (hm : OkM n ms) (hx : x < n) (hA : ∀ k, A k → k < w0.heap.size)
    (hR : ∀ w, w0.heap.size ≤ w.heap.size → (∀ k, A k → w.heap[k]? = w0.heap[k]?) → Reads n x bp v w00 w) :
    SeqX nn Try.prog 90 #[.pointer (some ⟨bp + 2, 0, none⟩), .pointer (some ⟨bp, 0, none⟩), .pointer (some ⟨bp + 1, 0, none⟩)] encO rdO (orbitW n ms x) A w0 := by
  intro l J Jx W hb hJ hJx hY h0
  refine callsIn_wide.2 ?_
  show Calls Try.prog 90 #[.func (.yield l) #[] #[], .pointer (some ⟨bp + 2, 0, none⟩), .pointer (some ⟨bp, 0, none⟩), .pointer (some ⟨bp + 1, 0, none⟩)] W _
  have HR := hidI hR; have HY := hidI hY; have HJ := hidI hJ; have HJx := hidI hJx; have HM := hidI hm; have HB := hidI hb
  obtain ⟨c0, c1, c2, -⟩ := hR W hb.size (fun k hk => hb.block k (hA k hk))
  have HSS := hidI hss; have HA := hidI hA; have H0 := hidI h0
  obtain ⟨ao, cap, hv, hcap, hmax⟩ := ints_of_rows hss
  subst hv
  unfold maxLen at hmax
  clear hR hY hJ hJx hm hb hA h0 hss
  have hbp := World.block_lt_of_cell? W _ c2
  have hbp0 := World.block_lt_of_cell? W _ c0
  have c0' : (W.alloc (.cells #[.int .i64 (x : Nat)] 3)).cell? ⟨bp, 0, none⟩ = some (.int .i64 (n : Nat)) := cell_old hbp0 c0
  have s0 : (W.alloc (.cells #[.int .i64 (x : Nat)] 3)).heap.size = W.heap.size + 1 := by simp
  have b0 := hidI ((Below.refl W.heap.size W).alloc (Nat.le_refl _) (.cells #[.int .i64 (x : Nat)] 3))
  have F0 := hidI (own_one W (.int .i64 (x : Nat)) 3)
  go_enter Try.func90, Try.ntmps90
  go_wp2_with fail
  refine (impl_PermNone n _ h1 h5).mono ?_; rintro e w2 ⟨v0, rfl, o2, b2⟩
  rw [s0] at b2 o2
  have E2 := hidI (El.ofOwn o2 (up_I64 (isP_id n) h5))
  obtain ⟨_, no, nc, hv0, _⟩ := id E2.out.1
  subst hv0
  have hs2 := b2.size
  have c2' := cell_old (w := w2) (o := .cells #[.slice no (up (idP n)).length nc] 24) (by omega) ((b2.cell (p := ⟨bp + 2, 0, none⟩) (Nat.lt_succ_of_lt hbp)).trans (cell_old (o := .cells #[.int .i64 (x : Nat)] 3) hbp c2))
  have hsx := shl1 (n := x) (by omega)
  have hpx := pow_lt32 (n := x) (by omega)
  have HST := hidI (ost_start (X0 := 2 ^ x) (A := A) (w0 := w0) rfl h1 h5 hx HB.out HA.out o2 b2)
  obtain ⟨P, hP⟩ : ∃ P : Nat, P = 2 ^ x := ⟨_, rfl⟩
  rw [← hP] at hsx hpx HST
  have HMV := hidI (Moves.of_below (X := fun _ => False) (((Below.refl W.heap.size W).alloc (Nat.le_refl _) (.cells #[.int .i64 (x : Nat)] 3)).trans ((b2.alloc (by omega) (.cells #[.slice no (up (idP n)).length nc] 24)).mono (by omega))))
  clear hP o2 b2 c0' c0 c2 c1 E2
  go_wp2_with fail
  go_loopw [5, 6, 7, 8] (fun vf vb vs va wr => ∃ (k : Nat) (L : NP) (X : Nat → Prop) (gf cf gb cb S : Nat) (us : List Value), vf = .slice (some ⟨gf, 0, none⟩) L.length cf ∧ vb = .slice (some ⟨gb, 0, none⟩) L.length cb ∧ vs = .int .i64 (S : Nat) ∧ va = .int .i64 (k : Nat) ∧ k ≤ L.length ∧
    Hid (OSt n W.heap.size A w0 L X gf cf gb cb S us wr) ∧ Hid (J (L.take k) X wr) ∧ Hid (bfs (nextO ms) (fuelW - k) k L = orbitW n ms x)) (fun _ _ _ va _ => 6 - (intOf va).toNat)
  case atStart => exact ⟨0, [(x, idP n)], _, _, _, _, _, P, _, rfl, rfl, by rw [hsx], rfl, by simp, HST, hidI (HJ.out _ _ _ _ (fun _ h => h.elim) (Nat.le_refl _) H0.out HMV.out), hidI rfl⟩
  case round =>
    clear HST HMV H0 hsx hpx P
    obtain ⟨k, L, X, gf, cf, gb, cb, S, us, rfl, rfl, rfl, rfl, hk, HO, HJs, HE⟩ := hrel
    by_cases hlt : k < L.length
    rotate_left
    · have hEnd := hidI (show L = orbitW n ms x by rw [← HE.out]; exact (bfsO_end (by omega)).symm)
      have hkI : ¬ (k : Int) < (L.length : Int) := by omega
      have hkl : k = L.length := by omega
      have HJe := hidI (show J (orbitW n ms x) X wr by have := HJs.out; rw [hkl, List.take_length, hEnd.out] at this; exact this)
      clear hkl
      go_wp2_with fail
      go_end0
      exact ⟨⟨_, rfl⟩, X, HO.out.from_, HO.out.sz.2, .inl HJe.out⟩
    obtain ⟨y, hy0⟩ : ∃ y, L[k]? = some y := ⟨_, List.getElem?_eq_getElem hlt⟩
    have hkI : (k : Int) < (L.length : Int) := by omega
    have HYk := hidI hy0
    have hl5 := HO.out.len h5
    have HOd := hidI (HO.out.round (w' := wr.drew) ⟨Nat.le_refl _, fun _ _ => rfl⟩)
    have HJd := hidI (show J (L.take k) X wr.drew by
      have := HJ.out _ X wr wr.drew HO.out.from_ HO.out.sz.2 HJs.out ⟨rfl, rfl, rfl, Nat.le_refl _, fun _ _ _ => rfl⟩
      rwa [show more X wr wr.drew = X from more_same rfl] at this)
    have e1 : wr.drew.cell? ⟨gf, k, none⟩ = some (.int .i64 (y.1 : Nat)) := (own_cell HOd.out.found (by unfold numsOf; rw [List.getElem?_map, hy0]; rfl)).1
    have hbk : (bringsOf L)[k]? = some (up y.2) := by unfold bringsOf; rw [List.getElem?_map, hy0]; rfl
    have hbr := HOd.out.brings
    rw [← bringsOf_len L] at hbr
    obtain ⟨uk, huk, e2, he2⟩ := hbr.at hbk
    have HE2 := hidI he2
    obtain ⟨_, yo, yc, huv, _⟩ := id he2.1
    subst huv
    have lf := own_lt HO.out.found
    have lb := HO.out.brings.lt (bringsOf_len L).symm
    obtain ⟨lf1, lf2, lf3, lf4⟩ := lf
    obtain ⟨lb1, lb2, lb3, lb4⟩ := lb
    unfold maxLen at lf4 lb4
    have hpre : L.take k ++ [y] <+: orbitW n ms x := by
      rw [← take_snoc' hy0, ← HE.out]
      exact (List.take_prefix _ _).trans (bfs_pre _ _ _ _)
    obtain ⟨fn, tmps, assign, body, hyr, hRr⟩ := HY.out _ y (.slice yo (up y.2).length yc) X wr.drew HJd.out hpre he2.1 (HOd.out.xu _ (List.mem_of_getElem? huk)) HOd.out.from_ HOd.out.sz.2
    have HRr := hidI hRr
    unfold encO at hyr
    have HPRE := hidI hpre
    clear he2 huk hbr hbk hy0 hRr hpre HJd HJs HO
    go_wp2_with fail
    refine (wpIn_wide (n := nn)).1 ?_
    refine wpIn_region_any (by kernel_rfl) ?_
    change wpAnyIn _ _ _ _ _ _ _ _ _ (World.drew _)
    refine takeI (i := 0) (v := ?_) 25 rfl rfl (by kernel_rfl) (by kernel_rfl) (by kernel_rfl) (fun _ _ _ h => h) ⟨Or.inl ⟨by rfl, ?_⟩, fun _ => rfl⟩ ?_
    rotate_left
    · intro w; go_simp; try with_reducible rfl
    (try simp only [Act.put, List.setIfInBounds_toArray, List.set_cons_zero, List.set_cons_succ])
    refine takeI (i := 1) (v := ?_) 26 rfl rfl (by kernel_rfl) (by kernel_rfl) (by kernel_rfl) (fun _ _ _ h => h) ⟨Or.inl ⟨by rfl, ?_⟩, fun _ => rfl⟩ ?_
    rotate_left
    · intro w; go_simp; try with_reducible rfl
    (try simp only [Act.put, List.setIfInBounds_toArray, List.set_cons_zero, List.set_cons_succ])
    refine takeI (i := 2) (v := ?_) 27 rfl rfl (by kernel_rfl) (by kernel_rfl) (by kernel_rfl) (fun _ _ _ h => h) ⟨Or.inl ⟨by rfl, ?_⟩, fun _ => rfl⟩ ?_
    rotate_left
    · intro w; go_simp; try with_reducible rfl
    (try simp only [Act.put, List.setIfInBounds_toArray, List.set_cons_zero, List.set_cons_succ])
    refine takeI (i := 3) (v := ?_) 28 rfl rfl (by kernel_rfl) (by kernel_rfl) (by kernel_rfl) (fun _ _ _ h => h) ⟨Or.inl ⟨by rfl, ?_⟩, fun _ => rfl⟩ ?_
    rotate_left
    · intro w; go_simp; try with_reducible rfl
    (try simp only [Act.put, List.setIfInBounds_toArray, List.set_cons_zero, List.set_cons_succ])
    refine takeI (i := 5) (v := ?_) 30 rfl rfl (by kernel_rfl) (by kernel_rfl) (by kernel_rfl) (fun _ _ _ h => h) ⟨Or.inl ⟨by rfl, ?_⟩, fun _ => rfl⟩ ?_
    rotate_left
    · intro w; go_simp; try with_reducible rfl
    (try simp only [Act.put, List.setIfInBounds_toArray, List.set_cons_zero, List.set_cons_succ])
    refine takeI (i := 6) (v := ?_) 31 rfl rfl (by kernel_rfl) (by kernel_rfl) (by kernel_rfl) (fun _ _ _ h => h) ⟨Or.inl ⟨by rfl, ?_⟩, fun _ => rfl⟩ ?_
    rotate_left
    · intro w; go_simp; try with_reducible rfl
    (try simp only [Act.put, List.setIfInBounds_toArray, List.set_cons_zero, List.set_cons_succ])
    refine takeI (i := 7) (v := ?_) 32 rfl rfl (by kernel_rfl) (by kernel_rfl) (by kernel_rfl) (fun _ _ _ h => h) ⟨Or.inl ⟨by rfl, ?_⟩, fun _ => rfl⟩ ?_
    rotate_left
    · intro w; go_simp; try with_reducible rfl
    (try simp only [Act.put, List.setIfInBounds_toArray, List.set_cons_zero, List.set_cons_succ])
    refine wpAnyIn_ready (rs := [4, 8]) (by kernel_rfl) (by simp) ?_
    refine AllReadyIn.cons rfl (fun K hK => ?_) (AllReadyIn.cons rfl (fun K hK => ?_) AllReadyIn.nil)
    · go_simp
      refine hK _ _ ?_; clear hK K
      refine wpAnyIn_ready (rs := [8]) (by kernel_rfl) (by simp) ?_
      refine AllReadyIn.cons rfl (fun K hK => ?_) AllReadyIn.nil
      go_simp
      refine hK _ _ ?_; clear hK K
      refine wpAnyIn_ready (rs := [9]) (by kernel_rfl) (by simp) ?_
      refine AllReadyIn.cons rfl (fun K hK => ?_) AllReadyIn.nil
      go_simp
      refine ⟨fun h => (by cases h), HRr.out.mono ?_⟩; rintro e W3 (⟨rfl, hj, hk⟩ | ⟨rfl, hj, hk⟩)
      rotate_left
      · have HJe := hidI hj
        have hsW := HOd.out.sz.2
        have hFX := HOd.out.from_.size hk
        refine hK _ _ ?_; clear hK K
        refine wpAnyIn_ready (rs := [10]) (by kernel_rfl) (by simp) ?_
        refine AllReadyIn.cons rfl (fun K hK => ?_) AllReadyIn.nil
        go_simp
        refine hK _ _ ?_; clear hK K
        refine wpAnyIn_done (by kernel_rfl) ?_ _
        go_wp2_with fail
        refine bodyPost_ret (results_none rfl _ _ _) rfl ?_
        exact ⟨⟨_, rfl⟩, X, hFX, by omega, .inr ⟨_, HPRE.out, HJe.out⟩⟩
      have HO3 := hidI (HOd.out.round hk)
      have HJ3 := hidI (show J (L.take (k + 1)) X W3 by rw [take_snoc' HYk.out]; exact hj)
      refine hK _ _ ?_; clear hK K hj hk e1 e2 hyr
      refine wpAnyIn_ready (rs := [10]) (by kernel_rfl) (by simp) ?_
      refine AllReadyIn.cons rfl (fun K hK => ?_) AllReadyIn.nil
      go_simp
      refine hK _ _ ?_; clear hK K
      refine wpAnyIn_done (by kernel_rfl) ?_ _
      obtain ⟨-, c1, -, -⟩ := HR.out W3 (Nat.le_trans HO3.out.sz.1 HO3.out.sz.2) HO3.out.a
      have HNX := hidI (bfsO_next (next := nextO ms) HYk.out (show k < fuelW by unfold fuelW; omega))
      go_wp2_with fail
      clear c1 HOd HRr
      go_loopw [5, 6, 7, 38] (fun vf vb vs vj wr => ∃ (j : Nat) (M : NP) (X : Nat → Prop) (gf cf gb cb S : Nat) (us : List Value), vf = .slice (some ⟨gf, 0, none⟩) M.length cf ∧ vb = .slice (some ⟨gb, 0, none⟩) M.length cb ∧ vs = .int .i64 (S : Nat) ∧ vj = .int .i64 (j : Nat) ∧ j ≤ ms.length ∧ k < M.length ∧
        Hid (OSt n W.heap.size A w0 M X gf cf gb cb S us wr) ∧ Hid (J (M.take (k + 1)) X wr) ∧ Hid (M[k]? = some y) ∧ Hid (adds M ((nextO ms y).drop j) = adds L (nextO ms y))) (fun _ _ _ vj _ => ms.length - (intOf vj).toNat)
      case atStart => exact ⟨0, L, X, gf, cf, gb, cb, S, us, rfl, rfl, rfl, rfl, by omega, hlt, HO3, HJ3, HYk, hidI rfl⟩
      case round =>
        clear HO3 HJ3 lf1 lf2 lf3 lf4 lb1 lb2 lb3 lb4
        obtain ⟨j, M, X, gf, cf, gb, cb, S, us, rfl, rfl, rfl, rfl, hj, hkM, HO, HJs, HMk, HAd⟩ := hrel
        by_cases hjl : j < ms.length
        rotate_left
        · have hEnd := hidI (show M = adds L (nextO ms y) by rw [← HAd.out]; exact (addsO_end (by omega) M).symm)
          have hjI : ¬ (j : Int) < (ms.length : Int) := by omega
          go_wp2_with fail
          go_roundw
          case rel => exact ⟨k + 1, M, X, gf, cf, gb, cb, S, us, rfl, rfl, rfl, by go_num, by omega, HO, HJs, hidI (by rw [hEnd.out, ← HNX.out]; exact HE.out)⟩
          case measure => simp [intOf]; omega
        obtain ⟨m, hm⟩ : ∃ m, ms[j]? = some m := ⟨_, List.getElem?_eq_getElem hjl⟩
        have hjI : (j : Int) < (ms.length : Int) := by omega
        have HMP := hidI (HM.out m (List.mem_of_getElem? hm))
        obtain ⟨b, off, um, hao, hb, hcm, hum⟩ := IntSS.at HSS.out hm
        subst hao
        obtain ⟨-, -, -, hst⟩ := HR.out wr (Nat.le_trans HO.out.sz.1 HO.out.sz.2) HO.out.a
        have ecm := hst.cell hb hcm
        have humw := hst.ints hum
        obtain ⟨bm, om, cm, rfl, hm1, hm2, hbm, hcu⟩ := up_cells humw HMP.out h1
        unfold maxLen at hm2
        have HUM0 := hidI hum; have HUM := hidI humw
        have hyn := (HO.out.ok y (List.mem_of_getElem? HMk.out)).1
        have HYP := hidI (HO.out.ok y (List.mem_of_getElem? HMk.out)).2
        have eto := hcu y.1 hyn
        have htn := ap_lt HMP.out hyn
        have ef : wr.cell? ⟨gf, k, none⟩ = some (.int .i64 (y.1 : Nat)) := (own_cell HO.out.found (by unfold numsOf; rw [List.getElem?_map, HMk.out]; rfl)).1
        have hkMI : (k : Int) < (M.length : Int) := by omega
        have hynI : (y.1 : Int) < (n : Int) := by omega
        have lf := own_lt HO.out.found
        have lb := HO.out.brings.lt (bringsOf_len M).symm
        obtain ⟨lf1, lf2, lf3, lf4⟩ := lf
        obtain ⟨lb1, lb2, lb3, lb4⟩ := lb
        unfold maxLen at lf4 lb4
        have hM5 := HO.out.len h5
        have hS := HO.out.S h5
        have HADD := hidI (addsO_next (x := y) hm M)
        obtain ⟨t, ht⟩ : ∃ t, t = ap m y.1 := ⟨_, rfl⟩
        rw [← ht] at eto htn HADD
        have HT := hidI ht
        have hbe := bit_eq0v S t hS
        clear hcu hm hum humw hcm hst ht
        cases hbt : S.testBit t
        rotate_left
        · rw [hbt] at hbe
          have HADD' := hidI (show adds M ((nextO ms y).drop (j + 1)) = adds L (nextO ms y) by rw [← HAd.out, HADD.out]; unfold addK; rw [if_pos ((HO.out.seen t).1 hbt)])
          simp only [Bool.not_true] at hbe
          clear hbt
          go_wp2_with fail
          go_roundw
          case rel => exact ⟨j + 1, M, X, gf, cf, gb, cb, S, us, rfl, rfl, rfl, by go_num, by omega, hkM, HO, HJs, HMk, HADD'⟩
          case measure => simp [intOf]; omega
        rw [hbt] at hbe
        simp only [Bool.not_false] at hbe
        have hnot : t ∉ M.map Prod.fst := fun h => by rw [(HO.out.seen t).2 h] at hbt; cases hbt
        have HADD' := hidI (show adds (M ++ [(t, join y.2 m)]) ((nextO ms y).drop (j + 1)) = adds L (nextO ms y) by rw [← HAd.out, HADD.out]; unfold addK; rw [if_neg hnot])
        have HNOT := hidI hnot
        have hs1 := shl1 (n := t) (by omega)
        have hp32 := pow_lt32 (n := t) (by omega)
        have hor := or_i64 S (2 ^ t) (by omega) (by omega)
        have hbk : (bringsOf M)[k]? = some (up y.2) := by unfold bringsOf; rw [List.getElem?_map, HMk.out]; rfl
        clear hbt hnot HADD HAd
        obtain ⟨P, hP⟩ : ∃ P : Nat, P = 2 ^ t := ⟨_, rfl⟩
        rw [← hP] at hs1 hp32 hor
        have HP := hidI hP; clear hP
        obtain ⟨S', hS'⟩ : ∃ S' : Nat, S' = S ||| P := ⟨_, rfl⟩
        rw [← hS'] at hor
        have HS' := hidI hS'; clear hS'
        go_wp2_with (at_builtin; refine wpList_pushI wr rfl _ _ rfl W.heap.size (.slice (some ⟨gf, 0, none⟩) M.length cf) M.length (numsOf M) (t : Int) rfl rfl HO.out.found (by omega) (by omega) ?_)
        intro g1 c1 w1 hg1 o1 gr1 l1
        have gr1 : (wr.alloc (.cells #[.int .i64 (t : Int)] 3)).grownBy w1 (some gf) := gr1
        have M1 := (Moves.alloc (X := X) wr (.cells #[.int .i64 (t : Int)] 3)).andThen (.of_grown gr1 (fun k e => by injection e with e; subst e; exact HO.out.xf))
        have hag : ∀ k, A k → w1.heap[k]? = w0.heap[k]? := fun k hk => by
          have hk0 := HA.out k hk
          have hs := HO.out.sz
          rw [M1.block k (by omega) (fun e => by have := HO.out.from_ k e; omega)]
          exact HO.out.a k hk
        obtain ⟨-, -, -, hst1⟩ := HR.out w1 (by have := M1.size; have := HO.out.sz; omega) hag
        have HUM1 := hidI (hst1.ints HUM0.out)
        have RB1 := hidI ((HO.out.brings.alloc (.cells #[.int .i64 (t : Int)] 3)).other gr1 (fun e => HO.out.ne (by injection e with e; exact e.symm)) HO.out.du)
        have hbr := RB1.out
        rw [← bringsOf_len M] at hbr
        obtain ⟨uk, huk, e2, he2⟩ := hbr.at hbk
        have HE2 := hidI he2
        obtain ⟨_, yo2, yc2, huv2, _⟩ := id he2.1
        subst huv2
        have sw1 := M1.size
        have O1 := hidI o1; have GR1 := hidI gr1; have L1 := hidI l1
        clear he2 huk hbr hbk hst1 hag M1 o1 gr1 l1 ecm eto ef
        go_wp2_with fail
        refine (impl_permJoin n y.2 m _ _ w1 HE2.out.1 HUM1.out HYP.out HMP.out h1 h5).mono ?_; rintro e w5 ⟨v5, rfl, o5, b5⟩
        have EN := hidI (El.ofOwn o5 (up_I64 (isP_join HYP.out HMP.out) h5))
        obtain ⟨_, no5, nc5, hv5, _⟩ := id EN.out.1
        subst hv5
        have O5 := hidI o5; have B5 := hidI b5; have sw5 := b5.size
        have RB5 := hidI (RB1.out.below b5)
        clear o5 b5 e2
        go_wp2_with (at_builtin; refine wpList_pushR w5 rfl _ _ rfl W.heap.size (.slice (some ⟨gb, 0, none⟩) M.length cb) us (bringsOf M) (.slice no5 (up (join y.2 m)).length nc5) (up (join y.2 m)) rfl rfl RB5.out EN.out (by rw [bringsOf_len]; omega) (by omega) ?_)
        intro g3 c3 w3 hg3 rp3 _ gr3 l3
        rw [bringsOf_len] at rp3 ⊢
        have gr3 : (w5.alloc (.cells #[.slice no5 (up (join y.2 m)).length nc5] 24)).grownBy w3 (some gb) := gr3
        obtain ⟨hMV, hO3⟩ := OSt.add (y := (t, join y.2 m)) HO.out HA.out ⟨htn, isP_join HYP.out HMP.out⟩ HNOT.out h5 O1.out GR1.out (L1.out.imp (fun e => by injection e) id) O5.out B5.out rp3 gr3 (l3.imp (fun e => by injection e) id)
        have HO3 := hidI hO3
        have HJ3 := hidI (show J ((M ++ [(t, join y.2 m)]).take (k + 1)) (more X wr w3) w3 by
          rw [List.take_append_of_le_length (by omega)]
          exact HJ.out _ X wr w3 HO.out.from_ HO.out.sz.2 HJs.out hMV)
        have HMk' := hidI (show (M ++ [(t, join y.2 m)])[k]? = some y by rw [List.getElem?_append_left hkM]; exact HMk.out)
        clear rp3 gr3 l3 hMV hO3 RB1 RB5 HO HJs
        go_wp2_with fail
        go_roundw
        case rel => exact ⟨j + 1, M ++ [(t, join y.2 m)], more X wr w3, g1, c1, g3, c3, S', us ++ [.slice no5 (up (join y.2 m)).length nc5], by rw [List.length_append]; rfl, by rw [List.length_append]; rfl, rfl, by go_num, by omega, by rw [List.length_append]; omega, hidI (by rw [HS'.out, HP.out]; exact HO3.out), HJ3, HMk', HADD'⟩
        case measure => simp [intOf]; omega
    · go_simp
      refine hK _ _ ?_; clear hK K
      refine wpAnyIn_ready (rs := [4]) (by kernel_rfl) (by simp) ?_
      refine AllReadyIn.cons rfl (fun K hK => ?_) AllReadyIn.nil
      go_simp
      refine hK _ _ ?_; clear hK K
      refine wpAnyIn_ready (rs := [9]) (by kernel_rfl) (by simp) ?_
      refine AllReadyIn.cons rfl (fun K hK => ?_) AllReadyIn.nil
      go_simp
      refine ⟨fun h => (by cases h), HRr.out.mono ?_⟩; rintro e W3 (⟨rfl, hj, hk⟩ | ⟨rfl, hj, hk⟩)
      rotate_left
      · have HJe := hidI hj
        have hsW := HOd.out.sz.2
        have hFX := HOd.out.from_.size hk
        refine hK _ _ ?_; clear hK K
        refine wpAnyIn_ready (rs := [10]) (by kernel_rfl) (by simp) ?_
        refine AllReadyIn.cons rfl (fun K hK => ?_) AllReadyIn.nil
        go_simp
        refine hK _ _ ?_; clear hK K
        refine wpAnyIn_done (by kernel_rfl) ?_ _
        go_wp2_with fail
        refine bodyPost_ret (results_none rfl _ _ _) rfl ?_
        exact ⟨⟨_, rfl⟩, X, hFX, by omega, .inr ⟨_, HPRE.out, HJe.out⟩⟩
      have HO3 := hidI (HOd.out.round hk)
      have HJ3 := hidI (show J (L.take (k + 1)) X W3 by rw [take_snoc' HYk.out]; exact hj)
      refine hK _ _ ?_; clear hK K hj hk e1 e2 hyr
      refine wpAnyIn_ready (rs := [10]) (by kernel_rfl) (by simp) ?_
      refine AllReadyIn.cons rfl (fun K hK => ?_) AllReadyIn.nil
      go_simp
      refine hK _ _ ?_; clear hK K
      refine wpAnyIn_done (by kernel_rfl) ?_ _
      obtain ⟨-, c1, -, -⟩ := HR.out W3 (Nat.le_trans HO3.out.sz.1 HO3.out.sz.2) HO3.out.a
      have HNX := hidI (bfsO_next (next := nextO ms) HYk.out (show k < fuelW by unfold fuelW; omega))
      go_wp2_with fail
      clear c1 HOd HRr
      go_loopw [5, 6, 7, 38] (fun vf vb vs vj wr => ∃ (j : Nat) (M : NP) (X : Nat → Prop) (gf cf gb cb S : Nat) (us : List Value), vf = .slice (some ⟨gf, 0, none⟩) M.length cf ∧ vb = .slice (some ⟨gb, 0, none⟩) M.length cb ∧ vs = .int .i64 (S : Nat) ∧ vj = .int .i64 (j : Nat) ∧ j ≤ ms.length ∧ k < M.length ∧
        Hid (OSt n W.heap.size A w0 M X gf cf gb cb S us wr) ∧ Hid (J (M.take (k + 1)) X wr) ∧ Hid (M[k]? = some y) ∧ Hid (adds M ((nextO ms y).drop j) = adds L (nextO ms y))) (fun _ _ _ vj _ => ms.length - (intOf vj).toNat)
      case atStart => exact ⟨0, L, X, gf, cf, gb, cb, S, us, rfl, rfl, rfl, rfl, by omega, hlt, HO3, HJ3, HYk, hidI rfl⟩
      case round =>
        clear HO3 HJ3 lf1 lf2 lf3 lf4 lb1 lb2 lb3 lb4
        obtain ⟨j, M, X, gf, cf, gb, cb, S, us, rfl, rfl, rfl, rfl, hj, hkM, HO, HJs, HMk, HAd⟩ := hrel
        by_cases hjl : j < ms.length
        rotate_left
        · have hEnd := hidI (show M = adds L (nextO ms y) by rw [← HAd.out]; exact (addsO_end (by omega) M).symm)
          have hjI : ¬ (j : Int) < (ms.length : Int) := by omega
          go_wp2_with fail
          go_roundw
          case rel => exact ⟨k + 1, M, X, gf, cf, gb, cb, S, us, rfl, rfl, rfl, by go_num, by omega, HO, HJs, hidI (by rw [hEnd.out, ← HNX.out]; exact HE.out)⟩
          case measure => simp [intOf]; omega
        obtain ⟨m, hm⟩ : ∃ m, ms[j]? = some m := ⟨_, List.getElem?_eq_getElem hjl⟩
        have hjI : (j : Int) < (ms.length : Int) := by omega
        have HMP := hidI (HM.out m (List.mem_of_getElem? hm))
        obtain ⟨b, off, um, hao, hb, hcm, hum⟩ := IntSS.at HSS.out hm
        subst hao
        obtain ⟨-, -, -, hst⟩ := HR.out wr (Nat.le_trans HO.out.sz.1 HO.out.sz.2) HO.out.a
        have ecm := hst.cell hb hcm
        have humw := hst.ints hum
        obtain ⟨bm, om, cm, rfl, hm1, hm2, hbm, hcu⟩ := up_cells humw HMP.out h1
        unfold maxLen at hm2
        have HUM0 := hidI hum; have HUM := hidI humw
        have hyn := (HO.out.ok y (List.mem_of_getElem? HMk.out)).1
        have HYP := hidI (HO.out.ok y (List.mem_of_getElem? HMk.out)).2
        have eto := hcu y.1 hyn
        have htn := ap_lt HMP.out hyn
        have ef : wr.cell? ⟨gf, k, none⟩ = some (.int .i64 (y.1 : Nat)) := (own_cell HO.out.found (by unfold numsOf; rw [List.getElem?_map, HMk.out]; rfl)).1
        have hkMI : (k : Int) < (M.length : Int) := by omega
        have hynI : (y.1 : Int) < (n : Int) := by omega
        have lf := own_lt HO.out.found
        have lb := HO.out.brings.lt (bringsOf_len M).symm
        obtain ⟨lf1, lf2, lf3, lf4⟩ := lf
        obtain ⟨lb1, lb2, lb3, lb4⟩ := lb
        unfold maxLen at lf4 lb4
        have hM5 := HO.out.len h5
        have hS := HO.out.S h5
        have HADD := hidI (addsO_next (x := y) hm M)
        obtain ⟨t, ht⟩ : ∃ t, t = ap m y.1 := ⟨_, rfl⟩
        rw [← ht] at eto htn HADD
        have HT := hidI ht
        have hbe := bit_eq0v S t hS
        clear hcu hm hum humw hcm hst ht
        cases hbt : S.testBit t
        rotate_left
        · rw [hbt] at hbe
          have HADD' := hidI (show adds M ((nextO ms y).drop (j + 1)) = adds L (nextO ms y) by rw [← HAd.out, HADD.out]; unfold addK; rw [if_pos ((HO.out.seen t).1 hbt)])
          simp only [Bool.not_true] at hbe
          clear hbt
          go_wp2_with fail
          go_roundw
          case rel => exact ⟨j + 1, M, X, gf, cf, gb, cb, S, us, rfl, rfl, rfl, by go_num, by omega, hkM, HO, HJs, HMk, HADD'⟩
          case measure => simp [intOf]; omega
        rw [hbt] at hbe
        simp only [Bool.not_false] at hbe
        have hnot : t ∉ M.map Prod.fst := fun h => by rw [(HO.out.seen t).2 h] at hbt; cases hbt
        have HADD' := hidI (show adds (M ++ [(t, join y.2 m)]) ((nextO ms y).drop (j + 1)) = adds L (nextO ms y) by rw [← HAd.out, HADD.out]; unfold addK; rw [if_neg hnot])
        have HNOT := hidI hnot
        have hs1 := shl1 (n := t) (by omega)
        have hp32 := pow_lt32 (n := t) (by omega)
        have hor := or_i64 S (2 ^ t) (by omega) (by omega)
        have hbk : (bringsOf M)[k]? = some (up y.2) := by unfold bringsOf; rw [List.getElem?_map, HMk.out]; rfl
        clear hbt hnot HADD HAd
        obtain ⟨P, hP⟩ : ∃ P : Nat, P = 2 ^ t := ⟨_, rfl⟩
        rw [← hP] at hs1 hp32 hor
        have HP := hidI hP; clear hP
        obtain ⟨S', hS'⟩ : ∃ S' : Nat, S' = S ||| P := ⟨_, rfl⟩
        rw [← hS'] at hor
        have HS' := hidI hS'; clear hS'
        go_wp2_with (at_builtin; refine wpList_pushI wr rfl _ _ rfl W.heap.size (.slice (some ⟨gf, 0, none⟩) M.length cf) M.length (numsOf M) (t : Int) rfl rfl HO.out.found (by omega) (by omega) ?_)
        intro g1 c1 w1 hg1 o1 gr1 l1
        have gr1 : (wr.alloc (.cells #[.int .i64 (t : Int)] 3)).grownBy w1 (some gf) := gr1
        have M1 := (Moves.alloc (X := X) wr (.cells #[.int .i64 (t : Int)] 3)).andThen (.of_grown gr1 (fun k e => by injection e with e; subst e; exact HO.out.xf))
        have hag : ∀ k, A k → w1.heap[k]? = w0.heap[k]? := fun k hk => by
          have hk0 := HA.out k hk
          have hs := HO.out.sz
          rw [M1.block k (by omega) (fun e => by have := HO.out.from_ k e; omega)]
          exact HO.out.a k hk
        obtain ⟨-, -, -, hst1⟩ := HR.out w1 (by have := M1.size; have := HO.out.sz; omega) hag
        have HUM1 := hidI (hst1.ints HUM0.out)
        have RB1 := hidI ((HO.out.brings.alloc (.cells #[.int .i64 (t : Int)] 3)).other gr1 (fun e => HO.out.ne (by injection e with e; exact e.symm)) HO.out.du)
        have hbr := RB1.out
        rw [← bringsOf_len M] at hbr
        obtain ⟨uk, huk, e2, he2⟩ := hbr.at hbk
        have HE2 := hidI he2
        obtain ⟨_, yo2, yc2, huv2, _⟩ := id he2.1
        subst huv2
        have sw1 := M1.size
        have O1 := hidI o1; have GR1 := hidI gr1; have L1 := hidI l1
        clear he2 huk hbr hbk hst1 hag M1 o1 gr1 l1 ecm eto ef
        go_wp2_with fail
        refine (impl_permJoin n y.2 m _ _ w1 HE2.out.1 HUM1.out HYP.out HMP.out h1 h5).mono ?_; rintro e w5 ⟨v5, rfl, o5, b5⟩
        have EN := hidI (El.ofOwn o5 (up_I64 (isP_join HYP.out HMP.out) h5))
        obtain ⟨_, no5, nc5, hv5, _⟩ := id EN.out.1
        subst hv5
        have O5 := hidI o5; have B5 := hidI b5; have sw5 := b5.size
        have RB5 := hidI (RB1.out.below b5)
        clear o5 b5 e2
        go_wp2_with (at_builtin; refine wpList_pushR w5 rfl _ _ rfl W.heap.size (.slice (some ⟨gb, 0, none⟩) M.length cb) us (bringsOf M) (.slice no5 (up (join y.2 m)).length nc5) (up (join y.2 m)) rfl rfl RB5.out EN.out (by rw [bringsOf_len]; omega) (by omega) ?_)
        intro g3 c3 w3 hg3 rp3 _ gr3 l3
        rw [bringsOf_len] at rp3 ⊢
        have gr3 : (w5.alloc (.cells #[.slice no5 (up (join y.2 m)).length nc5] 24)).grownBy w3 (some gb) := gr3
        obtain ⟨hMV, hO3⟩ := OSt.add (y := (t, join y.2 m)) HO.out HA.out ⟨htn, isP_join HYP.out HMP.out⟩ HNOT.out h5 O1.out GR1.out (L1.out.imp (fun e => by injection e) id) O5.out B5.out rp3 gr3 (l3.imp (fun e => by injection e) id)
        have HO3 := hidI hO3
        have HJ3 := hidI (show J ((M ++ [(t, join y.2 m)]).take (k + 1)) (more X wr w3) w3 by
          rw [List.take_append_of_le_length (by omega)]
          exact HJ.out _ X wr w3 HO.out.from_ HO.out.sz.2 HJs.out hMV)
        have HMk' := hidI (show (M ++ [(t, join y.2 m)])[k]? = some y by rw [List.getElem?_append_left hkM]; exact HMk.out)
        clear rp3 gr3 l3 hMV hO3 RB1 RB5 HO HJs
        go_wp2_with fail
        go_roundw
        case rel => exact ⟨j + 1, M ++ [(t, join y.2 m)], more X wr w3, g1, c1, g3, c3, S', us ++ [.slice no5 (up (join y.2 m)).length nc5], by rw [List.length_append]; rfl, by rw [List.length_append]; rfl, rfl, by go_num, by omega, by rw [List.length_append]; omega, hidI (by rw [HS'.out, HP.out]; exact HO3.out), HJ3, HMk', HADD'⟩
        case measure => simp [intOf]; omega

def AO (N bp : Nat) : Nat → Prop := fun k => k < N ∨ k = bp ∨ k = bp + 1 ∨ k = bp + 2

theorem rdO_put (W : World) (l : Nat) (o o' : Obj) (v : Value) (y : Nat × Pm) (hl : W.heap[l]? = some o) (ho : o.isCells = false) (h : rdO W v y) : rdO (W.putObj l o') v y := by
  obtain ⟨hz, ao, cap, rfl, h1, h2, h3⟩ := h
  refine ⟨hz, ao, cap, rfl, h1, h2, ?_⟩
  rcases h3 with h3 | ⟨b, off, rfl, h4, h5⟩
  · exact .inl h3
  · exact .inr ⟨b, off, rfl, by simp; exact h4, fun j hj => cell_kept (h5 j hj) (grownBy_putObj' W l o') (fun r e => by cases e; exact ⟨o, hl, ho⟩)⟩

/-- The iterator as its maker hands it over. -/
theorem orbit_made (nn n x : Nat) (ms : List Pm) (ao : Option Addr) (cap : Nat) (w00 wc : World) (hss : IntSS w00 (.slice ao ms.length cap) (ms.map up)) (hb : Below w00.heap.size w00 wc) (h1 : 1 ≤ n) (h5 : n ≤ 5) (h3 : ms.length ≤ 1000) (hm : OkM n ms) (hx : x < n)
    (w0 : World) (hw0 : w0 = ((wc.alloc (.cells #[.int .i64 (n : Nat)] 3)).alloc (.cells #[.slice ao ms.length cap] 23)).alloc (.cells #[.int .i64 (x : Nat)] 3)) :
    SeqX nn Try.prog 90 #[.pointer (some ⟨wc.heap.size + 2, 0, none⟩), .pointer (some ⟨wc.heap.size, 0, none⟩), .pointer (some ⟨wc.heap.size + 1, 0, none⟩)] encO rdO (orbitW n ms x) (AO w00.heap.size wc.heap.size) w0 := by
  have s0 : w0.heap.size = wc.heap.size + 3 := by rw [hw0]; simp
  have hs := hb.size
  have e0 : w0.heap[wc.heap.size]? = some (.cells #[.int .i64 (n : Nat)] 3) := by
    rw [hw0, Below.heap_alloc _ _ _ (by simp; omega), Below.heap_alloc _ _ _ (by simp)]; exact World.alloc_heap_new _ _
  have e1 : w0.heap[wc.heap.size + 1]? = some (.cells #[.slice ao ms.length cap] 23) := by
    rw [hw0, Below.heap_alloc _ _ _ (by simp)]; have := World.alloc_heap_new (wc.alloc (.cells #[.int .i64 (n : Nat)] 3)) (.cells #[.slice ao ms.length cap] 23); rwa [World.size_alloc] at this
  have e2 : w0.heap[wc.heap.size + 2]? = some (.cells #[.int .i64 (x : Nat)] 3) := by
    rw [hw0]; have := World.alloc_heap_new ((wc.alloc (.cells #[.int .i64 (n : Nat)] 3)).alloc (.cells #[.slice ao ms.length cap] 23)) (.cells #[.int .i64 (x : Nat)] 3); simpa using this
  have hlow : ∀ k, k < w00.heap.size → w0.heap[k]? = w00.heap[k]? := fun k hk => by
    rw [hw0, Below.heap_alloc _ _ _ (by simp; omega), Below.heap_alloc _ _ _ (by simp; omega), Below.heap_alloc _ _ _ (by omega)]
    exact hb.block k hk
  refine orbit_seq nn n x wc.heap.size ms _ _ w00 w0 hss h1 h5 h3 hm hx ?_ ?_
  · rintro k (h | h | h | h) <;> omega
  · intro w hsz ha
    refine ⟨?_, ?_, ?_, by omega, fun k hk => (ha k (.inl hk)).trans (hlow k hk)⟩
    · exact (World.cell?_of_block (a := ⟨wc.heap.size, 0, none⟩) (ha _ (.inr (.inl rfl)))).trans (Boxed.cell e0)
    · exact (World.cell?_of_block (a := ⟨wc.heap.size + 1, 0, none⟩) (ha _ (.inr (.inr (.inl rfl))))).trans (Boxed.cell e1)
    · exact (World.cell?_of_block (a := ⟨wc.heap.size + 2, 0, none⟩) (ha _ (.inr (.inr (.inr rfl))))).trans (Boxed.cell e2)
end Go.Proofs.Ytmmggbcmailbiaa
