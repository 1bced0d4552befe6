/- groupWords of the program. -/
import Derived.Test.YtmmggbcmailbiaaGJ
namespace Go.Proofs.Ytmmggbcmailbiaa
open Go.RowKit Grp

def upW (l : List Nat) : List Int := l.map (fun x : Nat => (x : Int))
theorem upW_I64 {l : List Nat} (h : ∀ x ∈ l, x < 1000) : ∀ z ∈ upW l, I64 z := by
  intro z hz
  obtain ⟨x, hx, rfl⟩ := List.mem_map.1 hz
  have := h x hx
  unfold I64; omega

abbrev PW := List (Pm × List Nat)
def permsOf (L : PW) : List (List Int) := L.map (fun x => up x.1)
def wordsOf (L : PW) : List (List Int) := L.map (fun x => upW x.2)

theorem permsOf_len (L : PW) : (permsOf L).length = L.length := List.length_map _
theorem wordsOf_len (L : PW) : (wordsOf L).length = L.length := List.length_map _
theorem permsOf_snoc (L : PW) (x : Pm × List Nat) : permsOf (L ++ [x]) = permsOf L ++ [up x.1] := by unfold permsOf; simp
theorem wordsOf_snoc (L : PW) (x : Pm × List Nat) : wordsOf (L ++ [x]) = wordsOf L ++ [upW x.2] := by unfold wordsOf; simp
theorem permsOf_keys (L : PW) : permsOf L = (L.map Prod.fst).map up := by unfold permsOf; rw [List.map_map]; rfl

/-- What is known of the list at place k. -/
structure LOk (n : Nat) (ms : List Pm) (k : Nat) (L : PW) : Prop where
  gen : ∀ x ∈ L, Gen n ms x.1
  word : ∀ x ∈ L, ∀ j ∈ x.2, j < ms.length
  len : ∀ x ∈ L, x.2.length ≤ k
  nodup : (L.map Prod.fst).Nodup

theorem LOk.le {n : Nat} {ms : List Pm} {k : Nat} {L : PW} (h : LOk n ms k L) (hn : n ≤ 5) (hm : OkM n ms) : L.length ≤ 3125 := by
  have := len_le h.nodup (m := lists n n) (fun p hp => by
    obtain ⟨x, hx, rfl⟩ := List.mem_map.1 hp
    have hP := (h.gen x hx).isP hm
    exact mem_lists n n _ hP.len hP.lt)
  rw [List.length_map] at this
  exact Nat.le_trans this (lists_len n hn)

theorem LOk.more {n : Nat} {ms : List Pm} {k : Nat} {L : PW} (h : LOk n ms k L) : LOk n ms (k + 1) L := ⟨h.gen, h.word, fun x hx => Nat.le_succ_of_le (h.len x hx), h.nodup⟩

theorem LOk.add {n : Nat} {ms : List Pm} {k : Nat} {L : PW} {x : Pm × List Nat} {m : Pm} {j : Nat} (h : LOk n ms (k + 1) L) (hx : Gen n ms x.1) (hw : ∀ i ∈ x.2, i < ms.length) (hl : x.2.length ≤ k) (hm : ms[j]? = some m) : LOk n ms (k + 1) (addK L (join x.1 m, x.2 ++ [j])) := by
  have hjl : j < ms.length := (List.getElem?_eq_some_iff.1 hm).1
  refine ⟨addK_inv h.gen (hx.step (List.mem_of_getElem? hm)), addK_inv h.word (fun i hi => ?_), addK_inv h.len (by simp; exact hl), addK_nodup h.nodup⟩
  rcases List.mem_append.1 hi with hi | hi
  · exact hw i hi
  · rw [List.mem_singleton.1 hi]; exact hjl

theorem nextW_get {ms : List Pm} {x : Pm × List Nat} {j : Nat} {m : Pm} (h : ms[j]? = some m) : (nextW ms x).drop j = (join x.1 m, x.2 ++ [j]) :: (nextW ms x).drop (j + 1) := by
  have hg : (nextW ms x)[j]? = some (join x.1 m, x.2 ++ [j]) := by
    unfold nextW; rw [List.getElem?_map, List.getElem?_zipIdx, h]; simp
  have hl := (List.getElem?_eq_some_iff.1 hg).1
  rw [List.drop_eq_getElem_cons hl, (List.getElem?_eq_some_iff.1 hg).2]

theorem nextW_len (ms : List Pm) (x : Pm × List Nat) : (nextW ms x).length = ms.length := by unfold nextW; simp

theorem adds_next {ms : List Pm} {x : Pm × List Nat} {j : Nat} {m : Pm} (h : ms[j]? = some m) (L : PW) : adds L ((nextW ms x).drop j) = adds (addK L (join x.1 m, x.2 ++ [j])) ((nextW ms x).drop (j + 1)) := by
  rw [nextW_get h]; rfl

theorem adds_end {ms : List Pm} {x : Pm × List Nat} {j : Nat} (h : ms.length ≤ j) (L : PW) : adds L ((nextW ms x).drop j) = L := by
  rw [List.drop_eq_nil_of_le (by rw [nextW_len]; exact h)]; rfl

theorem bfs_next {next : Pm × List Nat → PW} {k : Nat} {L : PW} {x : Pm × List Nat} (h : L[k]? = some x) (hk : k < fuelW) : bfs next (fuelW - k) k L = bfs next (fuelW - (k + 1)) (k + 1) (adds L (next x)) := by
  have e : fuelW - k = (fuelW - (k + 1)) + 1 := by omega
  rw [e, bfs, h]

theorem bfs_end {next : Pm × List Nat → PW} {f k : Nat} {L : PW} (h : L.length ≤ k) : bfs next f k L = L := by
  cases f with
  | zero => rfl
  | succ f => unfold bfs; rw [List.getElem?_eq_none_iff.2 h]

theorem addK_in {L : PW} {x : Pm × List Nat} (h : x.1 ∈ L.map Prod.fst) : addK L x = L := by unfold addK; rw [if_pos h]
theorem addK_out {L : PW} {x : Pm × List Nat} (h : x.1 ∉ L.map Prod.fst) : addK L x = L ++ [x] := by unfold addK; rw [if_neg h]

theorem made_cap (m : Nat) (hm : m ≤ 100000) : ∀ w, (Instr.makeSlice 24 (.int .i64 0) (.int .i64 (m : Int))).run Try.prog w = .ok (.slice (some ⟨w.heap.size, 0, none⟩) 0 m) (w.alloc (.cells (madeCells #[.int .i64 0] m) 3)) := fun w => by
  obtain ⟨i, hi, hz, hsz, hby⟩ := info_parts infoInt
  have := run_make (P := Try.prog) w 24 3 i _ Try.underlying24 hi hz .i64 .i64 0 m (by omega) (by omega) (by rw [hby]; omega) (by omega)
  simpa [hsz, Value.cells] using this

/-- A row's element. -/
theorem RowsOwn.at {w : World} {base g cap k : Nat} {us : List Value} {pss : List (List Int)} {p : List Int} (h : RowsOwn w base (.slice (some ⟨g, 0, none⟩) pss.length cap) us pss) (hp : pss[k]? = some p) : ∃ u, us[k]? = some u ∧ w.cell? ⟨g, k, none⟩ = some u ∧ El w u p := by
  have hk : k < us.length := by rw [h.len]; exact (List.getElem?_eq_some_iff.1 hp).1
  have hu : us[k]? = some us[k] := List.getElem?_eq_getElem hk
  exact ⟨us[k], hu, (own_cell h.1 hu).1, h.2 k _ p hu hp⟩

theorem RowsOwn.lt {w : World} {base g cap n : Nat} {us : List Value} {pss : List (List Int)} (h : RowsOwn w base (.slice (some ⟨g, 0, none⟩) n cap) us pss) (hn : n = pss.length) : base ≤ g ∧ g < w.heap.size ∧ n ≤ cap ∧ cap ≤ maxLen := by
  subst hn; exact own_lt h.1

theorem RowsOwn.one (w : World) (u : Value) (p : List Int) (h : El w u p) : RowsOwn (w.alloc (.cells #[u] 24)) w.heap.size (.slice (some ⟨w.heap.size, 0, none⟩) 1 1) [u] [p] := by
  refine ⟨own_one w u 24, fun j u' p' hu hp => ?_⟩
  have hj : j = 0 := by have := (List.getElem?_eq_some_iff.1 hu).1; simp at this; omega
  subst hj
  simp at hu hp
  subst hu; subst hp
  exact h.below ((Below.refl _ _).alloc (Nat.le_refl _) _)

/-- The turn of another row of rows leaves this one. -/
theorem RowsOwn.otherR {w w' : World} {base base' g : Nat} {v v2 : Value} {us us2 : List Value} {pss pss2 : List (List Int)} (h : RowsOwn w base v us pss) (h2 : RowsOwn w base' v2 us2 pss2) (hg : w.grownBy w' (some g)) (hv2 : v2.ownBlock = some g) (hv : v.ownBlock ≠ some g) : RowsOwn w' base v us pss :=
  h.other hg hv (fun u hu e => by
    obtain ⟨j, hj⟩ := List.getElem?_of_mem hu
    have hlt : j < pss.length := by rw [← h.len]; exact (List.getElem?_eq_some_iff.1 hj).1
    obtain ⟨c, fr, hc⟩ := (h.2 j u _ hj (List.getElem?_eq_getElem hlt)).2 g e
    exact row_not_int h2.1 hv2 c fr hc)

/-- Each element is a row of ints of the call's own. -/
def WOwn (w : World) (base : Nat) (us : List Value) (pss : List (List Int)) : Prop := ∀ (j : Nat) (u : Value) (p : List Int), us[j]? = some u → pss[j]? = some p → w.ownsRow base 3 1 u p.length (p.map (Value.int .i64))

theorem WOwn.below {w w' : World} {base : Nat} {us : List Value} {pss : List (List Int)} (h : WOwn w base us pss) (hb : Below w.heap.size w w') : WOwn w' base us pss :=
  fun j u p hu hp => own_below (h j u p hu hp) hb

theorem WOwn.kept {w w' : World} {base g : Nat} {us : List Value} {pss : List (List Int)} (h : WOwn w base us pss) (hl : us.length = pss.length) (hg : w.grownBy w' (some g)) (hu : ∀ u ∈ us, ∀ k, u.ownBlock = some k → k ≠ g) : WOwn w' base us pss :=
  fun j u p hj hp => own_grown (h j u p hj hp) hg (hu u (List.mem_of_getElem? hj))

theorem WOwn.keptO {w w' : World} {base : Nat} {row : Option Nat} {us : List Value} {pss : List (List Int)} (h : WOwn w base us pss) (hl : us.length = pss.length) (hg : w.grownBy w' row) (hu : ∀ u ∈ us, ∀ k, u.ownBlock = some k → row ≠ some k) : WOwn w' base us pss :=
  match row, hg, hu with
  | none, hg, _ => h.below ((Below.refl _ _).grown hg (Nat.le_refl _) (fun k hk => by cases hk))
  | some _, hg, hu => h.kept hl hg (fun u hm k hk e => hu u hm k hk (congrArg some e.symm))

/-- The turn of a row of rows. -/
theorem WOwn.keptR {w w' : World} {base base' g : Nat} {us us2 : List Value} {n : Nat} {v2 : Value} {pss : List (List Int)} (h : WOwn w base us pss) (hl : us.length = pss.length) (h2 : w.ownsRow base' 24 1 v2 n us2) (hv2 : v2.ownBlock = some g) (hg : w.grownBy w' (some g)) : WOwn w' base us pss :=
  h.kept hl hg (fun u hu k hk e => by
    subst e
    obtain ⟨j, hj⟩ := List.getElem?_of_mem hu
    have hlt : j < pss.length := by rw [← hl]; exact (List.getElem?_eq_some_iff.1 hj).1
    have ho := h j u _ hj (List.getElem?_eq_getElem hlt)
    rcases ho.2 with ⟨rfl, _⟩ | ⟨g', cap, cur, rfl, _, h5, _⟩
    · cases hk
    · simp only [Value.ownBlock] at hk; injection hk with hk; subst hk
      exact row_not_int h2 hv2 _ _ h5)

theorem WOwn.snoc {w : World} {base : Nat} {us : List Value} {pss : List (List Int)} {u : Value} {p : List Int} (h : WOwn w base us pss) (hl : us.length = pss.length) (hu : w.ownsRow base 3 1 u p.length (p.map (Value.int .i64))) : WOwn w base (us ++ [u]) (pss ++ [p]) := by
  intro j u' p' hj hp
  rcases Nat.lt_or_ge j us.length with hlt | hge
  · rw [List.getElem?_append_left hlt] at hj
    rw [List.getElem?_append_left (by omega)] at hp
    exact h j u' p' hj hp
  · rw [List.getElem?_append_right hge] at hj
    rw [List.getElem?_append_right (by omega)] at hp
    have h0 : j - us.length = 0 := by
      have := (List.getElem?_eq_some_iff.1 hj).1
      simp at this; omega
    rw [h0] at hj
    rw [show j - pss.length = 0 by omega] at hp
    simp at hj hp
    subst hj; subst hp; exact hu

theorem WOwn.start (w : World) (base : Nat) : WOwn w base [.slice none 0 0] [[]] := by
  intro j u p hj hp
  have h0 : j = 0 := by
    have := (List.getElem?_eq_some_iff.1 hj).1
    simp at this; omega
  subst h0
  simp at hj hp
  subst hj; subst hp
  exact World.ownsRow_nil w base 3 1

def GivesW (w w' : World) (L : PW) (e : Ending) : Prop :=
  ∃ (gp cp gw cw : Nat) (us xs : List Value), e = .returned (.tuple #[.slice (some ⟨gp, 0, none⟩) L.length cp, .slice (some ⟨gw, 0, none⟩) L.length cw]) ∧ gp ≠ gw ∧
    RowsOwn w' w.heap.size (.slice (some ⟨gp, 0, none⟩) L.length cp) us (permsOf L) ∧ RowsOwn w' w.heap.size (.slice (some ⟨gw, 0, none⟩) L.length cw) xs (wordsOf L) ∧ WOwn w' w.heap.size xs (wordsOf L) ∧ Below w.heap.size w w'

/-- The turn of one of the call's other blocks. -/
theorem RowsOwn.kept {w w' : World} {base : Nat} {v : Value} {us : List Value} {pss : List (List Int)} {row : Option Nat} (h : RowsOwn w base v us pss) (hg : w.grownBy w' row) (hv : ∀ k, v.ownBlock = some k → row ≠ some k) (hu : ∀ u ∈ us, ∀ k, u.ownBlock = some k → row ≠ some k) : RowsOwn w' base v us pss :=
  ⟨match row, hg, hv with
    | none, hg, _ => own_below h.1 ((Below.refl _ _).grown hg (Nat.le_refl _) (fun k hk => by cases hk))
    | some _, hg, hv => own_grown h.1 hg (fun k hk e => hv k hk (congrArg some e.symm)), fun j u p hj hp => (h.2 j u p hj hp).kept hg (fun k hk e => hu u (List.mem_of_getElem? hj) k hk e)⟩

theorem lok_start (n : Nat) (ms : List Pm) : LOk n ms 0 [(idP n, [])] :=
  ⟨fun x hx => by rw [List.mem_singleton.1 hx]; exact Gen.one, fun x hx => by rw [List.mem_singleton.1 hx]; simp, fun x hx => by rw [List.mem_singleton.1 hx]; simp, by simp⟩

theorem IntSS.at {w : World} {ao : Option Addr} {cap k : Nat} {ms : List Pm} {m : Pm} (h : IntSS w (.slice ao ms.length cap) (ms.map up)) (hm : ms[k]? = some m) : ∃ b off u, ao = some ⟨b, off, none⟩ ∧ b < w.heap.size ∧ w.cell? ⟨b, off + k, none⟩ = some u ∧ IntS w u (up m) := by
  obtain ⟨ao', cap', e, h1, h2, h3⟩ := h
  injection e with e1 e2 e3
  subst e1
  rcases h3 with ⟨h3, _⟩ | ⟨b, off, h3, h4, h5⟩
  · rw [List.map_eq_nil_iff.1 h3] at hm; simp at hm
  · obtain ⟨u, hc, hu⟩ := h5 k (up m) (by rw [List.getElem?_map, hm]; rfl)
    exact ⟨b, off, u, h3, h4, hc, hu⟩

set_option maxRecDepth 100000 in
set_option maxHeartbeats 4000000 in
theorem impl_groupWords (n : Nat) (ms : List Pm) (v : Value) (w : World) (h : IntSS w v (ms.map up)) (hm : OkM n ms) (h1 : 1 ≤ n) (h5 : n ≤ 5) (h3 : ms.length ≤ 3) :
    Calls Try.prog 62 #[.int .i64 (n : Int), v] w fun e w' => GivesW w w' (groupW n ms) e := by
  obtain ⟨ao, cap, hv, hcap, hmax⟩ : ∃ ao cap, v = .slice ao ms.length cap ∧ ms.length ≤ cap ∧ cap ≤ maxLen := by
    obtain ⟨ao, cap, e, a, b, _⟩ := h; rw [List.length_map] at *; exact ⟨ao, cap, e, a, b⟩
  subst hv
  unfold maxLen at hmax
  have HM := hidI h; have HO := hidI hm
  clear h hm
  go_enter Try.func62, Try.ntmps62
  go_wp2_with fail
  refine (impl_PermNone n w h1 h5).mono ?_; rintro e w1 ⟨v0, rfl, o1, b1⟩
  have E0 := hidI (El.ofOwn o1 (up_I64 (isP_id n) h5))
  have B1 := hidI b1; clear o1 b1
  obtain ⟨_, no, nc, hv0, _⟩ := id E0.out.1
  subst hv0
  go_wp2_with fail
  have R0 := RowsOwn.one w1 _ _ E0.out
  have hw1 := B1.out.size
  have RP := hidI ((R0.alloc (.cells #[.slice none 0 0] 24)).base hw1)
  have RW := hidI ((RowsOwn.one (w1.alloc (.cells #[.slice no (up (idP n)).length nc] 24)) (.slice none 0 0) [] (El.nil _)).base (show w.heap.size ≤ (w1.alloc (.cells #[.slice no (up (idP n)).length nc] 24)).heap.size by simp; omega))
  have BB := hidI ((B1.out.alloc hw1 (.cells #[.slice no (up (idP n)).length nc] 24)).alloc (by simp; omega) (.cells #[.slice none 0 0] 24))
  have hsz : (w1.alloc (.cells #[.slice no (up (idP n)).length nc] 24)).heap.size = w1.heap.size + 1 := by simp
  rw [hsz] at RW
  clear R0 E0 hsz
  obtain ⟨wa, hwa⟩ : ∃ x, x = (w1.alloc (.cells #[.slice no (up (idP n)).length nc] 24)).alloc (.cells #[.slice none 0 0] 24) := ⟨_, rfl⟩
  rw [← hwa] at RP RW BB ⊢
  clear hwa
  go_loopw [6, 7, 8] (fun vp vw va wr => ∃ (k : Nat) (L : PW) (gp cp gw cw : Nat) (us xs : List Value), vp = .slice (some ⟨gp, 0, none⟩) L.length cp ∧ vw = .slice (some ⟨gw, 0, none⟩) L.length cw ∧ va = .int .i64 (k : Int) ∧ k ≤ L.length ∧ L.length ≤ 3125 ∧ gp ≠ gw ∧
    Hid (RowsOwn wr w.heap.size (.slice (some ⟨gp, 0, none⟩) L.length cp) us (permsOf L)) ∧ Hid (RowsOwn wr w.heap.size (.slice (some ⟨gw, 0, none⟩) L.length cw) xs (wordsOf L)) ∧ Hid (WOwn wr w.heap.size xs (wordsOf L)) ∧ Hid (LOk n ms k L) ∧ Hid (bfs (nextW ms) (fuelW - k) k L = groupW n ms) ∧ Hid (Below w.heap.size w wr)) (fun _ _ va _ => 4000 - (intOf va).toNat)
  case atStart => exact ⟨0, [(idP n, [])], _, _, _, _, [.slice no (up (idP n)).length nc], [.slice none 0 0], rfl, rfl, rfl, by simp, by simp, by omega, RP, RW, hidI (WOwn.start _ _), hidI (lok_start n ms), hidI rfl, BB⟩
  case round =>
    clear RP RW BB
    obtain ⟨k, L, gp, cp, gw, cw, us, xs, rfl, rfl, rfl, hk, hL, hne, RP, RW, WO, HL, HE, HB⟩ := hrel
    by_cases hlt : k < L.length
    rotate_left
    · have hEnd := hidI (show L = groupW n ms by rw [← HE.out]; exact (bfs_end (by omega)).symm)
      have hkI : ¬ (k : Int) < (L.length : Int) := by omega
      go_wp2_with fail
      go_ret2
      rw [← hEnd.out]
      exact ⟨gp, cp, gw, cw, us, xs, rfl, hne, RP.out, RW.out, WO.out, HB.out⟩
    obtain ⟨x, hx⟩ : ∃ x, L[k]? = some x := ⟨_, List.getElem?_eq_getElem hlt⟩
    have hkI : (k : Int) < (L.length : Int) := by omega
    have HX := hidI hx
    have hxm := List.mem_of_getElem? hx
    have HG := hidI (HL.out.gen x hxm); have HWd := hidI (HL.out.word x hxm); have hwl := HL.out.len x hxm
    have HNX := hidI (bfs_next (next := nextW ms) hx (show k < fuelW by unfold fuelW; omega))
    obtain ⟨wo, rfl⟩ : ∃ wo : World, wo = wr := ⟨_, rfl⟩
    clear hx hxm
    go_wp2_with fail
    go_loopw [25, 6, 7] (fun vi vp vw wr => ∃ (j : Nat) (M : PW) (gp cp gw cw : Nat) (us xs : List Value), vi = .int .i64 (j : Int) ∧ vp = .slice (some ⟨gp, 0, none⟩) M.length cp ∧ vw = .slice (some ⟨gw, 0, none⟩) M.length cw ∧ j ≤ ms.length ∧ k < M.length ∧ M.length ≤ 3125 ∧ gp ≠ gw ∧
      Hid (RowsOwn wr w.heap.size (.slice (some ⟨gp, 0, none⟩) M.length cp) us (permsOf M)) ∧ Hid (RowsOwn wr w.heap.size (.slice (some ⟨gw, 0, none⟩) M.length cw) xs (wordsOf M)) ∧ Hid (WOwn wr w.heap.size xs (wordsOf M)) ∧ Hid (LOk n ms (k + 1) M) ∧ Hid (M[k]? = some x) ∧ Hid (adds M ((nextW ms x).drop j) = adds L (nextW ms x)) ∧ Hid (Below w.heap.size w wr)) (fun vi _ _ _ => ms.length - (intOf vi).toNat)
    case atStart => exact ⟨0, L, gp, cp, gw, cw, us, xs, rfl, rfl, rfl, by omega, hlt, hL, hne, RP, RW, WO, hidI HL.out.more, HX, hidI rfl, HB⟩
    case round =>
      clear RP RW WO HL HB
      obtain ⟨j, M, gp, cp, gw, cw, us, xs, rfl, rfl, rfl, hj, hkM, hML, hne, RP, RW, WO, HL, HXM, HA, HB⟩ := hrel
      by_cases hjl : j < ms.length
      rotate_left
      · have hEnd := hidI (show M = adds L (nextW ms x) by rw [← HA.out]; exact (adds_end (by omega) M).symm)
        have hjI : ¬ (j : Int) < (ms.length : Int) := by omega
        go_wp2_with fail
        go_roundw
        case rel => exact ⟨k + 1, M, gp, cp, gw, cw, us, xs, rfl, rfl, by go_num, by omega, hML, hne, RP, RW, WO, HL, hidI (by rw [hEnd.out, ← HNX.out]; exact HE.out), HB⟩
        case measure => simp [intOf]; omega
      obtain ⟨m, hm⟩ : ∃ m, ms[j]? = some m := ⟨_, List.getElem?_eq_getElem hjl⟩
      have hjI : (j : Int) < (ms.length : Int) := by omega
      have HMP := hidI (HO.out m (List.mem_of_getElem? hm))
      obtain ⟨b, off, um, hao, hb, hcm, hum⟩ := IntSS.at (HM.out.below HB.out) hm
      subst hao
      have hpk : (permsOf M)[k]? = some (up x.1) := by unfold permsOf; rw [List.getElem?_map, HXM.out]; rfl
      have hwk : (wordsOf M)[k]? = some (upW x.2) := by unfold wordsOf; rw [List.getElem?_map, HXM.out]; rfl
      have lp : (permsOf M).length = M.length := List.length_map _
      have lw : (wordsOf M).length = M.length := List.length_map _
      have RP' := RP.out; have RW' := RW.out
      rw [← lp] at RP'; rw [← lw] at RW'
      obtain ⟨up0, hup, hcp, hep⟩ := RP'.at hpk
      obtain ⟨uw0, huw, hcw, hew⟩ := RW'.at hwk
      rw [lp] at RP'; rw [lw] at RW'
      have hgp := RP.out.lt lp.symm; have hgw := RW.out.lt lw.symm
      have HXP := hidI (HG.out.isP HO.out)
      have HEP := hidI hep; have HUM := hidI hum; have HEW := hidI hew
      have HADD := hidI (adds_next (x := x) hm M)
      have Hm := hidI hm
      obtain ⟨hgp1, hgp2, hgp3, hgp4⟩ := hgp; obtain ⟨hgw1, hgw2, hgw3, hgw4⟩ := hgw
      unfold maxLen at hgp4 hgw4
      have hkMI : (k : Int) < (M.length : Int) := by omega
      obtain ⟨_, mo, mc, humv, _⟩ := id HUM.out
      obtain ⟨_, po, pc, hupv, _⟩ := id HEP.out.1
      obtain ⟨_, wo', wc, huwv, _⟩ := id HEW.out.1
      subst humv; subst hupv; subst huwv
      clear hm hpk hwk hep hew hum hup huw RP' RW'
      go_wp2_with fail
      refine (impl_permJoin n x.1 m _ _ _ HEP.out.1 HUM.out HXP.out HMP.out h1 h5).mono ?_; rintro e w2 ⟨vn, rfl, o2, b2⟩
      have EN := hidI (El.ofOwn o2 (up_I64 (isP_join HXP.out HMP.out) h5))
      have WO2 := hidI (WO.out.below b2); have RP2 := hidI (RP.out.below b2); have RW2 := hidI (RW.out.below b2); have B2 := hidI (bthen HB.out b2); have HEW2 := hidI (HEW.out.below b2)
      have hc2 : w2.cell? ⟨gw, k, none⟩ = some (.slice wo' (upW x.2).length wc) := (b2.cell (p := ⟨gw, k, none⟩) hgw2).trans hcw
      have hs2 := b2.size
      obtain ⟨_, no, nc, hvn, _⟩ := id EN.out.1
      subst hvn
      clear o2 b2 hcm hcp hcw
      go_wp2_with fail
      refine (impl_permIn n (M.map Prod.fst) (join x.1 m) _ _ _ (by rw [← permsOf_keys]; exact RP2.out.reads) EN.out.1 (isP_join HXP.out HMP.out) (fun q hq => by
        obtain ⟨y, hy, rfl⟩ := List.mem_map.1 hq
        exact (HL.out.gen y hy).isP HO.out) h1 h5).mono ?_
      rintro e w3 ⟨rfl, n3, hw3⟩
      have b3 : Below w2.heap.size w2 w3 := by rw [hw3]; exact bdraw _ _
      clear hw3
      have WO3 := hidI (WO2.out.below b3); have RP3 := hidI (RP2.out.below b3); have RW3 := hidI (RW2.out.below b3); have B3 := hidI (bthen B2.out b3); have HEW3 := hidI (HEW2.out.below b3); have EN3 := hidI (EN.out.below b3)
      have hc3 : w3.cell? ⟨gw, k, none⟩ = some (.slice wo' (upW x.2).length wc) := (b3.cell (p := ⟨gw, k, none⟩) (by show gw < w2.heap.size; omega)).trans hc2
      have hs3 := b3.size
      clear WO WO2 RP RW RP2 RW2 HB HEW HEW2 B2 EN hc2 b3
      by_cases hin : join x.1 m ∈ M.map Prod.fst
      · rw [decide_eq_true hin]
        have HADD' := hidI (show adds M ((nextW ms x).drop (j + 1)) = adds L (nextW ms x) by rw [← HA.out, HADD.out, addK_in hin])
        clear hin
        go_wp2_with fail
        go_roundw
        case rel => exact ⟨j + 1, M, gp, cp, gw, cw, us, xs, by go_num, rfl, rfl, by omega, hkM, hML, hne, RP3, RW3, WO3, HL, HXM, HADD', B3⟩
        case measure => simp [intOf]; omega
      rw [decide_eq_false hin]
      have eM := addK_out (x := (join x.1 m, x.2 ++ [j])) hin
      have HADD' := hidI (show adds (M ++ [(join x.1 m, x.2 ++ [j])]) ((nextW ms x).drop (j + 1)) = adds L (nextW ms x) by rw [← HA.out, HADD.out, eM])
      have HL' := hidI (show LOk n ms (k + 1) (M ++ [(join x.1 m, x.2 ++ [j])]) by rw [← eM]; exact HL.out.add HG.out HWd.out hwl Hm.out)
      have hM1 := HL'.out.le h5 HO.out
      rw [List.length_append, List.length_singleton] at hM1
      have HXM' := hidI (show (M ++ [(join x.1 m, x.2 ++ [j])])[k]? = some x by rw [List.getElem?_append_left hkM]; exact HXM.out)
      have hwlen : (upW x.2).length = x.2.length := List.length_map _
      rw [hwlen] at hc3
      clear hin eM HA HADD HEP HUM Hm
      have hk1 : ((x.2.length : Int) + 1) = ((x.2.length + 1 : Nat) : Int) := by omega
      have hmk := made_cap (x.2.length + 1) (by omega)
      rw [← hk1] at hmk
      have HWL := hidI hwlen
      clear hk1 hwlen lp lw
      have HG3 := hidI (show ∀ u ∈ us ++ [.slice no (up (join x.1 m)).length nc], ∀ k, u.ownBlock = some k → k < w3.heap.size by
        intro u hu k hk
        rcases List.mem_append.1 hu with hu | hu
        · obtain ⟨i, hi⟩ := List.getElem?_of_mem hu
          have hlt : i < (permsOf M).length := by rw [← RP3.out.len]; exact (List.getElem?_eq_some_iff.1 hi).1
          exact (RP3.out.2 i u _ hi (List.getElem?_eq_getElem hlt)).lt hk
        · rw [List.mem_singleton.1 hu] at hk; exact EN3.out.lt hk)
      have HG4 := hidI (show ∀ u ∈ xs, ∀ k, u.ownBlock = some k → k < w3.heap.size by
        intro u hu k hk
        obtain ⟨i, hi⟩ := List.getElem?_of_mem hu
        have hlt : i < (wordsOf M).length := by rw [← RW3.out.len]; exact (List.getElem?_eq_some_iff.1 hi).1
        exact (RW3.out.2 i u _ hi (List.getElem?_eq_getElem hlt)).lt hk)
      have HO4 := hidI (World.ownsRow_made (base := w3.heap.size) (e := 3) (size := 1) w3 (madeCells #[.int .i64 0] (x.2.length + 1)) (x.2.length + 1) (Nat.le_refl _) (by unfold maxLen; omega) (by simp [size_madeCells]))
      have HB4 := hidI ((Below.refl w3.heap.size w3).alloc (Nat.le_refl _) (.cells (madeCells #[.int .i64 0] (x.2.length + 1)) 3))
      have hc4 : (w3.alloc (.cells (madeCells #[.int .i64 0] (x.2.length + 1)) 3)).cell? ⟨gw, k, none⟩ = some (.slice wo' x.2.length wc) := (HB4.out.cell (p := ⟨gw, k, none⟩) (by show gw < w3.heap.size; omega)).trans hc3
      go_wp2_with (at_builtin; refine wpList_appendS _ rfl _ _ 24 rfl w3.heap.size 3 Try.underlying24 infoInt (.slice (some ⟨w3.heap.size, 0, none⟩) 0 (x.2.length + 1)) 0 [] (.slice wo' x.2.length wc) (upW x.2) rfl rfl HO4.out (by have := (HEW3.out.below HB4.out).1; rw [HWL.out] at this; exact this) (by rw [HWL.out]; omega) (by simp) ?_)
      intro v5 w5 ho5 hb5 _ _
      (try simp only [Nat.zero_add, List.nil_append] at ho5)
      have hb5' := hb5 _ HB4.out
      have HO5 := hidI ho5
      have WO5 := hidI (WO3.out.below hb5'); have RP5 := hidI (RP3.out.below hb5'); have RW5 := hidI (RW3.out.below hb5'); have B5 := hidI (bthen B3.out hb5'); have EN5 := hidI (EN3.out.below hb5')
      have hs5 := hb5'.size
      clear hb5 ho5 hc4 hc3 hmk hb5'
      clear HB4 HO4 HEW3
      go_wp2_with (at_builtin; refine wpList_pushR w5 rfl _ _ rfl w.heap.size (.slice (some ⟨gp, 0, none⟩) M.length cp) us (permsOf M) (.slice no (up (join x.1 m)).length nc) (up (join x.1 m)) rfl rfl RP5.out EN5.out (by rw [permsOf_len]; omega) (by omega) ?_)
      intro g6 c6 w6 hg6 rp6 hb6 hgr6 hl6
      rw [permsOf_len] at rp6 ⊢
      simp only [Value.ownBlock] at hgr6 hl6
      have hs6 := hgr6.size
      rw [World.size_alloc] at hs6
      have RP6 := hidI rp6
      have RW6 := hidI ((RW5.out.alloc (.cells #[.slice no (up (join x.1 m)).length nc] 24)).otherR (RP5.out.alloc (.cells #[.slice no (up (join x.1 m)).length nc] 24)) hgr6 rfl (fun e => hne (Option.some.inj e).symm))
      have WO6 := hidI ((WO5.out.below ((Below.refl _ _).alloc (Nat.le_refl _) (.cells #[.slice no (up (join x.1 m)).length nc] 24))).keptR RW5.out.len (RP5.out.alloc (.cells #[.slice no (up (join x.1 m)).length nc] 24)).1 rfl hgr6)
      have HO6 := hidI (own_grown (HO5.out.alloc (.cells #[.slice no (up (join x.1 m)).length nc] 24)) hgr6 (fun k hk e => by
        have := (HO5.out.lt k hk).1
        omega))
      have B6 := hidI (hb6 _ B5.out)
      have hl6' : g6 < w3.heap.size ∨ g6 = w5.heap.size + 1 := by rcases hl6 with h | h; (· exact .inl (by rw [← Option.some.inj h]; omega)); (· exact .inr h)
      have hne6 : g6 ≠ gw := by rcases hl6 with h | h; (· rw [← Option.some.inj h]; exact hne); (· omega)
      have HV5 := hidI (show ∀ k, v5.ownBlock = some k → w3.heap.size ≤ k ∧ k < w5.heap.size from fun k hk => HO5.out.lt k hk)
      clear rp6 hb6 hgr6 hl6
      clear RP5 RW5 WO5 HO5 B5 EN5 RP3 RW3 WO3 B3 EN3
      go_wp2_with (at_builtin; refine wpList_push w6 rfl _ _ 24 rfl w3.heap.size 3 (.int .i64 0) 8 Try.underlying24 infoInt rfl v5 (upW x.2).length ((upW x.2).map (Value.int .i64)) (.int .i64 (j : Int)) rfl rfl HO6.out rfl (by rw [HWL.out]; omega) (by decide) (by omega) ?_)
      intro g7 c7 w7 hg7 ho7 _ hgr7
      have hs7 := hgr7.size
      rw [World.size_alloc] at hs7
      have hne7 : ∀ g, (g < w3.heap.size ∨ g = w5.heap.size + 1) → v5.ownBlock ≠ some g := fun g hg e => by
        have := HV5.out g e; omega
      have RP7 := hidI ((RP6.out.alloc (.cells #[.int .i64 (j : Int)] 3)).kept hgr7 (fun k hk e => by simp only [Value.ownBlock] at hk; injection hk with hk; subst hk; exact hne7 _ hl6' e) (fun u hu k hk e => hne7 k (.inl (HG3.out u hu k hk)) e))
      have RW7 := hidI ((RW6.out.alloc (.cells #[.int .i64 (j : Int)] 3)).kept hgr7 (fun k hk e => by simp only [Value.ownBlock] at hk; injection hk with hk; subst hk; exact hne7 _ (.inl (by omega)) e) (fun u hu k hk e => hne7 k (.inl (HG4.out u hu k hk)) e))
      have WO7 := hidI ((WO6.out.below ((Below.refl _ _).alloc (Nat.le_refl _) (.cells #[.int .i64 (j : Int)] 3))).keptO RW6.out.len hgr7 (fun u hu k hk e => hne7 k (.inl (HG4.out u hu k hk)) e))
      have B7 := hidI ((B6.out.alloc (by omega) (.cells #[.int .i64 (j : Int)] 3)).grown hgr7 (by simp; omega) (fun k hk => by have := HV5.out k hk; omega))
      have e7 : (upW x.2).map (Value.int .i64) ++ [.int .i64 (j : Int)] = (upW (x.2 ++ [j])).map (Value.int .i64) := by unfold upW; simp
      rw [e7] at ho7
      have l7 : (upW (x.2 ++ [j])).length = (upW x.2).length + 1 := by unfold upW; simp
      have OW7 := hidI (own_base (show w7.ownsRow w3.heap.size 3 1 (.slice (some ⟨g7, 0, none⟩) ((upW x.2).length + 1) c7) (upW (x.2 ++ [j])).length ((upW (x.2 ++ [j])).map (Value.int .i64)) by rw [l7]; exact ho7) (show w.heap.size ≤ w3.heap.size by omega))
      clear e7 l7
      have EW7 := hidI (show El w7 (.slice (some ⟨g7, 0, none⟩) ((upW x.2).length + 1) c7) (upW (x.2 ++ [j])) from by
        exact El.ofOwn ho7 (upW_I64 (fun i hi => by
          rcases List.mem_append.1 hi with hi | hi
          · have := HWd.out i hi; omega
          · rw [List.mem_singleton.1 hi]; omega)))
      clear ho7 hgr7 hne7 RP6 RW6 WO6 B6 HO6 HV5 HG3 HG4
      go_wp2_with (at_builtin; refine wpList_pushR w7 rfl _ _ rfl w.heap.size (.slice (some ⟨gw, 0, none⟩) M.length cw) xs (wordsOf M) (.slice (some ⟨g7, 0, none⟩) ((upW x.2).length + 1) c7) (upW (x.2 ++ [j])) rfl rfl RW7.out EW7.out (by rw [wordsOf_len]; omega) (by omega) ?_)
      intro g8 c8 w8 hg8 rw8 hb8 hgr8 hl8
      rw [wordsOf_len] at rw8 ⊢
      simp only [Value.ownBlock] at hgr8 hl8
      have RW8 := hidI rw8
      have RP8 := hidI ((RP7.out.alloc (.cells #[.slice (some ⟨g7, 0, none⟩) ((upW x.2).length + 1) c7] 24)).otherR (RW7.out.alloc (.cells #[.slice (some ⟨g7, 0, none⟩) ((upW x.2).length + 1) c7] 24)) hgr8 rfl (fun e => hne6 (Option.some.inj e)))
      have WO8 := hidI (((WO7.out.below ((Below.refl _ _).alloc (Nat.le_refl _) (.cells #[.slice (some ⟨g7, 0, none⟩) ((upW x.2).length + 1) c7] 24))).snoc RW7.out.len (OW7.out.alloc _)).keptR (by rw [List.length_append, List.length_append, RW7.out.len]; rfl) (RW7.out.alloc (.cells #[.slice (some ⟨g7, 0, none⟩) ((upW x.2).length + 1) c7] 24)).1 rfl hgr8)
      have B8 := hidI (hb8 _ B7.out)
      have hne8 : g6 ≠ g8 := by rcases hl8 with h | h; (· rw [← Option.some.inj h]; exact hne6); (· omega)
      clear rw8 hb8 hgr8 hl8 RP7 RW7 WO7 OW7 B7 EW7
      go_wp2_with fail
      go_roundw
      case rel => exact ⟨j + 1, M ++ [(join x.1 m, x.2 ++ [j])], g6, c6, g8, c8, us ++ [.slice no (up (join x.1 m)).length nc], xs ++ [.slice (some ⟨g7, 0, none⟩) ((upW x.2).length + 1) c7], by go_num, by rw [List.length_append]; rfl, by rw [List.length_append]; rfl, by omega, by rw [List.length_append]; omega, by rw [List.length_append]; exact hM1, hne8, hidI (by rw [permsOf_snoc, List.length_append]; exact RP8.out), hidI (by rw [wordsOf_snoc, List.length_append]; exact RW8.out), hidI (by rw [wordsOf_snoc]; exact WO8.out), HL', HXM', HADD', B8⟩
      case measure => simp [intOf]; omega
end Go.Proofs.Ytmmggbcmailbiaa
