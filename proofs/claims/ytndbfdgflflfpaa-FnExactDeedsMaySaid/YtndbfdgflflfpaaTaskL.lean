/- The laws' helpers on tasks: szTask, toTask, eqTask; the reading of a task. -/
import Derived.Test.YtndbfdgflflfpaaTask
import Derived.Test.YtndbfdgflflfpaaDeedL
import Derived.Outline
namespace Go.Proofs.Ytndbfdgflflfpaa
open Go.RowKit Go.ChangeShapes Go.WideShapes Go.ChangeAt Go.Joins

def szGo : List DeedM → Int → Int
  | [], left => left
  | d :: l, left => if szInts d.need.length left < 0 then -1 else szGo l (szInts d.need.length left)

def szDeeds (ds : List DeedM) (left : Int) : Int := if left - ds.length < 0 then -1 else szGo ds (left - ds.length)

theorem szGo_le : ∀ (ds : List DeedM) (left : Int), 0 ≤ left → ¬ szGo ds left < 0 → (∀ d ∈ ds, (d.need.length : Int) ≤ left) ∧ szGo ds left ≤ left
  | [], left, h0, h => ⟨by simp, Int.le_refl _⟩
  | d :: l, left, h0, h => by
    unfold szGo at h ⊢
    by_cases c : szInts d.need.length left < 0
    · rw [if_pos c] at h; omega
    · rw [if_neg c] at h ⊢
      obtain ⟨h1, h2⟩ := szInts_le h0 c
      obtain ⟨h3, h4⟩ := szGo_le l _ (by omega) h
      refine ⟨fun x hx => ?_, by omega⟩
      cases hx with
      | head => exact h1
      | tail _ hx => have := h3 x hx; omega

theorem szGo_neg : ∀ (ds : List DeedM) (left : Int), 0 ≤ left → szGo ds left < 0 → szGo ds left = -1
  | [], left, h0, h => by unfold szGo at h; omega
  | d :: l, left, h0, h => by
    unfold szGo at h ⊢
    by_cases c : szInts d.need.length left < 0
    · rw [if_pos c]
    · rw [if_neg c] at h ⊢
      exact szGo_neg l _ (by omega) h

set_option maxHeartbeats 1000000 in
theorem szDeedS_any (ds : List DeedM) (v : Value) (left : Int) (w : World) (h : DeedS w v ds) (h0 : 0 ≤ left) (h1 : left ≤ 1048576) :
    Calls Try.prog 39 #[v, .int .i64 left] w fun e w' => e = .returned (.int .i64 (szDeeds ds left)) ∧ Below w.heap.size w w' := by
  obtain ⟨ao, cap, rfl, hcap, hmax, hcells⟩ := h
  unfold maxLen at hmax
  by_cases hl : left - (ds.length : Int) < 0
  · have HF := hidI (show szDeeds ds left = -1 by unfold szDeeds; rw [if_pos hl])
    go_enter Try.func39, Try.ntmps39
    go_wp2_with fail
    go_ret
    exact ⟨ret_int HF.out.symm, Below.refl _ _⟩
  · have HF := hidI (show szDeeds ds left = szGo (ds.drop 0) (left - ds.length) by unfold szDeeds; rw [if_neg hl]; rfl)
    rcases hcells with ⟨hnil, _⟩ | ⟨b, off, hao, hb, hcc⟩
    · subst hnil
      go_enter Try.func39, Try.ntmps39
      go_wp2_with fail
      refine wp_loop_rounds 1 ?_
      rw [rounds_succ]
      go_wp2_with fail
      go_ret
      exact ⟨ret_int (by rw [HF.out]; simp [szGo]), Below.refl _ _⟩
    · subst hao
      have hdec : decide (left - (ds.length : Int) < 0) = false := decide_eq_false hl
      go_enter Try.func39, Try.ntmps39
      go_wp2_with fail
      go_loopw [1, 5] (fun q i wr => ∃ (k : Nat) (L : Int), k ≤ ds.length ∧ i = .int .i64 k ∧ q = .int .i64 L ∧ 0 ≤ L ∧ L ≤ 1048576 ∧ Hid (szDeeds ds left = szGo (ds.drop k) L) ∧ Hid (Below w.heap.size w wr)) (fun _ i _ => ds.length - (intOf i).toNat)
      case atStart => exact ⟨0, _, by omega, rfl, rfl, by omega, by omega, HF, hidI (Below.refl _ _)⟩
      case round =>
        obtain ⟨k, L, hk, rfl, rfl, hL0, hL1, HR, HBr⟩ := hrel
        clear HF
        by_cases hlt : k < ds.length
        · obtain ⟨d, hd, hdr⟩ : ∃ d, ds[k]? = some d ∧ ds.drop k = d :: ds.drop (k + 1) := ⟨ds[k], List.getElem?_eq_getElem hlt, List.drop_eq_getElem_cons hlt⟩
          obtain ⟨so, l, cp', q0, q1, q2, q3, hde⟩ := hcc k d hd
          have r0 := (HBr.out.cell (p := ⟨b, off + k * 4, none⟩) hb).trans q0
          have r1 := (HBr.out.cell (p := ⟨b, off + k * 4 + 1, none⟩) hb).trans q1
          have r2 := (HBr.out.cell (p := ⟨b, off + k * 4 + 2, none⟩) hb).trans q2
          have r3 := (HBr.out.cell (p := ⟨b, off + k * 4 + 3, none⟩) hb).trans q3
          have HDE := hidI (hde.below HBr.out)
          have Hcc := hidI hcc; have Hdr := hidI hdr
          clear hcc q0 q1 q2 q3 hde hdr hd
          go_wp2_with fail
          refine (szDeed_any d _ L _ HDE.out hL0 hL1).mono ?_; rintro e w5 ⟨rfl, b5⟩
          have HB5 := hidI (bthen HBr.out b5); clear b5
          by_cases hneg : szInts d.need.length L < 0
          · go_wp2_with fail
            go_ret
            exact ⟨ret_int (by rw [HR.out, Hdr.out, szGo, if_pos hneg]), HB5.out⟩
          · obtain ⟨e1, e2⟩ := szInts_le hL0 hneg
            have hz1 : 0 ≤ szInts d.need.length L := by omega
            have hz2 : szInts d.need.length L ≤ 1048576 := by omega
            clear e2
            go_wp2_with fail
            go_roundw
            case rel => exact ⟨k + 1, _, by omega, by go_num, rfl, hz1, hz2, hidI (by rw [HR.out, Hdr.out, szGo, if_neg (by omega)]), HB5⟩
            case measure => simp [intOf]; omega
        · go_wp2_with fail
          go_ret
          exact ⟨ret_int (by rw [HR.out, List.drop_of_length_le (by omega)]; rfl), HBr.out⟩

def szTasks (t : TaskM) (left : Int) : Int := if szInts t.goal.length left < 0 then -1 else szDeeds t.deeds (szInts t.goal.length left)

theorem szTasks_le {t : TaskM} (h : ¬ szTasks t 1048576 < 0) : t.goal.length ≤ 1048576 ∧ t.deeds.length ≤ 1048576 ∧ ∀ d ∈ t.deeds, d.need.length ≤ 1048576 := by
  unfold szTasks at h
  by_cases c : szInts t.goal.length 1048576 < 0
  · rw [if_pos c] at h; omega
  · rw [if_neg c] at h
    obtain ⟨h1, h2⟩ := szInts_le (by omega) c
    unfold szDeeds at h
    by_cases c2 : szInts t.goal.length 1048576 - t.deeds.length < 0
    · rw [if_pos c2] at h; omega
    · rw [if_neg c2] at h
      have h3 := szGo_le _ _ (by omega) h
      refine ⟨by omega, by omega, fun d hd => ?_⟩
      have := h3.1 d hd
      omega

set_option maxHeartbeats 400000 in
theorem szTask_any (t : TaskM) (v : Value) (w : World) (h : IsTask w v t) :
    Calls Try.prog 14 #[v, .int .i64 1048576] w fun e w' => e = .returned (.int .i64 (szTasks t 1048576)) ∧ Below w.heap.size w w' := by
  obtain ⟨go, gl, gc, ao, l, cp, rfl, h2, h3, h4⟩ := h
  have bb := (Below.refl w.heap.size w).alloc (Nat.le_refl _) (.cells #[.int .i64 t.start, .slice go gl gc, .slice ao l cp] 30)
  have HG := hidI (h3.below bb); have HD := hidI (h4.below bb); have HB := hidI bb
  clear bb
  by_cases hneg : szInts t.goal.length 1048576 < 0
  · have HF := hidI (show szTasks t 1048576 = -1 by unfold szTasks; rw [if_pos hneg])
    go_enter Try.func14, Try.ntmps14
    go_wp2_with fail
    refine (szIntS_any _ _ _ _ HG.out (by omega) (by omega)).mono ?_; rintro e w' ⟨rfl, rfl⟩
    go_wp2_with fail
    go_ret
    exact ⟨ret_int HF.out.symm, HB.out⟩
  · have HF := hidI (show szTasks t 1048576 = szDeeds t.deeds (szInts t.goal.length 1048576) by unfold szTasks; rw [if_neg hneg])
    obtain ⟨e1, e2⟩ := szInts_le (by omega) hneg
    have hz1 : 0 ≤ szInts t.goal.length 1048576 := by omega
    have hz2 : szInts t.goal.length 1048576 ≤ 1048576 := by omega
    clear e2
    go_enter Try.func14, Try.ntmps14
    go_wp2_with fail
    refine (szIntS_any _ _ _ _ HG.out (by omega) (by omega)).mono ?_; rintro e w' ⟨rfl, rfl⟩
    go_wp2_with fail
    refine (szDeedS_any _ _ _ _ HD.out hz1 hz2).mono ?_; rintro e w5 ⟨rfl, b5⟩
    by_cases hn2 : szDeeds t.deeds (szInts t.goal.length 1048576) < 0
    · have hm : szDeeds t.deeds (szInts t.goal.length 1048576) = -1 := by
        unfold szDeeds at *
        by_cases c : szInts t.goal.length 1048576 - t.deeds.length < 0
        · rw [if_pos c]
        · rw [if_neg c] at hn2 ⊢
          exact szGo_neg _ _ (by omega) hn2
      have HM := hidI hm; clear hm
      go_wp2_with fail
      go_ret
      exact ⟨ret_int (by rw [HF.out, HM.out]), HB.out.trans (b5.mono (by simp))⟩
    · go_wp2_with fail
      go_ret
      exact ⟨ret_int HF.out.symm, HB.out.trans (b5.mono (by simp))⟩

theorem infoDeed : (Try.prog.info? 46).map (fun i => (i.zero, i.size, i.bytes)) = some (some (.agg #[.slice none 0 0, .int .i64 0, .int .i64 0, .int .i64 0]), 4, 48) := by kernel_rfl

/-- Block g holds, from its head on, the first k deeds of ds, their conditions in other blocks. -/
def DeedRow (base : Nat) (w : World) (g : Nat) (n k : Nat) (ds : List DeedM) : Prop :=
  ∃ c : Array Value, w.heap[g]? = some (.cells c 46 (0, 0)) ∧ c.size = n * 4 ∧ ∀ j d, j < k → ds[j]? = some d →
    ∃ b m, c[j * 4]? = some (.slice (some ⟨b, 0, none⟩) m m) ∧ c[j * 4 + 1]? = some (.int .i64 d.on) ∧ c[j * 4 + 2]? = some (.int .i64 d.off) ∧ c[j * 4 + 3]? = some (.int .i64 d.flip) ∧ base ≤ b ∧ b ≠ g ∧
      IsDeed w (.agg #[.slice (some ⟨b, 0, none⟩) m m, .int .i64 d.on, .int .i64 d.off, .int .i64 d.flip]) d

theorem DeedRow.below {base : Nat} {w w' : World} {g n k : Nat} {ds : List DeedM} (h : DeedRow base w g n k ds) (hb : Below w.heap.size w w') : DeedRow base w' g n k ds := by
  obtain ⟨c, h1, h2, h3⟩ := h
  refine ⟨c, (hb.block g (Array.getElem?_eq_some_iff.1 h1).1).trans h1, h2, fun j d hj hd => ?_⟩
  obtain ⟨b, m, a0, a1, a2, a3, a6, a4, a5⟩ := h3 j d hj hd
  exact ⟨b, m, a0, a1, a2, a3, a6, a4, a5.below hb⟩

theorem IsDeed.setCell {w : World} {b m : Nat} {d : DeedM} (h : IsDeed w (.agg #[.slice (some ⟨b, 0, none⟩) m m, .int .i64 d.on, .int .i64 d.off, .int .i64 d.flip]) d) (g i : Nat) (u : Value) (hne : b ≠ g) :
    IsDeed (w.setCell ⟨g, i, none⟩ u) (.agg #[.slice (some ⟨b, 0, none⟩) m m, .int .i64 d.on, .int .i64 d.off, .int .i64 d.flip]) d := by
  obtain ⟨ao, l, cp, e, h1, h2⟩ := h
  refine ⟨ao, l, cp, e, ?_, h2⟩
  simp only [Value.agg.injEq] at e
  have e0 : Value.slice (some ⟨b, 0, none⟩) m m = .slice ao l cp := by
    have := congrArg (fun a : Array Value => a.getD 0 undef) e
    simpa using this
  injection e0 with e1 e2 e3
  subst e1
  exact h1.setCell g i u (by intro k hk; simp [Value.ownBlock] at hk; omega)

/-- One deed more. -/
theorem DeedRow.put {base : Nat} {w : World} {g n k b m : Nat} {ds : List DeedM} {d : DeedM} (h : DeedRow base w g n k ds) (hk : k < n) (hd : ds[k]? = some d) (hbb : base ≤ b) (hb : b ≠ g)
    (hI : IsDeed w (.agg #[.slice (some ⟨b, 0, none⟩) m m, .int .i64 d.on, .int .i64 d.off, .int .i64 d.flip]) d) :
    DeedRow base ((((w.setCell ⟨g, k * 4, none⟩ (.slice (some ⟨b, 0, none⟩) m m)).setCell ⟨g, k * 4 + 1, none⟩ (.int .i64 d.on)).setCell ⟨g, k * 4 + 2, none⟩ (.int .i64 d.off)).setCell ⟨g, k * 4 + 3, none⟩ (.int .i64 d.flip)) g n (k + 1) ds := by
  obtain ⟨c, h1, h2, h3⟩ := h
  refine ⟨_, blk_set (blk_set (blk_set (blk_set h1 _ _) _ _) _ _) _ _, by simpa using h2, fun j e hj he => ?_⟩
  by_cases hjk : j = k
  · subst hjk
    obtain rfl : d = e := by rw [hd] at he; exact Option.some.inj he
    refine ⟨b, m, ?_, ?_, ?_, ?_, hbb, hb, (((hI.setCell _ _ _ hb).setCell _ _ _ hb).setCell _ _ _ hb).setCell _ _ _ hb⟩
    all_goals simp [Array.getElem?_setIfInBounds, h2]
    all_goals omega
  · obtain ⟨b', m', a0, a1, a2, a3, a6, a4, a5⟩ := h3 j e (by omega) he
    refine ⟨b', m', ?_, ?_, ?_, ?_, a6, a4, (((a5.setCell _ _ _ a4).setCell _ _ _ a4).setCell _ _ _ a4).setCell _ _ _ a4⟩
    all_goals
      simp only [Array.getElem?_setIfInBounds]
      rw [if_neg (by omega), if_neg (by omega), if_neg (by omega), if_neg (by omega)]
      assumption

/-- A store below the base. -/
theorem DeedRow.setOther {base : Nat} {w : World} {g n k : Nat} {ds : List DeedM} (h : DeedRow base w g n k ds) (g' i : Nat) (u : Value) (h1 : g' < base) (h2 : g ≠ g') : DeedRow base (w.setCell ⟨g', i, none⟩ u) g n k ds := by
  obtain ⟨c, e1, e2, e3⟩ := h
  refine ⟨c, (Below.heap_setCell _ _ _ _ (by simpa using h2)).trans e1, e2, fun j d hj hd => ?_⟩
  obtain ⟨b, m, a0, a1, a2, a3, a6, a4, a5⟩ := e3 j d hj hd
  exact ⟨b, m, a0, a1, a2, a3, a6, a4, a5.setCell g' i u (by omega)⟩

theorem DeedS.ofRow {base : Nat} {w : World} {g n : Nat} {ds : List DeedM} (h : DeedRow base w g n ds.length ds) (hn : n = ds.length) (hm : n ≤ maxLen) : DeedS w (.slice (some ⟨g, 0, none⟩) n n) ds := by
  subst hn
  obtain ⟨c, h1, h2, h3⟩ := h
  refine ⟨_, _, rfl, Nat.le_refl _, hm, .inr ⟨g, 0, rfl, (Array.getElem?_eq_some_iff.1 h1).1, fun k d hd => ?_⟩⟩
  obtain ⟨b, m, a0, a1, a2, a3, _, a4, a5⟩ := h3 k d (Array.getElem?_eq_some_iff.1 (by simpa using hd) |>.1) hd
  exact ⟨_, _, _, by rw [Nat.zero_add, blk_cell h1, a0], by rw [Nat.zero_add, blk_cell h1, a1], by rw [Nat.zero_add, blk_cell h1, a2], by rw [Nat.zero_add, blk_cell h1, a3], a5⟩

set_option maxHeartbeats 1000000 in
theorem toDeedS_any (ds : List DeedM) (v : Value) (w : World) (h : DeedS w v ds) (hl : ds.length ≤ 1048576) (hn : ∀ d ∈ ds, d.need.length ≤ 1048576) :
    Calls Try.prog 42 #[v] w fun e w' => ∃ g, e = .returned (.slice (some ⟨g, 0, none⟩) ds.length ds.length) ∧ DeedRow w.heap.size w' g ds.length ds.length ds ∧ w.heap.size ≤ g ∧ Below w.heap.size w w' := by
  obtain ⟨ao, cap, rfl, hcap, hmax, hcells⟩ := h
  unfold maxLen at hmax
  obtain ⟨i, hi, hz, hsz, hby⟩ := info_parts infoDeed
  have hmk : ∀ w, (Instr.makeSlice 33 (.int .i64 ds.length) (.int .i64 ds.length)).run Try.prog w = .ok (.slice (some ⟨w.heap.size, 0, none⟩) ds.length ds.length) (w.alloc (.cells (madeCells #[.slice none 0 0, .int .i64 0, .int .i64 0, .int .i64 0] (ds.length * 4)) 46)) := fun w => by
    have := run_make (P := Try.prog) w 33 46 i _ Try.underlying33 hi hz .i64 .i64 ds.length ds.length (by omega) (Int.le_refl _) (by rw [hby]; omega) (by omega)
    simpa [hsz, Value.cells] using this
  have HN := hidI hn; clear hn hi hz hsz hby
  have HM := hidI hmk
  by_cases h0 : ds = []
  · subst h0
    have hmk0 : ∀ w, (Instr.makeSlice 33 (.int .i64 0) (.int .i64 0)).run Try.prog w = .ok (.slice (some ⟨w.heap.size, 0, none⟩) 0 0) (w.alloc (.cells (madeCells #[.slice none 0 0, .int .i64 0, .int .i64 0, .int .i64 0] 0) 46)) := fun w => by simpa using HM.out w
    clear hmk
    go_enter Try.func42, Try.ntmps42
    go_wp2_with fail
    refine wp_loop_rounds 1 ?_
    rw [rounds_succ]
    go_wp2_with fail
    go_ret
    exact ⟨_, rfl, ⟨_, heap_alloc_new _ _, by rw [size_madeCells], fun j d hj => by simp at hj⟩, Nat.le_refl _, (Below.refl _ _).alloc (Nat.le_refl _) _⟩
  · rcases hcells with ⟨hnil, _⟩ | ⟨b, off, hao, hb, hcc⟩
    · exact absurd hnil h0
    · subst hao
      go_enter Try.func42, Try.ntmps42
      go_wp2_with fail
      go_loopw [4] (fun q wr => ∃ k : Nat, k ≤ ds.length ∧ q = .int .i64 k ∧ Hid (DeedRow w.heap.size wr w.heap.size ds.length k ds) ∧ Hid (Below w.heap.size w wr)) (fun q _ => ds.length - (intOf q).toNat)
      case atStart =>
        refine ⟨0, by omega, rfl, hidI ⟨_, heap_alloc_new _ _, by rw [size_madeCells], fun j d hj => by omega⟩, hidI ((Below.refl _ _).alloc (Nat.le_refl _) _)⟩
      case round =>
        clear hmk
        obtain ⟨k, hk, rfl, HR, HBr⟩ := hrel
        by_cases hlt : k < ds.length
        · obtain ⟨d, hd⟩ : ∃ d, ds[k]? = some d := ⟨ds[k], List.getElem?_eq_getElem hlt⟩
          obtain ⟨so, l, cp', q0, q1, q2, q3, hde⟩ := hcc k d hd
          have r0 := (HBr.out.cell (p := ⟨b, off + k * 4, none⟩) hb).trans q0
          have r1 := (HBr.out.cell (p := ⟨b, off + k * 4 + 1, none⟩) hb).trans q1
          have r2 := (HBr.out.cell (p := ⟨b, off + k * 4 + 2, none⟩) hb).trans q2
          have r3 := (HBr.out.cell (p := ⟨b, off + k * 4 + 3, none⟩) hb).trans q3
          have HDE := hidI (hde.below HBr.out)
          have hnl : d.need.length ≤ 1048576 := HN.out d (List.mem_of_getElem? hd)
          have Hcc := hidI hcc; have Hd := hidI hd
          clear hcc q0 q1 q2 q3 hde hd
          go_wp2_with fail
          refine (toDeed_any d _ _ HDE.out (by omega)).mono ?_; rintro e w5 ⟨v5, rfl, h5, b5, g5, n5, rfl, hg5⟩
          have HR5 := hidI (HR.out.below b5)
          have HB5 := hidI (bthen HBr.out b5); clear b5
          have H5 := hidI h5; clear h5
          have hsb : w.heap.size < wr.heap.size := by obtain ⟨c0, e0, -⟩ := id HR.out; exact (Array.getElem?_eq_some_iff.1 e0).1
          obtain ⟨c, e1, e2, -⟩ := id HR5.out
          have hlt' : ∀ i, i < 4 → k * 4 + i < c.size := fun i hi => by omega
          obtain ⟨x0, y0⟩ : ∃ x, w5.cell? ⟨w.heap.size, k * 4, none⟩ = some x := ⟨_, (blk_cell e1 _).trans (Array.getElem?_eq_getElem (hlt' 0 (by omega)))⟩
          obtain ⟨x1, y1⟩ : ∃ x, w5.cell? ⟨w.heap.size, k * 4 + 1, none⟩ = some x := ⟨_, (blk_cell e1 _).trans (Array.getElem?_eq_getElem (hlt' 1 (by omega)))⟩
          obtain ⟨x2, y2⟩ : ∃ x, w5.cell? ⟨w.heap.size, k * 4 + 2, none⟩ = some x := ⟨_, (blk_cell e1 _).trans (Array.getElem?_eq_getElem (hlt' 2 (by omega)))⟩
          obtain ⟨x3, y3⟩ : ∃ x, w5.cell? ⟨w.heap.size, k * 4 + 3, none⟩ = some x := ⟨_, (blk_cell e1 _).trans (Array.getElem?_eq_getElem (hlt' 3 (by omega)))⟩
          have z0 := blk_frozen e1 (k * 4); have z1 := blk_frozen e1 (k * 4 + 1); have z2 := blk_frozen e1 (k * 4 + 2); have z3 := blk_frozen e1 (k * 4 + 3)
          clear e1 e2 hlt'
          go_wp2_with fail
          go_roundw
          case rel =>
            exact ⟨k + 1, by omega, by go_num, hidI (HR5.out.put hlt Hd.out (by omega) (by omega) H5.out), hidI ((((HB5.out.setCell (Nat.le_refl _) _).setCell (Nat.le_refl _) _).setCell (Nat.le_refl _) _).setCell (Nat.le_refl _) _)⟩
          case measure => simp [intOf]; omega
        · obtain rfl : k = ds.length := by omega
          go_wp2_with fail
          go_ret
          exact ⟨_, rfl, HR.out, Nat.le_refl _, HBr.out⟩

theorem toTask_any (t : TaskM) (v : Value) (w : World) (h : IsTask w v t) (hs : t.goal.length ≤ 1048576 ∧ t.deeds.length ≤ 1048576 ∧ ∀ d ∈ t.deeds, d.need.length ≤ 1048576) :
    Calls Try.prog 16 #[v] w fun e w' => ∃ v', e = .returned v' ∧ IsTask w' v' t ∧ Below w.heap.size w w' := by
  obtain ⟨go, gl, gc, ao, l, cp, rfl, h2, h3, h4⟩ := h
  obtain ⟨hs1, hs2, hs3⟩ := hs
  have HS3 := hidI hs3; clear hs3
  go_enter Try.func16, Try.ntmps16
  go_wp2_with fail
  refine (toIntS_ex t.goal _ _ (h3.below ((((Below.refl _ _).alloc (Nat.le_refl _) _).alloc (by simp) _).alloc (by simp only [World.size_alloc]; omega) _)) (by omega)).mono ?_; rintro e w1 ⟨rfl, rfl⟩
  go_wp2_with fail
  refine (toDeedS_any t.deeds _ _ (h4.below (((((Below.refl _ _).alloc (Nat.le_refl _) _).alloc (by simp) _).alloc (by simp only [World.size_alloc]; omega) _).alloc (by simp only [World.size_alloc]; omega) _)) hs2 HS3.out).mono ?_; rintro e w5 ⟨g, rfl, h5, hg, b5⟩
  have f1 : w5.heap[w.heap.size + 1]? = some (.cells #[.int .i64 0, .slice none 0 0, .slice none 0 0] 35 (0, 0)) := (b5.block _ (by simp only [World.size_alloc]; omega)).trans (by
    rw [Below.heap_alloc _ _ _ (by simp only [World.size_alloc]; omega), Below.heap_alloc _ _ _ (by simp only [World.size_alloc]; omega)]
    simpa using heap_alloc_new (w.alloc (.cells #[.int .i64 t.start, .slice go gl gc, .slice ao l cp] 30)) (.cells #[.int .i64 0, .slice none 0 0, .slice none 0 0] 35))
  have f2 : w5.heap[w.heap.size + 1 + 1]? = some (.cells #[.int .i64 t.start, .slice (some ⟨w.heap.size + 3, 0, none⟩) t.goal.length t.goal.length, .slice none 0 0] 35 (0, 0)) := (b5.block _ (by simp only [World.size_alloc]; omega)).trans (by
    rw [Below.heap_alloc _ _ _ (by simp only [World.size_alloc]; omega)]
    simpa using heap_alloc_new ((w.alloc (.cells #[.int .i64 t.start, .slice go gl gc, .slice ao l cp] 30)).alloc (.cells #[.int .i64 0, .slice none 0 0, .slice none 0 0] 35)) (.cells #[.int .i64 t.start, .slice (some ⟨w.heap.size + 3, 0, none⟩) t.goal.length t.goal.length, .slice none 0 0] 35))
  have c10 : w5.cell? ⟨w.heap.size + 1, 0, none⟩ = some (.int .i64 0) := blk_cell f1 0
  have c11 : w5.cell? ⟨w.heap.size + 1, 1, none⟩ = some (.slice none 0 0) := blk_cell f1 1
  have c12 : w5.cell? ⟨w.heap.size + 1, 2, none⟩ = some (.slice none 0 0) := blk_cell f1 2
  have c20 : w5.cell? ⟨w.heap.size + 1 + 1, 0, none⟩ = some (.int .i64 t.start) := blk_cell f2 0
  have c21 : w5.cell? ⟨w.heap.size + 1 + 1, 1, none⟩ = some (.slice (some ⟨w.heap.size + 3, 0, none⟩) t.goal.length t.goal.length) := blk_cell f2 1
  have c22 : w5.cell? ⟨w.heap.size + 1 + 1, 2, none⟩ = some (.slice none 0 0) := blk_cell f2 2
  have z10 := blk_frozen f1 0; have z11 := blk_frozen f1 1; have z12 := blk_frozen f1 2
  have z20 := blk_frozen f2 0; have z21 := blk_frozen f2 1; have z22 := blk_frozen f2 2
  clear f1 f2
  have H5 := hidI h5; have HB5 := hidI b5; clear h5 b5
  have hg4 : w.heap.size + 4 ≤ g := by simpa using hg
  have hI3 := IntS.ofRow (t := 3) (f := fun j => .int .i64 (t.goal.getD j 0)) (w := w5) (b := w.heap.size + 3) (by
      refine World.rowIs.of_block (w := (((w.alloc (.cells #[.int .i64 t.start, .slice go gl gc, .slice ao l cp] 30)).alloc (.cells #[.int .i64 0, .slice none 0 0, .slice none 0 0] 35)).alloc (.cells #[.int .i64 t.start, .slice (some ⟨w.heap.size + 3, 0, none⟩) t.goal.length t.goal.length, .slice none 0 0] 35)).alloc (.cells (intCells t.goal) 3)) ?_ (HB5.out.block _ (by simp only [World.size_alloc]; omega))
      have h3 : ∀ (W : World), W.heap.size = w.heap.size + 3 → (W.alloc (.cells (intCells t.goal) 3)).rowIs (w.heap.size + 3) 3 t.goal.length (fun j => .int .i64 (t.goal.getD j 0)) := fun W h => by rw [← h]; exact row_intCells _ _ _
      exact h3 _ (by simp)) (fun _ _ => rfl) h3.1 (by unfold maxLen; omega)
  have HI3 := hidI hI3; clear hI3 hg
  go_wp2_with fail
  refine bodyPost_ret (v := .agg #[.int .i64 t.start, .slice (some ⟨w.heap.size + 3, 0, none⟩) t.goal.length t.goal.length, .slice (some ⟨g, 0, none⟩) t.deeds.length t.deeds.length]) (by simp [results, Try.results16, go_sem, c10, c11, c12]) rfl ?_
  refine ⟨_, rfl, ⟨_, _, _, _, _, _, rfl, h2, ?_, ?_⟩, ?_⟩
  · exact (((HI3.out.setCell _ _ _ (by intro k hk; simp [Value.ownBlock] at hk; omega)).setCell _ _ _ (by intro k hk; simp [Value.ownBlock] at hk; omega)).setCell _ _ _ (by intro k hk; simp [Value.ownBlock] at hk; omega)).setCell _ _ _ (by intro k hk; simp [Value.ownBlock] at hk; omega)
  · exact DeedS.ofRow ((((H5.out.setOther _ _ _ (by simp only [World.size_alloc]; omega) (by omega)).setOther _ _ _ (by simp only [World.size_alloc]; omega) (by omega)).setOther _ _ _ (by simp only [World.size_alloc]; omega) (by omega)).setOther _ _ _ (by simp only [World.size_alloc]; omega) (by omega)) rfl (by unfold maxLen; omega)
  · have B4 := ((((Below.refl w.heap.size w).alloc (Nat.le_refl _) (.cells #[.int .i64 t.start, .slice go gl gc, .slice ao l cp] 30)).alloc (by simp) (.cells #[.int .i64 0, .slice none 0 0, .slice none 0 0] 35)).alloc (by simp only [World.size_alloc]; omega) (.cells #[.int .i64 t.start, .slice (some ⟨w.heap.size + 3, 0, none⟩) t.goal.length t.goal.length, .slice none 0 0] 35)).alloc (by simp only [World.size_alloc]; omega) (.cells (intCells t.goal) 3)
    have B5 := B4.trans (HB5.out.mono (by simp only [World.size_alloc]; omega))
    exact (((B5.setCell (show w.heap.size ≤ w.heap.size + 1 + 1 by omega) _).setCell (show w.heap.size ≤ w.heap.size + 1 by omega) _).setCell (show w.heap.size ≤ w.heap.size + 1 by omega) _).setCell (show w.heap.size ≤ w.heap.size + 1 by omega) _

set_option maxHeartbeats 1000000 in
theorem eqDeedS_any (ds : List DeedM) (v u : Value) (w : World) (h : DeedS w v ds) (h' : DeedS w u ds) :
    Calls Try.prog 46 #[v, u] w fun e w' => e = .returned (.bool true) ∧ Below w.heap.size w w' := by
  obtain ⟨ao, cap, rfl, hcap, hmax, hcells⟩ := h
  obtain ⟨ao', cap', rfl, hcap', hmax', hcells'⟩ := h'
  unfold maxLen at hmax hmax'
  by_cases h0 : ds = []
  · subst h0
    go_enter Try.func46, Try.ntmps46
    go_wp2_with fail
    refine wp_loop_rounds 1 ?_
    rw [rounds_succ]
    go_wp2_with fail
    go_ret
    exact ⟨rfl, Below.refl _ _⟩
  · rcases hcells with ⟨hnil, _⟩ | ⟨b, off, hao, hb, hcc⟩
    · exact absurd hnil h0
    rcases hcells' with ⟨hnil, _⟩ | ⟨b', off', hao', hb', hcc'⟩
    · exact absurd hnil h0
    subst hao; subst hao'
    have H0 := hidI h0; clear h0
    go_enter Try.func46, Try.ntmps46
    go_wp2_with fail
    go_loopw [5] (fun q wr => ∃ k : Nat, k ≤ ds.length ∧ q = .int .i64 k ∧ Hid (Below w.heap.size w wr)) (fun q _ => ds.length - (intOf q).toNat)
    case atStart => exact ⟨0, by omega, rfl, hidI (Below.refl _ _)⟩
    case round =>
      obtain ⟨k, hk, rfl, HBr⟩ := hrel
      by_cases hlt : k < ds.length
      · obtain ⟨d, hd⟩ : ∃ d, ds[k]? = some d := ⟨ds[k], List.getElem?_eq_getElem hlt⟩
        obtain ⟨so, l, cp', q0, q1, q2, q3, hde⟩ := hcc k d hd
        obtain ⟨so', l', cp'', q0', q1', q2', q3', hde'⟩ := hcc' k d hd
        have CC : ∀ W, Below w.heap.size w W → W.cell? ⟨b, off + k * 4, none⟩ = some (.slice so l cp') ∧ W.cell? ⟨b, off + k * 4 + 1, none⟩ = some (.int .i64 d.on) ∧ W.cell? ⟨b, off + k * 4 + 2, none⟩ = some (.int .i64 d.off) ∧ W.cell? ⟨b, off + k * 4 + 3, none⟩ = some (.int .i64 d.flip) ∧
            W.cell? ⟨b', off' + k * 4, none⟩ = some (.slice so' l' cp'') ∧ W.cell? ⟨b', off' + k * 4 + 1, none⟩ = some (.int .i64 d.on) ∧ W.cell? ⟨b', off' + k * 4 + 2, none⟩ = some (.int .i64 d.off) ∧ W.cell? ⟨b', off' + k * 4 + 3, none⟩ = some (.int .i64 d.flip) := fun W hW =>
          ⟨(hW.cell hb).trans q0, (hW.cell hb).trans q1, (hW.cell hb).trans q2, (hW.cell hb).trans q3, (hW.cell hb').trans q0', (hW.cell hb').trans q1', (hW.cell hb').trans q2', (hW.cell hb').trans q3'⟩
        have HCC := hidI CC
        have HD := hidI hde; have HD' := hidI hde'
        have Hcc := hidI hcc; have Hcc' := hidI hcc'; have Hd := hidI hd
        obtain ⟨a0, a1, a2, a3, a4, a5, a6, a7⟩ := CC _ HBr.out
        have hk1 : (k : Int) < (ds.length : Int) := by omega
        clear CC hcc hcc' q0 q1 q2 q3 q0' q1' q2' q3' hde hde' hd
        go_wp2_with fail
        go_region_held3 (fun W => W.cell? ⟨b, off + k * 4, none⟩ = some (.slice so l cp') ∧ W.cell? ⟨b, off + k * 4 + 1, none⟩ = some (.int .i64 d.on) ∧ W.cell? ⟨b, off + k * 4 + 2, none⟩ = some (.int .i64 d.off) ∧ W.cell? ⟨b, off + k * 4 + 3, none⟩ = some (.int .i64 d.flip) ∧ W.cell? ⟨b', off' + k * 4, none⟩ = some (.slice so' l' cp'') ∧ W.cell? ⟨b', off' + k * 4 + 1, none⟩ = some (.int .i64 d.on) ∧ W.cell? ⟨b', off' + k * 4 + 2, none⟩ = some (.int .i64 d.off) ∧ W.cell? ⟨b', off' + k * 4 + 3, none⟩ = some (.int .i64 d.flip) ∧ Hid (Below w.heap.size w W))
          (first | exact ⟨a0, a1, a2, a3, a4, a5, a6, a7, hidI HBr.out.drew⟩ | (refine ⟨?_, ?_, ?_, ?_, ?_, ?_, ?_, ?_, ?_⟩ <;> assumption))
          (first | (go_at_call 71; refine (eqDeed_any d _ _ _ (HD.out.below HBr.out.drew) (HD'.out.below HBr.out.drew)).mono ?_; rintro e w7 ⟨rfl, b7⟩; have q7 := hidI (HBr.out.drew.trans (b7.mono HBr.out.size)); obtain ⟨x0, x1, x2, x3, x4, x5, x6, x7⟩ := HCC.out _ q7.out))
        go_wp2_with fail
        go_roundw
        case rel => exact ⟨k + 1, by omega, by go_num, q7⟩
        case measure => simp [intOf]; omega
      · go_wp2_with fail
        go_ret
        exact ⟨rfl, HBr.out⟩

theorem eqTask_any (t : TaskM) (v u : Value) (w : World) (h : IsTask w v t) (h' : IsTask w u t) :
    Calls Try.prog 18 #[v, u] w fun e w' => e = .returned (.bool true) ∧ Below w.heap.size w w' := by
  obtain ⟨go, gl, gc, ao, l, cp, rfl, h2, h3, h4⟩ := h
  obtain ⟨go', gl', gc', ao', l', cp', rfl, k2, k3, k4⟩ := h'
  have b1 := ((Below.refl w.heap.size w).alloc (Nat.le_refl _) (.cells #[.int .i64 t.start, .slice go gl gc, .slice ao l cp] 35)).alloc (by simp) (.cells #[.int .i64 t.start, .slice go' gl' gc', .slice ao' l' cp'] 35)
  have HA := hidI (h3.below b1); have HB := hidI (k3.below b1)
  have HD := hidI h4; have HE := hidI k4
  have HC := hidI b1; clear b1
  go_enter Try.func18, Try.ntmps18
  go_wp2_with fail
  refine (eqIntS_any _ _ _ _ _ HA.out HB.out).mono ?_; rintro e w' ⟨rfl, n, rfl⟩
  simp only [decide_true]
  have B2 := hidI (HC.out.trans ((bdraw _ n).mono (by simp only [World.size_alloc]; omega)))
  go_wp2_with fail
  refine (eqDeedS_any _ _ _ _ (HD.out.below B2.out) (HE.out.below B2.out)).mono ?_; rintro e w7 ⟨rfl, b7⟩
  go_wp2_with fail
  go_ret
  exact ⟨rfl, B2.out.trans (b7.mono B2.out.size)⟩
end Go.Proofs.Ytndbfdgflflfpaa
