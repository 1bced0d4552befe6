/- The laws' helpers that mark what a task holds: toTask with where it lies, markDeedS, markTask. -/
import Derived.Test.YtndbfdgflflfpaaTaskL
import Derived.Test.YtndbfdgflflfpaaMark
import Derived.Outline
namespace Go.Proofs.Ytndbfdgflflfpaa
open Go.RowKit Go.ChangeShapes Go.WideShapes Go.ChangeAt Go.Joins

/-- What was before is as it was, but for blocks from lo up to hi. -/
structure Inside (lo hi : Nat) (w w' : World) : Prop where
  os : w'.os = w.os
  tape : w'.tape = w.tape
  output : w'.output = w.output
  size : w.heap.size ≤ w'.heap.size
  block : ∀ i, i < w.heap.size → (i < lo ∨ hi ≤ i) → w'.heap[i]? = w.heap[i]?

theorem Inside.refl (lo hi : Nat) (w : World) : Inside lo hi w w := ⟨rfl, rfl, rfl, Nat.le_refl _, fun _ _ _ => rfl⟩
theorem Inside.trans {lo hi : Nat} {a b c : World} (h : Inside lo hi a b) (k : Inside lo hi b c) : Inside lo hi a c :=
  ⟨k.os.trans h.os, k.tape.trans h.tape, k.output.trans h.output, Nat.le_trans h.size k.size, fun i hi hr => (k.block i (Nat.lt_of_lt_of_le hi h.size) hr).trans (h.block i hi hr)⟩
theorem Inside.grown {lo hi g : Nat} {w w' : World} (h : w.grownBy w' (some g)) (h1 : lo ≤ g) (h2 : g < hi) : Inside lo hi w w' :=
  ⟨h.os, h.tape, h.output, h.size, fun i hi hr => h.block i hi (fun e => by injection e with e; omega)⟩
theorem Inside.alloc {lo hi : Nat} {w : World} (o : Obj) : Inside lo hi w (w.alloc o) := ⟨rfl, rfl, rfl, by simp, fun i hi _ => Below.heap_alloc w o i hi⟩
theorem Inside.below {lo hi base : Nat} {w w' : World} (h : Inside lo hi w w') (hb : base ≤ lo) (hs : base ≤ w.heap.size) : Below base w w' :=
  ⟨h.os, h.tape, h.output, h.size, fun i hi => h.block i (by omega) (.inl (by omega))⟩
theorem own_inside {lo hi base : Nat} {w w' : World} {e : TypeId} {v : Value} {n : Nat} {xs : List Value} (h : w.ownsRow base e 1 v n xs) (k : Inside lo hi w w') (hv : ∀ g, v.ownBlock = some g → g < lo ∨ hi ≤ g) : w'.ownsRow base e 1 v n xs := by
  obtain ⟨h1, h2⟩ := h
  rcases h2 with h2 | ⟨g, cap, cur, a1, a2, a3, a4⟩
  · exact ⟨h1, .inl h2⟩
  · refine ⟨h1, .inr ⟨g, cap, cur, a1, a2, ?_, a4⟩⟩
    rw [k.block g (Array.getElem?_eq_some_iff.1 a3).1 (hv g (by rw [a1]; rfl))]; exact a3

/-- Block D holds k deeds whose conditions lie in blocks of their own. -/
def NRows (base : Nat) (w : World) (D n k : Nat) (ds : List DeedM) : Prop :=
  ∃ (c : Array Value) (gs : Nat → Nat), w.heap[D]? = some (.cells c 46 (0, 0)) ∧ c.size = n * 4 ∧ (∀ j d, j < k → ds[j]? = some d → c[j * 4]? = some (.slice (some ⟨gs j, 0, none⟩) d.need.length d.need.length) ∧ D < gs j ∧ gs j < w.heap.size ∧
    ∃ xs, w.ownsRow base 3 1 (.slice (some ⟨gs j, 0, none⟩) d.need.length d.need.length) d.need.length xs) ∧ ∀ i j, i < j → j < k → gs i < gs j

theorem own_belowM {w w' : World} {base : Nat} {e : TypeId} {v : Value} {n : Nat} {xs : List Value} (h : w.ownsRow base e 1 v n xs) (hb : Below w.heap.size w w') : w'.ownsRow base e 1 v n xs := by
  obtain ⟨h1, h2⟩ := h
  rcases h2 with h2 | ⟨g, cap, cur, a1, a2, a3, a4⟩
  · exact ⟨h1, .inl h2⟩
  · exact ⟨h1, .inr ⟨g, cap, cur, a1, a2, by rw [hb.block g (Array.getElem?_eq_some_iff.1 a3).1]; exact a3, a4⟩⟩

theorem NRows.below {base : Nat} {w w' : World} {D n k : Nat} {ds : List DeedM} (h : NRows base w D n k ds) (hb : Below w.heap.size w w') : NRows base w' D n k ds := by
  obtain ⟨c, gs, h1, h2, h3, h4⟩ := h
  refine ⟨c, gs, (hb.block D (Array.getElem?_eq_some_iff.1 h1).1).trans h1, h2, fun j d hj hd => ?_, h4⟩
  obtain ⟨a1, a2, a3, xs, a4⟩ := h3 j d hj hd
  exact ⟨a1, a2, Nat.lt_of_lt_of_le a3 hb.size, xs, own_belowM a4 hb⟩

theorem NRows.lt {base : Nat} {w : World} {D n k : Nat} {ds : List DeedM} (h : NRows base w D n k ds) : D < w.heap.size := by
  obtain ⟨c, gs, h1, _⟩ := h
  exact (Array.getElem?_eq_some_iff.1 h1).1

/-- A store into the deeds' block that leaves the conditions where they are. -/
theorem NRows.set {base : Nat} {w : World} {D n k : Nat} {ds : List DeedM} (h : NRows base w D n k ds) (i : Nat) (u : Value) (hi : ∀ j, j < k → i ≠ j * 4) : NRows base (w.setCell ⟨D, i, none⟩ u) D n k ds := by
  obtain ⟨c, gs, h1, h2, h3, h4⟩ := h
  refine ⟨_, gs, blk_set h1 i u, by simpa using h2, fun j d hj hd => ?_, h4⟩
  obtain ⟨a1, a2, a3, xs, a4⟩ := h3 j d hj hd
  refine ⟨?_, a2, by simpa [World.setCell] using a3, xs, own_grown a4 (grown_setCell w D i u) (fun q hq => by simp only [Value.ownBlock] at hq; injection hq with hq; omega)⟩
  rw [Array.getElem?_setIfInBounds, if_neg (hi j hj)]; exact a1

/-- A store into another block that is not a condition's. -/
theorem NRows.other {base : Nat} {w w' : World} {D n k g : Nat} {ds : List DeedM} (h : NRows base w D n k ds) (hg : w.grownBy w' (some g)) (hn : g < D) : NRows base w' D n k ds := by
  obtain ⟨c, gs, h1, h2, h3, h4⟩ := h
  refine ⟨c, gs, (hg.block D (Array.getElem?_eq_some_iff.1 h1).1 (by intro e; injection e with e; omega)).trans h1, h2, fun j d hj hd => ?_, h4⟩
  obtain ⟨a1, a2, a3, xs, a4⟩ := h3 j d hj hd
  exact ⟨a1, a2, Nat.lt_of_lt_of_le a3 hg.size, xs, own_grown a4 hg (fun q hq => by simp only [Value.ownBlock] at hq; injection hq with hq; omega)⟩

/-- One deed more. -/
theorem NRows.put {base : Nat} {w0 w : World} {D n k b : Nat} {ds : List DeedM} {d : DeedM} {xs : List Value} (h0 : NRows base w0 D n k ds) (hw : Below w0.heap.size w0 w) (hk : k < n) (hd : ds[k]? = some d) (hb : w0.heap.size ≤ b) (hbs : b < w.heap.size) (ho : w.ownsRow base 3 1 (.slice (some ⟨b, 0, none⟩) d.need.length d.need.length) d.need.length xs) :
    NRows base (w.setCell ⟨D, k * 4, none⟩ (.slice (some ⟨b, 0, none⟩) d.need.length d.need.length)) D n (k + 1) ds := by
  have hDl := h0.lt
  obtain ⟨c, gs, h1, h2, h3, h4⟩ := h0
  have hs1 : ∀ j, (fun j => if j = k then b else gs j) j = if j = k then b else gs j := fun _ => rfl
  refine ⟨_, fun j => if j = k then b else gs j, blk_set ((hw.block D hDl).trans h1) _ _, by simpa using h2, fun j e hj he => ?_, fun i j hij hj => ?_⟩
  · rw [hs1]
    by_cases hjk : j = k
    · subst hjk
      obtain rfl : d = e := by rw [hd] at he; exact Option.some.inj he
      rw [if_pos rfl]
      refine ⟨?_, by omega, by simpa [World.setCell] using hbs, xs, own_grown ho (grown_setCell w D _ _) (fun q hq => by simp only [Value.ownBlock] at hq; injection hq with hq; omega)⟩
      rw [Array.getElem?_setIfInBounds, if_pos rfl, if_pos (by omega)]
    · rw [if_neg hjk]
      obtain ⟨a1, a2, a3, ys, a4⟩ := h3 j e (by omega) he
      have a3' := Nat.lt_of_lt_of_le a3 hw.size
      refine ⟨?_, a2, by simpa [World.setCell] using a3', ys, own_grown (own_belowM a4 hw) (grown_setCell w D _ _) (fun q hq => by simp only [Value.ownBlock] at hq; injection hq with hq; omega)⟩
      rw [Array.getElem?_setIfInBounds, if_neg (by omega)]; exact a1
  · rw [hs1, hs1]
    by_cases hjk : j = k
    · rw [if_pos hjk, if_neg (by omega)]
      have hi : i < ds.length := by have := (List.getElem?_eq_some_iff.1 hd).1; omega
      have := (h3 i ds[i] (by omega) (List.getElem?_eq_getElem hi)).2.2.1
      omega
    · rw [if_neg hjk, if_neg (by omega)]
      exact h4 i j hij (by omega)

set_option maxHeartbeats 400000 in
theorem toDeed_own (d : DeedM) (v : Value) (w : World) (h : IsDeed w v d) (hl : d.need.length ≤ 4000000) :
    Calls Try.prog 69 #[v] w fun e w' => ∃ g, e = .returned (.agg #[.slice (some ⟨g, 0, none⟩) d.need.length d.need.length, .int .i64 d.on, .int .i64 d.off, .int .i64 d.flip]) ∧ IsDeed w' (.agg #[.slice (some ⟨g, 0, none⟩) d.need.length d.need.length, .int .i64 d.on, .int .i64 d.off, .int .i64 d.flip]) d ∧ Below w.heap.size w w' ∧ w.heap.size ≤ g ∧ g < w'.heap.size ∧
      ∃ xs, w'.ownsRow w.heap.size 3 1 (.slice (some ⟨g, 0, none⟩) d.need.length d.need.length) d.need.length xs := by
  obtain ⟨ao, l, cp, rfl, hn, hI⟩ := h
  go_enter Try.func69, Try.ntmps69
  go_wp2_with fail
  refine (toIntS_ex d.need _ _ (hn.below ((((Below.refl _ _).alloc (Nat.le_refl _) _).alloc (by simp) _).alloc (by simp only [World.size_alloc]; omega) _)) hl).mono ?_; rintro e w1 ⟨rfl, rfl⟩
  go_wp2_with fail
  go_returns
  have h3 : ∀ (W : World), W.heap.size = w.heap.size + 3 → (W.alloc (.cells (intCells d.need) 3)).rowIs (w.heap.size + 3) 3 d.need.length (fun j => .int .i64 (d.need.getD j 0)) := fun W h => by rw [← h]; exact row_intCells _ _ _
  refine ⟨_, rfl, ⟨_, _, _, rfl, ?_, hI⟩, ?_, by omega, by (try simp only [World.size_alloc]); omega, ?_⟩
  · refine IntS.ofRow (t := 3) (f := fun j => .int .i64 (d.need.getD j 0)) ?_ (fun _ _ => rfl) hn.1 (by unfold maxLen; omega)
    exact h3 _ (by simp)
  · exact ((((Below.refl _ _).alloc (Nat.le_refl _) _).alloc (by simp) _).alloc (by simp only [World.size_alloc]; omega) _).alloc (by simp only [World.size_alloc]; omega) _
  · refine ⟨d.need.map (Value.int .i64), own_base (own_of_row (h3 _ (by simp)) (by simp) (by intro j hj; simp [List.getD, hj]) (by unfold maxLen; omega)) (by omega)⟩

/-- toDeedS, with where it lies. -/
def DRowN (base : Nat) (w : World) (D n k : Nat) (ds : List DeedM) : Prop := DeedRow base w D n k ds ∧ NRows base w D n k ds

set_option maxHeartbeats 1000000 in
theorem toDeedS_own (ds : List DeedM) (v : Value) (w : World) (h : DeedS w v ds) (hl : ds.length ≤ 1048576) (hn : ∀ d ∈ ds, d.need.length ≤ 1048576) :
    Calls Try.prog 42 #[v] w fun e w' => e = .returned (.slice (some ⟨w.heap.size, 0, none⟩) ds.length ds.length) ∧ DRowN w.heap.size w' w.heap.size ds.length ds.length ds ∧ Below w.heap.size w w' := by
  obtain ⟨ao, cap, rfl, hcap, hmax, hcells⟩ := h
  unfold maxLen at hmax
  obtain ⟨i, hi, hz, hsz, hby⟩ := info_parts infoDeed
  have hmk : ∀ w, (Instr.makeSlice 33 (.int .i64 ds.length) (.int .i64 ds.length)).run Try.prog w = .ok (.slice (some ⟨w.heap.size, 0, none⟩) ds.length ds.length) (w.alloc (.cells (madeCells #[.slice none 0 0, .int .i64 0, .int .i64 0, .int .i64 0] (ds.length * 4)) 46)) := fun w => by
    have := run_make (P := Try.prog) w 33 46 i _ Try.underlying33 hi hz .i64 .i64 ds.length ds.length (by omega) (Int.le_refl _) (by rw [hby]; omega) (by omega)
    simpa [hsz, Value.cells] using this
  have HN := hidI hn; clear hn hi hz hsz hby
  have HM := hidI hmk
  have start : ∀ k, k = 0 → DRowN w.heap.size (w.alloc (.cells (madeCells #[.slice none 0 0, .int .i64 0, .int .i64 0, .int .i64 0] (ds.length * 4)) 46)) w.heap.size ds.length k ds := fun k hk => by
    subst hk
    exact ⟨⟨_, heap_alloc_new _ _, by rw [size_madeCells], fun j d hj => by omega⟩, ⟨_, fun _ => 0, heap_alloc_new _ _, by rw [size_madeCells], fun j d hj => by omega, fun i j _ hj => by omega⟩⟩
  have HS := hidI start; clear start
  by_cases h0 : ds = []
  · subst h0
    have hmk0 : ∀ w, (Instr.makeSlice 33 (.int .i64 0) (.int .i64 0)).run Try.prog w = .ok (.slice (some ⟨w.heap.size, 0, none⟩) 0 0) (w.alloc (.cells (madeCells #[.slice none 0 0, .int .i64 0, .int .i64 0, .int .i64 0] 0) 46)) := fun w => by simpa using HM.out w
    clear hmk
    go_enter Try.func42, Try.ntmps42
    go_wp2_with fail
    refine wp_loop_rounds 1 ?_
    rw [rounds_succ]
    go_wp2_with fail
    go_ret
    exact ⟨rfl, HS.out 0 rfl, (Below.refl _ _).alloc (Nat.le_refl _) _⟩
  · rcases hcells with ⟨hnil, _⟩ | ⟨b, off, hao, hb, hcc⟩
    · exact absurd hnil h0
    · subst hao
      go_enter Try.func42, Try.ntmps42
      go_wp2_with fail
      go_loopw [4] (fun q wr => ∃ k : Nat, k ≤ ds.length ∧ q = .int .i64 k ∧ Hid (DRowN w.heap.size wr w.heap.size ds.length k ds) ∧ Hid (Below w.heap.size w wr)) (fun q _ => ds.length - (intOf q).toNat)
      case atStart => exact ⟨0, by omega, rfl, hidI (HS.out 0 rfl), hidI ((Below.refl _ _).alloc (Nat.le_refl _) _)⟩
      case round =>
        clear hmk
        obtain ⟨k, hk, rfl, HR, HBr⟩ := hrel
        by_cases hlt : k < ds.length
        · obtain ⟨d, hd⟩ : ∃ d, ds[k]? = some d := ⟨ds[k], List.getElem?_eq_getElem hlt⟩
          obtain ⟨so, l, cp', q0, q1, q2, q3, hde⟩ := hcc k d hd
          have r0 := (HBr.out.cell (p := ⟨b, off + k * 4, none⟩) hb).trans q0
          have r1 := (HBr.out.cell (p := ⟨b, off + k * 4 + 1, none⟩) hb).trans q1
          have r2 := (HBr.out.cell (p := ⟨b, off + k * 4 + 2, none⟩) hb).trans q2
          have r3 := (HBr.out.cell (p := ⟨b, off + k * 4 + 3, none⟩) hb).trans q3
          have HDE := hidI (hde.below HBr.out)
          have hnl : d.need.length ≤ 1048576 := HN.out d (List.mem_of_getElem? hd)
          have Hcc := hidI hcc; have Hd := hidI hd
          clear hcc q0 q1 q2 q3 hde hd
          go_wp2_with fail
          refine (toDeed_own d _ _ HDE.out (by omega)).mono ?_; rintro e w5 ⟨g5, rfl, h5, b5, l5, l6, xs5, o5⟩
          have HR5 := hidI (HR.out.1.below b5)
          have HN5 := hidI b5
          have HB5 := hidI (bthen HBr.out b5); clear b5
          have H5 := hidI h5; have O5 := hidI o5; clear h5 o5
          have hsb : w.heap.size < wr.heap.size := HR.out.2.lt
          obtain ⟨c, e1, e2, -⟩ := id HR5.out
          have hlt' : ∀ i, i < 4 → k * 4 + i < c.size := fun i hi => by omega
          obtain ⟨x0, y0⟩ : ∃ x, w5.cell? ⟨w.heap.size, k * 4, none⟩ = some x := ⟨_, (blk_cell e1 _).trans (Array.getElem?_eq_getElem (hlt' 0 (by omega)))⟩
          obtain ⟨x1, y1⟩ : ∃ x, w5.cell? ⟨w.heap.size, k * 4 + 1, none⟩ = some x := ⟨_, (blk_cell e1 _).trans (Array.getElem?_eq_getElem (hlt' 1 (by omega)))⟩
          obtain ⟨x2, y2⟩ : ∃ x, w5.cell? ⟨w.heap.size, k * 4 + 2, none⟩ = some x := ⟨_, (blk_cell e1 _).trans (Array.getElem?_eq_getElem (hlt' 2 (by omega)))⟩
          obtain ⟨x3, y3⟩ : ∃ x, w5.cell? ⟨w.heap.size, k * 4 + 3, none⟩ = some x := ⟨_, (blk_cell e1 _).trans (Array.getElem?_eq_getElem (hlt' 3 (by omega)))⟩
          have z0 := blk_frozen e1 (k * 4); have z1 := blk_frozen e1 (k * 4 + 1); have z2 := blk_frozen e1 (k * 4 + 2); have z3 := blk_frozen e1 (k * 4 + 3)
          clear e1 e2 hlt'
          go_wp2_with fail
          go_roundw
          case rel =>
            refine ⟨k + 1, by omega, by go_num, hidI ⟨HR5.out.put hlt Hd.out (by omega) (by omega) H5.out, ?_⟩, hidI ((((HB5.out.setCell (Nat.le_refl _) _).setCell (Nat.le_refl _) _).setCell (Nat.le_refl _) _).setCell (Nat.le_refl _) _)⟩
            have hp := NRows.put HR.out.2 HN5.out hlt Hd.out l5 l6 (own_base O5.out HBr.out.size)
            exact ((hp.set (k * 4 + 1) _ (fun j _ => by omega)).set (k * 4 + 2) _ (fun j _ => by omega)).set (k * 4 + 3) _ (fun j _ => by omega)
          case measure => simp [intOf]; omega
        · obtain rfl : k = ds.length := by omega
          go_wp2_with fail
          go_ret
          exact ⟨rfl, HR.out, HBr.out⟩

theorem NRows.low {base base' : Nat} {w : World} {D n k : Nat} {ds : List DeedM} (h : NRows base w D n k ds) (hb : base' ≤ base) : NRows base' w D n k ds := by
  obtain ⟨c, gs, h1, h2, h3, h4⟩ := h
  refine ⟨c, gs, h1, h2, fun j d hj hd => ?_, h4⟩
  obtain ⟨a1, a2, a3, xs, a4⟩ := h3 j d hj hd
  exact ⟨a1, a2, a3, xs, own_base a4 hb⟩

/-- Where a task that was made lies. -/
def TOwn (base : Nat) (w : World) (G D : Nat) (t : TaskM) : Prop :=
  base ≤ G ∧ G < D ∧ (∃ xs, w.ownsRow base 3 1 (.slice (some ⟨G, 0, none⟩) t.goal.length t.goal.length) t.goal.length xs) ∧ NRows base w D t.deeds.length t.deeds.length t.deeds

theorem toTask_own (t : TaskM) (v : Value) (w : World) (h : IsTask w v t) (hs : t.goal.length ≤ 1048576 ∧ t.deeds.length ≤ 1048576 ∧ ∀ d ∈ t.deeds, d.need.length ≤ 1048576) :
    Calls Try.prog 16 #[v] w fun e w' => ∃ G D, e = .returned (.agg #[.int .i64 t.start, .slice (some ⟨G, 0, none⟩) t.goal.length t.goal.length, .slice (some ⟨D, 0, none⟩) t.deeds.length t.deeds.length]) ∧ IsTask w' (.agg #[.int .i64 t.start, .slice (some ⟨G, 0, none⟩) t.goal.length t.goal.length, .slice (some ⟨D, 0, none⟩) t.deeds.length t.deeds.length]) t ∧ Below w.heap.size w w' ∧ TOwn w.heap.size w' G D t := by
  obtain ⟨go, gl, gc, ao, l, cp, rfl, h2, h3, h4⟩ := h
  obtain ⟨hs1, hs2, hs3⟩ := hs
  have HS3 := hidI hs3; clear hs3
  go_enter Try.func16, Try.ntmps16
  go_wp2_with fail
  refine (toIntS_ex t.goal _ _ (h3.below ((((Below.refl _ _).alloc (Nat.le_refl _) _).alloc (by simp) _).alloc (by simp only [World.size_alloc]; omega) _)) (by omega)).mono ?_; rintro e w1 ⟨rfl, rfl⟩
  go_wp2_with fail
  refine (toDeedS_own t.deeds _ _ (h4.below (((((Below.refl _ _).alloc (Nat.le_refl _) _).alloc (by simp) _).alloc (by simp only [World.size_alloc]; omega) _).alloc (by simp only [World.size_alloc]; omega) _)) hs2 HS3.out).mono ?_; rintro e w5 ⟨rfl, h5, b5⟩
  have hgg : ((((w.alloc (.cells #[.int .i64 t.start, .slice go gl gc, .slice ao l cp] 30)).alloc (.cells #[.int .i64 0, .slice none 0 0, .slice none 0 0] 35)).alloc (.cells #[.int .i64 t.start, .slice (some ⟨w.heap.size + 3, 0, none⟩) t.goal.length t.goal.length, .slice none 0 0] 35)).alloc (.cells (intCells t.goal) 3)).heap.size = w.heap.size + 4 := by simp
  obtain ⟨g, hg0⟩ : ∃ g, g = w.heap.size + 4 := ⟨_, rfl⟩
  have f1 : w5.heap[w.heap.size + 1]? = some (.cells #[.int .i64 0, .slice none 0 0, .slice none 0 0] 35 (0, 0)) := (b5.block _ (by simp only [World.size_alloc]; omega)).trans (by
    rw [Below.heap_alloc _ _ _ (by simp only [World.size_alloc]; omega), Below.heap_alloc _ _ _ (by simp only [World.size_alloc]; omega)]
    simpa using heap_alloc_new (w.alloc (.cells #[.int .i64 t.start, .slice go gl gc, .slice ao l cp] 30)) (.cells #[.int .i64 0, .slice none 0 0, .slice none 0 0] 35))
  have f2 : w5.heap[w.heap.size + 1 + 1]? = some (.cells #[.int .i64 t.start, .slice (some ⟨w.heap.size + 3, 0, none⟩) t.goal.length t.goal.length, .slice none 0 0] 35 (0, 0)) := (b5.block _ (by simp only [World.size_alloc]; omega)).trans (by
    rw [Below.heap_alloc _ _ _ (by simp only [World.size_alloc]; omega)]
    simpa using heap_alloc_new ((w.alloc (.cells #[.int .i64 t.start, .slice go gl gc, .slice ao l cp] 30)).alloc (.cells #[.int .i64 0, .slice none 0 0, .slice none 0 0] 35)) (.cells #[.int .i64 t.start, .slice (some ⟨w.heap.size + 3, 0, none⟩) t.goal.length t.goal.length, .slice none 0 0] 35))
  have c10 : w5.cell? ⟨w.heap.size + 1, 0, none⟩ = some (.int .i64 0) := blk_cell f1 0
  have c11 : w5.cell? ⟨w.heap.size + 1, 1, none⟩ = some (.slice none 0 0) := blk_cell f1 1
  have c12 : w5.cell? ⟨w.heap.size + 1, 2, none⟩ = some (.slice none 0 0) := blk_cell f1 2
  have c20 : w5.cell? ⟨w.heap.size + 1 + 1, 0, none⟩ = some (.int .i64 t.start) := blk_cell f2 0
  have c21 : w5.cell? ⟨w.heap.size + 1 + 1, 1, none⟩ = some (.slice (some ⟨w.heap.size + 3, 0, none⟩) t.goal.length t.goal.length) := blk_cell f2 1
  have c22 : w5.cell? ⟨w.heap.size + 1 + 1, 2, none⟩ = some (.slice none 0 0) := blk_cell f2 2
  have z10 := blk_frozen f1 0; have z11 := blk_frozen f1 1; have z12 := blk_frozen f1 2
  have z20 := blk_frozen f2 0; have z21 := blk_frozen f2 1; have z22 := blk_frozen f2 2
  clear f1 f2
  rw [hgg, ← hg0] at h5 ⊢
  have H5 := hidI h5; have HB5 := hidI b5; clear h5 b5
  have hg4 : w.heap.size + 4 ≤ g := by omega
  have hO3 : w5.ownsRow w.heap.size 3 1 (.slice (some ⟨w.heap.size + 3, 0, none⟩) t.goal.length t.goal.length) t.goal.length (t.goal.map (Value.int .i64)) := by
    refine own_base (own_of_row (f := fun j => .int .i64 (t.goal.getD j 0)) ?_ (by simp) (by intro j hj; simp [List.getD, hj]) (by unfold maxLen; omega)) (by omega)
    refine World.rowIs.of_block (w := (((w.alloc (.cells #[.int .i64 t.start, .slice go gl gc, .slice ao l cp] 30)).alloc (.cells #[.int .i64 0, .slice none 0 0, .slice none 0 0] 35)).alloc (.cells #[.int .i64 t.start, .slice (some ⟨w.heap.size + 3, 0, none⟩) t.goal.length t.goal.length, .slice none 0 0] 35)).alloc (.cells (intCells t.goal) 3)) ?_ (HB5.out.block _ (by simp only [World.size_alloc]; omega))
    have h3 : ∀ (W : World), W.heap.size = w.heap.size + 3 → (W.alloc (.cells (intCells t.goal) 3)).rowIs (w.heap.size + 3) 3 t.goal.length (fun j => .int .i64 (t.goal.getD j 0)) := fun W h => by rw [← h]; exact row_intCells _ _ _
    exact h3 _ (by simp)
  have HO3 := hidI hO3; clear hO3
  clear hgg hg0
  have hI3 := IntS.ofRow (t := 3) (f := fun j => .int .i64 (t.goal.getD j 0)) (w := w5) (b := w.heap.size + 3) (by
      refine World.rowIs.of_block (w := (((w.alloc (.cells #[.int .i64 t.start, .slice go gl gc, .slice ao l cp] 30)).alloc (.cells #[.int .i64 0, .slice none 0 0, .slice none 0 0] 35)).alloc (.cells #[.int .i64 t.start, .slice (some ⟨w.heap.size + 3, 0, none⟩) t.goal.length t.goal.length, .slice none 0 0] 35)).alloc (.cells (intCells t.goal) 3)) ?_ (HB5.out.block _ (by simp only [World.size_alloc]; omega))
      have h3 : ∀ (W : World), W.heap.size = w.heap.size + 3 → (W.alloc (.cells (intCells t.goal) 3)).rowIs (w.heap.size + 3) 3 t.goal.length (fun j => .int .i64 (t.goal.getD j 0)) := fun W h => by rw [← h]; exact row_intCells _ _ _
      exact h3 _ (by simp)) (fun _ _ => rfl) h3.1 (by unfold maxLen; omega)
  have HI3 := hidI hI3; clear hI3
  go_wp2_with fail
  refine bodyPost_ret (v := .agg #[.int .i64 t.start, .slice (some ⟨w.heap.size + 3, 0, none⟩) t.goal.length t.goal.length, .slice (some ⟨g, 0, none⟩) t.deeds.length t.deeds.length]) (by simp [results, Try.results16, go_sem, c10, c11, c12]) rfl ?_
  refine ⟨_, _, rfl, ⟨_, _, _, _, _, _, rfl, h2, ?_, ?_⟩, ?_, ?_⟩
  · exact (((HI3.out.setCell _ _ _ (by intro k hk; simp [Value.ownBlock] at hk; omega)).setCell _ _ _ (by intro k hk; simp [Value.ownBlock] at hk; omega)).setCell _ _ _ (by intro k hk; simp [Value.ownBlock] at hk; omega)).setCell _ _ _ (by intro k hk; simp [Value.ownBlock] at hk; omega)
  · exact DeedS.ofRow ((((H5.out.1.setOther _ _ _ (by (try simp only [World.size_alloc]); omega) (by omega)).setOther _ _ _ (by (try simp only [World.size_alloc]); omega) (by omega)).setOther _ _ _ (by (try simp only [World.size_alloc]); omega) (by omega)).setOther _ _ _ (by (try simp only [World.size_alloc]); omega) (by omega)) rfl (by unfold maxLen; omega)
  · have B4 := ((((Below.refl w.heap.size w).alloc (Nat.le_refl _) (.cells #[.int .i64 t.start, .slice go gl gc, .slice ao l cp] 30)).alloc (by simp) (.cells #[.int .i64 0, .slice none 0 0, .slice none 0 0] 35)).alloc (by simp only [World.size_alloc]; omega) (.cells #[.int .i64 t.start, .slice (some ⟨w.heap.size + 3, 0, none⟩) t.goal.length t.goal.length, .slice none 0 0] 35)).alloc (by simp only [World.size_alloc]; omega) (.cells (intCells t.goal) 3)
    have B5 := B4.trans (HB5.out.mono (by simp only [World.size_alloc]; omega))
    exact (((B5.setCell (show w.heap.size ≤ w.heap.size + 1 + 1 by omega) _).setCell (show w.heap.size ≤ w.heap.size + 1 by omega) _).setCell (show w.heap.size ≤ w.heap.size + 1 by omega) _).setCell (show w.heap.size ≤ w.heap.size + 1 by omega) _
  · have g1 := grown_setCell w5 (w.heap.size + 1 + 1) 1 (.slice (some ⟨w.heap.size + 3, 0, none⟩) t.goal.length t.goal.length)
    refine ⟨by omega, by omega, ⟨_, own_grown (own_grown (own_grown (own_grown HO3.out (grown_setCell _ _ _ _) ?_) (grown_setCell _ _ _ _) ?_) (grown_setCell _ _ _ _) ?_) (grown_setCell _ _ _ _) ?_⟩, ?_⟩
    · intro q hq; simp only [Value.ownBlock] at hq; injection hq with hq; omega
    · intro q hq; simp only [Value.ownBlock] at hq; injection hq with hq; omega
    · intro q hq; simp only [Value.ownBlock] at hq; injection hq with hq; omega
    · intro q hq; simp only [Value.ownBlock] at hq; injection hq with hq; omega
    · exact NRows.low (((((H5.out.2.other (grown_setCell _ _ _ _) (by omega)).other (grown_setCell _ _ _ _) (by omega)).other (grown_setCell _ _ _ _) (by omega)).other (grown_setCell _ _ _ _) (by omega))) (by (try simp only [World.size_alloc]); omega)


def needSum (ds : List DeedM) : Nat := (ds.map (fun d => d.need.length)).sum
def sumN (ds : List DeedM) (j : Nat) : Nat := needSum (ds.take j) + 3 * j

theorem sumN_next {ds : List DeedM} {j : Nat} {d : DeedM} (h : ds[j]? = some d) : sumN ds (j + 1) = sumN ds j + d.need.length + 3 := by
  have hl := (List.getElem?_eq_some_iff.1 h).1
  have he := (List.getElem?_eq_some_iff.1 h).2
  unfold sumN needSum
  rw [List.take_succ_eq_append_getElem hl, he, List.map_append, List.sum_append]
  simp; omega

theorem sumN_le (ds : List DeedM) (j : Nat) : sumN ds j ≤ needSum ds + 3 * j := by
  unfold sumN needSum
  have := congrArg (fun l => (l.map (fun d : DeedM => d.need.length)).sum) (List.take_append_drop j ds)
  simp only [List.map_append, List.sum_append] at this
  omega

theorem szGo_sum : ∀ (ds : List DeedM) (left : Int), 0 ≤ left → ¬ szGo ds left < 0 → (needSum ds : Int) ≤ left
  | [], left, h0, _ => by simp [needSum]; exact h0
  | d :: l, left, h0, h => by
    unfold szGo at h
    by_cases c : szInts d.need.length left < 0
    · rw [if_pos c] at h; omega
    · rw [if_neg c] at h
      obtain ⟨h1, h2⟩ := szInts_le h0 c
      have := szGo_sum l _ (by omega) h
      unfold needSum at *
      simp only [List.map_cons, List.sum_cons]
      omega

/-- Block D and the blocks gs hold the deeds. -/
def MRow (base : Nat) (w : World) (D : Nat) (gs : Nat → Nat) (ds : List DeedM) : Prop :=
  ∃ c : Array Value, w.heap[D]? = some (.cells c 46 (0, 0)) ∧ c.size = ds.length * 4 ∧ ∀ j d, ds[j]? = some d → c[j * 4]? = some (.slice (some ⟨gs j, 0, none⟩) d.need.length d.need.length) ∧
    ∃ xs, w.ownsRow base 3 1 (.slice (some ⟨gs j, 0, none⟩) d.need.length d.need.length) d.need.length xs

theorem MRow.mark {base : Nat} {w w' : World} {D j : Nat} {gs : Nat → Nat} {ds : List DeedM} {d : DeedM} {ys : List Value} (h : MRow base w D gs ds) (hd : ds[j]? = some d) (hg : w.grownBy w' (some (gs j))) (hD : D < gs j) (hi : ∀ i, i < ds.length → i ≠ j → gs i ≠ gs j)
    (ho : w'.ownsRow base 3 1 (.slice (some ⟨gs j, 0, none⟩) d.need.length d.need.length) d.need.length ys) : MRow base w' D gs ds := by
  obtain ⟨c, h1, h2, h3⟩ := h
  refine ⟨c, (hg.block D (Array.getElem?_eq_some_iff.1 h1).1 (by intro e; injection e with e; omega)).trans h1, h2, fun i e he => ?_⟩
  obtain ⟨a1, xs, a2⟩ := h3 i e he
  refine ⟨a1, ?_⟩
  by_cases hij : i = j
  · subst hij
    obtain rfl : d = e := by rw [hd] at he; exact Option.some.inj he
    exact ⟨ys, ho⟩
  · exact ⟨xs, own_grown a2 hg (fun q hq => by simp only [Value.ownBlock] at hq; injection hq with hq; have := hi i (List.getElem?_eq_some_iff.1 he).1 hij; omega)⟩

theorem MRow.set {base : Nat} {w : World} {D : Nat} {gs : Nat → Nat} {ds : List DeedM} (h : MRow base w D gs ds) (hD : ∀ i, i < ds.length → D < gs i) (p : Nat) (u : Value) (hp : ∀ j, p ≠ j * 4) : MRow base (w.setCell ⟨D, p, none⟩ u) D gs ds := by
  obtain ⟨c, h1, h2, h3⟩ := h
  refine ⟨_, blk_set h1 p u, by simpa using h2, fun i e he => ?_⟩
  obtain ⟨a1, xs, a2⟩ := h3 i e he
  refine ⟨?_, xs, own_grown a2 (grown_setCell w D p u) (fun q hq => by simp only [Value.ownBlock] at hq; injection hq with hq; have := hD i (List.getElem?_eq_some_iff.1 he).1; omega)⟩
  rw [Array.getElem?_setIfInBounds, if_neg (hp i)]; exact a1

set_option maxHeartbeats 1000000 in
theorem markDeedS_any (ds : List DeedM) (base D hi K : Nat) (gs : Nat → Nat) (w : World) (h : MRow base w D gs ds) (hb : base ≤ D) (hDh : D < hi) (hg : ∀ j, j < ds.length → D < gs j ∧ gs j < hi) (hinj : ∀ i j, i < j → j < ds.length → gs i < gs j) (hl : ds.length ≤ 2000000) (hK : K ≤ 2000000) (hs : needSum ds ≤ 2000000) :
    Calls Try.prog 47 #[.slice (some ⟨D, 0, none⟩) ds.length ds.length, .int .i64 (K : Int)] w fun e w' => (∃ k' : Nat, e = .returned (.int .i64 (k' : Int))) ∧ Inside base hi w w' := by
  have HG := hidI hg; have HINJ := hidI hinj; have HS := hidI hs; have H0 := hidI h
  clear hg hinj hs h
  go_enter Try.func47, Try.ntmps47
  go_wp2_with fail
  go_loopw [1, 5] (fun q i wr => ∃ j kk : Nat, j ≤ ds.length ∧ i = .int .i64 j ∧ q = .int .i64 kk ∧ kk ≤ 20000000 ∧ Hid (kk = K + sumN ds j) ∧ Hid (MRow base wr D gs ds) ∧ Hid (Inside base hi w wr)) (fun _ i _ => ds.length - (intOf i).toNat)
  case atStart => exact ⟨0, K, by omega, rfl, rfl, by omega, hidI (by simp [sumN, needSum]), H0, hidI (Inside.refl _ _ _)⟩
  case round =>
    clear H0
    obtain ⟨j, kk, hj, rfl, rfl, hkk, HK, HM, HI⟩ := hrel
    by_cases hlt : j < ds.length
    · obtain ⟨d, hd⟩ : ∃ d, ds[j]? = some d := ⟨ds[j], List.getElem?_eq_getElem hlt⟩
      obtain ⟨c, h1, h2, h3⟩ := id HM.out
      obtain ⟨a1, xs, a2⟩ := h3 j d hd
      have c0 : wr.cell? ⟨D, j * 4, none⟩ = some (.slice (some ⟨gs j, 0, none⟩) d.need.length d.need.length) := (blk_cell h1 _).trans a1
      have hkn : kk + d.need.length + 3 ≤ 20000000 := by
        have e1 := sumN_next hd
        have e2 := sumN_le ds (j + 1)
        have := HK.out; have := HS.out
        omega
      have hKN := hidI (show kk + d.need.length + 3 = K + sumN ds (j + 1) by rw [HK.out, sumN_next hd]; omega)
      have Hd := hidI hd; have A2 := hidI a2
      have hjI : (j : Int) < (ds.length : Int) := by omega
      clear h1 h2 h3 a1 a2 hd
      go_wp2_with fail
      refine (markIntS_q d.need.length xs _ _ kk _ _ rfl A2.out (by omega) (by omega)).mono ?_; rintro e w5 ⟨rfl, o5, g5⟩
      have g5 : wr.grownBy w5 (some (gs j)) := g5
      have hgj := HG.out j hlt
      have hM5 := HM.out.mark Hd.out g5 hgj.1 (fun i hi hij => by
        rcases Nat.lt_or_ge i j with h | h
        · have := HINJ.out i j h hlt; omega
        · have := HINJ.out j i (by omega) hi; omega) o5
      have HI5 := hidI (HI.out.trans (Inside.grown g5 (by omega) hgj.2))
      have HM5 := hidI hM5
      obtain ⟨c5, e1, e2, -⟩ := id hM5
      have hsz : ∀ i, i < 4 → j * 4 + i < c5.size := fun i hi => by omega
      obtain ⟨x1, y1⟩ : ∃ x, w5.cell? ⟨D, j * 4 + 1, none⟩ = some x := ⟨_, (blk_cell e1 _).trans (Array.getElem?_eq_getElem (hsz 1 (by omega)))⟩
      obtain ⟨x2, y2⟩ : ∃ x, w5.cell? ⟨D, j * 4 + 2, none⟩ = some x := ⟨_, (blk_cell e1 _).trans (Array.getElem?_eq_getElem (hsz 2 (by omega)))⟩
      obtain ⟨x3, y3⟩ : ∃ x, w5.cell? ⟨D, j * 4 + 3, none⟩ = some x := ⟨_, (blk_cell e1 _).trans (Array.getElem?_eq_getElem (hsz 3 (by omega)))⟩
      have z1 := blk_frozen e1 (j * 4 + 1); have z2 := blk_frozen e1 (j * 4 + 2); have z3 := blk_frozen e1 (j * 4 + 3)
      clear o5 g5 hM5 e1 e2 hsz hgj c0
      go_wp2_with fail
      go_roundw
      case rel =>
        have hgD := fun i hi => (HG.out i hi).1
        refine ⟨j + 1, kk + d.need.length + 3, by omega, by go_num, by go_num, hkn, hKN, hidI (((HM5.out.set hgD _ _ (fun i => by omega)).set hgD _ _ (fun i => by omega)).set hgD _ _ (fun i => by omega)), hidI (((HI5.out.trans (Inside.grown (grown_setCell _ D _ _) (by omega) (by omega))).trans (Inside.grown (grown_setCell _ D _ _) (by omega) (by omega))).trans (Inside.grown (grown_setCell _ D _ _) (by omega) (by omega)))⟩
      case measure => simp [intOf]; omega
    · obtain rfl : j = ds.length := by omega
      go_wp2_with fail
      go_ret
      exact ⟨⟨kk, rfl⟩, HI.out⟩

theorem NRows.split {base : Nat} {w : World} {D : Nat} {ds : List DeedM} (h : NRows base w D ds.length ds.length ds) : ∃ gs, MRow base w D gs ds ∧ (∀ j, j < ds.length → D < gs j ∧ gs j < w.heap.size) ∧ ∀ i j, i < j → j < ds.length → gs i < gs j := by
  obtain ⟨c, gs, h1, h2, h3, h4⟩ := h
  refine ⟨gs, ⟨c, h1, h2, fun j d hd => ?_⟩, fun j hj => ?_, h4⟩
  · obtain ⟨a1, a2, a3, a4⟩ := h3 j d (List.getElem?_eq_some_iff.1 hd).1 hd
    exact ⟨a1, a4⟩
  · obtain ⟨a1, a2, a3, a4⟩ := h3 j ds[j] hj (List.getElem?_eq_getElem hj)
    exact ⟨a2, a3⟩

theorem MRow.below {base : Nat} {w w' : World} {D : Nat} {gs : Nat → Nat} {ds : List DeedM} (h : MRow base w D gs ds) (hb : Below w.heap.size w w') : MRow base w' D gs ds := by
  obtain ⟨c, h1, h2, h3⟩ := h
  refine ⟨c, (hb.block D (Array.getElem?_eq_some_iff.1 h1).1).trans h1, h2, fun i e he => ?_⟩
  obtain ⟨a1, xs, a2⟩ := h3 i e he
  exact ⟨a1, xs, own_belowM a2 hb⟩

set_option maxHeartbeats 1000000 in
theorem markTask_any (t : TaskM) (base G D : Nat) (w0 w : World) (h : TOwn base w0 G D t) (hw : Below w0.heap.size w0 w) (hl : t.deeds.length ≤ 2000000) (hgl : t.goal.length ≤ 1500000) (hs : needSum t.deeds ≤ 2000000) :
    Calls Try.prog 19 #[.agg #[.int .i64 t.start, .slice (some ⟨G, 0, none⟩) t.goal.length t.goal.length, .slice (some ⟨D, 0, none⟩) t.deeds.length t.deeds.length], .int .i64 1] w fun e w' => (∃ k' : Nat, e = .returned (.int .i64 (k' : Int))) ∧ Inside base w0.heap.size w w' := by
  obtain ⟨h1, h2, ⟨xs, h3⟩, h4⟩ := h
  have hDl := h4.lt
  have hws := hw.size
  obtain ⟨W, hW⟩ : ∃ W, W = w.alloc (.cells #[.int .i64 t.start, .slice (some ⟨G, 0, none⟩) t.goal.length t.goal.length, .slice (some ⟨D, 0, none⟩) t.deeds.length t.deeds.length] 35) := ⟨_, rfl⟩
  have HI := hidI (show Inside base w0.heap.size w W by rw [hW]; exact Inside.alloc _)
  have b0 : Below w0.heap.size w0 W := by rw [hW]; exact hw.trans (((Below.refl w.heap.size w).alloc (Nat.le_refl _) _).mono hws)
  have hz : w.heap.size < W.heap.size := by rw [hW]; simp
  have c1 : W.cell? ⟨w.heap.size, 1, none⟩ = some (.slice (some ⟨G, 0, none⟩) t.goal.length t.goal.length) := by rw [hW, cell_new]; rfl
  have c2 : W.cell? ⟨w.heap.size, 2, none⟩ = some (.slice (some ⟨D, 0, none⟩) t.deeds.length t.deeds.length) := by rw [hW, cell_new]; rfl
  obtain ⟨gs, hM, hgs, hinj⟩ := h4.split
  have HM := hidI (hM.below b0); have HGS := hidI hgs; have HINJ := hidI hinj; have HS := hidI hs
  have H3 := hidI (own_belowM h3 b0)
  clear h3 h4 hM hgs hinj hs b0 hw
  go_enter Try.func19, Try.ntmps19
  go_wp2_with fail
  rw [← hW]; clear hW
  refine (markIntS_q t.goal.length xs _ _ 1 _ _ rfl H3.out (by omega) (by omega)).mono ?_; rintro e w5 ⟨rfl, o5, g5⟩
  have g5 : W.grownBy w5 (some G) := g5
  have hM5 : MRow base w5 D gs t.deeds := by
    obtain ⟨c, e1, e2, e3⟩ := HM.out
    refine ⟨c, (g5.block D (Array.getElem?_eq_some_iff.1 e1).1 (by intro e; injection e with e; omega)).trans e1, e2, fun j d hd => ?_⟩
    obtain ⟨a1, ys, a2⟩ := e3 j d hd
    exact ⟨a1, ys, own_grown a2 g5 (fun q hq => by simp only [Value.ownBlock] at hq; injection hq with hq; have := (HGS.out j (List.getElem?_eq_some_iff.1 hd).1).1; omega)⟩
  have HM5 := hidI hM5
  have HI5 := hidI (HI.out.trans (Inside.grown g5 h1 (by omega)))
  have d2 : w5.cell? ⟨w.heap.size, 2, none⟩ = some (.slice (some ⟨D, 0, none⟩) t.deeds.length t.deeds.length) := by
    have hc := World.cell?_of_block (a := ⟨w.heap.size, 2, none⟩) (g5.block w.heap.size (by omega) (by intro e; injection e with e; omega))
    exact hc.trans c2
  clear o5 g5 hM5 c1 c2
  go_wp2_with fail
  refine (markDeedS_any t.deeds base D w0.heap.size (1 + t.goal.length) gs w5 HM5.out (by omega) hDl HGS.out HINJ.out hl (by omega) HS.out).mono ?_; rintro e w6 ⟨⟨k', rfl⟩, i6⟩
  have HI6 := hidI (HI5.out.trans i6); clear i6
  go_wp2_with fail
  go_ret
  exact ⟨⟨k', rfl⟩, HI6.out⟩
end Go.Proofs.Ytndbfdgflflfpaa
