/- behindAll, nextStates, backStates: the program's table of the states behind the deeds. -/
import Derived.Test.YtobpikjegfiklaaPlan
import Derived.Test.YtobpikjegfiklaaOwn
import Derived.Deep.WholeRow
import Derived.Deep.MidRow
import Derived.Deep.RegionHeld3
import Derived.Outline
namespace Go.Proofs.Ytobpikjegfiklaa
open Go.RowKit

def zeroRow : Array Value := Array.replicate 32 (.int .i64 0)
theorem zeroRow_size : zeroRow.size = 32 := by simp [zeroRow]
theorem infoRow : (Try.prog.info? 85).map (fun i => (i.zero, i.size, i.bytes)) = some (some (.agg zeroRow), 32, 256) := by kernel_rfl

/-- The number at place p of the table. -/
def tabAt (ds : List DeedM) (p : Nat) : Int := match ds[p / 32]? with
  | some d => behind d (p % 32)
  | none => -1

theorem tabAt_at {ds : List DeedM} {k s : Nat} {d : DeedM} (h : ds[k]? = some d) (hs : s < 32) : tabAt ds (k * 32 + s) = behind d s := by
  unfold tabAt
  rw [show (k * 32 + s) / 32 = k by omega, h, show (k * 32 + s) % 32 = s by omega]

/-- Block g holds the table's first K numbers. -/
def TabP (w : World) (g n K : Nat) (ds : List DeedM) : Prop :=
  ∃ c : Array Value, w.heap[g]? = some (.cells c 85 (0, 0)) ∧ c.size = n * 32 ∧ ∀ p, p < K → c[p]? = some (.int .i64 (tabAt ds p))

theorem TabP.below {w w' : World} {g n K : Nat} {ds : List DeedM} (h : TabP w g n K ds) (hb : Below w.heap.size w w') : TabP w' g n K ds := by
  obtain ⟨c, h1, h2, h3⟩ := h
  exact ⟨c, (hb.block g (Array.getElem?_eq_some_iff.1 h1).1).trans h1, h2, h3⟩

theorem TabP.lt {w : World} {g n K : Nat} {ds : List DeedM} (h : TabP w g n K ds) : g < w.heap.size := by
  obtain ⟨c, h1, _⟩ := h
  exact (Array.getElem?_eq_some_iff.1 h1).1

theorem TabP.put {w : World} {g n K : Nat} {ds : List DeedM} (h : TabP w g n K ds) (u : Int) (hu : u = tabAt ds K) (hK : K < n * 32) : TabP (w.setCell ⟨g, K, none⟩ (.int .i64 u)) g n (K + 1) ds := by
  obtain ⟨c, h1, h2, h3⟩ := h
  refine ⟨_, blk_set h1 _ _, by simpa using h2, fun p hp => ?_⟩
  rw [Array.getElem?_setIfInBounds]
  by_cases e : K = p
  · subst e; rw [if_pos rfl, if_pos (by omega), hu]
  · rw [if_neg e]; exact h3 p (by omega)

theorem TabP.cell {w : World} {g n K : Nat} {ds : List DeedM} (h : TabP w g n K ds) {p : Nat} (hp : p < n * 32) : (∃ x, w.cell? ⟨g, p, none⟩ = some x) ∧ w.frozen? ⟨g, p, none⟩ = false := by
  obtain ⟨c, h1, h2, h3⟩ := h
  exact ⟨⟨_, (blk_cell h1 p).trans (Array.getElem?_eq_getElem (by omega))⟩, blk_frozen h1 p⟩

theorem cell_other {w : World} {b i g j : Nat} {u x : Value} (h : w.cell? ⟨b, i, none⟩ = some x) (hne : b ≠ g) : (w.setCell ⟨g, j, none⟩ u).cell? ⟨b, i, none⟩ = some x := by
  have := Below.heap_setCell w ⟨g, j, none⟩ u b (by simpa using fun e => hne e)
  unfold World.cell? at h ⊢
  rw [this]; exact h

set_option maxHeartbeats 2000000 in
theorem impl_behindAll (t : TaskM) (v : Value) (w : World) (ht : IsTask w v t) (hv : ∀ d ∈ t.deeds, deedValid d = true) (hl : t.deeds.length ≤ 6) :
    Calls Try.prog 76 #[v] w fun e w' => ∃ g, e = .returned (.slice (some ⟨g, 0, none⟩) t.deeds.length t.deeds.length) ∧ TabP w' g t.deeds.length (t.deeds.length * 32) t.deeds ∧ Below w.heap.size w w' := by
  obtain ⟨go, gl, gc, ao, l, cp, rfl, hs, h3, h4⟩ := id ht
  obtain ⟨ao', cap, e, hcap, hmax, hcells⟩ := id h4
  injection e with e1 e2 e3
  subst e1; subst e2; subst e3
  unfold maxLen at hmax
  obtain ⟨i, hi, hz, hsz, hby⟩ := info_parts infoRow
  have hmk : ∀ w, (Instr.makeSlice 71 (.int .i64 t.deeds.length) (.int .i64 t.deeds.length)).run Try.prog w = .ok (.slice (some ⟨w.heap.size, 0, none⟩) t.deeds.length t.deeds.length) (w.alloc (.cells (madeCells zeroRow (t.deeds.length * 32)) 85)) := fun w => by
    have := run_make (P := Try.prog) w 71 85 i _ Try.underlying71 hi hz .i64 .i64 t.deeds.length t.deeds.length (by omega) (Int.le_refl _) (by rw [hby]; omega) (by omega)
    simpa [hsz, Value.cells] using this
  clear hi hz hsz hby
  obtain ⟨Wb, hWb⟩ : ∃ Wb, Wb = w.alloc (.cells #[.int .i64 t.start, .slice go gl gc, .slice ao t.deeds.length cp] 35) := ⟨_, rfl⟩
  have bb : Below w.heap.size w Wb := by rw [hWb]; exact (Below.refl w.heap.size w).alloc (Nat.le_refl _) _
  have hsz : Wb.heap.size = w.heap.size + 1 := by rw [hWb]; simp
  have c2 : Wb.cell? ⟨w.heap.size, 2, none⟩ = some (.slice ao t.deeds.length cp) := by rw [hWb, cell_new]; rfl
  have HB := hidI bb; have HZ := hidI hsz; have Hcells := hidI hcells; have HDV := hidI hv
  clear bb hsz h3 h4 ht hcells hv hs
  obtain ⟨Wc, hWc⟩ : ∃ Wc, Wc = Wb.alloc (.cells (madeCells zeroRow (t.deeds.length * 32)) 85) := ⟨_, rfl⟩
  have d2 : Wc.cell? ⟨w.heap.size, 2, none⟩ = some (.slice ao t.deeds.length cp) := by rw [hWc]; exact (((Below.refl Wb.heap.size Wb).alloc (Nat.le_refl _) _).cell (by rw [HZ.out]; simp)).trans c2
  have HC := hidI (show Below w.heap.size w Wc by rw [hWc]; exact HB.out.alloc (by rw [HZ.out]; omega) _)
  have HT0 := hidI (show TabP Wc (w.heap.size + 1) t.deeds.length (0 * 32) t.deeds from ⟨_, by rw [hWc, ← HZ.out]; exact heap_alloc_new _ _, by rw [size_madeCells], fun p hp => by omega⟩)
  have hgb : w.heap.size < Wb.heap.size := by rw [HZ.out]; omega
  go_enter Try.func76, Try.ntmps76
  go_wp2_with fail
  rw [← hWb, ← hWc]; clear hWb hWc hmk
  go_wp2_with fail
  go_loopw [14] (fun i wr => ∃ k : Nat, k ≤ t.deeds.length ∧ i = .int .i64 k ∧ Hid (TabP wr (w.heap.size + 1) t.deeds.length (k * 32) t.deeds) ∧ Hid (Below w.heap.size w wr)) (fun i _ => t.deeds.length - (intOf i).toNat)
  case atStart => exact ⟨0, by omega, rfl, HT0, HC⟩
  case round =>
    clear d2 c2 HT0
    obtain ⟨k, hk, rfl, HR, HBr⟩ := hrel
    rcases Nat.lt_or_ge k t.deeds.length with hlt | hge
    rotate_left
    · obtain rfl : k = t.deeds.length := by omega
      go_wp2_with fail
      go_ret
      exact ⟨_, rfl, HR.out, HBr.out⟩
    obtain ⟨d, hd⟩ : ∃ d, t.deeds[k]? = some d := ⟨_, List.getElem?_eq_getElem hlt⟩
    obtain ⟨db, doff, rfl, hdb, so, sl, sc, q0, q1, q2, q3, hde⟩ : ∃ db doff, ao = some ⟨db, doff, none⟩ ∧ db < w.heap.size ∧ ∃ so l cp, wr.cell? ⟨db, doff + k * 4, none⟩ = some (.slice so l cp) ∧ wr.cell? ⟨db, doff + k * 4 + 1, none⟩ = some (.int .i64 d.on) ∧ wr.cell? ⟨db, doff + k * 4 + 2, none⟩ = some (.int .i64 d.off) ∧ wr.cell? ⟨db, doff + k * 4 + 3, none⟩ = some (.int .i64 d.flip) ∧
        IsDeed w (.agg #[.slice so l cp, .int .i64 d.on, .int .i64 d.off, .int .i64 d.flip]) d := by
      rcases Hcells.out with ⟨hnil, _⟩ | ⟨db, doff, rfl, h1, h2⟩
      · rw [hnil] at hd; simp at hd
      · obtain ⟨so, l, cp, a0, a1, a2, a3, a4⟩ := h2 k d hd
        exact ⟨db, doff, rfl, h1, so, l, cp, (HBr.out.cell (p := ⟨db, _, none⟩) h1).trans a0, (HBr.out.cell (p := ⟨db, _, none⟩) h1).trans a1, (HBr.out.cell (p := ⟨db, _, none⟩) h1).trans a2, (HBr.out.cell (p := ⟨db, _, none⟩) h1).trans a3, a4⟩
    have HDM := hidI (HDV.out d (List.mem_of_getElem? hd))
    have HDE := hidI hde; have HTA := hidI (fun s (hs : s < 32) => tabAt_at hd hs)
    clear hde hd
    go_wp2_with fail
    obtain ⟨Wd, hWd⟩ : ∃ Wd, Wd = wr.alloc (.cells #[.slice so sl sc, .int .i64 d.on, .int .i64 d.off, .int .i64 d.flip] 30) := ⟨_, rfl⟩
    rw [← hWd]
    have HRd := hidI (show TabP Wd (w.heap.size + 1) t.deeds.length (k * 32 + 0) t.deeds by rw [hWd]; exact HR.out.below ((Below.refl _ _).alloc (Nat.le_refl _) _))
    have HBd := hidI (show Below w.heap.size w Wd by rw [hWd]; exact HBr.out.alloc HBr.out.size _)
    have e0 : Wd.cell? ⟨wr.heap.size, 0, none⟩ = some (.slice so sl sc) := by rw [hWd, cell_new]; rfl
    have e1 : Wd.cell? ⟨wr.heap.size, 1, none⟩ = some (.int .i64 d.on) := by rw [hWd, cell_new]; rfl
    have e2 : Wd.cell? ⟨wr.heap.size, 2, none⟩ = some (.int .i64 d.off) := by rw [hWd, cell_new]; rfl
    have e3 : Wd.cell? ⟨wr.heap.size, 3, none⟩ = some (.int .i64 d.flip) := by rw [hWd, cell_new]; rfl
    have hgr := HR.out.lt
    obtain ⟨vb, hvb⟩ : ∃ vb, vb = wr.heap.size := ⟨_, rfl⟩
    rw [← hvb] at e0 e1 e2 e3 hgr ⊢
    have hwr := HBr.out.size
    rw [← hvb] at hwr
    have hsd : vb < Wd.heap.size := by rw [hWd, hvb]; simp
    clear hWd q0 q1 q2 q3 hvb
    go_loopw [19] (fun j ws => ∃ s : Nat, s ≤ 32 ∧ j = .int .i64 s ∧ Hid (TabP ws (w.heap.size + 1) t.deeds.length (k * 32 + s) t.deeds) ∧ Hid (Below w.heap.size w ws) ∧ vb < ws.heap.size ∧
      ws.cell? ⟨vb, 0, none⟩ = some (.slice so sl sc) ∧ ws.cell? ⟨vb, 1, none⟩ = some (.int .i64 d.on) ∧ ws.cell? ⟨vb, 2, none⟩ = some (.int .i64 d.off) ∧ ws.cell? ⟨vb, 3, none⟩ = some (.int .i64 d.flip)) (fun j _ => 32 - (intOf j).toNat)
    case atStart => exact ⟨0, by omega, rfl, HRd, HBd, hsd, e0, e1, e2, e3⟩
    case round =>
      clear e0 e1 e2 e3
      obtain ⟨s, hs, rfl, HS, HBs, hvs, e0, e1, e2, e3⟩ := hrel
      rcases Nat.lt_or_ge s 32 with hs2 | hs2
      rotate_left
      · obtain rfl : s = 32 := by omega
        go_wp2_with fail
        go_roundw
        case rel => exact ⟨k + 1, by omega, by go_num, hidI (by rw [show (k + 1) * 32 = k * 32 + 32 by omega]; exact HS.out), HBs⟩
        case measure => simp [intOf]; omega
      have hk0 : (0 : Int) ≤ (k : Int) := by omega
      have hk1 : (k : Int) < (t.deeds.length : Int) := by omega
      have hs0 : (0 : Int) ≤ (s : Int) := by omega
      have hs1 : (s : Int) < 32 := by omega
      have hKK : k * 32 + s < t.deeds.length * 32 := by omega
      have hne : vb ≠ w.heap.size + 1 := by omega
      go_wp2_with fail
      have HY := hidI (show ∀ W, Below wr.heap.size wr W → ∃ x, W.cell? ⟨w.heap.size + 1, k * 32 + s, none⟩ = some x ∧ W.frozen? ⟨w.heap.size + 1, k * 32 + s, none⟩ = false from fun W hW => by obtain ⟨⟨x, hx⟩, hf⟩ := TabP.cell (HS.out.below hW) hKK; exact ⟨x, hx, hf⟩)
      go_region_held3 (fun W => W.cell? ⟨vb, 0, none⟩ = some (.slice so sl sc) ∧ W.cell? ⟨vb, 1, none⟩ = some (.int .i64 d.on) ∧ W.cell? ⟨vb, 2, none⟩ = some (.int .i64 d.off) ∧ W.cell? ⟨vb, 3, none⟩ = some (.int .i64 d.flip)) (first | exact ⟨e0, e1, e2, e3⟩ | (refine ⟨?_, ?_, ?_, ?_⟩ <;> first | assumption | exact cell_other (by assumption) hne)) (first | (go_at_call 69; refine (impl_behindDeed d s _ _ (HDE.out.below (HBs.out.drew)) HDM.out hs2).mono ?_; rintro e w5 ⟨rfl, b5⟩; have N5 := bthen (Below.refl wr.heap.size wr).drew b5; have B5 := hidI (HBs.out.trans (N5.mono HBs.out.size)); have f5 := HY.out _ N5; have T5 := hidI (HS.out.below N5); have hs5 := N5.size; have f0 := (N5.cell (p := ⟨_, _, none⟩) hvs).trans e0; have f1 := (N5.cell (p := ⟨_, _, none⟩) hvs).trans e1; have f2 := (N5.cell (p := ⟨_, _, none⟩) hvs).trans e2; have f3 := (N5.cell (p := ⟨_, _, none⟩) hvs).trans e3; clear N5 b5; obtain ⟨x5, y5, z5⟩ := f5) | fail)
      go_wp2_with fail
      go_roundw
      case rel => exact ⟨s + 1, by omega, by go_num, hidI (T5.out.put _ (HTA.out s hs2).symm hKK), hidI (B5.out.setCell (by show w.heap.size ≤ w.heap.size + 1; omega) _), by simp [World.setCell]; omega, cell_other f0 hne, cell_other f1 hne, cell_other f2 hne, cell_other f3 hne⟩
      case measure => simp [intOf]; omega

end Go.Proofs.Ytobpikjegfiklaa
