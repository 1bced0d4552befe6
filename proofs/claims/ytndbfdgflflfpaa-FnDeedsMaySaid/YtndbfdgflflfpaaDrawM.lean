/- Drawn tasks with a state: DrawDeedsMay. -/
import Derived.Test.YtndbfdgflflfpaaDrawV
import Derived.Deep.DeepFit
import Derived.Outline
namespace Go.Proofs.Ytndbfdgflflfpaa
open Go.RowKit

set_option maxHeartbeats 1000000 in
theorem spec_DrawDeedsMay (n : Nat) (v : Value) (w : World) (h : BytS w w.heap.size v n) :
    Calls Try.prog 20 #[v] w fun e w' => ∃ s g m cap l cp ao t z, e = .returned (.tuple #[.agg #[.int .i64 s, .slice (some ⟨g, 0, none⟩) m cap, .slice ao l cp], .int .i64 z]) ∧ 0 ≤ z ∧ z < 64 ∧ Drawn w' s g m cap l cp ao t ∧ Below w.heap.size w w' := by
  have hB0 := (Below.refl w.heap.size w).alloc (Nat.le_refl _) (.cells #[.int .i64 0, .slice none 0 0, .slice none 0 0] 35)
  have hV0 := show TBlk (w.alloc (.cells #[.int .i64 0, .slice none 0 0, .slice none 0 0] 35)) w.heap.size 0 (.slice none 0 0) (.slice none 0 0) from heap_alloc_new w _
  obtain ⟨wv, hwv⟩ : ∃ wv, wv = w.alloc (.cells #[.int .i64 0, .slice none 0 0, .slice none 0 0] 35) := ⟨_, rfl⟩
  have hsz : wv.heap.size = w.heap.size + 1 := by rw [hwv]; simp
  rw [← hwv] at hB0 hV0
  have hBy : BytS wv wv.heap.size v n := by
    obtain ⟨ao, cap, h4, h5, h6, h7⟩ := bytS_any h hB0 (Nat.le_refl _)
    refine ⟨ao, cap, h4, h5, h6, ?_⟩
    rcases h7 with h7 | ⟨b, off, h8, h9, h10⟩
    · exact .inl h7
    · exact .inr ⟨b, off, h8, by omega, h10⟩
  have HB := hidI hB0; have HV := hidI hV0; have HY := hidI hBy; have HZ := hidI hsz
  clear hB0 hV0 hBy h hsz
  go_enter Try.func20, Try.ntmps20
  go_wp2_with fail
  rw [← hwv]; clear hwv
  go_fit (spec_l20Open n v wv HY.out); rintro e w1 ⟨rfl, hr, b1⟩
  have HR := hidI hr; have hlt := hr.lt; have hwl : w.heap.size < wv.heap.size := by rw [HZ.out]; omega
  have HV := hidI ((b1.block w.heap.size hwl).trans HV.out)
  have HB := hidI (HB.out.trans (b1.mono (by omega))); clear b1 hr
  go_wp2_with fail
  go_fit (spec_l20Task wv.heap.size 0 9 w1 HR.out (by omega) (by omega) (by omega)); rintro e w2 ⟨s, g, m, cap, ao, l, cp, es, rfl, hs1, hs2, hn, ho, hd, he, hrr, hg⟩
  have HV := hidI (TBlk.kept HV.out hg (by simp; omega))
  have HB := hidI (HB.out.grown hg HB.out.size (fun k hk => by cases hk; omega))
  have HO := hidI ho; have HD := hidI hd; have HR := hidI hrr
  have hlt1 : wv.heap.size < w1.heap.size := hlt
  clear ho hd hrr hg
  go_wp2_with fail
  refine (spec_pickI wv.heap.size 400 32 w2 HR.out (by omega) (by omega) (by omega)).mono ?_; rintro e w3 ⟨k2, rfl, hk2, hr3, hg3⟩
  have HV := hidI (TBlk.kept HV.out hg3 (by simp; omega)); have HB := hidI (HB.out.grown hg3 HB.out.size (fun k hk => by cases hk; omega)); have HO := hidI (HO.out.grown hg3 hlt1); have HD := hidI (HD.out.low hg3 hlt1); have HR := hidI hr3; have hlt2 : wv.heap.size < w3.heap.size := hr3.lt; clear hg3 hr3
  go_wp2_with fail
  refine (spec_pickI wv.heap.size 401 30 w3 HR.out (by omega) (by omega) (by omega)).mono ?_; rintro e w4 ⟨k3, rfl, hk3, hr4, hg4⟩
  have HV := hidI (TBlk.kept HV.out hg4 (by simp; omega)); have HB := hidI (HB.out.grown hg4 HB.out.size (fun k hk => by cases hk; omega)); have HO := hidI (HO.out.grown hg4 (by omega)); have HD := hidI (HD.out.low hg4 (by omega)); clear hg4 hr4
  have hgl := HO.out.lt
  have hgs := grown_trans (grown_trans (grown_setCell w4 w.heap.size 0 (.int .i64 s)) (grown_setCell _ w.heap.size 1 (.slice (some ⟨g, 0, none⟩) m cap))) (grown_setCell _ w.heap.size 2 (.slice ao l cp))
  have HO := hidI (OutS.kept HO.out hgs (by simp; omega))
  have HD := hidI (DRow.low HD.out hgs (by omega))
  have HB := hidI (HB.out.grown hgs HB.out.size (fun k hk => by cases hk; omega))
  obtain ⟨v0, v1, v2⟩ := TBlk.cells HV.out
  have z0 := blk_frozen HV.out 0; have z1 := blk_frozen HV.out 1; have z2 := blk_frozen HV.out 2
  clear hgs
  go_wp2_with fail
  refine bodyPost_ret (v := .tuple #[.agg #[.int .i64 s, .slice (some ⟨g, 0, none⟩) m cap, .slice ao l cp], .int .i64 ((k2 : Int) + (k3 : Int) / 29 * 32)]) (by simp [results, Try.results20, go_sem, v0, v1, v2]) rfl ?_
  obtain ⟨t, ht⟩ := drawn_of HO.out HD.out ⟨hs1, hs2⟩ hn he
  exact ⟨s, g, m, cap, l, cp, ao, t, (k2 : Int) + (k3 : Int) / 29 * 32, rfl, by omega, by omega, ht, HB.out⟩
end Go.Proofs.Ytndbfdgflflfpaa
