/- Drawn sets of states: l20States. -/
import Derived.Test.YtobpikjegfiklaaDrawV
import Derived.Test.YtobpikjegfiklaaStatesS
import Derived.Deep.DeepFit
import Derived.Outline
namespace Go.Proofs.Ytobpikjegfiklaa
open Go.RowKit

theorem i64_wrap (z : Int) : I64 (wrap64 z) := by unfold I64 wrap64; omega

set_option maxRecDepth 100000 in
set_option maxHeartbeats 2000000 in
theorem spec_l20States (r N : Nat) (w : World) (h : RdOk w r N) (hN : N ≤ 900000) :
    Calls Try.prog 73 #[.pointer (some ⟨r, 0, none⟩)] w fun e w' => ∃ z : Int, e = .returned (.int .i64 z) ∧ I64 z ∧ RdOk w' r (N + 20) ∧ w.grownBy w' (some r) := by
  have HR := hidI h; have hlt := h.lt; clear h
  go_enter Try.func73, Try.ntmps73
  go_wp2_with fail
  refine (spec_pickI r N 8 _ HR.out (by omega) (by omega) (by omega)).mono ?_; rintro e w1 ⟨k1, rfl, hk1, rk1, gk1⟩
  have HR := hidI rk1; have HG := hidI gk1; clear rk1 gk1
  go_wp2_with fail
  go_loopw [3, 4] (fun x i wr => ∃ k X M : Nat, i = .int .i64 k ∧ x = .int .i64 X ∧ Hid (X < 4294967296) ∧ M + k ≤ N + 9 ∧ Hid (RdOk wr r M) ∧ Hid (w.grownBy wr (some r))) (fun _ i _ => (intOf i).toNat)
  case atStart => exact ⟨k1, 0, N + 1, rfl, rfl, hidI (by omega), by omega, HR, HG⟩
  case round =>
    clear HR HG
    obtain ⟨k, X, M, rfl, rfl, hX, hM, HR, HG⟩ := hrel
    rcases Nat.eq_zero_or_pos k with rfl | hk
    rotate_left
    · have hk2 : (0 : Int) < k := by omega
      go_wp2_with fail
      refine (spec_pickI r M 32 _ HR.out (by omega) (by omega) (by omega)).mono ?_; rintro e w2 ⟨k2, rfl, hk2', r2, g2⟩
      have HR := hidI r2; have HG := hidI (grown_trans HG.out g2); clear r2 g2
      have hs := shl1 (n := k2) (by omega)
      have hp := pow_lt2_32 (n := k2) (by omega)
      obtain ⟨P, hP⟩ : ∃ P : Nat, P = 2 ^ k2 := ⟨_, rfl⟩
      rw [← hP] at hs hp
      clear hP
      have HL := hidI (fun w => spec_l1Either X P w (lt_62 hX.out) (lt_62 hp))
      have HX := hidI (or_lt2_32 hX.out hp)
      clear hp
      go_wp2_with (go_at_call 68; refine (HL.out _).mono ?_; rintro e w' ⟨rfl, rfl⟩)
      go_roundw
      case rel => exact ⟨k - 1, X ||| P, M + 1, by go_num, rfl, HX, by omega, HR, HG⟩
      case measure => simp [intOf]; omega
    · go_wp2_with fail
      refine (spec_pickI r M 60 _ HR.out (by omega) (by omega) (by omega)).mono ?_; rintro e w2 ⟨k2, rfl, hk2, r2, g2⟩
      have HR := hidI r2; have HG := hidI (grown_trans HG.out g2); clear r2 g2
      go_wp2_with fail
      refine (spec_pickI r (M + 1) 60 _ HR.out (by omega) (by omega) (by omega)).mono ?_; rintro e w3 ⟨k3, rfl, hk3, r3, g3⟩
      have HR := hidI r3; have HG := hidI (grown_trans HG.out g3); clear r3 g3
      go_wp2_with fail
      go_ret
      exact ⟨_, rfl, i64_wrap _, HR.out.mono (by omega), HG.out⟩

set_option maxHeartbeats 1000000 in
theorem spec_DrawStatesBack (n : Nat) (v : Value) (w : World) (h : BytS w w.heap.size v n) :
    Calls Try.prog 50 #[v] w fun e w' => ∃ s g m cap l cp ao t z, e = .returned (.tuple #[.agg #[.int .i64 s, .slice (some ⟨g, 0, none⟩) m cap, .slice ao l cp], .int .i64 z]) ∧ I64 z ∧ Drawn w' s g m cap l cp ao t ∧ Below w.heap.size w w' := by
  have hB0 := (Below.refl w.heap.size w).alloc (Nat.le_refl _) (.cells #[.int .i64 0, .slice none 0 0, .slice none 0 0] 35)
  have hV0 := show TBlk (w.alloc (.cells #[.int .i64 0, .slice none 0 0, .slice none 0 0] 35)) w.heap.size 0 (.slice none 0 0) (.slice none 0 0) from heap_alloc_new w _
  obtain ⟨wv, hwv⟩ : ∃ wv, wv = w.alloc (.cells #[.int .i64 0, .slice none 0 0, .slice none 0 0] 35) := ⟨_, rfl⟩
  have hsz : wv.heap.size = w.heap.size + 1 := by rw [hwv]; simp
  rw [← hwv] at hB0 hV0
  have hBy : BytS wv wv.heap.size v n := by
    obtain ⟨ao, cap, h4, h5, h6, h7⟩ := bytS_any h hB0 (Nat.le_refl _)
    refine ⟨ao, cap, h4, h5, h6, ?_⟩
    rcases h7 with h7 | ⟨b, off, h8, h9, h10⟩
    · exact .inl h7
    · exact .inr ⟨b, off, h8, by omega, h10⟩
  have HB := hidI hB0; have HV := hidI hV0; have HY := hidI hBy; have HZ := hidI hsz
  clear hB0 hV0 hBy h hsz
  go_enter Try.func50, Try.ntmps50
  go_wp2_with fail
  rw [← hwv]; clear hwv
  go_fit (spec_l20Open n v wv HY.out); rintro e w1 ⟨rfl, hr, b1⟩
  have HR := hidI hr; have hlt := hr.lt; have hwl : w.heap.size < wv.heap.size := by rw [HZ.out]; omega
  have HV := hidI ((b1.block w.heap.size hwl).trans HV.out)
  have HB := hidI (HB.out.trans (b1.mono (by omega))); clear b1 hr
  go_wp2_with fail
  go_fit (spec_l20Task wv.heap.size 0 12 w1 HR.out (by omega) (by omega) (by omega)); rintro e w2 ⟨s, g, m, cap, ao, l, cp, es, rfl, hs1, hs2, hn, ho, hd, he, hrr, hg⟩
  have HV := hidI (TBlk.kept HV.out hg (by simp; omega))
  have HB := hidI (HB.out.grown hg HB.out.size (fun k hk => by cases hk; omega))
  have HO := hidI ho; have HD := hidI hd; have HR := hidI hrr
  have hlt1 : wv.heap.size < w1.heap.size := hlt
  clear ho hd hrr hg
  go_wp2_with fail
  go_fit (spec_l20States wv.heap.size 400 w2 HR.out (by omega)); rintro e w3 ⟨z, rfl, hz, hr3, hg3⟩
  have HZ64 := hidI hz
  have HV := hidI (TBlk.kept HV.out hg3 (by simp; omega)); have HB := hidI (HB.out.grown hg3 HB.out.size (fun k hk => by cases hk; omega)); have HO := hidI (HO.out.grown hg3 hlt1); have HD := hidI (HD.out.low hg3 hlt1); clear hg3 hr3 hz
  have hgl := HO.out.lt
  have hgs := grown_trans (grown_trans (grown_setCell w3 w.heap.size 0 (.int .i64 s)) (grown_setCell _ w.heap.size 1 (.slice (some ⟨g, 0, none⟩) m cap))) (grown_setCell _ w.heap.size 2 (.slice ao l cp))
  have HO := hidI (OutS.kept HO.out hgs (by simp; omega))
  have HD := hidI (DRow.low HD.out hgs (by omega))
  have HB := hidI (HB.out.grown hgs HB.out.size (fun k hk => by cases hk; omega))
  obtain ⟨v0, v1, v2⟩ := TBlk.cells HV.out
  have z0 := blk_frozen HV.out 0; have z1 := blk_frozen HV.out 1; have z2 := blk_frozen HV.out 2
  clear hgs
  go_wp2_with fail
  refine bodyPost_ret (v := .tuple #[.agg #[.int .i64 s, .slice (some ⟨g, 0, none⟩) m cap, .slice ao l cp], .int .i64 z]) (by simp [results, Try.results50, go_sem, v0, v1, v2]) rfl ?_
  obtain ⟨t, ht⟩ := drawn_of HO.out HD.out ⟨hs1, hs2⟩ hn he
  exact ⟨s, g, m, cap, l, cp, ao, t, z, rfl, HZ64.out, ht, HB.out⟩
end Go.Proofs.Ytobpikjegfiklaa
