/- DeedsMay, of the program and of the reference. -/
import Derived.Test.YtndbfdgflflfpaaPlan
import Derived.Test.YtndbfdgflflfpaaTable
import Derived.Test.YtndbfdgflflfpaaOwn
import Derived.Test.YtndbfdgflflfpaaInts
import Derived.Deep.DeepFit
import Derived.Outline
namespace Go.Proofs.Ytndbfdgflflfpaa
open Go.RowKit

/-- The indices below k of the deeds that may be done in s. -/
def mayTo (ds : List DeedM) (s : Nat) : Nat → List Int
  | 0 => []
  | k + 1 => if 0 ≤ tabAt ds (k * 32 + s) then mayTo ds s k ++ [(k : Int)] else mayTo ds s k

theorem mayTo_le (ds : List DeedM) (s : Nat) : ∀ k, (mayTo ds s k).length ≤ k
  | 0 => by simp [mayTo]
  | k + 1 => by have := mayTo_le ds s k; rw [mayTo]; split <;> simp <;> omega

def deedsMay (t : TaskM) (n : Int) : List Int := if taskValid t && inS n then mayTo t.deeds n.toNat t.deeds.length else []

/-- A slice of ints of the call's own is handed back. -/
def GivesL (w w' : World) (zs : List Int) (e : Ending) : Prop := ∃ ao cp, e = .returned (.slice ao zs.length cp) ∧ w'.ownsRow w.heap.size 3 1 (.slice ao zs.length cp) zs.length (zs.map (Value.int .i64)) ∧ Below w.heap.size w w'

theorem deed_cells {w : World} {go : Option Addr} {gl gc : Nat} {ao : Option Addr} {l cp k : Nat} {s : Int} {t : TaskM} {d : DeedM} (h : IsTask w (.agg #[.int .i64 s, .slice go gl gc, .slice ao l cp]) t) (hd : t.deeds[k]? = some d) :
    ∃ b off so l' cp', ao = some ⟨b, off, none⟩ ∧ b < w.heap.size ∧ l ≤ cp ∧ cp ≤ maxLen ∧ w.cell? ⟨b, off + k * 4, none⟩ = some (.slice so l' cp') ∧ w.cell? ⟨b, off + k * 4 + 1, none⟩ = some (.int .i64 d.on) ∧ w.cell? ⟨b, off + k * 4 + 2, none⟩ = some (.int .i64 d.off) ∧ w.cell? ⟨b, off + k * 4 + 3, none⟩ = some (.int .i64 d.flip) ∧
      IsDeed w (.agg #[.slice so l' cp', .int .i64 d.on, .int .i64 d.off, .int .i64 d.flip]) d := by
  obtain ⟨go, gl, gc, ao', l', cp', e, h2, h3, h4⟩ := h
  injection e with e; injection e with e; injection e with q1 e; injection e with q2 e; injection e with q3
  injection q3 with s1 s2 s3
  subst s1; subst s2; subst s3
  obtain ⟨ao2, cap2, e4, h5, h6, h7⟩ := h4
  injection e4 with u1 u2 u3
  subst u1; subst u3
  rcases h7 with ⟨h7, _⟩ | ⟨b, off, h8, hb, h9⟩
  · rw [h7] at hd; simp at hd
  · obtain ⟨so, l', cp', c0, c1, c2, c3, c4⟩ := h9 k d hd
    exact ⟨b, off, so, l', cp', h8, hb, by omega, h6, c0, c1, c2, c3, c4⟩

theorem task_len {w : World} {go : Option Addr} {gl gc : Nat} {ao : Option Addr} {l cp : Nat} {s : Int} {t : TaskM} (h : IsTask w (.agg #[.int .i64 s, .slice go gl gc, .slice ao l cp]) t) : l = t.deeds.length := by
  obtain ⟨go, gl, gc, ao', l', cp', e, h2, h3, h4⟩ := h
  injection e with e; injection e with e; injection e with q1 e; injection e with q2 e; injection e with q3
  injection q3 with s1 s2 s3
  obtain ⟨ao2, cap2, e4, h5, h6, h7⟩ := h4
  injection e4 with u1 u2 u3
  omega

theorem own_below2 {w w' : World} {base : Nat} {e : TypeId} {v : Value} {n : Nat} {xs : List Value} (h : w.ownsRow base e 1 v n xs) (hb : Below w.heap.size w w') : w'.ownsRow base e 1 v n xs := by
  obtain ⟨h1, h2⟩ := h
  rcases h2 with h2 | ⟨g, cap, cur, a1, a2, a3, a4⟩
  · exact ⟨h1, .inl h2⟩
  · exact ⟨h1, .inr ⟨g, cap, cur, a1, a2, by rw [hb.block g (Array.getElem?_eq_some_iff.1 a3).1]; exact a3, a4⟩⟩

set_option maxRecDepth 100000 in
set_option maxHeartbeats 2000000 in
theorem impl_DeedsMay (t : TaskM) (n : Int) (v : Value) (w : World) (ht : IsTask w v t) :
    Calls Try.prog 17 #[v, .int .i64 n] w fun e w' => GivesL w w' (deedsMay t n) e := by
  obtain ⟨go, gl, gc, ao, l, cp, hv, hs, h3, h4⟩ := id ht
  subst hv
  have hlen := task_len ht
  obtain ⟨Wb, hWb⟩ : ∃ Wb, Wb = w.alloc (.cells #[.int .i64 t.start, .slice go gl gc, .slice ao l cp] 35) := ⟨_, rfl⟩
  have bb : Below w.heap.size w Wb := by rw [hWb]; exact (Below.refl w.heap.size w).alloc (Nat.le_refl _) _
  have hsz : Wb.heap.size = w.heap.size + 1 := by rw [hWb]; simp
  have CC : ∀ W, Below Wb.heap.size Wb W → W.cell? ⟨w.heap.size, 0, none⟩ = some (.int .i64 t.start) ∧ W.cell? ⟨w.heap.size, 1, none⟩ = some (.slice go gl gc) ∧ W.cell? ⟨w.heap.size, 2, none⟩ = some (.slice ao l cp) := fun W hW =>
    ⟨(hW.cell (by simp; omega)).trans (by rw [hWb, cell_new]; rfl), (hW.cell (by simp; omega)).trans (by rw [hWb, cell_new]; rfl), (hW.cell (by simp; omega)).trans (by rw [hWb, cell_new]; rfl)⟩
  have HT0 := hidI (ht.below bb)
  have HB := hidI bb; have HCC := hidI CC; have HLEN := hidI hlen
  have hle : w.heap.size ≤ Wb.heap.size := by omega
  obtain ⟨c0, c1, c2⟩ := CC Wb (Below.refl _ _)
  clear bb hsz CC ht h3 h4 hs hlen
  cases hv : taskValid t
  · have HF := hidI (show deedsMay t n = [] by unfold deedsMay; rw [hv]; rfl)
    have HV := hidI hv; clear hv
    rw [HF.out]
    go_enter Try.func17, Try.ntmps17
    go_wp2_with fail
    rw [← hWb]; clear hWb
    refine (impl_TaskValid t _ _ HT0.out).mono ?_; rintro e w1 ⟨rfl, b1⟩; rw [HV.out]
    go_wp2_with fail
    go_ret
    exact ⟨none, 0, rfl, World.ownsRow_nil _ _ _ _, HB.out.trans (b1.mono hle)⟩
  cases hin : inS n
  · have HF := hidI (show deedsMay t n = [] by unfold deedsMay; rw [hv, hin]; rfl)
    have HV := hidI hv; have HI := hidI hin; clear hv hin
    rw [HF.out]
    go_enter Try.func17, Try.ntmps17
    go_wp2_with fail
    rw [← hWb]; clear hWb
    refine (impl_TaskValid t _ _ HT0.out).mono ?_; rintro e w1 ⟨rfl, b1⟩; rw [HV.out]
    go_wp2_with (go_at_call 44; refine (impl_stateOkS n _).mono ?_; rintro e w' ⟨rfl, rfl⟩; rw [HI.out])
    go_ret
    exact ⟨none, 0, rfl, World.ownsRow_nil _ _ _ _, HB.out.trans (b1.mono hle)⟩
  obtain ⟨S, rfl, hS⟩ := inS_true hin
  have HF := hidI (show deedsMay t S = mayTo t.deeds S t.deeds.length by unfold deedsMay; rw [hv, hin, Int.toNat_natCast]; rfl)
  obtain ⟨-, -, hl6, hdv⟩ := taskValid_parts hv
  have HDV := hidI hdv
  have HV := hidI hv; have HI := hidI hin; clear hv hin hdv
  have HL6 := hidI (show l ≤ 6 by rw [HLEN.out]; exact hl6)
  rw [HF.out]
  go_enter Try.func17, Try.ntmps17
  go_wp2_with fail
  rw [← hWb]; clear hWb
  refine (impl_TaskValid t _ _ HT0.out).mono ?_; rintro e w1 ⟨rfl, b1⟩; rw [HV.out]
  have B1 := hidI b1; clear b1 c0 c1 c2
  obtain ⟨c0, c1, c2⟩ := HCC.out _ B1.out
  go_wp2_with (go_at_call 44; refine (impl_stateOkS S _).mono ?_; rintro e w' ⟨rfl, rfl⟩; rw [HI.out])
  go_loopw [5, 19] (fun x i wr => ∃ (k q cq : Nat) (aq : Option Addr), k ≤ l ∧ i = .int .i64 k ∧ x = .slice aq q cq ∧ Hid (q = (mayTo t.deeds S k).length) ∧ Hid (wr.ownsRow Wb.heap.size 3 1 (.slice aq q cq) q ((mayTo t.deeds S k).map (Value.int .i64))) ∧ Hid (Below Wb.heap.size Wb wr)) (fun _ i _ => l - (intOf i).toNat)
  case atStart => exact ⟨0, 0, 0, none, by omega, rfl, rfl, hidI rfl, hidI (World.ownsRow_nil _ _ _ _), B1⟩
  case round =>
    clear c0 c1 c2
    obtain ⟨k, q, cq, aq, hk, rfl, rfl, Hq, HO, HBr⟩ := hrel
    rcases Nat.lt_or_ge k l with hk2 | hk2
    rotate_left
    · have hkl : k = t.deeds.length := by have := HLEN.out; omega
      have hqq := hidI (show q = (mayTo t.deeds S t.deeds.length).length by rw [← hkl]; exact Hq.out)
      have ho := HO.out
      rw [hkl] at ho
      have HO := hidI ho; clear hkl ho
      go_wp2_with fail
      go_ret
      refine ⟨aq, cq, ?_, ?_, HB.out.trans (HBr.out.mono hle)⟩
      · rw [← hqq.out]; rfl
      · rw [← hqq.out]; exact own_base HO.out hle
    obtain ⟨d, hd⟩ : ∃ d, t.deeds[k]? = some d := ⟨_, List.getElem?_eq_getElem (by rw [← HLEN.out]; exact hk2)⟩
    obtain ⟨b, off, so, l', cp', hao, hb, hcp, hmx, q0, q1, q2, q3, hde⟩ := deed_cells (HT0.out.below HBr.out) hd
    subst hao
    unfold maxLen at hmx
    have hk3 : (k : Int) < (l : Int) := by omega
    have ba := (Below.refl wr.heap.size wr).alloc (Nat.le_refl _) (.cells #[.slice so l' cp', .int .i64 d.on, .int .i64 d.off, .int .i64 d.flip] 46)
    have HDE := hidI (hde.below ba)
    have BA := hidI (bthen HBr.out ba)
    have HOA := hidI (HO.out.alloc (.cells #[.slice so l' cp', .int .i64 d.on, .int .i64 d.off, .int .i64 d.flip] 46))
    have hdm := HDV.out d (List.mem_of_getElem? hd)
    have hta := tabAt_at hd hS
    have HDM := hidI hdm
    have hql : q ≤ 6 := by rw [Hq.out]; have := mayTo_le t.deeds S k; have := HL6.out; omega
    have hbl := behind_lt d hdm S hS
    clear hde ba hdm hd
    rw [← hta] at hbl
    rcases hbl with hv | ⟨Q, hQ, hv⟩
    · have HN := hidI (show mayTo t.deeds S (k + 1) = mayTo t.deeds S k by rw [mayTo, if_neg (by rw [hv]; decide)])
      rw [hv] at hta
      have HTA := hidI hta; clear hta hv
      go_wp2_with fail
      go_fit (impl_behindDeed d S _ _ HDE.out HDM.out hS); rintro e w6 ⟨rfl, b6⟩
      rw [← HTA.out]
      have B6 := hidI (bthen BA.out b6); have HO6 := hidI (own_below2 HOA.out b6); clear b6
      go_wp2_with fail
      go_roundw
      case rel => exact ⟨k + 1, q, cq, aq, by omega, by go_num, rfl, hidI (by rw [HN.out]; exact Hq.out), hidI (by rw [HN.out]; exact HO6.out), B6⟩
      case measure => simp [intOf]; omega
    · have HN := hidI (show mayTo t.deeds S (k + 1) = mayTo t.deeds S k ++ [(k : Int)] by rw [mayTo, if_pos (by rw [hv]; omega)])
      rw [hv] at hta
      have HTA := hidI hta; clear hta hv
      go_wp2_with fail
      go_fit (impl_behindDeed d S _ _ HDE.out HDM.out hS); rintro e w6 ⟨rfl, b6⟩
      rw [← HTA.out]
      have B6 := hidI (bthen BA.out b6); have HO6 := hidI (own_below2 HOA.out b6); clear b6
      have hbs : Wb.heap.size ≤ w6.heap.size := B6.out.size
      go_wp2_with (at_builtin; refine wpList_push _ rfl _ _ 22 rfl Wb.heap.size 3 (.int .i64 0) 8 Try.underlying22 infoInt rfl (.slice aq q cq) q _ (.int .i64 (k : Int)) rfl rfl HO6.out rfl (by omega) (by decide) hbs ?_)
      intro g' c' w7 hg' ho' hb' hgr
      have B7 := hidI (hb' _ B6.out)
      have HO7 := hidI ho'; clear ho' hb' hgr
      go_wp2_with fail
      go_roundw
      case rel => exact ⟨k + 1, q + 1, c', some ⟨g', 0, none⟩, by omega, by go_num, rfl, hidI (by rw [HN.out, List.length_append, ← Hq.out]; rfl), hidI (by rw [HN.out, List.map_append]; exact HO7.out), B7⟩
      case measure => simp [intOf]; omega

set_option maxRecDepth 100000 in
set_option maxHeartbeats 2000000 in
theorem spec_DeedsMay (t : TaskM) (n : Int) (v : Value) (w : World) (ht : IsTask w v t) (hgl : t.goal.length ≤ 4000000) (hdl : ∀ d ∈ t.deeds, d.need.length ≤ 4000000) :
    Calls Try.prog 15 #[v, .int .i64 n] w fun e w' => GivesL w w' (deedsMay t n) e := by
  obtain ⟨go, gl, gc, ao, l, cp, hv, hs, h3, h4⟩ := id ht
  subst hv
  have hlen := task_len ht
  obtain ⟨Wb, hWb⟩ : ∃ Wb, Wb = w.alloc (.cells #[.int .i64 t.start, .slice go gl gc, .slice ao l cp] 35) := ⟨_, rfl⟩
  have bb : Below w.heap.size w Wb := by rw [hWb]; exact (Below.refl w.heap.size w).alloc (Nat.le_refl _) _
  have hsz : Wb.heap.size = w.heap.size + 1 := by rw [hWb]; simp
  have CC : ∀ W, Below Wb.heap.size Wb W → W.cell? ⟨w.heap.size, 0, none⟩ = some (.int .i64 t.start) ∧ W.cell? ⟨w.heap.size, 1, none⟩ = some (.slice go gl gc) ∧ W.cell? ⟨w.heap.size, 2, none⟩ = some (.slice ao l cp) := fun W hW =>
    ⟨(hW.cell (by simp; omega)).trans (by rw [hWb, cell_new]; rfl), (hW.cell (by simp; omega)).trans (by rw [hWb, cell_new]; rfl), (hW.cell (by simp; omega)).trans (by rw [hWb, cell_new]; rfl)⟩
  have HT0 := hidI (ht.below bb)
  have HB := hidI bb; have HCC := hidI CC; have HLEN := hidI hlen; have HSZ := hidI hsz
  have hle : w.heap.size ≤ Wb.heap.size := by omega
  obtain ⟨c0, c1, c2⟩ := CC Wb (Below.refl _ _)
  clear bb hsz CC ht h3 h4 hs hlen
  have HGL := hidI hgl; have HDL := hidI hdl; clear hgl hdl
  have hl47 : l ≤ 9223372036854775807 := by
    obtain ⟨go, gl, gc, ao', l', cp', e, h2, h3, h4⟩ := HT0.out
    injection e with e; injection e with e; injection e with q1 e; injection e with q2 e; injection e with q3
    injection q3 with s1 s2 s3
    obtain ⟨ao2, cap2, e4, h5, h6, h7⟩ := h4
    injection e4 with u1 u2 u3
    unfold maxLen at h6; omega
  have BN := hidI ((Below.refl Wb.heap.size Wb).alloc (Nat.le_refl _) (.cells #[] 3))
  have ON : Hid ((Wb.alloc (.cells #[] 3)).ownsRow Wb.heap.size 3 1 (.slice (some ⟨w.heap.size + 1, 0, none⟩) 0 0) 0 []) := by
    have h := World.ownsRow_made (base := Wb.heap.size) (e := 3) (size := 1) Wb #[] 0 (Nat.le_refl _) (by decide) (by simp)
    rw [show Value.slice (some ⟨w.heap.size + 1, 0, none⟩) 0 0 = Value.slice (some ⟨Wb.heap.size, 0, none⟩) 0 0 by rw [HSZ.out]]; exact h
  cases hv : taskValid t
  · have HF := hidI (show deedsMay t n = [] by unfold deedsMay; rw [hv]; rfl)
    have HV := hidI hv; clear hv
    rw [HF.out]
    go_enter Try.func15, Try.ntmps15
    go_wp2_with fail
    rw [← hWb]; clear hWb
    obtain ⟨d0, d1, d2⟩ := HCC.out _ BN.out
    refine wp_loop_rounds 1 ?_
    rw [rounds_succ]
    rcases Nat.eq_zero_or_pos l with rfl | hl
    · go_wp2_with fail
      go_ret
      exact ⟨_, _, rfl, own_base ON.out hle, HB.out.trans (BN.out.mono hle)⟩
    · have hl2 : (0 : Int) < l := by omega
      go_wp2_with fail
      go_fit (spec_TaskValid t _ _ (HT0.out.below BN.out) HGL.out HDL.out); rintro e w1 ⟨rfl, b1⟩; rw [HV.out]
      go_wp2_with fail
      go_ret
      exact ⟨_, _, rfl, own_base (own_below2 ON.out b1) hle, HB.out.trans ((bthen BN.out b1).mono hle)⟩
  obtain ⟨-, -, hl6, hdv⟩ := taskValid_parts hv
  have HDV := hidI hdv
  have HL6 := hidI (show l ≤ 6 by rw [HLEN.out]; exact hl6)
  obtain ⟨cur, hcur⟩ : ∃ cur : Nat → List Int, cur = fun k => if inS n then mayTo t.deeds n.toNat k else [] := ⟨_, rfl⟩
  have HF := hidI (show deedsMay t n = cur t.deeds.length by rw [hcur]; unfold deedsMay; rw [hv, Bool.true_and])
  have HC0 := hidI (show cur 0 = [] by rw [hcur]; simp only [mayTo]; split <;> rfl)
  have HCL := hidI (show ∀ k, (cur k).length ≤ k from fun k => by rw [hcur]; simp only; split; exact mayTo_le _ _ k; simp)
  have HST := hidI (show ∀ (k : Nat) (d : DeedM), t.deeds[k]? = some d → (deedDo d n = -1 ∧ cur (k + 1) = cur k) ∨ ∃ Q : Nat, Q < 32 ∧ deedDo d n = Q ∧ cur (k + 1) = cur k ++ [(k : Int)] from fun k d hd => by
    have hdm := hdv d (List.mem_of_getElem? hd)
    cases hin : inS n with
    | false => exact .inl ⟨by unfold deedDo; rw [hin, Bool.and_false]; rfl, by rw [hcur]; simp only [hin]; rfl⟩
    | true =>
      obtain ⟨S, rfl, hS⟩ := inS_true hin
      have hta := tabAt_at hd hS
      have hdd : deedDo d S = behind d S := by unfold deedDo; rw [hdm, hin, Int.toNat_natCast]; rfl
      rcases behind_lt d hdm S hS with hb | ⟨Q, hQ, hb⟩
      · exact .inl ⟨by rw [hdd, hb], by rw [hcur]; simp only [hin, if_true, Int.toNat_natCast]; rw [mayTo, if_neg (by rw [hta, hb]; decide)]⟩
      · exact .inr ⟨Q, hQ, by rw [hdd, hb], by rw [hcur]; simp only [hin, if_true, Int.toNat_natCast]; rw [mayTo, if_pos (by rw [hta, hb]; omega)]⟩)
  have HV := hidI hv; clear hv hdv hcur
  rw [HF.out]
  go_enter Try.func15, Try.ntmps15
  go_wp2_with fail
  rw [← hWb]; clear hWb c0 c1 c2
  go_loopw [5, 6] (fun x i wr => ∃ (k q cq : Nat) (aq : Option Addr), k ≤ l ∧ i = .int .i64 k ∧ x = .slice aq q cq ∧ Hid (q = (cur k).length) ∧ Hid (wr.ownsRow Wb.heap.size 3 1 (.slice aq q cq) q ((cur k).map (Value.int .i64))) ∧ Hid (Below Wb.heap.size Wb wr)) (fun _ i _ => l - (intOf i).toNat)
  case atStart => exact ⟨0, 0, 0, _, by omega, rfl, rfl, hidI (by rw [HC0.out]; rfl), hidI (by rw [HC0.out]; exact ON.out), BN⟩
  case round =>
    obtain ⟨k, q, cq, aq, hk, rfl, rfl, Hq, HO, HBr⟩ := hrel
    obtain ⟨c0, c1, c2⟩ := HCC.out _ HBr.out
    rcases Nat.lt_or_ge k l with hk2 | hk2
    rotate_left
    · have hkl : k = t.deeds.length := by have := HLEN.out; omega
      have hqq := hidI (show q = (cur t.deeds.length).length by rw [← hkl]; exact Hq.out)
      have ho := HO.out
      rw [hkl] at ho
      have HO := hidI ho; clear hkl ho
      go_wp2_with fail
      go_ret
      refine ⟨aq, cq, ?_, ?_, HB.out.trans (HBr.out.mono hle)⟩
      · rw [← hqq.out]; rfl
      · rw [← hqq.out]; exact own_base HO.out hle
    obtain ⟨d, hd⟩ : ∃ d, t.deeds[k]? = some d := ⟨_, List.getElem?_eq_getElem (by rw [← HLEN.out]; exact hk2)⟩
    have hk3 : (k : Int) < (l : Int) := by omega
    have hql : q ≤ 6 := by rw [Hq.out]; have := HCL.out k; have := HL6.out; omega
    have hdn := HDL.out d (List.mem_of_getElem? hd)
    have hst := HST.out k d hd
    have Hd := hidI hd; have HDN := hidI hdn; clear hd hdn
    go_wp2_with fail
    go_fit (spec_TaskValid t _ _ (HT0.out.below HBr.out) HGL.out HDL.out); rintro e w5 ⟨rfl, b5⟩; rw [HV.out]
    have HBr := hidI (bthen HBr.out b5); have HO := hidI (own_below2 HO.out b5); clear b5 c0 c1 c2
    obtain ⟨c0, c1, c2⟩ := HCC.out _ HBr.out
    obtain ⟨b, off, so, l', cp', hao, hb, hcp, hmx, q0, q1, q2, q3, hde⟩ := deed_cells (HT0.out.below HBr.out) Hd.out
    subst hao
    unfold maxLen at hmx
    have HDE := hidI hde; clear hde
    rcases hst with ⟨hdd, hcc⟩ | ⟨Q, hQ, hdd, hcc⟩
    · have HDD := hidI hdd; have HN := hidI hcc; clear hdd hcc
      go_wp2_with fail
      go_fit (spec_DeedDo d n _ _ HDE.out HDN.out); rintro e w6 ⟨rfl, b6⟩
      rw [HDD.out]
      have B6 := hidI (bthen HBr.out b6); have HO6 := hidI (own_below2 HO.out b6); clear b6
      go_wp2_with fail
      go_roundw
      case rel => exact ⟨k + 1, q, cq, aq, by omega, by go_num, rfl, hidI (by rw [HN.out]; exact Hq.out), hidI (by rw [HN.out]; exact HO6.out), B6⟩
      case measure => simp [intOf]; omega
    · have HDD := hidI hdd; have HN := hidI hcc; clear hdd hcc
      go_wp2_with fail
      go_fit (spec_DeedDo d n _ _ HDE.out HDN.out); rintro e w6 ⟨rfl, b6⟩
      rw [HDD.out]
      have B6 := hidI (bthen HBr.out b6); have HO6 := hidI (own_below2 HO.out b6); clear b6
      have hbs : Wb.heap.size ≤ w6.heap.size := B6.out.size
      go_wp2_with (at_builtin; refine wpList_push _ rfl _ _ 22 rfl Wb.heap.size 3 (.int .i64 0) 8 Try.underlying22 infoInt rfl (.slice aq q cq) q _ (.int .i64 (k : Int)) rfl rfl HO6.out rfl (by omega) (by decide) hbs ?_)
      intro g' c' w7 hg' ho' hb' hgr
      have B7 := hidI (hb' _ B6.out)
      have HO7 := hidI ho'; clear ho' hb' hgr
      go_wp2_with fail
      go_roundw
      case rel => exact ⟨k + 1, q + 1, c', some ⟨g', 0, none⟩, by omega, by go_num, rfl, hidI (by rw [HN.out, List.length_append, ← Hq.out]; rfl), hidI (by rw [HN.out, List.map_append]; exact HO7.out), B7⟩
      case measure => simp [intOf]; omega
end Go.Proofs.Ytndbfdgflflfpaa
