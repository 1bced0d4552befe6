/- The program's OrbitOf. -/
import Derived.Test.YtmmggbcmailbiaaGK
import Derived.Test.YtmmggbcmailbiaaGB
import Derived.Test.YtmmggbcmailbiaaTake
import Derived.Shelf.Abstract
import Derived.TacticsInMore
import Derived.LoopIn
namespace Go.Proofs.Ytmmggbcmailbiaa
open Go.RowKit Grp

attribute [local go_sem] Oper.semAt_some


theorem orbit_lt {n x : Nat} {ms : List Pm} {pre : NP} {y : Nat × Pm} (h5 : n ≤ 5) (hm : OkM n ms) (hx : x < n) (h : pre ++ [y] <+: orbitW n ms x) : y.1 < n :=
  ((orbitW_facts h5 hm hx).1 y (h.subset (by simp))).1

theorem mask_lt {n x S : Nat} {ms : List Pm} {pre : NP} {y : Nat × Pm} (h5 : n ≤ 5) (hm : OkM n ms) (hx : x < n) (h : pre ++ [y] <+: orbitW n ms x) (hS : ∀ y, S.testBit y = true ↔ y ∈ pre.map Prod.fst) : S < 32 :=
  Nat.lt_pow_two_of_testBit (n := 5) S (fun i hi => by
    cases e : S.testBit i with
    | false => rfl
    | true =>
      obtain ⟨z, hz, e'⟩ := List.mem_map.1 ((hS i).1 e)
      have := ((orbitW_facts h5 hm hx).1 z (h.subset (by simp [hz]))).1
      omega)

theorem mask_all {n x S : Nat} {ms : List Pm} (h5 : n ≤ 5) (hm : OkM n ms) (hx : x < n) (hS : ∀ y, S.testBit y = true ↔ y ∈ (orbitW n ms x).map Prod.fst) : S < 32 :=
  Nat.lt_pow_two_of_testBit (n := 5) S (fun i hi => by
    cases e : S.testBit i with
    | false => rfl
    | true =>
      obtain ⟨z, hz, e'⟩ := List.mem_map.1 ((hS i).1 e)
      have := ((orbitW_facts h5 hm hx).1 z hz).1
      omega)

theorem below_putObj {n₀ D : Nat} {W : World} {o : Obj} (hD : n₀ ≤ D) (hn : n₀ ≤ W.heap.size) : Below n₀ W (W.putObj D o) :=
  (Moves.of_putObj (X := fun k => k = D) W o rfl).below (by rintro k rfl; exact hD) hn
theorem upW_len (l : List Nat) : (upW l).length = l.length := List.length_map _
theorem upW_snoc (l : List Nat) (x : Nat) : upW (l ++ [x]) = upW l ++ [(x : Int)] := by unfold upW; simp

theorem filt_in {P : Nat → Prop} [DecidablePred P] {k : Nat} {zs : List Nat} (h : zs = (List.range k).filter (fun y => decide (P y))) (hk : P k) : zs ++ [k] = (List.range (k + 1)).filter (fun y => decide (P y)) := by
  rw [List.range_succ, List.filter_append, ← h]; simp [hk]
theorem filt_out {P : Nat → Prop} [DecidablePred P] {k : Nat} {zs : List Nat} (h : zs = (List.range k).filter (fun y => decide (P y))) (hk : ¬ P k) : zs = (List.range (k + 1)).filter (fun y => decide (P y)) := by
  rw [List.range_succ, List.filter_append, ← h]; simp [hk]

theorem mask_add {S : Nat} {pre : NP} {y : Nat × Pm} (hS : ∀ y, S.testBit y = true ↔ y ∈ pre.map Prod.fst) : ∀ z, (S ||| 2 ^ y.1).testBit z = true ↔ z ∈ (pre ++ [y]).map Prod.fst := by
  intro z
  rw [Nat.testBit_or, Bool.or_eq_true, hS, List.map_append, List.mem_append, Nat.testBit_two_pow]
  simp [eq_comm]

set_option maxRecDepth 100000 in
set_option maxHeartbeats 4000000 in
theorem impl_OrbitOf (n x : Nat) (ms : List Pm) (v : Value) (w : World) (h : IntSS w v (ms.map up)) (hm : OkM n ms) (h1 : 1 ≤ n) (h5 : n ≤ 5) (h3 : ms.length ≤ 3) (hx : x < n) :
    Calls Try.prog 45 #[.int .i64 (n : Int), v, .int .i64 (x : Int)] w fun e w' => GivesL w w' (upW (orbAsc n ms x)) e := by
  have HV := hidI (show mvalid (n : Int) (ms.map up) = true from (mvalid_iff _ _).2 ⟨n, ms, rfl, h1, h5, rfl, h3, hm⟩)
  have HM := hidI h; have HO := hidI hm
  obtain ⟨ao, cap, hv, hcap, hmax⟩ := ints_of_rows h
  subst hv
  unfold maxLen at hmax
  have hx0 : decide ((x : Int) < 0) = false := decide_eq_false (by omega)
  have hxn : decide (n ≤ x) = false := decide_eq_false (by omega)
  clear h hm
  refine (callsIn_wide (n := 9)).1 ?_
  refine callsIn_of_wp_marks Try.func45 rfl trivial ?_ rfl
  refine wpIn_wide.2 ?_
  simp only [Try.ntmps45, List.size_toArray, List.length_cons, List.length_nil, Nat.reduceAdd, Nat.reduceSub, Array.replicate_succ, Array.replicate_zero, List.push_toArray, List.append_toArray, List.nil_append, List.cons_append]
  go_wp2_with fail
  refine (impl_MovesValid (n : Int) (ms.map up) _ _ HM.out).mono ?_; rintro e w' ⟨rfl, rfl⟩; rw [HV.out]
  go_wp2_with fail
  refine (impl_orbitSeq (n : Int) ao ms.length cap (x : Int) _).mono ?_; rintro e w4 ⟨rfl, hw4⟩
  have SQ := hidI (orbit_made 8 n x ms ao cap w _ HM.out ((Below.refl w.heap.size w).alloc (Nat.le_refl _) (.cells #[.int .i64 0] 3)) h1 h5 (by omega) HO.out hx w4 hw4)
  have hs4 : w4.heap.size = w.heap.size + 4 := by rw [hw4]; simp
  have HB4 := hidI (show Below w.heap.size w w4 by rw [hw4]; exact ((((Below.refl w.heap.size w).alloc (Nat.le_refl _) _).alloc (by simp) _).alloc (by simp; omega) _).alloc (by simp; omega) _)
  have HX4 := hidI (show Boxed w4 w.heap.size 3 (.int .i64 0) by rw [hw4]; exact (((Boxed.new w 3 (.int .i64 0)).alloc _).alloc _).alloc _)
  simp only [World.size_alloc] at SQ ⊢
  clear hw4
  go_wp2_with fail
  refine (wpIn_wide (n := 9)).1 ?_
  refine wpIn_rangeFunc_X (by decide) rfl (enters_of Try.func90 (by kernel_rfl) rfl) SQ.out (by rintro k (h | h | h | h) <;> omega) rdO_put (Below.refl _ _) (fun _ _ => rfl)
    (fun pre _ W => (∃ v, Boxed W w.heap.size 3 v ∧ ∃ S : Nat, v = .int .i64 (S : Nat) ∧ ∀ y, S.testBit y = true ↔ y ∈ pre.map Prod.fst) ∧ Below w.heap.size w W)
    (fun _ _ _ _ => False) ((abx_boxed (by omega) _).and (abx_below (Nat.le_refl _) (by omega))) (fun _ => abx_no) ⟨⟨_, HX4.out, 0, rfl, by simp⟩, HB4.out⟩ ?round ?done ?stop
  case stop => intro D X c pre W _ _ _ _ h; exact h.elim
  case round =>
    rintro l pre y v X W W1 ⟨⟨_, hbx, S, rfl, hS⟩, hB⟩ hpre hrd _ hX hsz K hK
    have hyn := orbit_lt h5 HO.out hx hpre
    have hS32 := mask_lt h5 HO.out hx hpre hS
    have hc := hbx.cell
    have hf := hbx.frozen
    clear SQ HX4 HB4
    unfold encO
    gi_wp2
    refine hK.out _ ?_
    refine wpIn_block ?_
    refine region_roundA (by kernel_rfl) (by kernel_rfl) (fun ⟨_, _, h⟩ => h) ?_
    have hs1 := shl1 (n := y.1) (by omega)
    have hp32 := pow_lt32 (n := y.1) (by omega)
    have hor := or_i64 S (2 ^ y.1) (by omega) (by omega)
    have hS2 := mask_add (y := y) hS
    obtain ⟨P, hP⟩ : ∃ P : Nat, P = 2 ^ y.1 := ⟨_, rfl⟩
    rw [← hP] at hs1 hp32 hor hS2
    clear hP
    obtain ⟨S', hS'⟩ : ∃ S' : Nat, S' = S ||| P := ⟨_, rfl⟩
    rw [← hS'] at hor hS2
    have HS2 := hidI hS2
    have HX := hidI hX
    clear hS' hS2 hS hX hpre hrd hK
    refine take_at (i := 1) (v := ?_) 31 rfl rfl (by kernel_rfl) (by kernel_rfl) (by kernel_rfl) (fun _ _ _ h => h) (Or.inl ⟨by rfl, ?_⟩) ?_
    rotate_left
    · intro w; go_simp; try with_reducible rfl
    (try simp only [Act.put, List.setIfInBounds_toArray, List.set_cons_zero, List.set_cons_succ])
    refine take_at (i := 2) (v := ?_) 32 rfl rfl (by kernel_rfl) (by kernel_rfl) (by kernel_rfl) (fun _ _ _ h => h) (Or.inl ⟨by rfl, ?_⟩) ?_
    rotate_left
    · intro w; go_simp; try with_reducible rfl
    (try simp only [Act.put, List.setIfInBounds_toArray, List.set_cons_zero, List.set_cons_succ])
    refine wpAny_ready (rs := [0]) (by kernel_rfl) (by simp) ?_
    refine AllReady.cons rfl (fun K hK => ?_) AllReady.nil
    go_simp
    refine hK _ _ ?_; clear hK K
    refine wpAny_ready (rs := [3]) (by kernel_rfl) (by simp) ?_
    refine AllReady.cons rfl (fun K hK => ?_) AllReady.nil
    go_simp
    refine hK _ _ ?_; clear hK K
    refine wpAny_ready (rs := [4]) (by kernel_rfl) (by simp) ?_
    refine AllReady.cons rfl (fun K hK => ?_) AllReady.nil
    go_simp
    refine hK _ _ ?_; clear hK K
    refine wpAny_done (by kernel_rfl) ?_ _
    exact ⟨(KeepX.drew _ _ W).trans (KeepX.setCell _ _ (by rintro (h | h | h | h) <;> omega) (fun h => by have := HX.out _ h; omega)), ⟨_, hbx.set _, S', by rw [IntWalk.i64_left, hs1, hor], HS2.out⟩, hB.drew.setCell (Nat.le_refl _) _⟩
  case done =>
    rintro D X W hD hX hsz ⟨⟨_, hbx, S, rfl, hS⟩, hB⟩ hK
    have hDw := hX _ hD
    have HS := hidI hS; have HBX := hidI hbx; have HB := hidI hB; have HK := hidI hK
    have hS32 := mask_all h5 HO.out hx hS
    clear SQ HX4 HB4 hD hX hsz hbx hS hB hK
    go_wp2_with fail
    go_loopw [9, 35] (fun vo vi wr => ∃ (k : Nat) (ao : Option Addr) (c : Nat) (zs : List Nat), vo = .slice ao zs.length c ∧ vi = .int .i64 (k : Nat) ∧ k ≤ n ∧ zs.length ≤ k ∧ Hid (zs = (List.range k).filter (fun y => decide (y ∈ orbitL n ms x))) ∧
      Hid (wr.ownsRow (w.heap.size + 1) 3 1 (.slice ao zs.length c) zs.length ((upW zs).map (Value.int .i64))) ∧ Hid (Boxed wr w.heap.size 3 (.int .i64 (S : Nat))) ∧ Hid (Below w.heap.size w wr) ∧ Hid (wr.heap[D]? = some (.deferred (some [])))) (fun _ vi _ => n - (intOf vi).toNat)
    case atStart => exact ⟨0, none, 0, [], rfl, rfl, by omega, by simp, hidI rfl, hidI (World.ownsRow_nil _ _ _ _), HBX, HB, HK⟩
    case round =>
      clear HBX HB HK
      obtain ⟨k, ao, c, zs, rfl, rfl, hk, hzl, HZ, HR, HBX, HB, HK⟩ := hrel
      have hc := HBX.out.cell
      by_cases hlt : k < n
      rotate_left
      · have hkn := hidI (show k = n by omega)
        have hkI : ¬ (k : Int) < (n : Int) := by omega
        go_wp2_with fail
        refine ⟨by simp, .inl ⟨_, _, rfl, run_takeDeferred HK.out, ?_⟩⟩
        refine ⟨_, results_tmp rfl _ _ _, _, rfl, ?_, HB.out.trans (below_putObj (by omega) HB.out.size)⟩
        have he : orbAsc n ms x = zs := by unfold orbAsc; rw [HZ.out, hkn.out]
        rw [he, upW_len]
        exact own_base (ownsRow_putObj HR.out _ HK.out rfl) (by omega)
      have hkI : (k : Int) < (n : Int) := by omega
      have hbe := bit_eq1v S k hS32
      cases hbt : S.testBit k
      · have HZ2 := hidI (show zs = (List.range (k + 1)).filter (fun y => decide (y ∈ orbitL n ms x)) from
          filt_out HZ.out (fun h => by rw [(HS.out k).2 h] at hbt; cases hbt))
        rw [hbt] at hbe
        clear hbt
        go_wp2_with fail
        go_roundw
        case rel => exact ⟨k + 1, ao, c, zs, rfl, by go_num, by omega, by omega, HZ2, HR, HBX, HB, HK⟩
        case measure => simp [intOf]; omega
      have HZ2 := hidI (show zs ++ [k] = (List.range (k + 1)).filter (fun y => decide (y ∈ orbitL n ms x)) from
        filt_in HZ.out ((HS.out k).1 hbt))
      rw [hbt] at hbe
      have hsw := HB.out.size
      have hDlt := (Array.getElem?_eq_some_iff.1 HK.out).1
      clear hbt
      go_wp2_with (at_builtin; refine wpList_pushI wr rfl _ _ rfl (w.heap.size + 1) (.slice ao zs.length c) zs.length ((upW zs).map (Value.int .i64)) (k : Int) rfl rfl HR.out (by omega) (by omega) ?_)
      intro g1 c1 w1 hg1 o1 gr1 l1
      have ba := (Below.refl wr.heap.size wr).alloc (Nat.le_refl _) (.cells #[.int .i64 (k : Int)] 3)
      have hne : some w.heap.size ≠ (Value.slice ao zs.length c).ownBlock := fun e => by have := (HR.out.lt _ e.symm).1; omega
      have hneD : ∀ j, (Value.slice ao zs.length c).ownBlock = some j → j ≠ D := fun j e e' => by
        subst e'
        rcases HR.out.2 with ⟨h1, _⟩ | ⟨g, cap', cur, h1, h4, h5', _⟩
        · rw [h1] at e; cases e
        · rw [h1] at e; injection e with e; subst e
          rw [HK.out] at h5'; cases h5'
      have HBX1 := hidI (Boxed.kept (Boxed.alloc HBX.out (.cells #[.int .i64 (k : Int)] 3)) gr1 hne)
      have HK1 := hidI ((gr1.block D (by simp; omega) (fun e => hneD D e.symm rfl)).trans ((Below.heap_alloc wr _ _ hDlt).trans HK.out))
      have HB1 := hidI ((HB.out.trans (ba.mono hsw)).grown gr1 (by simp; omega) (fun j e => by
        have := (HR.out.lt j e).1; omega))
      have HR1 := hidI (show w1.ownsRow (w.heap.size + 1) 3 1 (.slice (some ⟨g1, 0, none⟩) (zs ++ [k]).length c1) (zs ++ [k]).length ((upW (zs ++ [k])).map (Value.int .i64)) by
        rw [upW_snoc, List.map_append, List.length_append]; exact o1)
      clear o1 gr1 l1 ba hne hneD HR HBX HB HK
      go_wp2_with fail
      go_roundw
      case rel => exact ⟨k + 1, some ⟨g1, 0, none⟩, c1, zs ++ [k], by rw [List.length_append]; rfl, by go_num, by omega, by simp; omega, HZ2, HR1, HBX1, HB1, HK1⟩
      case measure => simp [intOf]; omega
end Go.Proofs.Ytmmggbcmailbiaa
