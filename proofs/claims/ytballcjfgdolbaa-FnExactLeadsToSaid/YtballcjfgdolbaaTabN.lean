/- nextStates, backStates: the walks over the table. -/
import Derived.Test.YtballcjfgdolbaaTable
import Derived.Test.YtballcjfgdolbaaBits
import Derived.Test.YtballcjfgdolbaaInts
import Derived.Outline
import Derived.Deep.Cut
namespace Go.Proofs.Ytballcjfgdolbaa
open Go.RowKit

/-- The row of number k. -/
def tabRow (ds : List DeedM) (k : Nat) : Array Value := ((List.range 32).map fun s => Value.int .i64 (tabAt ds (k * 32 + s))).toArray
theorem tabRow_size (ds : List DeedM) (k : Nat) : (tabRow ds k).size = 32 := by simp [tabRow]
theorem tabRow_at (ds : List DeedM) (k s : Nat) (h : s < 32) : (tabRow ds k)[s]? = some (.int .i64 (tabAt ds (k * 32 + s))) := by
  simp [tabRow, h]
theorem tabRow_one (ds : List DeedM) (k : Nat) : (tabRow ds k).all (·.oneCell') = true := by
  refine Array.all_eq_true_iff_forall_mem.2 fun v hv => ?_
  simp only [tabRow, List.mem_toArray, List.mem_map] at hv
  obtain ⟨s, _, rfl⟩ := hv
  rfl

theorem tab_range {w : World} {g n : Nat} {ds : List DeedM} (h : TabP w g n (n * 32) ds) {k : Nat} (hk : k < n) : w.rangeAt g (k * 32) (tabRow ds k).toList := by
  obtain ⟨c, h1, h2, h3⟩ := h
  intro j v hj
  have hj32 : j < 32 := by
    have := (List.getElem?_eq_some_iff.1 hj).1
    simpa [tabRow] using this
  have : (tabRow ds k)[j]? = some v := by simpa using hj
  rw [tabRow_at ds k j hj32] at this
  rw [blk_cell h1, h3 _ (by omega), this]

theorem wpList_store_new {P : Program} {ops : Array Oper} {rest : List Oper} {op : Oper} {a : Act} {w : World} {Q : Exit → Act → World → Prop} (hgd : op.guard = none) (ty : TypeId) (x y : Operand) (ho : op.op = .store ty x y)
    (c R : Array Value) (hx : a.eval x = .pointer (some ⟨w.heap.size, 0, none⟩)) (hy : a.eval y = .agg R) (hi : (P.info? ty).map (·.size) = some R.size) (hc : c.size = R.size) (h1 : R.all (·.oneCell') = true)
    (h : wpList P ops Q rest (a.put op.dst undef) (w.alloc (.cells R ty))) : wpList P ops Q (op :: rest) a (w.alloc (.cells c ty)) :=
  wpList_plain hgd fun K hK => by
    unfold Oper.wp execOp
    simp only [ho, hx, hy, Instr.storeAt, Instr.sureAddr, Sem.run_bind, Sem.run_pure, Result.andThen_ok, run_storeVar_new w ty c R hi hc h1]
    exact hK _ _ h

theorem new_range (w : World) (R : Array Value) (ty : TypeId) : (w.alloc (.cells R ty)).rangeAt w.heap.size 0 R.toList := fun j v hj => by
  rw [cell_new, Nat.zero_add]; simpa using hj

theorem run_index_row {P : Program} (t e : TypeId) (n : Nat) (cs : Array Value) (s : Nat) (v : Value) (h : P.underlying t = some (.array n e)) (hz : ∀ w, (sizeOf e).run P w = .ok 1 w) (ha : ∀ w, (isAgg e).run P w = .ok false w) (hs : s < n) (hv : cs[s]? = some v) (w : World) :
    (Instr.index t (.agg cs) (.int .i64 (s : Int))).run P w = .ok v w := by
  have hlt : (0 : Int) ≤ (s : Int) ∧ (s : Int) < (n : Int) := by omega
  simp [Instr.index, run_underlying h, asIntOf, hlt, hv, hs, hz, ha, go_sem]

theorem size_int (w : World) : (sizeOf 3).run Try.prog w = .ok 1 w := by
  obtain ⟨i, hi, hz, hsz, hby⟩ := info_parts infoInt
  simp [sizeOf, typeInfo, hi, hsz]
theorem agg_int (w : World) : (isAgg 3).run Try.prog w = .ok false w := by
  unfold isAgg
  rw [Sem.run_bind, run_underlying Try.underlying3 w]
  rfl

/-- The followers of a set of states by one deed, up to state s. -/
def nextIn (f : Nat → Int) (S : Nat) : Nat → Nat → Nat
  | 0, X => X
  | s + 1, X => if 0 ≤ f s && S.testBit s then nextIn f S s X ||| 2 ^ (f s).toNat else nextIn f S s X

theorem nextIn_lt (f : Nat → Int) (S : Nat) (hf : ∀ s, f s = -1 ∨ ∃ T : Nat, T < 32 ∧ f s = T) : ∀ s X, X < 4294967296 → nextIn f S s X < 4294967296
  | 0, X, h => h
  | s + 1, X, h => by
    have ih := nextIn_lt f S hf s X h
    rw [nextIn]
    split
    · refine or_lt2_32 ih (pow_lt2_32 ?_)
      rcases hf s with e | ⟨T, hT, e⟩
      · rename_i h1; rw [e] at h1; simp at h1
      · rw [e, Int.toNat_natCast]; exact hT
    · exact ih

theorem lt_62 {a : Nat} (h : a < 4294967296) : a < 4611686018427387904 := by omega
theorem lt_63 {a : Nat} (h : a < 4294967296) : a < 9223372036854775808 := by omega

theorem bit_of {S : Nat} (h : S < 4611686018427387904) (k : Nat) : bits .and .i64 ((S : Int) / 2 ^ k) 1 = if S.testBit k then 1 else 0 := by
  have h1 : ((S : Int) / 2 ^ k) = ((S / 2 ^ k : Nat) : Int) := by simp
  have h2 : S / 2 ^ k ≤ S := Nat.div_le_self _ _
  rw [h1, show (1 : Int) = ((1 : Nat) : Int) from rfl, and_i64 _ _ (by omega) (by omega), bit_is]
  cases S.testBit k <;> rfl

theorem nextIn_no {f : Nat → Int} {S s X : Nat} (h : (0 ≤ f s && S.testBit s) = false) : nextIn f S (s + 1) X = nextIn f S s X := by
  rw [nextIn, h]; rfl
theorem nextIn_yes {f : Nat → Int} {S s X T : Nat} (h : f s = T) (hb : S.testBit s = true) : nextIn f S (s + 1) X = nextIn f S s X ||| 2 ^ T := by
  rw [nextIn, h, hb, decide_eq_true (by omega), Int.toNat_natCast]; rfl

def nextTo (ds : List DeedM) (S : Nat) : Nat → Nat
  | 0 => 0
  | k + 1 => nextIn (fun s => tabAt ds (k * 32 + s)) S 32 (nextTo ds S k)

set_option maxRecDepth 100000 in
set_option maxHeartbeats 2000000 in
theorem impl_nextStates (ds : List DeedM) (S g : Nat) (w : World) (hT : TabP w g ds.length (ds.length * 32) ds) (hl : ds.length ≤ 6) (hS : S < 4294967296) (hr : ∀ p, tabAt ds p = -1 ∨ ∃ T : Nat, T < 32 ∧ tabAt ds p = T) :
    Calls Try.prog 69 #[.slice (some ⟨g, 0, none⟩) ds.length ds.length, .int .i64 S] w fun e w' => e = .returned (.int .i64 (nextTo ds S ds.length)) ∧ Below w.heap.size w w' := by
  have HT := hidI hT; clear hT
  have HR := hidI hr; clear hr
  have hinf := (zero_of_info (P := Try.prog) (t := 101) (v := .agg zeroRow) (n := 32) (by kernel_rfl)).2
  have HI := hidI hinf; clear hinf
  go_enter Try.func69, Try.ntmps69
  go_wp2_with fail
  go_loopw [5, 12] (fun x i wr => ∃ k X : Nat, k ≤ ds.length ∧ i = .int .i64 k ∧ x = .int .i64 X ∧ X < 4294967296 ∧ Hid (X = nextTo ds S k) ∧ Hid (Below w.heap.size w wr)) (fun _ i _ => ds.length - (intOf i).toNat)
  case atStart => exact ⟨0, 0, by omega, rfl, rfl, by omega, hidI rfl, hidI (Below.refl _ _)⟩
  case round =>
    obtain ⟨k, X, hk, rfl, rfl, hX, HX, HB⟩ := hrel
    rcases Nat.lt_or_ge k ds.length with hlt | hge
    rotate_left
    · obtain rfl : k = ds.length := by omega
      go_wp2_with fail
      go_ret
      exact ⟨ret_int (by rw [HX.out]), HB.out⟩
    obtain ⟨R, hR⟩ : ∃ R, R = tabRow ds k := ⟨_, rfl⟩
    have hrng := tab_range (HT.out.below HB.out) hlt
    rw [← hR] at hrng
    have hsize : R.toList.length = 32 := by rw [hR]; simp [tabRow]
    have hsR : R.size = 32 := by rw [hR, tabRow_size]
    have hinf : (Try.prog.info? 101).map (·.size) = some R.toList.length := by rw [hsize]; exact HI.out
    have HRR := hidI hR; have HRNG := hidI hrng; clear hR hrng
    have hk0 : (0 : Int) ≤ (k : Int) := by omega
    have hk1 : (k : Int) < (ds.length : Int) := by omega
    go_upto_region 4 with fail
    refine wp_region_lit ?_
    refine wpList_plain rfl (fun K hK => ?_)
    go_simp
    refine hK _ _ ?_
    clear hK K
    try simp only [Act.put, List.setIfInBounds_toArray, List.set_cons_zero, List.set_cons_succ]
    refine wpList_load_mid rfl 101 _ rfl g (k * 32) rfl R.toList _ HRNG.out Try.underlying101 rfl hinf ?_
    simp only [Act.put, List.setIfInBounds_toArray, List.set_cons_zero, List.set_cons_succ, Array.toArray_toList]
    refine wpList_plain rfl (fun K hK => ?_)
    go_simp
    refine hK _ _ ?_
    clear hK K
    try simp only [Act.put, List.setIfInBounds_toArray, List.set_cons_zero, List.set_cons_succ]
    refine wpList_store_new rfl 101 _ _ rfl _ R rfl rfl (by simpa using hinf) (by rw [hsR]; rfl) (by rw [HRR.out]; exact tabRow_one _ _) ?_
    try simp only [Act.put, List.setIfInBounds_toArray, List.set_cons_zero, List.set_cons_succ]
    obtain ⟨Wd, hWd⟩ : ∃ Wd, Wd = wr.alloc (.cells R 101) := ⟨_, rfl⟩
    have HNR := hidI (show Wd.rangeAt wr.heap.size 0 R.toList by rw [hWd]; exact new_range _ _ _)
    have HBd := hidI (show Below w.heap.size w Wd by rw [hWd]; exact HB.out.alloc HB.out.size _)
    rw [← hWd]; clear hWd
    obtain ⟨vb, hvb⟩ : ∃ vb, vb = wr.heap.size := ⟨_, rfl⟩
    rw [← hvb] at HNR ⊢
    clear hvb
    go_upto_region 5 with fail
    refine wp_region_lit ?_
    refine wpList_load_mid rfl 101 _ rfl vb 0 rfl R.toList _ HNR.out Try.underlying101 rfl hinf ?_
    simp only [Act.put, List.setIfInBounds_toArray, List.set_cons_zero, List.set_cons_succ, Array.toArray_toList]
    go_wp2_with fail
    go_loopw [5, 17] (fun x i wr => ∃ s Y : Nat, s ≤ 32 ∧ i = .int .i64 s ∧ x = .int .i64 Y ∧ Y < 4294967296 ∧ Hid (Y = nextIn (fun s => tabAt ds (k * 32 + s)) S s X) ∧ Hid (wr = Wd)) (fun _ i _ => 32 - (intOf i).toNat)
    case atStart => exact ⟨0, X, by omega, rfl, rfl, hX, hidI rfl, hidI rfl⟩
    case round =>
      obtain ⟨s, Y, hs, rfl, rfl, hY, HY, HW⟩ := hrel
      rcases Nat.lt_or_ge s 32 with hs2 | hs2
      rotate_left
      · obtain rfl : s = 32 := by omega
        go_wp2_with fail
        go_roundw
        case rel => exact ⟨k + 1, Y, by omega, by go_num, rfl, hY, hidI (by rw [HY.out, HX.out]; rfl), by rw [HW.out]; exact HBd⟩
        case measure => simp [intOf]; omega
      have hRs : R[s]? = some (.int .i64 (tabAt ds (k * 32 + s))) := by rw [HRR.out]; exact tabRow_at ds k s hs2
      have hs0 : (0 : Int) ≤ (s : Int) := by omega
      have hs1 : (s : Int) < 32 := by omega
      have hix := run_index_row (P := Try.prog) 101 _ _ R s _ Try.underlying101 size_int agg_int hs2 hRs
      clear hRs
      have hbit := bit_of (S := S) (lt_62 hS) s
      rcases HR.out (k * 32 + s) with hF | ⟨T, hT, hF⟩
      · have HN := hidI (nextIn_no (f := fun s => tabAt ds (k * 32 + s)) (S := S) (s := s) (X := X) (by simp [hF]))
        rw [hF] at hix; clear hF
        go_wp2_with fail
        go_roundw
        case rel => exact ⟨s + 1, Y, by omega, by go_num, rfl, hY, hidI (by rw [HN.out]; exact HY.out), HW⟩
        case measure => simp [intOf]; omega
      · have HF := hidI hF
        rw [hF] at hix; clear hF
        have hp := shl1 (n := T) (by omega)
        have hp2 := pow_lt2_32 hT
        obtain ⟨P, hP⟩ : ∃ P : Nat, P = 2 ^ T := ⟨_, rfl⟩
        rw [← hP] at hp hp2
        have HP := hidI hP; clear hP
        have hor := or_i64 Y P (lt_63 hY) (lt_63 hp2)
        have hor2 := or_lt2_32 hY hp2
        cases hb : S.testBit s
        · have HN := hidI (nextIn_no (f := fun s => tabAt ds (k * 32 + s)) (S := S) (s := s) (X := X) (by simp [hb]))
          rw [hb, if_neg (by simp)] at hbit; clear hb
          go_wp2_with fail
          go_roundw
          case rel => exact ⟨s + 1, Y, by omega, by go_num, rfl, hY, hidI (by rw [HN.out]; exact HY.out), HW⟩
          case measure => simp [intOf]; omega
        · have HN := hidI (nextIn_yes (f := fun s => tabAt ds (k * 32 + s)) (S := S) (s := s) (X := X) HF.out hb)
          rw [hb, if_pos rfl] at hbit; clear hb
          go_wp2_with fail
          go_roundw
          case rel => exact ⟨s + 1, _, by omega, by go_num, rfl, hor2, hidI (by rw [HN.out, ← HY.out, HP.out]), HW⟩
          case measure => simp [intOf]; omega
end Go.Proofs.Ytballcjfgdolbaa
