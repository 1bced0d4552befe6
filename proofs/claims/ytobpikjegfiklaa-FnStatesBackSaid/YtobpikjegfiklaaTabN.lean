/- nextStates, backStates: the walks over the table. -/
import Derived.Test.YtobpikjegfiklaaTable
import Derived.Test.YtobpikjegfiklaaBits
import Derived.Test.YtobpikjegfiklaaInts
import Derived.Outline
import Derived.Deep.Cut
namespace Go.Proofs.Ytobpikjegfiklaa
open Go.RowKit

/-- The row of number k. -/
def tabRow (ds : List DeedM) (k : Nat) : Array Value := ((List.range 32).map fun s => Value.int .i64 (tabAt ds (k * 32 + s))).toArray
theorem tabRow_size (ds : List DeedM) (k : Nat) : (tabRow ds k).size = 32 := by simp [tabRow]
theorem tabRow_at (ds : List DeedM) (k s : Nat) (h : s < 32) : (tabRow ds k)[s]? = some (.int .i64 (tabAt ds (k * 32 + s))) := by
  simp [tabRow, h]
theorem tabRow_one (ds : List DeedM) (k : Nat) : (tabRow ds k).all (·.oneCell') = true := by
  refine Array.all_eq_true_iff_forall_mem.2 fun v hv => ?_
  simp only [tabRow, List.mem_toArray, List.mem_map] at hv
  obtain ⟨s, _, rfl⟩ := hv
  rfl

theorem tab_range {w : World} {g n : Nat} {ds : List DeedM} (h : TabP w g n (n * 32) ds) {k : Nat} (hk : k < n) : w.rangeAt g (k * 32) (tabRow ds k).toList := by
  obtain ⟨c, h1, h2, h3⟩ := h
  intro j v hj
  have hj32 : j < 32 := by
    have := (List.getElem?_eq_some_iff.1 hj).1
    simpa [tabRow] using this
  have : (tabRow ds k)[j]? = some v := by simpa using hj
  rw [tabRow_at ds k j hj32] at this
  rw [blk_cell h1, h3 _ (by omega), this]

theorem wpList_store_new {P : Program} {ops : Array Oper} {rest : List Oper} {op : Oper} {a : Act} {w : World} {Q : Exit → Act → World → Prop} (hgd : op.guard = none) (ty : TypeId) (x y : Operand) (ho : op.op = .store ty x y)
    (c R : Array Value) (hx : a.eval x = .pointer (some ⟨w.heap.size, 0, none⟩)) (hy : a.eval y = .agg R) (hi : (P.info? ty).map (·.size) = some R.size) (hc : c.size = R.size) (h1 : R.all (·.oneCell') = true)
    (h : wpList P ops Q rest (a.put op.dst undef) (w.alloc (.cells R ty))) : wpList P ops Q (op :: rest) a (w.alloc (.cells c ty)) :=
  wpList_plain hgd fun K hK => by
    unfold Oper.wp execOp
    simp only [ho, hx, hy, Instr.storeAt, Instr.sureAddr, Sem.run_bind, Sem.run_pure, Result.andThen_ok, run_storeVar_new w ty c R hi hc h1]
    exact hK _ _ h

theorem new_range (w : World) (R : Array Value) (ty : TypeId) : (w.alloc (.cells R ty)).rangeAt w.heap.size 0 R.toList := fun j v hj => by
  rw [cell_new, Nat.zero_add]; simpa using hj

theorem run_index_row {P : Program} (t e : TypeId) (n : Nat) (cs : Array Value) (s : Nat) (v : Value) (h : P.underlying t = some (.array n e)) (hz : ∀ w, (sizeOf e).run P w = .ok 1 w) (ha : ∀ w, (isAgg e).run P w = .ok false w) (hs : s < n) (hv : cs[s]? = some v) (w : World) :
    (Instr.index t (.agg cs) (.int .i64 (s : Int))).run P w = .ok v w := by
  have hlt : (0 : Int) ≤ (s : Int) ∧ (s : Int) < (n : Int) := by omega
  simp [Instr.index, run_underlying h, asIntOf, hlt, hv, hs, hz, ha, go_sem]

theorem size_int (w : World) : (sizeOf 3).run Try.prog w = .ok 1 w := by
  obtain ⟨i, hi, hz, hsz, hby⟩ := info_parts infoInt
  simp [sizeOf, typeInfo, hi, hsz]
theorem agg_int (w : World) : (isAgg 3).run Try.prog w = .ok false w := by
  unfold isAgg
  rw [Sem.run_bind, run_underlying Try.underlying3 w]
  rfl

/-- The followers of a set of states by one deed, up to state s. -/
def nextIn (f : Nat → Int) (S : Nat) : Nat → Nat → Nat
  | 0, X => X
  | s + 1, X => if 0 ≤ f s && S.testBit s then nextIn f S s X ||| 2 ^ (f s).toNat else nextIn f S s X

theorem nextIn_lt (f : Nat → Int) (S : Nat) (hf : ∀ s, f s = -1 ∨ ∃ T : Nat, T < 32 ∧ f s = T) : ∀ s X, X < 4294967296 → nextIn f S s X < 4294967296
  | 0, X, h => h
  | s + 1, X, h => by
    have ih := nextIn_lt f S hf s X h
    rw [nextIn]
    split
    · refine or_lt2_32 ih (pow_lt2_32 ?_)
      rcases hf s with e | ⟨T, hT, e⟩
      · rename_i h1; rw [e] at h1; simp at h1
      · rw [e, Int.toNat_natCast]; exact hT
    · exact ih

theorem lt_62 {a : Nat} (h : a < 4294967296) : a < 4611686018427387904 := by omega
theorem lt_63 {a : Nat} (h : a < 4294967296) : a < 9223372036854775808 := by omega

theorem bit_of {S : Nat} (h : S < 4611686018427387904) (k : Nat) : bits .and .i64 ((S : Int) / 2 ^ k) 1 = if S.testBit k then 1 else 0 := by
  have h1 : ((S : Int) / 2 ^ k) = ((S / 2 ^ k : Nat) : Int) := by simp
  have h2 : S / 2 ^ k ≤ S := Nat.div_le_self _ _
  rw [h1, show (1 : Int) = ((1 : Nat) : Int) from rfl, and_i64 _ _ (by omega) (by omega), bit_is]
  cases S.testBit k <;> rfl

theorem nextIn_no {f : Nat → Int} {S s X : Nat} (h : (0 ≤ f s && S.testBit s) = false) : nextIn f S (s + 1) X = nextIn f S s X := by
  rw [nextIn, h]; rfl
theorem nextIn_yes {f : Nat → Int} {S s X T : Nat} (h : f s = T) (hb : S.testBit s = true) : nextIn f S (s + 1) X = nextIn f S s X ||| 2 ^ T := by
  rw [nextIn, h, hb, decide_eq_true (by omega), Int.toNat_natCast]; rfl

def nextTo (ds : List DeedM) (S : Nat) : Nat → Nat
  | 0 => 0
  | k + 1 => nextIn (fun s => tabAt ds (k * 32 + s)) S 32 (nextTo ds S k)

end Go.Proofs.Ytobpikjegfiklaa
