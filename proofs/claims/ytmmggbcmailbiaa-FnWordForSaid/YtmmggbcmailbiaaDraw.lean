/- The draws' helpers: odd, l20Open, l20Leaf. -/
import Derived.Test.YtmmggbcmailbiaaPick
import Derived.Test.YtmmggbcmailbiaaInts
import Derived.Outline
namespace Go.Proofs.Ytmmggbcmailbiaa
open Go.RowKit

theorem grown_refl (w : World) (r : Option Nat) : w.grownBy w r := ⟨rfl, rfl, rfl, Nat.le_refl _, fun _ _ _ => rfl⟩
theorem grown_alloc (w : World) (o : Obj) (r : Option Nat) : w.grownBy (w.alloc o) r := ⟨rfl, rfl, rfl, by simp, fun i hi _ => Below.heap_alloc w o i hi⟩

set_option maxHeartbeats 400000 in
theorem spec_odd (r N : Nat) (m : Int) (w : World) (h : RdOk w r N) (hN : N ≤ 1000000) (hm : 0 ≤ m) (hm2 : m ≤ 1000000) :
    Calls Try.prog 88 #[.pointer (some ⟨r, 0, none⟩), .int .i64 m] w fun e w' => ∃ b : Bool, e = .returned (.bool b) ∧ RdOk w' r (N + 1) ∧ w.grownBy w' (some r) ∧ (m = 0 → b = false) := by
  by_cases h0 : m = 0
  · subst h0
    have hR := h.mono (Nat.le_succ N)
    go_enter Try.func88, Try.ntmps88
    go_wp2_with fail
    go_ret
    exact ⟨false, rfl, hR, grown_refl _ _, fun _ => rfl⟩
  · have hm1 : 1 ≤ m := by omega
    have H := hidI h; clear h
    go_enter Try.func88, Try.ntmps88
    go_wp2_with (go_at_call 78; refine (spec_pickI r N m _ H.out hN hm1 hm2).mono ?_; rintro e w1 ⟨k, rfl, hk, hr, hg⟩)
    go_ret
    exact ⟨_, rfl, hr, hg, fun e => absurd e h0⟩

theorem bytS_any {w : World} {r : Nat} {v : Value} {n : Nat} (h : BytS w r v n) {w' : World} (hb : Below w.heap.size w w') (hr : r ≤ w.heap.size) : BytS w' r v n := by
  obtain ⟨ao, cap, h4, h5, h6, h7⟩ := h
  refine ⟨ao, cap, h4, h5, h6, ?_⟩
  rcases h7 with h7 | ⟨b, off, h8, h9, h10⟩
  · exact .inl h7
  · exact .inr ⟨b, off, h8, h9, fun j hj => by obtain ⟨x, hx, hl⟩ := h10 j hj; exact ⟨x, (hb.cell (p := ⟨b, off + j, none⟩) (by show b < w.heap.size; omega)).trans hx, hl⟩⟩

set_option maxHeartbeats 400000 in
theorem spec_l20Open (n : Nat) (v : Value) (w : World) (h : BytS w w.heap.size v n) :
    Calls Try.prog 75 #[v] w fun e w' => e = .returned (.pointer (some ⟨w.heap.size, 0, none⟩)) ∧ RdOk w' w.heap.size 0 ∧ Below w.heap.size w w' := by
  obtain ⟨ao, cap, rfl, h5, h6, h7⟩ := h
  have H6 := hidI h6
  unfold maxLen at h6
  have key : ∀ k : Nat, k ≤ n → k ≤ 2000 → RdOk (w.alloc (.cells #[.slice ao k cap, .int .i64 0] 77)) w.heap.size 0 := fun k hk hk2 => by
    refine ⟨.slice ao k cap, k, 0, heap_alloc_new w _, hk2, by omega, ao, cap, rfl, by omega, H6.out, ?_⟩
    rcases h7 with h7 | ⟨b, off, h8, h9, h10⟩
    · exact .inl (by omega)
    · exact .inr ⟨b, off, h8, h9, fun j hj => by obtain ⟨x, hx, hl⟩ := h10 j (by omega); exact ⟨x, (((Below.refl w.heap.size w).alloc (Nat.le_refl _) _).cell (p := ⟨b, off + j, none⟩) h9).trans hx, hl⟩⟩
  have HK := hidI key; clear key
  by_cases hn : 2000 < n
  · rcases h7 with h7 | ⟨b, off, rfl, h9, h10⟩
    · omega
    · clear h10
      go_enter Try.func75, Try.ntmps75
      go_wp2_with fail
      go_ret
      exact ⟨rfl, HK.out 2000 (by omega) (by omega), (Below.refl _ _).alloc (Nat.le_refl _) _⟩
  · clear h7
    go_enter Try.func75, Try.ntmps75
    go_wp2_with fail
    go_ret
    exact ⟨rfl, HK.out n (by omega) (by omega), (Below.refl _ _).alloc (Nat.le_refl _) _⟩

/-- Block g holds a slice of n ints of the call's own. -/
def OutS (w : World) (base g n cap : Nat) : Prop := ∃ zs : List Int, zs.length = n ∧ (∀ z ∈ zs, I64 z) ∧ w.ownsRow base 3 1 (.slice (some ⟨g, 0, none⟩) n cap) n (zs.map (Value.int .i64))

theorem OutS.new {w : World} {base : Nat} (zs : List Int) (hz : ∀ z ∈ zs, I64 z) (hb : base ≤ w.heap.size) (hl : zs.length ≤ 1000) : OutS (w.alloc (.cells (zs.map (Value.int .i64)).toArray 3)) base w.heap.size zs.length zs.length :=
  ⟨zs, rfl, hz, by simp, .inr ⟨w.heap.size, zs.length, (zs.map (Value.int .i64)).toArray, rfl, hb, heap_alloc_new w _, Nat.le_refl _, by unfold maxLen; omega, by simp, by rw [List.take_of_length_le (by simp)]⟩⟩

theorem OutS.grown {w w' : World} {base r g n cap : Nat} (h : OutS w base g n cap) (hg : w.grownBy w' (some r)) (hr : r < base) : OutS w' base g n cap := by
  obtain ⟨zs, h1, h2, h3⟩ := h
  exact ⟨zs, h1, h2, own_grown h3 hg (fun k hk e => by have := (h3.lt k hk).1; omega)⟩

theorem OutS.alloc {w : World} {base g n cap : Nat} (h : OutS w base g n cap) (o : Obj) : OutS (w.alloc o) base g n cap := by
  obtain ⟨zs, h1, h2, h3⟩ := h
  exact ⟨zs, h1, h2, h3.alloc o⟩

theorem OutS.base {w : World} {b b' g n cap : Nat} (h : OutS w b g n cap) (hb : b' ≤ b) : OutS w b' g n cap := by
  obtain ⟨zs, h1, h2, h3⟩ := h
  exact ⟨zs, h1, h2, own_base h3 hb⟩

theorem OutS.other {w w' : World} {base g g' n cap : Nat} (h : OutS w base g n cap) (hg : w.grownBy w' (some g')) (hne : g ≠ g') : OutS w' base g n cap := by
  obtain ⟨zs, h1, h2, h3⟩ := h
  exact ⟨zs, h1, h2, own_grown h3 hg (fun k hk e => hne (by simp [Value.ownBlock] at hk; omega))⟩

theorem OutS.ints {w : World} {base g n cap : Nat} (h : OutS w base g n cap) : ∃ zs, zs.length = n ∧ IntS w (.slice (some ⟨g, 0, none⟩) n cap) zs := by
  obtain ⟨zs, h1, h2, h3⟩ := h
  exact ⟨zs, h1, (IntS.ofOwn h3 h2).2⟩

theorem OutS.lt {w : World} {base g n cap : Nat} (h : OutS w base g n cap) : base ≤ g ∧ g < w.heap.size := by
  obtain ⟨zs, h1, h2, h3⟩ := h
  have := own_lt h3
  exact ⟨this.1, this.2.1⟩

theorem OutS.cell {w : World} {base g n cap : Nat} (h : OutS w base g n cap) {i : Nat} (hi : i < n) : (∃ z : Int, I64 z ∧ w.cell? ⟨g, i, none⟩ = some (.int .i64 z)) ∧ w.frozen? ⟨g, i, none⟩ = false := by
  obtain ⟨zs, h1, h2, h3⟩ := h
  have hx : (zs.map (Value.int .i64))[i]? = some (.int .i64 zs[i]) := by rw [List.getElem?_map, List.getElem?_eq_getElem (by omega)]; rfl
  exact ⟨⟨_, h2 _ (List.getElem_mem _), (own_cell h3 hx).1⟩, (own_cell h3 hx).2⟩

theorem OutS.put {w : World} {base g n cap : Nat} (h : OutS w base g n cap) (i : Nat) (z : Int) (hz : I64 z) : OutS (w.setCell ⟨g, i, none⟩ (.int .i64 z)) base g n cap := by
  obtain ⟨zs, h1, h2, h3⟩ := h
  refine ⟨zs.set i z, by simpa using h1, fun y hy => ?_, by rw [List.map_set]; exact own_put h3 i _⟩
  rcases List.mem_or_eq_of_mem_set hy with hy | rfl
  · exact h2 y hy
  · exact hz

theorem ints_new (w : World) (zs : List Int) (hz : ∀ z ∈ zs, I64 z) (hl : zs.length ≤ 1000) : IntS (w.alloc (.cells (zs.map (Value.int .i64)).toArray 3)) (.slice (some ⟨w.heap.size, 0, none⟩) zs.length zs.length) zs := by
  exact ⟨hz, _, _, rfl, Nat.le_refl _, by unfold maxLen; omega, .inr ⟨w.heap.size, 0, rfl, by simp, fun j hj => by rw [Nat.zero_add, cell_new]; simp [List.getD, hj]⟩⟩

/-- 'append(v, u...)', v the call's own, u a slice of ints. -/
theorem wpList_appendO (w : World) {ops : Array Oper} {rest : List Oper} {o : Oper} {a : Act} {Q : Exit → Act → World → Prop} (hgd : o.guard = none) (s x : Operand)
    (ho : o.op = .call { callee := .builtin .append, args := #[s, x], argTypes := #[24, 24] })
    (base g n cap : Nat) (u : Value) (zs : List Int) (hs : a.eval s = .slice (some ⟨g, 0, none⟩) n cap) (hx : a.eval x = u)
    (hown : OutS w base g n cap) (hu : IntS w u zs) (hn : n + zs.length ≤ 100000) (hbase : base ≤ w.heap.size)
    (h : ∀ n' g' cap' w', n + zs.length ≤ n' → n' ≤ n + zs.length → OutS w' base g' n' cap' → w.grownBy w' (some g) → wpList Try.prog ops Q rest (a.put o.dst (.slice (some ⟨g', 0, none⟩) n' cap')) w') : wpList Try.prog ops Q (o :: rest) a w := by
  obtain ⟨ys, h1, h2, h3⟩ := hown
  refine wpList_appendS w hgd s x 24 ho base 3 Try.underlying24 infoInt _ n ys u zs hs hx h3 hu (by omega) hbase ?_
  intro v' w' ho' _ hg hnil
  have hne : v' ≠ .slice none 0 0 := fun e => by have := (hnil.1 e).1; cases this
  obtain ⟨g', cap', rfl, hg'⟩ := own_shape ho' hne
  refine h (n + zs.length) g' cap' w' (Nat.le_refl _) (Nat.le_refl _) ⟨ys ++ zs, by simp; omega, fun z hz => ?_, ho'⟩ hg
  rcases List.mem_append.1 hz with hz | hz
  · exact h2 z hz
  · exact hu.1 z hz

theorem i64_small {k : Nat} (h : (k : Int) < 1000000) : I64 (k : Int) := by unfold I64; omega
theorem i64_of {z : Int} (h : 0 ≤ z) (h2 : z ≤ 1000000) : I64 z := by unfold I64; omega
theorem i64_two {a b : Int} (ha : I64 a) (hb : I64 b) : ∀ z ∈ [a, b], I64 z := by intro z hz; simp at hz; rcases hz with rfl | rfl <;> assumption
theorem i64_one {a : Int} (ha : I64 a) : ∀ z ∈ [a], I64 z := by intro z hz; simp at hz; subst hz; exact ha

/-- Where block g is new, g's turn is as good as none. -/
theorem grown_new {w w1 w2 : World} {r g : Nat} (h : w.grownBy w1 (some r)) (k : w1.grownBy w2 (some g)) (hg : w.heap.size ≤ g) : w.grownBy w2 (some r) :=
  ⟨k.os.trans h.os, k.tape.trans h.tape, k.output.trans h.output, Nat.le_trans h.size k.size, fun i hi hr => (k.block i (Nat.lt_of_lt_of_le hi h.size) (fun e => by injection e; omega)).trans (h.block i hi hr)⟩

end Go.Proofs.Ytmmggbcmailbiaa
