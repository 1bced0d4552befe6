/- Slices of the call's own, with what they hold: append. -/
import Derived.Test.YtmmggbcmailbiaaInts
import Derived.Test.YtmmggbcmailbiaaOwn
namespace Go.Proofs.Ytmmggbcmailbiaa
open Go.RowKit

/-- Block g holds a slice of the call's own that reads as zs. -/
def OutL (w : World) (base g n cap : Nat) (zs : List Int) : Prop := zs.length = n ∧ (∀ z ∈ zs, I64 z) ∧ w.ownsRow base 3 1 (.slice (some ⟨g, 0, none⟩) n cap) n (zs.map (Value.int .i64))

theorem OutL.new {w : World} {base : Nat} (zs : List Int) (hz : ∀ z ∈ zs, I64 z) (hb : base ≤ w.heap.size) (hl : zs.length ≤ 1000) : OutL (w.alloc (.cells (zs.map (Value.int .i64)).toArray 3)) base w.heap.size zs.length zs.length zs :=
  ⟨rfl, hz, by simp, .inr ⟨w.heap.size, zs.length, (zs.map (Value.int .i64)).toArray, rfl, hb, heap_alloc_new w _, Nat.le_refl _, by unfold maxLen; omega, by simp, by rw [List.take_of_length_le (by simp)]⟩⟩

theorem OutL.alloc {w : World} {base g n cap : Nat} {zs : List Int} (h : OutL w base g n cap zs) (o : Obj) : OutL (w.alloc o) base g n cap zs := ⟨h.1, h.2.1, h.2.2.alloc o⟩
theorem OutL.ints {w : World} {base g n cap : Nat} {zs : List Int} (h : OutL w base g n cap zs) : IntS w (.slice (some ⟨g, 0, none⟩) n cap) zs := (IntS.ofOwn h.2.2 h.2.1).2
theorem OutL.lt {w : World} {base g n cap : Nat} {zs : List Int} (h : OutL w base g n cap zs) : base ≤ g ∧ g < w.heap.size := ⟨(own_lt h.2.2).1, (own_lt h.2.2).2.1⟩
theorem OutL.other {w w' : World} {base g g' n cap : Nat} {zs : List Int} (h : OutL w base g n cap zs) (hg : w.grownBy w' (some g')) (hne : g ≠ g') : OutL w' base g n cap zs :=
  ⟨h.1, h.2.1, own_grown h.2.2 hg (fun k hk e => hne (by simp [Value.ownBlock] at hk; omega))⟩
theorem OutL.base {w : World} {b b' g n cap : Nat} {zs : List Int} (h : OutL w b g n cap zs) (hb : b' ≤ b) : OutL w b' g n cap zs := ⟨h.1, h.2.1, own_base h.2.2 hb⟩

/-- 'append(v, u...)', v the call's own, u a slice of ints. -/
theorem wpList_appendL (w : World) {ops : Array Oper} {rest : List Oper} {o : Oper} {a : Act} {Q : Exit → Act → World → Prop} (hgd : o.guard = none) (s x : Operand)
    (ho : o.op = .call { callee := .builtin .append, args := #[s, x], argTypes := #[24, 24] })
    (base g n cap : Nat) (ys : List Int) (u : Value) (zs : List Int) (hs : a.eval s = .slice (some ⟨g, 0, none⟩) n cap) (hx : a.eval x = u)
    (hown : OutL w base g n cap ys) (hu : IntS w u zs) (hn : ys.length + zs.length ≤ 10000000) (hbase : base ≤ w.heap.size)
    (h : ∀ n' g' cap' w', OutL w' base g' n' cap' (ys ++ zs) → (∀ W, Below base W w → Below base W w') → w.grownBy w' (some g) → wpList Try.prog ops Q rest (a.put o.dst (.slice (some ⟨g', 0, none⟩) n' cap')) w') : wpList Try.prog ops Q (o :: rest) a w := by
  obtain ⟨h1, h2, h3⟩ := hown
  refine wpList_appendS w hgd s x 24 ho base 3 Try.underlying24 infoInt _ n ys u zs hs hx h3 hu (by omega) hbase ?_
  intro v' w' ho' hb hg hnil
  have hne : v' ≠ .slice none 0 0 := fun e => by have := (hnil.1 e).1; cases this
  obtain ⟨g', cap', rfl, hg'⟩ := own_shape ho' hne
  refine h (n + zs.length) g' cap' w' ⟨by simp; omega, fun z hz => ?_, ho'⟩ hb hg
  rcases List.mem_append.1 hz with hz | hz
  · exact h2 z hz
  · exact hu.1 z hz
end Go.Proofs.Ytmmggbcmailbiaa
