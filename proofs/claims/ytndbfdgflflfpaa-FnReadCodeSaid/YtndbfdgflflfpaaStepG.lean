/- append of a slice that may be empty, as one step of a region that draws its order; three appends in a row, the last one of a literal's cell. -/
import Derived.Test.YtndbfdgflflfpaaStepL
import Derived.Test.YtndbfdgflflfpaaTake
namespace Go.Proofs.Ytndbfdgflflfpaa
open Go.RowKit

theorem own_info {w : World} {base : Nat} {e : TypeId} {g n cap : Nat} {xs : List Value} (h : w.ownsRow base e 1 (.slice (some ⟨g, 0, none⟩) n cap) n xs) : base ≤ g ∧ g < w.heap.size := ⟨(own_lt h).1, (own_lt h).2.1⟩

/-- 'append(v, u...)', v not nil, u a slice of ints, with what it keeps. -/
theorem step_appendG {P : Program} {ops : Array Oper} {o : Oper} {a : Act} {w : World} {K : Act → World → Prop} {Q : Exit → Act → World → Prop} {E : Prop} (hgd : o.guard = none) (s x : Operand) (t : TypeId)
    (ho : o.op = .call { callee := .builtin .append, args := #[s, x], argTypes := #[t, t] })
    (base : Nat) (e : TypeId) (ht : P.underlying t = some (.slice e)) (hinfo : (P.info? e).map (fun i => (i.zero, i.size, i.bytes)) = some (some (.int .i64 0), 1, 8))
    (gv cv n : Nat) (xs : List Int) (u : Value) (zs : List Int) (hs : a.eval s = .slice (some ⟨gv, 0, none⟩) n cv) (hx : a.eval x = u)
    (m : Nat) (hm : n + zs.length = m) (hown : w.ownsRow base e 1 (.slice (some ⟨gv, 0, none⟩) n cv) n (xs.map (Value.int .i64))) (hu : IntS w u zs) (hn : n + zs.length ≤ 1099511627776) (hbase : base ≤ w.heap.size)
    (h : ∀ g cap w', base ≤ g → w'.ownsRow base e 1 (.slice (some ⟨g, 0, none⟩) m cap) m ((xs ++ zs).map (Value.int .i64)) → Below base w w' → Keeps w w' (.slice (some ⟨gv, 0, none⟩) n cv) g →
      K (a.put o.dst (.slice (some ⟨g, 0, none⟩) m cap)) w') :
    if Region.wanted o (yielded ops a.tmps) = true then Oper.wp P o a w K Q else E := by
  by_cases hz : 1 ≤ zs.length
  · exact step_appendK hgd s x t ho base e ht hinfo _ n xs u zs hs hx m hm hown hu hz hn hbase h
  · obtain rfl : zs = [] := List.eq_nil_of_length_eq_zero (by omega)
    obtain rfl : n = m := by simpa using hm
    obtain ⟨i, hi, hz0, hsz, hby⟩ := info_parts hinfo
    have hlt := own_lt hown
    have hk : K (a.put o.dst (.slice (some ⟨gv, 0, none⟩) n cv)) w := h gv cv w hlt.1 (by simpa using hown) (Below.refl _ _ |>.mono hbase) ⟨hlt.2.1, fun B hB hne => ⟨fun e => hne (by rw [e]; rfl), fun _ _ hc => hc⟩⟩
    obtain ⟨_, ao, cap, rfl, h1, h2, h3⟩ := hu
    cases ao with
    | none =>
      rcases h3 with ⟨_, hc⟩ | ⟨b, off, hc, _⟩
      · obtain rfl := hc rfl
        rw [if_pos (by simp [Region.wanted, hgd])]
        have hrun := run_append_owned_none (P := P) (w := w) base t o.type e i 1 ht hi _ n _ hown
        unfold Oper.wp
        simp [execOp, ho, resolve, invoke, builtin, hs, hx, hrun, Result.andThen]
        exact hk
      · cases hc
    | some ad =>
      refine step_append_room hgd s x t ho e i 1 ht hi hsz gv 0 n cv hs ad 0 cap [] hx rfl ?_ ?_ hlt.2.2.1 ?_ ?_
      · intro j u' hj; simp at hj
      · intro u' hu'; simp at hu'
      · intro j hj; simp at hj
      · exact hk
end Go.Proofs.Ytndbfdgflflfpaa
