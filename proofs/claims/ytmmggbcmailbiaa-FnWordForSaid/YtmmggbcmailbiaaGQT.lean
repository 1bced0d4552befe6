/- Two operations of a region that read alone may come either way round. -/
import Derived.Test.YtmmggbcmailbiaaGQ
namespace Go.Proofs.Ytmmggbcmailbiaa
open Go.RowKit

/-- Two operations that read alone may come either way round. -/
theorem wpAny_two {P : Program} {md : Region.Mode} {ops : Array Oper} {Q : Exit → Act → World → Prop} {i j : Nat} {oi oj : Oper} {vi vj : Value} (di dj : Nat) {fuel : Nat} {listed : Array Bool} {a : Act} {w : World}
    (hi : ops[i]? = some oi) (hj : ops[j]? = some oj) (hne : di ≠ dj) (hij : i ≠ j) (hgi : oi.guard = none) (hgj : oj.guard = none) (hdi : oi.dst = some di) (hdj : oj.dst = some dj)
    (hr : Region.ready md ops listed = [i, j]) (hri : Region.ready md ops (listed.setIfInBounds i true) = [j]) (hrj : Region.ready md ops (listed.setIfInBounds j true) = [i])
    (e1 : (execOp a.eval oi).run P w = .ok (.value vi) w) (e2 : (execOp (a.put (some di) vi).eval oj).run P w = .ok (.value vj) w)
    (e3 : (execOp a.eval oj).run P w = .ok (.value vj) w) (e4 : (execOp (a.put (some dj) vj).eval oi).run P w = .ok (.value vi) w)
    (h : wpAny P md ops Q fuel ((listed.setIfInBounds i true).setIfInBounds j true) ((a.put (some di) vi).put (some dj) vj) w) : wpAny P md ops Q (fuel + 2) listed a w := by
  have hc : (listed.setIfInBounds j true).setIfInBounds i true = (listed.setIfInBounds i true).setIfInBounds j true := Array.setIfInBounds_comm _ _ (fun e => hij e.symm)
  have hp : (a.put (some dj) vj).put (some di) vi = (a.put (some di) vi).put (some dj) vj := by
    unfold Act.put; simp only; congr 1; exact Array.setIfInBounds_comm _ _ (fun e => hne e.symm)
  have op : ∀ (k : Nat) (o : Oper) (v : Value) (d : Nat) (K : Act → World → Prop) (b : Act), ops[k]? = some o → o.guard = none → o.dst = some d → (execOp b.eval o).run P w = .ok (.value v) w → K (b.put (some d) v) w → wpOp P ops Q k K b w := by
    intro k o v d K b hk hg hd he hK
    refine wpOp_step hk (fun K' hK' => ?_)
    rw [if_pos (by simp [Region.wanted, hg])]
    unfold Oper.wp
    rw [he]
    show K' (b.put o.dst v) w
    rw [hd]; exact hK' _ _ hK
  refine ⟨fun e => (by rw [hr] at e; cases e), fun x hx => ?_⟩
  rw [hr] at hx
  rcases List.mem_cons.1 hx with rfl | hx
  · refine op _ _ _ di _ _ hi hgi hdi e1 ?_
    refine ⟨fun e => (by rw [hri] at e; cases e), fun x hx => ?_⟩
    rw [hri] at hx
    rw [List.mem_singleton.1 hx]
    exact op _ _ _ dj _ _ hj hgj hdj e2 h
  · rw [List.mem_singleton.1 hx]
    refine op _ _ _ dj _ _ hj hgj hdj e3 ?_
    refine ⟨fun e => (by rw [hrj] at e; cases e), fun x hx => ?_⟩
    rw [hrj] at hx
    rw [List.mem_singleton.1 hx]
    refine op _ _ _ di _ _ hi hgi hdi e4 ?_
    rw [hc, hp]; exact h
end Go.Proofs.Ytmmggbcmailbiaa
