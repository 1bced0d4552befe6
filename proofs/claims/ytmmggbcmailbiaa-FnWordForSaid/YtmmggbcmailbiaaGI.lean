/- The iterator over an orbit: its maker, its contract. -/
import Derived.Test.YtmmggbcmailbiaaGQ
import Derived.Test.YtmmggbcmailbiaaGW
import Derived.LoopNIn
namespace Go.Proofs.Ytmmggbcmailbiaa
open Go.RowKit Grp

theorem Moves.andThen {X : Nat → Prop} {a b c : World} (h : Moves X a b) (k : Moves X b c) : Moves X a c := h.trans (k.wider (fun _ => .inl))
theorem Moves.alloc {X : Nat → Prop} (w : World) (o : Obj) : Moves X w (w.alloc o) := .of_below ((Below.refl _ _).alloc (Nat.le_refl _) o)

/-- 'append(found, to)'. -/
theorem wpList_pushI (w : World) {ops : Array Oper} {rest : List Oper} {o : Oper} {a : Act} {Q : Exit → Act → World → Prop} (hgd : o.guard = none) (s x : Operand)
    (ho : o.op = .call { callee := .builtin .append, args := #[s, x], argTypes := #[24, 24] })
    (base : Nat) (v : Value) (n : Nat) (xs : List Value) (z : Int) (hs : a.eval s = v) (hx : a.eval x = .slice (some ⟨w.heap.size, 0, none⟩) 1 1)
    (hown : w.ownsRow base 3 1 v n xs) (hn : n ≤ 100000000) (hbase : base ≤ w.heap.size)
    (h : ∀ g cap w', base ≤ g → w'.ownsRow base 3 1 (.slice (some ⟨g, 0, none⟩) (n + 1) cap) (n + 1) (xs ++ [.int .i64 z]) → (w.alloc (.cells #[.int .i64 z] 3)).grownBy w' v.ownBlock → (v.ownBlock = some g ∨ g = w.heap.size + 1) →
      wpList Try.prog ops Q rest (a.put o.dst (.slice (some ⟨g, 0, none⟩) (n + 1) cap)) w') : wpList Try.prog ops Q (o :: rest) a (w.alloc (.cells #[.int .i64 z] 3)) := by
  refine wpList_plain hgd fun K hK => ?_
  obtain ⟨i, hi, hz, hsz, hby⟩ := info_parts infoInt
  refine wp_append_lies _ s x 24 ho base 3 i (.int .i64 0) 1 8 Try.underlying24 hi hz hsz hby rfl (by decide) v n xs hs (hown.alloc _) ⟨w.heap.size, 0, none⟩ 1 1 [.int .i64 z] hx rfl ?_ ?_ (by decide) ?_ ?_ (by simp; omega) (w.heap.size + 1) (by simp) ?_
  · intro j u' hj
    match j, hj with
    | 0, hj => simp at hj; subst hj; exact cell_at rfl rfl
  · intro u' hu'; simp at hu'; subst hu'; rfl
  · simp [maxLen]; omega
  · omega
  · intro g cap w' ho' hg hl hs'
    exact hK _ _ (h g cap w' (own_lt ho').1 ho' hg hl)

/-- The maker: three boxes are laid. -/
theorem impl_orbitSeq (p : Int) (ao : Option Addr) (len cap : Nat) (x : Int) (w : World) :
    Calls Try.prog 69 #[.int .i64 p, .slice ao len cap, .int .i64 x] w fun e w' => e = .returned (.func (.func 90) #[] #[.pointer (some ⟨w.heap.size + 2, 0, none⟩), .pointer (some ⟨w.heap.size, 0, none⟩), .pointer (some ⟨w.heap.size + 1, 0, none⟩)]) ∧
      w' = ((w.alloc (.cells #[.int .i64 p] 3)).alloc (.cells #[.slice ao len cap] 23)).alloc (.cells #[.int .i64 x] 3) := by
  go_enter Try.func69, Try.ntmps69
  go_wp2_with fail
  go_ret
  exact ⟨rfl, rfl⟩

theorem own_block {w w' : World} {base : Nat} {e : TypeId} {v : Value} {n : Nat} {xs : List Value} (h : w.ownsRow base e 1 v n xs) (hk : ∀ k, v.ownBlock = some k → w'.heap[k]? = w.heap[k]?) : w'.ownsRow base e 1 v n xs := by
  obtain ⟨h1, h2⟩ := h
  refine ⟨h1, ?_⟩
  rcases h2 with h2 | ⟨g, cap, cur, rfl, h4, h5, h6⟩
  · exact .inl h2
  · exact .inr ⟨g, cap, cur, rfl, h4, (hk g rfl).trans h5, h6⟩

theorem El.block {w w' : World} {u : Value} {p : List Int} (h : El w u p) (hs : w.heap.size ≤ w'.heap.size) (hk : ∀ k, u.ownBlock = some k → w'.heap[k]? = w.heap[k]?) : El w' u p := by
  refine ⟨?_, fun k hk' => ?_⟩
  · obtain ⟨hz, ao, cap, rfl, h1, h2, h3⟩ := h.1
    refine ⟨hz, ao, cap, rfl, h1, h2, ?_⟩
    rcases h3 with h3 | ⟨b, off, rfl, h4, h5⟩
    · exact .inl h3
    · exact .inr ⟨b, off, rfl, by omega, fun j hj => (World.cell?_of_block (a := ⟨b, off + j, none⟩) (hk b rfl)).trans (h5 j hj)⟩
  · obtain ⟨c, fr, hc⟩ := h.2 k hk'
    exact ⟨c, fr, (hk k hk').trans hc⟩

abbrev NP := List (Nat × Pm)
def numsOf (L : NP) : List Value := L.map (fun y => .int .i64 (y.1 : Nat))
def bringsOf (L : NP) : List (List Int) := L.map (fun y => up y.2)
theorem numsOf_len (L : NP) : (numsOf L).length = L.length := List.length_map _
theorem bringsOf_len (L : NP) : (bringsOf L).length = L.length := List.length_map _
theorem numsOf_snoc (L : NP) (x : Nat × Pm) : numsOf (L ++ [x]) = numsOf L ++ [.int .i64 (x.1 : Nat)] := by unfold numsOf; simp
theorem bringsOf_snoc (L : NP) (x : Nat × Pm) : bringsOf (L ++ [x]) = bringsOf L ++ [up x.2] := by unfold bringsOf; simp

/-- The iterator's own memory. -/
structure OSt (n B : Nat) (A : Nat → Prop) (w0 : World) (L : NP) (X : Nat → Prop) (gf cf gb cb S : Nat) (us : List Value) (w : World) : Prop where
  found : w.ownsRow B 3 1 (.slice (some ⟨gf, 0, none⟩) L.length cf) L.length (numsOf L)
  brings : RowsOwn w B (.slice (some ⟨gb, 0, none⟩) L.length cb) us (bringsOf L)
  xf : X gf
  xb : X gb
  xu : ∀ u ∈ us, ∀ k, u.ownBlock = some k → X k
  ne : gf ≠ gb
  du : ∀ u ∈ us, u.ownBlock ≠ some gf
  from_ : From B X w
  seen : ∀ y, S.testBit y = true ↔ y ∈ L.map Prod.fst
  ok : ∀ z ∈ L, z.1 < n ∧ IsP n z.2
  nodup : (L.map Prod.fst).Nodup
  a : ∀ k, A k → w.heap[k]? = w0.heap[k]?
  sz : w0.heap.size ≤ B ∧ B ≤ w.heap.size

/-- A round keeps it. -/
theorem OSt.round {n B : Nat} {A : Nat → Prop} {w0 : World} {L : NP} {X : Nat → Prop} {gf cf gb cb S : Nat} {us : List Value} {w w' : World} (h : OSt n B A w0 L X gf cf gb cb S us w) (hk : KeepX A X w w') : OSt n B A w0 L X gf cf gb cb S us w' where
  found := own_block h.found (fun k e => by injection e with e; subst e; exact hk.same _ (.inr h.xf))
  brings := ⟨own_block h.brings.1 (fun k e => by injection e with e; subst e; exact hk.same _ (.inr h.xb)), fun j u p hj hp => (h.brings.2 j u p hj hp).block hk.size (fun k e => hk.same _ (.inr (h.xu u (List.mem_of_getElem? hj) k e)))⟩
  xf := h.xf
  xb := h.xb
  xu := h.xu
  ne := h.ne
  du := h.du
  from_ := h.from_.size hk.size
  seen := h.seen
  ok := h.ok
  nodup := h.nodup
  a := fun k e => (hk.same k (.inl e)).trans (h.a k e)
  sz := ⟨h.sz.1, Nat.le_trans h.sz.2 hk.size⟩

theorem OSt.S {n B : Nat} {A : Nat → Prop} {w0 : World} {L : NP} {X : Nat → Prop} {gf cf gb cb S : Nat} {us : List Value} {w : World} (h : OSt n B A w0 L X gf cf gb cb S us w) (hn : n ≤ 5) : S < 32 :=
  Nat.lt_pow_two_of_testBit (n := 5) S (fun i hi => by
    cases e : S.testBit i with
    | false => rfl
    | true =>
      obtain ⟨z, hz, e'⟩ := List.mem_map.1 ((h.seen i).1 e)
      have := (h.ok z hz).1
      omega)

theorem OSt.len {n B : Nat} {A : Nat → Prop} {w0 : World} {L : NP} {X : Nat → Prop} {gf cf gb cb S : Nat} {us : List Value} {w : World} (h : OSt n B A w0 L X gf cf gb cb S us w) (hn : n ≤ 5) : L.length ≤ 5 := by
  have := len_le (l := L.map Prod.fst) (m := List.range n) h.nodup (fun y hy => by
    obtain ⟨z, hz, rfl⟩ := List.mem_map.1 hy
    exact List.mem_range.2 (h.ok z hz).1)
  rw [List.length_map, List.length_range] at this
  omega

/-- One more place is found. -/
theorem OSt.add {n B : Nat} {A : Nat → Prop} {w0 : World} {L : NP} {X : Nat → Prop} {gf cf gb cb S : Nat} {us : List Value} {w w1 w2 w3 : World} {y : Nat × Pm} {gf' cf' gb' cb' : Nat} {u : Value}
    (h : OSt n B A w0 L X gf cf gb cb S us w) (hA : ∀ k, A k → k < w0.heap.size) (hy : y.1 < n ∧ IsP n y.2) (hny : y.1 ∉ L.map Prod.fst) (h5 : n ≤ 5)
    (o1 : w1.ownsRow B 3 1 (.slice (some ⟨gf', 0, none⟩) (L.length + 1) cf') (L.length + 1) (numsOf L ++ [.int .i64 (y.1 : Nat)]))
    (g1 : (w.alloc (.cells #[.int .i64 (y.1 : Nat)] 3)).grownBy w1 (some gf)) (l1 : gf = gf' ∨ gf' = w.heap.size + 1)
    (o2 : w2.ownsRow w1.heap.size 3 1 u (up y.2).length ((up y.2).map (Value.int .i64))) (b2 : Below w1.heap.size w1 w2)
    (o3 : RowsOwn w3 B (.slice (some ⟨gb', 0, none⟩) (L.length + 1) cb') (us ++ [u]) (bringsOf L ++ [up y.2]))
    (g3 : (w2.alloc (.cells #[u] 24)).grownBy w3 (some gb)) (l3 : gb = gb' ∨ gb' = w2.heap.size + 1) :
    Moves X w w3 ∧ OSt n B A w0 (L ++ [y]) (more X w w3) gf' cf' gb' cb' (S ||| 2 ^ y.1) (us ++ [u]) w3 := by
  have s1 := g1.size
  have s2 := b2.size
  have s3 := g3.size
  simp only [World.size_alloc] at s1 s3
  have lf := own_lt h.found
  have lb := h.brings.lt (bringsOf_len L).symm
  have lf1 := own_lt o1
  have M1 : Moves X w w1 := (Moves.alloc w _).andThen (.of_grown g1 (fun k e => by injection e with e; subst e; exact h.xf))
  have M : Moves X w w3 := ((M1.andThen (.of_below b2)).andThen (Moves.alloc w2 _)).andThen (.of_grown g3 (fun k e => by injection e with e; subst e; exact h.xb))
  have hub : ∀ k, u.ownBlock = some k → w1.heap.size ≤ k ∧ k < w2.heap.size := fun k e => by
    rcases o2.2 with ⟨rfl, _⟩ | ⟨g, cap, cur, rfl, h4, h5', _⟩
    · cases e
    · injection e with e; subst e; exact ⟨h4, (Array.getElem?_eq_some_iff.1 h5').1⟩
  have hold : ∀ v ∈ us, ∀ k, v.ownBlock = some k → k < w.heap.size := fun v hv k e => (h.from_ k (h.xu v hv k e)).2
  have lb3 := o3.lt (by rw [List.length_append, bringsOf_len]; rfl)
  have hbl : bringsOf L ++ [up y.2] = bringsOf (L ++ [y]) := (bringsOf_snoc L y).symm
  refine ⟨M, ?_⟩
  have hlen : (L ++ [y]).length = L.length + 1 := by simp
  refine { found := ?_, brings := ?_, xf := ?_, xb := ?_, xu := ?_, ne := ?_, du := ?_, from_ := ?_, seen := ?_, ok := ?_, nodup := ?_, a := ?_, sz := ?_ }
  · rw [hlen, numsOf_snoc]
    have o2' := own_below (own_below o1 b2) ((Below.refl w2.heap.size w2).alloc (Nat.le_refl _) (.cells #[u] 24))
    refine own_grown o2' g3 (fun k e => ?_)
    have e' : gf' = k := by injection e
    have := h.ne
    omega
  · rw [hlen, ← hbl]; exact o3
  · rcases l1 with rfl | rfl
    · exact .inl h.xf
    · exact .inr ⟨by omega, by omega⟩
  · rcases l3 with rfl | rfl
    · exact .inl h.xb
    · exact .inr ⟨by omega, by omega⟩
  · intro v hv k e
    rcases List.mem_append.1 hv with hv | hv
    · exact .inl (h.xu v hv k e)
    · rw [List.mem_singleton.1 hv] at e
      have := hub k e
      exact .inr ⟨by omega, by omega⟩
  · have := h.ne
    omega
  · intro v hv e
    rcases List.mem_append.1 hv with hv | hv
    · have := hold v hv _ e
      rcases l1 with rfl | rfl
      · exact h.du v hv e
      · omega
    · rw [List.mem_singleton.1 hv] at e
      have := hub _ e
      omega
  · exact h.from_.more h.sz.2 M.size
  · intro z
    rw [Nat.testBit_or, Bool.or_eq_true, h.seen, List.map_append, List.mem_append, Nat.testBit_two_pow]
    simp [eq_comm]
  · intro z hz
    rcases List.mem_append.1 hz with hz | hz
    · exact h.ok z hz
    · rw [List.mem_singleton.1 hz]; exact hy
  · rw [List.map_append, List.nodup_append]
    refine ⟨h.nodup, by simp, ?_⟩
    intro a ha b hb e
    simp at hb
    exact hny (hb ▸ e ▸ ha)
  · intro k hk
    have hk0 := hA k hk
    have hs := h.sz
    rw [M.block k (by omega) (fun e => by have := h.from_ k e; omega)]
    exact h.a k hk
  · exact ⟨h.sz.1, Nat.le_trans h.sz.2 M.size⟩
end Go.Proofs.Ytmmggbcmailbiaa
