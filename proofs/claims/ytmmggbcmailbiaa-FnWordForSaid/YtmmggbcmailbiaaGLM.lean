/- The program's leavingMoves. -/
import Derived.Test.YtmmggbcmailbiaaGOO
import Derived.RangeFuncCalls
namespace Go.Proofs.Ytmmggbcmailbiaa
open Go.RowKit Grp

attribute [local go_sem] Oper.semAt_some

/-- What has come, of those that leave the place. -/
structure LvOk (n : Nat) (M : List Pm) : Prop where
  nodup : M.Nodup
  noId : idP n ∉ M
  isP : ∀ p ∈ M, IsP n p

theorem LvOk.nil (n : Nat) : LvOk n [] := ⟨List.nodup_nil, by simp, by simp⟩
theorem LvOk.add {n : Nat} {M : List Pm} {p : Pm} (h : LvOk n M) (hp : IsP n p) : LvOk n (addL n M p) := by
  unfold addL
  split
  · exact h
  · rename_i hn
    refine ⟨?_, ?_, ?_⟩
    · rw [List.nodup_append]
      refine ⟨h.nodup, by simp, fun a ha b hb e => ?_⟩
      rw [List.mem_singleton] at hb
      exact hn (.inr (hb ▸ e ▸ ha))
    · rw [List.mem_append, List.mem_singleton]
      rintro (h1 | h1)
      · exact h.noId h1
      · exact hn (.inl h1.symm)
    · intro q hq
      rcases List.mem_append.1 hq with hq | hq
      · exact h.isP q hq
      · rw [List.mem_singleton.1 hq]; exact hp
theorem LvOk.len {n : Nat} {M : List Pm} (h : LvOk n M) (h1 : 1 ≤ n) (h5 : n ≤ 5) : M.length ≤ 120 := by
  have h2 := len_le (l := M) (m := allP n) h.nodup (fun p hp => (allP_mem p).2 (h.isP p hp))
  rw [(allP_len h1 h5).1] at h2
  have : fact n ≤ 120 := by
    have : n = 1 ∨ n = 2 ∨ n = 3 ∨ n = 4 ∨ n = 5 := by omega
    rcases this with rfl | rfl | rfl | rfl | rfl <;> decide
  omega
theorem LvOk.fold {n : Nat} : ∀ (qs M : List Pm), LvOk n M → (∀ q ∈ qs, IsP n q) → LvOk n (qs.foldl (addL n) M)
  | [], M, h, _ => h
  | q :: qs, M, h, hq => LvOk.fold qs _ (h.add (hq q (by simp))) (fun x hx => hq x (by simp [hx]))

def lvTo (n : Nat) (ms : List Pm) (R pre : NP) : List Pm := (pre.flatMap (fun z => ms.map (roundX R z))).foldl (addL n) []
theorem lvTo_all (n : Nat) (ms : List Pm) (x : Nat) : lvTo n ms (orbitW n ms x) (orbitW n ms x) = leave n ms x := rfl
theorem lvTo_snoc (n : Nat) (ms : List Pm) (R pre : NP) (y : Nat × Pm) : lvTo n ms R (pre ++ [y]) = (ms.map (roundX R y)).foldl (addL n) (lvTo n ms R pre) := by
  unfold lvTo; rw [List.flatMap_append, List.foldl_append]; simp

theorem leave_lv {n x : Nat} {ms : List Pm} (h5 : n ≤ 5) (hm : OkM n ms) (hx : x < n) : LvOk n (leave n ms x) := by
  unfold leave
  exact LvOk.fold _ _ (LvOk.nil n) (fun q hq => ((round_facts h5 hm hx hq).1).isP hm)

theorem lvTo_lv {n x : Nat} {ms : List Pm} {pre : NP} (h5 : n ≤ 5) (hm : OkM n ms) (hx : x < n) (hp : ∀ z ∈ pre, z ∈ orbitW n ms x) : LvOk n (lvTo n ms (orbitW n ms x) pre) := by
  refine LvOk.fold _ _ (LvOk.nil n) (fun q hq => ?_)
  obtain ⟨z, hz, hq⟩ := List.mem_flatMap.1 hq
  obtain ⟨m, hm', rfl⟩ := List.mem_map.1 hq
  exact ((round_facts h5 hm hx ((rounds_mem _).2 ⟨z, hp z hz, m, hm', rfl⟩)).1).isP hm

theorem addL_step {n : Nat} {M : List Pm} {R : Pm} : (R ∈ idP n :: M → addL n M R = M) ∧ (R ∉ idP n :: M → addL n M R = M ++ [R]) := by
  unfold addL
  constructor
  · intro h; rw [if_pos (List.mem_cons.1 h)]
  · intro h; rw [if_neg (fun e => h (List.mem_cons.2 e))]

theorem fold_next {n : Nat} {R : NP} {y : Nat × Pm} {ms : List Pm} {j : Nat} {m : Pm} (h : ms[j]? = some m) (M : List Pm) : ((ms.map (roundX R y)).drop j).foldl (addL n) M = ((ms.map (roundX R y)).drop (j + 1)).foldl (addL n) (addL n M (roundX R y m)) := by
  have e : (ms.map (roundX R y))[j]? = some (roundX R y m) := by rw [List.getElem?_map, h]; rfl
  rw [List.drop_eq_getElem_cons (List.getElem?_eq_some_iff.1 e).1, (List.getElem?_eq_some_iff.1 e).2]; rfl
theorem fold_end {n : Nat} {R : NP} {y : Nat × Pm} {ms : List Pm} {j : Nat} (h : ms.length ≤ j) (M : List Pm) : ((ms.map (roundX R y)).drop j).foldl (addL n) M = M := by
  rw [List.drop_eq_nil_of_le (by rw [List.length_map]; exact h)]; rfl

theorem made_rows (m : Nat) (hm : m ≤ 1000) : ∀ w, (Instr.makeSlice 23 (.int .i64 (m : Int)) (.int .i64 (m : Int))).run Try.prog w = .ok (.slice (some ⟨w.heap.size, 0, none⟩) m m) (w.alloc (.cells (madeCells #[.slice none 0 0] m) 24)) :=
  fun w => run_make_row' 23 24 (.slice none 0 0) 24 Try.underlying23 infoRows rfl .i64 .i64 m (by omega) (by omega) w

/-- What brings back from the places that have come. -/
def BackAt (b n : Nat) (pre : NP) (X : Nat → Prop) (W : World) : Prop := ∃ f, W.rowIs b 24 n f ∧ ∀ z ∈ pre, El W (f z.1) (up (turn z.2)) ∧ ∀ k, (f z.1).ownBlock = some k → ¬ X k

theorem abx_back {B b n : Nat} (hb : b < B) : AbX B (BackAt b n) := by
  rintro pre X W W' hX hB ⟨f, hr, hf⟩ hm
  refine ⟨f, hr.of_block (hm.block b (by omega) (fun e => by have := (hX b e).1; omega)), fun z hz => ?_⟩
  obtain ⟨h1, h2⟩ := hf z hz
  refine ⟨h1.block hm.size (fun k e => hm.block k (h1.lt e) (h2 k e)), fun k e => ?_⟩
  rintro (h | h)
  · exact h2 k e h
  · have := h1.lt e; omega

theorem abx_box {β : Type} {B b : Nat} {t : TypeId} {v : Value} (hb : b < B) : AbX B (fun (_ : β) _ W => Boxed W b t v) :=
  fun _ _ _ _ hX _ h hm => hm.boxed (fun e => by have := (hX b e).1; omega) h

theorem key_new {n x : Nat} {ms : List Pm} {pre : NP} {y : Nat × Pm} (h5 : n ≤ 5) (hm : OkM n ms) (hx : x < n) (h : pre ++ [y] <+: orbitW n ms x) : ∀ z ∈ pre, z.1 ≠ y.1 := by
  have hN := (orbitW_facts h5 hm hx).2.1
  have := (h.map Prod.fst).sublist.nodup hN
  rw [List.map_append, List.nodup_append] at this
  intro z hz e
  exact this.2.2 z.1 (List.mem_map_of_mem hz) y.1 (by simp) e

/-- The box of those that leave the place. -/
def LeavAt (N b : Nat) (A : Nat → Prop) (pss : List (List Int)) (X : Nat → Prop) (W : World) : Prop :=
  ∃ v us, Boxed W b 23 v ∧ RowsOwn W N v us pss ∧ (∀ k, v.ownBlock = some k → ¬ X k ∧ ¬ A k) ∧ ∀ u ∈ us, ∀ k, u.ownBlock = some k → ¬ X k

theorem LeavAt.moves {N b : Nat} {A X : Nat → Prop} {pss : List (List Int)} {W W' : World} (h : LeavAt N b A pss X W) (hb : ¬ X b) (hm : Moves X W W') : LeavAt N b A pss (more X W W') W' := by
  obtain ⟨v, us, h1, h2, h3, h4⟩ := h
  have hul : ∀ u ∈ us, ∀ k, u.ownBlock = some k → k < W.heap.size := fun u hu k e => by
    obtain ⟨j, hj⟩ := List.getElem?_of_mem hu
    have hjl : j < pss.length := by rw [← h2.len]; exact (List.getElem?_eq_some_iff.1 hj).1
    exact (h2.2 j u _ hj (List.getElem?_eq_getElem hjl)).lt e
  refine ⟨v, us, hm.boxed hb h1, ⟨own_block h2.1 (fun k e => hm.block k (h2.1.lt k e).2 (h3 k e).1), fun j u p hj hp => (h2.2 j u p hj hp).block hm.size (fun k e => hm.block k (hul u (List.mem_of_getElem? hj) k e) (h4 u (List.mem_of_getElem? hj) k e))⟩, fun k e => ⟨?_, (h3 k e).2⟩, fun u hu k e => ?_⟩
  · rintro (h | h)
    · exact (h3 k e).1 h
    · have := (h2.1.lt k e).2; omega
  · rintro (h | h)
    · exact h4 u hu k e h
    · have := hul u hu k e; omega

/-- One more is laid into the box. -/
theorem LeavAt.push {N b g l cap : Nat} {A X : Nat → Prop} {pss : List (List Int)} {p : List Int} {w6 w8 : World} {v u : Value} {us : List Value}
    (h1 : Boxed w6 b 23 v) (h2 : RowsOwn w6 N v us pss) (h3 : ∀ k, v.ownBlock = some k → ¬ X k ∧ ¬ A k) (h4 : ∀ u ∈ us, ∀ k, u.ownBlock = some k → ¬ X k)
    (hu : ∀ k, u.ownBlock = some k → ¬ X k) (rp : RowsOwn w8 N (.slice (some ⟨g, 0, none⟩) l cap) (us ++ [u]) (pss ++ [p])) (gr : (w6.alloc (.cells #[u] 24)).grownBy w8 v.ownBlock)
    (lg : v.ownBlock = some g ∨ g = w6.heap.size + 1) (hX : ∀ k, X k → k < w6.heap.size) (hA : ∀ k, A k → k < w6.heap.size) (hbX : ¬ X b) (hbA : ¬ A b) (hN : N ≤ b) :
    LeavAt N b A (pss ++ [p]) X (w8.setCell ⟨b, 0, none⟩ (.slice (some ⟨g, 0, none⟩) l cap)) ∧ KeepX A X w6 (w8.setCell ⟨b, 0, none⟩ (.slice (some ⟨g, 0, none⟩) l cap)) ∧ Below N w6 (w8.setCell ⟨b, 0, none⟩ (.slice (some ⟨g, 0, none⟩) l cap)) := by
  have hb := h1.lt
  have hne : some b ≠ v.ownBlock := h1.not_row (by decide) h2.1
  have ha := (Below.refl w6.heap.size w6).alloc (Nat.le_refl _) (.cells #[u] 24)
  have hb8 : Boxed w8 b 23 v := (h1.alloc _).kept gr hne
  have hne8 : some b ≠ (Value.slice (some ⟨g, 0, none⟩) l cap).ownBlock := hb8.not_row (by decide) rp.1
  have hgs : w8.grownBy (w8.setCell ⟨b, 0, none⟩ (.slice (some ⟨g, 0, none⟩) l cap)) (some b) := grown_setCell w8 _ _ _
  have hnoI : ∀ c fr, w8.heap[b]? ≠ some (.cells c 3 fr) := by
    intro c fr e
    rw [show w8.heap[b]? = _ from hb8] at e
    injection e with e; injection e with _ e; exact absurd e (by decide)
  have s8 := gr.size
  simp only [World.size_alloc] at s8
  have hK8 : KeepX A X w6 w8 := (KeepX.of_below ha hA hX).trans (KeepX.of_grown gr (fun k e => by have := hA k e; simp; omega) (fun k e => by have := hX k e; simp; omega) (fun k e => ⟨(h3 k e).2, (h3 k e).1⟩))
  refine ⟨⟨_, us ++ [u], hb8.set _, ⟨own_grown rp.1 hgs (fun k e e' => hne8 (by rw [e, e'])), fun j u' p' hj hp => (rp.2 j u' p' hj hp).keptT hgs hnoI⟩, fun k e => ?_, fun u' hu' k e => ?_⟩, hK8.trans (KeepX.setCell _ _ hbA hbX), ?_⟩
  · have e' : g = k := by injection e
    rcases lg with lg | lg
    · exact h3 k (by rw [lg, e'])
    · exact ⟨fun h => by have := hX k h; omega, fun h => by have := hA k h; omega⟩
  · rcases List.mem_append.1 hu' with hu' | hu'
    · exact h4 u' hu' k e
    · rw [List.mem_singleton.1 hu'] at e; exact hu k e
  · exact (((Below.refl N w6).alloc (by omega) _).grown gr (by simp; omega) (fun k e => (h2.1.lt k e).1)).setCell hN _

theorem IntS.put {W : World} {v : Value} {zs : List Int} (h : IntS W v zs) {l : Nat} {o : Obj} (o' : Obj) (hl : W.heap[l]? = some o) (ho : o.isCells = false) : IntS (W.putObj l o') v zs := by
  obtain ⟨hz, ao, cap, rfl, h1, h2, h3⟩ := h
  refine ⟨hz, ao, cap, rfl, h1, h2, ?_⟩
  rcases h3 with h3 | ⟨b, off, rfl, h4, h5⟩
  · exact .inl h3
  · exact .inr ⟨b, off, rfl, by simp; exact h4, fun j hj => cell_kept (h5 j hj) (grownBy_putObj' W l o') (fun r e => by cases e; exact ⟨o, hl, ho⟩)⟩

theorem IntSS.put {W : World} {v : Value} {pss : List (List Int)} (h : IntSS W v pss) {l : Nat} {o : Obj} (o' : Obj) (hl : W.heap[l]? = some o) (ho : o.isCells = false) : IntSS (W.putObj l o') v pss := by
  obtain ⟨ao, cap, rfl, h1, h2, h3⟩ := h
  refine ⟨ao, cap, rfl, h1, h2, ?_⟩
  rcases h3 with h3 | ⟨b, off, rfl, h4, h5⟩
  · exact .inl h3
  · refine .inr ⟨b, off, rfl, by simp; exact h4, fun j p hj => ?_⟩
    obtain ⟨u, hc, hu⟩ := h5 j p hj
    exact ⟨u, cell_kept hc (grownBy_putObj' W l o') (fun r e => by cases e; exact ⟨o, hl, ho⟩), hu.put o' hl ho⟩

/-- Without the first one. -/
theorem RowsOwn.tail {w : World} {N g l cap : Nat} {us : List Value} {p : List Int} {pss : List (List Int)} (h : RowsOwn w N (.slice (some ⟨g, 0, none⟩) l cap) us (p :: pss)) :
    (cap = 1 → IntSS w (.slice (some ⟨g, 0, none⟩) 0 0) pss) ∧ (cap ≠ 1 → IntSS w (.slice (some ⟨g, 1, none⟩) pss.length (cap - 1)) pss) := by
  have hl : l = pss.length + 1 := by
    have := h.1.2
    rcases this with ⟨h0, _⟩ | ⟨g', cap', cur, h0, _⟩
    · cases h0
    · injection h0 with _ h0
  subst hl
  obtain ⟨hg1, hg2, hg3, hg4⟩ := h.lt (by simp)
  refine ⟨fun hc => ?_, fun hc => ?_⟩
  · have : pss = [] := List.eq_nil_of_length_eq_zero (by omega)
    subst this
    exact ⟨some ⟨g, 0, none⟩, 0, rfl, Nat.le_refl _, Nat.zero_le _, .inl ⟨rfl, fun e => by cases e⟩⟩
  · refine ⟨_, _, rfl, by omega, by omega, .inr ⟨g, 1, rfl, hg2, fun j q hq => ?_⟩⟩
    have hul := h.len
    have hj : j + 1 < us.length := by rw [hul]; simp; exact (List.getElem?_eq_some_iff.1 hq).1
    refine ⟨us[j + 1], ?_, (h.2 (j + 1) _ q (List.getElem?_eq_getElem hj) (by simpa using hq)).1⟩
    have := (own_cell h.1 (List.getElem?_eq_getElem hj)).1
    rw [Nat.add_comm 1 j]; exact this

/-- It reads so wherever one block alone has turned that lay below N and is no block of ints. -/
def FarSS (N : Nat) (w : World) (v : Value) (pss : List (List Int)) : Prop :=
  ∀ (W : World) (b : Nat), b < N → w.heap.size ≤ W.heap.size → (∀ c fr, w.heap[b]? ≠ some (.cells c 3 fr)) → (∀ k, k < w.heap.size → k ≠ b → W.heap[k]? = w.heap[k]?) → IntSS W v pss

theorem RowsOwn.far {w W : World} {N b : Nat} {v : Value} {us : List Value} {pss : List (List Int)} (h : RowsOwn w N v us pss) (hs : w.heap.size ≤ W.heap.size) (hb : ∀ k, v.ownBlock = some k → k ≠ b) (hn : ∀ c fr, w.heap[b]? ≠ some (.cells c 3 fr))
    (hk : ∀ k, k < w.heap.size → k ≠ b → W.heap[k]? = w.heap[k]?) : RowsOwn W N v us pss :=
  ⟨own_block h.1 (fun k e => hk k (h.1.lt k e).2 (hb k e)), fun j u p hj hp => (h.2 j u p hj hp).block hs (fun k e => hk k ((h.2 j u p hj hp).lt e) (fun e' => by
    obtain ⟨c, fr, hc⟩ := (h.2 j u p hj hp).2 k e
    exact hn c fr (e' ▸ hc)))⟩

theorem RowsOwn.put {w : World} {N l : Nat} {o : Obj} {v : Value} {us : List Value} {pss : List (List Int)} (h : RowsOwn w N v us pss) (o' : Obj) (hl : w.heap[l]? = some o) (ho : o.isCells = false) : RowsOwn (w.putObj l o') N v us pss :=
  h.far (by simp) (fun k e e' => by
    rcases h.1.2 with ⟨h0, _⟩ | ⟨g, cap, cur, h0, _, h5, _⟩
    · rw [h0] at e; cases e
    · rw [h0] at e
      have : g = k := by injection e
      rw [this, e', hl] at h5
      injection h5 with h5; rw [h5] at ho; cases ho) (fun c fr e => by rw [hl] at e; injection e with e; rw [e] at ho; cases ho) (fun k _ hk => World.putObj_heap_other hk)

theorem RowsOwn.farTail {w : World} {N g l cap : Nat} {us : List Value} {p : List Int} {pss : List (List Int)} (h : RowsOwn w N (.slice (some ⟨g, 0, none⟩) l cap) us (p :: pss)) {M : Nat} (hM : M ≤ N) :
    (cap = 1 → FarSS M w (.slice (some ⟨g, 0, none⟩) 0 0) pss) ∧ (cap ≠ 1 → FarSS M w (.slice (some ⟨g, 1, none⟩) pss.length (cap - 1)) pss) := by
  have hg : ∀ k, (Value.slice (some ⟨g, 0, none⟩) l cap).ownBlock = some k → N ≤ k := fun k e => (h.1.lt k e).1
  exact ⟨fun hc W b hb hs hn hk => (h.far hs (fun k e => by have := hg k e; omega) hn hk).tail.1 hc, fun hc W b hb hs hn hk => (h.far hs (fun k e => by have := hg k e; omega) hn hk).tail.2 hc⟩

theorem IntS.block {w w' : World} {v : Value} {zs : List Int} (h : IntS w v zs) (hs : w.heap.size ≤ w'.heap.size) (hk : ∀ k, v.ownBlock = some k → w'.heap[k]? = w.heap[k]?) : IntS w' v zs := by
  obtain ⟨hz, ao, cap, rfl, h1, h2, h3⟩ := h
  refine ⟨hz, ao, cap, rfl, h1, h2, ?_⟩
  rcases h3 with h3 | ⟨b, off, rfl, h4, h5⟩
  · exact .inl h3
  · exact .inr ⟨b, off, rfl, by omega, fun j hj => (World.cell?_of_block (a := ⟨b, off + j, none⟩) (hk b rfl)).trans (h5 j hj)⟩

set_option maxRecDepth 100000 in
set_option maxHeartbeats 4000000 in
theorem impl_leavingMoves (n x : Nat) (ms : List Pm) (v : Value) (w : World) (h : IntSS w v (ms.map up)) (hm : OkM n ms) (h1 : 1 ≤ n) (h5 : n ≤ 5) (h3 : ms.length ≤ 1000) (hx : x < n) :
    Calls Try.prog 72 #[.int .i64 (n : Int), v, .int .i64 (x : Int)] w fun e w' => ∃ v', e = .returned v' ∧ IntSS w' v' ((leave n ms x).map up) ∧ Below w.heap.size w w' ∧ FarSS w.heap.size w' v' ((leave n ms x).map up) := by
  have HM := hidI h; have HO := hidI hm
  obtain ⟨ao, cap, hv, hcap, hmax⟩ := ints_of_rows h
  subst hv
  unfold maxLen at hmax
  have hmk := made_rows n (by omega)
  clear h hm
  refine (callsIn_wide (n := 9)).1 ?_
  refine callsIn_of_wp_marks Try.func72 rfl trivial ?_ rfl
  refine wpIn_wide.2 ?_
  simp only [Try.ntmps72, List.size_toArray, List.length_cons, List.length_nil, Nat.reduceAdd, Nat.reduceSub, Array.replicate_succ, Array.replicate_zero, List.push_toArray, List.append_toArray, List.nil_append, List.cons_append]
  go_wp2_with fail
  obtain ⟨wc, hwc⟩ : ∃ wc, wc = ((w.alloc (.cells #[.slice ao ms.length cap] 23)).alloc (.cells (madeCells #[.slice none 0 0] n) 24)).alloc (.cells #[.slice (some ⟨w.heap.size + 1, 0, none⟩) n n] 23) := ⟨_, rfl⟩
  rw [← hwc]
  have hsc : wc.heap.size = w.heap.size + 3 := by rw [hwc]; simp
  have hbc : Below w.heap.size w wc := by rw [hwc]; exact (((Below.refl w.heap.size w).alloc (Nat.le_refl _) _).alloc (by simp) _).alloc (by simp; omega) _
  have hx4 : Boxed wc w.heap.size 23 (.slice ao ms.length cap) := by rw [hwc]; exact ((Boxed.new w _ _).alloc _).alloc _
  have hx7 : Boxed wc (w.heap.size + 1 + 1) 23 (.slice (some ⟨w.heap.size + 1, 0, none⟩) n n) := by
    rw [hwc]; have := Boxed.new ((w.alloc (.cells #[.slice ao ms.length cap] 23)).alloc (.cells (madeCells #[.slice none 0 0] n) 24)) 23 (.slice (some ⟨w.heap.size + 1, 0, none⟩) n n); simpa using this
  have hrow : wc.rowIs (w.heap.size + 1) 24 n (fun _ => .slice none 0 0) := by
    rw [hwc]; have := World.rowIs_made (w.alloc (.cells #[.slice ao ms.length cap] 23)) (.slice none 0 0) n 24; rw [World.size_alloc] at this; exact this.alloc _
  clear hwc hmk
  refine (impl_orbitSeq (n : Int) ao ms.length cap (x : Int) wc).mono ?_; rintro e w4 ⟨rfl, hw4⟩
  have SQ := hidI (orbit_made 8 n x ms ao cap w wc HM.out hbc h1 h5 h3 HO.out hx w4 hw4)
  have hs4 : w4.heap.size = w.heap.size + 6 := by rw [hw4]; simp; omega
  have hb4 : Below wc.heap.size wc w4 := by rw [hw4]; exact (((Below.refl wc.heap.size wc).alloc (Nat.le_refl _) _).alloc (by simp) _).alloc (by simp; omega) _
  have HB4 := hidI (hbc.trans (hb4.mono (by omega)))
  have HX4 := hidI (show Boxed w4 _ _ _ from (hb4.block _ (by omega)).trans hx4)
  have HX7 := hidI (show Boxed w4 _ _ _ from (hb4.block _ (by omega)).trans hx7)
  have HR4 := hidI (hrow.of_block (hb4.block _ (by omega)))
  rw [hsc] at SQ ⊢
  clear hw4 hbc hb4 hx4 hx7 hrow
  go_wp2_with fail
  refine (wpIn_wide (n := 9)).1 ?_
  refine wpIn_rangeFunc_X (by decide) rfl (enters_of Try.func90 (by kernel_rfl) rfl) SQ.out (by rintro k (h | h | h | h) <;> omega) rdO_put (Below.refl _ _) (fun _ _ => rfl)
    (fun pre X W => BackAt (w.heap.size + 1) n pre X W ∧ Boxed W (w.heap.size + 1 + 1) 23 (.slice (some ⟨w.heap.size + 1, 0, none⟩) n n) ∧ Boxed W w.heap.size 23 (.slice ao ms.length cap) ∧ Below w.heap.size w W)
    (fun _ _ _ _ => False) ((abx_back (by omega)).and ((abx_box (by omega)).and ((abx_box (by omega)).and (abx_below (Nat.le_refl _) (by omega))))) (fun _ => abx_no) ⟨⟨_, HR4.out, by simp⟩, HX7.out, HX4.out, HB4.out⟩ ?round ?done ?stop
  case stop => intro D X c pre W _ _ _ _ h; exact h.elim
  case round =>
    rintro l pre y v X W W1 ⟨⟨f, hr, hf⟩, hx7, hx4, hB⟩ hpre hrd _ hX hsz K hK
    have hyn := orbit_lt h5 HO.out hx hpre
    have HNW := hidI (key_new h5 HO.out hx hpre)
    have HYP := hidI ((((orbitW_facts h5 HO.out hx).1 y (hpre.subset (by simp))).2.1).isP HO.out)
    have hc7 := hx7.cell
    have HRD := hidI hrd
    obtain ⟨_, yo, yc, hyv, _⟩ := id hrd
    subst hyv
    have cf := hr.cell (i := y.1) hyn
    have ff := hr.frozen y.1
    have HRR := hidI hr; have HF := hidI hf; have HX := hidI hX; have HX7' := hidI hx7; have HX4' := hidI hx4
    have hbk : Below W.heap.size W W.drew := (Below.refl _ W).drew
    have hynI : (y.1 : Int) < (n : Int) := by omega
    clear SQ HX4 HX7 HR4 HB4 hr hf hpre hrd hX hx7 hx4
    unfold encO
    gi_wp2
    refine hK.out _ ?_
    refine wpIn_block ?_
    refine region_round (fun W' => W'.cell? ⟨w.heap.size + 1 + 1, 0, none⟩ = some (.slice (some ⟨w.heap.size + 1, 0, none⟩) n n)) (by kernel_rfl) (by kernel_rfl) (fun ⟨_, _, h⟩ => h) hc7 (fun hS => ?_)
    refine takeH (i := 0) (v := ?_) 24 rfl rfl (by kernel_rfl) (by kernel_rfl) (by kernel_rfl) (fun _ _ _ h => h) (Or.inl ⟨by rfl, ?_⟩) (by assumption) ?_
    rotate_left
    · intro w hS; go_simp; try with_reducible rfl
    (try simp only [Act.put, List.setIfInBounds_toArray, List.set_cons_zero, List.set_cons_succ])
    refine takeH (i := 1) (v := ?_) 25 rfl rfl (by kernel_rfl) (by kernel_rfl) (by kernel_rfl) (fun _ _ _ h => h) (Or.inl ⟨by rfl, ?_⟩) (by assumption) ?_
    rotate_left
    · intro w hS; go_simp; try with_reducible rfl
    (try simp only [Act.put, List.setIfInBounds_toArray, List.set_cons_zero, List.set_cons_succ])
    refine takeH (i := 2) (v := ?_) 26 rfl rfl (by kernel_rfl) (by kernel_rfl) (by kernel_rfl) (fun _ _ _ h => h) (Or.inl ⟨by rfl, ?_⟩) (by assumption) ?_
    rotate_left
    · intro w hS; go_simp; try with_reducible rfl
    (try simp only [Act.put, List.setIfInBounds_toArray, List.set_cons_zero, List.set_cons_succ])
    refine wpAnyH_ready (rs := [3]) (by kernel_rfl) (by simp) ?_
    refine AllReadyH.cons rfl (fun K hK => ?_) AllReadyH.nil
    go_simp
    refine (impl_permTurn n y.2 _ W.drew (IntS.below HRD.out hbk) HYP.out h1 h5).mono ?_; rintro e w5 ⟨vt, rfl, o5, b5⟩
    have EN := El.ofOwn o5 (up_I64 (isP_turn HYP.out) h5)
    obtain ⟨_, to, tc, htv, _⟩ := id EN.1
    subst htv
    have s5 := b5.size
    have hs7 : w.heap.size + 1 + 1 < W.heap.size := by omega
    have hS5 := (b5.cell (p := ⟨w.heap.size + 1 + 1, 0, none⟩) hs7).trans hS
    have R5 := HRR.out.of_block (b5.block _ (by show _ < W.heap.size; omega))
    have cf5 := R5.cell hyn
    have ff5 := R5.frozen y.1
    refine hK.out _ _ hS5 (fun hS => ?_); clear hK K
    refine takeH (i := 4) (v := ?_) 28 rfl rfl (by kernel_rfl) (by kernel_rfl) (by kernel_rfl) (fun _ _ _ h => h) (Or.inl ⟨by rfl, ?_⟩) (by assumption) ?_
    rotate_left
    · intro w hS; go_simp; try with_reducible rfl
    (try simp only [Act.put, List.setIfInBounds_toArray, List.set_cons_zero, List.set_cons_succ])
    refine wpAnyH_ready (rs := [5]) (by kernel_rfl) (by simp) ?_
    refine AllReadyH.cons rfl (fun K hK => ?_) AllReadyH.nil
    go_simp
    refine hK.out _ _ ((World.cell?_setCell_far _ _ _ _ (by show w.heap.size + 1 ≠ w.heap.size + 1 + 1; omega)).trans hS) (fun _ => ?_); clear hK K
    refine wpAnyH_done (by kernel_rfl) ?_ _
    have hAlt : ∀ k, AO w.heap.size (w.heap.size + 3) k → k < W.heap.size := by rintro k (h | h | h | h) <;> omega
    have hXlt : ∀ k, X k → k < W.heap.size := fun k h => (HX.out k h).2
    have hbig : ∀ c fr, w5.heap[w.heap.size + 1]? ≠ some (.cells c 3 fr) := by
      obtain ⟨c0, hc0, _⟩ := R5
      intro c fr e
      rw [hc0] at e
      injection e with e; injection e with _ e; exact absurd e (by decide)
    have hg5 : w5.grownBy (w5.setCell ⟨w.heap.size + 1, y.1, none⟩ (.slice to (up (turn y.2)).length tc)) (some (w.heap.size + 1)) := grown_setCell w5 _ _ _
    refine ⟨((KeepX.drew _ _ W).trans (KeepX.of_below b5 hAlt hXlt)).trans (KeepX.setCell _ _ (by rintro (h | h | h | h) <;> omega) (fun h => by have := HX.out _ h; omega)), ⟨_, R5.set y.1 _, fun z hz => ?_⟩, ?_, ?_, ?_⟩
    · rcases List.mem_append.1 hz with hz | hz
      · rw [if_neg (HNW.out z hz)]
        obtain ⟨q1, q2⟩ := HF.out z hz
        exact ⟨((q1.below hbk).below b5).keptT hg5 hbig, q2⟩
      · rw [List.mem_singleton.1 hz, if_pos rfl]
        refine ⟨EN.keptT hg5 hbig, fun k e h => ?_⟩
        have q1 := (o5.lt k e).1
        have q2 := hXlt k h
        have q3 : W.drew.heap.size = W.heap.size := rfl
        omega
    · exact (Below.heap_setCell _ _ _ _ (by show w.heap.size + 1 + 1 ≠ w.heap.size + 1; omega)).trans ((b5.block _ hs7).trans HX7'.out)
    · exact (Below.heap_setCell _ _ _ _ (by show w.heap.size ≠ w.heap.size + 1; omega)).trans ((b5.block _ (by show _ < W.heap.size; omega)).trans HX4'.out)
    · exact (hB.trans ((bthen hbk b5).mono (by omega))).setCell (by show w.heap.size ≤ w.heap.size + 1; omega) _
  case done =>
    rintro D X W hD hX hsz ⟨⟨f, hr, hf⟩, hx7, hx4, hB⟩ hK
    have hDw := hX _ hD
    have HRR := hidI hr; have HF := hidI (fun z hz => (hf z hz).1); have HX7' := hidI hx7; have HX4' := hidI hx4; have HBW := hidI hB; have HKD := hidI hK
    have hc4 := hx4.cell
    clear SQ HX4 HX7 HR4 HB4 hD hX hr hf hx7 hx4 hB hK
    go_wp2_with fail
    refine (impl_PermNone n _ h1 h5).mono ?_; rintro e w5 ⟨v0, rfl, o5, b5⟩
    have E5 := hidI (El.ofOwn o5 (up_I64 (isP_id n) h5))
    obtain ⟨_, no, nc, hv0, _⟩ := id E5.out.1
    subst hv0
    have s5 := b5.size
    have c45 := (b5.cell (p := ⟨w.heap.size, 0, none⟩) (by show w.heap.size < _; omega)).trans hc4
    have c46 := cell_old (w := w5.alloc (.cells #[.slice no (up (idP n)).length nc] 24)) (o := .cells #[.slice (some ⟨w5.heap.size, 0, none⟩) 1 1] 23) (by simp; omega) (cell_old (w := w5) (o := .cells #[.slice no (up (idP n)).length nc] 24) (by omega) c45)
    go_wp2_with fail
    obtain ⟨wd, hwd⟩ : ∃ wd, wd = (w5.alloc (.cells #[.slice no (up (idP n)).length nc] 24)).alloc (.cells #[.slice (some ⟨w5.heap.size, 0, none⟩) 1 1] 23) := ⟨_, rfl⟩
    rw [← hwd]
    have hsd : wd.heap.size = w5.heap.size + 2 := by rw [hwd]; simp
    have h5d : Below w5.heap.size w5 wd := by rw [hwd]; exact ((Below.refl w5.heap.size w5).alloc (Nat.le_refl _) _).alloc (by simp) _
    have hWd : Below W.heap.size W wd := bthen b5 h5d
    have hx10 : Boxed wd (w5.heap.size + 1) 23 (.slice (some ⟨w5.heap.size, 0, none⟩) 1 1) := by
      rw [hwd]; have := Boxed.new (w5.alloc (.cells #[.slice no (up (idP n)).length nc] 24)) 23 (.slice (some ⟨w5.heap.size, 0, none⟩) 1 1); rwa [World.size_alloc] at this
    have hrd : RowsOwn wd W.heap.size (.slice (some ⟨w5.heap.size, 0, none⟩) 1 1) [.slice no (up (idP n)).length nc] [up (idP n)] := by
      rw [hwd]; exact ((RowsOwn.one w5 _ _ E5.out).alloc _).base s5
    have hub : ∀ k, (Value.slice no (up (idP n)).length nc).ownBlock = some k → k < w5.heap.size := fun k e => E5.out.lt e
    clear hwd c45 c46 o5 b5
    refine (impl_orbitSeq (n : Int) ao ms.length cap (x : Int) wd).mono ?_; rintro e w6 ⟨rfl, hw6⟩
    have SQ := hidI (orbit_made 8 n x ms ao cap w wd HM.out (HBW.out.trans (hWd.mono (by omega))) h1 h5 h3 HO.out hx w6 hw6)
    have hs6 : w6.heap.size = w5.heap.size + 5 := by rw [hw6]; simp; omega
    have hb6 : Below wd.heap.size wd w6 := by rw [hw6]; exact (((Below.refl wd.heap.size wd).alloc (Nat.le_refl _) _).alloc (by simp) _).alloc (by simp; omega) _
    have HBd := hidI (bthen hWd hb6)
    have HLV := hidI (show LeavAt W.heap.size (w5.heap.size + 1) (AO w.heap.size wd.heap.size) ((idP n :: []).map up) (fun _ => False) w6 from
      ⟨_, _, (hb6.block _ (by omega)).trans hx10, hrd.below hb6, fun k e => by
        have e' : w5.heap.size = k := by injection e
        exact ⟨fun h => h, by rintro (h | h | h | h) <;> omega⟩, fun _ _ _ _ h => h⟩)
    rw [hsd] at SQ HLV ⊢
    clear hw6 hWd hx10 hrd hb6 h5d
    go_wp2_with fail
    refine (wpIn_wide (n := 9)).1 ?_
    refine wpIn_rangeFunc_X (by decide) rfl (enters_of Try.func90 (by kernel_rfl) rfl) SQ.out (by rintro k (h | h | h | h) <;> omega) rdO_put (Below.refl _ _) (fun _ _ => rfl)
      (fun pre X W' => LeavAt W.heap.size (w5.heap.size + 1) (AO w.heap.size (w5.heap.size + 2)) ((idP n :: lvTo n ms (orbitW n ms x) pre).map up) X W' ∧ Below W.heap.size W W')
      (fun _ _ _ _ => False) (AbX.and (fun pre X W1 W2 hX _ hl hm => hl.moves (fun e => by have := (hX _ e).1; omega) hm) (abx_below (Nat.le_refl _) (by omega))) (fun _ => abx_no) ⟨HLV.out, HBd.out⟩ ?round ?done ?stop
    case stop => intro D X c pre W _ _ _ _ h; exact h.elim
    case round =>
      rintro l pre y v X W2 W1 ⟨hl, hB2⟩ hpre hrd hox hX hsz K hK
      have HL2 := hidI hl; have HB2 := hidI hB2; have HRD := hidI hrd; have hX2 := hidI hX; have HPRE := hidI hpre
      obtain ⟨_, yo, yc, hyv, _⟩ := id hrd
      subst hyv
      have c4 := ((HBd.out.trans (Below.refl _ _)).cell (p := ⟨w.heap.size, 0, none⟩) (by show w.heap.size < _; omega)).trans HX4'.out.cell
      have c42 := (hB2.cell (p := ⟨w.heap.size, 0, none⟩) (by show w.heap.size < _; omega)).trans HX4'.out.cell
      clear SQ HLV HBd c4 hl hB2 hpre hrd hX
      unfold encO
      gi_wp2
      refine hK.out _ ?_
      clear hK
      gi_wp2
      gi_loopw [40] (fun vi wr => ∃ (j : Nat) (M : List Pm), vi = .int .i64 (j : Nat) ∧ j ≤ ms.length ∧ Hid (((ms.map (roundX (orbitW n ms x) y)).drop j).foldl (addL n) M = lvTo n ms (orbitW n ms x) (pre ++ [y])) ∧ Hid (LvOk n M) ∧
        Hid (LeavAt W.heap.size (w5.heap.size + 1) (AO w.heap.size (w5.heap.size + 2)) ((idP n :: M).map up) X wr) ∧ Hid (Below W.heap.size W wr) ∧ Hid (KeepX (AO w.heap.size (w5.heap.size + 2)) X W2 wr)) (fun vi _ => ms.length - (intOf vi).toNat)
      case atStart => exact ⟨0, lvTo n ms (orbitW n ms x) pre, rfl, by omega, hidI (lvTo_snoc n ms _ pre y).symm, hidI (lvTo_lv h5 HO.out hx (fun z hz => HPRE.out.subset (by simp [hz]))), HL2, HB2, hidI (KeepX.refl _ _ _)⟩
      case round =>
        obtain ⟨j, M, rfl, hj, HFo, HLk, HLe, HBe, HKe⟩ := hrel
        by_cases hjl : j < ms.length
        rotate_left
        · have hjI : ¬ (j : Int) < (ms.length : Int) := by omega
          have hEnd := hidI (show M = lvTo n ms (orbitW n ms x) (pre ++ [y]) by rw [← HFo.out]; exact (fold_end (by omega) M).symm)
          gi_wp2
          exact ⟨HKe.out, by have := HLe.out; rw [hEnd.out] at this; exact this, HBe.out⟩
        obtain ⟨m, hm⟩ : ∃ m, ms[j]? = some m := ⟨_, List.getElem?_eq_getElem hjl⟩
        have hjI : (j : Int) < (ms.length : Int) := by omega
        have HMP := hidI (HO.out m (List.mem_of_getElem? hm))
        obtain ⟨b, off, um, hao, hb, hcm, hum⟩ := IntSS.at HM.out hm
        subst hao
        have hbwr := HBW.out.trans (HBe.out.mono (by omega))
        have ecm := (hbwr.cell (p := ⟨b, off + j, none⟩) hb).trans hcm
        have humw := hum.below hbwr
        obtain ⟨bm, om, cm, rfl, hm1, hm2, hbm, hcu⟩ := up_cells humw HMP.out h1
        unfold maxLen at hm2
        have HUM := hidI humw
        have hyR := HPRE.out.subset (show y ∈ pre ++ [y] by simp)
        have hyn := ((orbitW_facts h5 HO.out hx).1 y hyR).1
        have HYP := hidI ((((orbitW_facts h5 HO.out hx).1 y hyR).2.1).isP HO.out)
        have hmem := orbit_next h5 HO.out hx hyR (List.mem_of_getElem? hm)
        have htag := tagO_mem hmem
        have HTP := hidI ((tagX_facts h5 HO.out hx hmem).2.2)
        have heT := HF.out _ htag
        have eto := hcu y.1 hyn
        have htn := ap_lt HMP.out hyn
        have HFN := hidI (fold_next (n := n) (R := orbitW n ms x) (y := y) hm M)
        have hrowR := (HRR.out.of_block (HBe.out.block _ (by omega)))
        have eft := hrowR.cell htn
        have HRDw := hidI (IntS.block HRD.out HKe.out.size (fun k e => HKe.out.same k (.inr (hox k e))))
        obtain ⟨t, ht⟩ : ∃ t, t = ap m y.1 := ⟨_, rfl⟩
        unfold tagX at HTP
        rw [← ht] at eto htn eft heT HTP
        have HT := hidI ht
        dsimp only at heT
        obtain ⟨_, fo, fc, hfv, _⟩ := id heT.1
        have HET := hidI heT
        rw [hfv] at eft HET
        have HQP := hidI (isP_turn HTP.out)
        have hynI : (y.1 : Int) < (n : Int) := by omega
        have htnI : (t : Int) < (n : Int) := by omega
        have e7 := (HBe.out.cell (p := ⟨w.heap.size + 1 + 1, 0, none⟩) (by show w.heap.size + 1 + 1 < _; omega)).trans HX7'.out.cell
        have swr := HBe.out.size
        have swk := HKe.out.size
        clear hcu hm hum humw hcm ht hbwr hyR hmem htag heT hrowR hfv
        gi_wp2
        have hbd : Below wr.heap.size wr wr.drew := (Below.refl _ wr).drew
        refine region_round (fun W' => W'.cell? ⟨w.heap.size + 1 + 1, 0, none⟩ = some (.slice (some ⟨w.heap.size + 1, 0, none⟩) n n) ∧ W'.cell? ⟨bm, om + y.1, none⟩ = some (.int .i64 (t : Nat)) ∧ W'.cell? ⟨w.heap.size + 1, t, none⟩ = some (.slice fo (up (turn (tagO (orbitW n ms x) t))).length fc))
          (by kernel_rfl) (by kernel_rfl) (fun ⟨_, _, h⟩ => h) ⟨e7, eto, eft⟩ (fun hS => ?_)
        refine takeH (i := 0) (v := ?_) 44 rfl rfl (by kernel_rfl) (by kernel_rfl) (by kernel_rfl) (fun _ _ _ h => h) (Or.inl ⟨by rfl, ?_⟩) (by assumption) ?_
        rotate_left
        · intro w hS; go_simp; try with_reducible rfl
        (try simp only [Act.put, List.setIfInBounds_toArray, List.set_cons_zero, List.set_cons_succ])
        refine takeH (i := 1) (v := ?_) 45 rfl rfl (by kernel_rfl) (by kernel_rfl) (by kernel_rfl) (fun _ _ _ h => h) (Or.inl ⟨by rfl, ?_⟩) (by assumption) ?_
        rotate_left
        · intro w hS; go_simp; try with_reducible rfl
        (try simp only [Act.put, List.setIfInBounds_toArray, List.set_cons_zero, List.set_cons_succ])
        refine takeH (i := 3) (v := ?_) 47 rfl rfl (by kernel_rfl) (by kernel_rfl) (by kernel_rfl) (fun _ _ _ h => h) (Or.inl ⟨by rfl, ?_⟩) (by assumption) ?_
        rotate_left
        · intro w hS; go_simp; try with_reducible rfl
        (try simp only [Act.put, List.setIfInBounds_toArray, List.set_cons_zero, List.set_cons_succ])
        refine takeH (i := 4) (v := ?_) 48 rfl rfl (by kernel_rfl) (by kernel_rfl) (by kernel_rfl) (fun _ _ _ h => h) (Or.inl ⟨by rfl, ?_⟩) (by assumption) ?_
        rotate_left
        · intro w hS; go_simp; try with_reducible rfl
        (try simp only [Act.put, List.setIfInBounds_toArray, List.set_cons_zero, List.set_cons_succ])
        refine takeH (i := 5) (v := ?_) 49 rfl rfl (by kernel_rfl) (by kernel_rfl) (by kernel_rfl) (fun _ _ _ h => h) (Or.inl ⟨by rfl, ?_⟩) (by assumption) ?_
        rotate_left
        · intro w hS; go_simp; try with_reducible rfl
        (try simp only [Act.put, List.setIfInBounds_toArray, List.set_cons_zero, List.set_cons_succ])
        refine takeH (i := 6) (v := ?_) 50 rfl rfl (by kernel_rfl) (by kernel_rfl) (by kernel_rfl) (fun _ _ _ h => h) (Or.inl ⟨by rfl, ?_⟩) (by assumption) ?_
        rotate_left
        · intro w hS; go_simp; try with_reducible rfl
        (try simp only [Act.put, List.setIfInBounds_toArray, List.set_cons_zero, List.set_cons_succ])
        refine takeH (i := 7) (v := ?_) 51 rfl rfl (by kernel_rfl) (by kernel_rfl) (by kernel_rfl) (fun _ _ _ h => h) (Or.inl ⟨by rfl, ?_⟩) (by assumption) ?_
        rotate_left
        · intro w hS; go_simp; try with_reducible rfl
        (try simp only [Act.put, List.setIfInBounds_toArray, List.set_cons_zero, List.set_cons_succ])
        refine takeH (i := 8) (v := ?_) 52 rfl rfl (by kernel_rfl) (by kernel_rfl) (by kernel_rfl) (fun _ _ _ h => h) (Or.inl ⟨by rfl, ?_⟩) (by assumption) ?_
        rotate_left
        · intro w hS; go_simp; try with_reducible rfl
        (try simp only [Act.put, List.setIfInBounds_toArray, List.set_cons_zero, List.set_cons_succ])
        refine takeH (i := 9) (v := ?_) 53 rfl rfl (by kernel_rfl) (by kernel_rfl) (by kernel_rfl) (fun _ _ _ h => h) (Or.inl ⟨by rfl, ?_⟩) (by assumption) ?_
        rotate_left
        · intro w hS; go_simp; try with_reducible rfl
        (try simp only [Act.put, List.setIfInBounds_toArray, List.set_cons_zero, List.set_cons_succ])
        refine wpAnyH_ready (rs := [2]) (by kernel_rfl) (by simp) ?_
        refine AllReadyH.cons rfl (fun K hK => ?_) AllReadyH.nil
        go_simp
        refine (impl_permJoin n y.2 m _ _ wr.drew (HRDw.out.below hbd) (HUM.out.below hbd) HYP.out HMP.out h1 h5).mono ?_; rintro e wa ⟨va, rfl, oa, ba⟩
        have HEA := hidI (El.ofOwn oa (up_I64 (isP_join HYP.out HMP.out) h5))
        obtain ⟨_, ja, ca, hva, _⟩ := id HEA.out.1
        subst hva
        have hba := bthen hbd ba
        have sa := hba.size
        refine hK.out _ _ ⟨(hba.cell (p := ⟨w.heap.size + 1 + 1, 0, none⟩) (by show w.heap.size + 1 + 1 < _; omega)).trans e7, (hba.cell (p := ⟨bm, om + y.1, none⟩) hbm).trans eto, (hba.cell (p := ⟨w.heap.size + 1, t, none⟩) (by show w.heap.size + 1 < _; omega)).trans eft⟩ (fun hS => ?_); clear hK K
        refine wpAnyH_ready (rs := [10]) (by kernel_rfl) (by simp) ?_
        refine AllReadyH.cons rfl (fun K hK => ?_) AllReadyH.nil
        go_simp
        refine (impl_permJoin n (join y.2 m) (turn (tagO (orbitW n ms x) t)) _ _ wa HEA.out.1 ((HET.out.1.below (HBe.out.trans (hba.mono (by omega)))) ) (isP_join HYP.out HMP.out) HQP.out h1 h5).mono ?_; rintro e wb ⟨vb, rfl, ob, bb⟩
        obtain ⟨R, hR⟩ : ∃ R, R = join (join y.2 m) (turn (tagO (orbitW n ms x) t)) := ⟨_, rfl⟩
        have HRP := hidI (show IsP n R by rw [hR]; exact isP_join (isP_join HYP.out HMP.out) HQP.out)
        have HRX := hidI (show roundX (orbitW n ms x) y m = R by rw [hR, HT.out]; rfl)
        rw [← hR] at ob
        clear hR
        have HEB := hidI (El.ofOwn ob (up_I64 HRP.out h5))
        obtain ⟨_, jb, cb, hvb, _⟩ := id HEB.out.1
        subst hvb
        have hbb := bthen hba bb
        have sb := hbb.size
        have HNX := hidI (show ∀ k, (Value.slice jb (up R).length cb).ownBlock = some k → ¬ X k from fun k e h => by
          have q1 := (ob.lt k e).1; have q2 := (hX2.out k h).2; omega)
        refine hK.out _ _ ⟨(hbb.cell (p := ⟨w.heap.size + 1 + 1, 0, none⟩) (by show w.heap.size + 1 + 1 < _; omega)).trans e7, (hbb.cell (p := ⟨bm, om + y.1, none⟩) hbm).trans eto, (hbb.cell (p := ⟨w.heap.size + 1, t, none⟩) (by show w.heap.size + 1 < _; omega)).trans eft⟩ (fun hS => ?_); clear hK K
        refine wpAnyH_ready (rs := [11]) (by kernel_rfl) (by simp) ?_
        refine AllReadyH.cons rfl (fun K hK => ?_) AllReadyH.nil
        go_simp
        refine hK.out _ _ hS (fun _ => ?_); clear hK K
        refine wpAnyH_done (by kernel_rfl) ?_ _
        obtain ⟨v10, us, hb10, hrow, h3, h4⟩ := HLe.out
        obtain ⟨g, c10, hv10, -⟩ := own_addr hrow.1 (by simp)
        have hlen : ((idP n :: M).map up).length = M.length + 1 := by simp
        rw [hlen] at hv10
        subst hv10
        have hb10b : Boxed wb (w5.heap.size + 1) 23 _ := (hbb.block _ hb10.lt).trans hb10
        have hrowb := hrow.below hbb
        have c10b := hb10b.cell
        have f10b := hb10b.frozen
        have HB10 := hidI hb10b; have HROW := hidI hrowb; have H3 := hidI h3; have H4 := hidI h4; have HBB := hidI hbb
        clear ob bb hba ba oa hS e7 eto eft ecm hb10 hrow h3 h4 hb10b hrowb hbd hbb HEA HET HUM HRDw HTP HQP
        gi_wp2
        refine ⟨trivial, ?_⟩
        refine (CallsIn.inRound l (callsIn_wide.2 (impl_permIn n (idP n :: M) R _ _ wb HROW.out.reads HEB.out.1 HRP.out (by
          intro q hq
          rcases List.mem_cons.1 hq with rfl | hq
          · exact isP_id n
          · exact HLk.out.isP q hq) h1 h5))).mono ?_; rintro e wq ⟨rfl, nq, hwq⟩
        have hq6 : Below wb.heap.size wb wq := by rw [hwq]; exact bdraw _ _
        have HB11 := hidI (show Boxed wq (w5.heap.size + 1) 23 (.slice (some ⟨g, 0, none⟩) (M.length + 1) c10) from (hq6.block _ HB10.out.lt).trans HB10.out)
        have HROW1 := hidI (HROW.out.below hq6)
        have HEB1 := hidI (HEB.out.below hq6)
        have HBB1 := hidI (bthen HBB.out hq6)
        have c11 := HB11.out.cell
        have f11 := HB11.out.frozen
        have hADD := addL_step (n := n) (M := M) (R := R)
        have hMl := HLk.out.len h1 h5
        have HLk2 := hidI (HLk.out.add HRP.out)
        have HFo2 := hidI (show ((ms.map (roundX (orbitW n ms x) y)).drop (j + 1)).foldl (addL n) (addL n M R) = lvTo n ms (orbitW n ms x) (pre ++ [y]) by rw [← HFo.out, HFN.out, HRX.out])
        have hAlt : ∀ k, AO w.heap.size (w5.heap.size + 2) k → k < wr.heap.size := by rintro k (h | h | h | h) <;> omega
        have hXlt : ∀ k, X k → k < wr.heap.size := fun k h => by have := (hX2.out k h).2; omega
        have HAlt := hidI hAlt; have HXlt := hidI hXlt
        clear hwq hq6 c10b f10b HB10 HROW HEB HFN HRX hAlt hXlt
        by_cases hin : R ∈ idP n :: M
        · rw [decide_eq_true hin]
          rw [(hADD).1 hin] at HLk2 HFo2
          have HKe2 := hidI (HKe.out.trans (KeepX.of_below HBB1.out HAlt.out HXlt.out))
          have HLe2 := hidI (show LeavAt W.heap.size (w5.heap.size + 1) (AO w.heap.size (w5.heap.size + 2)) ((idP n :: M).map up) X wq from ⟨_, us, HB11.out, HROW1.out, H3.out, H4.out⟩)
          have HBe2 := hidI (HBe.out.trans (HBB1.out.mono (by omega)))
          clear hADD hin c11 f11
          gi_wp2
          go_roundw
          case rel => exact ⟨j + 1, M, by go_num, by omega, HFo2, HLk2, HLe2, HBe2, HKe2⟩
          case measure => simp [intOf]; omega
        rw [decide_eq_false hin]
        rw [(hADD).2 hin] at HLk2 HFo2
        clear hADD hin
        have hpl : ((idP n :: M).map up).length = M.length + 1 := by simp
        have swq := HBB1.out.size
        gi_wp2_with (gi_at_builtin; refine wpList_round (fun ⟨_, _, h⟩ => h) _ _ _ rfl ?_; refine wpList_pushR wq rfl _ _ rfl W.heap.size (.slice (some ⟨g, 0, none⟩) (M.length + 1) c10) us ((idP n :: M).map up) (.slice jb (up R).length cb) (up R) rfl rfl HROW1.out HEB1.out (by omega) (by omega) ?_)
        intro g8 c8 w8 hg8 rp8 _ gr8 l8
        obtain ⟨hLV, hKX, hBL⟩ := LeavAt.push (A := AO w.heap.size (w5.heap.size + 2)) HB11.out HROW1.out H3.out H4.out HNX.out rp8 gr8 l8 (fun k h => by have := HXlt.out k h; omega) (fun k h => by have := HAlt.out k h; omega) (fun h => by have := hX2.out _ h; omega) (by rintro (h | h | h | h) <;> omega) (by omega)
        have hb8 : Boxed w8 (w5.heap.size + 1) 23 (.slice (some ⟨g, 0, none⟩) (M.length + 1) c10) := Boxed.kept (Boxed.alloc HB11.out _) gr8 (HB11.out.not_row (by decide) HROW1.out.1)
        have c8' := hb8.cell
        have f8' := hb8.frozen
        have HLV := hidI hLV; have HKX := hidI hKX; have HBL := hidI hBL
        clear hLV hKX hBL rp8 gr8 l8 hb8 c11 f11
        go_wp2_with fail
        gi_wp2
        go_roundw
        case rel => exact ⟨j + 1, M ++ [R], by go_num, by omega, HFo2, HLk2, hidI (by have := HLV.out; rw [show (idP n :: (M ++ [R])).map up = (idP n :: M).map up ++ [up R] by simp]; exact this), hidI ((HBe.out.trans (HBB1.out.mono (by omega))).trans HBL.out), hidI ((HKe.out.trans (KeepX.of_below HBB1.out HAlt.out HXlt.out)).trans HKX.out)⟩
        case measure => simp [intOf]; omega
    case done =>
      rintro D2 X2 W2 hD2 hX2 hsz2 ⟨hl, hB2⟩ hK2
      obtain ⟨v10, us, hb10, hrow, h3', h4'⟩ := hl
      rw [lvTo_all] at hrow
      obtain ⟨g, c10, hv10, -⟩ := own_addr hrow.1 (by simp)
      have hlen : ((idP n :: leave n ms x).map up).length = (leave n ms x).length + 1 := by simp
      rw [hlen] at hv10
      subst hv10
      have hgl := hrow.lt (by rw [hlen])
      obtain ⟨hg1, hg2, hg3, hg4⟩ := hgl
      unfold maxLen at hg4
      have hc10 := hb10.cell
      have hd2 := hX2 _ hD2
      have hKD2 := (hB2.block D (by omega)).trans HKD.out
      have HRo := hidI hrow
      have hll : ((leave n ms x).map up).length = (leave n ms x).length := List.length_map _
      have HBf := hidI (HBW.out.trans (hB2.mono (by omega)))
      have HK2 := hidI hK2; have HKD2 := hidI hKD2
      obtain ⟨L, hL⟩ : ∃ L, L = (leave n ms x).length := ⟨_, rfl⟩
      rw [← hL] at hg3 hc10 HRo hll
      have HL := hidI hL
      clear SQ HLV HBd hD2 hX2 hsz2 hb10 hrow h3' h4' hB2 hK2 hKD2 hL hlen
      by_cases h1c : c10 = 1
      · subst h1c
        obtain rfl : L = 0 := by omega
        clear hll
        go_wp2_with fail
        refine ⟨by simp, .inl ⟨_, _, rfl, run_takeDeferred HK2.out, ?_⟩⟩
        have hk' : (W2.putObj D2 (.deferred none)).heap[D]? = some (.deferred (some [])) := (World.putObj_heap_other (by omega)).trans HKD2.out
        refine ⟨by simp, .inl ⟨_, _, rfl, run_takeDeferred hk', ?_⟩⟩
        have hro := (HRo.out.put (.deferred none) HK2.out rfl).put (.deferred none) hk' rfl
        exact ⟨_, results_tmp rfl _ _ _, .slice (some ⟨g, 0, none⟩) 0 0, rfl, hro.tail.1 rfl, (HBf.out.trans (below_putObj (by omega) HBf.out.size)).trans (below_putObj (by omega) (by simp; exact HBf.out.size)), (hro.farTail (by omega)).1 rfl⟩
      have HLL := hidI hll; clear hll
      go_wp2_with fail
      refine ⟨by simp, .inl ⟨_, _, rfl, run_takeDeferred HK2.out, ?_⟩⟩
      have hk' : (W2.putObj D2 (.deferred none)).heap[D]? = some (.deferred (some [])) := (World.putObj_heap_other (by omega)).trans HKD2.out
      refine ⟨by simp, .inl ⟨_, _, rfl, run_takeDeferred hk', ?_⟩⟩
      have hro := (HRo.out.put (.deferred none) HK2.out rfl).put (.deferred none) hk' rfl
      have t1 := hro.tail.2 h1c
      have t2 := (hro.farTail (M := w.heap.size) (by omega)).2 h1c
      rw [HLL.out] at t1 t2
      exact ⟨_, results_tmp rfl _ _ _, .slice (some ⟨g, 1, none⟩) L (c10 - 1), rfl, t1, (HBf.out.trans (below_putObj (by omega) HBf.out.size)).trans (below_putObj (by omega) (by simp; exact HBf.out.size)), t2⟩
end Go.Proofs.Ytmmggbcmailbiaa
