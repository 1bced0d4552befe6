/- The laws' helpers for slices of slices: open, szIntSS, toIntSS, eqIntSS, markIntSS. -/
import Derived.Test.YtmmggbcmailbiaaGR
import Derived.Test.YtmmggbcmailbiaaMark
import Derived.Test.YtmmggbcmailbiaaOpen
import Derived.Deep.RegionHeld3
import Derived.Deep.QuietTactic
import Derived.BigQuiet
import Derived.Outline
namespace Go.Proofs.Ytmmggbcmailbiaa
open Go.RowKit Go.ChangeShapes Go.WideShapes Go.ChangeAt

theorem cellsSl : Try.prog.cellsOf 24 = 1 := by kernel_rfl

theorem choose_listE {α : Type} {n : Nat} {P : Nat → α → Prop} (h : ∀ k, k < n → ∃ a, P k a) : ∃ l : List α, l.length = n ∧ ∀ k a, l[k]? = some a → P k a := by
  induction n with
  | zero => exact ⟨[], rfl, by simp⟩
  | succ n ih =>
    obtain ⟨l, hl, hp⟩ := ih (fun k hk => h k (by omega))
    obtain ⟨a, ha⟩ := h n (by omega)
    refine ⟨l ++ [a], by simp [hl], fun k b hk => ?_⟩
    by_cases hkn : k < n
    · rw [List.getElem?_append_left (by omega)] at hk; exact hp k b hk
    · have hk2 : k < (l ++ [a]).length := (List.getElem?_eq_some_iff.1 hk).1
      simp [hl] at hk2
      obtain rfl : k = n := by omega
      rw [List.getElem?_append_right (by omega)] at hk
      simp [hl] at hk
      subst hk; exact ha

theorem one_of {α : Type} {cs : List α} (h : cs.length = 1) : ∃ a, cs = [a] := by
  match cs, h with
  | [a], _ => exact ⟨a, rfl⟩

theorem open_IntSS_cs {H : Type} {enc : TypeId × Value → H} {W : World} {fuel : Nat} {v : Value} {y : DataW H × List MemPlace}
    (hf : DataW.trod enc Try.prog W 0 (fun _ => true) true fuel 23 [v] = some y) (hlt : ∀ x ∈ y.2, x.block < W.heap.size) : ∃ pss, IntSS W v pss := by
  rcases DataW.trod_slice Try.underlying23 hf with ⟨hcs, hx⟩ | ⟨a, len, cap, elems, rest, n, _, hcs, rfl, hb, hl, hm, hlen, hel, _⟩
  · obtain rfl : v = .slice none 0 0 := by simpa using hcs
    exact ⟨[], IntSS.nil W⟩
  · obtain rfl : v = .slice (some a) len cap := by simpa using hcs
    by_cases h0 : len = 0
    · subst h0
      exact ⟨[], _, _, rfl, by simp, hm, .inl ⟨rfl, fun h => by cases h⟩⟩
    · obtain ⟨b, off, spot⟩ := a
      have raw : ∀ k, k < len → ∃ (u : Value) (zs : List Int), b < W.heap.size ∧ W.cell? ((⟨b, off, spot⟩ : Addr).add k) = some u ∧ IntS W u zs := by
        intro k hk
        have h1 := hel k hk
        rw [cellsSl, List.getElem?_eq_getElem (by omega)] at h1
        obtain ⟨cs, h2, h3⟩ := Option.bind_eq_some_iff.1 h1
        rw [Nat.mul_one] at h2
        have hbl := World.cells?_block h2 (by omega)
        obtain ⟨hb', hl4, hc⟩ := World.cells?_some h2
        obtain ⟨u, rfl⟩ := one_of hl4
        obtain ⟨zs, hz⟩ := open_IntS_cs h3 (fun x hx => hlt x (by
          refine List.mem_append_right _ (List.mem_flatMap.2 ⟨elems[k], List.mem_append_left _ (List.getElem_mem _), hx⟩)))
        refine ⟨u, zs, ?_, by have := hc 0 (by omega); simpa [Addr.add] using this, hz⟩
        by_cases e : k = 0
        · rw [e] at hbl; simpa [Addr.add] using hbl
        · simpa [Addr.add, e] using hbl
      have hspot : spot = none := by
        obtain ⟨u, zs, _, hc, _⟩ := raw 0 (by omega)
        simpa [Addr.add] using World.cell?_spot (by simpa [Addr.add] using hc)
      subst hspot
      have each : ∀ k, k < len → ∃ zs : List Int, b < W.heap.size ∧ ∃ u, W.cell? ⟨b, off + k, none⟩ = some u ∧ IntS W u zs := by
        intro k hk
        obtain ⟨u, zs, hbl, hc, hD⟩ := raw k hk
        rw [add_plain] at hc
        exact ⟨zs, hbl, u, hc, hD⟩
      obtain ⟨ds, hdl, hds⟩ := choose_listE each
      have hbW := (each 0 (by omega)).choose_spec.1
      refine ⟨ds, some ⟨b, off, none⟩, cap, by rw [hdl], by omega, hm, .inr ⟨b, off, rfl, hbW, fun k d hk => (hds k d hk).2⟩⟩

set_option maxRecDepth 100000 in
/-- An argument of type [][]int reads as some rows. -/
theorem open_IntSS {H : Type} {enc : TypeId × Value → H} {W : World} {base : Nat} {v : Value} {d : DataW H} {p : List MemPlace}
    (hok : Value.okWide Try.prog W .any base 23 v) (h : DataW.Trod enc Try.prog W 0 (fun _ => true) true 23 v d p) (hlt : ∀ x ∈ p, x.block < W.heap.size) : ∃ pss, IntSS W v pss := by
  obtain ⟨a0, len, cap, rfl⟩ := okWide_slice Try.underlying23 hok
  obtain ⟨fuel, hf⟩ := h
  exact open_IntSS_cs (by simpa [Value.cells] using hf) hlt

/-- What was before is as it was, but for blocks from lo up to hi. -/
structure Inside (lo hi : Nat) (w w' : World) : Prop where
  os : w'.os = w.os
  tape : w'.tape = w.tape
  output : w'.output = w.output
  size : w.heap.size ≤ w'.heap.size
  block : ∀ i, i < w.heap.size → (i < lo ∨ hi ≤ i) → w'.heap[i]? = w.heap[i]?

theorem Inside.refl (lo hi : Nat) (w : World) : Inside lo hi w w := ⟨rfl, rfl, rfl, Nat.le_refl _, fun _ _ _ => rfl⟩
theorem Inside.trans {lo hi : Nat} {a b c : World} (h : Inside lo hi a b) (k : Inside lo hi b c) : Inside lo hi a c :=
  ⟨k.os.trans h.os, k.tape.trans h.tape, k.output.trans h.output, Nat.le_trans h.size k.size, fun i hi hr => (k.block i (Nat.lt_of_lt_of_le hi h.size) hr).trans (h.block i hi hr)⟩
theorem Inside.grown {lo hi g : Nat} {w w' : World} (h : w.grownBy w' (some g)) (h1 : lo ≤ g) (h2 : g < hi) : Inside lo hi w w' :=
  ⟨h.os, h.tape, h.output, h.size, fun i hi hr => h.block i hi (fun e => by injection e with e; omega)⟩
theorem Inside.below {lo hi base : Nat} {w w' : World} (h : Inside lo hi w w') (hb : base ≤ lo) (hs : base ≤ w.heap.size) : Below base w w' :=
  ⟨h.os, h.tape, h.output, h.size, fun i hi => h.block i (by omega) (.inl (by omega))⟩
theorem own_inside {lo hi base : Nat} {w w' : World} {e : TypeId} {v : Value} {n : Nat} {xs : List Value} (h : w.ownsRow base e 1 v n xs) (k : Inside lo hi w w') (hv : ∀ g, v.ownBlock = some g → g < lo ∨ hi ≤ g) : w'.ownsRow base e 1 v n xs := by
  obtain ⟨h1, h2⟩ := h
  rcases h2 with h2 | ⟨g, cap, cur, a1, a2, a3, a4⟩
  · exact ⟨h1, .inl h2⟩
  · refine ⟨h1, .inr ⟨g, cap, cur, a1, a2, ?_, a4⟩⟩
    rw [k.block g (Array.getElem?_eq_some_iff.1 a3).1 (hv g (by rw [a1]; rfl))]; exact a3

def tot : List (List Int) → Nat
  | [] => 0
  | z :: zs => z.length + tot zs

theorem tot_append (a b : List (List Int)) : tot (a ++ b) = tot a + tot b := by
  induction a with
  | nil => simp [tot]
  | cons x a ih => simp [tot, ih]; omega
theorem tot_take {pss : List (List Int)} {k : Nat} {p : List Int} (h : pss[k]? = some p) : tot (pss.take (k + 1)) = tot (pss.take k) + p.length := by
  have hl := (List.getElem?_eq_some_iff.1 h).1
  rw [List.take_succ_eq_append_getElem hl, tot_append, (List.getElem?_eq_some_iff.1 h).2]; simp [tot]
theorem tot_take_le (pss : List (List Int)) (k : Nat) : tot (pss.take k) ≤ tot pss := by
  have h := congrArg tot (List.take_append_drop k pss)
  rw [tot_append] at h; omega
theorem tot_mem {pss : List (List Int)} {p : List Int} (h : p ∈ pss) : p.length ≤ tot pss := by
  induction pss with
  | nil => cases h
  | cons x l ih =>
    rcases List.mem_cons.1 h with rfl | h
    · simp [tot]
    · have := ih h; simp [tot]; omega

theorem szIntS_any (zs : List Int) (v : Value) (left : Int) (w : World) (h : IntS w v zs) (h0 : 0 ≤ left) (h1 : left ≤ 1048576) :
    Calls Try.prog 86 #[v, .int .i64 left] w fun e w' => (∃ q : Int, e = .returned (.int .i64 q) ∧ (q < 0 ∨ q = left - zs.length)) ∧ w = w' := by
  obtain ⟨hz, ao, cap, rfl, hcap, hmax, -⟩ := h
  unfold maxLen at hmax
  by_cases hl : (zs.length : Int) ≤ left
  · go_enter Try.func86, Try.ntmps86
    go_wp2
    go_ret
    exact ⟨⟨_, rfl, .inr rfl⟩, rfl⟩
  · go_enter Try.func86, Try.ntmps86
    go_wp2
    go_ret
    exact ⟨⟨_, rfl, .inl (by omega)⟩, rfl⟩

set_option maxHeartbeats 1000000 in
theorem szIntSS_any (pss : List (List Int)) (v : Value) (w : World) (h : IntSS w v pss) :
    Calls Try.prog 31 #[v, .int .i64 1048576] w fun e w' => (∃ q : Int, e = .returned (.int .i64 q) ∧ (q < 0 ∨ 0 ≤ q ∧ pss.length + tot pss ≤ 1048576)) ∧ w = w' := by
  obtain ⟨ao, cap, rfl, c1, c2, c3⟩ := h
  unfold maxLen at c2
  by_cases hbig : (1048576 : Int) - pss.length < 0
  · clear c3
    go_enter Try.func31, Try.ntmps31
    go_wp2_with fail
    go_ret
    exact ⟨⟨_, rfl, .inl (by omega)⟩, rfl⟩
  have hpl : pss.length ≤ 1048576 := by omega
  rcases c3 with ⟨rfl, _⟩ | ⟨b, off, rfl, hb, hc⟩
  · show Calls Try.prog 31 #[.slice ao 0 cap, _] w _
    go_enter Try.func31, Try.ntmps31
    go_wp2_with fail
    refine wp_loop_rounds 1 ?_
    rw [rounds_succ]
    go_wp2_with fail
    go_ret
    exact ⟨⟨_, rfl, .inr ⟨by simp, by simp [tot]⟩⟩, rfl⟩
  have Hc := hidI hc; clear hc
  go_enter Try.func31, Try.ntmps31
  go_wp2_with fail
  go_loop [1, 5] (fun q i => ∃ (k : Nat) (z : Int), k ≤ pss.length ∧ i = .int .i64 k ∧ q = .int .i64 z ∧ 0 ≤ z ∧ z ≤ 1048576 ∧ Hid (z = 1048576 - pss.length - tot (pss.take k))) (fun _ i => pss.length - (intOf i).toNat)
  case atStart => exact ⟨0, 1048576 - pss.length, by omega, rfl, rfl, by omega, by omega, hidI (by simp [tot])⟩
  case round =>
    obtain ⟨k, z, hk, rfl, rfl, hz0, hz1, HZ⟩ := hrel
    by_cases hlt : k < pss.length
    · have hkI : (k : Int) < (pss.length : Int) := by omega
      obtain ⟨p, hp⟩ : ∃ p, pss[k]? = some p := ⟨_, List.getElem?_eq_getElem hlt⟩
      obtain ⟨u, hcu, hu⟩ := Hc.out k p hp
      have HU := hidI hu; have HP := hidI hp
      obtain ⟨_, uo, uc, hu1, hul, hum, _⟩ := id hu
      subst hu1
      clear hp hu
      go_wp2_with fail
      refine (szIntS_any p _ z _ HU.out hz0 hz1).mono ?_; rintro e w' ⟨⟨q, rfl, hq⟩, rfl⟩
      by_cases hneg : q < 0
      · clear hq
        go_wp2_with fail
        go_ret
        exact ⟨⟨_, rfl, .inl (by omega)⟩, rfl⟩
      have hq2 := hidI (show q = z - p.length from hq.resolve_left hneg)
      have hq3 : q ≤ 1048576 := by rw [hq2.out]; omega
      clear hq
      go_wp2_with fail
      go_round
      case rel => exact ⟨k + 1, q, by omega, by go_num, rfl, by omega, hq3, hidI (by rw [hq2.out, HZ.out, tot_take HP.out]; omega)⟩
      case measure => simp [intOf]; omega
    · have hkI : ¬ (k : Int) < (pss.length : Int) := by omega
      have HF := hidI (show pss.length + tot pss ≤ 1048576 by
        have := HZ.out
        rw [List.take_of_length_le (by omega)] at this; omega)
      go_wp2_with fail
      go_ret
      exact ⟨⟨_, rfl, .inr ⟨hz0, HF.out⟩⟩, rfl⟩

theorem made_rowsE (n : Nat) (hn : n ≤ 4000000) : ∀ w, (Instr.makeSlice 23 (.int .i64 (n : Int)) (.int .i64 (n : Int))).run Try.prog w = .ok (.slice (some ⟨w.heap.size, 0, none⟩) n n) (w.alloc (.cells (madeCells #[.slice none 0 0] n) 24)) := fun w =>
  run_make_row' 23 24 (.slice none 0 0) 24 Try.underlying23 infoRows rfl .i64 .i64 n (by omega) (by omega) w

/-- Rows at the blocks gs, as far as k. -/
structure GRow (w : World) (base g : Nat) (gs : Nat → Nat) (pss : List (List Int)) (k : Nat) (con : Bool) : Prop where
  own : ∀ (j : Nat) (p : List Int), j < k → pss[j]? = some p → ∃ xs, w.ownsRow base 3 1 (.slice (some ⟨gs j, 0, none⟩) p.length p.length) p.length xs ∧ (con = true → xs = p.map (Value.int .i64))
  inj : ∀ (i j : Nat), i < j → j < k → gs i < gs j
  lo : ∀ (j : Nat), j < k → g < gs j ∧ gs j < w.heap.size

theorem GRow.below {w w' : World} {base g : Nat} {gs : Nat → Nat} {pss : List (List Int)} {k : Nat} {con : Bool} (h : GRow w base g gs pss k con) (hb : Below w.heap.size w w') : GRow w' base g gs pss k con :=
  ⟨fun j p hj hp => by obtain ⟨xs, h1, h2⟩ := h.own j p hj hp; exact ⟨xs, own_below h1 hb, h2⟩, h.inj, fun j hj => ⟨(h.lo j hj).1, Nat.lt_of_lt_of_le (h.lo j hj).2 hb.size⟩⟩

theorem GRow.other {w w' : World} {base g g' : Nat} {gs : Nat → Nat} {pss : List (List Int)} {k : Nat} {con : Bool} (h : GRow w base g gs pss k con) (hg : w.grownBy w' (some g')) (hne : ∀ j, j < k → gs j ≠ g') : GRow w' base g gs pss k con :=
  ⟨fun j p hj hp => by
    obtain ⟨xs, h1, h2⟩ := h.own j p hj hp
    exact ⟨xs, own_grown h1 hg (fun i hi => by simp only [Value.ownBlock] at hi; injection hi with hi; subst hi; exact hne j hj), h2⟩, h.inj, fun j hj => ⟨(h.lo j hj).1, Nat.lt_of_lt_of_le (h.lo j hj).2 hg.size⟩⟩

set_option maxHeartbeats 1000000 in
/-- toIntSS: new rows, that hold the same numbers. -/
theorem toIntSS_any (pss : List (List Int)) (v : Value) (w : World) (h : IntSS w v pss) (hl : pss.length ≤ 4000000) (hls : ∀ p ∈ pss, p.length ≤ 4000000) :
    Calls Try.prog 32 #[v] w fun e w' => e = .returned (.slice (some ⟨w.heap.size, 0, none⟩) pss.length pss.length) ∧ IntSS w' (.slice (some ⟨w.heap.size, 0, none⟩) pss.length pss.length) pss ∧ Below w.heap.size w w' ∧
      ∃ gs, w'.rowIs w.heap.size 24 pss.length (fun j => .slice (some ⟨gs j, 0, none⟩) (pss.getD j []).length (pss.getD j []).length) ∧ GRow w' w.heap.size w.heap.size gs pss pss.length true := by
  obtain ⟨ao, cap, rfl, c1, c2, c3⟩ := h
  unfold maxLen at c2
  have hmk := made_rowsE pss.length hl
  have HR0 := hidI (World.rowIs_made w (.slice none 0 0) pss.length 24)
  have HB0 := hidI ((Below.refl w.heap.size w).alloc (Nat.le_refl _) (.cells (madeCells #[.slice none 0 0] pss.length) 24))
  rcases c3 with ⟨rfl, _⟩ | ⟨b, off, rfl, hb, hc⟩
  · have hmk : ∀ w, (Instr.makeSlice 23 (.int .i64 0) (.int .i64 0)).run Try.prog w = .ok (.slice (some ⟨w.heap.size, 0, none⟩) 0 0) (w.alloc (.cells (madeCells #[.slice none 0 0] 0) 24)) := made_rowsE 0 (by omega)
    show Calls Try.prog 32 #[.slice ao 0 cap] w _
    go_enter Try.func32, Try.ntmps32
    go_wp2_with fail
    refine wp_loop_rounds 1 ?_
    rw [rounds_succ]
    go_wp2_with fail
    go_ret
    exact ⟨rfl, ⟨_, 0, rfl, by simp, by simp, .inl ⟨rfl, fun e => by cases e⟩⟩, HB0.out, fun _ => 0, HR0.out.congr (fun j hj => by simp at hj), ⟨fun j p hj => by simp at hj, fun i j _ hj => by simp at hj, fun j hj => by simp at hj⟩⟩
  have Hc := hidI hc; have HLS := hidI hls; clear hc hls
  go_enter Try.func32, Try.ntmps32
  go_wp2_with fail
  go_loopw [4] (fun i wr => ∃ (k : Nat) (f : Nat → Value) (gs : Nat → Nat), k ≤ pss.length ∧ i = .int .i64 k ∧ Hid (wr.rowIs w.heap.size 24 pss.length f) ∧ Hid (∀ j, j < k → f j = .slice (some ⟨gs j, 0, none⟩) (pss.getD j []).length (pss.getD j []).length) ∧ Hid (GRow wr w.heap.size w.heap.size gs pss k true) ∧ Hid (Below w.heap.size w wr)) (fun i _ => pss.length - (intOf i).toNat)
  case atStart => exact ⟨0, _, fun _ => 0, by omega, rfl, HR0, hidI (fun j hj => by omega), hidI ⟨fun j p hj => by omega, fun i j _ hj => by omega, fun j hj => by omega⟩, HB0⟩
  case round =>
    clear hmk HR0 HB0
    obtain ⟨k, f, gs, hk, rfl, HR, HF, HG, HB⟩ := hrel
    by_cases hlt : k < pss.length
    · have hkI : (k : Int) < (pss.length : Int) := by omega
      obtain ⟨p, hp⟩ : ∃ p, pss[k]? = some p := ⟨_, List.getElem?_eq_getElem hlt⟩
      obtain ⟨u, hcu, hu⟩ := Hc.out k p hp
      have hcu' := (HB.out.cell (p := ⟨b, off + k, none⟩) hb).trans hcu
      have HU := hidI (hu.below HB.out); have HP := hidI hp
      have hgd : pss.getD k [] = p := by rw [List.getD_eq_getElem?_getD, hp]; rfl
      have HGD := hidI hgd
      have hpl := HLS.out p (List.mem_of_getElem? hp)
      obtain ⟨_, uo, uc, hu1, hul, hum, _⟩ := id hu
      subst hu1
      clear hp hu hcu hgd
      go_wp2_with fail
      refine (toIntS_any p _ _ HU.out hpl).mono ?_; rintro e w5 ⟨rfl, _, r5, b5⟩
      have hs5 : wr.heap.size < w5.heap.size := by obtain ⟨c, hcc, _⟩ := r5; exact (Array.getElem?_eq_some_iff.1 hcc).1
      have hsb := HB.out.size
      have hgw : w.heap.size < wr.heap.size := by obtain ⟨c, hcc, _⟩ := HR.out; exact (Array.getElem?_eq_some_iff.1 hcc).1
      have hR5 : w5.rowIs w.heap.size 24 pss.length f := World.rowIs.of_block HR.out (b5.block _ hgw)
      have HR5 := hidI hR5
      have e3 : w5.cell? ⟨w.heap.size, k, none⟩ = some (f k) := hR5.cell hlt
      have e4 : w5.frozen? ⟨w.heap.size, k, none⟩ = false := hR5.frozen _
      have HG5 := hidI (HG.out.below b5); have HB5 := hidI (bthen HB.out b5)
      have HO5 := hidI (own_base (own_of_row (xs := p.map (Value.int .i64)) r5 (List.length_map _) (fun j hj => by rw [List.getElem?_map, List.getElem?_eq_getElem hj, List.getD_eq_getElem?_getD, List.getElem?_eq_getElem hj]; rfl) (by unfold maxLen; omega)) (show w.heap.size ≤ wr.heap.size by omega))
      have HGL := hidI HG.out.lo
      clear r5 b5 hR5
      go_wp2_with fail
      go_roundw
      case rel =>
        refine ⟨k + 1, _, fun t => if t = k then wr.heap.size else gs t, by omega, by go_num, hidI (HR5.out.set k _), hidI (fun t ht => ?_), hidI ?_, hidI (HB5.out.setCell (Nat.le_refl _) _)⟩
        · by_cases e : t = k
          · subst e; simp only [if_pos, HGD.out]
          · simp only [if_neg e]; exact HF.out t (by omega)
        · have hgr := grown_setCell w5 w.heap.size k (.slice (some ⟨wr.heap.size, 0, none⟩) p.length p.length)
          have hG6 := HG5.out.other hgr (fun j hj e => by have := (HGL.out j hj).1; omega)
          refine ⟨fun j q hj hq => ?_, fun i j hij hj => ?_, fun j hj => ?_⟩
          · by_cases e : j = k
            · subst e
              rw [if_pos rfl]
              rw [HP.out] at hq; injection hq with hq; subst hq
              exact ⟨_, own_grown HO5.out hgr (fun i hi => by simp only [Value.ownBlock] at hi; injection hi with hi; omega), fun _ => rfl⟩
            · rw [if_neg e]; exact hG6.own j q (by omega) hq
          · rw [if_neg (show i ≠ k by omega)]
            by_cases e : j = k
            · rw [if_pos e]; exact (HGL.out i (by omega)).2
            · rw [if_neg e]; exact HG5.out.inj i j hij (by omega)
          · by_cases e : j = k
            · rw [if_pos e]; refine ⟨by omega, Nat.lt_of_lt_of_le hs5 hgr.size⟩
            · rw [if_neg e]; exact hG6.lo j (by omega)
      case measure => simp [intOf]; omega
    · have hkI : ¬ (k : Int) < (pss.length : Int) := by omega
      have hk2 : k = pss.length := by omega
      subst hk2
      have hgw : w.heap.size < wr.heap.size := by obtain ⟨c, hcc, _⟩ := HR.out; exact (Array.getElem?_eq_some_iff.1 hcc).1
      have HI := hidI (show IntSS wr (.slice (some ⟨w.heap.size, 0, none⟩) pss.length pss.length) pss from
        ⟨_, _, rfl, Nat.le_refl _, by unfold maxLen; omega, .inr ⟨w.heap.size, 0, rfl, hgw, fun j p hp => by
          have hj := (List.getElem?_eq_some_iff.1 hp).1
          obtain ⟨xs, ho, hx⟩ := HG.out.own j p hj hp
          obtain ⟨u0, hc0, hu0⟩ := Hc.out j p hp
          refine ⟨_, by rw [Nat.zero_add, HR.out.cell hj, HF.out j hj], ?_⟩
          have hgd : pss.getD j [] = p := by rw [List.getD_eq_getElem?_getD, hp]; rfl
          rw [hgd]
          rw [hx rfl] at ho
          exact (IntS.ofOwn ho hu0.1).2⟩⟩)
      clear hlt
      go_wp2_with fail
      go_ret
      exact ⟨rfl, HI.out, HB.out, gs, HR.out.congr (fun j hj => HF.out j hj), HG.out⟩

theorem quiet_drewE {P : Program} {f : FuncId} {args : Array Value} {w : World} {n : Nat} {v : Value} (h : Calls P f args (w.drewN n) fun e w' => e = .returned v ∧ ∃ m, w' = (w.drewN n).drewN m) : Calls P f args (w.drewN n) fun e w'' => e = .returned v ∧ ∃ m, w'' = w.drewN m :=
  h.mono fun _ _ ⟨he, m, hm⟩ => ⟨he, n + m, by rw [hm, World.drewN_drewN]⟩

theorem eqIntS_same (zs : List Int) (v u : Value) (w : World) (h : IntS w v zs) (hu : IntS w u zs) :
    Calls Try.prog 34 #[v, u] w fun e w' => e = .returned (.bool true) ∧ ∃ n, w' = w.drewN n :=
  (eqIntS_any zs zs v u w h hu).mono fun e w' ⟨he, hn⟩ => ⟨by rw [he]; simp, hn⟩

set_option maxHeartbeats 1000000 in
theorem eqIntSS_same (pss : List (List Int)) (v u : Value) (w : World) (h : IntSS w v pss) (h' : IntSS w u pss) :
    Calls Try.prog 35 #[v, u] w fun e w' => e = .returned (.bool true) ∧ ∃ n, w' = w.drewN n := by
  obtain ⟨ao, cap, rfl, c1, c2, c3⟩ := h
  obtain ⟨ao', cap', rfl, c1', c2', c3'⟩ := h'
  unfold maxLen at c2 c2'
  have hnn : ((pss.length : Int) != (pss.length : Int)) = false := by simp
  by_cases h0 : pss.length = 0
  · have hI : ¬ (0 : Int) < (pss.length : Int) := by omega
    clear c3 c3' h0
    go_enter Try.func35, Try.ntmps35
    go_wp2_with fail
    refine wp_loop_rounds 1 ?_
    rw [rounds_succ]
    go_wp2_with fail
    go_ret
    exact ⟨rfl, 0, rfl⟩
  rcases c3 with ⟨rfl, _⟩ | ⟨b, off, rfl, hb, hc⟩
  · exact absurd rfl h0
  rcases c3' with ⟨rfl, _⟩ | ⟨b', off', rfl, hb', hc'⟩
  · exact absurd rfl h0
  have Hc := hidI hc; have Hc' := hidI hc'; clear hc hc'
  go_enter Try.func35, Try.ntmps35
  go_wp2_with fail
  go_loopw [5] (fun i wr => ∃ (k m : Nat), k ≤ pss.length ∧ i = .int .i64 k ∧ Hid (wr = w.drewN m)) (fun i _ => pss.length - (intOf i).toNat)
  case atStart => exact ⟨0, 0, by omega, rfl, hidI rfl⟩
  case round =>
    obtain ⟨k, m, hk, rfl, HW⟩ := hrel
    by_cases hlt : k < pss.length
    · have hkI : (k : Int) < (pss.length : Int) := by omega
      obtain ⟨p, hp⟩ : ∃ p, pss[k]? = some p := ⟨_, List.getElem?_eq_getElem hlt⟩
      obtain ⟨x, hcx, hx⟩ := Hc.out k p hp
      obtain ⟨y, hcy, hy⟩ := Hc'.out k p hp
      have e1 : wr.cell? ⟨b, off + k, none⟩ = some x := by rw [HW.out]; exact hcx
      have e2 : wr.cell? ⟨b', off' + k, none⟩ = some y := by rw [HW.out]; exact hcy
      have HX := hidI (show ∀ n, IntS (wr.drewN n) x p from fun n => by rw [HW.out]; exact (hx.below (bdraw w m)).below (bdraw _ n))
      have HY := hidI (show ∀ n, IntS (wr.drewN n) y p from fun n => by rw [HW.out]; exact (hy.below (bdraw w m)).below (bdraw _ n))
      obtain ⟨_, xo, xc, rfl, _⟩ := id hx
      obtain ⟨_, yo, yc, rfl, _⟩ := id hy
      clear hp hcx hcy hx hy
      go_wp2_with fail
      go_quiet ((go_at_call 34; exact quiet_drewE (eqIntS_same p _ _ _ (HX.out _) (HY.out _))))
      go_wp2_with fail
      go_roundw
      case rel => exact ⟨k + 1, m + nq, by omega, by go_num, hidI (by rw [HW.out, World.drewN_drewN])⟩
      case measure => simp [intOf]; omega
    · have hkI : ¬ (k : Int) < (pss.length : Int) := by omega
      go_wp2_with fail
      go_ret
      exact ⟨rfl, m, HW.out⟩

theorem GRow.mono {w : World} {base g : Nat} {gs : Nat → Nat} {pss : List (List Int)} {k : Nat} (h : GRow w base g gs pss k true) : GRow w base g gs pss k false :=
  ⟨fun j p hj hp => by obtain ⟨xs, h1, _⟩ := h.own j p hj hp; exact ⟨xs, h1, fun e => by cases e⟩, h.inj, h.lo⟩

set_option maxHeartbeats 1000000 in
theorem markIntSS_any (pss : List (List Int)) (g base hi K : Nat) (gs : Nat → Nat) (w : World) (hr : w.rowIs g 24 pss.length (fun j => .slice (some ⟨gs j, 0, none⟩) (pss.getD j []).length (pss.getD j []).length))
    (hg : GRow w base g gs pss pss.length false) (hi' : ∀ j, j < pss.length → gs j < hi) (hK : K + tot pss ≤ 4000000) (hl : pss.length ≤ 4000000) :
    Calls Try.prog 36 #[.slice (some ⟨g, 0, none⟩) pss.length pss.length, .int .i64 (K : Int)] w fun e w' => (∃ k' : Nat, e = .returned (.int .i64 (k' : Int)) ∧ k' ≤ K + tot pss) ∧ Inside (g + 1) hi w w' := by
  have HR := hidI hr; have HG := hidI hg; have HH := hidI hi'; clear hr hg hi'
  go_enter Try.func36, Try.ntmps36
  go_wp2_with fail
  go_loopw [1, 5] (fun q i wr => ∃ (k z : Nat), k ≤ pss.length ∧ i = .int .i64 k ∧ q = .int .i64 z ∧ z ≤ 4000000 ∧ Hid (z = K + tot (pss.take k)) ∧ Hid (wr.rowIs g 24 pss.length (fun j => .slice (some ⟨gs j, 0, none⟩) (pss.getD j []).length (pss.getD j []).length)) ∧ Hid (GRow wr base g gs pss pss.length false) ∧ Hid (Inside (g + 1) hi w wr)) (fun _ i _ => pss.length - (intOf i).toNat)
  case atStart => exact ⟨0, K, by omega, rfl, rfl, by omega, hidI (by simp [tot]), HR, HG, hidI (Inside.refl _ _ _)⟩
  case round =>
    clear HR HG
    obtain ⟨k, z, hk, rfl, rfl, hz, HZ, HR, HG, HI⟩ := hrel
    by_cases hlt : k < pss.length
    · have hkI : (k : Int) < (pss.length : Int) := by omega
      obtain ⟨p, hp⟩ : ∃ p, pss[k]? = some p := ⟨_, List.getElem?_eq_getElem hlt⟩
      have hgd : pss.getD k [] = p := by rw [List.getD_eq_getElem?_getD, hp]; rfl
      have e1 : wr.cell? ⟨g, 0 + k, none⟩ = some (.slice (some ⟨gs k, 0, none⟩) p.length p.length) := by rw [Nat.zero_add, HR.out.cell hlt, hgd]
      rw [Nat.zero_add] at e1
      obtain ⟨xs, ho, _⟩ := HG.out.own k p hlt hp
      have HO := hidI ho
      have hzn : z + p.length ≤ 4000000 := by
        have h1 := HZ.out; have h2 := tot_take hp; have h3 := tot_take_le pss (k + 1); omega
      have HZ2 := hidI (show z + p.length = K + tot (pss.take (k + 1)) by rw [HZ.out, tot_take hp]; omega)
      have hgl := HG.out.lo k hlt
      have hgh := HH.out k hlt
      clear hp hgd ho
      go_wp2_with fail
      refine (markIntS_any p.length xs base _ z _ HO.out (by omega) (by omega)).mono ?_; rintro e w5 ⟨rfl, o5, g5⟩
      have g5 : wr.grownBy w5 (some (gs k)) := g5
      have hgw : g < wr.heap.size := by omega
      have HR5 := hidI (World.rowIs.of_block HR.out (g5.block g hgw (fun e => by injection e with e; omega)))
      have HG5 := hidI (show GRow w5 base g gs pss pss.length false from
        ⟨fun j q hj hq => by
          by_cases e : j = k
          · subst e
            obtain ⟨xs', ho', _⟩ := HG.out.own j q hj hq
            have hpq : p.length = q.length := by
              have h1 := HR.out.cell hj
              have h2 : pss.getD j [] = q := by rw [List.getD_eq_getElem?_getD, hq]; rfl
              rw [e1, h2] at h1
              injection h1 with h1; injection h1
            rw [hpq] at o5
            exact ⟨_, o5, fun e => by cases e⟩
          · obtain ⟨xs', ho', _⟩ := HG.out.own j q hj hq
            refine ⟨xs', own_grown ho' g5 (fun i hi => ?_), fun e => by cases e⟩
            simp only [Value.ownBlock] at hi; injection hi with hi; subst hi
            intro e'
            rcases Nat.lt_or_gt_of_ne e with h | h
            · have := HG.out.inj j k h hlt; omega
            · have := HG.out.inj k j h hj; omega, HG.out.inj, fun j hj => ⟨(HG.out.lo j hj).1, Nat.lt_of_lt_of_le (HG.out.lo j hj).2 g5.size⟩⟩)
      have HI5 := hidI (HI.out.trans (Inside.grown g5 (by omega) hgh))
      have hcast : ((z : Int) + (p.length : Int)) = ((z + p.length : Nat) : Int) := by omega
      rw [hcast]
      clear o5 g5 hcast
      go_wp2_with fail
      go_roundw
      case rel => exact ⟨k + 1, z + p.length, by omega, by go_num, rfl, hzn, HZ2, HR5, HG5, HI5⟩
      case measure => simp [intOf]; omega
    · have hkI : ¬ (k : Int) < (pss.length : Int) := by omega
      have HF := hidI (show z ≤ K + tot pss by have := HZ.out; rw [List.take_of_length_le (by omega)] at this; omega)
      go_wp2_with fail
      go_ret
      exact ⟨⟨z, rfl, HF.out⟩, HI.out⟩
end Go.Proofs.Ytmmggbcmailbiaa
