/- The draws of permutations and generators: l20Perm, l20Moves. -/
import Derived.Test.YtmmggbcmailbiaaDraw
import Derived.Test.YtmmggbcmailbiaaGA
namespace Go.Proofs.Ytmmggbcmailbiaa
open Go.RowKit Grp

theorem IntS.drop {w : World} {b off n cap : Nat} {zs : List Int} (h : IntS w (.slice (some ⟨b, off, none⟩) n cap) zs) {m : Nat} (hm : m ≤ n) : IntS w (.slice (some ⟨b, off + m, none⟩) (n - m) (cap - m)) (zs.drop m) := by
  obtain ⟨hz, ao, cap', e, h1, h2, h3⟩ := h
  injection e with e1 e2 e3
  subst e1; subst e3
  refine ⟨fun z hz' => hz z (List.mem_of_mem_drop hz'), _, _, by rw [List.length_drop, e2], by rw [List.length_drop]; omega, by omega, ?_⟩
  rcases h3 with ⟨h3, _⟩ | ⟨b', off', e, h4, h5⟩
  · subst h3; exact .inl ⟨by simp, fun e => by cases e⟩
  · injection e with e; injection e with e1 e2 _
    subst e1; subst e2
    refine .inr ⟨b, off + m, rfl, h4, fun j hj => ?_⟩
    rw [List.length_drop] at hj
    rw [show off + m + j = off + (m + j) by omega, h5 (m + j) (by omega)]
    simp [List.getD_eq_getElem?_getD, List.getElem?_drop]

theorem OutS.cut {w : World} {base g n cap m : Nat} (h : OutS w base g n cap) (hm : m ≤ n) : OutS w base g m cap := by
  obtain ⟨zs, h1, h2, h3⟩ := h
  exact ⟨zs.take m, by simp; omega, fun z hz => h2 z (List.mem_of_mem_take hz), by rw [List.map_take]; exact own_cut h3 hm⟩

theorem OutS.capLe {w : World} {base g n cap : Nat} (h : OutS w base g n cap) : n ≤ cap ∧ cap ≤ maxLen := by
  obtain ⟨zs, h1, h2, h3⟩ := h
  exact ⟨(own_lt h3).2.2.1, (own_lt h3).2.2.2⟩

set_option maxHeartbeats 2000000 in
theorem spec_l20Perm (r N : Nat) (p : Nat) (m : Int) (w : World) (h : RdOk w r N) (hN : N ≤ 900000) (hp : p ≤ 100) (hm : 0 ≤ m) (hm2 : m ≤ 1000) :
    Calls Try.prog 77 #[.pointer (some ⟨r, 0, none⟩), .int .i64 (p : Int), .int .i64 m] w fun e w' => ∃ g n cap, e = .returned (.slice (some ⟨g, 0, none⟩) n cap) ∧ n ≤ 200 ∧ (m = 0 → n = p) ∧ OutS w' w.heap.size g n cap ∧ RdOk w' r (N + p + 2) ∧ w.grownBy w' (some r) := by
  have H := hidI h; have hlt := h.lt; clear h
  have HS0 := hidI (OutS.new (w := w) (base := w.heap.size) [] (by simp) (Nat.le_refl _) (by simp))
  have HR0 := hidI (H.out.below ((Below.refl _ _).alloc (Nat.le_refl _) (.cells #[] 3)))
  have HG0 := hidI (grown_alloc w (.cells #[] 3) (some r))
  go_enter Try.func77, Try.ntmps77
  go_wp2_with fail
  go_loopw [7, 8] (fun vo vk wr => ∃ (k g c : Nat), k ≤ p ∧ vk = .int .i64 (k : Int) ∧ vo = .slice (some ⟨g, 0, none⟩) k c ∧ Hid (OutS wr w.heap.size g k c) ∧ Hid (RdOk wr r (N + k)) ∧ Hid (w.grownBy wr (some r))) (fun _ vk _ => p - (intOf vk).toNat)
  case atStart => exact ⟨0, _, _, by omega, rfl, rfl, HS0, HR0, HG0⟩
  case round =>
    clear HS0 HR0 HG0 H
    obtain ⟨k, g, c, hk, rfl, rfl, HO, HR, HG⟩ := hrel
    by_cases hkp : k < p
    · have hkI : (k : Int) < (p : Int) := by omega
      go_wp2_with fail
      refine (spec_pickI r (N + k) ((k : Int) + 1) _ HR.out (by omega) (by omega) (by omega)).mono ?_; rintro e w1 ⟨at1, rfl, hat, r1, g1⟩
      have hat' : at1 ≤ k := by omega
      have hatI : (at1 : Int) ≤ (k : Int) := by omega
      have O1 := hidI (HO.out.grown g1 hlt); have R1 := hidI r1; have G1 := hidI (grown_trans HG.out g1)
      have hs1 := G1.out.size
      have hgl := O1.out.lt
      have hcl := O1.out.capLe
      unfold maxLen at hcl
      obtain ⟨hcl1, hcl2⟩ := hcl
      have hatc : (at1 : Int) ≤ (c : Int) := by omega
      obtain ⟨zs, hzl, hzi⟩ := O1.out.ints
      have HZ := hidI (hzi.drop hat')
      have HZL := hidI hzl
      clear r1 g1 hzi HO HR HG hzl
      have O1' := hidI (O1.out.alloc (.cells #[] 3)); have R1' := hidI (R1.out.below ((Below.refl _ _).alloc (Nat.le_refl _) (.cells #[] 3)))
      have hz' : IntS (w1.alloc (.cells #[] 3)) (.slice (some ⟨g, at1, none⟩) (k - at1) (c - at1)) (zs.drop at1) := by
        have := HZ.out.below ((Below.refl w1.heap.size w1).alloc (Nat.le_refl _) (.cells #[] 3))
        rw [Nat.zero_add] at this; exact this
      have HZ' := hidI hz'; clear hz'
      have HON := hidI (OutS.new (w := w1) (base := w1.heap.size) [] (by simp) (Nat.le_refl _) (by simp))
      by_cases hac : at1 = c
      · subst hac
        have hka : k = at1 := by omega
        subst hka
        have HN := hidI (show IntS (w1.alloc (.cells #[] 3)) (.slice (some ⟨g, 0, none⟩) 0 0) [] from ⟨by simp, _, _, rfl, by simp, by simp, .inl ⟨rfl, fun e => by cases e⟩⟩)
        clear HZ HZ'
        have O2' := hidI (show OutS (w1.alloc (.cells #[] 3)) w.heap.size g k k from O1'.out)
        have R2 := R1'
        have G2 := hidI (grown_new G1.out (grown_alloc w1 (.cells #[] 3) (some w1.heap.size)) (by omega))
        have hz1 : (w1.alloc (.cells #[] 3)).heap.size = w1.heap.size + 1 := by simp
        have HK2 := hidI (ints_new (w1.alloc (.cells #[] 3)) [(k : Int)] (i64_one (i64_small (by omega))) (by simp))
        rw [hz1] at HK2
        go_wp2_with (at_builtin; refine wpList_appendO _ rfl _ _ rfl w.heap.size g k k (.slice (some ⟨w1.heap.size + 1, 0, none⟩) 1 1) [(k : Int)] rfl rfl (O2'.out.alloc _) (HK2.out) (by simp; omega) (by simp; omega) ?_)
        intro n3 g3 c3 w3 hn3 hn3' o3 gr3
        have hn3k : n3 = k + 1 := by have e1 : [(k : Int)].length = 1 := rfl; omega
        subst hn3k
        have O3 := hidI o3
        have hs3 := gr3.size
        rw [World.size_alloc] at hs3
        have R3 := hidI ((R2.out.below ((Below.refl _ _).alloc (Nat.le_refl _) (.cells #[.int .i64 (k : Int)] 3))).grown gr3 (by omega))
        have G3 := hidI (grown_new (grown_new G2.out (grown_alloc _ (.cells #[.int .i64 (k : Int)] 3) (some w1.heap.size)) (by omega)) gr3 (by omega))
        clear o3 gr3
        have HY := hidI (show IntS w3 (.slice (some ⟨w1.heap.size, 0, none⟩) 0 0) [] from ⟨by simp, _, _, rfl, by simp, by simp, .inl ⟨rfl, fun e => by cases e⟩⟩)
        obtain ⟨ys, hys⟩ : ∃ ys : List Int, ys = [] := ⟨_, rfl⟩
        rw [← hys] at HY
        have HYL := hidI (show ys.length = 0 by rw [hys]; rfl)
        clear hys
        go_wp2_with (at_builtin; refine wpList_appendO _ rfl _ _ rfl w.heap.size g3 (k + 1) c3 (.slice (some ⟨w1.heap.size, 0, none⟩) 0 0) ys rfl rfl O3.out HY.out (by rw [HYL.out]; omega) (by omega) ?_)
        intro n4 g4 c4 w4 hn4 hn4' o4 gr4
        have hn4k : n4 = k + 1 := by have := HYL.out; omega
        subst hn4k
        have O4 := hidI o4
        have hg3 := O3.out.lt
        have R4 := hidI (R3.out.grown gr4 (by omega))
        have G4 := hidI (grown_new G3.out gr4 (by omega))
        clear o4 gr4
        go_wp2_with fail
        go_roundw
        case rel => exact ⟨k + 1, g4, c4, by omega, by go_num, rfl, O4, hidI (by rw [← Nat.add_assoc]; exact R4.out), G4⟩
        case measure => simp [intOf]; omega
      · go_wp2_with (at_builtin; refine wpList_appendO _ rfl _ _ rfl w1.heap.size w1.heap.size 0 0 (.slice (some ⟨g, at1, none⟩) (k - at1) (c - at1)) (zs.drop at1) rfl rfl HON.out HZ'.out (by rw [List.length_drop, HZL.out]; omega) (by simp) ?_)
        intro n2 g2 c2 w2 hn2 hn2' o2 gr2
        have hn2k : n2 = k - at1 := by have := HZL.out; omega
        subst hn2k
        have O2 := hidI o2
        have R2 := hidI (R1'.out.grown gr2 (by omega))
        have G2 := hidI (grown_new (grown_new G1.out (grown_alloc w1 (.cells #[] 3) (some w1.heap.size)) (by omega)) gr2 (by omega))
        have O2' := hidI ((O1'.out.other gr2 (by omega)).cut hat')
        have hs2 := G2.out.size
        have hs12 := gr2.size
        rw [World.size_alloc] at hs12
        have hg2 := O2.out.lt
        clear gr2 o2 O1' R1'
        have HK2 := hidI (ints_new w2 [(k : Int)] (i64_one (i64_small (by omega))) (by simp))
        go_wp2_with (at_builtin; refine wpList_appendO _ rfl _ _ rfl w.heap.size g at1 c (.slice (some ⟨w2.heap.size, 0, none⟩) 1 1) [(k : Int)] rfl rfl (O2'.out.alloc _) (HK2.out) (by simp; omega) (by simp; omega) ?_)
        intro n3 g3 c3 w3 hn3 hn3' o3 gr3
        have hn3k : n3 = at1 + 1 := by have e1 : [(k : Int)].length = 1 := rfl; omega
        subst hn3k
        have O3 := hidI o3
        have hs3 := gr3.size
        rw [World.size_alloc] at hs3
        have R3 := hidI ((R2.out.below ((Below.refl _ _).alloc (Nat.le_refl _) (.cells #[.int .i64 (k : Int)] 3))).grown gr3 (by omega))
        have G3 := hidI (grown_new (grown_new G2.out (grown_alloc _ (.cells #[.int .i64 (k : Int)] 3) (some w1.heap.size)) (by omega)) gr3 (by omega))
        obtain ⟨ys, hyl, hyi⟩ := ((O2.out.alloc (.cells #[.int .i64 (k : Int)] 3)).other gr3 (by omega)).ints
        have HY := hidI hyi; have HYL := hidI hyl
        clear hyi hyl
        clear o3 gr3
        go_wp2_with (at_builtin; refine wpList_appendO _ rfl _ _ rfl w.heap.size g3 (at1 + 1) c3 (.slice (some ⟨g2, 0, none⟩) (k - at1) c2) ys rfl rfl O3.out HY.out (by rw [HYL.out]; omega) (by omega) ?_)
        intro n4 g4 c4 w4 hn4 hn4' o4 gr4
        have hn4k : n4 = k + 1 := by have := HYL.out; omega
        subst hn4k
        have O4 := hidI o4
        have hg3 := O3.out.lt
        have R4 := hidI (R3.out.grown gr4 (by omega))
        have G4 := hidI (grown_new G3.out gr4 (by omega))
        clear o4 gr4
        go_wp2_with fail
        go_roundw
        case rel => exact ⟨k + 1, g4, c4, by omega, by go_num, rfl, O4, hidI (by rw [← Nat.add_assoc]; exact R4.out), G4⟩
        case measure => simp [intOf]; omega
    · have hkI : ¬ (k : Int) < (p : Int) := by omega
      have hk2 : k = p := by omega
      subst hk2
      clear hkp hk
      go_wp2_with fail
      refine (spec_odd r (N + k) m _ HR.out (by omega) (by omega) (by omega)).mono ?_; rintro e w1 ⟨b, rfl, r1, g1, hb0⟩
      have O1 := hidI (HO.out.grown g1 hlt); have R1 := hidI r1; have G1 := hidI (grown_trans HG.out g1)
      have hs1 := G1.out.size
      have HB0 := hidI hb0
      clear r1 g1 hb0 HO HR HG
      cases b
      · go_wp2_with fail
        go_ret
        exact ⟨g, k, c, rfl, by omega, fun _ => rfl, O1.out, R1.out.mono (by omega), G1.out⟩
      have hm0 : m ≠ 0 := fun e => by have := HB0.out e; cases this
      clear HB0
      go_wp2_with fail
      refine (spec_pickI r (N + k + 1) 3 _ R1.out (by omega) (by omega) (by omega)).mono ?_; rintro e w2 ⟨j, rfl, hj, r2, g2⟩
      have O2 := hidI (O1.out.grown g2 hlt); have R2 := hidI r2; have G2 := hidI (grown_trans G1.out g2)
      have hs2 := G2.out.size
      clear r2 g2 O1 R1 G1
      by_cases j0 : j = 0
      · subst j0
        go_wp2_with fail
        go_ret
        exact ⟨w2.heap.size, 0, 0, rfl, by omega, fun e => absurd e hm0, OutS.new [] (by simp) (by omega) (by simp), (R2.out.below ((Below.refl _ _).alloc (Nat.le_refl _) _)).mono (by omega), grown_new G2.out (grown_alloc w2 _ (some w2.heap.size)) (by omega)⟩
      have e0 : ((j : Int) == 0) = false := by simp; omega
      by_cases j1 : j = 1
      · subst j1
        have HK2 := hidI (ints_new w2 [0] (i64_one (i64_of (by omega) (by omega))) (by simp))
        have hog := O2.out.lt
        go_wp2_with (at_builtin; refine wpList_appendO _ rfl _ _ rfl w.heap.size g k c (.slice (some ⟨w2.heap.size, 0, none⟩) 1 1) [0] rfl rfl (O2.out.alloc _) (HK2.out) (by simp; omega) (by simp; omega) ?_)
        intro n3 g3 c3 w3 hn3 hn3' o3 gr3
        have hn3k : n3 = k + 1 := by have e1 : [(0 : Int)].length = 1 := rfl; omega
        have O3 := hidI o3
        have R3 := hidI ((R2.out.below ((Below.refl _ _).alloc (Nat.le_refl _) (.cells #[.int .i64 0] 3))).grown gr3 (by omega))
        have G3 := hidI (grown_new (grown_new G2.out (grown_alloc _ (.cells #[.int .i64 0] 3) (some w2.heap.size)) (by omega)) gr3 (by omega))
        clear gr3 o3 hn3 hn3'
        go_wp2_with fail
        go_ret
        exact ⟨g3, n3, c3, rfl, by omega, fun e => absurd e hm0, O3.out, R3.out.mono (by omega), G3.out⟩
      have e1 : ((j : Int) == 1) = false := by simp; omega
      go_wp2_with fail
      go_ret
      exact ⟨w2.heap.size, 2, 2, rfl, by omega, fun e => absurd e hm0, OutS.new [0, 2] (i64_two (i64_of (by omega) (by omega)) (i64_of (by omega) (by omega))) (by omega) (by simp), (R2.out.below ((Below.refl _ _).alloc (Nat.le_refl _) _)).mono (by omega), grown_new G2.out (grown_alloc w2 _ (some w2.heap.size)) (by omega)⟩

/-- The reader's turn leaves a row of rows. -/
theorem RowsOwn.reader {w w' : World} {base r N : Nat} {v : Value} {us : List Value} {pss : List (List Int)} (h : RowsOwn w base v us pss) (hr : RdOk w r N) (hb : r < base) (hg : w.grownBy w' (some r)) : RowsOwn w' base v us pss := by
  refine h.other hg (fun e => by have := (h.1.lt r e).1; omega) (fun u hu e => ?_)
  obtain ⟨j, hj⟩ := List.getElem?_of_mem hu
  have hlt : j < pss.length := by rw [← h.len]; exact (List.getElem?_eq_some_iff.1 hj).1
  obtain ⟨c, fr, hc⟩ := (h.2 j u _ hj (List.getElem?_eq_getElem hlt)).2 r e
  obtain ⟨_, n, p, h1, _⟩ := hr
  rw [hc] at h1
  injection h1 with h1; injection h1 with _ h1; exact absurd h1 (by decide)

theorem OutS.el {w : World} {base g n cap : Nat} (h : OutS w base g n cap) : ∃ zs, zs.length = n ∧ El w (.slice (some ⟨g, 0, none⟩) n cap) zs := by
  obtain ⟨zs, h1, h2, h3⟩ := h
  subst h1
  exact ⟨zs, rfl, El.ofOwn h3 h2⟩

/-- Numbers of the call's own are such a row. -/
theorem OutS.ofOwn {w : World} {base : Nat} {v : Value} {zs : List Int} (h : w.ownsRow base 3 1 v zs.length (zs.map (Value.int .i64))) (hz : ∀ z ∈ zs, I64 z) (h1 : 1 ≤ zs.length) : ∃ g cap, v = .slice (some ⟨g, 0, none⟩) zs.length cap ∧ OutS w base g zs.length cap := by
  obtain ⟨g, cap, rfl, _⟩ := own_shape h (by rintro rfl; rcases h.2 with ⟨_, e⟩ | ⟨g, cap, cur, e, _⟩; (· omega); (· cases e))
  exact ⟨g, cap, rfl, zs, rfl, hz, h⟩

theorem rows_oneCell {w : World} {us : List Value} {pss : List (List Int)} (hl : us.length = pss.length) (h : ∀ (j : Nat) (u : Value) (p : List Int), us[j]? = some u → pss[j]? = some p → El w u p) : ∀ u ∈ us, u.oneCell' = true := by
  intro u hu
  obtain ⟨j, hj⟩ := List.getElem?_of_mem hu
  have hlt : j < pss.length := by rw [← hl]; exact (List.getElem?_eq_some_iff.1 hj).1
  exact slice_one (h j u _ hj (List.getElem?_eq_getElem hlt))

/-- 'append(v, x...)' of rows. -/
theorem wpList_appendRR (w : World) {ops : Array Oper} {rest : List Oper} {o : Oper} {a : Act} {Q : Exit → Act → World → Prop} (hgd : o.guard = none) (s x : Operand)
    (ho : o.op = .call { callee := .builtin .append, args := #[s, x], argTypes := #[23, 23] })
    (base : Nat) (v : Value) (us : List Value) (pss : List (List Int)) (b off cap2 : Nat) (us2 : List Value) (pss2 : List (List Int)) (hs : a.eval s = v) (hx : a.eval x = .slice (some ⟨b, off, none⟩) pss2.length cap2)
    (hown : RowsOwn w base v us pss) (hl2 : us2.length = pss2.length) (hc2 : ∀ j u, us2[j]? = some u → w.cell? ⟨b, off + j, none⟩ = some u) (he2 : ∀ (j : Nat) (u : Value) (p : List Int), us2[j]? = some u → pss2[j]? = some p → El w u p) (hn : pss.length + pss2.length ≤ 100000000) (hbase : base ≤ w.heap.size)
    (h : ∀ v' w', RowsOwn w' base v' (us ++ us2) (pss ++ pss2) → w.grownBy w' v.ownBlock → (v' = .slice none 0 0 ↔ v = .slice none 0 0 ∧ pss2.length = 0) →
      wpList Try.prog ops Q rest (a.put o.dst v') w') : wpList Try.prog ops Q (o :: rest) a w := by
  obtain ⟨i, hi, hz, hsz, hby⟩ := info_parts infoRows
  refine wpList_append_own _ hgd s x 23 ho base 24 i (.slice none 0 0) 1 24 Try.underlying23 hi hz hsz hby rfl (by decide) v pss.length us hs hown.1 ⟨b, off, none⟩ pss2.length cap2 us2 hx (by omega) ?_ (rows_oneCell hl2 he2) ?_ ?_ hbase ?_
  · intro j u hj; rw [Addr.add_lit]; exact hc2 j u hj
  · unfold maxLen; omega
  · omega
  · intro v' w' ho' hg hnil
    refine h v' w' ⟨by rw [List.length_append]; exact ho', ?_⟩ hg hnil
    intro j u p hj hp
    have hk : ∀ {u : Value} {p : List Int}, El w u p → El w' u p := fun he => by
      cases e : v.ownBlock with
      | none => rw [e] at hg; exact he.kept hg (fun k _ e => by cases e)
      | some gv => rw [e] at hg; exact he.keptT hg (row_not_int hown.1 e)
    rcases Nat.lt_or_ge j us.length with hlt | hge
    · rw [List.getElem?_append_left hlt] at hj
      rw [List.getElem?_append_left (by rw [← hown.len]; exact hlt)] at hp
      exact hk (hown.2 j u p hj hp)
    · rw [List.getElem?_append_right hge] at hj
      rw [List.getElem?_append_right (by rw [← hown.len]; exact hge), ← hown.len] at hp
      exact hk (he2 _ u p hj hp)

theorem OutS.below {w w' : World} {base g n cap : Nat} (h : OutS w base g n cap) (hb : Below w.heap.size w w') : OutS w' base g n cap := by
  obtain ⟨zs, h1, h2, h3⟩ := h
  exact ⟨zs, h1, h2, own_below h3 hb⟩

theorem grown_then {a b c : World} {r : Nat} (h : a.grownBy b (some r)) (k : Below b.heap.size b c) : a.grownBy c (some r) :=
  ⟨k.os.trans h.os, k.tape.trans h.tape, k.output.trans h.output, Nat.le_trans h.size k.size, fun i hi hr => (k.block i (Nat.lt_of_lt_of_le hi h.size)).trans (h.block i hi hr)⟩

/-- What a draw of generators gives. -/
def DrawnM (w w' : World) (r N : Nat) (e : Ending) : Prop := ∃ (q : Int) (g c : Nat) (us : List Value) (pss : List (List Int)), e = .returned (.tuple #[.int .i64 q, .slice (some ⟨g, 0, none⟩) pss.length c]) ∧ 0 ≤ q ∧ q ≤ 5 ∧ pss.length ≤ 6 ∧ (∀ p ∈ pss, p.length ≤ 200) ∧
  RowsOwn w' w.heap.size (.slice (some ⟨g, 0, none⟩) pss.length c) us pss ∧ RdOk w' r (N + 200) ∧ w.grownBy w' (some r)

set_option maxRecDepth 100000 in
set_option maxHeartbeats 4000000 in
theorem spec_l20Moves (r N : Nat) (m : Int) (w : World) (h : RdOk w r N) (hN : N ≤ 800000) (hm : 0 ≤ m) (hm2 : m ≤ 1000) :
    Calls Try.prog 76 #[.pointer (some ⟨r, 0, none⟩), .int .i64 m] w fun e w' => DrawnM w w' r N e := by
  have H := hidI h; have hlt := h.lt; clear h
  go_enter Try.func76, Try.ntmps76
  go_wp2_with fail
  refine (spec_pickI r N 5 _ H.out (by omega) (by omega) (by omega)).mono ?_; rintro e w1 ⟨q0, rfl, hq0, r1, g1⟩
  have R1 := hidI r1; have G1 := hidI g1; have hs1 := g1.size
  obtain ⟨q, hq⟩ : ∃ q : Nat, q = q0 + 1 := ⟨_, rfl⟩
  have hqI : (1 : Int) + (q0 : Int) = (q : Int) := by omega
  have hq1 : 1 ≤ q := by omega
  have hq5 : q ≤ 5 := by omega
  clear r1 g1 H hq
  have HR2 := hidI ((RowsOwn.made w1).base hs1)
  have R2 := hidI (R1.out.below ((Below.refl _ _).alloc (Nat.le_refl _) (.cells #[] 24)))
  have G2 := hidI (grown_new G1.out (grown_alloc w1 (.cells #[] 24) (some w1.heap.size)) hs1)
  have hs2 := G2.out.size
  go_wp2_with fail
  refine (spec_pickI r (N + 1) 4 _ R2.out (by omega) (by omega) (by omega)).mono ?_; rintro e w3 ⟨k0, rfl, hk0, r3, g3⟩
  have R3 := hidI r3; have G3 := hidI (grown_trans G2.out g3)
  have HR3 := hidI (HR2.out.reader R2.out (by omega) g3)
  clear r3 g3 HR2 R2 G2 R1 G1
  go_wp2_with fail
  go_loopw [7, 8] (fun vm vk wr => ∃ (k g c : Nat) (us : List Value) (pss : List (List Int)), vm = .slice (some ⟨g, 0, none⟩) pss.length c ∧ vk = .int .i64 (k : Int) ∧ k ≤ 3 ∧ pss.length + k ≤ 3 ∧ Hid (RowsOwn wr w.heap.size (.slice (some ⟨g, 0, none⟩) pss.length c) us pss) ∧ Hid (∀ x ∈ pss, x.length ≤ 200) ∧ Hid (RdOk wr r (N + 100 - 20 * k)) ∧ Hid (w.grownBy wr (some r))) (fun _ vk _ => (intOf vk).toNat)
  case atStart => exact ⟨k0, _, _, [], [], rfl, rfl, by omega, by simp; omega, HR3, hidI (by simp), hidI (R3.out.mono (by omega)), G3⟩
  case round =>
    clear HR3 R3 G3
    obtain ⟨k, g, c, us, pss, rfl, rfl, hk, hpk, RM, HLL, RR, GG⟩ := hrel
    have hgl := RM.out.lt rfl
    obtain ⟨hgl1, hgl2, hgl3, hgl4⟩ := hgl
    have hsg := GG.out.size
    have hrw : r < wr.heap.size := by omega
    rcases k with _ | k
    rotate_left
    · have hkI : (0 : Int) < ((k + 1 : Nat) : Int) := by omega
      go_wp2_with fail
      refine (spec_l20Perm r (N + 100 - 20 * (k + 1)) q 0 _ RR.out (by omega) (by omega) (by omega) (by omega)).mono ?_; rintro e w5 ⟨gp, n, cap, rfl, -, hnq, o5, r5, g5⟩
      obtain rfl : n = q := hnq rfl
      obtain ⟨q, rfl⟩ : ∃ q' : Nat, q' = n := ⟨_, rfl⟩
      have O5 := hidI o5; have R5 := hidI r5; have G5 := hidI g5
      clear o5 r5 g5 hnq
      go_wp2_with fail
      refine (spec_pickI r _ 3 _ R5.out (by omega) (by omega) (by omega)).mono ?_; rintro e w6 ⟨j, rfl, hj, r6, g6⟩
      have O6 := hidI (O5.out.grown g6 hrw); have R6 := hidI r6; have G6 := hidI (grown_trans G5.out g6)
      have hs6 := G6.out.size
      clear r6 g6 O5 R5 G5
      by_cases j0 : j = 0
      · subst j0
        clear O6
        go_wp2_with fail
        refine (spec_PermNone q w6 hq1 hq5).mono ?_; rintro e w7 ⟨vn, rfl, o7, b7⟩
        have hlq : (up (idP q)).length = q := by rw [up_len, (isP_id q).len]
        obtain ⟨gp, cap, rfl, o7'⟩ := OutS.ofOwn o7 (up_I64 (isP_id q) hq5) (by omega)
        have hs7 := b7.size
        have O7 := hidI (show OutS w7 w6.heap.size gp q cap by rw [hlq] at o7'; exact o7')
        have R7 := hidI (R6.out.below b7); have G7 := hidI (grown_then G6.out b7)
        rw [hlq]
        clear o7 o7' b7 R6 G6 hlq
        go_wp2_with fail
        refine (spec_pickI r _ q _ R7.out (by omega) (by omega) (by omega)).mono ?_; rintro e w8 ⟨a, rfl, ha, r8, g8⟩
        have O8 := hidI (O7.out.grown g8 (by omega)); have R8 := hidI r8; have G8 := hidI (grown_trans G7.out g8)
        have hs8 := G8.out.size
        clear r8 g8 O7 R7 G7
        go_wp2_with fail
        refine (spec_pickI r _ q _ R8.out (by omega) (by omega) (by omega)).mono ?_; rintro e w9 ⟨b, rfl, hb, r9, g9⟩
        have O9 := hidI (O8.out.grown g9 (by omega)); have R9 := hidI r9; have G9 := hidI (grown_trans G8.out g9)
        have hs9 := G9.out.size
        clear r9 g9 O8 R8 G8
        have hgpl := O9.out.lt
        have hcl := O9.out.capLe
        unfold maxLen at hcl
        obtain ⟨hcl1, hcl2⟩ := hcl
        obtain ⟨⟨z1, _, hc1⟩, hf1⟩ := O9.out.cell (i := a) (by omega)
        have O10 := hidI (O9.out.put a (b : Int) (i64_small (by omega)))
        have R10 := hidI (R9.out.grown (grown_setCell w9 gp a (.int .i64 (b : Int))) (by omega))
        have G10 := hidI (grown_new G9.out (grown_setCell w9 gp a (.int .i64 (b : Int))) (by omega))
        obtain ⟨w10, hw10⟩ : ∃ x, x = w9.setCell ⟨gp, a, none⟩ (.int .i64 (b : Int)) := ⟨_, rfl⟩
        rw [← hw10] at O10 R10 G10
        have HW10 := hidI hw10
        obtain ⟨⟨z2, _, hc2⟩, hf2⟩ := O10.out.cell (i := b) (by omega)
        have O11 := hidI (O10.out.put b (a : Int) (i64_small (by omega)))
        have R11 := hidI (R10.out.grown (grown_setCell w10 gp b (.int .i64 (a : Int))) (by omega))
        have G11 := hidI (grown_new G10.out (grown_setCell w10 gp b (.int .i64 (a : Int))) (by omega))
        obtain ⟨w11, hw11⟩ : ∃ x, x = w10.setCell ⟨gp, b, none⟩ (.int .i64 (a : Int)) := ⟨_, rfl⟩
        rw [← hw11] at O11 R11 G11
        have HW11 := hidI hw11
        obtain ⟨⟨z3, _, hc3⟩, hf3⟩ := O11.out.cell (i := a) (by omega)
        clear O9 R9 G9
        subst hw10
        subst hw11
        by_cases hab : a = b
        · subst hab
          have O12 := hidI (O11.out.put a (a : Int) (i64_small (by omega)))
          have R12 := hidI (R11.out.grown (grown_setCell _ gp a (.int .i64 (a : Int))) (by omega))
          have G12 := hidI (grown_new G11.out (grown_setCell _ gp a (.int .i64 (a : Int))) (by omega))
          have haa : ((a : Int) == (a : Int)) = true := by simp
          obtain ⟨zs, hzl, hze⟩ := O12.out.el
          have HZE := hidI hze; have HZL := hidI hzl; clear hze hzl
          have RMW := hidI (RM.out.reader RR.out hlt G12.out)
          have hsw := G12.out.size
          go_wp2_with (at_builtin; refine wpList_pushR (((w9.setCell ⟨gp, a, none⟩ (.int .i64 (a : Int))).setCell ⟨gp, a, none⟩ (.int .i64 (a : Int))).setCell ⟨gp, a, none⟩ (.int .i64 (a : Int))) rfl _ _ rfl w.heap.size (.slice (some ⟨g, 0, none⟩) pss.length c) us pss (.slice (some ⟨gp, 0, none⟩) q cap) zs rfl (by simp only [World.size_setCell]; rfl) RMW.out HZE.out (by omega) (by omega) ?_)
          intro gn cn wn hgn rpn hbn hgrn hln
          have hgrn : ((((w9.setCell ⟨gp, a, none⟩ (.int .i64 (a : Int))).setCell ⟨gp, a, none⟩ (.int .i64 (a : Int))).setCell ⟨gp, a, none⟩ (.int .i64 (a : Int))).alloc (.cells #[.slice (some ⟨gp, 0, none⟩) q cap] 24)).grownBy wn (some g) := hgrn
          have RPN := hidI rpn
          have RN := hidI ((R12.out.below ((Below.refl _ _).alloc (Nat.le_refl _) (.cells #[.slice (some ⟨gp, 0, none⟩) q cap] 24))).grown hgrn (by omega))
          have GN := hidI (grown_new (grown_new (grown_trans GG.out G12.out) (grown_alloc (((w9.setCell ⟨gp, a, none⟩ (.int .i64 (a : Int))).setCell ⟨gp, a, none⟩ (.int .i64 (a : Int))).setCell ⟨gp, a, none⟩ (.int .i64 (a : Int))) (.cells #[.slice (some ⟨gp, 0, none⟩) q cap] 24) (some (((w9.setCell ⟨gp, a, none⟩ (.int .i64 (a : Int))).setCell ⟨gp, a, none⟩ (.int .i64 (a : Int))).setCell ⟨gp, a, none⟩ (.int .i64 (a : Int))).heap.size)) (by omega)) hgrn (by omega))
          have HLN := hidI (show ∀ x ∈ pss ++ [zs], x.length ≤ 200 from fun x hx => by
            rcases List.mem_append.1 hx with hx | hx
            · exact HLL.out x hx
            · rw [List.mem_singleton.1 hx, HZL.out]; omega)
          clear rpn hbn hgrn hln
          go_wp2_with fail
          go_roundw
          case rel => exact ⟨k, gn, cn, us ++ [.slice (some ⟨gp, 0, none⟩) q cap], pss ++ [zs], by rw [List.length_append]; rfl, by first | go_num | exact congrArg (Value.int .i64) (by omega), by omega, by rw [List.length_append]; show pss.length + 1 + k ≤ 3; omega, hidI (by rw [List.length_append]; exact RPN.out), HLN, hidI (RN.out.mono (by omega)), GN⟩
          case measure => simp [intOf] <;> omega
        · have hab2 : ((a : Int) == (b : Int)) = false := by simp; omega
          obtain ⟨zs, hzl, hze⟩ := O11.out.el
          have HZE := hidI hze; have HZL := hidI hzl; clear hze hzl
          have RMW := hidI (RM.out.reader RR.out hlt G11.out)
          have hsw := G11.out.size
          go_wp2_with (at_builtin; refine wpList_pushR ((w9.setCell ⟨gp, a, none⟩ (.int .i64 (b : Int))).setCell ⟨gp, b, none⟩ (.int .i64 (a : Int))) rfl _ _ rfl w.heap.size (.slice (some ⟨g, 0, none⟩) pss.length c) us pss (.slice (some ⟨gp, 0, none⟩) q cap) zs rfl (by simp only [World.size_setCell]; rfl) RMW.out HZE.out (by omega) (by omega) ?_)
          intro gn cn wn hgn rpn hbn hgrn hln
          have hgrn : (((w9.setCell ⟨gp, a, none⟩ (.int .i64 (b : Int))).setCell ⟨gp, b, none⟩ (.int .i64 (a : Int))).alloc (.cells #[.slice (some ⟨gp, 0, none⟩) q cap] 24)).grownBy wn (some g) := hgrn
          have RPN := hidI rpn
          have RN := hidI ((R11.out.below ((Below.refl _ _).alloc (Nat.le_refl _) (.cells #[.slice (some ⟨gp, 0, none⟩) q cap] 24))).grown hgrn (by omega))
          have GN := hidI (grown_new (grown_new (grown_trans GG.out G11.out) (grown_alloc ((w9.setCell ⟨gp, a, none⟩ (.int .i64 (b : Int))).setCell ⟨gp, b, none⟩ (.int .i64 (a : Int))) (.cells #[.slice (some ⟨gp, 0, none⟩) q cap] 24) (some ((w9.setCell ⟨gp, a, none⟩ (.int .i64 (b : Int))).setCell ⟨gp, b, none⟩ (.int .i64 (a : Int))).heap.size)) (by omega)) hgrn (by omega))
          have HLN := hidI (show ∀ x ∈ pss ++ [zs], x.length ≤ 200 from fun x hx => by
            rcases List.mem_append.1 hx with hx | hx
            · exact HLL.out x hx
            · rw [List.mem_singleton.1 hx, HZL.out]; omega)
          clear rpn hbn hgrn hln
          go_wp2_with fail
          go_roundw
          case rel => exact ⟨k, gn, cn, us ++ [.slice (some ⟨gp, 0, none⟩) q cap], pss ++ [zs], by rw [List.length_append]; rfl, by first | go_num | exact congrArg (Value.int .i64) (by omega), by omega, by rw [List.length_append]; show pss.length + 1 + k ≤ 3; omega, hidI (by rw [List.length_append]; exact RPN.out), HLN, hidI (RN.out.mono (by omega)), GN⟩
          case measure => simp [intOf] <;> omega
      have e0 : ((j : Int) == 0) = false := by simp; omega
      by_cases j1 : j = 1
      · subst j1
        obtain ⟨wo, rfl⟩ : ∃ wo : World, wo = wr := ⟨_, rfl⟩
        have hqne : (q : Int) ≠ 0 := by omega
        go_wp2_with fail
        go_loopw [12] (fun vt wr => ∃ t : Nat, t ≤ q ∧ vt = .int .i64 (t : Int) ∧ Hid (OutS wr wo.heap.size gp q cap) ∧ Hid (RdOk wr r (N + 100 - 20 * (k + 1) + q + 2 + 1)) ∧ Hid (wo.grownBy wr (some r))) (fun vt _ => q - (intOf vt).toNat)
        case atStart => exact ⟨0, by omega, rfl, O6, R6, G6⟩
        case round =>
          clear O6 R6 G6
          obtain ⟨t, ht, rfl, OT, RT, GT⟩ := hrel
          have hst := GT.out.size
          by_cases htq : t < q
          · have htI : (t : Int) < (q : Int) := by omega
            have hgpl := OT.out.lt
            obtain ⟨⟨z1, _, hc1⟩, hf1⟩ := OT.out.cell (i := t) htq
            have hcl := OT.out.capLe
            unfold maxLen at hcl
            obtain ⟨hcl1, hcl2⟩ := hcl
            have hm1 : ((t : Int) + 1).tmod (q : Int) = ((t + 1) % q : Nat) := by
              rw [Int.tmod_eq_emod_of_nonneg (by omega)]; simp
            have hm2 : (t + 1) % q < q := Nat.mod_lt _ (by omega)
            obtain ⟨T, hT⟩ : ∃ T, T = (t + 1) % q := ⟨_, rfl⟩
            rw [← hT] at hm1 hm2
            clear hT
            have OT2 := hidI (OT.out.put t (T : Int) (i64_small (by omega)))
            have RT2 := hidI (RT.out.grown (grown_setCell wr gp t (.int .i64 (T : Int))) (by omega))
            have GT2 := hidI (grown_new GT.out (grown_setCell wr gp t (.int .i64 (T : Int))) (by omega))
            go_wp2_with fail
            go_roundw
            case rel => exact ⟨t + 1, by omega, by go_num, OT2, RT2, GT2⟩
            case measure => simp [intOf]; omega
          · have htI : ¬ (t : Int) < (q : Int) := by omega
            obtain ⟨zs, hzl, hze⟩ := OT.out.el
            have HZE := hidI hze; have HZL := hidI hzl; clear hze hzl
            have RMW := hidI (RM.out.reader RR.out hlt GT.out)
            have hsw := GT.out.size
            go_wp2_with (at_builtin; refine wpList_pushR wr rfl _ _ rfl w.heap.size (.slice (some ⟨g, 0, none⟩) pss.length c) us pss (.slice (some ⟨gp, 0, none⟩) q cap) zs rfl rfl RMW.out HZE.out (by omega) (by omega) ?_)
            intro gn cn wn hgn rpn hbn hgrn hln
            have hgrn : (wr.alloc (.cells #[.slice (some ⟨gp, 0, none⟩) q cap] 24)).grownBy wn (some g) := hgrn
            have RPN := hidI rpn
            have RN := hidI ((RT.out.below ((Below.refl _ _).alloc (Nat.le_refl _) (.cells #[.slice (some ⟨gp, 0, none⟩) q cap] 24))).grown hgrn (by omega))
            have GN := hidI (grown_new (grown_new (grown_trans GG.out GT.out) (grown_alloc wr (.cells #[.slice (some ⟨gp, 0, none⟩) q cap] 24) (some wr.heap.size)) (by omega)) hgrn (by omega))
            have HLN := hidI (show ∀ x ∈ pss ++ [zs], x.length ≤ 200 from fun x hx => by
              rcases List.mem_append.1 hx with hx | hx
              · exact HLL.out x hx
              · rw [List.mem_singleton.1 hx, HZL.out]; omega)
            clear rpn hbn hgrn hln
            go_wp2_with fail
            go_roundw
            case rel => exact ⟨k, gn, cn, us ++ [.slice (some ⟨gp, 0, none⟩) q cap], pss ++ [zs], by rw [List.length_append]; rfl, by first | go_num | exact congrArg (Value.int .i64) (by omega), by omega, by rw [List.length_append]; show pss.length + 1 + k ≤ 3; omega, hidI (by rw [List.length_append]; exact RPN.out), HLN, hidI (RN.out.mono (by omega)), GN⟩
            case measure => simp [intOf] <;> omega
      have e1 : ((j : Int) == 1) = false := by simp; omega
      obtain ⟨zs, hzl, hze⟩ := O6.out.el
      have HZE := hidI hze; have HZL := hidI hzl; clear hze hzl
      have RMW := hidI (RM.out.reader RR.out hlt G6.out)
      have hsw := G6.out.size
      go_wp2_with (at_builtin; refine wpList_pushR w6 rfl _ _ rfl w.heap.size (.slice (some ⟨g, 0, none⟩) pss.length c) us pss (.slice (some ⟨gp, 0, none⟩) q cap) zs rfl rfl RMW.out HZE.out (by omega) (by omega) ?_)
      intro gn cn wn hgn rpn hbn hgrn hln
      have hgrn : (w6.alloc (.cells #[.slice (some ⟨gp, 0, none⟩) q cap] 24)).grownBy wn (some g) := hgrn
      have RPN := hidI rpn
      have RN := hidI ((R6.out.below ((Below.refl _ _).alloc (Nat.le_refl _) (.cells #[.slice (some ⟨gp, 0, none⟩) q cap] 24))).grown hgrn (by omega))
      have GN := hidI (grown_new (grown_new (grown_trans GG.out G6.out) (grown_alloc w6 (.cells #[.slice (some ⟨gp, 0, none⟩) q cap] 24) (some w6.heap.size)) (by omega)) hgrn (by omega))
      have HLN := hidI (show ∀ x ∈ pss ++ [zs], x.length ≤ 200 from fun x hx => by
        rcases List.mem_append.1 hx with hx | hx
        · exact HLL.out x hx
        · rw [List.mem_singleton.1 hx, HZL.out]; omega)
      clear rpn hbn hgrn hln
      go_wp2_with fail
      go_roundw
      case rel => exact ⟨k, gn, cn, us ++ [.slice (some ⟨gp, 0, none⟩) q cap], pss ++ [zs], by rw [List.length_append]; rfl, by first | go_num | exact congrArg (Value.int .i64) (by omega), by omega, by rw [List.length_append]; show pss.length + 1 + k ≤ 3; omega, hidI (by rw [List.length_append]; exact RPN.out), HLN, hidI (RN.out.mono (by omega)), GN⟩
      case measure => simp [intOf] <;> omega
    · have hkI : ¬ (0 : Int) < ((0 : Nat) : Int) := by omega
      go_wp2_with fail
      refine (spec_odd r (N + 100 - 20 * 0) m _ RR.out (by omega) (by omega) (by omega)).mono ?_; rintro e w1' ⟨b, rfl, r1, g1, -⟩
      have R1 := hidI r1; have G1 := hidI (grown_trans GG.out g1); have RM1 := hidI (RM.out.reader RR.out hlt g1)
      have hs1 := G1.out.size
      clear r1 g1 RM RR GG
      cases b
      · go_wp2_with fail
        go_ret2
        exact ⟨(q : Int), g, c, us, pss, rfl, by omega, by omega, by omega, HLL.out, RM1.out, R1.out.mono (by omega), G1.out⟩
      go_wp2_with fail
      refine (spec_pickI r _ 3 _ R1.out (by omega) (by omega) (by omega)).mono ?_; rintro e w2' ⟨j, rfl, hj, r2, g2⟩
      have R2 := hidI r2; have G2 := hidI (grown_trans G1.out g2); have RM2 := hidI (RM1.out.reader R1.out hlt g2)
      have hs2' := G2.out.size
      have hgl' := RM2.out.lt rfl
      clear r2 g2 R1 G1 RM1
      by_cases j0 : j = 0
      · subst j0
        go_wp2_with fail
        go_ret2
        exact ⟨0, g, c, us, pss, rfl, by omega, by omega, by omega, HLL.out, RM2.out, R2.out.mono (by omega), G2.out⟩
      have e0 : ((j : Int) == 0) = false := by simp; omega
      by_cases j1 : j = 1
      · subst j1
        have HI2 := hidI (show El (w2'.alloc (.cells #[.int .i64 0, .int .i64 0] 3)) (.slice (some ⟨w2'.heap.size, 0, none⟩) 2 2) [0, 0] from by
          obtain ⟨zs, hz1, hz2⟩ := (OutS.new (w := w2') (base := w2'.heap.size) [0, 0] (i64_two (i64_of (by omega) (by omega)) (i64_of (by omega) (by omega))) (Nat.le_refl _) (by simp))
          exact El.ofOwn (zs := [0, 0]) ⟨by simp, .inr ⟨w2'.heap.size, 2, #[.int .i64 0, .int .i64 0], rfl, Nat.le_refl _, heap_alloc_new w2' _, Nat.le_refl _, by unfold maxLen; omega, by simp, by simp⟩⟩ (i64_two (i64_of (by omega) (by omega)) (i64_of (by omega) (by omega))))
        go_wp2_with (at_builtin; refine wpList_pushR (w2'.alloc (.cells #[.int .i64 0, .int .i64 0] 3)) rfl _ _ rfl w.heap.size (.slice (some ⟨g, 0, none⟩) pss.length c) us pss (.slice (some ⟨w2'.heap.size, 0, none⟩) 2 2) [0, 0] rfl (by simp only [World.size_alloc]; rfl) (RM2.out.alloc _) HI2.out (by omega) (by simp; omega) ?_)
        intro gn cn wn hgn rpn hbn hgrn hln
        have hgrn : ((w2'.alloc (.cells #[.int .i64 0, .int .i64 0] 3)).alloc (.cells #[.slice (some ⟨w2'.heap.size, 0, none⟩) 2 2] 24)).grownBy wn (some g) := hgrn
        have RPN := hidI rpn
        have RN := hidI (((R2.out.below ((Below.refl _ _).alloc (Nat.le_refl _) (.cells #[.int .i64 0, .int .i64 0] 3))).below ((Below.refl _ _).alloc (Nat.le_refl _) (.cells #[.slice (some ⟨w2'.heap.size, 0, none⟩) 2 2] 24))).grown hgrn (by omega))
        have GN := hidI (grown_new (grown_new (grown_new G2.out (grown_alloc w2' (.cells #[.int .i64 0, .int .i64 0] 3) (some w2'.heap.size)) (by omega)) (grown_alloc _ (.cells #[.slice (some ⟨w2'.heap.size, 0, none⟩) 2 2] 24) (some w2'.heap.size)) (by omega)) hgrn (by omega))
        have HLN := hidI (show ∀ x ∈ pss ++ [[0, 0]], x.length ≤ 200 from fun x hx => by
          rcases List.mem_append.1 hx with hx | hx
          · exact HLL.out x hx
          · rw [List.mem_singleton.1 hx]; simp)
        clear rpn hbn hgrn hln
        go_wp2_with fail
        go_ret2
        exact ⟨(q : Int), gn, cn, _, pss ++ [[0, 0]], by rw [List.length_append]; rfl, by omega, by omega, by simp; omega, HLN.out, by rw [List.length_append]; exact RPN.out, RN.out.mono (by omega), GN.out⟩
      have e1 : ((j : Int) == 1) = false := by simp; omega
      go_wp2_with (at_builtin; refine wpList_appendRR w2' rfl _ _ rfl w.heap.size (.slice (some ⟨g, 0, none⟩) pss.length c) us pss g 0 c us pss rfl rfl RM2.out RM2.out.len (fun j u hj => by rw [Nat.zero_add]; exact (own_cell RM2.out.1 hj).1) RM2.out.2 (by omega) (by omega) ?_)
      intro vn wn rpn hgrn hnil
      obtain ⟨gn, cn, hvn, _⟩ := own_shape rpn.1 (fun e => by first | exact hnil e | (have := (hnil.1 e).1; cases this))
      subst hvn
      have hgrn : w2'.grownBy wn (some g) := hgrn
      have RPN := hidI rpn
      have RN := hidI (R2.out.grown hgrn (by omega))
      have GN := hidI (grown_new G2.out hgrn (by omega))
      have HLN := hidI (show ∀ x ∈ pss ++ pss, x.length ≤ 200 from fun x hx => by
        rcases List.mem_append.1 hx with hx | hx <;> exact HLL.out x hx)
      clear rpn hgrn hnil
      go_wp2_with fail
      go_ret2
      exact ⟨(q : Int), gn, cn, us ++ us, pss ++ pss, rfl, by omega, by omega, by simp; omega, HLN.out, RPN.out, RN.out.mono (by omega), GN.out⟩
end Go.Proofs.Ytmmggbcmailbiaa
