/- impl's reader of codes: what may stand between signs of one kind. -/
import Derived.Test.YtndbfdgflflfpaaRj
import Derived.Deep.DeepFit
import Derived.Outline
namespace Go.Proofs.Ytndbfdgflflfpaa
open Go.RowKit

theorem grown_alloc' (w : World) (o : Obj) (r : Option Nat) : w.grownBy (w.alloc o) r := ⟨rfl, rfl, rfl, by simp, fun i hi _ => Below.heap_alloc w o i hi⟩

theorem drop_bs {s : ByteArray} {k c : Nat} (h : (bs s)[k]? = some c) : (bs s).drop k = c :: (bs s).drop (k + 1) ∧ k < s.size := by
  have hlt := (List.getElem?_eq_some_iff.1 h).1
  have he := (List.getElem?_eq_some_iff.1 h).2
  refine ⟨by rw [List.drop_eq_getElem_cons hlt, he], by rwa [bs_len] at hlt⟩

theorem small_not {f : Nat} {r : List Nat} : small (f + 1) (33 :: r) = (match small f r with | some (t, r') => some (.neg t, r') | none => none) := rfl
theorem small_par {f : Nat} {r : List Nat} : small (f + 1) (40 :: r) = (match whole f r with | some (t, 41 :: r') => some (t, r') | _ => none) := rfl

theorem small_none {f : Nat} {s : ByteArray} {k : Nat} (h1 : (bs s)[k]? ≠ some 33) (h2 : (bs s)[k]? ≠ some 40) (h3 : (bs s)[k]? ≠ some 49) (h4 : (bs s)[k]? ≠ some 48) (h5 : ∀ j, j < 5 → (bs s)[k]? ≠ some (97 + j)) :
    small (f + 1) ((bs s).drop k) = none := by
  cases e : (bs s)[k]? with
  | none =>
    rw [List.drop_eq_nil_of_le (List.getElem?_eq_none_iff.1 e)]; rfl
  | some c =>
    rw [(drop_bs e).1]
    rw [e] at h1 h2 h3 h4 h5
    have g : ∀ n, some c ≠ some n → c ≠ n := fun n h e => h (by rw [e])
    have g1 := g _ h1; have g2 := g _ h2; have g3 := g _ h3; have g4 := g _ h4
    have g5 : ¬ (97 ≤ c ∧ c < 102) := fun h => h5 (c - 97) (by omega) (by congr 1; omega)
    have hl : leafOf c = none := by unfold leafOf; rw [if_neg g5, if_neg g3, if_neg g4]
    unfold small
    rw [hl]
    dsimp only
    rw [if_neg g1, if_neg g2]

theorem small_leaf {f : Nat} {c : Nat} {r : List Nat} {z : Int} (h : leafOf c = some z) : small (f + 1) (c :: r) = some (.one z, r) := by
  unfold small; rw [h]

set_option maxRecDepth 100000 in
set_option maxHeartbeats 1000000 in
theorem impl_readPart9 (s : ByteArray) (hs : s.size ≤ 1000) (f B k0 : Nat)
    (HP : ∀ k w, k0 ≤ k → k ≤ s.size → RB w B s k → Calls Try.prog 64 #[.pointer (some ⟨B, 0, none⟩), .int .i64 8] w (GiveR w B s k (small f ((bs s).drop k)))) (k : Nat) (w : World) (hk0 : k0 ≤ k) (hk : k ≤ s.size) (h : RB w B s k) :
    Calls Try.prog 64 #[.pointer (some ⟨B, 0, none⟩), .int .i64 9] w (GiveR w B s k (mid f ((bs s).drop k))) := by
  have HJ := hidI (impl_readJoined s hs (small f) (small_good f) 38 8 (.inl ⟨rfl, rfl⟩) B k0 HP k w hk0 hk h)
  clear HP h
  go_enter Try.func64, Try.ntmps64
  go_wp2_with fail
  refine HJ.out.mono ?_; rintro e w1 ⟨v, zs, k1, ok, rfl, o1, i1, l1, s1, r1, g1, t1, n1⟩
  obtain ⟨a1, c1, hv1⟩ := own_slice o1
  subst hv1
  have O1 := hidI o1; have I1 := hidI i1; have R1 := hidI r1; have G1 := hidI g1; have T1 := hidI t1; have N1 := hidI n1
  clear o1 i1 r1 g1 t1 n1
  go_wp2_with fail
  go_ret2
  exact ⟨_, zs, k1, ok, rfl, O1.out, I1.out, l1, s1, R1.out, G1.out, T1.out, N1.out⟩

set_option maxRecDepth 100000 in
set_option maxHeartbeats 4000000 in
theorem impl_readPart8 (s : ByteArray) (hs : s.size ≤ 1000) (B : Nat) : ∀ (f k : Nat) (w : World), k ≤ s.size → s.size - k < f → RB w B s k →
    Calls Try.prog 64 #[.pointer (some ⟨B, 0, none⟩), .int .i64 8] w (GiveR w B s k (small f ((bs s).drop k)))
  | 0, _, _, _, h, _ => by omega
  | f + 1, k, w, hk, hf, h => by
    have hBl : B < w.heap.size := (Array.getElem?_eq_some_iff.1 h).1
    have IH := hidI (impl_readPart8 s hs B f)
    have H0 := hidI h; clear h
    go_enter Try.func64, Try.ntmps64
    go_wp2_with fail
    refine (impl_next s B k 33 w H0.out hk hs (by decide)).mono ?_; rintro e w1 ⟨b, rfl, hb, r1, g1⟩
    cases b
    rotate_left
    · obtain ⟨hd, hlt⟩ := drop_bs (hb.1 rfl)
      have HD := hidI hd
      have R1 : Hid (RB w1 B s (k + 1)) := hidI (by simpa using r1)
      have G1 := hidI g1
      clear hb hd r1 g1
      go_wp2_with fail
      refine (IH.out (k + 1) w1 (by omega) (by omega) R1.out).mono ?_; rintro e w2 ⟨v, zs, k1, ok, rfl, o2, i2, l2, s2, r2, g2, t2, n2⟩
      obtain ⟨a2, c2, hv2⟩ := own_slice o2
      subst hv2
      have hsz : w.heap.size ≤ w1.heap.size := G1.out.size
      have O2 := hidI (own_base o2 hsz); have I2 := hidI i2; have R2 := hidI r2; have G2 := hidI (grown_trans G1.out g2)
      have T2 : Hid (ok = true → ∃ t, small (f + 1) ((bs s).drop k) = some (t, (bs s).drop k1) ∧ zs ++ [7] = t.steps) := hidI (fun h => by
        obtain ⟨t, e1, e2⟩ := t2 h
        exact ⟨.neg t, by rw [HD.out, small_not, e1], by rw [e2]; rfl⟩)
      have N2 : Hid (ok = false → small (f + 1) ((bs s).drop k) = none) := hidI (fun h => by rw [HD.out, small_not, n2 h])
      have hsz2 : w.heap.size ≤ w2.heap.size := G2.out.size
      clear o2 i2 r2 g2 t2 n2
      go_wp2_with (at_builtin; refine wpList_push _ rfl _ _ 22 rfl w.heap.size 3 (.int .i64 0) 8 Try.underlying22 infoInt rfl (.slice a2 zs.length c2) zs.length (zs.map (Value.int .i64)) _ rfl rfl O2.out rfl (by omega) (by decide) hsz2 ?_)
      intro g6 c6 w6 hg6 o6 b6 gr6
      have gq := hidI (b6 w2 ⟨rfl, rfl, rfl, Nat.le_refl _, fun _ _ => rfl⟩)
      have hq2 : w2.heap.size ≤ w6.heap.size := by have := gr6.size; simp at this; omega
      have O6 := hidI o6; have HQ2 := hidI hq2
      have hne : ∀ q, (Value.slice a2 zs.length c2).ownBlock = some q → q ≠ B := fun q hq => by have := (O2.out.lt q hq).1; omega
      have hal := heap_alloc_new
      have R6 : Hid (RB w6 B s k1) := hidI (by
        have hb2 : B < w2.heap.size := (Array.getElem?_eq_some_iff.1 R2.out).1
        have := gq.out.block B (by omega)
        unfold RB; rw [this]; exact R2.out)
      have G6 : Hid (w.grownBy w6 (some B)) := hidI (by
        obtain ⟨q1, q2, q3, q4, q5⟩ := G2.out
        exact ⟨gq.out.os.trans q1, gq.out.tape.trans q2, gq.out.output.trans q3, by omega, fun i hi hr => (gq.out.block i hi).trans (q5 i hi hr)⟩)
      clear o6 b6 gr6 hne hal hq2
      go_wp2_with fail
      go_ret2
      refine ⟨_, zs ++ [7], k1, ok, rfl, ?_, ?_, by simp; omega, s2, R6.out, G6.out, T2.out, N2.out⟩
      · have := O6.out; simpa using this
      · intro z hz
        rcases List.mem_append.1 hz with hz | hz
        · exact I2.out z hz
        · simp at hz; subst hz; unfold I64; omega
    have hn33 : (bs s)[k]? ≠ some 33 := fun e => absurd (hb.2 e) (by decide)
    have N33 := hidI hn33
    have R1 : Hid (RB w1 B s k) := hidI (by simpa using r1)
    have G1 := hidI g1
    clear hb r1 g1 hn33
    go_wp2_with fail
    refine (impl_next s B k 40 w1 R1.out hk hs (by decide)).mono ?_; rintro e w2 ⟨b, rfl, hb, r2, g2⟩
    cases b
    rotate_left
    · obtain ⟨hd, hlt⟩ := drop_bs (hb.1 rfl)
      have HD := hidI hd
      have R2 : Hid (RB w2 B s (k + 1)) := hidI (by simpa using r2)
      have G2 := hidI (grown_trans G1.out g2)
      clear hb hd r2 g2
      go_wp2_with fail
      refine (impl_readJoined s hs (mid f) (mid_good f) 124 9 (.inr ⟨rfl, rfl⟩) B (k + 1) (impl_readPart9 s hs f B (k + 1) (fun k' w' h1 h2 h3 => IH.out k' w' h2 (by omega) h3)) (k + 1) w2 (Nat.le_refl _) (by omega) R2.out).mono ?_
      rintro e w3 ⟨v, zs, k1, ok, rfl, o3, i3, l3, s3, r3, g3, t3, n3⟩
      obtain ⟨a3, c3, hv3⟩ := own_slice o3
      subst hv3
      have hsz : w.heap.size ≤ w2.heap.size := G2.out.size
      have O3 := hidI (own_base o3 hsz); have I3 := hidI i3; have R3 := hidI r3; have G3 := hidI (grown_trans G2.out g3)
      cases ok
      · have N3 := hidI (n3 rfl)
        clear o3 i3 r3 g3 t3 n3
        go_wp2_with fail
        go_ret2
        exact ⟨_, zs, k1, false, rfl, O3.out, I3.out, by omega, s3, R3.out, G3.out, fun h => (by cases h), fun _ => by rw [HD.out, small_par]; show (match whole f _ with | some (t, 41 :: r') => some (t, r') | _ => none) = none; unfold whole; rw [N3.out]⟩
      · have T3 := hidI (t3 rfl)
        clear o3 i3 r3 g3 t3 n3
        go_wp2_with fail
        refine (impl_next s B k1 41 w3 R3.out s3 hs (by decide)).mono ?_; rintro e w4 ⟨b, rfl, hb, r4, g4⟩
        have hne : ∀ q, (Value.slice a3 zs.length c3).ownBlock = some q → q ≠ B := fun q hq => by have := (O3.out.lt q hq).1; omega
        have O4 := hidI (own_grown O3.out g4 hne)
        have G4 := hidI (grown_trans G3.out g4)
        cases b
        · have R4 : Hid (RB w4 B s k1) := hidI (by simpa using r4)
          have N4 := hidI (show (bs s)[k1]? ≠ some 41 from fun e => absurd (hb.2 e) (by decide))
          clear hb r4 g4 hne
          go_wp2_with fail
          go_ret2
          refine ⟨_, zs, k1, false, rfl, O4.out, I3.out, by omega, s3, R4.out, G4.out, fun h => (by cases h), fun _ => ?_⟩
          obtain ⟨t, e1, e2⟩ := T3.out
          rw [HD.out, small_par]
          show (match whole f _ with | some (t, 41 :: r') => some (t, r') | _ => none) = none
          unfold whole; rw [e1]
          split
          · rename_i t' r' e
            injection e with e; injection e with _ e
            exfalso
            apply N4.out
            rw [← List.head?_drop, e]; rfl
          · rfl
        · obtain ⟨hd1, hlt1⟩ := drop_bs (hb.1 rfl)
          have HD1 := hidI hd1
          have R4 : Hid (RB w4 B s (k1 + 1)) := hidI (by simpa using r4)
          clear hb r4 g4 hne hd1
          go_wp2_with fail
          go_ret2
          refine ⟨_, zs, k1 + 1, true, rfl, O4.out, I3.out, by omega, by omega, R4.out, G4.out, fun _ => ?_, fun h => (by cases h)⟩
          obtain ⟨t, e1, e2⟩ := T3.out
          refine ⟨t, ?_, e2⟩
          rw [HD.out, small_par]
          show (match whole f _ with | some (t, 41 :: r') => some (t, r') | _ => none) = _
          unfold whole; rw [e1, HD1.out]; rfl
    have N40 := hidI (show (bs s)[k]? ≠ some 40 from fun e => absurd (hb.2 e) (by decide))
    have R2 : Hid (RB w2 B s k) := hidI (by simpa using r2)
    have G2 := hidI (grown_trans G1.out g2)
    clear hb r2 g2
    go_wp2_with fail
    refine (impl_next s B k 49 w2 R2.out hk hs (by decide)).mono ?_; rintro e w3 ⟨b, rfl, hb, r3, g3⟩
    have G3 := hidI (grown_trans G2.out g3)
    cases b
    rotate_left
    · obtain ⟨hd, hlt⟩ := drop_bs (hb.1 rfl)
      have HD := hidI hd
      have R3 : Hid (RB w3 B s (k + 1)) := hidI (by simpa using r3)
      clear hb hd r3 g3
      go_wp2_with fail
      go_ret2
      exact ⟨_, [5], k + 1, true, rfl, own_base (own_one w3 (.int .i64 5) 3) G3.out.size, (by intro z hz; simp at hz; subst hz; unfold I64; omega), by simp; omega, by omega, (((Below.refl w3.heap.size w3).alloc (Nat.le_refl _) _).block B (Array.getElem?_eq_some_iff.1 R3.out).1).trans R3.out, grown_trans G3.out (grown_alloc' _ _ _), fun _ => ⟨.one 5, by rw [HD.out]; exact small_leaf rfl, rfl⟩, fun h => (by cases h)⟩
    have N49 := hidI (show (bs s)[k]? ≠ some 49 from fun e => absurd (hb.2 e) (by decide))
    have R3 : Hid (RB w3 B s k) := hidI (by simpa using r3)
    clear hb r3 g3
    go_wp2_with fail
    refine (impl_next s B k 48 w3 R3.out hk hs (by decide)).mono ?_; rintro e w4 ⟨b, rfl, hb, r4, g4⟩
    have G4 := hidI (grown_trans G3.out g4)
    cases b
    rotate_left
    · obtain ⟨hd, hlt⟩ := drop_bs (hb.1 rfl)
      have HD := hidI hd
      have R4 : Hid (RB w4 B s (k + 1)) := hidI (by simpa using r4)
      clear hb hd r4 g4
      go_wp2_with fail
      go_ret2
      exact ⟨_, [6], k + 1, true, rfl, own_base (own_one w4 (.int .i64 6) 3) G4.out.size, (by intro z hz; simp at hz; subst hz; unfold I64; omega), by simp; omega, by omega, (((Below.refl w4.heap.size w4).alloc (Nat.le_refl _) _).block B (Array.getElem?_eq_some_iff.1 R4.out).1).trans R4.out, grown_trans G4.out (grown_alloc' _ _ _), fun _ => ⟨.one 6, by rw [HD.out]; exact small_leaf rfl, rfl⟩, fun h => (by cases h)⟩
    have N48 := hidI (show (bs s)[k]? ≠ some 48 from fun e => absurd (hb.2 e) (by decide))
    have R4 : Hid (RB w4 B s k) := hidI (by simpa using r4)
    clear hb r4 g4
    go_wp2_with fail
    go_loopw [48] (fun i wr => ∃ j : Nat, j ≤ 5 ∧ i = .int .i64 j ∧ Hid (RB wr B s k) ∧ Hid (w.grownBy wr (some B)) ∧ Hid (∀ i, i < j → (bs s)[k]? ≠ some (97 + i))) (fun i _ => 5 - (intOf i).toNat)
    case atStart => exact ⟨0, by omega, rfl, R4, G4, hidI (fun i hi => by omega)⟩
    case round =>
      clear R4 G4 R3 G3 R2 G2 R1 G1
      obtain ⟨j, hj, rfl, HR, HG, HN⟩ := hrel
      by_cases hj5 : j < 5
      · go_wp2_with fail
        go_fit (impl_next s B k (97 + j) wr HR.out hk hs (by omega)); rintro e w5 ⟨b, rfl, hb, r5, g5⟩
        have G5 := hidI (grown_trans HG.out g5)
        cases b
        · have N5 := hidI (show (bs s)[k]? ≠ some (97 + j) from fun e => absurd (hb.2 e) (by decide))
          have R5 : Hid (RB w5 B s k) := hidI (by simpa using r5)
          clear hb r5 g5
          go_wp2_with fail
          go_roundw
          case rel => exact ⟨j + 1, by omega, by go_num, R5, G5, hidI (fun i hi => by
            rcases Nat.lt_or_ge i j with h | h
            · exact HN.out i h
            · obtain rfl : i = j := by omega
              exact N5.out)⟩
          case measure => simp [intOf]; omega
        · obtain ⟨hd, hlt⟩ := drop_bs (hb.1 rfl)
          have HD := hidI hd
          have R5 : Hid (RB w5 B s (k + 1)) := hidI (by simpa using r5)
          clear hb hd r5 g5
          go_wp2_with fail
          go_ret2
          exact ⟨_, [(j : Int)], k + 1, true, rfl, own_base (own_one w5 (.int .i64 j) 3) G5.out.size, (by intro z hz; simp at hz; subst hz; unfold I64; omega), by simp; omega, by omega, (((Below.refl w5.heap.size w5).alloc (Nat.le_refl _) _).block B (Array.getElem?_eq_some_iff.1 R5.out).1).trans R5.out, grown_trans G5.out (grown_alloc' _ _ _),
            fun _ => ⟨.one j, by rw [HD.out]; refine small_leaf ?_; unfold leafOf; rw [if_pos (by omega)]; congr 1; omega, rfl⟩, fun h => (by cases h)⟩
      · obtain rfl : j = 5 := by omega
        go_wp2_with fail
        go_ret2
        exact ⟨_, [], k, false, rfl, World.ownsRow_nil _ _ _ _, by simp, by simp, hk, HR.out, HG.out, fun h => (by cases h), fun _ => small_none N33.out N40.out N49.out N48.out HN.out⟩

/-- The whole text. -/
theorem impl_readWhole (s : ByteArray) (hs : s.size ≤ 1000) (f : Nat) (hf : s.size < f) (B : Nat) (w : World) (h : RB w B s 0) :
    Calls Try.prog 37 #[.pointer (some ⟨B, 0, none⟩), .int .i64 9] w (GiveR w B s 0 (whole f (bs s))) :=
  impl_readJoined s hs (mid f) (mid_good _) 124 9 (.inr ⟨rfl, rfl⟩) B 0 (impl_readPart9 s hs f B 0 (fun k w _ h2 h3 => impl_readPart8 s hs B f k w h2 (by omega) h3)) 0 w (Nat.le_refl _) (Nat.zero_le _) h
end Go.Proofs.Ytndbfdgflflfpaa
