/- impl's reader of codes: parts with signs of one kind between them. -/
import Derived.Test.YtndbfdgflflfpaaRd
import Derived.Test.YtndbfdgflflfpaaConcat
import Derived.Outline
namespace Go.Proofs.Ytndbfdgflflfpaa
open Go.RowKit

/-- What a reader gives from place k on: the code of what 'res' says, or nothing. -/
def GiveR (w : World) (B : Nat) (s : ByteArray) (k : Nat) (res : Option (Cond × List Nat)) (e : Ending) (w' : World) : Prop :=
  ∃ (v : Value) (zs : List Int) (k' : Nat) (ok : Bool), e = .returned (.tuple #[v, .bool ok]) ∧ w'.ownsRow w.heap.size 3 1 v zs.length (zs.map (Value.int .i64)) ∧ (∀ z ∈ zs, I64 z) ∧ zs.length + k ≤ k' ∧ k' ≤ s.size ∧ RB w' B s k' ∧
    w.grownBy w' (some B) ∧ (ok = true → ∃ t, res = some (t, (bs s).drop k') ∧ zs = t.steps) ∧ (ok = false → res = none)

/-- The reader's place. -/
def rdAt (w : World) (B : Nat) : Nat := match w.cell? ⟨B, 1, none⟩ with
  | some (.int _ n) => n.toNat
  | _ => 0

theorem rdAt_is {w : World} {B : Nat} {s : ByteArray} {k : Nat} (h : RB w B s k) : rdAt w B = k := by
  unfold rdAt; rw [(blk_cell h 1).trans rfl]; simp

theorem grown_below {w w3 w5 : World} {r : Option Nat} (h : w.grownBy w3 r) (hb : Below w.heap.size w3 w5) : w.grownBy w5 r :=
  ⟨hb.os.trans h.os, hb.tape.trans h.tape, hb.output.trans h.output, Nat.le_trans h.size hb.size, fun i hi hr => (hb.block i hi).trans (h.block i hi hr)⟩

theorem own_slice {w : World} {base : Nat} {e : TypeId} {v : Value} {n : Nat} {xs : List Value} (h : w.ownsRow base e 1 v n xs) : ∃ a c, v = .slice a n c := by
  rcases h.2 with ⟨h1, h2⟩ | ⟨g, cap, cur, h1, _⟩
  · exact ⟨none, 0, by rw [h1, h2]⟩
  · exact ⟨_, _, h1⟩

set_option maxRecDepth 100000 in
set_option maxHeartbeats 4000000 in
theorem impl_readJoined (s : ByteArray) (hs : s.size ≤ 1000) (p : Rd) (hg : Good p) (sign : Nat) (st : Int) (hst : st = 8 ∧ sign = 38 ∨ st = 9 ∧ sign = 124) (B k0 : Nat)
    (HP : ∀ k w, k0 ≤ k → k ≤ s.size → RB w B s k → Calls Try.prog 64 #[.pointer (some ⟨B, 0, none⟩), .int .i64 st] w (GiveR w B s k (p ((bs s).drop k)))) (k : Nat) (w : World) (hk0 : k0 ≤ k) (hk : k ≤ s.size) (h : RB w B s k) :
    Calls Try.prog 37 #[.pointer (some ⟨B, 0, none⟩), .int .i64 st] w (GiveR w B s k (great p sign st ((bs s).drop k))) := by
  have hBl : B < w.heap.size := (Array.getElem?_eq_some_iff.1 h).1
  have H0 := hidI h; have HPP := hidI HP; clear HP h
  rcases hst with ⟨rfl, rfl⟩ | ⟨rfl, rfl⟩
  · go_enter Try.func37, Try.ntmps37
    go_wp2_with fail
    refine (HPP.out k w hk0 hk H0.out).mono ?_; rintro e w1 ⟨v, zs, k1, ok, rfl, o1, i1, l1, s1, r1, g1, t1, n1⟩
    obtain ⟨a1, c1, hv1⟩ := own_slice o1
    subst hv1
    have O1 := hidI o1; have I1 := hidI i1; have R1 := hidI r1; have G1 := hidI g1
    have T1 : Hid (ok = true → ∃ t, zs = t.steps ∧ great p 38 8 ((bs s).drop k) = many p 38 8 (((bs s).drop k1).length + 1) t ((bs s).drop k1)) := hidI (fun h => by
      obtain ⟨t, e1, e2⟩ := t1 h
      exact ⟨t, e2, by unfold great; rw [e1]⟩)
    have N1 : Hid (ok = false → great p 38 8 ((bs s).drop k) = none) := hidI (fun h => by unfold great; rw [n1 h])
    clear o1 i1 r1 g1 t1 n1
    go_wp2_with fail
    go_loopw [7, 8] (fun vv okv wr => ∃ (zs : List Int) (k1 : Nat) (ok : Bool) (a : Option Addr) (c : Nat), vv = .slice a zs.length c ∧ okv = .bool ok ∧ zs.length + k ≤ k1 ∧ k1 ≤ s.size ∧ Hid (wr.ownsRow w.heap.size 3 1 (.slice a zs.length c) zs.length (zs.map (Value.int .i64))) ∧ Hid (∀ z ∈ zs, I64 z) ∧ Hid (RB wr B s k1) ∧ Hid (w.grownBy wr (some B)) ∧
      Hid (ok = true → ∃ t, zs = t.steps ∧ great p 38 8 ((bs s).drop k) = many p 38 8 (((bs s).drop k1).length + 1) t ((bs s).drop k1)) ∧ Hid (ok = false → great p 38 8 ((bs s).drop k) = none)) (fun _ _ wr => s.size - rdAt wr B)
    case atStart => exact ⟨zs, k1, ok, a1, c1, rfl, rfl, l1, s1, O1, I1, R1, G1, T1, N1⟩
    case round =>
      clear O1 I1 R1 G1 T1 N1 l1 s1
      obtain ⟨zs, k1, ok, a, c, rfl, rfl, l1, s1, O1, I1, R1, G1, T1, N1⟩ := hrel
      cases ok
      · go_wp2_with fail
        go_ret2
        exact ⟨_, zs, k1, false, rfl, O1.out, I1.out, l1, s1, R1.out, G1.out, fun h => (by cases h), fun _ => N1.out trivial⟩
      · go_wp2_with fail
        refine (impl_next s B k1 38 wr R1.out s1 hs (by decide)).mono ?_; rintro e w2 ⟨b, rfl, hb, r2, g2⟩
        have hne : ∀ q, (Value.slice a zs.length c).ownBlock = some q → q ≠ B := fun q hq => by have := (O1.out.lt q hq).1; omega
        have O2 := hidI (own_grown O1.out g2 hne)
        have G2 := hidI (grown_trans G1.out g2)
        cases b
        · have R2 := hidI r2
          have hh : ((bs s).drop k1).head? ≠ some 38 := by rw [List.head?_drop]; intro e; exact absurd (hb.2 e) (by decide)
          have HH := hidI hh
          clear hb hh r2 g2 hne
          go_wp2_with fail
          go_ret2
          exact ⟨_, zs, k1, true, rfl, O2.out, I1.out, l1, s1, by simpa using R2.out, G2.out, fun _ => by
            obtain ⟨t, e1, e2⟩ := T1.out trivial
            exact ⟨t, by rw [e2]; exact many_none _ HH.out, e1⟩, fun h => by cases h⟩
        · have hget := hb.1 rfl
          have hlt : k1 < s.size := by
            have := (List.getElem?_eq_some_iff.1 hget).1
            rwa [bs_len] at this
          have hdr : (bs s).drop k1 = 38 :: (bs s).drop (k1 + 1) := by
            rw [List.drop_eq_getElem_cons (by rw [bs_len]; exact hlt)]
            rw [(List.getElem?_eq_some_iff.1 hget).2]
          have HDR := hidI hdr
          have R2 : Hid (RB w2 B s (k1 + 1)) := hidI (by simpa using r2)
          clear hb hget hdr r2 g2 hne
          go_wp2_with fail
          refine (HPP.out (k1 + 1) w2 (by omega) (by omega) R2.out).mono ?_; rintro e w3 ⟨v3, zs3, k3, ok3, rfl, o3, i3, l3, s3, r3, g3, t3, n3⟩
          obtain ⟨a3, c3, hv3⟩ := own_slice o3
          subst hv3
          have hne2 : ∀ q, (Value.slice a zs.length c).ownBlock = some q → q ≠ B := fun q hq => by have := (O1.out.lt q hq).1; omega
          have o2' := own_grown O2.out g3 hne2
          have HX := hidI (fun W (hW : Below w3.heap.size w3 W) => (IntS.ofOwn o2' I1.out).2.below hW)
          have HY := hidI (fun W (hW : Below w3.heap.size w3 W) => (IntS.ofOwn o3 i3).2.below hW)
          have G3 := hidI (grown_trans G2.out g3)
          have R3 := hidI r3; have I3 := hidI i3
          have T3 : Hid (ok3 = true → ∃ t, zs ++ zs3 ++ [8] = t.steps ∧ great p 38 8 ((bs s).drop k) = many p 38 8 (((bs s).drop k3).length + 1) t ((bs s).drop k3)) := hidI (fun h => by
            obtain ⟨t, e1, e2⟩ := T1.out trivial
            obtain ⟨t', f1, f2⟩ := t3 h
            refine ⟨.two 8 t t', by rw [e1, f2]; rfl, ?_⟩
            rw [e2, HDR.out, many_step _ f1]
            have hle := (hg _ _ _ f1).1
            exact many_fuel hg 38 8 _ _ _ _ (by simp only [List.length_cons]; omega) (Nat.lt_succ_self _))
          have N3 : Hid (ok3 = false → great p 38 8 ((bs s).drop k) = none) := hidI (fun h => by
            obtain ⟨t, e1, e2⟩ := T1.out trivial
            rw [e2, HDR.out]
            show many p 38 8 (((38 :: (bs s).drop (k1 + 1)).length) + 1) t (38 :: (bs s).drop (k1 + 1)) = none
            rw [many, if_pos rfl, n3 h])
          have hm1 := rdAt_is R1.out
          have HM1 := hidI hm1
          have hszw : w.heap.size ≤ w3.heap.size := G3.out.size
          clear o3 i3 r3 g3 t3 n3 o2' hne2 hm1
          go_wp2_with fail
          refine (concat_two zs zs3 _ _ w3.heap.size _ (HX.out _ ((Below.refl _ _).alloc (Nat.le_refl _) _)) (HY.out _ ((Below.refl _ _).alloc (Nat.le_refl _) _)) (by omega) (cell_at rfl rfl) (cell_at rfl rfl) (by simp)).mono ?_; rintro e w4 ⟨v4, rfl, o4, b4⟩
          obtain ⟨a4, c4, hv4⟩ := own_slice o4
          subst hv4
          have B4 := hidI (((Below.refl w.heap.size w3).alloc hszw _).trans (b4.mono (by simp; omega)))
          have O4 := hidI (by have t := own_base o4 (base' := w.heap.size) (by simp; omega); rw [List.length_append] at t; exact t)
          have hsz4 := B4.out.size
          have hsz5 : w.heap.size ≤ w4.heap.size := by omega
          clear o4 b4
          go_wp2_with (at_builtin; refine wpList_push _ rfl _ _ 22 rfl w.heap.size 3 (.int .i64 0) 8 Try.underlying22 infoInt rfl (.slice a4 (zs.length + zs3.length) c4) (zs.length + zs3.length) ((zs ++ zs3).map (Value.int .i64)) _ rfl rfl O4.out rfl (by omega) (by decide) hsz5 ?_)
          intro g6 c6 w6 hg6 o6 b6 _
          have B6 := hidI (b6 _ B4.out)
          have O6 := hidI o6
          clear o6 b6
          go_wp2_with fail
          have R6 : RB w6 B s k3 := (B6.out.block B hBl).trans R3.out
          refine ⟨?rel, ?measure⟩
          case rel =>
            have el : (zs ++ zs3 ++ [8]).length = zs.length + zs3.length + 1 := by simp [Nat.add_assoc]
            refine ⟨zs ++ zs3 ++ [8], k3, ok3, some ⟨g6, 0, none⟩, c6, by rw [el], rfl, by omega, s3, hidI ?_, hidI ?_, hidI R6, hidI (grown_below G3.out B6.out), T3, N3⟩
            · have := O6.out; rw [el]; simpa [Nat.add_assoc] using this
            · intro z hz
              rcases List.mem_append.1 hz with hz | hz
              · rcases List.mem_append.1 hz with hz | hz
                · exact I1.out z hz
                · exact I3.out z hz
              · simp at hz; subst hz; unfold I64; omega
          case measure =>
            have e1 := HM1.out
            have e2 := rdAt_is R6
            rw [e1, e2]
            omega
  · go_enter Try.func37, Try.ntmps37
    go_wp2_with fail
    refine (HPP.out k w hk0 hk H0.out).mono ?_; rintro e w1 ⟨v, zs, k1, ok, rfl, o1, i1, l1, s1, r1, g1, t1, n1⟩
    obtain ⟨a1, c1, hv1⟩ := own_slice o1
    subst hv1
    have O1 := hidI o1; have I1 := hidI i1; have R1 := hidI r1; have G1 := hidI g1
    have T1 : Hid (ok = true → ∃ t, zs = t.steps ∧ great p 124 9 ((bs s).drop k) = many p 124 9 (((bs s).drop k1).length + 1) t ((bs s).drop k1)) := hidI (fun h => by
      obtain ⟨t, e1, e2⟩ := t1 h
      exact ⟨t, e2, by unfold great; rw [e1]⟩)
    have N1 : Hid (ok = false → great p 124 9 ((bs s).drop k) = none) := hidI (fun h => by unfold great; rw [n1 h])
    clear o1 i1 r1 g1 t1 n1
    go_wp2_with fail
    go_loopw [7, 8] (fun vv okv wr => ∃ (zs : List Int) (k1 : Nat) (ok : Bool) (a : Option Addr) (c : Nat), vv = .slice a zs.length c ∧ okv = .bool ok ∧ zs.length + k ≤ k1 ∧ k1 ≤ s.size ∧ Hid (wr.ownsRow w.heap.size 3 1 (.slice a zs.length c) zs.length (zs.map (Value.int .i64))) ∧ Hid (∀ z ∈ zs, I64 z) ∧ Hid (RB wr B s k1) ∧ Hid (w.grownBy wr (some B)) ∧
      Hid (ok = true → ∃ t, zs = t.steps ∧ great p 124 9 ((bs s).drop k) = many p 124 9 (((bs s).drop k1).length + 1) t ((bs s).drop k1)) ∧ Hid (ok = false → great p 124 9 ((bs s).drop k) = none)) (fun _ _ wr => s.size - rdAt wr B)
    case atStart => exact ⟨zs, k1, ok, a1, c1, rfl, rfl, l1, s1, O1, I1, R1, G1, T1, N1⟩
    case round =>
      clear O1 I1 R1 G1 T1 N1 l1 s1
      obtain ⟨zs, k1, ok, a, c, rfl, rfl, l1, s1, O1, I1, R1, G1, T1, N1⟩ := hrel
      cases ok
      · go_wp2_with fail
        go_ret2
        exact ⟨_, zs, k1, false, rfl, O1.out, I1.out, l1, s1, R1.out, G1.out, fun h => (by cases h), fun _ => N1.out trivial⟩
      · go_wp2_with fail
        refine (impl_next s B k1 124 wr R1.out s1 hs (by decide)).mono ?_; rintro e w2 ⟨b, rfl, hb, r2, g2⟩
        have hne : ∀ q, (Value.slice a zs.length c).ownBlock = some q → q ≠ B := fun q hq => by have := (O1.out.lt q hq).1; omega
        have O2 := hidI (own_grown O1.out g2 hne)
        have G2 := hidI (grown_trans G1.out g2)
        cases b
        · have R2 := hidI r2
          have hh : ((bs s).drop k1).head? ≠ some 124 := by rw [List.head?_drop]; intro e; exact absurd (hb.2 e) (by decide)
          have HH := hidI hh
          clear hb hh r2 g2 hne
          go_wp2_with fail
          go_ret2
          exact ⟨_, zs, k1, true, rfl, O2.out, I1.out, l1, s1, by simpa using R2.out, G2.out, fun _ => by
            obtain ⟨t, e1, e2⟩ := T1.out trivial
            exact ⟨t, by rw [e2]; exact many_none _ HH.out, e1⟩, fun h => by cases h⟩
        · have hget := hb.1 rfl
          have hlt : k1 < s.size := by
            have := (List.getElem?_eq_some_iff.1 hget).1
            rwa [bs_len] at this
          have hdr : (bs s).drop k1 = 124 :: (bs s).drop (k1 + 1) := by
            rw [List.drop_eq_getElem_cons (by rw [bs_len]; exact hlt)]
            rw [(List.getElem?_eq_some_iff.1 hget).2]
          have HDR := hidI hdr
          have R2 : Hid (RB w2 B s (k1 + 1)) := hidI (by simpa using r2)
          clear hb hget hdr r2 g2 hne
          go_wp2_with fail
          refine (HPP.out (k1 + 1) w2 (by omega) (by omega) R2.out).mono ?_; rintro e w3 ⟨v3, zs3, k3, ok3, rfl, o3, i3, l3, s3, r3, g3, t3, n3⟩
          obtain ⟨a3, c3, hv3⟩ := own_slice o3
          subst hv3
          have hne2 : ∀ q, (Value.slice a zs.length c).ownBlock = some q → q ≠ B := fun q hq => by have := (O1.out.lt q hq).1; omega
          have o2' := own_grown O2.out g3 hne2
          have HX := hidI (fun W (hW : Below w3.heap.size w3 W) => (IntS.ofOwn o2' I1.out).2.below hW)
          have HY := hidI (fun W (hW : Below w3.heap.size w3 W) => (IntS.ofOwn o3 i3).2.below hW)
          have G3 := hidI (grown_trans G2.out g3)
          have R3 := hidI r3; have I3 := hidI i3
          have T3 : Hid (ok3 = true → ∃ t, zs ++ zs3 ++ [9] = t.steps ∧ great p 124 9 ((bs s).drop k) = many p 124 9 (((bs s).drop k3).length + 1) t ((bs s).drop k3)) := hidI (fun h => by
            obtain ⟨t, e1, e2⟩ := T1.out trivial
            obtain ⟨t', f1, f2⟩ := t3 h
            refine ⟨.two 9 t t', by rw [e1, f2]; rfl, ?_⟩
            rw [e2, HDR.out, many_step _ f1]
            have hle := (hg _ _ _ f1).1
            exact many_fuel hg 124 9 _ _ _ _ (by simp only [List.length_cons]; omega) (Nat.lt_succ_self _))
          have N3 : Hid (ok3 = false → great p 124 9 ((bs s).drop k) = none) := hidI (fun h => by
            obtain ⟨t, e1, e2⟩ := T1.out trivial
            rw [e2, HDR.out]
            show many p 124 9 (((124 :: (bs s).drop (k1 + 1)).length) + 1) t (124 :: (bs s).drop (k1 + 1)) = none
            rw [many, if_pos rfl, n3 h])
          have hm1 := rdAt_is R1.out
          have HM1 := hidI hm1
          have hszw : w.heap.size ≤ w3.heap.size := G3.out.size
          clear o3 i3 r3 g3 t3 n3 o2' hne2 hm1
          go_wp2_with fail
          refine (concat_two zs zs3 _ _ w3.heap.size _ (HX.out _ ((Below.refl _ _).alloc (Nat.le_refl _) _)) (HY.out _ ((Below.refl _ _).alloc (Nat.le_refl _) _)) (by omega) (cell_at rfl rfl) (cell_at rfl rfl) (by simp)).mono ?_; rintro e w4 ⟨v4, rfl, o4, b4⟩
          obtain ⟨a4, c4, hv4⟩ := own_slice o4
          subst hv4
          have B4 := hidI (((Below.refl w.heap.size w3).alloc hszw _).trans (b4.mono (by simp; omega)))
          have O4 := hidI (by have t := own_base o4 (base' := w.heap.size) (by simp; omega); rw [List.length_append] at t; exact t)
          have hsz4 := B4.out.size
          have hsz5 : w.heap.size ≤ w4.heap.size := by omega
          clear o4 b4
          go_wp2_with (at_builtin; refine wpList_push _ rfl _ _ 22 rfl w.heap.size 3 (.int .i64 0) 8 Try.underlying22 infoInt rfl (.slice a4 (zs.length + zs3.length) c4) (zs.length + zs3.length) ((zs ++ zs3).map (Value.int .i64)) _ rfl rfl O4.out rfl (by omega) (by decide) hsz5 ?_)
          intro g6 c6 w6 hg6 o6 b6 _
          have B6 := hidI (b6 _ B4.out)
          have O6 := hidI o6
          clear o6 b6
          go_wp2_with fail
          have R6 : RB w6 B s k3 := (B6.out.block B hBl).trans R3.out
          refine ⟨?rel, ?measure⟩
          case rel =>
            have el : (zs ++ zs3 ++ [9]).length = zs.length + zs3.length + 1 := by simp [Nat.add_assoc]
            refine ⟨zs ++ zs3 ++ [9], k3, ok3, some ⟨g6, 0, none⟩, c6, by rw [el], rfl, by omega, s3, hidI ?_, hidI ?_, hidI R6, hidI (grown_below G3.out B6.out), T3, N3⟩
            · have := O6.out; rw [el]; simpa [Nat.add_assoc] using this
            · intro z hz
              rcases List.mem_append.1 hz with hz | hz
              · rcases List.mem_append.1 hz with hz | hz
                · exact I1.out z hz
                · exact I3.out z hz
              · simp at hz; subst hz; unfold I64; omega
          case measure =>
            have e1 := HM1.out
            have e2 := rdAt_is R6
            rw [e1, e2]
            omega
end Go.Proofs.Ytndbfdgflflfpaa
