/- The draw of ReadCode: a text of at most so many bytes. (printed by genDr.py) -/
import Derived.Test.YtndbfdgflflfpaaDrawC
import Derived.Test.YtndbfdgflflfpaaTextB
import Derived.Test.YtndbfdgflflfpaaStepG
import Derived.Deep.DeepFit
import Derived.IntWalk
import Derived.Deep.CutRange
import Derived.Deep.Cut
import Derived.Outline
namespace Go.Proofs.Ytndbfdgflflfpaa
open Go.RowKit

theorem cell_lt' {w : World} {b i : Nat} {u : Value} (h : w.cell? ⟨b, i, none⟩ = some u) : b < w.heap.size := by
  apply Classical.byContradiction
  intro hn
  unfold World.cell? at h
  rw [show w.heap[b]? = none from Array.getElem?_eq_none_iff.2 (by omega)] at h
  cases h

theorem add_any (a b : ByteArray) (ha : a.size ≤ 100000) (hb : b.size ≤ 100000) : ∃ s : ByteArray, s.size = a.size + b.size ∧ ∀ w, (Op.stringOp .add a b).run Try.prog w = .ok (.string s) w :=
  ⟨a ++ b, by simp, fun w => run_string_add_sum w a b (by omega)⟩

theorem TB_code_size (zs : List Int) : (TB (codeText zs)).size ≤ 150 := by
  rw [TB_size]
  cases h : codeValid zs with
  | false => rw [codeText_no h]; simp
  | true =>
    obtain ⟨t, hk, rfl, h40, h1, -, -⟩ := valid_tree h
    rw [codeText_tree h hk]
    have := txt_len3 t 0
    omega

/-- Between both halves. -/
def RelS (w : World) (z : Value) (wx : World) : Prop := ∃ s : ByteArray, z = .string s ∧ s.size ≤ 4000 ∧ Hid (RdOk wx w.heap.size 500) ∧ Hid (Below w.heap.size w wx)

/-- Some string, not long. -/
def SomeS (w w' : World) (e : Ending) : Prop := ∃ s : ByteArray, e = .returned (.string s) ∧ s.size ≤ 9000 ∧ Below w.heap.size w w'

set_option maxRecDepth 100000 in
set_option maxHeartbeats 20000000 in
theorem spec_DrawReadCode (n : Nat) (v : Value) (w : World) (h : BytS w w.heap.size v n) :
    Calls Try.prog 27 #[v] w fun e w' => SomeS w w' e := by
  go_enter Try.func27, Try.ntmps27
  go_wp2_with fail
  go_fit (spec_l20Open n v w h); rintro e w1 ⟨rfl, hr, b1⟩
  have hlt := hr.lt
  have HB := hidI b1; have HR := hidI hr; clear b1 hr
  go_wp2_with fail
  go_fit (spec_l20Code w.heap.size 0 5 0 w1 HR.out (by omega) (by omega) (by omega) (by omega) (by omega)); rintro e w2 ⟨g, m, cap, rfl, hm, ho, hr, hg⟩
  have HR := hidI hr
  have HB := hidI (HB.out.grown hg HB.out.size (fun k hk => by cases hk; exact Nat.le_refl _))
  obtain ⟨zs, hz, hi⟩ := ho.ints
  have HI := hidI hi; clear ho hr hg hi
  go_wp2_with fail
  go_fit (spec_CodeText zs _ _ HI.out (by omega)); rintro e w3 ⟨rfl, b3⟩
  have HB := hidI (bthen HB.out b3); have HR := hidI (HR.out.below b3); clear b3 HI
  have hs0 := TB_code_size zs
  obtain ⟨s0, hss⟩ : ∃ x, x = TB (codeText zs) := ⟨_, rfl⟩
  rw [← hss] at hs0 ⊢
  clear hss hz hm
  have hw0 : IntKind.i64.wrap 0 = 0 := by decide
  have hw1 : IntKind.i64.wrap 1 = 1 := by decide
  have hw2 : IntKind.i64.wrap 2 = 2 := by decide
  have hw3 : IntKind.i64.wrap 3 = 3 := by decide
  have hw4 : IntKind.i64.wrap 4 = 4 := by decide
  have hw5 : IntKind.i64.wrap 5 = 5 := by decide
  go_wp2_with fail
  go_fit (spec_pickI w.heap.size 200 2 w3 HR.out (by omega) (by omega) (by omega)); rintro e w4 ⟨k, rfl, hk, hr, hg⟩
  have HR := hidI hr; have HB := hidI (HB.out.grown hg HB.out.size (fun k hk => by cases hk; exact Nat.le_refl _))
  clear hr hg
  go_upto_if 13 with fail
  go_cut [4] from 14 (fun z wx => RelS w z wx)
  case first =>
    obtain rfl | rfl : k = 0 ∨ k = 1 := by omega
    rotate_left
    · clear hk
      go_wp2_with fail
      go_meet
      case rel => exact ⟨s0, rfl, by omega, hidI (HR.out.mono (by omega)), HB⟩
    clear hk
    go_wp2_with fail
    refine wp_region_any (by kernel_rfl) ?_
    change wpAny _ _ _ _ _ _ _ (World.drew _)
    obtain ⟨W0, hW0⟩ : ∃ x, x = w4.drew := ⟨_, rfl⟩
    rw [← hW0]
    have HR := hidI (by rw [hW0]; exact HR.out.below (Below.refl _ _).drew : RdOk W0 w.heap.size _)
    have YW0 : Hid (Below w.heap.size w W0) := hidI (by rw [hW0]; exact bthen HB.out (Below.refl _ _).drew)
    clear hW0
    obtain ⟨s2, hs2, AA⟩ := add_any ⟨#[40]⟩ s0 (by decide) (by omega)
    have hs2' : s2.size ≤ 151 := by rw [hs2]; have : ByteArray.size ⟨#[40]⟩ = 1 := rfl; omega
    clear hs2
    obtain ⟨s3, hs3, AB⟩ := add_any s2 ⟨#[41]⟩ (by omega) (by decide)
    have hs3' : s3.size ≤ 152 := by rw [hs3]; have : ByteArray.size ⟨#[41]⟩ = 1 := rfl; omega
    clear hs3
    refine take_at (i := 0) (v := ?_) 14 rfl rfl (by kernel_rfl) (by kernel_rfl) (by kernel_rfl) (fun _ _ _ h => h) (Or.inl ⟨by rfl, ?_⟩) ?_
    rotate_left
    · intro w; go_simp; try with_reducible rfl
    (try simp only [Act.put, List.setIfInBounds_toArray, List.set_cons_zero, List.set_cons_succ])
    refine take_at (i := 1) (v := ?_) 15 rfl rfl (by kernel_rfl) (by kernel_rfl) (by kernel_rfl) (fun _ _ _ h => h) (Or.inl ⟨by rfl, ?_⟩) ?_
    rotate_left
    · intro w; go_simp; try with_reducible rfl
    (try simp only [Act.put, List.setIfInBounds_toArray, List.set_cons_zero, List.set_cons_succ])
    refine take_at (i := 2) (v := ?_) 16 rfl rfl (by kernel_rfl) (by kernel_rfl) (by kernel_rfl) (fun _ _ _ h => h) (Or.inl ⟨by rfl, ?_⟩) ?_
    rotate_left
    · intro w; go_simp; try with_reducible rfl
    (try simp only [Act.put, List.setIfInBounds_toArray, List.set_cons_zero, List.set_cons_succ])
    refine take_at (i := 4) (v := ?_) 18 rfl rfl (by kernel_rfl) (by kernel_rfl) (by kernel_rfl) (fun _ _ _ h => h) (Or.inl ⟨by rfl, ?_⟩) ?_
    rotate_left
    · intro w; go_simp; try with_reducible rfl
    (try simp only [Act.put, List.setIfInBounds_toArray, List.set_cons_zero, List.set_cons_succ])
    refine take_at (i := 9) (v := ?_) 23 rfl rfl (by kernel_rfl) (by kernel_rfl) (by kernel_rfl) (fun _ _ _ h => h) (Or.inl ⟨by rfl, ?_⟩) ?_
    rotate_left
    · intro w; go_simp; try with_reducible rfl
    (try simp only [Act.put, List.setIfInBounds_toArray, List.set_cons_zero, List.set_cons_succ])
    refine wpAny_ready (rs := [3, 5]) (by kernel_rfl) (by simp) ?_
    refine (AllReady.cons rfl (fun K hK => ?_) (AllReady.cons rfl (fun K hK => ?_) AllReady.nil))
    · skip
      go_simp
      refine hK _ _ ?_; clear hK K
      obtain ⟨x1, hW⟩ : ∃ x, x = World.alloc W0 (.cells #[.string ⟨#[38]⟩, .string ⟨#[124]⟩] 9) := ⟨_, rfl⟩
      rw [← hW]
      obtain ⟨gB, hgg⟩ : ∃ g, g = W0.heap.size := ⟨_, rfl⟩
      rw [← hgg]
      have hbr : w.heap.size < gB := by have := HR.out.lt; omega
      have cb0 : x1.cell? ⟨gB, 0, none⟩ = some (.string ⟨#[38]⟩) := by rw [hW]; exact cell_at hgg rfl
      have cb1 : x1.cell? ⟨gB, 1, none⟩ = some (.string ⟨#[124]⟩) := by rw [hW]; exact cell_at hgg rfl
      have Yx1 : Hid (Below w.heap.size w x1) := hidI (by rw [hW]; exact YW0.out.alloc YW0.out.size _)
      have HR := hidI (by rw [hW]; exact HR.out.below ((Below.refl _ _).alloc (Nat.le_refl _) _) : RdOk x1 w.heap.size _)
      clear hW hgg
      refine wpAny_ready (rs := [5]) (by kernel_rfl) (by simp) ?_
      refine (AllReady.cons rfl (fun K hK => ?_) AllReady.nil)
      go_simp
      go_at_call 50
      refine (spec_pickI w.heap.size _ 2 _ HR.out (by omega) (by omega) (by omega)).mono ?_; rintro e x2 ⟨k, rfl, hk, hr, hg⟩
      dsimp only
      refine hK _ _ ?_; clear hK K
      have cb0 : x2.cell? ⟨gB, 0, none⟩ = _ := (hg.cell_far ⟨gB, 0, none⟩ (cell_lt' cb0) (by intro e; injection e with e; dsimp only at e; omega)).trans cb0
      have cb1 : x2.cell? ⟨gB, 1, none⟩ = _ := (hg.cell_far ⟨gB, 1, none⟩ (cell_lt' cb1) (by intro e; injection e with e; dsimp only at e; omega)).trans cb1
      have HR := hidI hr
      have Yx2 : Hid (Below w.heap.size w x2) := hidI (Yx1.out.grown hg Yx1.out.size (fun k hk => by cases hk; exact Nat.le_refl _))
      clear hr hg
      obtain rfl | rfl : k = 0 ∨ k = 1 := by omega
      · clear hk
        obtain ⟨s4, hs4, AL⟩ := add_any s3 ⟨#[38]⟩ (by omega) (by decide)
        have HS4 : Hid (s4.size ≤ 2000) := hidI (by rw [hs4]; have : ByteArray.size ⟨#[38]⟩ = 1 := rfl; omega); clear hs4
        refine take_at (i := 6) (v := ?_) 20 rfl rfl (by kernel_rfl) (by kernel_rfl) (by kernel_rfl) (fun _ _ _ h => h) (Or.inl ⟨by rfl, ?_⟩) ?_
        rotate_left
        · intro w; go_simp; try with_reducible rfl
        (try simp only [Act.put, List.setIfInBounds_toArray, List.set_cons_zero, List.set_cons_succ])
        refine wpAny_ready (rs := [7, 10]) (by kernel_rfl) (by simp) ?_
        refine (AllReady.cons rfl (fun K hK => ?_) (AllReady.cons rfl (fun K hK => ?_) AllReady.nil))
        · skip
          go_simp
          refine hK _ _ ?_; clear hK K
          clear cb0 cb1 hbr
          refine take_at (i := 8) (v := ?_) 22 rfl rfl (by kernel_rfl) (by kernel_rfl) (by kernel_rfl) (fun _ _ _ h => h) (Or.inl ⟨by rfl, ?_⟩) ?_
          rotate_left
          · intro w; go_simp; try with_reducible rfl
          (try simp only [Act.put, List.setIfInBounds_toArray, List.set_cons_zero, List.set_cons_succ])
          refine wpAny_ready (rs := [10]) (by kernel_rfl) (by simp) ?_
          refine (AllReady.cons rfl (fun K hK => ?_) AllReady.nil)
          go_simp
          go_at_call 56
          refine (spec_l20Code w.heap.size _ 3 0 _ HR.out (by omega) (by omega) (by omega) (by omega) (by omega)).mono ?_; rintro e x3 ⟨g, m, cap, rfl, hm, ho, hr, hg⟩
          dsimp only
          refine hK _ _ ?_; clear hK K
          have HO := hidI ho
          have HR := hidI hr
          have Yx3 : Hid (Below w.heap.size w x3) := hidI (Yx2.out.grown hg Yx2.out.size (fun k hk => by cases hk; exact Nat.le_refl _))
          clear hr hg ho
          refine wpAny_ready (rs := [11]) (by kernel_rfl) (by simp) ?_
          refine (AllReady.cons rfl (fun K hK => ?_) AllReady.nil)
          go_simp
          go_at_call 31
          obtain ⟨cz, hcl, hcz⟩ := HO.out.ints
          refine (spec_CodeText cz _ _ hcz (by omega)).mono ?_; rintro e x4 ⟨rfl, hb⟩
          dsimp only
          refine hK _ _ ?_; clear hK K
          have hcs := TB_code_size cz
          have HCS : Hid ((TB (codeText cz)).size ≤ 150) := hidI hcs
          obtain ⟨st, hst⟩ : ∃ x, x = TB (codeText cz) := ⟨_, rfl⟩
          rw [← hst] at HCS ⊢; clear hst hcs hcz hcl
          have HR := hidI (HR.out.below hb)
          have Yx4 : Hid (Below w.heap.size w x4) := hidI (bthen Yx3.out hb)
          clear hb HO
          obtain ⟨s5, hs5, AT⟩ := add_any s4 st (by have := HS4.out; omega) (by have := HCS.out; omega)
          have HS5 : Hid (s5.size ≤ 4000) := hidI (by rw [hs5]; have := HS4.out; have := HCS.out; omega); clear hs5
          refine take_at (i := 12) (v := ?_) 26 rfl rfl (by kernel_rfl) (by kernel_rfl) (by kernel_rfl) (fun _ _ _ h => h) (Or.inl ⟨by rfl, ?_⟩) ?_
          rotate_left
          · intro w; go_simp; try with_reducible rfl
          (try simp only [Act.put, List.setIfInBounds_toArray, List.set_cons_zero, List.set_cons_succ])
          refine take_at (i := 13) (v := ?_) 4 rfl rfl (by kernel_rfl) (by kernel_rfl) (by kernel_rfl) (fun _ _ _ h => h) (Or.inl ⟨by rfl, ?_⟩) ?_
          rotate_left
          · intro w; go_simp; try with_reducible rfl
          (try simp only [Act.put, List.setIfInBounds_toArray, List.set_cons_zero, List.set_cons_succ])
          refine wpAny_done (by kernel_rfl) ?_ _
          go_wp2_with fail
          go_meet
          case rel => exact ⟨s5, rfl, HS5.out, hidI (HR.out.mono (by omega)), Yx4⟩
        · skip
          go_simp
          go_at_call 56
          refine (spec_l20Code w.heap.size _ 3 0 _ HR.out (by omega) (by omega) (by omega) (by omega) (by omega)).mono ?_; rintro e x3 ⟨g, m, cap, rfl, hm, ho, hr, hg⟩
          dsimp only
          refine hK _ _ ?_; clear hK K
          have HO := hidI ho
          have cb0 : x3.cell? ⟨gB, 0, none⟩ = _ := (hg.cell_far ⟨gB, 0, none⟩ (cell_lt' cb0) (by intro e; injection e with e; dsimp only at e; omega)).trans cb0
          have cb1 : x3.cell? ⟨gB, 1, none⟩ = _ := (hg.cell_far ⟨gB, 1, none⟩ (cell_lt' cb1) (by intro e; injection e with e; dsimp only at e; omega)).trans cb1
          have HR := hidI hr
          have Yx3 : Hid (Below w.heap.size w x3) := hidI (Yx2.out.grown hg Yx2.out.size (fun k hk => by cases hk; exact Nat.le_refl _))
          clear hr hg ho
          refine wpAny_ready (rs := [7, 11]) (by kernel_rfl) (by simp) ?_
          refine (AllReady.cons rfl (fun K hK => ?_) (AllReady.cons rfl (fun K hK => ?_) AllReady.nil))
          · skip
            go_simp
            refine hK _ _ ?_; clear hK K
            clear cb0 cb1 hbr
            refine take_at (i := 8) (v := ?_) 22 rfl rfl (by kernel_rfl) (by kernel_rfl) (by kernel_rfl) (fun _ _ _ h => h) (Or.inl ⟨by rfl, ?_⟩) ?_
            rotate_left
            · intro w; go_simp; try with_reducible rfl
            (try simp only [Act.put, List.setIfInBounds_toArray, List.set_cons_zero, List.set_cons_succ])
            refine wpAny_ready (rs := [11]) (by kernel_rfl) (by simp) ?_
            refine (AllReady.cons rfl (fun K hK => ?_) AllReady.nil)
            go_simp
            go_at_call 31
            obtain ⟨cz, hcl, hcz⟩ := HO.out.ints
            refine (spec_CodeText cz _ _ hcz (by omega)).mono ?_; rintro e x4 ⟨rfl, hb⟩
            dsimp only
            refine hK _ _ ?_; clear hK K
            have hcs := TB_code_size cz
            have HCS : Hid ((TB (codeText cz)).size ≤ 150) := hidI hcs
            obtain ⟨st, hst⟩ : ∃ x, x = TB (codeText cz) := ⟨_, rfl⟩
            rw [← hst] at HCS ⊢; clear hst hcs hcz hcl
            have HR := hidI (HR.out.below hb)
            have Yx4 : Hid (Below w.heap.size w x4) := hidI (bthen Yx3.out hb)
            clear hb HO
            obtain ⟨s5, hs5, AT⟩ := add_any s4 st (by have := HS4.out; omega) (by have := HCS.out; omega)
            have HS5 : Hid (s5.size ≤ 4000) := hidI (by rw [hs5]; have := HS4.out; have := HCS.out; omega); clear hs5
            refine take_at (i := 12) (v := ?_) 26 rfl rfl (by kernel_rfl) (by kernel_rfl) (by kernel_rfl) (fun _ _ _ h => h) (Or.inl ⟨by rfl, ?_⟩) ?_
            rotate_left
            · intro w; go_simp; try with_reducible rfl
            (try simp only [Act.put, List.setIfInBounds_toArray, List.set_cons_zero, List.set_cons_succ])
            refine take_at (i := 13) (v := ?_) 4 rfl rfl (by kernel_rfl) (by kernel_rfl) (by kernel_rfl) (fun _ _ _ h => h) (Or.inl ⟨by rfl, ?_⟩) ?_
            rotate_left
            · intro w; go_simp; try with_reducible rfl
            (try simp only [Act.put, List.setIfInBounds_toArray, List.set_cons_zero, List.set_cons_succ])
            refine wpAny_done (by kernel_rfl) ?_ _
            go_wp2_with fail
            go_meet
            case rel => exact ⟨s5, rfl, HS5.out, hidI (HR.out.mono (by omega)), Yx4⟩
          · skip
            go_simp
            go_at_call 31
            obtain ⟨cz, hcl, hcz⟩ := HO.out.ints
            refine (spec_CodeText cz _ _ hcz (by omega)).mono ?_; rintro e x4 ⟨rfl, hb⟩
            dsimp only
            refine hK _ _ ?_; clear hK K
            have hcs := TB_code_size cz
            have HCS : Hid ((TB (codeText cz)).size ≤ 150) := hidI hcs
            obtain ⟨st, hst⟩ : ∃ x, x = TB (codeText cz) := ⟨_, rfl⟩
            rw [← hst] at HCS ⊢; clear hst hcs hcz hcl
            have HR := hidI (HR.out.below hb)
            have cb0 : x4.cell? ⟨gB, 0, none⟩ = _ := (hb.cell (cell_lt' cb0)).trans cb0
            have cb1 : x4.cell? ⟨gB, 1, none⟩ = _ := (hb.cell (cell_lt' cb1)).trans cb1
            have Yx4 : Hid (Below w.heap.size w x4) := hidI (bthen Yx3.out hb)
            clear hb HO
            refine wpAny_ready (rs := [7]) (by kernel_rfl) (by simp) ?_
            refine (AllReady.cons rfl (fun K hK => ?_) AllReady.nil)
            go_simp
            refine hK _ _ ?_; clear hK K
            clear cb0 cb1 hbr
            refine take_at (i := 8) (v := ?_) 22 rfl rfl (by kernel_rfl) (by kernel_rfl) (by kernel_rfl) (fun _ _ _ h => h) (Or.inl ⟨by rfl, ?_⟩) ?_
            rotate_left
            · intro w; go_simp; try with_reducible rfl
            (try simp only [Act.put, List.setIfInBounds_toArray, List.set_cons_zero, List.set_cons_succ])
            obtain ⟨s5, hs5, AT⟩ := add_any s4 st (by have := HS4.out; omega) (by have := HCS.out; omega)
            have HS5 : Hid (s5.size ≤ 4000) := hidI (by rw [hs5]; have := HS4.out; have := HCS.out; omega); clear hs5
            refine take_at (i := 12) (v := ?_) 26 rfl rfl (by kernel_rfl) (by kernel_rfl) (by kernel_rfl) (fun _ _ _ h => h) (Or.inl ⟨by rfl, ?_⟩) ?_
            rotate_left
            · intro w; go_simp; try with_reducible rfl
            (try simp only [Act.put, List.setIfInBounds_toArray, List.set_cons_zero, List.set_cons_succ])
            refine take_at (i := 13) (v := ?_) 4 rfl rfl (by kernel_rfl) (by kernel_rfl) (by kernel_rfl) (fun _ _ _ h => h) (Or.inl ⟨by rfl, ?_⟩) ?_
            rotate_left
            · intro w; go_simp; try with_reducible rfl
            (try simp only [Act.put, List.setIfInBounds_toArray, List.set_cons_zero, List.set_cons_succ])
            refine wpAny_done (by kernel_rfl) ?_ _
            go_wp2_with fail
            go_meet
            case rel => exact ⟨s5, rfl, HS5.out, hidI (HR.out.mono (by omega)), Yx4⟩
      · clear hk
        obtain ⟨s4, hs4, AL⟩ := add_any s3 ⟨#[124]⟩ (by omega) (by decide)
        have HS4 : Hid (s4.size ≤ 2000) := hidI (by rw [hs4]; have : ByteArray.size ⟨#[124]⟩ = 1 := rfl; omega); clear hs4
        refine take_at (i := 6) (v := ?_) 20 rfl rfl (by kernel_rfl) (by kernel_rfl) (by kernel_rfl) (fun _ _ _ h => h) (Or.inl ⟨by rfl, ?_⟩) ?_
        rotate_left
        · intro w; go_simp; try with_reducible rfl
        (try simp only [Act.put, List.setIfInBounds_toArray, List.set_cons_zero, List.set_cons_succ])
        refine wpAny_ready (rs := [7, 10]) (by kernel_rfl) (by simp) ?_
        refine (AllReady.cons rfl (fun K hK => ?_) (AllReady.cons rfl (fun K hK => ?_) AllReady.nil))
        · skip
          go_simp
          refine hK _ _ ?_; clear hK K
          clear cb0 cb1 hbr
          refine take_at (i := 8) (v := ?_) 22 rfl rfl (by kernel_rfl) (by kernel_rfl) (by kernel_rfl) (fun _ _ _ h => h) (Or.inl ⟨by rfl, ?_⟩) ?_
          rotate_left
          · intro w; go_simp; try with_reducible rfl
          (try simp only [Act.put, List.setIfInBounds_toArray, List.set_cons_zero, List.set_cons_succ])
          refine wpAny_ready (rs := [10]) (by kernel_rfl) (by simp) ?_
          refine (AllReady.cons rfl (fun K hK => ?_) AllReady.nil)
          go_simp
          go_at_call 56
          refine (spec_l20Code w.heap.size _ 3 0 _ HR.out (by omega) (by omega) (by omega) (by omega) (by omega)).mono ?_; rintro e x3 ⟨g, m, cap, rfl, hm, ho, hr, hg⟩
          dsimp only
          refine hK _ _ ?_; clear hK K
          have HO := hidI ho
          have HR := hidI hr
          have Yx3 : Hid (Below w.heap.size w x3) := hidI (Yx2.out.grown hg Yx2.out.size (fun k hk => by cases hk; exact Nat.le_refl _))
          clear hr hg ho
          refine wpAny_ready (rs := [11]) (by kernel_rfl) (by simp) ?_
          refine (AllReady.cons rfl (fun K hK => ?_) AllReady.nil)
          go_simp
          go_at_call 31
          obtain ⟨cz, hcl, hcz⟩ := HO.out.ints
          refine (spec_CodeText cz _ _ hcz (by omega)).mono ?_; rintro e x4 ⟨rfl, hb⟩
          dsimp only
          refine hK _ _ ?_; clear hK K
          have hcs := TB_code_size cz
          have HCS : Hid ((TB (codeText cz)).size ≤ 150) := hidI hcs
          obtain ⟨st, hst⟩ : ∃ x, x = TB (codeText cz) := ⟨_, rfl⟩
          rw [← hst] at HCS ⊢; clear hst hcs hcz hcl
          have HR := hidI (HR.out.below hb)
          have Yx4 : Hid (Below w.heap.size w x4) := hidI (bthen Yx3.out hb)
          clear hb HO
          obtain ⟨s5, hs5, AT⟩ := add_any s4 st (by have := HS4.out; omega) (by have := HCS.out; omega)
          have HS5 : Hid (s5.size ≤ 4000) := hidI (by rw [hs5]; have := HS4.out; have := HCS.out; omega); clear hs5
          refine take_at (i := 12) (v := ?_) 26 rfl rfl (by kernel_rfl) (by kernel_rfl) (by kernel_rfl) (fun _ _ _ h => h) (Or.inl ⟨by rfl, ?_⟩) ?_
          rotate_left
          · intro w; go_simp; try with_reducible rfl
          (try simp only [Act.put, List.setIfInBounds_toArray, List.set_cons_zero, List.set_cons_succ])
          refine take_at (i := 13) (v := ?_) 4 rfl rfl (by kernel_rfl) (by kernel_rfl) (by kernel_rfl) (fun _ _ _ h => h) (Or.inl ⟨by rfl, ?_⟩) ?_
          rotate_left
          · intro w; go_simp; try with_reducible rfl
          (try simp only [Act.put, List.setIfInBounds_toArray, List.set_cons_zero, List.set_cons_succ])
          refine wpAny_done (by kernel_rfl) ?_ _
          go_wp2_with fail
          go_meet
          case rel => exact ⟨s5, rfl, HS5.out, hidI (HR.out.mono (by omega)), Yx4⟩
        · skip
          go_simp
          go_at_call 56
          refine (spec_l20Code w.heap.size _ 3 0 _ HR.out (by omega) (by omega) (by omega) (by omega) (by omega)).mono ?_; rintro e x3 ⟨g, m, cap, rfl, hm, ho, hr, hg⟩
          dsimp only
          refine hK _ _ ?_; clear hK K
          have HO := hidI ho
          have cb0 : x3.cell? ⟨gB, 0, none⟩ = _ := (hg.cell_far ⟨gB, 0, none⟩ (cell_lt' cb0) (by intro e; injection e with e; dsimp only at e; omega)).trans cb0
          have cb1 : x3.cell? ⟨gB, 1, none⟩ = _ := (hg.cell_far ⟨gB, 1, none⟩ (cell_lt' cb1) (by intro e; injection e with e; dsimp only at e; omega)).trans cb1
          have HR := hidI hr
          have Yx3 : Hid (Below w.heap.size w x3) := hidI (Yx2.out.grown hg Yx2.out.size (fun k hk => by cases hk; exact Nat.le_refl _))
          clear hr hg ho
          refine wpAny_ready (rs := [7, 11]) (by kernel_rfl) (by simp) ?_
          refine (AllReady.cons rfl (fun K hK => ?_) (AllReady.cons rfl (fun K hK => ?_) AllReady.nil))
          · skip
            go_simp
            refine hK _ _ ?_; clear hK K
            clear cb0 cb1 hbr
            refine take_at (i := 8) (v := ?_) 22 rfl rfl (by kernel_rfl) (by kernel_rfl) (by kernel_rfl) (fun _ _ _ h => h) (Or.inl ⟨by rfl, ?_⟩) ?_
            rotate_left
            · intro w; go_simp; try with_reducible rfl
            (try simp only [Act.put, List.setIfInBounds_toArray, List.set_cons_zero, List.set_cons_succ])
            refine wpAny_ready (rs := [11]) (by kernel_rfl) (by simp) ?_
            refine (AllReady.cons rfl (fun K hK => ?_) AllReady.nil)
            go_simp
            go_at_call 31
            obtain ⟨cz, hcl, hcz⟩ := HO.out.ints
            refine (spec_CodeText cz _ _ hcz (by omega)).mono ?_; rintro e x4 ⟨rfl, hb⟩
            dsimp only
            refine hK _ _ ?_; clear hK K
            have hcs := TB_code_size cz
            have HCS : Hid ((TB (codeText cz)).size ≤ 150) := hidI hcs
            obtain ⟨st, hst⟩ : ∃ x, x = TB (codeText cz) := ⟨_, rfl⟩
            rw [← hst] at HCS ⊢; clear hst hcs hcz hcl
            have HR := hidI (HR.out.below hb)
            have Yx4 : Hid (Below w.heap.size w x4) := hidI (bthen Yx3.out hb)
            clear hb HO
            obtain ⟨s5, hs5, AT⟩ := add_any s4 st (by have := HS4.out; omega) (by have := HCS.out; omega)
            have HS5 : Hid (s5.size ≤ 4000) := hidI (by rw [hs5]; have := HS4.out; have := HCS.out; omega); clear hs5
            refine take_at (i := 12) (v := ?_) 26 rfl rfl (by kernel_rfl) (by kernel_rfl) (by kernel_rfl) (fun _ _ _ h => h) (Or.inl ⟨by rfl, ?_⟩) ?_
            rotate_left
            · intro w; go_simp; try with_reducible rfl
            (try simp only [Act.put, List.setIfInBounds_toArray, List.set_cons_zero, List.set_cons_succ])
            refine take_at (i := 13) (v := ?_) 4 rfl rfl (by kernel_rfl) (by kernel_rfl) (by kernel_rfl) (fun _ _ _ h => h) (Or.inl ⟨by rfl, ?_⟩) ?_
            rotate_left
            · intro w; go_simp; try with_reducible rfl
            (try simp only [Act.put, List.setIfInBounds_toArray, List.set_cons_zero, List.set_cons_succ])
            refine wpAny_done (by kernel_rfl) ?_ _
            go_wp2_with fail
            go_meet
            case rel => exact ⟨s5, rfl, HS5.out, hidI (HR.out.mono (by omega)), Yx4⟩
          · skip
            go_simp
            go_at_call 31
            obtain ⟨cz, hcl, hcz⟩ := HO.out.ints
            refine (spec_CodeText cz _ _ hcz (by omega)).mono ?_; rintro e x4 ⟨rfl, hb⟩
            dsimp only
            refine hK _ _ ?_; clear hK K
            have hcs := TB_code_size cz
            have HCS : Hid ((TB (codeText cz)).size ≤ 150) := hidI hcs
            obtain ⟨st, hst⟩ : ∃ x, x = TB (codeText cz) := ⟨_, rfl⟩
            rw [← hst] at HCS ⊢; clear hst hcs hcz hcl
            have HR := hidI (HR.out.below hb)
            have cb0 : x4.cell? ⟨gB, 0, none⟩ = _ := (hb.cell (cell_lt' cb0)).trans cb0
            have cb1 : x4.cell? ⟨gB, 1, none⟩ = _ := (hb.cell (cell_lt' cb1)).trans cb1
            have Yx4 : Hid (Below w.heap.size w x4) := hidI (bthen Yx3.out hb)
            clear hb HO
            refine wpAny_ready (rs := [7]) (by kernel_rfl) (by simp) ?_
            refine (AllReady.cons rfl (fun K hK => ?_) AllReady.nil)
            go_simp
            refine hK _ _ ?_; clear hK K
            clear cb0 cb1 hbr
            refine take_at (i := 8) (v := ?_) 22 rfl rfl (by kernel_rfl) (by kernel_rfl) (by kernel_rfl) (fun _ _ _ h => h) (Or.inl ⟨by rfl, ?_⟩) ?_
            rotate_left
            · intro w; go_simp; try with_reducible rfl
            (try simp only [Act.put, List.setIfInBounds_toArray, List.set_cons_zero, List.set_cons_succ])
            obtain ⟨s5, hs5, AT⟩ := add_any s4 st (by have := HS4.out; omega) (by have := HCS.out; omega)
            have HS5 : Hid (s5.size ≤ 4000) := hidI (by rw [hs5]; have := HS4.out; have := HCS.out; omega); clear hs5
            refine take_at (i := 12) (v := ?_) 26 rfl rfl (by kernel_rfl) (by kernel_rfl) (by kernel_rfl) (fun _ _ _ h => h) (Or.inl ⟨by rfl, ?_⟩) ?_
            rotate_left
            · intro w; go_simp; try with_reducible rfl
            (try simp only [Act.put, List.setIfInBounds_toArray, List.set_cons_zero, List.set_cons_succ])
            refine take_at (i := 13) (v := ?_) 4 rfl rfl (by kernel_rfl) (by kernel_rfl) (by kernel_rfl) (fun _ _ _ h => h) (Or.inl ⟨by rfl, ?_⟩) ?_
            rotate_left
            · intro w; go_simp; try with_reducible rfl
            (try simp only [Act.put, List.setIfInBounds_toArray, List.set_cons_zero, List.set_cons_succ])
            refine wpAny_done (by kernel_rfl) ?_ _
            go_wp2_with fail
            go_meet
            case rel => exact ⟨s5, rfl, HS5.out, hidI (HR.out.mono (by omega)), Yx4⟩
    · skip
      go_simp
      go_at_call 50
      refine (spec_pickI w.heap.size _ 2 _ HR.out (by omega) (by omega) (by omega)).mono ?_; rintro e x1 ⟨k, rfl, hk, hr, hg⟩
      dsimp only
      refine hK _ _ ?_; clear hK K
      have HR := hidI hr
      have Yx1 : Hid (Below w.heap.size w x1) := hidI (YW0.out.grown hg YW0.out.size (fun k hk => by cases hk; exact Nat.le_refl _))
      clear hr hg
      obtain rfl | rfl : k = 0 ∨ k = 1 := by omega
      · clear hk
        obtain ⟨s4, hs4, AL⟩ := add_any s3 ⟨#[38]⟩ (by omega) (by decide)
        have HS4 : Hid (s4.size ≤ 2000) := hidI (by rw [hs4]; have : ByteArray.size ⟨#[38]⟩ = 1 := rfl; omega); clear hs4
        refine wpAny_ready (rs := [3, 10]) (by kernel_rfl) (by simp) ?_
        refine (AllReady.cons rfl (fun K hK => ?_) (AllReady.cons rfl (fun K hK => ?_) AllReady.nil))
        · skip
          go_simp
          refine hK _ _ ?_; clear hK K
          obtain ⟨x2, hW⟩ : ∃ x, x = World.alloc x1 (.cells #[.string ⟨#[38]⟩, .string ⟨#[124]⟩] 9) := ⟨_, rfl⟩
          rw [← hW]
          obtain ⟨gB, hgg⟩ : ∃ g, g = x1.heap.size := ⟨_, rfl⟩
          rw [← hgg]
          have hbr : w.heap.size < gB := by have := HR.out.lt; omega
          have cb0 : x2.cell? ⟨gB, 0, none⟩ = some (.string ⟨#[38]⟩) := by rw [hW]; exact cell_at hgg rfl
          have cb1 : x2.cell? ⟨gB, 1, none⟩ = some (.string ⟨#[124]⟩) := by rw [hW]; exact cell_at hgg rfl
          have Yx2 : Hid (Below w.heap.size w x2) := hidI (by rw [hW]; exact Yx1.out.alloc Yx1.out.size _)
          have HR := hidI (by rw [hW]; exact HR.out.below ((Below.refl _ _).alloc (Nat.le_refl _) _) : RdOk x2 w.heap.size _)
          clear hW hgg
          refine take_at (i := 6) (v := ?_) 20 rfl rfl (by kernel_rfl) (by kernel_rfl) (by kernel_rfl) (fun _ _ _ h => h) (Or.inl ⟨by rfl, ?_⟩) ?_
          rotate_left
          · intro w; go_simp; try with_reducible rfl
          (try simp only [Act.put, List.setIfInBounds_toArray, List.set_cons_zero, List.set_cons_succ])
          refine wpAny_ready (rs := [7, 10]) (by kernel_rfl) (by simp) ?_
          refine (AllReady.cons rfl (fun K hK => ?_) (AllReady.cons rfl (fun K hK => ?_) AllReady.nil))
          · skip
            go_simp
            refine hK _ _ ?_; clear hK K
            clear cb0 cb1 hbr
            refine take_at (i := 8) (v := ?_) 22 rfl rfl (by kernel_rfl) (by kernel_rfl) (by kernel_rfl) (fun _ _ _ h => h) (Or.inl ⟨by rfl, ?_⟩) ?_
            rotate_left
            · intro w; go_simp; try with_reducible rfl
            (try simp only [Act.put, List.setIfInBounds_toArray, List.set_cons_zero, List.set_cons_succ])
            refine wpAny_ready (rs := [10]) (by kernel_rfl) (by simp) ?_
            refine (AllReady.cons rfl (fun K hK => ?_) AllReady.nil)
            go_simp
            go_at_call 56
            refine (spec_l20Code w.heap.size _ 3 0 _ HR.out (by omega) (by omega) (by omega) (by omega) (by omega)).mono ?_; rintro e x3 ⟨g, m, cap, rfl, hm, ho, hr, hg⟩
            dsimp only
            refine hK _ _ ?_; clear hK K
            have HO := hidI ho
            have HR := hidI hr
            have Yx3 : Hid (Below w.heap.size w x3) := hidI (Yx2.out.grown hg Yx2.out.size (fun k hk => by cases hk; exact Nat.le_refl _))
            clear hr hg ho
            refine wpAny_ready (rs := [11]) (by kernel_rfl) (by simp) ?_
            refine (AllReady.cons rfl (fun K hK => ?_) AllReady.nil)
            go_simp
            go_at_call 31
            obtain ⟨cz, hcl, hcz⟩ := HO.out.ints
            refine (spec_CodeText cz _ _ hcz (by omega)).mono ?_; rintro e x4 ⟨rfl, hb⟩
            dsimp only
            refine hK _ _ ?_; clear hK K
            have hcs := TB_code_size cz
            have HCS : Hid ((TB (codeText cz)).size ≤ 150) := hidI hcs
            obtain ⟨st, hst⟩ : ∃ x, x = TB (codeText cz) := ⟨_, rfl⟩
            rw [← hst] at HCS ⊢; clear hst hcs hcz hcl
            have HR := hidI (HR.out.below hb)
            have Yx4 : Hid (Below w.heap.size w x4) := hidI (bthen Yx3.out hb)
            clear hb HO
            obtain ⟨s5, hs5, AT⟩ := add_any s4 st (by have := HS4.out; omega) (by have := HCS.out; omega)
            have HS5 : Hid (s5.size ≤ 4000) := hidI (by rw [hs5]; have := HS4.out; have := HCS.out; omega); clear hs5
            refine take_at (i := 12) (v := ?_) 26 rfl rfl (by kernel_rfl) (by kernel_rfl) (by kernel_rfl) (fun _ _ _ h => h) (Or.inl ⟨by rfl, ?_⟩) ?_
            rotate_left
            · intro w; go_simp; try with_reducible rfl
            (try simp only [Act.put, List.setIfInBounds_toArray, List.set_cons_zero, List.set_cons_succ])
            refine take_at (i := 13) (v := ?_) 4 rfl rfl (by kernel_rfl) (by kernel_rfl) (by kernel_rfl) (fun _ _ _ h => h) (Or.inl ⟨by rfl, ?_⟩) ?_
            rotate_left
            · intro w; go_simp; try with_reducible rfl
            (try simp only [Act.put, List.setIfInBounds_toArray, List.set_cons_zero, List.set_cons_succ])
            refine wpAny_done (by kernel_rfl) ?_ _
            go_wp2_with fail
            go_meet
            case rel => exact ⟨s5, rfl, HS5.out, hidI (HR.out.mono (by omega)), Yx4⟩
          · skip
            go_simp
            go_at_call 56
            refine (spec_l20Code w.heap.size _ 3 0 _ HR.out (by omega) (by omega) (by omega) (by omega) (by omega)).mono ?_; rintro e x3 ⟨g, m, cap, rfl, hm, ho, hr, hg⟩
            dsimp only
            refine hK _ _ ?_; clear hK K
            have HO := hidI ho
            have cb0 : x3.cell? ⟨gB, 0, none⟩ = _ := (hg.cell_far ⟨gB, 0, none⟩ (cell_lt' cb0) (by intro e; injection e with e; dsimp only at e; omega)).trans cb0
            have cb1 : x3.cell? ⟨gB, 1, none⟩ = _ := (hg.cell_far ⟨gB, 1, none⟩ (cell_lt' cb1) (by intro e; injection e with e; dsimp only at e; omega)).trans cb1
            have HR := hidI hr
            have Yx3 : Hid (Below w.heap.size w x3) := hidI (Yx2.out.grown hg Yx2.out.size (fun k hk => by cases hk; exact Nat.le_refl _))
            clear hr hg ho
            refine wpAny_ready (rs := [7, 11]) (by kernel_rfl) (by simp) ?_
            refine (AllReady.cons rfl (fun K hK => ?_) (AllReady.cons rfl (fun K hK => ?_) AllReady.nil))
            · skip
              go_simp
              refine hK _ _ ?_; clear hK K
              clear cb0 cb1 hbr
              refine take_at (i := 8) (v := ?_) 22 rfl rfl (by kernel_rfl) (by kernel_rfl) (by kernel_rfl) (fun _ _ _ h => h) (Or.inl ⟨by rfl, ?_⟩) ?_
              rotate_left
              · intro w; go_simp; try with_reducible rfl
              (try simp only [Act.put, List.setIfInBounds_toArray, List.set_cons_zero, List.set_cons_succ])
              refine wpAny_ready (rs := [11]) (by kernel_rfl) (by simp) ?_
              refine (AllReady.cons rfl (fun K hK => ?_) AllReady.nil)
              go_simp
              go_at_call 31
              obtain ⟨cz, hcl, hcz⟩ := HO.out.ints
              refine (spec_CodeText cz _ _ hcz (by omega)).mono ?_; rintro e x4 ⟨rfl, hb⟩
              dsimp only
              refine hK _ _ ?_; clear hK K
              have hcs := TB_code_size cz
              have HCS : Hid ((TB (codeText cz)).size ≤ 150) := hidI hcs
              obtain ⟨st, hst⟩ : ∃ x, x = TB (codeText cz) := ⟨_, rfl⟩
              rw [← hst] at HCS ⊢; clear hst hcs hcz hcl
              have HR := hidI (HR.out.below hb)
              have Yx4 : Hid (Below w.heap.size w x4) := hidI (bthen Yx3.out hb)
              clear hb HO
              obtain ⟨s5, hs5, AT⟩ := add_any s4 st (by have := HS4.out; omega) (by have := HCS.out; omega)
              have HS5 : Hid (s5.size ≤ 4000) := hidI (by rw [hs5]; have := HS4.out; have := HCS.out; omega); clear hs5
              refine take_at (i := 12) (v := ?_) 26 rfl rfl (by kernel_rfl) (by kernel_rfl) (by kernel_rfl) (fun _ _ _ h => h) (Or.inl ⟨by rfl, ?_⟩) ?_
              rotate_left
              · intro w; go_simp; try with_reducible rfl
              (try simp only [Act.put, List.setIfInBounds_toArray, List.set_cons_zero, List.set_cons_succ])
              refine take_at (i := 13) (v := ?_) 4 rfl rfl (by kernel_rfl) (by kernel_rfl) (by kernel_rfl) (fun _ _ _ h => h) (Or.inl ⟨by rfl, ?_⟩) ?_
              rotate_left
              · intro w; go_simp; try with_reducible rfl
              (try simp only [Act.put, List.setIfInBounds_toArray, List.set_cons_zero, List.set_cons_succ])
              refine wpAny_done (by kernel_rfl) ?_ _
              go_wp2_with fail
              go_meet
              case rel => exact ⟨s5, rfl, HS5.out, hidI (HR.out.mono (by omega)), Yx4⟩
            · skip
              go_simp
              go_at_call 31
              obtain ⟨cz, hcl, hcz⟩ := HO.out.ints
              refine (spec_CodeText cz _ _ hcz (by omega)).mono ?_; rintro e x4 ⟨rfl, hb⟩
              dsimp only
              refine hK _ _ ?_; clear hK K
              have hcs := TB_code_size cz
              have HCS : Hid ((TB (codeText cz)).size ≤ 150) := hidI hcs
              obtain ⟨st, hst⟩ : ∃ x, x = TB (codeText cz) := ⟨_, rfl⟩
              rw [← hst] at HCS ⊢; clear hst hcs hcz hcl
              have HR := hidI (HR.out.below hb)
              have cb0 : x4.cell? ⟨gB, 0, none⟩ = _ := (hb.cell (cell_lt' cb0)).trans cb0
              have cb1 : x4.cell? ⟨gB, 1, none⟩ = _ := (hb.cell (cell_lt' cb1)).trans cb1
              have Yx4 : Hid (Below w.heap.size w x4) := hidI (bthen Yx3.out hb)
              clear hb HO
              refine wpAny_ready (rs := [7]) (by kernel_rfl) (by simp) ?_
              refine (AllReady.cons rfl (fun K hK => ?_) AllReady.nil)
              go_simp
              refine hK _ _ ?_; clear hK K
              clear cb0 cb1 hbr
              refine take_at (i := 8) (v := ?_) 22 rfl rfl (by kernel_rfl) (by kernel_rfl) (by kernel_rfl) (fun _ _ _ h => h) (Or.inl ⟨by rfl, ?_⟩) ?_
              rotate_left
              · intro w; go_simp; try with_reducible rfl
              (try simp only [Act.put, List.setIfInBounds_toArray, List.set_cons_zero, List.set_cons_succ])
              obtain ⟨s5, hs5, AT⟩ := add_any s4 st (by have := HS4.out; omega) (by have := HCS.out; omega)
              have HS5 : Hid (s5.size ≤ 4000) := hidI (by rw [hs5]; have := HS4.out; have := HCS.out; omega); clear hs5
              refine take_at (i := 12) (v := ?_) 26 rfl rfl (by kernel_rfl) (by kernel_rfl) (by kernel_rfl) (fun _ _ _ h => h) (Or.inl ⟨by rfl, ?_⟩) ?_
              rotate_left
              · intro w; go_simp; try with_reducible rfl
              (try simp only [Act.put, List.setIfInBounds_toArray, List.set_cons_zero, List.set_cons_succ])
              refine take_at (i := 13) (v := ?_) 4 rfl rfl (by kernel_rfl) (by kernel_rfl) (by kernel_rfl) (fun _ _ _ h => h) (Or.inl ⟨by rfl, ?_⟩) ?_
              rotate_left
              · intro w; go_simp; try with_reducible rfl
              (try simp only [Act.put, List.setIfInBounds_toArray, List.set_cons_zero, List.set_cons_succ])
              refine wpAny_done (by kernel_rfl) ?_ _
              go_wp2_with fail
              go_meet
              case rel => exact ⟨s5, rfl, HS5.out, hidI (HR.out.mono (by omega)), Yx4⟩
        · skip
          go_simp
          go_at_call 56
          refine (spec_l20Code w.heap.size _ 3 0 _ HR.out (by omega) (by omega) (by omega) (by omega) (by omega)).mono ?_; rintro e x2 ⟨g, m, cap, rfl, hm, ho, hr, hg⟩
          dsimp only
          refine hK _ _ ?_; clear hK K
          have HO := hidI ho
          have HR := hidI hr
          have Yx2 : Hid (Below w.heap.size w x2) := hidI (Yx1.out.grown hg Yx1.out.size (fun k hk => by cases hk; exact Nat.le_refl _))
          clear hr hg ho
          refine wpAny_ready (rs := [3, 11]) (by kernel_rfl) (by simp) ?_
          refine (AllReady.cons rfl (fun K hK => ?_) (AllReady.cons rfl (fun K hK => ?_) AllReady.nil))
          · skip
            go_simp
            refine hK _ _ ?_; clear hK K
            obtain ⟨x3, hW⟩ : ∃ x, x = World.alloc x2 (.cells #[.string ⟨#[38]⟩, .string ⟨#[124]⟩] 9) := ⟨_, rfl⟩
            rw [← hW]
            obtain ⟨gB, hgg⟩ : ∃ g, g = x2.heap.size := ⟨_, rfl⟩
            rw [← hgg]
            have hbr : w.heap.size < gB := by have := HR.out.lt; omega
            have cb0 : x3.cell? ⟨gB, 0, none⟩ = some (.string ⟨#[38]⟩) := by rw [hW]; exact cell_at hgg rfl
            have cb1 : x3.cell? ⟨gB, 1, none⟩ = some (.string ⟨#[124]⟩) := by rw [hW]; exact cell_at hgg rfl
            have Yx3 : Hid (Below w.heap.size w x3) := hidI (by rw [hW]; exact Yx2.out.alloc Yx2.out.size _)
            have HR := hidI (by rw [hW]; exact HR.out.below ((Below.refl _ _).alloc (Nat.le_refl _) _) : RdOk x3 w.heap.size _)
            have HO := hidI (by rw [hW]; exact HO.out.alloc _ : OutS x3 _ _ _ _)
            clear hW hgg
            refine take_at (i := 6) (v := ?_) 20 rfl rfl (by kernel_rfl) (by kernel_rfl) (by kernel_rfl) (fun _ _ _ h => h) (Or.inl ⟨by rfl, ?_⟩) ?_
            rotate_left
            · intro w; go_simp; try with_reducible rfl
            (try simp only [Act.put, List.setIfInBounds_toArray, List.set_cons_zero, List.set_cons_succ])
            refine wpAny_ready (rs := [7, 11]) (by kernel_rfl) (by simp) ?_
            refine (AllReady.cons rfl (fun K hK => ?_) (AllReady.cons rfl (fun K hK => ?_) AllReady.nil))
            · skip
              go_simp
              refine hK _ _ ?_; clear hK K
              clear cb0 cb1 hbr
              refine take_at (i := 8) (v := ?_) 22 rfl rfl (by kernel_rfl) (by kernel_rfl) (by kernel_rfl) (fun _ _ _ h => h) (Or.inl ⟨by rfl, ?_⟩) ?_
              rotate_left
              · intro w; go_simp; try with_reducible rfl
              (try simp only [Act.put, List.setIfInBounds_toArray, List.set_cons_zero, List.set_cons_succ])
              refine wpAny_ready (rs := [11]) (by kernel_rfl) (by simp) ?_
              refine (AllReady.cons rfl (fun K hK => ?_) AllReady.nil)
              go_simp
              go_at_call 31
              obtain ⟨cz, hcl, hcz⟩ := HO.out.ints
              refine (spec_CodeText cz _ _ hcz (by omega)).mono ?_; rintro e x4 ⟨rfl, hb⟩
              dsimp only
              refine hK _ _ ?_; clear hK K
              have hcs := TB_code_size cz
              have HCS : Hid ((TB (codeText cz)).size ≤ 150) := hidI hcs
              obtain ⟨st, hst⟩ : ∃ x, x = TB (codeText cz) := ⟨_, rfl⟩
              rw [← hst] at HCS ⊢; clear hst hcs hcz hcl
              have HR := hidI (HR.out.below hb)
              have Yx4 : Hid (Below w.heap.size w x4) := hidI (bthen Yx3.out hb)
              clear hb HO
              obtain ⟨s5, hs5, AT⟩ := add_any s4 st (by have := HS4.out; omega) (by have := HCS.out; omega)
              have HS5 : Hid (s5.size ≤ 4000) := hidI (by rw [hs5]; have := HS4.out; have := HCS.out; omega); clear hs5
              refine take_at (i := 12) (v := ?_) 26 rfl rfl (by kernel_rfl) (by kernel_rfl) (by kernel_rfl) (fun _ _ _ h => h) (Or.inl ⟨by rfl, ?_⟩) ?_
              rotate_left
              · intro w; go_simp; try with_reducible rfl
              (try simp only [Act.put, List.setIfInBounds_toArray, List.set_cons_zero, List.set_cons_succ])
              refine take_at (i := 13) (v := ?_) 4 rfl rfl (by kernel_rfl) (by kernel_rfl) (by kernel_rfl) (fun _ _ _ h => h) (Or.inl ⟨by rfl, ?_⟩) ?_
              rotate_left
              · intro w; go_simp; try with_reducible rfl
              (try simp only [Act.put, List.setIfInBounds_toArray, List.set_cons_zero, List.set_cons_succ])
              refine wpAny_done (by kernel_rfl) ?_ _
              go_wp2_with fail
              go_meet
              case rel => exact ⟨s5, rfl, HS5.out, hidI (HR.out.mono (by omega)), Yx4⟩
            · skip
              go_simp
              go_at_call 31
              obtain ⟨cz, hcl, hcz⟩ := HO.out.ints
              refine (spec_CodeText cz _ _ hcz (by omega)).mono ?_; rintro e x4 ⟨rfl, hb⟩
              dsimp only
              refine hK _ _ ?_; clear hK K
              have hcs := TB_code_size cz
              have HCS : Hid ((TB (codeText cz)).size ≤ 150) := hidI hcs
              obtain ⟨st, hst⟩ : ∃ x, x = TB (codeText cz) := ⟨_, rfl⟩
              rw [← hst] at HCS ⊢; clear hst hcs hcz hcl
              have HR := hidI (HR.out.below hb)
              have cb0 : x4.cell? ⟨gB, 0, none⟩ = _ := (hb.cell (cell_lt' cb0)).trans cb0
              have cb1 : x4.cell? ⟨gB, 1, none⟩ = _ := (hb.cell (cell_lt' cb1)).trans cb1
              have Yx4 : Hid (Below w.heap.size w x4) := hidI (bthen Yx3.out hb)
              clear hb HO
              refine wpAny_ready (rs := [7]) (by kernel_rfl) (by simp) ?_
              refine (AllReady.cons rfl (fun K hK => ?_) AllReady.nil)
              go_simp
              refine hK _ _ ?_; clear hK K
              clear cb0 cb1 hbr
              refine take_at (i := 8) (v := ?_) 22 rfl rfl (by kernel_rfl) (by kernel_rfl) (by kernel_rfl) (fun _ _ _ h => h) (Or.inl ⟨by rfl, ?_⟩) ?_
              rotate_left
              · intro w; go_simp; try with_reducible rfl
              (try simp only [Act.put, List.setIfInBounds_toArray, List.set_cons_zero, List.set_cons_succ])
              obtain ⟨s5, hs5, AT⟩ := add_any s4 st (by have := HS4.out; omega) (by have := HCS.out; omega)
              have HS5 : Hid (s5.size ≤ 4000) := hidI (by rw [hs5]; have := HS4.out; have := HCS.out; omega); clear hs5
              refine take_at (i := 12) (v := ?_) 26 rfl rfl (by kernel_rfl) (by kernel_rfl) (by kernel_rfl) (fun _ _ _ h => h) (Or.inl ⟨by rfl, ?_⟩) ?_
              rotate_left
              · intro w; go_simp; try with_reducible rfl
              (try simp only [Act.put, List.setIfInBounds_toArray, List.set_cons_zero, List.set_cons_succ])
              refine take_at (i := 13) (v := ?_) 4 rfl rfl (by kernel_rfl) (by kernel_rfl) (by kernel_rfl) (fun _ _ _ h => h) (Or.inl ⟨by rfl, ?_⟩) ?_
              rotate_left
              · intro w; go_simp; try with_reducible rfl
              (try simp only [Act.put, List.setIfInBounds_toArray, List.set_cons_zero, List.set_cons_succ])
              refine wpAny_done (by kernel_rfl) ?_ _
              go_wp2_with fail
              go_meet
              case rel => exact ⟨s5, rfl, HS5.out, hidI (HR.out.mono (by omega)), Yx4⟩
          · skip
            go_simp
            go_at_call 31
            obtain ⟨cz, hcl, hcz⟩ := HO.out.ints
            refine (spec_CodeText cz _ _ hcz (by omega)).mono ?_; rintro e x3 ⟨rfl, hb⟩
            dsimp only
            refine hK _ _ ?_; clear hK K
            have hcs := TB_code_size cz
            have HCS : Hid ((TB (codeText cz)).size ≤ 150) := hidI hcs
            obtain ⟨st, hst⟩ : ∃ x, x = TB (codeText cz) := ⟨_, rfl⟩
            rw [← hst] at HCS ⊢; clear hst hcs hcz hcl
            have HR := hidI (HR.out.below hb)
            have Yx3 : Hid (Below w.heap.size w x3) := hidI (bthen Yx2.out hb)
            clear hb HO
            refine wpAny_ready (rs := [3]) (by kernel_rfl) (by simp) ?_
            refine (AllReady.cons rfl (fun K hK => ?_) AllReady.nil)
            go_simp
            refine hK _ _ ?_; clear hK K
            obtain ⟨x4, hW⟩ : ∃ x, x = World.alloc x3 (.cells #[.string ⟨#[38]⟩, .string ⟨#[124]⟩] 9) := ⟨_, rfl⟩
            rw [← hW]
            obtain ⟨gB, hgg⟩ : ∃ g, g = x3.heap.size := ⟨_, rfl⟩
            rw [← hgg]
            have hbr : w.heap.size < gB := by have := HR.out.lt; omega
            have cb0 : x4.cell? ⟨gB, 0, none⟩ = some (.string ⟨#[38]⟩) := by rw [hW]; exact cell_at hgg rfl
            have cb1 : x4.cell? ⟨gB, 1, none⟩ = some (.string ⟨#[124]⟩) := by rw [hW]; exact cell_at hgg rfl
            have Yx4 : Hid (Below w.heap.size w x4) := hidI (by rw [hW]; exact Yx3.out.alloc Yx3.out.size _)
            have HR := hidI (by rw [hW]; exact HR.out.below ((Below.refl _ _).alloc (Nat.le_refl _) _) : RdOk x4 w.heap.size _)
            clear hW hgg
            refine take_at (i := 6) (v := ?_) 20 rfl rfl (by kernel_rfl) (by kernel_rfl) (by kernel_rfl) (fun _ _ _ h => h) (Or.inl ⟨by rfl, ?_⟩) ?_
            rotate_left
            · intro w; go_simp; try with_reducible rfl
            (try simp only [Act.put, List.setIfInBounds_toArray, List.set_cons_zero, List.set_cons_succ])
            refine wpAny_ready (rs := [7]) (by kernel_rfl) (by simp) ?_
            refine (AllReady.cons rfl (fun K hK => ?_) AllReady.nil)
            go_simp
            refine hK _ _ ?_; clear hK K
            clear cb0 cb1 hbr
            refine take_at (i := 8) (v := ?_) 22 rfl rfl (by kernel_rfl) (by kernel_rfl) (by kernel_rfl) (fun _ _ _ h => h) (Or.inl ⟨by rfl, ?_⟩) ?_
            rotate_left
            · intro w; go_simp; try with_reducible rfl
            (try simp only [Act.put, List.setIfInBounds_toArray, List.set_cons_zero, List.set_cons_succ])
            obtain ⟨s5, hs5, AT⟩ := add_any s4 st (by have := HS4.out; omega) (by have := HCS.out; omega)
            have HS5 : Hid (s5.size ≤ 4000) := hidI (by rw [hs5]; have := HS4.out; have := HCS.out; omega); clear hs5
            refine take_at (i := 12) (v := ?_) 26 rfl rfl (by kernel_rfl) (by kernel_rfl) (by kernel_rfl) (fun _ _ _ h => h) (Or.inl ⟨by rfl, ?_⟩) ?_
            rotate_left
            · intro w; go_simp; try with_reducible rfl
            (try simp only [Act.put, List.setIfInBounds_toArray, List.set_cons_zero, List.set_cons_succ])
            refine take_at (i := 13) (v := ?_) 4 rfl rfl (by kernel_rfl) (by kernel_rfl) (by kernel_rfl) (fun _ _ _ h => h) (Or.inl ⟨by rfl, ?_⟩) ?_
            rotate_left
            · intro w; go_simp; try with_reducible rfl
            (try simp only [Act.put, List.setIfInBounds_toArray, List.set_cons_zero, List.set_cons_succ])
            refine wpAny_done (by kernel_rfl) ?_ _
            go_wp2_with fail
            go_meet
            case rel => exact ⟨s5, rfl, HS5.out, hidI (HR.out.mono (by omega)), Yx4⟩
      · clear hk
        obtain ⟨s4, hs4, AL⟩ := add_any s3 ⟨#[124]⟩ (by omega) (by decide)
        have HS4 : Hid (s4.size ≤ 2000) := hidI (by rw [hs4]; have : ByteArray.size ⟨#[124]⟩ = 1 := rfl; omega); clear hs4
        refine wpAny_ready (rs := [3, 10]) (by kernel_rfl) (by simp) ?_
        refine (AllReady.cons rfl (fun K hK => ?_) (AllReady.cons rfl (fun K hK => ?_) AllReady.nil))
        · skip
          go_simp
          refine hK _ _ ?_; clear hK K
          obtain ⟨x2, hW⟩ : ∃ x, x = World.alloc x1 (.cells #[.string ⟨#[38]⟩, .string ⟨#[124]⟩] 9) := ⟨_, rfl⟩
          rw [← hW]
          obtain ⟨gB, hgg⟩ : ∃ g, g = x1.heap.size := ⟨_, rfl⟩
          rw [← hgg]
          have hbr : w.heap.size < gB := by have := HR.out.lt; omega
          have cb0 : x2.cell? ⟨gB, 0, none⟩ = some (.string ⟨#[38]⟩) := by rw [hW]; exact cell_at hgg rfl
          have cb1 : x2.cell? ⟨gB, 1, none⟩ = some (.string ⟨#[124]⟩) := by rw [hW]; exact cell_at hgg rfl
          have Yx2 : Hid (Below w.heap.size w x2) := hidI (by rw [hW]; exact Yx1.out.alloc Yx1.out.size _)
          have HR := hidI (by rw [hW]; exact HR.out.below ((Below.refl _ _).alloc (Nat.le_refl _) _) : RdOk x2 w.heap.size _)
          clear hW hgg
          refine take_at (i := 6) (v := ?_) 20 rfl rfl (by kernel_rfl) (by kernel_rfl) (by kernel_rfl) (fun _ _ _ h => h) (Or.inl ⟨by rfl, ?_⟩) ?_
          rotate_left
          · intro w; go_simp; try with_reducible rfl
          (try simp only [Act.put, List.setIfInBounds_toArray, List.set_cons_zero, List.set_cons_succ])
          refine wpAny_ready (rs := [7, 10]) (by kernel_rfl) (by simp) ?_
          refine (AllReady.cons rfl (fun K hK => ?_) (AllReady.cons rfl (fun K hK => ?_) AllReady.nil))
          · skip
            go_simp
            refine hK _ _ ?_; clear hK K
            clear cb0 cb1 hbr
            refine take_at (i := 8) (v := ?_) 22 rfl rfl (by kernel_rfl) (by kernel_rfl) (by kernel_rfl) (fun _ _ _ h => h) (Or.inl ⟨by rfl, ?_⟩) ?_
            rotate_left
            · intro w; go_simp; try with_reducible rfl
            (try simp only [Act.put, List.setIfInBounds_toArray, List.set_cons_zero, List.set_cons_succ])
            refine wpAny_ready (rs := [10]) (by kernel_rfl) (by simp) ?_
            refine (AllReady.cons rfl (fun K hK => ?_) AllReady.nil)
            go_simp
            go_at_call 56
            refine (spec_l20Code w.heap.size _ 3 0 _ HR.out (by omega) (by omega) (by omega) (by omega) (by omega)).mono ?_; rintro e x3 ⟨g, m, cap, rfl, hm, ho, hr, hg⟩
            dsimp only
            refine hK _ _ ?_; clear hK K
            have HO := hidI ho
            have HR := hidI hr
            have Yx3 : Hid (Below w.heap.size w x3) := hidI (Yx2.out.grown hg Yx2.out.size (fun k hk => by cases hk; exact Nat.le_refl _))
            clear hr hg ho
            refine wpAny_ready (rs := [11]) (by kernel_rfl) (by simp) ?_
            refine (AllReady.cons rfl (fun K hK => ?_) AllReady.nil)
            go_simp
            go_at_call 31
            obtain ⟨cz, hcl, hcz⟩ := HO.out.ints
            refine (spec_CodeText cz _ _ hcz (by omega)).mono ?_; rintro e x4 ⟨rfl, hb⟩
            dsimp only
            refine hK _ _ ?_; clear hK K
            have hcs := TB_code_size cz
            have HCS : Hid ((TB (codeText cz)).size ≤ 150) := hidI hcs
            obtain ⟨st, hst⟩ : ∃ x, x = TB (codeText cz) := ⟨_, rfl⟩
            rw [← hst] at HCS ⊢; clear hst hcs hcz hcl
            have HR := hidI (HR.out.below hb)
            have Yx4 : Hid (Below w.heap.size w x4) := hidI (bthen Yx3.out hb)
            clear hb HO
            obtain ⟨s5, hs5, AT⟩ := add_any s4 st (by have := HS4.out; omega) (by have := HCS.out; omega)
            have HS5 : Hid (s5.size ≤ 4000) := hidI (by rw [hs5]; have := HS4.out; have := HCS.out; omega); clear hs5
            refine take_at (i := 12) (v := ?_) 26 rfl rfl (by kernel_rfl) (by kernel_rfl) (by kernel_rfl) (fun _ _ _ h => h) (Or.inl ⟨by rfl, ?_⟩) ?_
            rotate_left
            · intro w; go_simp; try with_reducible rfl
            (try simp only [Act.put, List.setIfInBounds_toArray, List.set_cons_zero, List.set_cons_succ])
            refine take_at (i := 13) (v := ?_) 4 rfl rfl (by kernel_rfl) (by kernel_rfl) (by kernel_rfl) (fun _ _ _ h => h) (Or.inl ⟨by rfl, ?_⟩) ?_
            rotate_left
            · intro w; go_simp; try with_reducible rfl
            (try simp only [Act.put, List.setIfInBounds_toArray, List.set_cons_zero, List.set_cons_succ])
            refine wpAny_done (by kernel_rfl) ?_ _
            go_wp2_with fail
            go_meet
            case rel => exact ⟨s5, rfl, HS5.out, hidI (HR.out.mono (by omega)), Yx4⟩
          · skip
            go_simp
            go_at_call 56
            refine (spec_l20Code w.heap.size _ 3 0 _ HR.out (by omega) (by omega) (by omega) (by omega) (by omega)).mono ?_; rintro e x3 ⟨g, m, cap, rfl, hm, ho, hr, hg⟩
            dsimp only
            refine hK _ _ ?_; clear hK K
            have HO := hidI ho
            have cb0 : x3.cell? ⟨gB, 0, none⟩ = _ := (hg.cell_far ⟨gB, 0, none⟩ (cell_lt' cb0) (by intro e; injection e with e; dsimp only at e; omega)).trans cb0
            have cb1 : x3.cell? ⟨gB, 1, none⟩ = _ := (hg.cell_far ⟨gB, 1, none⟩ (cell_lt' cb1) (by intro e; injection e with e; dsimp only at e; omega)).trans cb1
            have HR := hidI hr
            have Yx3 : Hid (Below w.heap.size w x3) := hidI (Yx2.out.grown hg Yx2.out.size (fun k hk => by cases hk; exact Nat.le_refl _))
            clear hr hg ho
            refine wpAny_ready (rs := [7, 11]) (by kernel_rfl) (by simp) ?_
            refine (AllReady.cons rfl (fun K hK => ?_) (AllReady.cons rfl (fun K hK => ?_) AllReady.nil))
            · skip
              go_simp
              refine hK _ _ ?_; clear hK K
              clear cb0 cb1 hbr
              refine take_at (i := 8) (v := ?_) 22 rfl rfl (by kernel_rfl) (by kernel_rfl) (by kernel_rfl) (fun _ _ _ h => h) (Or.inl ⟨by rfl, ?_⟩) ?_
              rotate_left
              · intro w; go_simp; try with_reducible rfl
              (try simp only [Act.put, List.setIfInBounds_toArray, List.set_cons_zero, List.set_cons_succ])
              refine wpAny_ready (rs := [11]) (by kernel_rfl) (by simp) ?_
              refine (AllReady.cons rfl (fun K hK => ?_) AllReady.nil)
              go_simp
              go_at_call 31
              obtain ⟨cz, hcl, hcz⟩ := HO.out.ints
              refine (spec_CodeText cz _ _ hcz (by omega)).mono ?_; rintro e x4 ⟨rfl, hb⟩
              dsimp only
              refine hK _ _ ?_; clear hK K
              have hcs := TB_code_size cz
              have HCS : Hid ((TB (codeText cz)).size ≤ 150) := hidI hcs
              obtain ⟨st, hst⟩ : ∃ x, x = TB (codeText cz) := ⟨_, rfl⟩
              rw [← hst] at HCS ⊢; clear hst hcs hcz hcl
              have HR := hidI (HR.out.below hb)
              have Yx4 : Hid (Below w.heap.size w x4) := hidI (bthen Yx3.out hb)
              clear hb HO
              obtain ⟨s5, hs5, AT⟩ := add_any s4 st (by have := HS4.out; omega) (by have := HCS.out; omega)
              have HS5 : Hid (s5.size ≤ 4000) := hidI (by rw [hs5]; have := HS4.out; have := HCS.out; omega); clear hs5
              refine take_at (i := 12) (v := ?_) 26 rfl rfl (by kernel_rfl) (by kernel_rfl) (by kernel_rfl) (fun _ _ _ h => h) (Or.inl ⟨by rfl, ?_⟩) ?_
              rotate_left
              · intro w; go_simp; try with_reducible rfl
              (try simp only [Act.put, List.setIfInBounds_toArray, List.set_cons_zero, List.set_cons_succ])
              refine take_at (i := 13) (v := ?_) 4 rfl rfl (by kernel_rfl) (by kernel_rfl) (by kernel_rfl) (fun _ _ _ h => h) (Or.inl ⟨by rfl, ?_⟩) ?_
              rotate_left
              · intro w; go_simp; try with_reducible rfl
              (try simp only [Act.put, List.setIfInBounds_toArray, List.set_cons_zero, List.set_cons_succ])
              refine wpAny_done (by kernel_rfl) ?_ _
              go_wp2_with fail
              go_meet
              case rel => exact ⟨s5, rfl, HS5.out, hidI (HR.out.mono (by omega)), Yx4⟩
            · skip
              go_simp
              go_at_call 31
              obtain ⟨cz, hcl, hcz⟩ := HO.out.ints
              refine (spec_CodeText cz _ _ hcz (by omega)).mono ?_; rintro e x4 ⟨rfl, hb⟩
              dsimp only
              refine hK _ _ ?_; clear hK K
              have hcs := TB_code_size cz
              have HCS : Hid ((TB (codeText cz)).size ≤ 150) := hidI hcs
              obtain ⟨st, hst⟩ : ∃ x, x = TB (codeText cz) := ⟨_, rfl⟩
              rw [← hst] at HCS ⊢; clear hst hcs hcz hcl
              have HR := hidI (HR.out.below hb)
              have cb0 : x4.cell? ⟨gB, 0, none⟩ = _ := (hb.cell (cell_lt' cb0)).trans cb0
              have cb1 : x4.cell? ⟨gB, 1, none⟩ = _ := (hb.cell (cell_lt' cb1)).trans cb1
              have Yx4 : Hid (Below w.heap.size w x4) := hidI (bthen Yx3.out hb)
              clear hb HO
              refine wpAny_ready (rs := [7]) (by kernel_rfl) (by simp) ?_
              refine (AllReady.cons rfl (fun K hK => ?_) AllReady.nil)
              go_simp
              refine hK _ _ ?_; clear hK K
              clear cb0 cb1 hbr
              refine take_at (i := 8) (v := ?_) 22 rfl rfl (by kernel_rfl) (by kernel_rfl) (by kernel_rfl) (fun _ _ _ h => h) (Or.inl ⟨by rfl, ?_⟩) ?_
              rotate_left
              · intro w; go_simp; try with_reducible rfl
              (try simp only [Act.put, List.setIfInBounds_toArray, List.set_cons_zero, List.set_cons_succ])
              obtain ⟨s5, hs5, AT⟩ := add_any s4 st (by have := HS4.out; omega) (by have := HCS.out; omega)
              have HS5 : Hid (s5.size ≤ 4000) := hidI (by rw [hs5]; have := HS4.out; have := HCS.out; omega); clear hs5
              refine take_at (i := 12) (v := ?_) 26 rfl rfl (by kernel_rfl) (by kernel_rfl) (by kernel_rfl) (fun _ _ _ h => h) (Or.inl ⟨by rfl, ?_⟩) ?_
              rotate_left
              · intro w; go_simp; try with_reducible rfl
              (try simp only [Act.put, List.setIfInBounds_toArray, List.set_cons_zero, List.set_cons_succ])
              refine take_at (i := 13) (v := ?_) 4 rfl rfl (by kernel_rfl) (by kernel_rfl) (by kernel_rfl) (fun _ _ _ h => h) (Or.inl ⟨by rfl, ?_⟩) ?_
              rotate_left
              · intro w; go_simp; try with_reducible rfl
              (try simp only [Act.put, List.setIfInBounds_toArray, List.set_cons_zero, List.set_cons_succ])
              refine wpAny_done (by kernel_rfl) ?_ _
              go_wp2_with fail
              go_meet
              case rel => exact ⟨s5, rfl, HS5.out, hidI (HR.out.mono (by omega)), Yx4⟩
        · skip
          go_simp
          go_at_call 56
          refine (spec_l20Code w.heap.size _ 3 0 _ HR.out (by omega) (by omega) (by omega) (by omega) (by omega)).mono ?_; rintro e x2 ⟨g, m, cap, rfl, hm, ho, hr, hg⟩
          dsimp only
          refine hK _ _ ?_; clear hK K
          have HO := hidI ho
          have HR := hidI hr
          have Yx2 : Hid (Below w.heap.size w x2) := hidI (Yx1.out.grown hg Yx1.out.size (fun k hk => by cases hk; exact Nat.le_refl _))
          clear hr hg ho
          refine wpAny_ready (rs := [3, 11]) (by kernel_rfl) (by simp) ?_
          refine (AllReady.cons rfl (fun K hK => ?_) (AllReady.cons rfl (fun K hK => ?_) AllReady.nil))
          · skip
            go_simp
            refine hK _ _ ?_; clear hK K
            obtain ⟨x3, hW⟩ : ∃ x, x = World.alloc x2 (.cells #[.string ⟨#[38]⟩, .string ⟨#[124]⟩] 9) := ⟨_, rfl⟩
            rw [← hW]
            obtain ⟨gB, hgg⟩ : ∃ g, g = x2.heap.size := ⟨_, rfl⟩
            rw [← hgg]
            have hbr : w.heap.size < gB := by have := HR.out.lt; omega
            have cb0 : x3.cell? ⟨gB, 0, none⟩ = some (.string ⟨#[38]⟩) := by rw [hW]; exact cell_at hgg rfl
            have cb1 : x3.cell? ⟨gB, 1, none⟩ = some (.string ⟨#[124]⟩) := by rw [hW]; exact cell_at hgg rfl
            have Yx3 : Hid (Below w.heap.size w x3) := hidI (by rw [hW]; exact Yx2.out.alloc Yx2.out.size _)
            have HR := hidI (by rw [hW]; exact HR.out.below ((Below.refl _ _).alloc (Nat.le_refl _) _) : RdOk x3 w.heap.size _)
            have HO := hidI (by rw [hW]; exact HO.out.alloc _ : OutS x3 _ _ _ _)
            clear hW hgg
            refine take_at (i := 6) (v := ?_) 20 rfl rfl (by kernel_rfl) (by kernel_rfl) (by kernel_rfl) (fun _ _ _ h => h) (Or.inl ⟨by rfl, ?_⟩) ?_
            rotate_left
            · intro w; go_simp; try with_reducible rfl
            (try simp only [Act.put, List.setIfInBounds_toArray, List.set_cons_zero, List.set_cons_succ])
            refine wpAny_ready (rs := [7, 11]) (by kernel_rfl) (by simp) ?_
            refine (AllReady.cons rfl (fun K hK => ?_) (AllReady.cons rfl (fun K hK => ?_) AllReady.nil))
            · skip
              go_simp
              refine hK _ _ ?_; clear hK K
              clear cb0 cb1 hbr
              refine take_at (i := 8) (v := ?_) 22 rfl rfl (by kernel_rfl) (by kernel_rfl) (by kernel_rfl) (fun _ _ _ h => h) (Or.inl ⟨by rfl, ?_⟩) ?_
              rotate_left
              · intro w; go_simp; try with_reducible rfl
              (try simp only [Act.put, List.setIfInBounds_toArray, List.set_cons_zero, List.set_cons_succ])
              refine wpAny_ready (rs := [11]) (by kernel_rfl) (by simp) ?_
              refine (AllReady.cons rfl (fun K hK => ?_) AllReady.nil)
              go_simp
              go_at_call 31
              obtain ⟨cz, hcl, hcz⟩ := HO.out.ints
              refine (spec_CodeText cz _ _ hcz (by omega)).mono ?_; rintro e x4 ⟨rfl, hb⟩
              dsimp only
              refine hK _ _ ?_; clear hK K
              have hcs := TB_code_size cz
              have HCS : Hid ((TB (codeText cz)).size ≤ 150) := hidI hcs
              obtain ⟨st, hst⟩ : ∃ x, x = TB (codeText cz) := ⟨_, rfl⟩
              rw [← hst] at HCS ⊢; clear hst hcs hcz hcl
              have HR := hidI (HR.out.below hb)
              have Yx4 : Hid (Below w.heap.size w x4) := hidI (bthen Yx3.out hb)
              clear hb HO
              obtain ⟨s5, hs5, AT⟩ := add_any s4 st (by have := HS4.out; omega) (by have := HCS.out; omega)
              have HS5 : Hid (s5.size ≤ 4000) := hidI (by rw [hs5]; have := HS4.out; have := HCS.out; omega); clear hs5
              refine take_at (i := 12) (v := ?_) 26 rfl rfl (by kernel_rfl) (by kernel_rfl) (by kernel_rfl) (fun _ _ _ h => h) (Or.inl ⟨by rfl, ?_⟩) ?_
              rotate_left
              · intro w; go_simp; try with_reducible rfl
              (try simp only [Act.put, List.setIfInBounds_toArray, List.set_cons_zero, List.set_cons_succ])
              refine take_at (i := 13) (v := ?_) 4 rfl rfl (by kernel_rfl) (by kernel_rfl) (by kernel_rfl) (fun _ _ _ h => h) (Or.inl ⟨by rfl, ?_⟩) ?_
              rotate_left
              · intro w; go_simp; try with_reducible rfl
              (try simp only [Act.put, List.setIfInBounds_toArray, List.set_cons_zero, List.set_cons_succ])
              refine wpAny_done (by kernel_rfl) ?_ _
              go_wp2_with fail
              go_meet
              case rel => exact ⟨s5, rfl, HS5.out, hidI (HR.out.mono (by omega)), Yx4⟩
            · skip
              go_simp
              go_at_call 31
              obtain ⟨cz, hcl, hcz⟩ := HO.out.ints
              refine (spec_CodeText cz _ _ hcz (by omega)).mono ?_; rintro e x4 ⟨rfl, hb⟩
              dsimp only
              refine hK _ _ ?_; clear hK K
              have hcs := TB_code_size cz
              have HCS : Hid ((TB (codeText cz)).size ≤ 150) := hidI hcs
              obtain ⟨st, hst⟩ : ∃ x, x = TB (codeText cz) := ⟨_, rfl⟩
              rw [← hst] at HCS ⊢; clear hst hcs hcz hcl
              have HR := hidI (HR.out.below hb)
              have cb0 : x4.cell? ⟨gB, 0, none⟩ = _ := (hb.cell (cell_lt' cb0)).trans cb0
              have cb1 : x4.cell? ⟨gB, 1, none⟩ = _ := (hb.cell (cell_lt' cb1)).trans cb1
              have Yx4 : Hid (Below w.heap.size w x4) := hidI (bthen Yx3.out hb)
              clear hb HO
              refine wpAny_ready (rs := [7]) (by kernel_rfl) (by simp) ?_
              refine (AllReady.cons rfl (fun K hK => ?_) AllReady.nil)
              go_simp
              refine hK _ _ ?_; clear hK K
              clear cb0 cb1 hbr
              refine take_at (i := 8) (v := ?_) 22 rfl rfl (by kernel_rfl) (by kernel_rfl) (by kernel_rfl) (fun _ _ _ h => h) (Or.inl ⟨by rfl, ?_⟩) ?_
              rotate_left
              · intro w; go_simp; try with_reducible rfl
              (try simp only [Act.put, List.setIfInBounds_toArray, List.set_cons_zero, List.set_cons_succ])
              obtain ⟨s5, hs5, AT⟩ := add_any s4 st (by have := HS4.out; omega) (by have := HCS.out; omega)
              have HS5 : Hid (s5.size ≤ 4000) := hidI (by rw [hs5]; have := HS4.out; have := HCS.out; omega); clear hs5
              refine take_at (i := 12) (v := ?_) 26 rfl rfl (by kernel_rfl) (by kernel_rfl) (by kernel_rfl) (fun _ _ _ h => h) (Or.inl ⟨by rfl, ?_⟩) ?_
              rotate_left
              · intro w; go_simp; try with_reducible rfl
              (try simp only [Act.put, List.setIfInBounds_toArray, List.set_cons_zero, List.set_cons_succ])
              refine take_at (i := 13) (v := ?_) 4 rfl rfl (by kernel_rfl) (by kernel_rfl) (by kernel_rfl) (fun _ _ _ h => h) (Or.inl ⟨by rfl, ?_⟩) ?_
              rotate_left
              · intro w; go_simp; try with_reducible rfl
              (try simp only [Act.put, List.setIfInBounds_toArray, List.set_cons_zero, List.set_cons_succ])
              refine wpAny_done (by kernel_rfl) ?_ _
              go_wp2_with fail
              go_meet
              case rel => exact ⟨s5, rfl, HS5.out, hidI (HR.out.mono (by omega)), Yx4⟩
          · skip
            go_simp
            go_at_call 31
            obtain ⟨cz, hcl, hcz⟩ := HO.out.ints
            refine (spec_CodeText cz _ _ hcz (by omega)).mono ?_; rintro e x3 ⟨rfl, hb⟩
            dsimp only
            refine hK _ _ ?_; clear hK K
            have hcs := TB_code_size cz
            have HCS : Hid ((TB (codeText cz)).size ≤ 150) := hidI hcs
            obtain ⟨st, hst⟩ : ∃ x, x = TB (codeText cz) := ⟨_, rfl⟩
            rw [← hst] at HCS ⊢; clear hst hcs hcz hcl
            have HR := hidI (HR.out.below hb)
            have Yx3 : Hid (Below w.heap.size w x3) := hidI (bthen Yx2.out hb)
            clear hb HO
            refine wpAny_ready (rs := [3]) (by kernel_rfl) (by simp) ?_
            refine (AllReady.cons rfl (fun K hK => ?_) AllReady.nil)
            go_simp
            refine hK _ _ ?_; clear hK K
            obtain ⟨x4, hW⟩ : ∃ x, x = World.alloc x3 (.cells #[.string ⟨#[38]⟩, .string ⟨#[124]⟩] 9) := ⟨_, rfl⟩
            rw [← hW]
            obtain ⟨gB, hgg⟩ : ∃ g, g = x3.heap.size := ⟨_, rfl⟩
            rw [← hgg]
            have hbr : w.heap.size < gB := by have := HR.out.lt; omega
            have cb0 : x4.cell? ⟨gB, 0, none⟩ = some (.string ⟨#[38]⟩) := by rw [hW]; exact cell_at hgg rfl
            have cb1 : x4.cell? ⟨gB, 1, none⟩ = some (.string ⟨#[124]⟩) := by rw [hW]; exact cell_at hgg rfl
            have Yx4 : Hid (Below w.heap.size w x4) := hidI (by rw [hW]; exact Yx3.out.alloc Yx3.out.size _)
            have HR := hidI (by rw [hW]; exact HR.out.below ((Below.refl _ _).alloc (Nat.le_refl _) _) : RdOk x4 w.heap.size _)
            clear hW hgg
            refine take_at (i := 6) (v := ?_) 20 rfl rfl (by kernel_rfl) (by kernel_rfl) (by kernel_rfl) (fun _ _ _ h => h) (Or.inl ⟨by rfl, ?_⟩) ?_
            rotate_left
            · intro w; go_simp; try with_reducible rfl
            (try simp only [Act.put, List.setIfInBounds_toArray, List.set_cons_zero, List.set_cons_succ])
            refine wpAny_ready (rs := [7]) (by kernel_rfl) (by simp) ?_
            refine (AllReady.cons rfl (fun K hK => ?_) AllReady.nil)
            go_simp
            refine hK _ _ ?_; clear hK K
            clear cb0 cb1 hbr
            refine take_at (i := 8) (v := ?_) 22 rfl rfl (by kernel_rfl) (by kernel_rfl) (by kernel_rfl) (fun _ _ _ h => h) (Or.inl ⟨by rfl, ?_⟩) ?_
            rotate_left
            · intro w; go_simp; try with_reducible rfl
            (try simp only [Act.put, List.setIfInBounds_toArray, List.set_cons_zero, List.set_cons_succ])
            obtain ⟨s5, hs5, AT⟩ := add_any s4 st (by have := HS4.out; omega) (by have := HCS.out; omega)
            have HS5 : Hid (s5.size ≤ 4000) := hidI (by rw [hs5]; have := HS4.out; have := HCS.out; omega); clear hs5
            refine take_at (i := 12) (v := ?_) 26 rfl rfl (by kernel_rfl) (by kernel_rfl) (by kernel_rfl) (fun _ _ _ h => h) (Or.inl ⟨by rfl, ?_⟩) ?_
            rotate_left
            · intro w; go_simp; try with_reducible rfl
            (try simp only [Act.put, List.setIfInBounds_toArray, List.set_cons_zero, List.set_cons_succ])
            refine take_at (i := 13) (v := ?_) 4 rfl rfl (by kernel_rfl) (by kernel_rfl) (by kernel_rfl) (fun _ _ _ h => h) (Or.inl ⟨by rfl, ?_⟩) ?_
            rotate_left
            · intro w; go_simp; try with_reducible rfl
            (try simp only [Act.put, List.setIfInBounds_toArray, List.set_cons_zero, List.set_cons_succ])
            refine wpAny_done (by kernel_rfl) ?_ _
            go_wp2_with fail
            go_meet
            case rel => exact ⟨s5, rfl, HS5.out, hidI (HR.out.mono (by omega)), Yx4⟩
  case rest =>
    clear HB HR hs0
    obtain ⟨s0, rfl, hs0, HR, YR⟩ := hcut
    go_wp2_with fail
    go_fit (spec_pickI w.heap.size 500 3 _ HR.out (by omega) (by omega) (by omega)); rintro e w5 ⟨k, rfl, hk, hr, hg⟩
    have HR := hidI hr; have YR := hidI (YR.out.grown hg YR.out.size (fun k hk => by cases hk; exact Nat.le_refl _))
    clear hr hg
    by_cases hk0 : k = 0
    rotate_left
    · have hkb : ((k : Int) == 0) = false := by simp; omega
      go_wp2_with fail
      go_ret
      exact ⟨s0, rfl, by omega, YR.out⟩
    subst hk0
    by_cases hl : 0 < s0.size
    rotate_left
    · have hl0 : s0.size = 0 := by omega
      have hlI : ¬ (0 : Int) < (s0.size : Int) := by omega
      clear hl0
      go_wp2_with fail
      go_ret
      exact ⟨s0, rfl, by omega, YR.out⟩
    have hlI : (0 : Int) < (s0.size : Int) := by omega
    go_wp2_with fail
    go_fit (spec_pickI w.heap.size 501 s0.size _ HR.out (by omega) (by omega) (by omega)); rintro e w6 ⟨q, rfl, hq, hr, hg⟩
    have HR := hidI hr; have YR := hidI (YR.out.grown hg YR.out.size (fun k hk => by cases hk; exact Nat.le_refl _))
    clear hr hg
    go_wp2_with fail
    refine wp_region_any (by kernel_rfl) ?_
    change wpAny _ _ _ _ _ _ _ (World.drew _)
    obtain ⟨W0, hW0⟩ : ∃ x, x = w6.drew := ⟨_, rfl⟩
    rw [← hW0]
    have HR := hidI (by rw [hW0]; exact HR.out.below (Below.refl _ _).drew : RdOk W0 w.heap.size _)
    have YW0 : Hid (Below w.heap.size w W0) := hidI (by rw [hW0]; exact bthen YR.out (Below.refl _ _).drew)
    clear hW0
    refine take_at (i := 0) (v := ?_) 39 rfl rfl (by kernel_rfl) (by kernel_rfl) (by kernel_rfl) (fun _ _ _ h => h) (Or.inl ⟨by rfl, ?_⟩) ?_
    rotate_left
    · intro w; go_simp; try with_reducible rfl
    (try simp only [Act.put, List.setIfInBounds_toArray, List.set_cons_zero, List.set_cons_succ])
    refine take_at (i := 1) (v := ?_) 40 rfl rfl (by kernel_rfl) (by kernel_rfl) (by kernel_rfl) (fun _ _ _ h => h) (Or.inl ⟨by rfl, ?_⟩) ?_
    rotate_left
    · intro w; go_simp; try with_reducible rfl
    (try simp only [Act.put, List.setIfInBounds_toArray, List.set_cons_zero, List.set_cons_succ])
    have hq1 : q ≤ s0.size := by omega
    have hq2 : IntKind.i64.wrap ((q : Int) + 1) = (q : Int) + 1 := IntWalk.i64_in _ (by omega)
    have hq3 : (q : Int) + 1 ≤ (s0.size : Int) := by omega
    have hq4 : (0 : Int) ≤ (q : Int) + 1 := by omega
    have hq5 : ((q : Int) + 1).toNat = q + 1 := by omega
    have hq6 : q + 1 ≤ s0.size := by omega
    refine take_at (i := 2) (v := ?_) 41 rfl rfl (by kernel_rfl) (by kernel_rfl) (by kernel_rfl) (fun _ _ _ h => h) (Or.inl ⟨by rfl, ?_⟩) ?_
    rotate_left
    · intro w; go_simp; try with_reducible rfl
    (try simp only [Act.put, List.setIfInBounds_toArray, List.set_cons_zero, List.set_cons_succ])
    refine take_at (i := 4) (v := ?_) 43 rfl rfl (by kernel_rfl) (by kernel_rfl) (by kernel_rfl) (fun _ _ _ h => h) (Or.inl ⟨by rfl, ?_⟩) ?_
    rotate_left
    · intro w; go_simp; try with_reducible rfl
    (try simp only [Act.put, List.setIfInBounds_toArray, List.set_cons_zero, List.set_cons_succ])
    refine take_at (i := 9) (v := ?_) 48 rfl rfl (by kernel_rfl) (by kernel_rfl) (by kernel_rfl) (fun _ _ _ h => h) (Or.inl ⟨by rfl, ?_⟩) ?_
    rotate_left
    · intro w; go_simp; try with_reducible rfl
    (try simp only [Act.put, List.setIfInBounds_toArray, List.set_cons_zero, List.set_cons_succ])
    refine take_at (i := 10) (v := ?_) 49 rfl rfl (by kernel_rfl) (by kernel_rfl) (by kernel_rfl) (fun _ _ _ h => h) (Or.inl ⟨by rfl, ?_⟩) ?_
    rotate_left
    · intro w; go_simp; try with_reducible rfl
    (try simp only [Act.put, List.setIfInBounds_toArray, List.set_cons_zero, List.set_cons_succ])
    refine take_at (i := 11) (v := ?_) 50 rfl rfl (by kernel_rfl) (by kernel_rfl) (by kernel_rfl) (fun _ _ _ h => h) (Or.inl ⟨by rfl, ?_⟩) ?_
    rotate_left
    · intro w; go_simp; try with_reducible rfl
    (try simp only [Act.put, List.setIfInBounds_toArray, List.set_cons_zero, List.set_cons_succ])
    refine take_at (i := 12) (v := ?_) 51 rfl rfl (by kernel_rfl) (by kernel_rfl) (by kernel_rfl) (fun _ _ _ h => h) (Or.inl ⟨by rfl, ?_⟩) ?_
    rotate_left
    · intro w; go_simp; try with_reducible rfl
    (try simp only [Act.put, List.setIfInBounds_toArray, List.set_cons_zero, List.set_cons_succ])
    obtain ⟨sa, hsa⟩ : ∃ x, x = s0.extract 0 q := ⟨_, rfl⟩
    rw [← hsa]
    have hla : sa.size ≤ 4000 := by rw [hsa, ByteArray.size_extract]; omega
    obtain ⟨sb, hsb⟩ : ∃ x, x = s0.extract (q + 1) s0.size := ⟨_, rfl⟩
    rw [← hsb]
    have hlb : sb.size ≤ 4000 := by rw [hsb, ByteArray.size_extract]; omega
    clear hsa hsb hq2 hq5
    refine wpAny_ready (rs := [3, 5]) (by kernel_rfl) (by simp) ?_
    refine (AllReady.cons rfl (fun K hK => ?_) (AllReady.cons rfl (fun K hK => ?_) AllReady.nil))
    · skip
      go_simp
      refine hK _ _ ?_; clear hK K
      obtain ⟨x1, hW⟩ : ∃ x, x = World.alloc W0 (.cells #[.string ⟨#[]⟩, .string ⟨#[97]⟩, .string ⟨#[33]⟩, .string ⟨#[40]⟩, .string ⟨#[41]⟩, .string ⟨#[124]⟩] 9) := ⟨_, rfl⟩
      rw [← hW]
      obtain ⟨gB, hgg⟩ : ∃ g, g = W0.heap.size := ⟨_, rfl⟩
      rw [← hgg]
      have hbr : w.heap.size < gB := by have := HR.out.lt; omega
      have cb0 : x1.cell? ⟨gB, 0, none⟩ = some (.string ⟨#[]⟩) := by rw [hW]; exact cell_at hgg rfl
      have cb1 : x1.cell? ⟨gB, 1, none⟩ = some (.string ⟨#[97]⟩) := by rw [hW]; exact cell_at hgg rfl
      have cb2 : x1.cell? ⟨gB, 2, none⟩ = some (.string ⟨#[33]⟩) := by rw [hW]; exact cell_at hgg rfl
      have cb3 : x1.cell? ⟨gB, 3, none⟩ = some (.string ⟨#[40]⟩) := by rw [hW]; exact cell_at hgg rfl
      have cb4 : x1.cell? ⟨gB, 4, none⟩ = some (.string ⟨#[41]⟩) := by rw [hW]; exact cell_at hgg rfl
      have cb5 : x1.cell? ⟨gB, 5, none⟩ = some (.string ⟨#[124]⟩) := by rw [hW]; exact cell_at hgg rfl
      have Yx1 : Hid (Below w.heap.size w x1) := hidI (by rw [hW]; exact YW0.out.alloc YW0.out.size _)
      have HR := hidI (by rw [hW]; exact HR.out.below ((Below.refl _ _).alloc (Nat.le_refl _) _) : RdOk x1 w.heap.size _)
      clear hW hgg
      refine wpAny_ready (rs := [5]) (by kernel_rfl) (by simp) ?_
      refine (AllReady.cons rfl (fun K hK => ?_) AllReady.nil)
      go_simp
      go_at_call 50
      refine (spec_pickI w.heap.size _ 6 _ HR.out (by omega) (by omega) (by omega)).mono ?_; rintro e x2 ⟨k, rfl, hk, hr, hg⟩
      dsimp only
      refine hK _ _ ?_; clear hK K
      have cb0 : x2.cell? ⟨gB, 0, none⟩ = _ := (hg.cell_far ⟨gB, 0, none⟩ (cell_lt' cb0) (by intro e; injection e with e; dsimp only at e; omega)).trans cb0
      have cb1 : x2.cell? ⟨gB, 1, none⟩ = _ := (hg.cell_far ⟨gB, 1, none⟩ (cell_lt' cb1) (by intro e; injection e with e; dsimp only at e; omega)).trans cb1
      have cb2 : x2.cell? ⟨gB, 2, none⟩ = _ := (hg.cell_far ⟨gB, 2, none⟩ (cell_lt' cb2) (by intro e; injection e with e; dsimp only at e; omega)).trans cb2
      have cb3 : x2.cell? ⟨gB, 3, none⟩ = _ := (hg.cell_far ⟨gB, 3, none⟩ (cell_lt' cb3) (by intro e; injection e with e; dsimp only at e; omega)).trans cb3
      have cb4 : x2.cell? ⟨gB, 4, none⟩ = _ := (hg.cell_far ⟨gB, 4, none⟩ (cell_lt' cb4) (by intro e; injection e with e; dsimp only at e; omega)).trans cb4
      have cb5 : x2.cell? ⟨gB, 5, none⟩ = _ := (hg.cell_far ⟨gB, 5, none⟩ (cell_lt' cb5) (by intro e; injection e with e; dsimp only at e; omega)).trans cb5
      have HR := hidI hr
      have Yx2 : Hid (Below w.heap.size w x2) := hidI (Yx1.out.grown hg Yx1.out.size (fun k hk => by cases hk; exact Nat.le_refl _))
      clear hr hg
      obtain rfl | rfl | rfl | rfl | rfl | rfl : k = 0 ∨ k = 1 ∨ k = 2 ∨ k = 3 ∨ k = 4 ∨ k = 5 := by omega
      · clear hk
        refine take_at (i := 6) (v := ?_) 45 rfl rfl (by kernel_rfl) (by kernel_rfl) (by kernel_rfl) (fun _ _ _ h => h) (Or.inl ⟨by rfl, ?_⟩) ?_
        rotate_left
        · intro w; go_simp; try with_reducible rfl
        (try simp only [Act.put, List.setIfInBounds_toArray, List.set_cons_zero, List.set_cons_succ])
        refine wpAny_ready (rs := [7]) (by kernel_rfl) (by simp) ?_
        refine AllReady.cons rfl (fun K hK => ?_) AllReady.nil
        go_simp
        refine hK _ _ ?_; clear hK K
        obtain ⟨s5, hs5, AL⟩ := add_any sa ⟨#[]⟩ (by omega) (by decide)
        have hl5 : s5.size ≤ sa.size + 1 := by rw [hs5]; have : ByteArray.size ⟨#[]⟩ ≤ 1 := (by decide); omega
        clear hs5
        refine take_at (i := 8) (v := ?_) 47 rfl rfl (by kernel_rfl) (by kernel_rfl) (by kernel_rfl) (fun _ _ _ h => h) (Or.inl ⟨by rfl, ?_⟩) ?_
        rotate_left
        · intro w; go_simp; try with_reducible rfl
        (try simp only [Act.put, List.setIfInBounds_toArray, List.set_cons_zero, List.set_cons_succ])
        obtain ⟨s6, hs6, AT⟩ := add_any s5 sb (by omega) (by omega)
        have hl6 : s6.size ≤ 9000 := by rw [hs6]; omega
        clear hs6
        refine take_at (i := 13) (v := ?_) 52 rfl rfl (by kernel_rfl) (by kernel_rfl) (by kernel_rfl) (fun _ _ _ h => h) (Or.inl ⟨by rfl, ?_⟩) ?_
        rotate_left
        · intro w; go_simp; try with_reducible rfl
        (try simp only [Act.put, List.setIfInBounds_toArray, List.set_cons_zero, List.set_cons_succ])
        refine take_at (i := 14) (v := ?_) 2 rfl rfl (by kernel_rfl) (by kernel_rfl) (by kernel_rfl) (fun _ _ _ h => h) (Or.inl ⟨by rfl, ?_⟩) ?_
        rotate_left
        · intro w; go_simp; try with_reducible rfl
        (try simp only [Act.put, List.setIfInBounds_toArray, List.set_cons_zero, List.set_cons_succ])
        refine wpAny_done (by kernel_rfl) ?_ _
        go_wp2_with fail
        go_ret
        exact ⟨s6, rfl, hl6, Yx2.out⟩
      · clear hk
        refine take_at (i := 6) (v := ?_) 45 rfl rfl (by kernel_rfl) (by kernel_rfl) (by kernel_rfl) (fun _ _ _ h => h) (Or.inl ⟨by rfl, ?_⟩) ?_
        rotate_left
        · intro w; go_simp; try with_reducible rfl
        (try simp only [Act.put, List.setIfInBounds_toArray, List.set_cons_zero, List.set_cons_succ])
        refine wpAny_ready (rs := [7]) (by kernel_rfl) (by simp) ?_
        refine AllReady.cons rfl (fun K hK => ?_) AllReady.nil
        go_simp
        refine hK _ _ ?_; clear hK K
        obtain ⟨s5, hs5, AL⟩ := add_any sa ⟨#[97]⟩ (by omega) (by decide)
        have hl5 : s5.size ≤ sa.size + 1 := by rw [hs5]; have : ByteArray.size ⟨#[97]⟩ ≤ 1 := (by decide); omega
        clear hs5
        refine take_at (i := 8) (v := ?_) 47 rfl rfl (by kernel_rfl) (by kernel_rfl) (by kernel_rfl) (fun _ _ _ h => h) (Or.inl ⟨by rfl, ?_⟩) ?_
        rotate_left
        · intro w; go_simp; try with_reducible rfl
        (try simp only [Act.put, List.setIfInBounds_toArray, List.set_cons_zero, List.set_cons_succ])
        obtain ⟨s6, hs6, AT⟩ := add_any s5 sb (by omega) (by omega)
        have hl6 : s6.size ≤ 9000 := by rw [hs6]; omega
        clear hs6
        refine take_at (i := 13) (v := ?_) 52 rfl rfl (by kernel_rfl) (by kernel_rfl) (by kernel_rfl) (fun _ _ _ h => h) (Or.inl ⟨by rfl, ?_⟩) ?_
        rotate_left
        · intro w; go_simp; try with_reducible rfl
        (try simp only [Act.put, List.setIfInBounds_toArray, List.set_cons_zero, List.set_cons_succ])
        refine take_at (i := 14) (v := ?_) 2 rfl rfl (by kernel_rfl) (by kernel_rfl) (by kernel_rfl) (fun _ _ _ h => h) (Or.inl ⟨by rfl, ?_⟩) ?_
        rotate_left
        · intro w; go_simp; try with_reducible rfl
        (try simp only [Act.put, List.setIfInBounds_toArray, List.set_cons_zero, List.set_cons_succ])
        refine wpAny_done (by kernel_rfl) ?_ _
        go_wp2_with fail
        go_ret
        exact ⟨s6, rfl, hl6, Yx2.out⟩
      · clear hk
        refine take_at (i := 6) (v := ?_) 45 rfl rfl (by kernel_rfl) (by kernel_rfl) (by kernel_rfl) (fun _ _ _ h => h) (Or.inl ⟨by rfl, ?_⟩) ?_
        rotate_left
        · intro w; go_simp; try with_reducible rfl
        (try simp only [Act.put, List.setIfInBounds_toArray, List.set_cons_zero, List.set_cons_succ])
        refine wpAny_ready (rs := [7]) (by kernel_rfl) (by simp) ?_
        refine AllReady.cons rfl (fun K hK => ?_) AllReady.nil
        go_simp
        refine hK _ _ ?_; clear hK K
        obtain ⟨s5, hs5, AL⟩ := add_any sa ⟨#[33]⟩ (by omega) (by decide)
        have hl5 : s5.size ≤ sa.size + 1 := by rw [hs5]; have : ByteArray.size ⟨#[33]⟩ ≤ 1 := (by decide); omega
        clear hs5
        refine take_at (i := 8) (v := ?_) 47 rfl rfl (by kernel_rfl) (by kernel_rfl) (by kernel_rfl) (fun _ _ _ h => h) (Or.inl ⟨by rfl, ?_⟩) ?_
        rotate_left
        · intro w; go_simp; try with_reducible rfl
        (try simp only [Act.put, List.setIfInBounds_toArray, List.set_cons_zero, List.set_cons_succ])
        obtain ⟨s6, hs6, AT⟩ := add_any s5 sb (by omega) (by omega)
        have hl6 : s6.size ≤ 9000 := by rw [hs6]; omega
        clear hs6
        refine take_at (i := 13) (v := ?_) 52 rfl rfl (by kernel_rfl) (by kernel_rfl) (by kernel_rfl) (fun _ _ _ h => h) (Or.inl ⟨by rfl, ?_⟩) ?_
        rotate_left
        · intro w; go_simp; try with_reducible rfl
        (try simp only [Act.put, List.setIfInBounds_toArray, List.set_cons_zero, List.set_cons_succ])
        refine take_at (i := 14) (v := ?_) 2 rfl rfl (by kernel_rfl) (by kernel_rfl) (by kernel_rfl) (fun _ _ _ h => h) (Or.inl ⟨by rfl, ?_⟩) ?_
        rotate_left
        · intro w; go_simp; try with_reducible rfl
        (try simp only [Act.put, List.setIfInBounds_toArray, List.set_cons_zero, List.set_cons_succ])
        refine wpAny_done (by kernel_rfl) ?_ _
        go_wp2_with fail
        go_ret
        exact ⟨s6, rfl, hl6, Yx2.out⟩
      · clear hk
        refine take_at (i := 6) (v := ?_) 45 rfl rfl (by kernel_rfl) (by kernel_rfl) (by kernel_rfl) (fun _ _ _ h => h) (Or.inl ⟨by rfl, ?_⟩) ?_
        rotate_left
        · intro w; go_simp; try with_reducible rfl
        (try simp only [Act.put, List.setIfInBounds_toArray, List.set_cons_zero, List.set_cons_succ])
        refine wpAny_ready (rs := [7]) (by kernel_rfl) (by simp) ?_
        refine AllReady.cons rfl (fun K hK => ?_) AllReady.nil
        go_simp
        refine hK _ _ ?_; clear hK K
        obtain ⟨s5, hs5, AL⟩ := add_any sa ⟨#[40]⟩ (by omega) (by decide)
        have hl5 : s5.size ≤ sa.size + 1 := by rw [hs5]; have : ByteArray.size ⟨#[40]⟩ ≤ 1 := (by decide); omega
        clear hs5
        refine take_at (i := 8) (v := ?_) 47 rfl rfl (by kernel_rfl) (by kernel_rfl) (by kernel_rfl) (fun _ _ _ h => h) (Or.inl ⟨by rfl, ?_⟩) ?_
        rotate_left
        · intro w; go_simp; try with_reducible rfl
        (try simp only [Act.put, List.setIfInBounds_toArray, List.set_cons_zero, List.set_cons_succ])
        obtain ⟨s6, hs6, AT⟩ := add_any s5 sb (by omega) (by omega)
        have hl6 : s6.size ≤ 9000 := by rw [hs6]; omega
        clear hs6
        refine take_at (i := 13) (v := ?_) 52 rfl rfl (by kernel_rfl) (by kernel_rfl) (by kernel_rfl) (fun _ _ _ h => h) (Or.inl ⟨by rfl, ?_⟩) ?_
        rotate_left
        · intro w; go_simp; try with_reducible rfl
        (try simp only [Act.put, List.setIfInBounds_toArray, List.set_cons_zero, List.set_cons_succ])
        refine take_at (i := 14) (v := ?_) 2 rfl rfl (by kernel_rfl) (by kernel_rfl) (by kernel_rfl) (fun _ _ _ h => h) (Or.inl ⟨by rfl, ?_⟩) ?_
        rotate_left
        · intro w; go_simp; try with_reducible rfl
        (try simp only [Act.put, List.setIfInBounds_toArray, List.set_cons_zero, List.set_cons_succ])
        refine wpAny_done (by kernel_rfl) ?_ _
        go_wp2_with fail
        go_ret
        exact ⟨s6, rfl, hl6, Yx2.out⟩
      · clear hk
        refine take_at (i := 6) (v := ?_) 45 rfl rfl (by kernel_rfl) (by kernel_rfl) (by kernel_rfl) (fun _ _ _ h => h) (Or.inl ⟨by rfl, ?_⟩) ?_
        rotate_left
        · intro w; go_simp; try with_reducible rfl
        (try simp only [Act.put, List.setIfInBounds_toArray, List.set_cons_zero, List.set_cons_succ])
        refine wpAny_ready (rs := [7]) (by kernel_rfl) (by simp) ?_
        refine AllReady.cons rfl (fun K hK => ?_) AllReady.nil
        go_simp
        refine hK _ _ ?_; clear hK K
        obtain ⟨s5, hs5, AL⟩ := add_any sa ⟨#[41]⟩ (by omega) (by decide)
        have hl5 : s5.size ≤ sa.size + 1 := by rw [hs5]; have : ByteArray.size ⟨#[41]⟩ ≤ 1 := (by decide); omega
        clear hs5
        refine take_at (i := 8) (v := ?_) 47 rfl rfl (by kernel_rfl) (by kernel_rfl) (by kernel_rfl) (fun _ _ _ h => h) (Or.inl ⟨by rfl, ?_⟩) ?_
        rotate_left
        · intro w; go_simp; try with_reducible rfl
        (try simp only [Act.put, List.setIfInBounds_toArray, List.set_cons_zero, List.set_cons_succ])
        obtain ⟨s6, hs6, AT⟩ := add_any s5 sb (by omega) (by omega)
        have hl6 : s6.size ≤ 9000 := by rw [hs6]; omega
        clear hs6
        refine take_at (i := 13) (v := ?_) 52 rfl rfl (by kernel_rfl) (by kernel_rfl) (by kernel_rfl) (fun _ _ _ h => h) (Or.inl ⟨by rfl, ?_⟩) ?_
        rotate_left
        · intro w; go_simp; try with_reducible rfl
        (try simp only [Act.put, List.setIfInBounds_toArray, List.set_cons_zero, List.set_cons_succ])
        refine take_at (i := 14) (v := ?_) 2 rfl rfl (by kernel_rfl) (by kernel_rfl) (by kernel_rfl) (fun _ _ _ h => h) (Or.inl ⟨by rfl, ?_⟩) ?_
        rotate_left
        · intro w; go_simp; try with_reducible rfl
        (try simp only [Act.put, List.setIfInBounds_toArray, List.set_cons_zero, List.set_cons_succ])
        refine wpAny_done (by kernel_rfl) ?_ _
        go_wp2_with fail
        go_ret
        exact ⟨s6, rfl, hl6, Yx2.out⟩
      · clear hk
        refine take_at (i := 6) (v := ?_) 45 rfl rfl (by kernel_rfl) (by kernel_rfl) (by kernel_rfl) (fun _ _ _ h => h) (Or.inl ⟨by rfl, ?_⟩) ?_
        rotate_left
        · intro w; go_simp; try with_reducible rfl
        (try simp only [Act.put, List.setIfInBounds_toArray, List.set_cons_zero, List.set_cons_succ])
        refine wpAny_ready (rs := [7]) (by kernel_rfl) (by simp) ?_
        refine AllReady.cons rfl (fun K hK => ?_) AllReady.nil
        go_simp
        refine hK _ _ ?_; clear hK K
        obtain ⟨s5, hs5, AL⟩ := add_any sa ⟨#[124]⟩ (by omega) (by decide)
        have hl5 : s5.size ≤ sa.size + 1 := by rw [hs5]; have : ByteArray.size ⟨#[124]⟩ ≤ 1 := (by decide); omega
        clear hs5
        refine take_at (i := 8) (v := ?_) 47 rfl rfl (by kernel_rfl) (by kernel_rfl) (by kernel_rfl) (fun _ _ _ h => h) (Or.inl ⟨by rfl, ?_⟩) ?_
        rotate_left
        · intro w; go_simp; try with_reducible rfl
        (try simp only [Act.put, List.setIfInBounds_toArray, List.set_cons_zero, List.set_cons_succ])
        obtain ⟨s6, hs6, AT⟩ := add_any s5 sb (by omega) (by omega)
        have hl6 : s6.size ≤ 9000 := by rw [hs6]; omega
        clear hs6
        refine take_at (i := 13) (v := ?_) 52 rfl rfl (by kernel_rfl) (by kernel_rfl) (by kernel_rfl) (fun _ _ _ h => h) (Or.inl ⟨by rfl, ?_⟩) ?_
        rotate_left
        · intro w; go_simp; try with_reducible rfl
        (try simp only [Act.put, List.setIfInBounds_toArray, List.set_cons_zero, List.set_cons_succ])
        refine take_at (i := 14) (v := ?_) 2 rfl rfl (by kernel_rfl) (by kernel_rfl) (by kernel_rfl) (fun _ _ _ h => h) (Or.inl ⟨by rfl, ?_⟩) ?_
        rotate_left
        · intro w; go_simp; try with_reducible rfl
        (try simp only [Act.put, List.setIfInBounds_toArray, List.set_cons_zero, List.set_cons_succ])
        refine wpAny_done (by kernel_rfl) ?_ _
        go_wp2_with fail
        go_ret
        exact ⟨s6, rfl, hl6, Yx2.out⟩
    · skip
      go_simp
      go_at_call 50
      refine (spec_pickI w.heap.size _ 6 _ HR.out (by omega) (by omega) (by omega)).mono ?_; rintro e x1 ⟨k, rfl, hk, hr, hg⟩
      dsimp only
      refine hK _ _ ?_; clear hK K
      have HR := hidI hr
      have Yx1 : Hid (Below w.heap.size w x1) := hidI (YW0.out.grown hg YW0.out.size (fun k hk => by cases hk; exact Nat.le_refl _))
      clear hr hg
      obtain rfl | rfl | rfl | rfl | rfl | rfl : k = 0 ∨ k = 1 ∨ k = 2 ∨ k = 3 ∨ k = 4 ∨ k = 5 := by omega
      · clear hk
        refine wpAny_ready (rs := [3]) (by kernel_rfl) (by simp) ?_
        refine (AllReady.cons rfl (fun K hK => ?_) AllReady.nil)
        go_simp
        refine hK _ _ ?_; clear hK K
        obtain ⟨x2, hW⟩ : ∃ x, x = World.alloc x1 (.cells #[.string ⟨#[]⟩, .string ⟨#[97]⟩, .string ⟨#[33]⟩, .string ⟨#[40]⟩, .string ⟨#[41]⟩, .string ⟨#[124]⟩] 9) := ⟨_, rfl⟩
        rw [← hW]
        obtain ⟨gB, hgg⟩ : ∃ g, g = x1.heap.size := ⟨_, rfl⟩
        rw [← hgg]
        have hbr : w.heap.size < gB := by have := HR.out.lt; omega
        have cb0 : x2.cell? ⟨gB, 0, none⟩ = some (.string ⟨#[]⟩) := by rw [hW]; exact cell_at hgg rfl
        have cb1 : x2.cell? ⟨gB, 1, none⟩ = some (.string ⟨#[97]⟩) := by rw [hW]; exact cell_at hgg rfl
        have cb2 : x2.cell? ⟨gB, 2, none⟩ = some (.string ⟨#[33]⟩) := by rw [hW]; exact cell_at hgg rfl
        have cb3 : x2.cell? ⟨gB, 3, none⟩ = some (.string ⟨#[40]⟩) := by rw [hW]; exact cell_at hgg rfl
        have cb4 : x2.cell? ⟨gB, 4, none⟩ = some (.string ⟨#[41]⟩) := by rw [hW]; exact cell_at hgg rfl
        have cb5 : x2.cell? ⟨gB, 5, none⟩ = some (.string ⟨#[124]⟩) := by rw [hW]; exact cell_at hgg rfl
        have Yx2 : Hid (Below w.heap.size w x2) := hidI (by rw [hW]; exact Yx1.out.alloc Yx1.out.size _)
        have HR := hidI (by rw [hW]; exact HR.out.below ((Below.refl _ _).alloc (Nat.le_refl _) _) : RdOk x2 w.heap.size _)
        clear hW hgg
        refine take_at (i := 6) (v := ?_) 45 rfl rfl (by kernel_rfl) (by kernel_rfl) (by kernel_rfl) (fun _ _ _ h => h) (Or.inl ⟨by rfl, ?_⟩) ?_
        rotate_left
        · intro w; go_simp; try with_reducible rfl
        (try simp only [Act.put, List.setIfInBounds_toArray, List.set_cons_zero, List.set_cons_succ])
        refine wpAny_ready (rs := [7]) (by kernel_rfl) (by simp) ?_
        refine AllReady.cons rfl (fun K hK => ?_) AllReady.nil
        go_simp
        refine hK _ _ ?_; clear hK K
        obtain ⟨s5, hs5, AL⟩ := add_any sa ⟨#[]⟩ (by omega) (by decide)
        have hl5 : s5.size ≤ sa.size + 1 := by rw [hs5]; have : ByteArray.size ⟨#[]⟩ ≤ 1 := (by decide); omega
        clear hs5
        refine take_at (i := 8) (v := ?_) 47 rfl rfl (by kernel_rfl) (by kernel_rfl) (by kernel_rfl) (fun _ _ _ h => h) (Or.inl ⟨by rfl, ?_⟩) ?_
        rotate_left
        · intro w; go_simp; try with_reducible rfl
        (try simp only [Act.put, List.setIfInBounds_toArray, List.set_cons_zero, List.set_cons_succ])
        obtain ⟨s6, hs6, AT⟩ := add_any s5 sb (by omega) (by omega)
        have hl6 : s6.size ≤ 9000 := by rw [hs6]; omega
        clear hs6
        refine take_at (i := 13) (v := ?_) 52 rfl rfl (by kernel_rfl) (by kernel_rfl) (by kernel_rfl) (fun _ _ _ h => h) (Or.inl ⟨by rfl, ?_⟩) ?_
        rotate_left
        · intro w; go_simp; try with_reducible rfl
        (try simp only [Act.put, List.setIfInBounds_toArray, List.set_cons_zero, List.set_cons_succ])
        refine take_at (i := 14) (v := ?_) 2 rfl rfl (by kernel_rfl) (by kernel_rfl) (by kernel_rfl) (fun _ _ _ h => h) (Or.inl ⟨by rfl, ?_⟩) ?_
        rotate_left
        · intro w; go_simp; try with_reducible rfl
        (try simp only [Act.put, List.setIfInBounds_toArray, List.set_cons_zero, List.set_cons_succ])
        refine wpAny_done (by kernel_rfl) ?_ _
        go_wp2_with fail
        go_ret
        exact ⟨s6, rfl, hl6, Yx2.out⟩
      · clear hk
        refine wpAny_ready (rs := [3]) (by kernel_rfl) (by simp) ?_
        refine (AllReady.cons rfl (fun K hK => ?_) AllReady.nil)
        go_simp
        refine hK _ _ ?_; clear hK K
        obtain ⟨x2, hW⟩ : ∃ x, x = World.alloc x1 (.cells #[.string ⟨#[]⟩, .string ⟨#[97]⟩, .string ⟨#[33]⟩, .string ⟨#[40]⟩, .string ⟨#[41]⟩, .string ⟨#[124]⟩] 9) := ⟨_, rfl⟩
        rw [← hW]
        obtain ⟨gB, hgg⟩ : ∃ g, g = x1.heap.size := ⟨_, rfl⟩
        rw [← hgg]
        have hbr : w.heap.size < gB := by have := HR.out.lt; omega
        have cb0 : x2.cell? ⟨gB, 0, none⟩ = some (.string ⟨#[]⟩) := by rw [hW]; exact cell_at hgg rfl
        have cb1 : x2.cell? ⟨gB, 1, none⟩ = some (.string ⟨#[97]⟩) := by rw [hW]; exact cell_at hgg rfl
        have cb2 : x2.cell? ⟨gB, 2, none⟩ = some (.string ⟨#[33]⟩) := by rw [hW]; exact cell_at hgg rfl
        have cb3 : x2.cell? ⟨gB, 3, none⟩ = some (.string ⟨#[40]⟩) := by rw [hW]; exact cell_at hgg rfl
        have cb4 : x2.cell? ⟨gB, 4, none⟩ = some (.string ⟨#[41]⟩) := by rw [hW]; exact cell_at hgg rfl
        have cb5 : x2.cell? ⟨gB, 5, none⟩ = some (.string ⟨#[124]⟩) := by rw [hW]; exact cell_at hgg rfl
        have Yx2 : Hid (Below w.heap.size w x2) := hidI (by rw [hW]; exact Yx1.out.alloc Yx1.out.size _)
        have HR := hidI (by rw [hW]; exact HR.out.below ((Below.refl _ _).alloc (Nat.le_refl _) _) : RdOk x2 w.heap.size _)
        clear hW hgg
        refine take_at (i := 6) (v := ?_) 45 rfl rfl (by kernel_rfl) (by kernel_rfl) (by kernel_rfl) (fun _ _ _ h => h) (Or.inl ⟨by rfl, ?_⟩) ?_
        rotate_left
        · intro w; go_simp; try with_reducible rfl
        (try simp only [Act.put, List.setIfInBounds_toArray, List.set_cons_zero, List.set_cons_succ])
        refine wpAny_ready (rs := [7]) (by kernel_rfl) (by simp) ?_
        refine AllReady.cons rfl (fun K hK => ?_) AllReady.nil
        go_simp
        refine hK _ _ ?_; clear hK K
        obtain ⟨s5, hs5, AL⟩ := add_any sa ⟨#[97]⟩ (by omega) (by decide)
        have hl5 : s5.size ≤ sa.size + 1 := by rw [hs5]; have : ByteArray.size ⟨#[97]⟩ ≤ 1 := (by decide); omega
        clear hs5
        refine take_at (i := 8) (v := ?_) 47 rfl rfl (by kernel_rfl) (by kernel_rfl) (by kernel_rfl) (fun _ _ _ h => h) (Or.inl ⟨by rfl, ?_⟩) ?_
        rotate_left
        · intro w; go_simp; try with_reducible rfl
        (try simp only [Act.put, List.setIfInBounds_toArray, List.set_cons_zero, List.set_cons_succ])
        obtain ⟨s6, hs6, AT⟩ := add_any s5 sb (by omega) (by omega)
        have hl6 : s6.size ≤ 9000 := by rw [hs6]; omega
        clear hs6
        refine take_at (i := 13) (v := ?_) 52 rfl rfl (by kernel_rfl) (by kernel_rfl) (by kernel_rfl) (fun _ _ _ h => h) (Or.inl ⟨by rfl, ?_⟩) ?_
        rotate_left
        · intro w; go_simp; try with_reducible rfl
        (try simp only [Act.put, List.setIfInBounds_toArray, List.set_cons_zero, List.set_cons_succ])
        refine take_at (i := 14) (v := ?_) 2 rfl rfl (by kernel_rfl) (by kernel_rfl) (by kernel_rfl) (fun _ _ _ h => h) (Or.inl ⟨by rfl, ?_⟩) ?_
        rotate_left
        · intro w; go_simp; try with_reducible rfl
        (try simp only [Act.put, List.setIfInBounds_toArray, List.set_cons_zero, List.set_cons_succ])
        refine wpAny_done (by kernel_rfl) ?_ _
        go_wp2_with fail
        go_ret
        exact ⟨s6, rfl, hl6, Yx2.out⟩
      · clear hk
        refine wpAny_ready (rs := [3]) (by kernel_rfl) (by simp) ?_
        refine (AllReady.cons rfl (fun K hK => ?_) AllReady.nil)
        go_simp
        refine hK _ _ ?_; clear hK K
        obtain ⟨x2, hW⟩ : ∃ x, x = World.alloc x1 (.cells #[.string ⟨#[]⟩, .string ⟨#[97]⟩, .string ⟨#[33]⟩, .string ⟨#[40]⟩, .string ⟨#[41]⟩, .string ⟨#[124]⟩] 9) := ⟨_, rfl⟩
        rw [← hW]
        obtain ⟨gB, hgg⟩ : ∃ g, g = x1.heap.size := ⟨_, rfl⟩
        rw [← hgg]
        have hbr : w.heap.size < gB := by have := HR.out.lt; omega
        have cb0 : x2.cell? ⟨gB, 0, none⟩ = some (.string ⟨#[]⟩) := by rw [hW]; exact cell_at hgg rfl
        have cb1 : x2.cell? ⟨gB, 1, none⟩ = some (.string ⟨#[97]⟩) := by rw [hW]; exact cell_at hgg rfl
        have cb2 : x2.cell? ⟨gB, 2, none⟩ = some (.string ⟨#[33]⟩) := by rw [hW]; exact cell_at hgg rfl
        have cb3 : x2.cell? ⟨gB, 3, none⟩ = some (.string ⟨#[40]⟩) := by rw [hW]; exact cell_at hgg rfl
        have cb4 : x2.cell? ⟨gB, 4, none⟩ = some (.string ⟨#[41]⟩) := by rw [hW]; exact cell_at hgg rfl
        have cb5 : x2.cell? ⟨gB, 5, none⟩ = some (.string ⟨#[124]⟩) := by rw [hW]; exact cell_at hgg rfl
        have Yx2 : Hid (Below w.heap.size w x2) := hidI (by rw [hW]; exact Yx1.out.alloc Yx1.out.size _)
        have HR := hidI (by rw [hW]; exact HR.out.below ((Below.refl _ _).alloc (Nat.le_refl _) _) : RdOk x2 w.heap.size _)
        clear hW hgg
        refine take_at (i := 6) (v := ?_) 45 rfl rfl (by kernel_rfl) (by kernel_rfl) (by kernel_rfl) (fun _ _ _ h => h) (Or.inl ⟨by rfl, ?_⟩) ?_
        rotate_left
        · intro w; go_simp; try with_reducible rfl
        (try simp only [Act.put, List.setIfInBounds_toArray, List.set_cons_zero, List.set_cons_succ])
        refine wpAny_ready (rs := [7]) (by kernel_rfl) (by simp) ?_
        refine AllReady.cons rfl (fun K hK => ?_) AllReady.nil
        go_simp
        refine hK _ _ ?_; clear hK K
        obtain ⟨s5, hs5, AL⟩ := add_any sa ⟨#[33]⟩ (by omega) (by decide)
        have hl5 : s5.size ≤ sa.size + 1 := by rw [hs5]; have : ByteArray.size ⟨#[33]⟩ ≤ 1 := (by decide); omega
        clear hs5
        refine take_at (i := 8) (v := ?_) 47 rfl rfl (by kernel_rfl) (by kernel_rfl) (by kernel_rfl) (fun _ _ _ h => h) (Or.inl ⟨by rfl, ?_⟩) ?_
        rotate_left
        · intro w; go_simp; try with_reducible rfl
        (try simp only [Act.put, List.setIfInBounds_toArray, List.set_cons_zero, List.set_cons_succ])
        obtain ⟨s6, hs6, AT⟩ := add_any s5 sb (by omega) (by omega)
        have hl6 : s6.size ≤ 9000 := by rw [hs6]; omega
        clear hs6
        refine take_at (i := 13) (v := ?_) 52 rfl rfl (by kernel_rfl) (by kernel_rfl) (by kernel_rfl) (fun _ _ _ h => h) (Or.inl ⟨by rfl, ?_⟩) ?_
        rotate_left
        · intro w; go_simp; try with_reducible rfl
        (try simp only [Act.put, List.setIfInBounds_toArray, List.set_cons_zero, List.set_cons_succ])
        refine take_at (i := 14) (v := ?_) 2 rfl rfl (by kernel_rfl) (by kernel_rfl) (by kernel_rfl) (fun _ _ _ h => h) (Or.inl ⟨by rfl, ?_⟩) ?_
        rotate_left
        · intro w; go_simp; try with_reducible rfl
        (try simp only [Act.put, List.setIfInBounds_toArray, List.set_cons_zero, List.set_cons_succ])
        refine wpAny_done (by kernel_rfl) ?_ _
        go_wp2_with fail
        go_ret
        exact ⟨s6, rfl, hl6, Yx2.out⟩
      · clear hk
        refine wpAny_ready (rs := [3]) (by kernel_rfl) (by simp) ?_
        refine (AllReady.cons rfl (fun K hK => ?_) AllReady.nil)
        go_simp
        refine hK _ _ ?_; clear hK K
        obtain ⟨x2, hW⟩ : ∃ x, x = World.alloc x1 (.cells #[.string ⟨#[]⟩, .string ⟨#[97]⟩, .string ⟨#[33]⟩, .string ⟨#[40]⟩, .string ⟨#[41]⟩, .string ⟨#[124]⟩] 9) := ⟨_, rfl⟩
        rw [← hW]
        obtain ⟨gB, hgg⟩ : ∃ g, g = x1.heap.size := ⟨_, rfl⟩
        rw [← hgg]
        have hbr : w.heap.size < gB := by have := HR.out.lt; omega
        have cb0 : x2.cell? ⟨gB, 0, none⟩ = some (.string ⟨#[]⟩) := by rw [hW]; exact cell_at hgg rfl
        have cb1 : x2.cell? ⟨gB, 1, none⟩ = some (.string ⟨#[97]⟩) := by rw [hW]; exact cell_at hgg rfl
        have cb2 : x2.cell? ⟨gB, 2, none⟩ = some (.string ⟨#[33]⟩) := by rw [hW]; exact cell_at hgg rfl
        have cb3 : x2.cell? ⟨gB, 3, none⟩ = some (.string ⟨#[40]⟩) := by rw [hW]; exact cell_at hgg rfl
        have cb4 : x2.cell? ⟨gB, 4, none⟩ = some (.string ⟨#[41]⟩) := by rw [hW]; exact cell_at hgg rfl
        have cb5 : x2.cell? ⟨gB, 5, none⟩ = some (.string ⟨#[124]⟩) := by rw [hW]; exact cell_at hgg rfl
        have Yx2 : Hid (Below w.heap.size w x2) := hidI (by rw [hW]; exact Yx1.out.alloc Yx1.out.size _)
        have HR := hidI (by rw [hW]; exact HR.out.below ((Below.refl _ _).alloc (Nat.le_refl _) _) : RdOk x2 w.heap.size _)
        clear hW hgg
        refine take_at (i := 6) (v := ?_) 45 rfl rfl (by kernel_rfl) (by kernel_rfl) (by kernel_rfl) (fun _ _ _ h => h) (Or.inl ⟨by rfl, ?_⟩) ?_
        rotate_left
        · intro w; go_simp; try with_reducible rfl
        (try simp only [Act.put, List.setIfInBounds_toArray, List.set_cons_zero, List.set_cons_succ])
        refine wpAny_ready (rs := [7]) (by kernel_rfl) (by simp) ?_
        refine AllReady.cons rfl (fun K hK => ?_) AllReady.nil
        go_simp
        refine hK _ _ ?_; clear hK K
        obtain ⟨s5, hs5, AL⟩ := add_any sa ⟨#[40]⟩ (by omega) (by decide)
        have hl5 : s5.size ≤ sa.size + 1 := by rw [hs5]; have : ByteArray.size ⟨#[40]⟩ ≤ 1 := (by decide); omega
        clear hs5
        refine take_at (i := 8) (v := ?_) 47 rfl rfl (by kernel_rfl) (by kernel_rfl) (by kernel_rfl) (fun _ _ _ h => h) (Or.inl ⟨by rfl, ?_⟩) ?_
        rotate_left
        · intro w; go_simp; try with_reducible rfl
        (try simp only [Act.put, List.setIfInBounds_toArray, List.set_cons_zero, List.set_cons_succ])
        obtain ⟨s6, hs6, AT⟩ := add_any s5 sb (by omega) (by omega)
        have hl6 : s6.size ≤ 9000 := by rw [hs6]; omega
        clear hs6
        refine take_at (i := 13) (v := ?_) 52 rfl rfl (by kernel_rfl) (by kernel_rfl) (by kernel_rfl) (fun _ _ _ h => h) (Or.inl ⟨by rfl, ?_⟩) ?_
        rotate_left
        · intro w; go_simp; try with_reducible rfl
        (try simp only [Act.put, List.setIfInBounds_toArray, List.set_cons_zero, List.set_cons_succ])
        refine take_at (i := 14) (v := ?_) 2 rfl rfl (by kernel_rfl) (by kernel_rfl) (by kernel_rfl) (fun _ _ _ h => h) (Or.inl ⟨by rfl, ?_⟩) ?_
        rotate_left
        · intro w; go_simp; try with_reducible rfl
        (try simp only [Act.put, List.setIfInBounds_toArray, List.set_cons_zero, List.set_cons_succ])
        refine wpAny_done (by kernel_rfl) ?_ _
        go_wp2_with fail
        go_ret
        exact ⟨s6, rfl, hl6, Yx2.out⟩
      · clear hk
        refine wpAny_ready (rs := [3]) (by kernel_rfl) (by simp) ?_
        refine (AllReady.cons rfl (fun K hK => ?_) AllReady.nil)
        go_simp
        refine hK _ _ ?_; clear hK K
        obtain ⟨x2, hW⟩ : ∃ x, x = World.alloc x1 (.cells #[.string ⟨#[]⟩, .string ⟨#[97]⟩, .string ⟨#[33]⟩, .string ⟨#[40]⟩, .string ⟨#[41]⟩, .string ⟨#[124]⟩] 9) := ⟨_, rfl⟩
        rw [← hW]
        obtain ⟨gB, hgg⟩ : ∃ g, g = x1.heap.size := ⟨_, rfl⟩
        rw [← hgg]
        have hbr : w.heap.size < gB := by have := HR.out.lt; omega
        have cb0 : x2.cell? ⟨gB, 0, none⟩ = some (.string ⟨#[]⟩) := by rw [hW]; exact cell_at hgg rfl
        have cb1 : x2.cell? ⟨gB, 1, none⟩ = some (.string ⟨#[97]⟩) := by rw [hW]; exact cell_at hgg rfl
        have cb2 : x2.cell? ⟨gB, 2, none⟩ = some (.string ⟨#[33]⟩) := by rw [hW]; exact cell_at hgg rfl
        have cb3 : x2.cell? ⟨gB, 3, none⟩ = some (.string ⟨#[40]⟩) := by rw [hW]; exact cell_at hgg rfl
        have cb4 : x2.cell? ⟨gB, 4, none⟩ = some (.string ⟨#[41]⟩) := by rw [hW]; exact cell_at hgg rfl
        have cb5 : x2.cell? ⟨gB, 5, none⟩ = some (.string ⟨#[124]⟩) := by rw [hW]; exact cell_at hgg rfl
        have Yx2 : Hid (Below w.heap.size w x2) := hidI (by rw [hW]; exact Yx1.out.alloc Yx1.out.size _)
        have HR := hidI (by rw [hW]; exact HR.out.below ((Below.refl _ _).alloc (Nat.le_refl _) _) : RdOk x2 w.heap.size _)
        clear hW hgg
        refine take_at (i := 6) (v := ?_) 45 rfl rfl (by kernel_rfl) (by kernel_rfl) (by kernel_rfl) (fun _ _ _ h => h) (Or.inl ⟨by rfl, ?_⟩) ?_
        rotate_left
        · intro w; go_simp; try with_reducible rfl
        (try simp only [Act.put, List.setIfInBounds_toArray, List.set_cons_zero, List.set_cons_succ])
        refine wpAny_ready (rs := [7]) (by kernel_rfl) (by simp) ?_
        refine AllReady.cons rfl (fun K hK => ?_) AllReady.nil
        go_simp
        refine hK _ _ ?_; clear hK K
        obtain ⟨s5, hs5, AL⟩ := add_any sa ⟨#[41]⟩ (by omega) (by decide)
        have hl5 : s5.size ≤ sa.size + 1 := by rw [hs5]; have : ByteArray.size ⟨#[41]⟩ ≤ 1 := (by decide); omega
        clear hs5
        refine take_at (i := 8) (v := ?_) 47 rfl rfl (by kernel_rfl) (by kernel_rfl) (by kernel_rfl) (fun _ _ _ h => h) (Or.inl ⟨by rfl, ?_⟩) ?_
        rotate_left
        · intro w; go_simp; try with_reducible rfl
        (try simp only [Act.put, List.setIfInBounds_toArray, List.set_cons_zero, List.set_cons_succ])
        obtain ⟨s6, hs6, AT⟩ := add_any s5 sb (by omega) (by omega)
        have hl6 : s6.size ≤ 9000 := by rw [hs6]; omega
        clear hs6
        refine take_at (i := 13) (v := ?_) 52 rfl rfl (by kernel_rfl) (by kernel_rfl) (by kernel_rfl) (fun _ _ _ h => h) (Or.inl ⟨by rfl, ?_⟩) ?_
        rotate_left
        · intro w; go_simp; try with_reducible rfl
        (try simp only [Act.put, List.setIfInBounds_toArray, List.set_cons_zero, List.set_cons_succ])
        refine take_at (i := 14) (v := ?_) 2 rfl rfl (by kernel_rfl) (by kernel_rfl) (by kernel_rfl) (fun _ _ _ h => h) (Or.inl ⟨by rfl, ?_⟩) ?_
        rotate_left
        · intro w; go_simp; try with_reducible rfl
        (try simp only [Act.put, List.setIfInBounds_toArray, List.set_cons_zero, List.set_cons_succ])
        refine wpAny_done (by kernel_rfl) ?_ _
        go_wp2_with fail
        go_ret
        exact ⟨s6, rfl, hl6, Yx2.out⟩
      · clear hk
        refine wpAny_ready (rs := [3]) (by kernel_rfl) (by simp) ?_
        refine (AllReady.cons rfl (fun K hK => ?_) AllReady.nil)
        go_simp
        refine hK _ _ ?_; clear hK K
        obtain ⟨x2, hW⟩ : ∃ x, x = World.alloc x1 (.cells #[.string ⟨#[]⟩, .string ⟨#[97]⟩, .string ⟨#[33]⟩, .string ⟨#[40]⟩, .string ⟨#[41]⟩, .string ⟨#[124]⟩] 9) := ⟨_, rfl⟩
        rw [← hW]
        obtain ⟨gB, hgg⟩ : ∃ g, g = x1.heap.size := ⟨_, rfl⟩
        rw [← hgg]
        have hbr : w.heap.size < gB := by have := HR.out.lt; omega
        have cb0 : x2.cell? ⟨gB, 0, none⟩ = some (.string ⟨#[]⟩) := by rw [hW]; exact cell_at hgg rfl
        have cb1 : x2.cell? ⟨gB, 1, none⟩ = some (.string ⟨#[97]⟩) := by rw [hW]; exact cell_at hgg rfl
        have cb2 : x2.cell? ⟨gB, 2, none⟩ = some (.string ⟨#[33]⟩) := by rw [hW]; exact cell_at hgg rfl
        have cb3 : x2.cell? ⟨gB, 3, none⟩ = some (.string ⟨#[40]⟩) := by rw [hW]; exact cell_at hgg rfl
        have cb4 : x2.cell? ⟨gB, 4, none⟩ = some (.string ⟨#[41]⟩) := by rw [hW]; exact cell_at hgg rfl
        have cb5 : x2.cell? ⟨gB, 5, none⟩ = some (.string ⟨#[124]⟩) := by rw [hW]; exact cell_at hgg rfl
        have Yx2 : Hid (Below w.heap.size w x2) := hidI (by rw [hW]; exact Yx1.out.alloc Yx1.out.size _)
        have HR := hidI (by rw [hW]; exact HR.out.below ((Below.refl _ _).alloc (Nat.le_refl _) _) : RdOk x2 w.heap.size _)
        clear hW hgg
        refine take_at (i := 6) (v := ?_) 45 rfl rfl (by kernel_rfl) (by kernel_rfl) (by kernel_rfl) (fun _ _ _ h => h) (Or.inl ⟨by rfl, ?_⟩) ?_
        rotate_left
        · intro w; go_simp; try with_reducible rfl
        (try simp only [Act.put, List.setIfInBounds_toArray, List.set_cons_zero, List.set_cons_succ])
        refine wpAny_ready (rs := [7]) (by kernel_rfl) (by simp) ?_
        refine AllReady.cons rfl (fun K hK => ?_) AllReady.nil
        go_simp
        refine hK _ _ ?_; clear hK K
        obtain ⟨s5, hs5, AL⟩ := add_any sa ⟨#[124]⟩ (by omega) (by decide)
        have hl5 : s5.size ≤ sa.size + 1 := by rw [hs5]; have : ByteArray.size ⟨#[124]⟩ ≤ 1 := (by decide); omega
        clear hs5
        refine take_at (i := 8) (v := ?_) 47 rfl rfl (by kernel_rfl) (by kernel_rfl) (by kernel_rfl) (fun _ _ _ h => h) (Or.inl ⟨by rfl, ?_⟩) ?_
        rotate_left
        · intro w; go_simp; try with_reducible rfl
        (try simp only [Act.put, List.setIfInBounds_toArray, List.set_cons_zero, List.set_cons_succ])
        obtain ⟨s6, hs6, AT⟩ := add_any s5 sb (by omega) (by omega)
        have hl6 : s6.size ≤ 9000 := by rw [hs6]; omega
        clear hs6
        refine take_at (i := 13) (v := ?_) 52 rfl rfl (by kernel_rfl) (by kernel_rfl) (by kernel_rfl) (fun _ _ _ h => h) (Or.inl ⟨by rfl, ?_⟩) ?_
        rotate_left
        · intro w; go_simp; try with_reducible rfl
        (try simp only [Act.put, List.setIfInBounds_toArray, List.set_cons_zero, List.set_cons_succ])
        refine take_at (i := 14) (v := ?_) 2 rfl rfl (by kernel_rfl) (by kernel_rfl) (by kernel_rfl) (fun _ _ _ h => h) (Or.inl ⟨by rfl, ?_⟩) ?_
        rotate_left
        · intro w; go_simp; try with_reducible rfl
        (try simp only [Act.put, List.setIfInBounds_toArray, List.set_cons_zero, List.set_cons_succ])
        refine wpAny_done (by kernel_rfl) ?_ _
        go_wp2_with fail
        go_ret
        exact ⟨s6, rfl, hl6, Yx2.out⟩
end Go.Proofs.Ytndbfdgflflfpaa
