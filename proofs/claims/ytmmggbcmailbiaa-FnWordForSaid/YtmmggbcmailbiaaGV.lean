/- PermValid and MovesValid, of the program and of the reference. -/
import Derived.Test.YtmmggbcmailbiaaGP
import Derived.Test.YtmmggbcmailbiaaGR
import Derived.Test.YtmmggbcmailbiaaBits
import Derived.Deep.QuietTactic
import Derived.BigQuiet
import Derived.Deep.DeepFit
import Derived.Outline
namespace Go.Proofs.Ytmmggbcmailbiaa
open Go.RowKit Grp

def up (q : Pm) : List Int := q.map (fun x : Nat => (x : Int))

theorem up_len (q : Pm) : (up q).length = q.length := List.length_map _
theorem up_inj {p q : Pm} (h : up p = up q) : p = q := by
  unfold up at h
  exact (List.map_inj_right (fun a b e => Int.ofNat.inj e)).1 h
theorem up_get (q : Pm) (k : Nat) : (up q)[k]? = q[k]?.map (fun x : Nat => (x : Int)) := by unfold up; rw [List.getElem?_map]
theorem up_getD {q : Pm} {k : Nat} (h : k < q.length) : (up q).getD k 0 = (ap q k : Nat) := by
  unfold ap
  rw [List.getD_eq_getElem?_getD, List.getD_eq_getElem?_getD, up_get, List.getElem?_eq_getElem h]; rfl
theorem up_I64 {n : Nat} {q : Pm} (h : IsP n q) (hn : n ≤ 5) : ∀ z ∈ up q, I64 z := by
  intro z hz
  obtain ⟨x, hx, rfl⟩ := List.mem_map.1 hz
  have := h.lt x hx
  unfold I64; omega

def pvalid (zs : List Int) : Bool := decide (1 ≤ zs.length ∧ zs.length ≤ 5 ∧ (∀ x ∈ zs, 0 ≤ x ∧ x < zs.length) ∧ zs.Nodup)

theorem pvalid_iff (zs : List Int) : pvalid zs = true ↔ ∃ q : Pm, zs = up q ∧ IsP q.length q ∧ 1 ≤ q.length ∧ q.length ≤ 5 := by
  unfold pvalid
  rw [decide_eq_true_iff]
  constructor
  · rintro ⟨h1, h2, h3, h4⟩
    have he : zs = up (zs.map Int.toNat) := by
      unfold up
      rw [List.map_map]
      refine (List.map_id _).symm.trans (List.map_congr_left (fun x hx => ?_))
      have := h3 x hx
      simp; omega
    have hl : (zs.map Int.toNat).length = zs.length := List.length_map _
    refine ⟨zs.map Int.toNat, he, ⟨rfl, ?_, ?_⟩, by rw [hl]; exact h1, by rw [hl]; exact h2⟩
    · intro x hx
      obtain ⟨y, hy, rfl⟩ := List.mem_map.1 hx
      have := h3 y hy
      rw [hl]; omega
    · refine nodup_map _ h4 (fun x hx y hy e => ?_)
      have := h3 x hx; have := h3 y hy
      omega
  · rintro ⟨q, rfl, hq, h1, h2⟩
    refine ⟨by rw [up_len]; exact h1, by rw [up_len]; exact h2, ?_, ?_⟩
    · intro x hx
      obtain ⟨y, hy, rfl⟩ := List.mem_map.1 hx
      have := hq.lt y hy
      rw [up_len]; omega
    · exact nodup_map _ hq.nodup (fun x _ y _ e => Int.ofNat.inj e)

theorem pvalid_up {n : Nat} {q : Pm} (h : IsP n q) (h1 : 1 ≤ n) (h5 : n ≤ 5) : pvalid (up q) = true :=
  (pvalid_iff _).2 ⟨q, rfl, ⟨rfl, fun x hx => by rw [h.len]; exact h.lt x hx, h.nodup⟩, by rw [h.len]; exact h1, by rw [h.len]; exact h5⟩

theorem pvalid_no {zs : List Int} (h : ¬ (1 ≤ zs.length ∧ zs.length ≤ 5)) : pvalid zs = false := by
  unfold pvalid; rw [decide_eq_false_iff_not]; rintro ⟨h1, h2, _⟩; exact h ⟨h1, h2⟩
theorem pvalid_out {zs : List Int} {k : Nat} {z : Int} (hk : zs.drop k = z :: zs.drop (k + 1)) (h : z < 0 ∨ (zs.length : Int) ≤ z) : pvalid zs = false := by
  have hm : z ∈ zs := List.mem_of_mem_drop (by rw [hk]; simp)
  unfold pvalid; rw [decide_eq_false_iff_not]; rintro ⟨_, _, h3, _⟩
  have := h3 z hm; omega
theorem pvalid_twice {zs : List Int} {k : Nat} {z : Int} (hk : zs.drop k = z :: zs.drop (k + 1)) (h : z ∈ zs.take k) : pvalid zs = false := by
  unfold pvalid; rw [decide_eq_false_iff_not]; rintro ⟨_, _, _, h4⟩
  rw [← List.take_append_drop k zs, hk, List.nodup_append] at h4
  exact h4.2.2 z h z (by simp) rfl
theorem pvalid_yes {zs : List Int} (h : 1 ≤ zs.length ∧ zs.length ≤ 5) (h3 : ∀ y ∈ zs, 0 ≤ y ∧ y < (zs.length : Int)) (h4 : zs.Nodup) : pvalid zs = true := by
  unfold pvalid; rw [decide_eq_true_iff]; exact ⟨h.1, h.2, h3, h4⟩

/-- What has been seen. -/
def SeenTo (zs : List Int) (k S : Nat) : Prop := (∀ x, S.testBit x = true ↔ (x : Int) ∈ zs.take k) ∧ (∀ y ∈ zs.take k, 0 ≤ y ∧ y < (zs.length : Int)) ∧ (zs.take k).Nodup

theorem SeenTo.zero (zs : List Int) : SeenTo zs 0 0 := ⟨fun x => by simp, by simp, by simp⟩

theorem SeenTo.next {zs : List Int} {k S t : Nat} (h : SeenTo zs k S) (hk : zs.drop k = (t : Int) :: zs.drop (k + 1)) (ht : t < zs.length) (hS : S.testBit t = false) : SeenTo zs (k + 1) (S ||| 2 ^ t) := by
  obtain ⟨h1, h2, h3⟩ := h
  have e : zs.take (k + 1) = zs.take k ++ [(t : Int)] := by
    rw [List.take_add, hk]; rfl
  have hn : (t : Int) ∉ zs.take k := fun hm => by rw [(h1 t).2 hm] at hS; cases hS
  refine ⟨fun x => ?_, fun y hy => ?_, ?_⟩
  · rw [e, List.mem_append, List.mem_singleton, ← h1 x, Nat.testBit_or, Bool.or_eq_true, Nat.testBit_two_pow]
    rw [decide_eq_true_iff]
    constructor
    · rintro (h | h)
      · exact .inl h
      · exact .inr (by omega)
    · rintro (h | h)
      · exact .inl h
      · exact .inr (by omega)
  · rw [e, List.mem_append, List.mem_singleton] at hy
    rcases hy with hy | rfl
    · exact h2 y hy
    · omega
  · rw [e, List.nodup_append]
    exact ⟨h3, by simp, fun a ha b hb e => by rw [List.mem_singleton] at hb; subst hb; subst e; exact hn ha⟩

theorem bit_eq1v (S Z : Nat) (hS : S < 32) : (bits .and .i64 ((S : Int) / 2 ^ Z) 1 == 1) = S.testBit Z := by
  have h1 : ((S : Int) / 2 ^ Z) = ((S / 2 ^ Z : Nat) : Int) := by simp
  have h2 : S / 2 ^ Z ≤ S := Nat.div_le_self _ _
  rw [h1, show (1 : Int) = ((1 : Nat) : Int) from rfl, and_i64 _ _ (by omega) (by omega), bit_is]
  by_cases h : S.testBit Z = true
  · rw [if_pos h, h]; rfl
  · rw [if_neg h]; simp at h; rw [h]; rfl


set_option maxHeartbeats 1000000 in
theorem impl_PermValid (zs : List Int) (v : Value) (w : World) (h : IntS w v zs) :
    Calls Try.prog 61 #[v] w fun e w' => e = .returned (.bool (pvalid zs)) ∧ w = w' := by
  obtain ⟨hz, ao, cap, rfl, hcap, hmax, hcells⟩ := h
  unfold maxLen at hmax
  by_cases hl : 1 ≤ zs.length ∧ zs.length ≤ 5
  rotate_left
  · have HF := hidI (pvalid_no hl)
    have hq : (zs.length : Int) < 1 ∨ 5 < (zs.length : Int) := by omega
    rcases hq with hq | hq
    · go_enter Try.func61, Try.ntmps61
      go_wp2_with fail
      go_ret
      exact ⟨ret_bool HF.out.symm, rfl⟩
    · have hq1 : ¬ (zs.length : Int) < 1 := by omega
      go_enter Try.func61, Try.ntmps61
      go_wp2_with fail
      go_ret
      exact ⟨ret_bool HF.out.symm, rfl⟩
  rcases hcells with ⟨rfl, _⟩ | ⟨b, off, rfl, hb, hc⟩
  · simp at hl
  have hq1 : ¬ (zs.length : Int) < 1 := by omega
  have hq2 : ¬ 5 < (zs.length : Int) := by omega
  have hl5 : zs.length ≤ 5 := hl.2
  have HL := hidI hl; clear hl
  go_enter Try.func61, Try.ntmps61
  go_wp2_with fail
  go_loop [3, 16] (fun s i => ∃ k S : Nat, k ≤ zs.length ∧ i = .int .i64 k ∧ s = .int .i64 S ∧ S < 32 ∧ Hid (SeenTo zs k S)) (fun _ i => zs.length - (intOf i).toNat)
  case atStart => exact ⟨0, 0, by omega, rfl, rfl, by omega, hidI (SeenTo.zero zs)⟩
  case round =>
    obtain ⟨k, S, hk, rfl, rfl, hS, HS⟩ := hrel
    obtain ⟨z, Hd, Hg, _⟩ := at_k zs k
    by_cases hlt : k < zs.length
    · have hcell : w.cell? ⟨b, off + k, none⟩ = some (.int .i64 z) := by rw [← Hg.out hlt]; exact hc k hlt
      have HD := hidI (Hd.out hlt)
      have Hc := hidI hc; clear hc Hd Hg
      have hkI : (k : Int) < (zs.length : Int) := by omega
      by_cases h0 : z < 0
      · have HF := hidI (pvalid_out HD.out (.inl h0))
        go_wp2_with fail
        go_ret
        exact ⟨ret_bool HF.out.symm, rfl⟩
      by_cases h5 : (zs.length : Int) ≤ z
      · have HF := hidI (pvalid_out HD.out (.inr h5))
        go_wp2_with fail
        go_ret
        exact ⟨ret_bool HF.out.symm, rfl⟩
      obtain ⟨t, rfl⟩ := Int.eq_ofNat_of_zero_le (show 0 ≤ z by omega)
      have ht : t < zs.length := by omega
      have htI : (t : Int) < (zs.length : Int) := by omega
      have hbe := bit_eq1v S t hS
      have hs1 := shl1 (n := t) (by omega)
      have hp32 := pow_lt32 (n := t) (by omega)
      have hor := or_i64 S (2 ^ t) (by omega) (by omega)
      have hol := or_lt32 hS hp32
      cases hb : S.testBit t
      · have HN := hidI (HS.out.next HD.out ht hb)
        rw [hb] at hbe
        obtain ⟨P, hP⟩ : ∃ P : Nat, P = 2 ^ t := ⟨_, rfl⟩
        rw [← hP] at hs1 hp32 hor hol HN
        clear hP hb
        obtain ⟨S', hS'⟩ : ∃ S' : Nat, S' = S ||| P := ⟨_, rfl⟩
        rw [← hS'] at hor hol HN
        clear hS'
        go_wp2_with fail
        go_round
        case rel => exact ⟨k + 1, S', by omega, by go_num, rfl, hol, HN⟩
        case measure => simp [intOf]; omega
      · have HF := hidI (pvalid_twice HD.out ((HS.out.1 t).1 hb))
        rw [hb] at hbe
        clear hs1 hor hb
        go_wp2_with fail
        go_ret
        exact ⟨ret_bool HF.out.symm, rfl⟩
    · have hk2 : k = zs.length := by omega
      have HF := hidI (pvalid_yes HL.out (by have := HS.out.2.1; rw [hk2, List.take_length] at this; exact this) (by have := HS.out.2.2; rw [hk2, List.take_length] at this; exact this))
      have hkI : ¬ (k : Int) < (zs.length : Int) := by omega
      clear hk2 hlt
      go_wp2_with fail
      go_ret
      exact ⟨ret_bool HF.out.symm, rfl⟩

theorem quiet_sameV {P : Program} {f : FuncId} {args : Array Value} {w : World} {n : Nat} {v : Value} (h : Calls P f args (w.drewN n) fun e w' => e = .returned v ∧ w.drewN n = w') : Calls P f args (w.drewN n) fun e w'' => e = .returned v ∧ ∃ m, w'' = w.drewN m :=
  h.mono fun _ _ ⟨he, hm⟩ => ⟨he, n, hm.symm⟩
theorem quiet_drewV {P : Program} {f : FuncId} {args : Array Value} {w : World} {n : Nat} {v : Value} (h : Calls P f args (w.drewN n) fun e w' => e = .returned v ∧ ∃ m, w' = (w.drewN n).drewN m) : Calls P f args (w.drewN n) fun e w'' => e = .returned v ∧ ∃ m, w'' = w.drewN m :=
  h.mono fun _ _ ⟨he, m, hm⟩ => ⟨he, n + m, by rw [hm, World.drewN_drewN]⟩

def inB (n lo hi : Int) : Bool := decide (lo ≤ n ∧ n ≤ hi)

theorem spec_l1InQ (n lo hi : Int) (b : Bool) (w : World) (hb : inB n lo hi = b) :
    Calls Try.prog 87 #[.int .i64 n, .int .i64 lo, .int .i64 hi] w fun e w' => e = .returned (.bool b) ∧ w = w' := by
  subst hb
  by_cases h1 : lo ≤ n
  · by_cases h2 : n ≤ hi
    · have HF := hidI (show inB n lo hi = true from decide_eq_true ⟨h1, h2⟩)
      rw [HF.out]
      go_enter Try.func87, Try.ntmps87
      go_wp2
      go_ret
      exact ⟨rfl, rfl⟩
    · have HF := hidI (show inB n lo hi = false from decide_eq_false (fun h => h2 h.2))
      rw [HF.out]
      go_enter Try.func87, Try.ntmps87
      go_wp2
      go_ret
      exact ⟨ret_bool (by first | rfl | (simp; done) | (simp; omega)), rfl⟩
  · have HF := hidI (show inB n lo hi = false from decide_eq_false (fun h => h1 h.1))
    rw [HF.out]
    go_enter Try.func87, Try.ntmps87
    go_wp2
    go_ret
    exact ⟨ret_bool (by first | rfl | (simp; done) | (simp; omega)), rfl⟩

theorem spec_l1InB (n lo hi : Int) (w : World) :
    Calls Try.prog 87 #[.int .i64 n, .int .i64 lo, .int .i64 hi] w fun e w' => e = .returned (.bool (inB n lo hi)) ∧ w = w' := spec_l1InQ n lo hi _ w rfl

set_option maxHeartbeats 400000 in
theorem spec_l1Has (zs : List Int) (n : Int) (v : Value) (w : World) (h : IntS w v zs) (hl : zs.length ≤ 9000000000000000000) :
    Calls Try.prog 81 #[v, .int .i64 n] w fun e w' => e = .returned (.bool (decide (n ∈ zs))) ∧ w = w' := by
  obtain ⟨hz, ao, cap, rfl, hcap, hmax, hcells⟩ := h
  unfold maxLen at hmax
  rcases hcells with ⟨rfl, _⟩ | ⟨b, off, rfl, hb, hc⟩
  · go_enter Try.func81, Try.ntmps81
    go_wp2_with fail
    refine wp_loop_rounds 1 ?_
    rw [rounds_succ]
    go_wp2_with fail
    go_ret
    exact ⟨rfl, rfl⟩
  · go_enter Try.func81, Try.ntmps81
    go_wp2_with fail
    go_loop [5] (fun i => ∃ k : Nat, k ≤ zs.length ∧ i = .int .i64 k ∧ Hid (n ∉ zs.take k)) (fun i => zs.length - (intOf i).toNat)
    case atStart => exact ⟨0, by omega, rfl, hidI (by simp)⟩
    case round =>
      obtain ⟨k, hk, rfl, HN⟩ := hrel
      obtain ⟨z, Hd, Hg, _⟩ := at_k zs k
      by_cases hlt : k < zs.length
      · have hcell : w.cell? ⟨b, off + k, none⟩ = some (.int .i64 z) := by rw [← Hg.out hlt]; exact hc k hlt
        have HD := hidI (Hd.out hlt)
        have Hc := hidI hc; clear hc Hd Hg
        have hkI : (k : Int) < (zs.length : Int) := by omega
        by_cases hz2 : z = n
        · have HF := hidI (decide_eq_true (show n ∈ zs from List.mem_of_mem_drop (by rw [HD.out, hz2]; simp)))
          have hzb : (z == n) = true := by simp [hz2]
          clear hz2
          go_wp2_with fail
          go_ret
          exact ⟨ret_bool HF.out.symm, rfl⟩
        · have hzb : (z == n) = false := by simp [hz2]
          have HN2 := hidI (show n ∉ zs.take (k + 1) by rw [List.take_add, HD.out]; simp; exact ⟨HN.out, fun e => hz2 e.symm⟩)
          clear hz2
          go_wp2_with fail
          go_round
          case rel => exact ⟨k + 1, by omega, by go_num, HN2⟩
          case measure => simp [intOf]; omega
      · have hk2 : k = zs.length := by omega
        have HF := hidI (decide_eq_false (show n ∉ zs by have := HN.out; rw [hk2, List.take_length] at this; exact this))
        have hkI : ¬ (k : Int) < (zs.length : Int) := by omega
        clear hk2 hlt
        go_wp2_with fail
        go_ret
        exact ⟨ret_bool HF.out.symm, rfl⟩

theorem spec_l1HasQ (zs : List Int) (n : Int) (b : Bool) (v : Value) (w : World) (hb : decide (n ∈ zs) = b) (h : IntS w v zs) (hl : zs.length ≤ 9000000000000000000) :
    Calls Try.prog 81 #[v, .int .i64 n] w fun e w' => e = .returned (.bool b) ∧ w = w' := by subst hb; exact spec_l1Has zs n v w h hl

theorem pvalid_all {zs : List Int} {k : Nat} (hk : k = zs.length) (h3 : ∀ y ∈ zs.take k, 0 ≤ y ∧ y < (zs.length : Int)) (h4 : (zs.take k).Nodup) : pvalid zs = inB (zs.length : Int) 1 5 := by
  subst hk
  unfold inB
  rw [List.take_length] at h3 h4
  by_cases h : 1 ≤ zs.length ∧ zs.length ≤ 5
  · rw [pvalid_yes h h3 h4, decide_eq_true (by omega)]
  · rw [pvalid_no h, decide_eq_false (by omega)]

set_option maxHeartbeats 1000000 in
theorem spec_PermValid (zs : List Int) (v : Value) (w : World) (h : IntS w v zs) (hlen : zs.length ≤ 4000000) :
    Calls Try.prog 79 #[v] w fun e w' => e = .returned (.bool (pvalid zs)) ∧ ∃ n, w' = w.drewN n := by
  have h0 := h
  obtain ⟨hz, ao, cap, rfl, hcap, hmax, hcells⟩ := h
  unfold maxLen at hmax
  rcases hcells with ⟨rfl, _⟩ | ⟨b, off, rfl, hb, hc⟩
  · go_enter Try.func79, Try.ntmps79
    go_wp2_with fail
    refine wp_loop_rounds 1 ?_
    rw [rounds_succ]
    go_wp2_with (go_at_call 87; refine (spec_l1InB _ _ _ _).mono ?_; rintro e w' ⟨rfl, rfl⟩)
    go_ret
    exact ⟨ret_bool (by rw [pvalid_no (by simp)]; rfl), 0, rfl⟩
  · have H0 := hidI h0; clear h0
    go_enter Try.func79, Try.ntmps79
    go_wp2_with fail
    go_loopw [3] (fun i wr => ∃ k n : Nat, k ≤ zs.length ∧ i = .int .i64 k ∧ Hid (∀ y ∈ zs.take k, 0 ≤ y ∧ y < (zs.length : Int)) ∧ Hid (zs.take k).Nodup ∧ Hid (wr = w.drewN n)) (fun i _ => zs.length - (intOf i).toNat)
    case atStart => exact ⟨0, 0, by omega, rfl, hidI (by simp), hidI (by simp), hidI rfl⟩
    case round =>
      obtain ⟨k, n, hk, rfl, HA, HN, HW⟩ := hrel
      obtain ⟨z, Hd, Hg, _⟩ := at_k zs k
      by_cases hlt : k < zs.length
      · have hcell : wr.cell? ⟨b, off + k, none⟩ = some (.int .i64 z) := by rw [HW.out, ← Hg.out hlt]; exact hc k hlt
        have HD := hidI (Hd.out hlt)
        have Hc := hidI hc; clear hc Hd Hg
        have hkI : (k : Int) < (zs.length : Int) := by omega
        have hki0 : (0 : Int) ≤ (k : Int) := by omega
        have hkc : (k : Int) ≤ (cap : Int) := by omega
        have hw1 : IntKind.i64.wrap ((zs.length : Int) - 1) = (zs.length : Int) - 1 := IntWalk.i64_in _ (by omega)
        by_cases hin : 0 ≤ z ∧ z ≤ (zs.length : Int) - 1
        rotate_left
        · have HF := hidI (pvalid_out HD.out (by omega))
          have hd : inB z 0 ((zs.length : Int) - 1) = false := decide_eq_false hin
          have HI := hidI hd; clear hin hd
          go_wp2_with fail
          go_quiet ((go_at_call 87; exact quiet_sameV (spec_l1InQ _ _ _ _ _ HI.out)))
          go_wp2_with fail
          go_ret
          exact ⟨ret_bool HF.out.symm, n + nq, by rw [HW.out, World.drewN_drewN]⟩
        have hd : inB z 0 ((zs.length : Int) - 1) = true := decide_eq_true hin
        have HI := hidI hd; clear hd
        have HT := hidI (fun W (hW : Below w.heap.size w W) => (H0.out.below hW).take (m := k) (by omega))
        by_cases hm : z ∈ zs.take k
        · have HF := hidI (pvalid_twice HD.out hm)
          have HM := hidI (decide_eq_true hm); clear hm hin
          go_wp2_with fail
          go_quiet ((first | (go_at_call 87; exact quiet_sameV (spec_l1InQ _ _ _ _ _ HI.out)) | (go_at_call 81; exact quiet_sameV (spec_l1HasQ _ z _ _ _ HM.out (HT.out _ (by rw [HW.out, World.drewN_drewN]; exact bdraw _ _)) (by simp; omega)))))
          go_wp2_with fail
          go_ret
          exact ⟨ret_bool HF.out.symm, n + nq, by rw [HW.out, World.drewN_drewN]⟩
        · have HA2 := hidI (show ∀ y ∈ zs.take (k + 1), 0 ≤ y ∧ y < (zs.length : Int) by
            intro y hy; rw [List.take_add, HD.out, List.mem_append] at hy
            rcases hy with hy | hy
            · exact HA.out y hy
            · simp at hy; subst hy; omega)
          have HN2 := hidI (show (zs.take (k + 1)).Nodup by
            rw [List.take_add, HD.out, List.nodup_append]
            exact ⟨HN.out, by simp, fun a ha b hb e => by simp at hb; subst hb; subst e; exact hm ha⟩)
          have HM := hidI (decide_eq_false hm); clear hm hin
          go_wp2_with fail
          go_quiet ((first | (go_at_call 87; exact quiet_sameV (spec_l1InQ _ _ _ _ _ HI.out)) | (go_at_call 81; exact quiet_sameV (spec_l1HasQ _ z _ _ _ HM.out (HT.out _ (by rw [HW.out, World.drewN_drewN]; exact bdraw _ _)) (by simp; omega)))))
          go_wp2_with fail
          go_roundw
          case rel => exact ⟨k + 1, n + nq, by omega, by go_num, HA2, HN2, hidI (by rw [HW.out, World.drewN_drewN])⟩
          case measure => simp [intOf]; omega
      · have HF := hidI (pvalid_all (show k = zs.length by omega) HA.out HN.out)
        have hkI : ¬ (k : Int) < (zs.length : Int) := by omega
        go_wp2_with (go_at_call 87; refine (spec_l1InB _ _ _ _).mono ?_; rintro e w' ⟨rfl, rfl⟩)
        go_ret
        exact ⟨ret_bool HF.out.symm, n, HW.out⟩
end Go.Proofs.Ytmmggbcmailbiaa
