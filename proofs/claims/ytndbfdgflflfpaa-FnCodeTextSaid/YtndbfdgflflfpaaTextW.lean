/- The text of a tree: impl.conditionText and its helpers. -/
import Derived.Test.YtndbfdgflflfpaaTextP
import Derived.Test.YtndbfdgflflfpaaTreeF
import Derived.Laws.IdiomStrings
import Derived.Deep.RegionHeld3
import Derived.Laws.Concat
namespace Go.Proofs.Ytndbfdgflflfpaa
open Go.RowKit

/-- A text as the machine holds it. -/
def TB (l : List Nat) : ByteArray := ⟨(l.map UInt8.ofNat).toArray⟩

theorem TB_size (l : List Nat) : (TB l).size = l.length := by simp [TB, ByteArray.size]
theorem TB_app (a b : List Nat) : TB a ++ TB b = TB (a ++ b) := by
  apply ByteArray.ext
  simp [TB]

theorem add_TB (a b : List Nat) (ha : a.length ≤ 1000000) (hb : b.length ≤ 1000000) (w : World) : (Op.stringOp .add (TB a) (TB b)).run Try.prog w = .ok (.string (TB (a ++ b))) w := by
  rw [run_string_add_sum w (TB a) (TB b) (by rw [TB_size, TB_size]; omega), TB_app]

theorem conv_one (c : Nat) (z : Int) (hz : z = (c : Int)) (hc : c < 256) (w : World) : (convert 40 9 (.slice (some ⟨w.heap.size, 0, none⟩) 1 1)).run Try.prog (w.alloc (.cells #[.int .u8 z] 5)) = .ok (.string (TB [c])) (w.alloc (.cells #[.int .u8 z] 5)) := by
  subst hz
  have := run_convert_bytes_back (P := Try.prog) (w.alloc (.cells #[.int .u8 (c : Int)] 5)) 40 9 5 ⟨w.heap.size, 0, none⟩ 1 [UInt8.ofNat c] Try.underlying40 Try.underlying5 Try.underlying9 (by
    intro j hj
    obtain rfl : j = 0 := by simp at hj; omega
    show (w.alloc (.cells #[.int .u8 (c : Int)] 5)).cell? ⟨w.heap.size, 0, none⟩ = _
    rw [cell_new]
    simp [Nat.mod_eq_of_lt hc])
  exact this

set_option maxRecDepth 100000 in
set_option maxHeartbeats 400000 in
theorem impl_singleText (s : Int) (w : World) (h0 : 0 ≤ s) (h6 : s ≤ 6) : Calls Try.prog 80 #[.int .i64 s] w fun e w' => e = .returned (.string (TB [chr s])) ∧ Below w.heap.size w w' := by
  by_cases h5 : s = 5
  · subst h5
    go_enter Try.func80, Try.ntmps80
    go_wp2_with fail
    go_ret
    exact ⟨rfl, Below.refl _ _⟩
  by_cases h66 : s = 6
  · subst h66
    go_enter Try.func80, Try.ntmps80
    go_wp2_with fail
    go_ret
    exact ⟨rfl, Below.refl _ _⟩
  have hs : s = 0 ∨ s = 1 ∨ s = 2 ∨ s = 3 ∨ s = 4 := by omega
  clear h5 h66 h6 h0
  have H0 := conv_one 97 97 rfl (by omega) w; have H1 := conv_one 98 98 rfl (by omega) w; have H2 := conv_one 99 99 rfl (by omega) w; have H3 := conv_one 100 100 rfl (by omega) w; have H4 := conv_one 101 101 rfl (by omega) w
  rcases hs with rfl | rfl | rfl | rfl | rfl
  all_goals
    go_enter Try.func80, Try.ntmps80
    go_wp2_with fail
    go_ret
    exact ⟨rfl, (Below.refl _ _).alloc (Nat.le_refl _) _⟩

/-! The text with as few brackets as can be. -/

def par (b : Bool) (l : List Nat) : List Nat := if b then 40 :: (l ++ [41]) else l

theorem txt_par (c : Cond) (k : Nat) (hk : k ≤ 3) : txt c k = par (decide (bind' c < k)) (txt c 0) := by
  match c with
  | .one s => rw [decide_eq_false (by show ¬ 3 < k; omega)]; rfl
  | .neg c => rw [decide_eq_false (by show ¬ 3 < k; omega)]; rfl
  | .two s l h =>
    show txt (.two s l h) k = par (decide ((if s = 8 then 2 else 1) < k)) (txt (.two s l h) 0)
    unfold txt
    rw [if_neg (Nat.not_lt_zero _)]
    by_cases e : (if s = 8 then 2 else 1) < k
    · rw [if_pos e, decide_eq_true e]; rfl
    · rw [if_neg e, decide_eq_false e]; rfl

theorem par_len (b : Bool) (l : List Nat) : (par b l).length ≤ l.length + 2 := by
  unfold par; split <;> simp

theorem txt_len : ∀ (c : Cond) (k : Nat), (txt c k).length ≤ 3 * c.steps.length
  | .one s, k => by simp [txt, Cond.steps]
  | .neg c, k => by
    have := txt_len c 3
    simp [txt, Cond.steps]; omega
  | .two s l h, k => by
    have h1 := txt_len l (if s = 8 then 2 else 1)
    have h2 := txt_len h ((if s = 8 then 2 else 1) + 1)
    rw [txt]
    generalize (if s = 8 then 2 else 1) = m at *
    generalize (if s = 8 then 38 else 124) = q
    by_cases c : m < k
    · rw [if_pos c]; simp [Cond.steps]; omega
    · rw [if_neg c]; simp [Cond.steps]; omega

theorem bind_last (c : Cond) (h : c.Ok) : decide (bind' c < 3) = (c.last == 8 || c.last == 9) ∧ decide (bind' c < 2) = (c.last == 9) ∧ decide (bind' c < 1) = false := by
  match c, h with
  | .one s, h =>
    have h1 : 0 ≤ s ∧ s ≤ 6 := h
    have e8 : (s == 8) = false := by simp only [beq_eq_false_iff_ne, ne_eq]; omega
    have e9 : (s == 9) = false := by simp only [beq_eq_false_iff_ne, ne_eq]; omega
    simp [bind', Cond.last, e8, e9]
  | .neg c, _ => simp [bind', Cond.last]
  | .two s l h, hk =>
    rcases hk.1 with rfl | rfl <;> simp [bind', Cond.last]

theorem txt_neg (c : Cond) (h : c.Ok) : txt (.neg c) 0 = 33 :: par (c.last == 8 || c.last == 9) (txt c 0) := by
  rw [← (bind_last c h).1, ← txt_par c 3 (by omega)]; rfl
theorem txt_and (l r : Cond) (hl : l.Ok) (hr : r.Ok) : txt (.two 8 l r) 0 = par (l.last == 9) (txt l 0) ++ 38 :: par (r.last == 8 || r.last == 9) (txt r 0) := by
  rw [← (bind_last r hr).1, ← (bind_last l hl).2.1, ← txt_par l 2 (by omega), ← txt_par r 3 (by omega)]; rfl
theorem txt_or (l r : Cond) (hl : l.Ok) (hr : r.Ok) : txt (.two 9 l r) 0 = txt l 0 ++ 124 :: par (r.last == 9) (txt r 0) := by
  have h1 := txt_par l 1 (by omega)
  rw [(bind_last l hl).2.2] at h1
  rw [← (bind_last r hr).2.1, ← txt_par r 2 (by omega)]
  show txt l 1 ++ _ = _
  rw [h1]; rfl

/-- Brackets around a part, if it is told so. -/
theorem impl_partText (c : Cond) (hc : (txt c 0).length ≤ 100000) (H : ∀ w, Calls Try.prog 58 #[c.val] w fun e w' => e = .returned (.string (TB (txt c 0))) ∧ Below w.heap.size w w') (b : Bool) (w : World) :
    Calls Try.prog 82 #[c.val, .bool b] w fun e w' => e = .returned (.string (TB (par b (txt c 0)))) ∧ Below w.heap.size w w' := by
  have HH := hidI H
  have HA : ∀ w, (Op.stringOp .add ⟨#[40]⟩ (TB (txt c 0))).run Try.prog w = .ok (.string (TB (40 :: txt c 0))) w := fun w => add_TB [40] (txt c 0) (by decide) (by omega) w
  have HB : ∀ w, (Op.stringOp .add (TB (40 :: txt c 0)) ⟨#[41]⟩).run Try.prog w = .ok (.string (TB (40 :: (txt c 0 ++ [41])))) w := fun w => add_TB (40 :: txt c 0) [41] (by simp; omega) (by decide) w
  obtain ⟨T, A, hA⟩ := c.shape
  rw [hA] at HH ⊢
  clear H hA hc
  cases b
  · go_enter Try.func82, Try.ntmps82
    go_wp2_with fail
    refine (HH.out _).mono ?_; rintro e w1 ⟨rfl, b1⟩
    go_wp2_with fail
    go_ret
    exact ⟨rfl, b1⟩
  · go_enter Try.func82, Try.ntmps82
    go_wp2_with fail
    refine (HH.out _).mono ?_; rintro e w1 ⟨rfl, b1⟩
    go_wp2_with fail
    go_ret
    exact ⟨rfl, b1⟩

set_option maxRecDepth 100000 in
set_option maxHeartbeats 4000000 in
theorem impl_conditionText (c : Cond) : ∀ (w : World), c.Ok → c.steps.length ≤ 1000 → Calls Try.prog 58 #[c.val] w fun e w' => e = .returned (.string (TB (txt c 0))) ∧ Below w.heap.size w w' := by
  induction c with
  | one s =>
    intro w hk _
    have hk1 : 0 ≤ s ∧ s ≤ 6 := hk
    obtain ⟨k1, k2⟩ := hk1
    have q1 := ta_single_single
    have HS := hidI (fun w => impl_singleText s w k1 k2)
    have B0 := hidI (fun o => (Below.refl w.heap.size w).alloc (Nat.le_refl _) o)
    clear hk k1 k2
    show Calls Try.prog 58 #[.iface 102 (.agg #[.int .i64 s])] w fun e w' => e = .returned (.string (TB [chr s])) ∧ Below w.heap.size w w'
    go_enter Try.func58, Try.ntmps58
    go_wp2_with fail
    refine (HS.out _).mono ?_; rintro e w1 ⟨rfl, b1⟩
    have HB := hidI ((B0.out _).trans (b1.mono (by simp))); clear b1
    go_wp2_with fail
    go_ret
    exact ⟨rfl, HB.out⟩
  | neg c ih =>
    intro w hk hlen
    have hk2 : c.Ok := hk
    have hl2 : c.steps.length ≤ 1000 := by simp [Cond.steps] at hlen; omega
    have htl := txt_len c 0
    have q1 := ta_turned_single; have q2 := ta_turned_turned
    have HV := hidI (txt_neg c hk2)
    have HP := impl_partText c (by omega) (fun w => ih w hk2 hl2)
    have HL := hidI (impl_lastStep c)
    have hpt := par_len true (txt c 0)
    have hpf := par_len false (txt c 0)
    have HAT : ∀ w, (Op.stringOp .add ⟨#[33]⟩ (TB (par true (txt c 0)))).run Try.prog w = .ok (.string (TB (33 :: par true (txt c 0)))) w := fun w => add_TB [33] _ (by decide) (by omega) w
    have HAF : ∀ w, (Op.stringOp .add ⟨#[33]⟩ (TB (par false (txt c 0)))).run Try.prog w = .ok (.string (TB (33 :: par false (txt c 0)))) w := fun w => add_TB [33] _ (by decide) (by omega) w
    have HPT := hidI (HP true); have HPF := hidI (HP false)
    have HV8 := hidI (fun (h : c.last = 8) => (show txt (.neg c) 0 = 33 :: par true (txt c 0) by rw [HV.out, h]; rfl))
    have HV9 := hidI (fun (h : c.last = 9) => (show txt (.neg c) 0 = 33 :: par true (txt c 0) by rw [HV.out, h]; rfl))
    have HVN := hidI (fun (h : (c.last == 8) = false) (h2 : (c.last == 9) = false) => (show txt (.neg c) 0 = 33 :: par false (txt c 0) by rw [HV.out, h, h2]; rfl))
    generalize par true (txt c 0) = LT at *
    generalize par false (txt c 0) = LF at *
    show Calls Try.prog 58 #[.iface 105 (.agg #[c.val])] w _
    obtain ⟨T, A, hA⟩ := c.shape
    rw [hA] at HPT HPF HL ⊢
    generalize c.last = pa at *
    have B0 := hidI (fun o => (Below.refl w.heap.size w).alloc (Nat.le_refl _) o)
    have q0 : Hid (∀ o, w.heap.size < (w.alloc o).heap.size) := hidI (fun o => by simp)
    have c0 : (w.alloc (.cells #[.iface T A] 105)).cell? ⟨w.heap.size, 0, none⟩ = some (.iface T A) := cell_at rfl rfl
    clear ih hk hk2 hlen hl2 htl hpt hpf hA HP HV
    have HC0 := hidI c0; clear c0
    have ways : pa = 8 ∨ pa = 9 ∨ ((pa == 8) = false ∧ (pa == 9) = false) := by
      by_cases h8 : pa = 8
      · exact .inl h8
      · by_cases h9 : pa = 9
        · exact .inr (.inl h9)
        · exact .inr (.inr ⟨by simp only [beq_eq_false_iff_ne, ne_eq]; exact h8, by simp only [beq_eq_false_iff_ne, ne_eq]; exact h9⟩)
    rcases ways with rfl | rfl | ⟨e8, e9⟩
    · go_enter Try.func58, Try.ntmps58
      go_wp2_with fail
      refine (HL.out _).mono ?_; rintro e w1 ⟨rfl, b1⟩
      have c1 := (b1.cell (p := ⟨w.heap.size, 0, none⟩) (q0.out _)).trans HC0.out
      have HB := hidI ((B0.out _).trans (b1.mono (by simp))); clear b1
      go_wp2_with fail
      refine (HPT.out _).mono ?_; rintro e w2 ⟨rfl, b2⟩
      have HB2 := hidI (bthen HB.out b2); clear b2
      go_wp2_with fail
      go_ret
      exact ⟨by rw [HV8.out trivial]; rfl, HB2.out⟩
    · go_enter Try.func58, Try.ntmps58
      go_wp2_with fail
      refine (HL.out _).mono ?_; rintro e w1 ⟨rfl, b1⟩
      have c1 := (b1.cell (p := ⟨w.heap.size, 0, none⟩) (q0.out _)).trans HC0.out
      have HB := hidI ((B0.out _).trans (b1.mono (by simp))); clear b1
      go_wp2_with fail
      refine (HPT.out _).mono ?_; rintro e w2 ⟨rfl, b2⟩
      have HB2 := hidI (bthen HB.out b2); clear b2
      go_wp2_with fail
      go_ret
      exact ⟨by rw [HV9.out trivial]; rfl, HB2.out⟩
    · go_enter Try.func58, Try.ntmps58
      go_wp2_with fail
      refine (HL.out _).mono ?_; rintro e w1 ⟨rfl, b1⟩
      have c1 := (b1.cell (p := ⟨w.heap.size, 0, none⟩) (q0.out _)).trans HC0.out
      have HB := hidI ((B0.out _).trans (b1.mono (by simp))); clear b1
      go_wp2_with fail
      refine (HPF.out _).mono ?_; rintro e w2 ⟨rfl, b2⟩
      have HB2 := hidI (bthen HB.out b2); clear b2
      go_wp2_with fail
      go_ret
      exact ⟨by rw [HVN.out e8 e9]; rfl, HB2.out⟩
  | two s l h ihl ihh =>
    intro w hk hlen
    obtain ⟨k1, k2, k3⟩ := hk
    have hN : (Cond.two s l h).steps.length = l.steps.length + h.steps.length + 1 := by simp [Cond.steps]; omega
    rw [hN] at hlen
    have q1 := ta_joined_single; have q2 := ta_joined_turned; have q3 := ta_joined_joined
    have hlt := txt_len l 0; have hrt := txt_len h 0
    have HPL := impl_partText l (by omega) (fun w => ihl w k2 (by omega))
    have HPH := impl_partText h (by omega) (fun w => ihh w k3 (by omega))
    have LA := hidI (impl_lastStep l); have LB := hidI (impl_lastStep h)
    have HL9 := hidI (HPL (l.last == 9)); have HLF := hidI (HPL false)
    have HH9 := hidI (HPH (h.last == 9)); have HHT := hidI (HPH true); have HHF := hidI (HPH false)
    have l1 := par_len (l.last == 9) (txt l 0); have l2 := par_len false (txt l 0); have l3 := par_len (h.last == 9) (txt h 0); have l4 := par_len true (txt h 0); have l5 := par_len false (txt h 0)
    have HV8 := hidI (fun (e : h.last = 8) => (show txt (.two 8 l h) 0 = par (l.last == 9) (txt l 0) ++ 38 :: par true (txt h 0) by rw [txt_and l h k2 k3, e]; rfl))
    have HV9 := hidI (fun (e : h.last = 9) => (show txt (.two 8 l h) 0 = par (l.last == 9) (txt l 0) ++ 38 :: par true (txt h 0) by rw [txt_and l h k2 k3, e]; rfl))
    have HVN := hidI (fun (e : (h.last == 8) = false) (e2 : (h.last == 9) = false) => (show txt (.two 8 l h) 0 = par (l.last == 9) (txt l 0) ++ 38 :: par false (txt h 0) by rw [txt_and l h k2 k3, e, e2]; rfl))
    have HVO := hidI (show txt (.two 9 l h) 0 = par false (txt l 0) ++ 124 :: par (h.last == 9) (txt h 0) from txt_or l h k2 k3)
    show Calls Try.prog 58 #[.iface 109 (.agg #[.int .i64 s, l.val, h.val])] w _
    obtain ⟨T, A, hA⟩ := l.shape
    obtain ⟨T2, A2, hA2⟩ := h.shape
    rw [hA] at LA HL9 HLF ⊢
    rw [hA2] at LB HH9 HHT HHF ⊢
    generalize par (l.last == 9) (txt l 0) = L9 at *
    generalize par false (txt l 0) = LF at *
    generalize par (h.last == 9) (txt h 0) = H9 at *
    generalize par true (txt h 0) = HT at *
    generalize par false (txt h 0) = HF at *
    generalize l.last = pa at *
    generalize h.last = pb at *
    have A1 : ∀ w, (Op.stringOp .add (TB L9) ⟨#[38]⟩).run Try.prog w = .ok (.string (TB (L9 ++ [38]))) w := fun w => add_TB _ [38] (by omega) (by decide) w
    have A2' : ∀ w, (Op.stringOp .add (TB (L9 ++ [38])) (TB HT)).run Try.prog w = .ok (.string (TB (L9 ++ 38 :: HT))) w := fun w => by rw [add_TB _ _ (by simp; omega) (by omega) w]; simp
    have A3 : ∀ w, (Op.stringOp .add (TB (L9 ++ [38])) (TB HF)).run Try.prog w = .ok (.string (TB (L9 ++ 38 :: HF))) w := fun w => by rw [add_TB _ _ (by simp; omega) (by omega) w]; simp
    have A4 : ∀ w, (Op.stringOp .add (TB LF) ⟨#[124]⟩).run Try.prog w = .ok (.string (TB (LF ++ [124]))) w := fun w => add_TB _ [124] (by omega) (by decide) w
    have A5 : ∀ w, (Op.stringOp .add (TB (LF ++ [124])) (TB H9)).run Try.prog w = .ok (.string (TB (LF ++ 124 :: H9))) w := fun w => by rw [add_TB _ _ (by simp; omega) (by omega) w]; simp
    clear ihl ihh k2 k3 hA hA2 hN hlen hlt hrt l1 l2 l3 l4 l5 HPL HPH
    rcases k1 with rfl | rfl
    rotate_left
    ·
      go_enter Try.func58, Try.ntmps58
      go_wp2_with fail
      have c0 : (w.alloc (.cells #[.int .i64 9, .iface T A, .iface T2 A2] 109)).cell? ⟨w.heap.size, 0, none⟩ = some (.int .i64 9) := cell_at rfl rfl
      have c1 : (w.alloc (.cells #[.int .i64 9, .iface T A, .iface T2 A2] 109)).cell? ⟨w.heap.size, 1, none⟩ = some (.iface T A) := cell_at rfl rfl
      have c2 : (w.alloc (.cells #[.int .i64 9, .iface T A, .iface T2 A2] 109)).cell? ⟨w.heap.size, 2, none⟩ = some (.iface T2 A2) := cell_at rfl rfl
      have B0 : Below w.heap.size w (w.alloc (.cells #[.int .i64 9, .iface T A, .iface T2 A2] 109)) := (Below.refl _ _).alloc (Nat.le_refl _) _
      have hs0 : w.heap.size < (w.alloc (.cells #[.int .i64 9, .iface T A, .iface T2 A2] 109)).heap.size := by simp
      generalize w.alloc (.cells #[.int .i64 9, .iface T A, .iface T2 A2] 109) = W0 at c0 c1 c2 B0 hs0 ⊢
      have HB0 := hidI B0; have HS0 := hidI hs0; clear B0 hs0
      go_region_held3 (fun W => W.cell? ⟨w.heap.size, 0, none⟩ = some (.int .i64 9) ∧ W.cell? ⟨w.heap.size, 1, none⟩ = some (.iface T A) ∧ W.cell? ⟨w.heap.size, 2, none⟩ = some (.iface T2 A2)) (first | exact ⟨c0, c1, c2⟩ | (refine ⟨?_, ?_, ?_⟩ <;> assumption)) (first | (go_at_call_of 81 A; refine (LA.out _).mono ?_; rintro e x1 ⟨rfl, b5⟩; have d10 := (b5.cell (p := ⟨w.heap.size, 0, none⟩) HS0.out).trans c0; have d11 := (b5.cell (p := ⟨w.heap.size, 1, none⟩) HS0.out).trans c1; have d12 := (b5.cell (p := ⟨w.heap.size, 2, none⟩) HS0.out).trans c2; have q1 := hidI (Nat.lt_of_lt_of_le HS0.out b5.size); have B1 := hidI (HB0.out.drew.trans (b5.mono (Nat.le_of_lt HS0.out))); clear b5) | (go_at_call_of 81 A2; refine (LB.out _).mono ?_; rintro e y1 ⟨rfl, b6⟩; have e10 := (b6.cell (p := ⟨w.heap.size, 0, none⟩) q1.out).trans d10; have e11 := (b6.cell (p := ⟨w.heap.size, 1, none⟩) q1.out).trans d11; have e12 := (b6.cell (p := ⟨w.heap.size, 2, none⟩) q1.out).trans d12; have B1' := hidI (B1.out.trans (b6.mono (Nat.le_of_lt q1.out))); have q1' := hidI (Nat.lt_of_lt_of_le q1.out b6.size); clear b6) | fail)
      clear c0 c1 c2 d10 d11 d12
      go_wp2_with fail
      go_region_held3 (fun W => W.cell? ⟨w.heap.size, 0, none⟩ = some (.int .i64 9) ∧ W.cell? ⟨w.heap.size, 1, none⟩ = some (.iface T A) ∧ W.cell? ⟨w.heap.size, 2, none⟩ = some (.iface T2 A2)) (first | exact ⟨e10, e11, e12⟩ | (refine ⟨?_, ?_, ?_⟩ <;> assumption)) (first | (go_at_call_of 82 A; refine (HLF.out _).mono ?_; rintro e x2 ⟨rfl, b5⟩; have d20 := (b5.cell (p := ⟨w.heap.size, 0, none⟩) q1'.out).trans e10; have d21 := (b5.cell (p := ⟨w.heap.size, 1, none⟩) q1'.out).trans e11; have d22 := (b5.cell (p := ⟨w.heap.size, 2, none⟩) q1'.out).trans e12; have q2 := hidI (Nat.lt_of_lt_of_le q1'.out b5.size); have B2 := hidI (B1'.out.drew.trans (b5.mono (Nat.le_of_lt q1'.out))); clear b5) | (go_at_call_of 82 A2; refine (HH9.out _).mono ?_; rintro e y2 ⟨rfl, b6⟩; have e20 := (b6.cell (p := ⟨w.heap.size, 0, none⟩) q2.out).trans d20; have e21 := (b6.cell (p := ⟨w.heap.size, 1, none⟩) q2.out).trans d21; have e22 := (b6.cell (p := ⟨w.heap.size, 2, none⟩) q2.out).trans d22; have B2' := hidI (B2.out.trans (b6.mono (Nat.le_of_lt q2.out))); have q2' := hidI (Nat.lt_of_lt_of_le q2.out b6.size); clear b6) | fail)
      go_wp2_with fail
      go_ret
      exact ⟨by rw [HVO.out]; rfl, B2'.out⟩
    have ways : pb = 8 ∨ pb = 9 ∨ ((pb == 8) = false ∧ (pb == 9) = false) := by
      by_cases h8 : pb = 8
      · exact .inl h8
      · by_cases h9 : pb = 9
        · exact .inr (.inl h9)
        · exact .inr (.inr ⟨by simp only [beq_eq_false_iff_ne, ne_eq]; exact h8, by simp only [beq_eq_false_iff_ne, ne_eq]; exact h9⟩)
    have ways2 : (pb == 8) = true ∧ (pb == 9) = false ∨ (pb == 9) = true ∨ ((pb == 8) = false ∧ (pb == 9) = false) := by
      rcases ways with rfl | rfl | h
      · exact .inl ⟨rfl, rfl⟩
      · exact .inr (.inl rfl)
      · exact .inr (.inr h)
    clear ways
    have HE8 := hidI (fun (e : (pb == 8) = true) => (HV8.out (by simpa using e)))
    have HE9 := hidI (fun (e : (pb == 9) = true) => (HV9.out (by simpa using e)))
    rcases ways2 with ⟨e8, e9⟩ | e9 | ⟨e8, e9⟩
    ·
      go_enter Try.func58, Try.ntmps58
      go_wp2_with fail
      have c0 : (w.alloc (.cells #[.int .i64 8, .iface T A, .iface T2 A2] 109)).cell? ⟨w.heap.size, 0, none⟩ = some (.int .i64 8) := cell_at rfl rfl
      have c1 : (w.alloc (.cells #[.int .i64 8, .iface T A, .iface T2 A2] 109)).cell? ⟨w.heap.size, 1, none⟩ = some (.iface T A) := cell_at rfl rfl
      have c2 : (w.alloc (.cells #[.int .i64 8, .iface T A, .iface T2 A2] 109)).cell? ⟨w.heap.size, 2, none⟩ = some (.iface T2 A2) := cell_at rfl rfl
      have B0 : Below w.heap.size w (w.alloc (.cells #[.int .i64 8, .iface T A, .iface T2 A2] 109)) := (Below.refl _ _).alloc (Nat.le_refl _) _
      have hs0 : w.heap.size < (w.alloc (.cells #[.int .i64 8, .iface T A, .iface T2 A2] 109)).heap.size := by simp
      generalize w.alloc (.cells #[.int .i64 8, .iface T A, .iface T2 A2] 109) = W0 at c0 c1 c2 B0 hs0 ⊢
      have HB0 := hidI B0; have HS0 := hidI hs0; clear B0 hs0
      go_region_held3 (fun W => W.cell? ⟨w.heap.size, 0, none⟩ = some (.int .i64 8) ∧ W.cell? ⟨w.heap.size, 1, none⟩ = some (.iface T A) ∧ W.cell? ⟨w.heap.size, 2, none⟩ = some (.iface T2 A2)) (first | exact ⟨c0, c1, c2⟩ | (refine ⟨?_, ?_, ?_⟩ <;> assumption)) (first | (go_at_call_of 81 A; refine (LA.out _).mono ?_; rintro e x1 ⟨rfl, b5⟩; have d10 := (b5.cell (p := ⟨w.heap.size, 0, none⟩) HS0.out).trans c0; have d11 := (b5.cell (p := ⟨w.heap.size, 1, none⟩) HS0.out).trans c1; have d12 := (b5.cell (p := ⟨w.heap.size, 2, none⟩) HS0.out).trans c2; have q1 := hidI (Nat.lt_of_lt_of_le HS0.out b5.size); have B1 := hidI (HB0.out.drew.trans (b5.mono (Nat.le_of_lt HS0.out))); clear b5) | (go_at_call_of 81 A2; refine (LB.out _).mono ?_; rintro e y1 ⟨rfl, b6⟩; have e10 := (b6.cell (p := ⟨w.heap.size, 0, none⟩) q1.out).trans d10; have e11 := (b6.cell (p := ⟨w.heap.size, 1, none⟩) q1.out).trans d11; have e12 := (b6.cell (p := ⟨w.heap.size, 2, none⟩) q1.out).trans d12; have B1' := hidI (B1.out.trans (b6.mono (Nat.le_of_lt q1.out))); have q1' := hidI (Nat.lt_of_lt_of_le q1.out b6.size); clear b6) | fail)
      clear c0 c1 c2 d10 d11 d12
      go_wp2_with fail
      go_region_held3 (fun W => W.cell? ⟨w.heap.size, 0, none⟩ = some (.int .i64 8) ∧ W.cell? ⟨w.heap.size, 1, none⟩ = some (.iface T A) ∧ W.cell? ⟨w.heap.size, 2, none⟩ = some (.iface T2 A2)) (first | exact ⟨e10, e11, e12⟩ | (refine ⟨?_, ?_, ?_⟩ <;> assumption)) (first | (go_at_call_of 82 A; refine (HL9.out _).mono ?_; rintro e x2 ⟨rfl, b5⟩; have d20 := (b5.cell (p := ⟨w.heap.size, 0, none⟩) q1'.out).trans e10; have d21 := (b5.cell (p := ⟨w.heap.size, 1, none⟩) q1'.out).trans e11; have d22 := (b5.cell (p := ⟨w.heap.size, 2, none⟩) q1'.out).trans e12; have q2 := hidI (Nat.lt_of_lt_of_le q1'.out b5.size); have B2 := hidI (B1'.out.drew.trans (b5.mono (Nat.le_of_lt q1'.out))); clear b5) | (go_at_call_of 82 A2; refine (HHT.out _).mono ?_; rintro e y2 ⟨rfl, b6⟩; have e20 := (b6.cell (p := ⟨w.heap.size, 0, none⟩) q2.out).trans d20; have e21 := (b6.cell (p := ⟨w.heap.size, 1, none⟩) q2.out).trans d21; have e22 := (b6.cell (p := ⟨w.heap.size, 2, none⟩) q2.out).trans d22; have B2' := hidI (B2.out.trans (b6.mono (Nat.le_of_lt q2.out))); have q2' := hidI (Nat.lt_of_lt_of_le q2.out b6.size); clear b6) | fail)
      go_wp2_with fail
      go_ret
      exact ⟨by rw [HE8.out e8]; rfl, B2'.out⟩
    ·
      go_enter Try.func58, Try.ntmps58
      go_wp2_with fail
      have c0 : (w.alloc (.cells #[.int .i64 8, .iface T A, .iface T2 A2] 109)).cell? ⟨w.heap.size, 0, none⟩ = some (.int .i64 8) := cell_at rfl rfl
      have c1 : (w.alloc (.cells #[.int .i64 8, .iface T A, .iface T2 A2] 109)).cell? ⟨w.heap.size, 1, none⟩ = some (.iface T A) := cell_at rfl rfl
      have c2 : (w.alloc (.cells #[.int .i64 8, .iface T A, .iface T2 A2] 109)).cell? ⟨w.heap.size, 2, none⟩ = some (.iface T2 A2) := cell_at rfl rfl
      have B0 : Below w.heap.size w (w.alloc (.cells #[.int .i64 8, .iface T A, .iface T2 A2] 109)) := (Below.refl _ _).alloc (Nat.le_refl _) _
      have hs0 : w.heap.size < (w.alloc (.cells #[.int .i64 8, .iface T A, .iface T2 A2] 109)).heap.size := by simp
      generalize w.alloc (.cells #[.int .i64 8, .iface T A, .iface T2 A2] 109) = W0 at c0 c1 c2 B0 hs0 ⊢
      have HB0 := hidI B0; have HS0 := hidI hs0; clear B0 hs0
      go_region_held3 (fun W => W.cell? ⟨w.heap.size, 0, none⟩ = some (.int .i64 8) ∧ W.cell? ⟨w.heap.size, 1, none⟩ = some (.iface T A) ∧ W.cell? ⟨w.heap.size, 2, none⟩ = some (.iface T2 A2)) (first | exact ⟨c0, c1, c2⟩ | (refine ⟨?_, ?_, ?_⟩ <;> assumption)) (first | (go_at_call_of 81 A; refine (LA.out _).mono ?_; rintro e x1 ⟨rfl, b5⟩; have d10 := (b5.cell (p := ⟨w.heap.size, 0, none⟩) HS0.out).trans c0; have d11 := (b5.cell (p := ⟨w.heap.size, 1, none⟩) HS0.out).trans c1; have d12 := (b5.cell (p := ⟨w.heap.size, 2, none⟩) HS0.out).trans c2; have q1 := hidI (Nat.lt_of_lt_of_le HS0.out b5.size); have B1 := hidI (HB0.out.drew.trans (b5.mono (Nat.le_of_lt HS0.out))); clear b5) | (go_at_call_of 81 A2; refine (LB.out _).mono ?_; rintro e y1 ⟨rfl, b6⟩; have e10 := (b6.cell (p := ⟨w.heap.size, 0, none⟩) q1.out).trans d10; have e11 := (b6.cell (p := ⟨w.heap.size, 1, none⟩) q1.out).trans d11; have e12 := (b6.cell (p := ⟨w.heap.size, 2, none⟩) q1.out).trans d12; have B1' := hidI (B1.out.trans (b6.mono (Nat.le_of_lt q1.out))); have q1' := hidI (Nat.lt_of_lt_of_le q1.out b6.size); clear b6) | fail)
      clear c0 c1 c2 d10 d11 d12
      go_wp2_with fail
      first | (go_region_with (first | (go_at_call_of 82 A; refine (HL9.out _).mono ?_; rintro e x2 ⟨rfl, b5⟩; have d20 := (b5.cell (p := ⟨w.heap.size, 0, none⟩) q1'.out).trans e10; have d21 := (b5.cell (p := ⟨w.heap.size, 1, none⟩) q1'.out).trans e11; have d22 := (b5.cell (p := ⟨w.heap.size, 2, none⟩) q1'.out).trans e12; have q2 := hidI (Nat.lt_of_lt_of_le q1'.out b5.size); have B2 := hidI (B1'.out.drew.trans (b5.mono (Nat.le_of_lt q1'.out))); clear b5) | (go_at_call_of 82 A2; refine (HHT.out _).mono ?_; rintro e y2 ⟨rfl, b6⟩; have e20 := (b6.cell (p := ⟨w.heap.size, 0, none⟩) q2.out).trans d20; have e21 := (b6.cell (p := ⟨w.heap.size, 1, none⟩) q2.out).trans d21; have e22 := (b6.cell (p := ⟨w.heap.size, 2, none⟩) q2.out).trans d22; have B2' := hidI (B2.out.trans (b6.mono (Nat.le_of_lt q2.out))); have q2' := hidI (Nat.lt_of_lt_of_le q2.out b6.size); clear b6) | fail)) | fail
      all_goals
        go_wp2_with fail
        go_ret
        exact ⟨by rw [HE9.out e9]; rfl, B2'.out⟩
    ·
      go_enter Try.func58, Try.ntmps58
      go_wp2_with fail
      have c0 : (w.alloc (.cells #[.int .i64 8, .iface T A, .iface T2 A2] 109)).cell? ⟨w.heap.size, 0, none⟩ = some (.int .i64 8) := cell_at rfl rfl
      have c1 : (w.alloc (.cells #[.int .i64 8, .iface T A, .iface T2 A2] 109)).cell? ⟨w.heap.size, 1, none⟩ = some (.iface T A) := cell_at rfl rfl
      have c2 : (w.alloc (.cells #[.int .i64 8, .iface T A, .iface T2 A2] 109)).cell? ⟨w.heap.size, 2, none⟩ = some (.iface T2 A2) := cell_at rfl rfl
      have B0 : Below w.heap.size w (w.alloc (.cells #[.int .i64 8, .iface T A, .iface T2 A2] 109)) := (Below.refl _ _).alloc (Nat.le_refl _) _
      have hs0 : w.heap.size < (w.alloc (.cells #[.int .i64 8, .iface T A, .iface T2 A2] 109)).heap.size := by simp
      generalize w.alloc (.cells #[.int .i64 8, .iface T A, .iface T2 A2] 109) = W0 at c0 c1 c2 B0 hs0 ⊢
      have HB0 := hidI B0; have HS0 := hidI hs0; clear B0 hs0
      go_region_held3 (fun W => W.cell? ⟨w.heap.size, 0, none⟩ = some (.int .i64 8) ∧ W.cell? ⟨w.heap.size, 1, none⟩ = some (.iface T A) ∧ W.cell? ⟨w.heap.size, 2, none⟩ = some (.iface T2 A2)) (first | exact ⟨c0, c1, c2⟩ | (refine ⟨?_, ?_, ?_⟩ <;> assumption)) (first | (go_at_call_of 81 A; refine (LA.out _).mono ?_; rintro e x1 ⟨rfl, b5⟩; have d10 := (b5.cell (p := ⟨w.heap.size, 0, none⟩) HS0.out).trans c0; have d11 := (b5.cell (p := ⟨w.heap.size, 1, none⟩) HS0.out).trans c1; have d12 := (b5.cell (p := ⟨w.heap.size, 2, none⟩) HS0.out).trans c2; have q1 := hidI (Nat.lt_of_lt_of_le HS0.out b5.size); have B1 := hidI (HB0.out.drew.trans (b5.mono (Nat.le_of_lt HS0.out))); clear b5) | (go_at_call_of 81 A2; refine (LB.out _).mono ?_; rintro e y1 ⟨rfl, b6⟩; have e10 := (b6.cell (p := ⟨w.heap.size, 0, none⟩) q1.out).trans d10; have e11 := (b6.cell (p := ⟨w.heap.size, 1, none⟩) q1.out).trans d11; have e12 := (b6.cell (p := ⟨w.heap.size, 2, none⟩) q1.out).trans d12; have B1' := hidI (B1.out.trans (b6.mono (Nat.le_of_lt q1.out))); have q1' := hidI (Nat.lt_of_lt_of_le q1.out b6.size); clear b6) | fail)
      clear c0 c1 c2 d10 d11 d12
      go_wp2_with fail
      go_region_held3 (fun W => W.cell? ⟨w.heap.size, 0, none⟩ = some (.int .i64 8) ∧ W.cell? ⟨w.heap.size, 1, none⟩ = some (.iface T A) ∧ W.cell? ⟨w.heap.size, 2, none⟩ = some (.iface T2 A2)) (first | exact ⟨e10, e11, e12⟩ | (refine ⟨?_, ?_, ?_⟩ <;> assumption)) (first | (go_at_call_of 82 A; refine (HL9.out _).mono ?_; rintro e x2 ⟨rfl, b5⟩; have d20 := (b5.cell (p := ⟨w.heap.size, 0, none⟩) q1'.out).trans e10; have d21 := (b5.cell (p := ⟨w.heap.size, 1, none⟩) q1'.out).trans e11; have d22 := (b5.cell (p := ⟨w.heap.size, 2, none⟩) q1'.out).trans e12; have q2 := hidI (Nat.lt_of_lt_of_le q1'.out b5.size); have B2 := hidI (B1'.out.drew.trans (b5.mono (Nat.le_of_lt q1'.out))); clear b5) | (go_at_call_of 82 A2; refine (HHF.out _).mono ?_; rintro e y2 ⟨rfl, b6⟩; have e20 := (b6.cell (p := ⟨w.heap.size, 0, none⟩) q2.out).trans d20; have e21 := (b6.cell (p := ⟨w.heap.size, 1, none⟩) q2.out).trans d21; have e22 := (b6.cell (p := ⟨w.heap.size, 2, none⟩) q2.out).trans d22; have B2' := hidI (B2.out.trans (b6.mono (Nat.le_of_lt q2.out))); have q2' := hidI (Nat.lt_of_lt_of_le q2.out b6.size); clear b6) | fail)
      go_wp2_with fail
      go_ret
      exact ⟨by rw [HVN.out e8 e9]; rfl, B2'.out⟩
end Go.Proofs.Ytndbfdgflflfpaa
