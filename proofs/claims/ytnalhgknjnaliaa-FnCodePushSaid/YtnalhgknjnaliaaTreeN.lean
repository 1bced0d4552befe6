/- spec.l5Push turns a code round at its facts. -/
import Derived.Test.YtnalhgknjnaliaaSpan
import Derived.Test.YtnalhgknjnaliaaStepL
import Derived.Deep.CutRange
import Derived.Deep.Cut
namespace Go.Proofs.Ytnalhgknjnaliaa
open Go.RowKit

def stp (t : Bool) (s : Int) : Int := if t then 17 - s else s

theorem made_steps (w : World) (xs : List Int) (hl : xs.length ≤ 1000) : (w.alloc (.cells (xs.map (Value.int .i64)).toArray 3)).ownsRow w.heap.size 3 1 (.slice (some ⟨w.heap.size, 0, none⟩) xs.length xs.length) xs.length (xs.map (Value.int .i64)) :=
  ⟨by simp, .inr ⟨w.heap.size, xs.length, (xs.map (Value.int .i64)).toArray, rfl, Nat.le_refl _, heap_alloc_new w _, Nat.le_refl _, by unfold maxLen; omega, by simp, by rw [List.take_of_length_le (by simp)]⟩⟩

set_option maxRecDepth 100000 in
set_option maxHeartbeats 4000000 in
theorem spec_l5Push (c : Cond) : ∀ (t : Bool) (v : Value) (w : World), IntS w v c.steps → c.Ok → c.steps.length ≤ 1000 → Calls Try.prog 46 #[v, .bool t] w fun e w' =>
    ∃ v, e = .returned v ∧ w'.ownsRow w.heap.size 3 1 v (psh c t).steps.length ((psh c t).steps.map (Value.int .i64)) ∧ Below w.heap.size w w' := by
  induction c with
  | one s =>
    intro t v w hv hk _
    have hk1 : 0 ≤ s ∧ s ≤ 6 := hk
    obtain ⟨k1, k2⟩ := hk1
    obtain ⟨b, off, cap, rfl, hcap, hmax, hb, hc⟩ := hv.addr (steps_ne _)
    have c0 : w.cell? ⟨b, off + 0, none⟩ = some (.int .i64 s) := hc 0 (steps_ne _)
    simp only [Nat.add_zero] at c0
    have h7 : (s == 7) = false := by simp; omega
    have h8 : (s == 8) = false := by simp; omega
    have h9 : (s == 9) = false := by simp; omega
    have M := hidI (fun xs hl => made_steps w xs hl)
    have HB := hidI (fun o => (Below.refl w.heap.size w).alloc (Nat.le_refl _) o)
    clear hk hc
    show Calls Try.prog 46 #[.slice (some ⟨b, off, none⟩) 1 cap, .bool t] w _
    cases t
    · go_enter Try.func46, Try.ntmps46
      go_wp2_with fail
      all_goals
        go_ret
        exact ⟨_, rfl, M.out [s] (by simp), HB.out _⟩
    · by_cases h5 : 5 ≤ s
      · have e : (psh (.one s) true).steps = [11 - s] := by simp [psh, h5, Cond.steps]
        rw [e]
        go_enter Try.func46, Try.ntmps46
        go_wp2_with fail
        go_ret
        exact ⟨_, rfl, M.out [11 - s] (by simp), HB.out _⟩
      · have e : (psh (.one s) true).steps = [s, 7] := by simp [psh, h5, Cond.steps]
        rw [e]
        have h5' : s < 5 := by omega
        clear h5
        go_enter Try.func46, Try.ntmps46
        go_wp2_with fail
        go_ret
        exact ⟨_, rfl, M.out [s, 7] (by simp), HB.out _⟩
  | neg c ih =>
    intro t v w hv hk hlen
    obtain ⟨b, off, cap, rfl, hcap, hmax, hb, hc⟩ := hv.addr (steps_ne _)
    have hN : (Cond.neg c).steps.length = c.steps.length + 1 := by simp [Cond.steps]
    have c0 : w.cell? ⟨b, off + c.steps.length, none⟩ = some (.int .i64 7) := by rw [hc _ (by omega)]; simp [Cond.steps]
    have hv2 : IntS w (.slice (some ⟨b, off, none⟩) c.steps.length cap) c.steps := by
      have := hv.take (m := c.steps.length) (by omega)
      simpa [Cond.steps] using this
    rw [hN] at hcap hlen ⊢
    have IH := hidI (ih (!t) _ w hv2 hk (by omega))
    have hl : c.steps.length ≤ 1000 := by omega
    unfold maxLen at hmax
    have HE := hidI hlen
    clear hc ih hv hN hv2 hlen
    show Calls Try.prog 46 #[.slice (some ⟨b, off, none⟩) (c.steps.length + 1) cap, .bool t] w fun e w' => ∃ v, e = .returned v ∧ w'.ownsRow w.heap.size 3 1 v (psh c (!t)).steps.length ((psh c (!t)).steps.map (Value.int .i64)) ∧ Below w.heap.size w w'
    have hn1 : (0 : Int) ≤ (c.steps.length : Int) := by omega
    have hn2 : (c.steps.length : Int) ≤ 1000 := by omega
    cases t
    all_goals
      go_enter Try.func46, Try.ntmps46
      go_wp2_with fail
      refine IH.out.mono ?_; rintro e w1 ⟨v, rfl, ho, b1⟩
      go_wp2_with fail
      go_ret
      exact ⟨v, rfl, ho, b1⟩
  | two s lo hi ihl ihh =>
    intro t v w hv hk hlen
    obtain ⟨k1, k2, k3⟩ := hk
    obtain ⟨b, off, cap, rfl, hcap, hmax, hb, hc⟩ := hv.addr (steps_ne _)
    have hN : (Cond.two s lo hi).steps.length = lo.steps.length + hi.steps.length + 1 := by simp [Cond.steps]; omega
    have c0 : w.cell? ⟨b, off + (lo.steps.length + hi.steps.length), none⟩ = some (.int .i64 s) := by
      rw [hc _ (by omega)]; simp only [Cond.steps, List.getD]; rw [List.getElem?_append_right (by simp)]; simp
    have hvl : IntS w (.slice (some ⟨b, off, none⟩) lo.steps.length cap) lo.steps := by
      have := hv.take (m := lo.steps.length) (by omega)
      simpa [Cond.steps] using this
    have hvh : IntS w (.slice (some ⟨b, off + lo.steps.length, none⟩) hi.steps.length (cap - lo.steps.length)) hi.steps := by
      have := hv.part (i := lo.steps.length) (m := hi.steps.length) (by omega) (steps_ne hi)
      simpa [Cond.steps] using this
    have HSP := hidI (fun n hn => spec_l5Span lo.steps [s] hi k3 (.slice (some ⟨b, off, none⟩) (Cond.two s lo hi).steps.length cap) w hv (by show (Cond.two s lo hi).steps.length ≤ 100000; omega) n hn)
    have HVL := hidI (fun W (hW : Below w.heap.size w W) => hvl.below hW)
    have HVH := hidI (fun W (hW : Below w.heap.size w W) => hvh.below hW)
    have Y0 := hidI (Below.refl w.heap.size w)
    have h0 := steps_ne hi
    have hl := steps_ne lo
    rw [hN] at HSP hcap hlen ⊢
    have hn1 : (0 : Int) < (hi.steps.length : Int) := by omega
    have hn2 : (0 : Int) < (lo.steps.length : Int) := by omega
    have hn3 : (lo.steps.length : Int) ≤ 1000 := by omega
    have hn4 : (hi.steps.length : Int) ≤ 1000 := by omega
    unfold maxLen at hmax
    have hcp : lo.steps.length ≤ cap := by omega
    have hcp2 : lo.steps.length + hi.steps.length ≤ cap := by omega
    have hsl : ((lo.steps.length : Int) + (hi.steps.length : Int)).toNat - lo.steps.length = hi.steps.length := by omega
    have hcp3 : (lo.steps.length : Int) ≤ (lo.steps.length : Int) + (hi.steps.length : Int) := by omega
    have hcp4 : (0 : Int) ≤ (lo.steps.length : Int) + (hi.steps.length : Int) := by omega
    have hcp5 : (lo.steps.length : Int) + (hi.steps.length : Int) ≤ (cap : Int) := by omega
    clear hv hvl hvh hc
    show Calls Try.prog 46 #[.slice (some ⟨b, off, none⟩) (lo.steps.length + hi.steps.length + 1) cap, .bool t] w _
    have HNL := hidI (steps_ne (psh lo t)); have HNH := hidI (steps_ne (psh hi t))
    have HIL : Hid (∀ z ∈ (psh lo t).steps, I64 z) := hidI (fun z hz => by have := steps_range _ (psh_Ok lo t k2) z hz; unfold I64; omega)
    have HIH : Hid (∀ z ∈ (psh hi t).steps, I64 z) := hidI (fun z hz => by have := steps_range _ (psh_Ok hi t k3) z hz; unfold I64; omega)
    have HCL := hidI (fun v (w : World) (hv : IntS w v lo.steps) => ihl t v w hv k2 (by omega))
    have HCH := hidI (fun v (w : World) (hv : IntS w v hi.steps) => ihh t v w hv k3 (by omega))
    have HLE := hidI (psh_len lo t); have HLH := hidI (psh_len hi t)
    have b1 : (psh lo t).steps.length ≤ 200000 := by have := HLE.out; omega
    have b2 : (psh hi t).steps.length ≤ 200000 := by have := HLH.out; omega
    have B1 := hidI b1; have B2 := hidI b2
    have HK := hidI k1; have HT : Hid (psh (.two s lo hi) t = .two (stp t s) (psh lo t) (psh hi t)) := hidI rfl
    have s1 : 0 ≤ s := by omega
    have s2 : s ≤ 9 := by omega
    have e7 : (s == 7) = false := by simp; omega
    clear ihl ihh b1 b2 hlen h0 hN hl k1
    go_enter Try.func46, Try.ntmps46
    go_upto_region 5 with fail
    go_cut [24] from 25 (fun z wx => z = .bool true ∧ w = wx)
    case first =>
      rcases HK.out with rfl | rfl
      · go_wp2_with fail
        go_meet
        case rel => exact ⟨rfl, rfl⟩
      · go_wp2_with fail
        go_meet
        case rel => exact ⟨rfl, rfl⟩
    case rest =>
      obtain ⟨rfl, rfl⟩ := hcut
      go_upto_if 35 with (go_at_call 69; refine (HSP.out _ rfl).mono ?_; rintro e w' ⟨rfl, rfl⟩)
      go_cut [6] from 36 (fun z wx => z = .int .i64 (stp t s) ∧ w = wx)
      case first =>
        cases t
        · go_wp2_with fail
          go_meet
          case rel => exact ⟨rfl, rfl⟩
        · go_wp2_with fail
          go_meet
          case rel => exact ⟨rfl, rfl⟩
      case rest =>
        obtain ⟨rfl, rfl⟩ := hcut
        have b1 := B1.out; have b2 := B2.out
        generalize stp t s = Z at HT ⊢
        go_upto_region 9 with fail
        go_region_held3 (fun _ => True) (trivial) (first | (go_at_call_of 46 (Value.slice (some ⟨b, off, none⟩) lo.steps.length cap); refine (HCL.out _ _ (HVL.out _ (by first | exact Y0.out.drew | exact (Y0.out.alloc (by first | omega | ((try simp only [World.size_alloc, World.size_drew]) <;> omega)) _).drew | exact ((Y0.out.alloc (by first | omega | ((try simp only [World.size_alloc, World.size_drew]) <;> omega)) _).alloc (by first | omega | ((try simp only [World.size_alloc, World.size_drew]) <;> omega)) _).drew))).mono ?_; rintro e w5 ⟨vl, rfl, ol, bl⟩; obtain ⟨gl, cl, rfl, hgl⟩ := own_addr ol HNL.out; have BL := hidI bl; have HXL := hidI (fun W (hW : Below w5.heap.size w5 W) => (IntS.ofOwn ol HIL.out).2.below hW); have z5 := bl.size; (try simp only [World.size_alloc, World.size_drew] at z5); have Y5 := hidI (show Below w.heap.size w w5 from Below.trans (by first | exact Y0.out.drew | exact (Y0.out.alloc (by first | omega | ((try simp only [World.size_alloc, World.size_drew]) <;> omega)) _).drew | exact ((Y0.out.alloc (by first | omega | ((try simp only [World.size_alloc, World.size_drew]) <;> omega)) _).alloc (by first | omega | ((try simp only [World.size_alloc, World.size_drew]) <;> omega)) _).drew) (bl.mono (by first | omega | ((try simp only [World.size_alloc, World.size_drew]) <;> omega)))); clear ol bl hgl) | (refine step_appendK rfl _ _ 24 rfl w.heap.size 3 Try.underlying24 infoInt _ 0 [] (.slice (some ⟨gl, 0, none⟩) (psh lo t).steps.length cl) (psh lo t).steps rfl rfl (psh lo t).steps.length (by first | rfl | omega | (simp; done)) (by first | exact (own_made (by first | rfl | (simp; done) | omega | (simp only [World.size_alloc, World.size_drew] <;> omega)) (by first | omega | ((try simp only [World.size_alloc, World.size_drew]) <;> omega)) _) | exact (own_made (by first | rfl | (simp; done) | omega | (simp only [World.size_alloc, World.size_drew] <;> omega)) (by first | omega | ((try simp only [World.size_alloc, World.size_drew]) <;> omega)) _).alloc _ | exact own_below (own_drew (own_made (by first | rfl | (simp; done) | omega | (simp only [World.size_alloc, World.size_drew] <;> omega)) (by first | omega | ((try simp only [World.size_alloc, World.size_drew]) <;> omega)) _)) BL.out | exact own_below (own_drew ((own_made (by first | rfl | (simp; done) | omega | (simp only [World.size_alloc, World.size_drew] <;> omega)) (by first | omega | ((try simp only [World.size_alloc, World.size_drew]) <;> omega)) _).alloc _)) BL.out | exact (own_below (own_drew (own_made (by first | rfl | (simp; done) | omega | (simp only [World.size_alloc, World.size_drew] <;> omega)) (by first | omega | ((try simp only [World.size_alloc, World.size_drew]) <;> omega)) _)) BL.out).alloc _) (HXL.out _ (by first | exact Below.refl _ _ | exact (Below.refl _ _).alloc (Nat.le_refl _) _ | exact ((Below.refl _ _).alloc (Nat.le_refl _) _).alloc (by first | omega | ((try simp only [World.size_alloc, World.size_drew]) <;> omega)) _)) HNL.out (by first | omega | ((try simp only [World.size_alloc, World.size_drew]) <;> omega)) (by first | omega | ((try simp only [World.size_alloc, World.size_drew]) <;> omega)) ?_; intro g1 c1 w1 hg1 o1 b1 k1; have O1 := hidI o1; have K1 := hidI (show Keeps _ _ (Value.slice (some ⟨_, 0, none⟩) 0 0) _ from k1); have z1 := b1.size; (try simp only [World.size_alloc, World.size_drew] at z1); have q1 := k1.1; have Y1 := hidI (show Below w.heap.size w w1 from Below.trans (by first | exact Y5.out | exact Y5.out.alloc (by first | omega | ((try simp only [World.size_alloc, World.size_drew]) <;> omega)) _ | exact (Y5.out.alloc (by first | omega | ((try simp only [World.size_alloc, World.size_drew]) <;> omega)) _).alloc (by first | omega | ((try simp only [World.size_alloc, World.size_drew]) <;> omega)) _) b1); clear o1 k1 b1) | (go_at_call_of 46 (Value.slice (some ⟨b, off + lo.steps.length, none⟩) hi.steps.length (cap - lo.steps.length)); refine (HCH.out _ _ (HVH.out _ (by first | exact Y1.out | exact Y1.out.alloc (by first | omega | ((try simp only [World.size_alloc, World.size_drew]) <;> omega)) _ | exact (Y1.out.alloc (by first | omega | ((try simp only [World.size_alloc, World.size_drew]) <;> omega)) _).alloc (by first | omega | ((try simp only [World.size_alloc, World.size_drew]) <;> omega)) _))).mono ?_; rintro e w6 ⟨vh, rfl, oh, bh⟩; obtain ⟨gh, ch, rfl, hgh⟩ := own_addr oh HNH.out; have BH := hidI bh; have HXH := hidI (fun W (hW : Below w6.heap.size w6 W) => (IntS.ofOwn oh HIH.out).2.below hW); have z6 := bh.size; (try simp only [World.size_alloc, World.size_drew] at z6); have Y6 := hidI (show Below w.heap.size w w6 from Below.trans (by first | exact Y1.out | exact Y1.out.alloc (by first | omega | ((try simp only [World.size_alloc, World.size_drew]) <;> omega)) _ | exact (Y1.out.alloc (by first | omega | ((try simp only [World.size_alloc, World.size_drew]) <;> omega)) _).alloc (by first | omega | ((try simp only [World.size_alloc, World.size_drew]) <;> omega)) _) (bh.mono (by first | omega | ((try simp only [World.size_alloc, World.size_drew]) <;> omega)))); clear oh bh hgh) | (refine step_appendK rfl _ _ 24 rfl w.heap.size 3 Try.underlying24 infoInt (.slice (some ⟨g1, 0, none⟩) (psh lo t).steps.length c1) (psh lo t).steps.length (psh lo t).steps (.slice (some ⟨gh, 0, none⟩) (psh hi t).steps.length ch) (psh hi t).steps rfl rfl ((psh lo t).steps.length + (psh hi t).steps.length) (by first | rfl | omega | (simp; done)) (by first | exact own_below O1.out BH.out | exact own_below (O1.out.alloc _) BH.out | exact (own_below O1.out BH.out).alloc _) (HXH.out _ (by first | exact Below.refl _ _ | exact (Below.refl _ _).alloc (Nat.le_refl _) _ | exact ((Below.refl _ _).alloc (Nat.le_refl _) _).alloc (by first | omega | ((try simp only [World.size_alloc, World.size_drew]) <;> omega)) _)) HNH.out (by first | omega | ((try simp only [World.size_alloc, World.size_drew]) <;> omega)) (by first | omega | ((try simp only [World.size_alloc, World.size_drew]) <;> omega)) ?_; intro g2 c2 w2 hg2 o2 b2 k2; have O2 := hidI o2; have K2 := hidI k2; have z2 := b2.size; (try simp only [World.size_alloc, World.size_drew] at z2); have q2 := k2.1; have Y2 := hidI (show Below w.heap.size w w2 from Below.trans (by first | exact Y6.out | exact Y6.out.alloc (by first | omega | ((try simp only [World.size_alloc, World.size_drew]) <;> omega)) _ | exact (Y6.out.alloc (by first | omega | ((try simp only [World.size_alloc, World.size_drew]) <;> omega)) _).alloc (by first | omega | ((try simp only [World.size_alloc, World.size_drew]) <;> omega)) _) b2); clear o2 k2 b2) | (refine step_pushK rfl _ _ 24 rfl w.heap.size 3 (.int .i64 0) 8 Try.underlying24 infoInt rfl (.slice (some ⟨g2, 0, none⟩) ((psh lo t).steps.length + (psh hi t).steps.length) c2) ((psh lo t).steps.length + (psh hi t).steps.length) (((psh lo t).steps ++ (psh hi t).steps).map (Value.int .i64)) (.int .i64 Z) _ rfl rfl (by first | exact O2.out | exact O2.out.alloc _) (by first | exact (cell_at (by first | rfl | (simp; done) | omega) rfl) | exact ((K2.out.2 _ (by first | omega | ((try simp only [World.size_alloc, World.size_drew]) <;> omega)) (by simp only [Value.ownBlock]; intro hne; injection hne with hne; (try simp only [World.size_alloc, World.size_drew] at hne); omega)).2 0 _ (cell_at (by first | rfl | (simp; done) | omega) rfl)) | exact ((K2.out.2 _ (by first | omega | ((try simp only [World.size_alloc, World.size_drew]) <;> omega)) (by simp only [Value.ownBlock]; intro hne; injection hne with hne; (try simp only [World.size_alloc, World.size_drew] at hne); omega)).2 0 _ ((BH.out.cell (p := ⟨_, 0, none⟩) (by first | omega | ((try simp only [World.size_alloc, World.size_drew]) <;> omega))).trans (cell_at (by first | rfl | (simp; done) | omega) rfl))) | exact (chain_cell K1.out BH.out K2.out (by first | omega | ((try simp only [World.size_alloc, World.size_drew]) <;> omega)) (by first | omega | ((try simp only [World.size_alloc, World.size_drew]) <;> omega)) (by simp only [Value.ownBlock]; intro hne; injection hne with hne; (try simp only [World.size_alloc, World.size_drew] at hne); omega) (cell_at (by first | rfl | (simp; done) | omega) rfl)) | exact (chain_cell K1.out BH.out K2.out (by first | omega | ((try simp only [World.size_alloc, World.size_drew]) <;> omega)) (by first | omega | ((try simp only [World.size_alloc, World.size_drew]) <;> omega)) (by simp only [Value.ownBlock]; intro hne; injection hne with hne; (try simp only [World.size_alloc, World.size_drew] at hne); omega) (cell_old (by first | omega | ((try simp only [World.size_alloc, World.size_drew]) <;> omega)) (cell_at (by first | rfl | (simp; done) | omega) rfl))) | exact (chain_cell K1.out BH.out K2.out (by first | omega | ((try simp only [World.size_alloc, World.size_drew]) <;> omega)) (by first | omega | ((try simp only [World.size_alloc, World.size_drew]) <;> omega)) (by simp only [Value.ownBlock]; intro hne; injection hne with hne; (try simp only [World.size_alloc, World.size_drew] at hne); omega) ((BL.out.cell (p := ⟨_, 0, none⟩) (by first | omega | ((try simp only [World.size_alloc, World.size_drew]) <;> omega))).trans (cell_drew (cell_at (by first | rfl | (simp; done) | omega) rfl)))) | exact (chain_cell K1.out BH.out K2.out (by first | omega | ((try simp only [World.size_alloc, World.size_drew]) <;> omega)) (by first | omega | ((try simp only [World.size_alloc, World.size_drew]) <;> omega)) (by simp only [Value.ownBlock]; intro hne; injection hne with hne; (try simp only [World.size_alloc, World.size_drew] at hne); omega) ((BL.out.cell (p := ⟨_, 0, none⟩) (by first | omega | ((try simp only [World.size_alloc, World.size_drew]) <;> omega))).trans (cell_drew (cell_old (by first | omega | ((try simp only [World.size_alloc, World.size_drew]) <;> omega)) (cell_at (by first | rfl | (simp; done) | omega) rfl))))) | exact (chain_cell K1.out BH.out K2.out (by first | omega | ((try simp only [World.size_alloc, World.size_drew]) <;> omega)) (by first | omega | ((try simp only [World.size_alloc, World.size_drew]) <;> omega)) (by simp only [Value.ownBlock]; intro hne; injection hne with hne; (try simp only [World.size_alloc, World.size_drew] at hne); omega) (cell_old (by first | omega | ((try simp only [World.size_alloc, World.size_drew]) <;> omega)) ((BL.out.cell (p := ⟨_, 0, none⟩) (by first | omega | ((try simp only [World.size_alloc, World.size_drew]) <;> omega))).trans (cell_drew (cell_at (by first | rfl | (simp; done) | omega) rfl)))))) rfl (by first | omega | ((try simp only [World.size_alloc, World.size_drew]) <;> omega)) (by decide) (by first | omega | ((try simp only [World.size_alloc, World.size_drew]) <;> omega)) ?_; intro g3 c3 w3 hg3 o3 b3 k3; have O3 := hidI o3; have Y3 := hidI (show Below w.heap.size w w3 from Below.trans (by first | exact Y2.out | exact Y2.out.alloc (by first | omega | ((try simp only [World.size_alloc, World.size_drew]) <;> omega)) _ | exact (Y2.out.alloc (by first | omega | ((try simp only [World.size_alloc, World.size_drew]) <;> omega)) _).alloc (by first | omega | ((try simp only [World.size_alloc, World.size_drew]) <;> omega)) _) b3); clear o3 b3 k3) | fail)
        all_goals
          go_wp2_with fail
          go_ret
          refine ⟨_, rfl, ?_, Y3.out⟩
          have := O3.out
          rw [HT.out]
          simpa [Cond.steps, Nat.add_assoc] using this

end Go.Proofs.Ytnalhgknjnaliaa
