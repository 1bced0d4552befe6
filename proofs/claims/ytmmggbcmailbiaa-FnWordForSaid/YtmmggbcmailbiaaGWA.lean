/- WordPerm of the program for any arguments; what the laws on words and on GroupHas say, in plain Lean. -/
import Derived.Test.YtmmggbcmailbiaaGWQ
import Derived.Test.YtmmggbcmailbiaaGC
namespace Go.Proofs.Ytmmggbcmailbiaa
open Go.RowKit Grp

theorem fold_join {n : Nat} {ms : List Pm} (hm : OkM n ms) : ∀ (b : List Nat) (p q : Pm), IsP n p → IsP n q → (∀ j ∈ b, j < ms.length) → b.foldl (fun p j => join p (ms.getD j [])) (join p q) = join p (b.foldl (fun p j => join p (ms.getD j [])) q)
  | [], _, _, _, _, _ => rfl
  | j :: b, p, q, hp, hq, hb => by
    have hj : j < ms.length := hb j (by simp)
    have hg : ms.getD j [] ∈ ms := by rw [List.getD_eq_getElem?_getD, List.getElem?_eq_getElem hj]; exact List.getElem_mem hj
    show b.foldl _ (join (join p q) (ms.getD j [])) = join p (b.foldl _ (join q (ms.getD j [])))
    rw [join_assoc hp hq (hm _ hg)]
    exact fold_join hm b p _ hp (isP_join hq (hm _ hg)) (fun i hi => hb i (by simp [hi]))

theorem wordP_append {n : Nat} {ms : List Pm} (hm : OkM n ms) (a b : List Nat) (ha : ∀ j ∈ a, j < ms.length) (hb : ∀ j ∈ b, j < ms.length) : wordP n ms (a ++ b) = join (wordP n ms a) (wordP n ms b) := by
  have h1 : wordP n ms (a ++ b) = b.foldl (fun p j => join p (ms.getD j [])) (wordP n ms a) := by unfold wordP; rw [List.foldl_append]
  have hp := (wordP_isP (n := n) ha).isP hm
  rw [h1, ← join_id hp, fold_join hm b _ _ hp (isP_id n) hb, join_id hp]; rfl

theorem wordsIn_iff {ms : List Pm} {zs : List Int} : wordsIn ms zs = true ↔ ∀ z ∈ zs, inP (ms.length : Int) z = true := by
  unfold wordsIn; rw [List.all_eq_true]

theorem wp_law (places : Int) (pss : List (List Int)) (zs : List Int) : wpOf places pss zs = [] ∨ ∃ (N : Nat) (p : Pm), 1 ≤ N ∧ N ≤ 5 ∧ IsP N p ∧ wpOf places pss zs = up p ∧ hasOf places pss (up p) = true ∧
    ∀ h, ∃ p1 p2, IsP N p1 ∧ IsP N p2 ∧ wpOf places pss (zs.take h) = up p1 ∧ wpOf places pss (zs.drop h) = up p2 ∧ join p1 p2 = p := by
  cases hm : mvalid places pss
  · exact .inl (wpOf_no zs hm)
  · obtain ⟨n, qs, rfl, h1, h5, rfl, h3, hok⟩ := (mvalid_iff _ _).1 hm
    cases hw : wordsIn qs zs
    · refine .inl ?_
      unfold wpOf; rw [toP_ups, hw]; simp
    · have hin := wordsIn_iff.1 hw
      have hg := wordP_isP (n := n) (wordsIn_nat hin)
      have hp := hg.isP hok
      refine .inr ⟨n, _, h1, h5, hp, wpOf_valid h1 h5 h3 hok hw, ?_, fun h => ?_⟩
      · rw [hasOf_valid h1 h5 h3 hok hp]; exact (has_iff h5 hok hp).2 hg
      · have i1 : ∀ z ∈ zs.take h, inP (qs.length : Int) z = true := fun z hz => hin z (List.mem_of_mem_take hz)
        have i2 : ∀ z ∈ zs.drop h, inP (qs.length : Int) z = true := fun z hz => hin z (List.mem_of_mem_drop hz)
        refine ⟨_, _, (wordP_isP (n := n) (wordsIn_nat i1)).isP hok, (wordP_isP (n := n) (wordsIn_nat i2)).isP hok, wpOf_valid h1 h5 h3 hok (wordsIn_iff.2 i1), wpOf_valid h1 h5 h3 hok (wordsIn_iff.2 i2), ?_⟩
        rw [← wordP_append hok _ _ (wordsIn_nat i1) (wordsIn_nat i2), ← List.map_append, List.take_append_drop]

def allOf (places : Int) (pss : List (List Int)) : List (List Int) := if mvalid places pss = true then permsOf (groupW places.toNat (pss.map toP)) else []
theorem allOf_valid {n : Nat} {qs : List Pm} (h1 : 1 ≤ n) (h5 : n ≤ 5) (h3 : qs.length ≤ 3) (hm : OkM n qs) : allOf (n : Int) (qs.map up) = permsOf (groupW n qs) := by
  unfold allOf; rw [if_pos ((mvalid_iff _ _).2 ⟨n, qs, rfl, h1, h5, rfl, h3, hm⟩), toP_ups, Int.toNat_natCast]
theorem allOf_no {places : Int} {pss : List (List Int)} (h : mvalid places pss = false) : allOf places pss = [] := by unfold allOf; rw [h]; rfl

theorem impl_GroupAllA (places : Int) (pss : List (List Int)) (v : Value) (w : World) (h : IntSS w v pss) :
    Calls Try.prog 28 #[.int .i64 places, v] w fun e w' => GivesR w w' (allOf places pss) e := by
  cases hm : mvalid places pss
  · rw [allOf_no hm]
    refine (impl_GroupAll_no places pss v w h hm).mono ?_
    rintro e w' ⟨rfl, rfl⟩
    exact ⟨_, _, rfl, RowsOwn.nil _ _, Below.refl _ _⟩
  · obtain ⟨n, qs, rfl, h1, h5, rfl, h3, hok⟩ := (mvalid_iff _ _).1 hm
    rw [allOf_valid h1 h5 h3 hok]
    exact impl_GroupAll n qs v w h hok h1 h5 h3

theorem has_all (places : Int) (pss : List (List Int)) (zs : List Int) : (hasOf places pss zs = true → zs ∈ allOf places pss ∧ 0 < zs.length) ∧ (hasOf places pss zs = false → zs ∉ allOf places pss) := by
  cases hm : mvalid places pss
  · rw [allOf_no hm]
    have : gvalid places pss zs = false := by unfold gvalid; rw [hm]; rfl
    rw [hasOf_no this]
    exact ⟨fun h => (by cases h), fun _ => by simp⟩
  · obtain ⟨n, qs, rfl, h1, h5, rfl, h3, hok⟩ := (mvalid_iff _ _).1 hm
    rw [allOf_valid h1 h5 h3 hok]
    constructor
    · intro h
      cases hg : gvalid (n : Int) (qs.map up) zs with
      | false => rw [hasOf_no hg] at h; cases h
      | true =>
        obtain ⟨n', qs', p, e1, _, _, e2, _, _, rfl, hp⟩ := (gvalid_iff _ _ _).1 hg
        obtain rfl : n = n' := by omega
        rw [hasOf_valid h1 h5 h3 hok hp] at h
        exact ⟨mem_permsOf.2 ((groupL_mem h5 hok p).2 ((has_iff h5 hok hp).1 h)), by rw [up_len, hp.len]; omega⟩
    · intro h hz
      rw [permsOf_keys] at hz
      obtain ⟨p, hp, rfl⟩ := List.mem_map.1 hz
      have hg : Gen n qs p := (groupL_mem h5 hok p).1 hp
      rw [hasOf_valid h1 h5 h3 hok (hg.isP hok), (has_iff h5 hok (hg.isP hok)).2 hg] at h
      cases h

theorem has_more (places : Int) (pss : List (List Int)) (zs : List Int) (h : mvalid places (pss ++ [zs]) = true) : ∃ a b : Nat, orderOf places (pss ++ [zs]) = (a : Nat) ∧ orderOf places pss = (b : Nat) ∧ a ≤ 120 ∧ b ≤ 120 ∧ (a = b ↔ hasOf places pss zs = true) := by
  obtain ⟨n, ks, rfl, h1, h5, hk, h3, hok⟩ := (mvalid_iff _ _).1 h
  obtain ⟨qs, l2, rfl, rfl, h2⟩ := List.map_eq_append_iff.1 hk.symm
  obtain ⟨p, rfl, rfl⟩ := List.map_eq_singleton_iff.1 h2
  rw [List.length_append, List.length_singleton] at h3
  have hq : OkM n qs := fun m hm => hok m (List.mem_append_left _ hm)
  have hp : IsP n p := hok p (by simp)
  have e : qs.map up ++ [up p] = (qs ++ [p]).map up := by simp
  rw [e, orderOf_valid h1 h5 (by rw [List.length_append, List.length_singleton]; omega) hok, orderOf_valid h1 h5 (by omega) hq, hasOf_valid h1 h5 (by omega) hq hp]
  exact ⟨_, _, rfl, rfl, size_le h1 h5 hok, size_le h1 h5 hq, (size_more h5 hq hp).trans (has_iff h5 hq hp).symm⟩

theorem findW_in {L : PW} {x : Pm × List Nat} (hN : (L.map Prod.fst).Nodup) (hx : x ∈ L) : findW L (up x.1) = some x.2 := by
  cases e : findW L (up x.1) with
  | none =>
    unfold findW at e
    rw [Option.map_eq_none_iff, List.find?_eq_none] at e
    have := e x hx
    simp at this
  | some l =>
    obtain ⟨y, hy, h1, rfl⟩ := findW_mem e
    have h2 := up_inj h1
    have : (x.1, y.2) ∈ L := by rw [← h2]; exact hy
    rw [nodup_key hN this hx]

theorem word_has (places : Int) (pss : List (List Int)) (zs : List Int) : (wordOf places pss zs).isSome = hasOf places pss zs := by
  cases hm : mvalid places pss
  · rw [wordOf_no hm]
    have : gvalid places pss zs = false := by unfold gvalid; rw [hm]; rfl
    rw [hasOf_no this]; rfl
  · obtain ⟨n, qs, rfl, h1, h5, rfl, h3, hok⟩ := (mvalid_iff _ _).1 hm
    rw [wordOf_valid h1 h5 h3 hok]
    cases hg : gvalid (n : Int) (qs.map up) zs with
    | false =>
      rw [hasOf_no hg, find_bad hok h1 h5 h5 (fun ⟨a, b⟩ => by
        unfold gvalid at hg
        rw [hm, a] at hg
        simp at hg
        exact hg (by rw [b]))]; rfl
    | true =>
      obtain ⟨n', qs', p, e1, _, _, e2, _, _, rfl, hp⟩ := (gvalid_iff _ _ _).1 hg
      obtain rfl : n = n' := by omega
      rw [hasOf_valid h1 h5 h3 hok hp]
      cases e : findW (groupW n qs) (up p) with
      | none =>
        cases e' : has n qs p with
        | false => rfl
        | true =>
          have hg := (groupL_mem h5 hok p).2 ((has_iff h5 hok hp).1 e')
          obtain ⟨x, hx, rfl⟩ := List.mem_map.1 hg
          rw [findW_in (groupW_facts h5 hok).2.1 hx] at e; cases e
      | some l =>
        obtain ⟨x, hx, h2, _⟩ := findW_mem e
        have h2 := up_inj h2
        subst h2
        exact ((has_iff h5 hok hp).2 ((groupW_facts h5 hok).1 x hx).1).symm

theorem word_law (places : Int) (pss : List (List Int)) (zs : List Int) (l : List Nat) (h : wordOf places pss zs = some l) : ∃ (N : Nat) (p : Pm), 1 ≤ N ∧ N ≤ 5 ∧ IsP N p ∧ zs = up p ∧ wpOf places pss (upW l) = up p ∧
    ∀ (j : Nat) (m : List Int), pss[j]? = some m → ∃ (pm : Pm) (l' : List Nat), m = up pm ∧ IsP N pm ∧ wordOf places pss (up (join p (turn pm))) = some l' ∧ l.length ≤ l'.length + 1 := by
  cases hm : mvalid places pss
  · rw [wordOf_no hm] at h; cases h
  · obtain ⟨n, qs, rfl, h1, h5, rfl, h3, hok⟩ := (mvalid_iff _ _).1 hm
    rw [wordOf_valid h1 h5 h3 hok] at h
    obtain ⟨x, hx, rfl, rfl⟩ := findW_mem h
    obtain ⟨hg, hw, he⟩ := (groupW_facts h5 hok).1 x hx
    have hN := (groupW_facts h5 hok).2.1
    have hp := hg.isP hok
    refine ⟨n, x.1, h1, h5, hp, rfl, ?_, fun j m hj => ?_⟩
    · have hin : ∀ z ∈ upW x.2, inP (qs.length : Int) z = true := fun z hz => by
        obtain ⟨i, hi, rfl⟩ := List.mem_map.1 hz
        have := hw i hi
        exact decide_eq_true (by omega)
      rw [wpOf_valid h1 h5 h3 hok (wordsIn_iff.2 hin)]
      have : (upW x.2).map Int.toNat = x.2 := by unfold upW; simp [List.map_map, Function.comp_def]
      rw [this, he]
    · rw [List.getElem?_map] at hj
      cases hq : qs[j]? with
      | none => rw [hq] at hj; cases hj
      | some pm =>
        rw [hq] at hj
        injection hj with hj
        subst hj
        have hmm := List.mem_of_getElem? hq
        have hpm := hok pm hmm
        have hgq : Gen n qs (join x.1 (turn pm)) := hg.join hok ((Gen.gen hok hmm).turn h5 hok)
        obtain ⟨z, hz, ez⟩ := List.mem_map.1 ((groupL_mem h5 hok _).2 hgq)
        obtain ⟨y, hy, e1, e2⟩ := word_short h5 hok hz hmm
        have e3 : join z.1 pm = x.1 := by rw [ez, join_assoc hp (isP_turn hpm) hpm, turn_join hpm, join_id hp]
        have e4 : y.2 = x.2 := by
          have : (x.1, y.2) ∈ groupW n qs := by rw [← e3, ← e1]; exact hy
          exact nodup_key hN this hx
        refine ⟨pm, z.2, rfl, hpm, ?_, by rw [← e4]; exact e2⟩
        rw [wordOf_valid h1 h5 h3 hok, ← ez]
        exact findW_in hN hz
end Go.Proofs.Ytmmggbcmailbiaa
