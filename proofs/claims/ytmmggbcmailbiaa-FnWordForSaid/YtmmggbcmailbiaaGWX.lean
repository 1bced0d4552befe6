/- WordFor for any arguments. -/
import Derived.Test.YtmmggbcmailbiaaGX
namespace Go.Proofs.Ytmmggbcmailbiaa
open Go.RowKit Grp

def toP (m : List Int) : Pm := m.map Int.toNat
def wordOf (places : Int) (pss : List (List Int)) (zs : List Int) : Option (List Nat) := if mvalid places pss = true then findW (groupW places.toNat (pss.map toP)) zs else none

theorem toP_up (q : Pm) : toP (up q) = q := by unfold toP up; simp [List.map_map, Function.comp_def]
theorem toP_ups (qs : List Pm) : (qs.map up).map toP = qs := by
  rw [List.map_map]
  refine (List.map_congr_left (fun q _ => toP_up q)).trans (List.map_id _)

theorem wordOf_valid {n : Nat} {qs : List Pm} (h1 : 1 ≤ n) (h5 : n ≤ 5) (h3 : qs.length ≤ 3) (hm : OkM n qs) (zs : List Int) : wordOf (n : Int) (qs.map up) zs = findW (groupW n qs) zs := by
  unfold wordOf
  rw [if_pos ((mvalid_iff _ _).2 ⟨n, qs, rfl, h1, h5, rfl, h3, hm⟩), toP_ups, Int.toNat_natCast]
theorem wordOf_no {places : Int} {pss : List (List Int)} (h : mvalid places pss = false) (zs : List Int) : wordOf places pss zs = none := by
  unfold wordOf; rw [h]; rfl

theorem impl_WordForA (places : Int) (pss : List (List Int)) (zs : List Int) (v u : Value) (w : World) (h : IntSS w v pss) (hu : IntS w u zs) :
    Calls Try.prog 17 #[.int .i64 places, v, u] w fun e w' => GivesT w w' (wordOf places pss zs) e := by
  cases hm : mvalid places pss
  · rw [wordOf_no hm]
    refine (impl_WordFor_no places pss zs v u w h hu hm).mono ?_
    rintro e w' ⟨rfl, rfl⟩
    exact gives_none _ _ (Below.refl _ _)
  · obtain ⟨n, qs, rfl, h1, h5, rfl, h3, hok⟩ := (mvalid_iff _ _).1 hm
    rw [wordOf_valid h1 h5 h3 hok]
    exact impl_WordFor n qs zs v u w h hu hok h1 h5 h3

theorem spec_WordForA (places : Int) (pss : List (List Int)) (zs : List Int) (v u : Value) (w : World) (h : IntSS w v pss) (hu : IntS w u zs) (hl : ∀ m ∈ pss, m.length ≤ 4000000) :
    Calls Try.prog 18 #[.int .i64 places, v, u] w fun e w' => GivesI w w' (wordOf places pss zs) e := by
  cases hm : mvalid places pss
  · rw [wordOf_no hm]
    exact spec_WordFor_no places pss zs v u w h hu hm hl
  · obtain ⟨n, qs, rfl, h1, h5, rfl, h3, hok⟩ := (mvalid_iff _ _).1 hm
    rw [wordOf_valid h1 h5 h3 hok]
    exact spec_WordFor n qs zs v u w h hu hok h1 h5 h3

theorem lok_adds {n : Nat} {ms : List Pm} {k : Nat} {x : Pm × List Nat} (hx : Gen n ms x.1) (hw : ∀ i ∈ x.2, i < ms.length) (hl : x.2.length ≤ k) : ∀ (i j : Nat) (L : PW), i + j = ms.length → LOk n ms (k + 1) L → LOk n ms (k + 1) (adds L ((nextW ms x).drop j))
  | 0, j, L, hj, h => by rw [adds_end (by omega)]; exact h
  | i + 1, j, L, hj, h => by
    have hm : ms[j]? = some ms[j] := List.getElem?_eq_getElem (by omega)
    rw [adds_next hm]
    exact lok_adds hx hw hl i (j + 1) _ (by omega) (h.add hx hw hl hm)

theorem lok_bfs {n : Nat} {ms : List Pm} : ∀ (f k : Nat) (L : PW), LOk n ms k L → LOk n ms (k + f) (bfs (nextW ms) f k L)
  | 0, k, L, h => h
  | f + 1, k, L, h => by
    unfold bfs
    cases e : L[k]? with
    | none => exact ⟨h.gen, h.word, fun x hx => by have := h.len x hx; omega, h.nodup⟩
    | some x =>
      have hm := List.mem_of_getElem? e
      have := lok_bfs f (k + 1) _ (lok_adds (h.gen x hm) (h.word x hm) (h.len x hm) ms.length 0 L (by omega) h.more)
      rw [List.drop_zero] at this
      rw [show k + (f + 1) = k + 1 + f by omega]; exact this

theorem groupW_lok (n : Nat) (ms : List Pm) : LOk n ms 3125 (groupW n ms) := by
  have := lok_bfs fuelW 0 _ (lok_start n ms)
  rw [Nat.zero_add] at this; exact this

theorem findW_mem {L : PW} {zs : List Int} {l : List Nat} (h : findW L zs = some l) : ∃ x ∈ L, up x.1 = zs ∧ x.2 = l := by
  unfold findW at h
  cases e : L.find? (fun x => decide (up x.1 = zs)) with
  | none => rw [e] at h; cases h
  | some x =>
    rw [e] at h; injection h with h
    have h2 := List.find?_some e
    exact ⟨x, List.mem_of_find?_eq_some e, by simpa using h2, h⟩

theorem wordOf_facts (places : Int) (pss : List (List Int)) (zs : List Int) : (wres (wordOf places pss zs)).length ≤ 3125 ∧ ∀ z ∈ wres (wordOf places pss zs), I64 z := by
  cases hm : mvalid places pss
  · rw [wordOf_no hm]; exact ⟨by simp [wres], by simp [wres]⟩
  · obtain ⟨n, qs, rfl, h1, h5, rfl, h3, hok⟩ := (mvalid_iff _ _).1 hm
    rw [wordOf_valid h1 h5 h3 hok]
    cases e : findW (groupW n qs) zs with
    | none => exact ⟨by simp [wres], by simp [wres]⟩
    | some l =>
      obtain ⟨x, hx, _, rfl⟩ := findW_mem e
      have hL := groupW_lok n qs
      refine ⟨by show (upW x.2).length ≤ 3125; unfold upW; rw [List.length_map]; exact hL.len x hx, upW_I64 (fun j hj => ?_)⟩
      have := hL.word x hx j hj
      omega
end Go.Proofs.Ytmmggbcmailbiaa
