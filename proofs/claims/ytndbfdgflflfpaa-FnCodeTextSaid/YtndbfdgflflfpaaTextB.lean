/- Texts as bytes. -/
import Derived.Test.YtndbfdgflflfpaaTextS
import Derived.Test.YtndbfdgflflfpaaTextQ
import Derived.Test.YtndbfdgflflfpaaRw
namespace Go.Proofs.Ytndbfdgflflfpaa

theorem bs_TB {l : List Nat} (h : ∀ c ∈ l, c < 256) : bs (TB l) = l := by
  unfold bs TB
  simp only [List.map_map]
  have : ∀ (l : List Nat), (∀ c ∈ l, c < 256) → l.map (UInt8.toNat ∘ UInt8.ofNat) = l := by
    intro l
    induction l with
    | nil => intro _; rfl
    | cons a l ih =>
      intro h
      rw [List.map_cons, ih (fun c hc => h c (by simp [hc]))]
      have := h a (by simp)
      congr 1
      simp [UInt8.toNat_ofNat']
      omega
  exact this l h

theorem txt_byte : ∀ (t : Cond) (k : Nat), t.Ok → ∀ c ∈ txt t k, c < 256
  | .one s, k, h, c, hc => by
    have h0 : 0 ≤ s ∧ s ≤ 6 := h
    simp only [txt, List.mem_singleton] at hc
    subst hc
    unfold chr
    split
    · omega
    · split <;> omega
  | .neg t, k, h, c, hc => by
    simp only [txt, List.mem_cons] at hc
    rcases hc with rfl | hc
    · omega
    · exact txt_byte t 3 h c hc
  | .two s l r, k, h, c, hc => by
    have h1 : l.Ok := h.2.1
    have h2 : r.Ok := h.2.2
    have key : ∀ c, c ∈ txt l (if s = 8 then 2 else 1) ++ (if s = 8 then 38 else 124) :: txt r ((if s = 8 then 2 else 1) + 1) → c < 256 := by
      intro c hc
      rcases List.mem_append.1 hc with hc | hc
      · exact txt_byte l _ h1 c hc
      · rcases List.mem_cons.1 hc with rfl | hc
        · split <;> omega
        · exact txt_byte r _ h2 c hc
    unfold txt at hc
    by_cases hk : (if s = 8 then 2 else 1) < k
    · rw [if_pos hk] at hc
      rcases List.mem_cons.1 hc with rfl | hc
      · omega
      · rcases List.mem_append.1 hc with hc | hc
        · exact key c hc
        · rw [List.mem_singleton] at hc; omega
    · rw [if_neg hk] at hc; exact key c hc

/-- What is written of a valid code is read as it was. -/
theorem read_text {zs : List Int} (h : codeValid zs = true) : readCode (bs (TB (codeText zs))) = some zs ∧ (TB (codeText zs)).size ≤ 4000000 := by
  obtain ⟨t, hk, rfl, h40, h1, -, -⟩ := valid_tree h
  rw [codeText_tree h hk, bs_TB (txt_byte t 0 hk), TB_size]
  refine ⟨read_written t hk h40, ?_⟩
  have := txt_len3 t 0
  omega
end Go.Proofs.Ytndbfdgflflfpaa
