/- What the laws' own helpers on rows of bytes come to: a row equals itself; what is marked is held; under no condition but what each theorem states. -/
import Derived.Test.YtkolndfgpplknaaFnBytes
import Derived.Test.YtkolndfgpplknaaGx1
namespace Go.Proofs.Ytkolndfgpplknaa.Fn
set_option linter.unusedSimpArgs false
set_option linter.unusedVariables false
open Go.RowKit Go.Proofs.Ytkolndfgpplknaa.Plain Go.Proofs.Ytkolndfgpplknaa.G Go.Proofs.YtkolndfgpplknaaW.PrintWords Go.Proofs.YtkolndfgpplknaaW.PrintLast Go.Proofs.YtkolndfgpplknaaW.PrintMore

theorem rd_set {l : List Int} {i j : Int} {v : Int} (h0 : 0 ≤ i) (h1 : i < l.length) (h2 : 0 ≤ j) : rd (l.set i.toNat v) j = if i = j then v else rd l j := by
  unfold rd
  rw [List.getD_eq_getElem?_getD, List.getD_eq_getElem?_getD, List.getElem?_set]
  by_cases h : i = j
  · subst h
    rw [if_pos rfl, if_pos (by omega), if_pos rfl]
    rfl
  · rw [if_neg (by omega), if_neg h]
theorem laws_eqByteS_l0 (d : Nat) : ∀ (l : List Int) (i : Int), l.length ≤ 9223372036854775800 → 0 ≤ i → l.length - i = d → ∀ k, d < k → laws_eqByteS.l0 k l l i = some true := by
  induction d with
  | zero =>
    intro l i hl h0 h1 k hk
    obtain ⟨m, rfl, _⟩ := succ_of hk
    simp only [laws_eqByteS.l0]
    rw [if_neg (by omega)]
  | succ d ih =>
    intro l i hl h0 h1 k hk
    obtain ⟨m, rfl, _⟩ := succ_of hk
    simp only [laws_eqByteS.l0]
    rw [if_pos (by omega), if_pos (by omega), if_pos (by omega), if_pos True.intro, w64 (by omega) (by omega), ih l (i + 1) hl (by omega) (by omega) m (by omega)]
theorem laws_eqByteS_refl {k : Nat} {l : List Int} (hl : l.length ≤ 9223372036854775800) (hk : l.length < k) : laws_eqByteS.f k l l = some true := by
  unfold laws_eqByteS.f
  rw [if_pos rfl]
  exact laws_eqByteS_l0 l.length l 0 hl (by omega) (by omega) k hk
theorem laws_markByteS_l0 (d : Nat) : ∀ (l : List Int) (n i : Int), 0 ≤ n → n + d ≤ 9223372036854775800 → l.length ≤ 9223372036854775800 → 0 ≤ i → l.length - i = d → ∀ k, d < k →
    ∃ l', laws_markByteS.l0 k l n i = some (n + d, l') ∧ l'.length = l.length ∧ (∀ j, 0 ≤ j → j < i → rd l' j = rd l j) ∧ (∀ j, i ≤ j → j < l.length → rd l' j = (n + (j - i)) % 256) := by
  induction d with
  | zero =>
    intro l n i hn hn2 hl h0 h1 k hk
    obtain ⟨m, rfl, _⟩ := succ_of hk
    refine ⟨l, ?_, rfl, fun _ _ _ => rfl, fun j h2 h3 => by omega⟩
    simp only [laws_markByteS.l0]
    rw [if_neg (by omega)]
    simp
  | succ d ih =>
    intro l n i hn hn2 hl h0 h1 k hk
    obtain ⟨m, rfl, _⟩ := succ_of hk
    obtain ⟨l', e, hl', hlo, hhi⟩ := ih (l.set i.toNat (n % 256)) (n + 1) (i + 1) (by omega) (by omega) (by simp; omega) (by omega) (by simp; omega) m (by omega)
    refine ⟨l', ?_, by simpa using hl', fun j h2 h3 => ?_, fun j h2 h3 => ?_⟩
    · simp only [laws_markByteS.l0]
      rw [if_pos (by omega), if_pos (by omega), w64 (by omega) (by omega), w64 (by omega) (by omega), e]
      simp
      omega
    · rw [hlo j h2 (by omega), rd_set h0 (by omega) h2, if_neg (by omega)]
    · by_cases h4 : j = i
      · subst h4
        rw [hlo j (by omega) (by omega), rd_set h0 (by omega) h0, if_pos rfl]
        congr 1
        omega
      · rw [hhi j (by omega) (by simpa using h3)]
        congr 1
        omega
theorem laws_heldByteS_l0 (d : Nat) : ∀ (l : List Int) (n i : Int), 0 ≤ n → n + d ≤ 9223372036854775800 → l.length ≤ 9223372036854775800 → 0 ≤ i → l.length - i = d → (∀ j, i ≤ j → j < l.length → rd l j = (n + (j - i)) % 256) → ∀ k, d < k →
    laws_heldByteS.l0 k l n i = some (n + d) := by
  induction d with
  | zero =>
    intro l n i hn hn2 hl h0 h1 h k hk
    obtain ⟨m, rfl, _⟩ := succ_of hk
    simp only [laws_heldByteS.l0]
    rw [if_neg (by omega)]
    simp
  | succ d ih =>
    intro l n i hn hn2 hl h0 h1 h k hk
    obtain ⟨m, rfl, _⟩ := succ_of hk
    simp only [laws_heldByteS.l0]
    rw [if_pos (by omega), if_pos (by omega), h i (by omega) (by omega), if_pos (by congr 1; omega), w64 (by omega) (by omega), w64 (by omega) (by omega), ih l (n + 1) (i + 1) (by omega) (by omega) hl (by omega) (by omega) (fun j h2 h3 => by rw [h j (by omega) h3]; congr 1; omega) m (by omega)]
    congr 1
    omega
/-- What is marked is held, to the same count. -/
theorem byteS_marked {k : Nat} {l : List Int} (hl : l.length ≤ 9223372036854775000) (hk : l.length < k) : ∃ l', laws_markByteS.f k l 1 = some (1 + (l.length : Int), l') ∧ l'.length = l.length ∧ ∀ k', l.length < k' → laws_heldByteS.f k' l' 1 = some (1 + (l.length : Int)) := by
  obtain ⟨l', e, hl', _, hhi⟩ := laws_markByteS_l0 l.length l 1 0 (by omega) (by omega) (by omega) (by omega) (by omega) k hk
  refine ⟨l', e, hl', fun k' hk' => ?_⟩
  unfold laws_heldByteS.f
  exact laws_heldByteS_l0 l.length l' 1 0 (by omega) (by omega) (by omega) (by omega) (by omega) (fun j h2 h3 => hhi j h2 (by omega)) k' hk'
end Go.Proofs.Ytkolndfgpplknaa.Fn
