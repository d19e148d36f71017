/- What the program's and the reference's functions on graphs come to: copies of edges, valid graphs; under no condition but what each theorem states. -/
import Derived.Test.YtkolndfgpplknaaLawInts
import Derived.Test.YtkolndfgpplknaaGx1
import Derived.Test.YtkolndfgpplknaaGx2
import Derived.Test.YtkolndfgpplknaaGx4
namespace Go.Proofs.Ytkolndfgpplknaa.Fn
set_option linter.unusedSimpArgs false
set_option linter.unusedVariables false
open Go.RowKit Go.Proofs.Ytkolndfgpplknaa.Plain Go.Proofs.Ytkolndfgpplknaa.Relax Go.Proofs.Ytkolndfgpplknaa.G Go.Proofs.YtkolndfgpplknaaW.PrintWords Go.Proofs.YtkolndfgpplknaaW.PrintLast Go.Proofs.YtkolndfgpplknaaW.PrintMore

/-! ### the edges that came in, copied -/
theorem drop_rd {α : Type} (l : List α) (z : α) {i : Int} (h0 : 0 ≤ i) (h1 : i < l.length) : l.drop i.toNat = l.getD i.toNat z :: l.drop (i + 1).toNat := by
  rw [List.drop_eq_getElem_cons (by omega), show (i + 1).toNat = i.toNat + 1 by omega, List.getD_eq_getElem?_getD, List.getElem?_eq_getElem (by omega)]
  rfl
theorem take_set {α : Type} (l : List α) (v : α) {i : Nat} (h : i < l.length) : (l.set i v).take (i + 1) = l.take i ++ [v] := by
  rw [List.set_eq_take_append_cons_drop, if_pos h, List.take_append, List.length_take, Nat.min_eq_left (by omega), show i + 1 - i = 1 by omega, List.take_of_length_le (by rw [List.length_take]; omega)]
  rfl
def cE (e : S114) : S82 := ⟨e.f0, e.f1, e.f2⟩
theorem laws_toEdgeS_l0 (d : Nat) : ∀ (l : List S114) (y : List S82) (i : Int), y.length = l.length → l.length ≤ 9223372036854775800 → 0 ≤ i → l.length - i = d → ∀ k, d < k → laws_toEdgeS.l0 k l y i = some (y.take i.toNat ++ (l.drop i.toNat).map cE) := by
  induction d with
  | zero =>
    intro l y i hy hl h0 h1 k hk
    obtain ⟨m, rfl, _⟩ := succ_of' hk
    simp only [laws_toEdgeS.l0]
    rw [if_neg (by omega), List.drop_eq_nil_of_le (by omega), List.take_of_length_le (by omega)]
    simp
  | succ d ih =>
    intro l y i hy hl h0 h1 k hk
    obtain ⟨m, rfl, _⟩ := succ_of' hk
    simp only [laws_toEdgeS.l0]
    unfold laws_toEdge.f
    simp only [Option.bind_some]
    rw [if_pos (by omega), if_pos (by omega), if_pos (by omega), w64 (by omega) (by omega), ih l _ (i + 1) (by simpa using hy) hl (by omega) (by omega) m (by omega), show (i + 1).toNat = i.toNat + 1 by omega, take_set _ _ (by omega)]
    have := drop_rd l z114 h0 (by omega)
    rw [this, show (i + 1).toNat = i.toNat + 1 by omega]
    simp [cE, rd_T114]
theorem laws_toEdgeS_f {k : Nat} {l : List S114} (hl : l.length ≤ 1048576) (hk : l.length < k) : laws_toEdgeS.f k l = some (l.map cE) := by
  unfold laws_toEdgeS.f
  rw [if_pos (by omega), if_pos (by omega), laws_toEdgeS_l0 l.length l _ 0 (by simp) (by omega) (by omega) (by omega) k hk]
  simp
theorem laws_toGraph_f {k : Nat} {n : Int} {l : List S114} (hl : l.length ≤ 1048576) (hk : l.length < k) : laws_toGraph.f k n l = some (n, l.map cE) := by
  unfold laws_toGraph.f
  rw [laws_toEdgeS_f hl hk]
  rfl
theorem laws_szGraph_f {n : Int} {l : List S114} (hl : l.length ≤ maxLen) : laws_szGraph.f n l 1048576 = some (if (l.length : Int) ≤ 1048576 then 1048576 - (l.length : Int) else -1) := by
  unfold maxLen at hl
  unfold laws_szGraph.f laws_szEdgeS.f
  rw [w64 (by omega) (by omega)]
  by_cases h : (l.length : Int) ≤ 1048576
  · rw [if_neg (by omega), if_pos h]
    simp only [Option.bind_some]
    rw [if_neg (by omega)]
  · rw [if_pos (by omega), if_neg h]
    rfl
theorem laws_eqEdgeS_l0 (d : Nat) : ∀ (l : List S82) (i : Int), l.length ≤ 9223372036854775800 → 0 ≤ i → l.length - i = d → ∀ k, d < k → laws_eqEdgeS.l0 k l l i = some true := by
  induction d with
  | zero =>
    intro l i hl h0 h1 k hk
    obtain ⟨m, rfl, _⟩ := succ_of' hk
    simp only [laws_eqEdgeS.l0]
    rw [if_neg (by omega)]
  | succ d ih =>
    intro l i hl h0 h1 k hk
    obtain ⟨m, rfl, _⟩ := succ_of' hk
    simp only [laws_eqEdgeS.l0]
    unfold laws_eqEdge.f
    rw [if_pos (by omega), if_pos (by omega), if_pos (by omega), if_pos rfl, if_pos rfl, if_pos rfl]
    simp only [Option.bind_some, if_true]
    rw [w64 (by omega) (by omega), ih l (i + 1) hl (by omega) (by omega) m (by omega)]
theorem laws_eqGraph_refl {k : Nat} {n : Int} {l : List S82} (hl : l.length ≤ 9223372036854775800) (hk : l.length < k) : laws_eqGraph.f k n l n l = some true := by
  unfold laws_eqGraph.f laws_eqEdgeS.f
  rw [if_pos rfl, if_pos rfl, laws_eqEdgeS_l0 l.length l 0 hl (by omega) (by omega) k hk]
  rfl
theorem laws_markEdgeS_l0 (d : Nat) : ∀ (l : List S82) (n i : Int), 0 ≤ n → n + 3 * d ≤ 9223372036854775800 → l.length ≤ 9223372036854775800 → 0 ≤ i → l.length - i = d → ∀ k, d < k →
    ∃ l', laws_markEdgeS.l0 k l n i = some (n + 3 * d, l') := by
  induction d with
  | zero =>
    intro l n i hn hn2 hl h0 h1 k hk
    obtain ⟨m, rfl, _⟩ := succ_of' hk
    refine ⟨l, ?_⟩
    simp only [laws_markEdgeS.l0]
    rw [if_neg (by omega)]
    simp
  | succ d ih =>
    intro l n i hn hn2 hl h0 h1 k hk
    obtain ⟨m, rfl, _⟩ := succ_of' hk
    simp only [laws_markEdgeS.l0, Option.bind_some]
    rw [if_pos (by omega), if_pos (by omega), w64 (x := n + 1) (by omega) (by omega), w64 (x := n + 1 + 1) (by omega) (by omega), w64 (x := n + 1 + 1 + 1) (by omega) (by omega), w64 (by omega) (by omega)]
    refine (ih _ (n + 1 + 1 + 1) (i + 1) ?_ ?_ ?_ ?_ ?_ m ?_).imp (fun l' e => e.trans ?_)
    · omega
    · omega
    · simpa using hl
    · omega
    · simp only [List.length_set]; omega
    · omega
    · congr 2
      omega
theorem laws_markGraph_f {k : Nat} {n : Int} {l : List S82} (hl : l.length ≤ 1048576) (hk : l.length < k) : ∃ l', laws_markGraph.f k n l 1 = some (1 + 3 * (l.length : Int), l') := by
  obtain ⟨l', e⟩ := laws_markEdgeS_l0 l.length l 1 0 (by omega) (by omega) (by omega) (by omega) (by omega) k hk
  refine ⟨l', ?_⟩
  unfold laws_markGraph.f laws_markEdgeS.f
  rw [e]
  rfl

/-! ### valid graphs -/
def eOk (n : Int) (e : S82) : Prop := 0 ≤ e.f0 ∧ e.f0 < n ∧ 0 ≤ e.f1 ∧ e.f1 < n ∧ 0 ≤ e.f2 ∧ e.f2 ≤ 1000
instance (n : Int) (e : S82) : Decidable (eOk n e) := by unfold eOk; infer_instance
def gOk (n : Int) (l : List S82) : Prop := 0 ≤ n ∧ n ≤ 150 ∧ l.length ≤ 400 ∧ ∀ e ∈ l, eOk n e
instance (n : Int) (l : List S82) : Decidable (gOk n l) := by unfold gOk; infer_instance
theorem some_dec' {b : Bool} {p : Prop} [Decidable p] (h : b = true ↔ p) : some b = some (decide p) := by
  congr 1
  rw [Bool.eq_iff_iff, decide_eq_true_eq]
  exact h
theorem spec_GraphOk_l0 (d : Nat) : ∀ (l : List S82) (n i : Int), l.length ≤ 9223372036854775800 → 0 ≤ i → l.length - i = d → ∀ k, d < k →
    spec_GraphOk.l0 k l (l.length : Int) i n l = some (decide ((∀ e ∈ l.drop i.toNat, eOk n e) ∧ 0 ≤ n ∧ n ≤ 150 ∧ l.length ≤ 400)) := by
  induction d with
  | zero =>
    intro l n i hl h0 h1 k hk
    obtain ⟨m, rfl, _⟩ := succ_of' hk
    simp only [spec_GraphOk.l0]
    rw [if_neg (by omega), List.drop_eq_nil_of_le (by omega)]
    repeat' split
    all_goals (refine some_dec' ?_; simp; try omega)
  | succ d ih =>
    intro l n i hl h0 h1 k hk
    obtain ⟨m, rfl, _⟩ := succ_of' hk
    have hd := drop_rd l z82 h0 (by omega)
    change _ = rd_T82 l i :: _ at hd
    simp only [spec_GraphOk.l0]
    rw [if_pos (by omega), if_pos (by omega), if_pos (by omega), w64 (by omega) (by omega), ih l n (i + 1) hl (by omega) (by omega) m (by omega), hd]
    by_cases he : eOk n (rd_T82 l i)
    · have he' := he
      unfold eOk at he'
      rw [if_neg (by omega), if_neg (by omega), if_neg (by omega), if_neg (by omega), if_neg (by omega), if_neg (by omega)]
      refine some_dec' ?_
      rw [decide_eq_true_eq]
      simp only [List.mem_cons, forall_eq_or_imp]
      constructor
      · intro h; exact ⟨⟨he, h.1⟩, h.2⟩
      · intro h; exact ⟨h.1.2, h.2⟩
    · rw [decide_eq_false (p := (∀ e, e ∈ _ → eOk n e) ∧ _) (fun h => he (h.1 _ List.mem_cons_self))]
      unfold eOk at he
      repeat' split
      all_goals first | rfl | (exfalso; omega)
theorem spec_GraphOk_f {k : Nat} {n : Int} {l : List S82} (hl : l.length ≤ 1048576) (hk : l.length < k) : spec_GraphOk.f k n l = some (decide (gOk n l)) := by
  unfold spec_GraphOk.f
  rw [spec_GraphOk_l0 l.length l n 0 (by omega) (by omega) (by omega) k hk]
  refine some_dec' ?_
  unfold gOk
  simp only [decide_eq_true_eq, Int.toNat_zero, List.drop_zero]
  constructor
  · intro h; exact ⟨h.2.1, h.2.2.1, h.2.2.2, h.1⟩
  · intro h; exact ⟨h.2.2.2, h.1, h.2.1, h.2.2.1⟩
theorem impl_GraphOk_l0 (d : Nat) : ∀ (l : List S82) (n i : Int), l.length ≤ 9223372036854775800 → 0 ≤ i → l.length - i = d → ∀ k, d < k →
    impl_GraphOk.l0 k l (l.length : Int) i n l = some (decide (∀ e ∈ l.drop i.toNat, eOk n e)) := by
  induction d with
  | zero =>
    intro l n i hl h0 h1 k hk
    obtain ⟨m, rfl, _⟩ := succ_of' hk
    simp only [impl_GraphOk.l0]
    rw [if_neg (by omega), List.drop_eq_nil_of_le (by omega)]
    simp
  | succ d ih =>
    intro l n i hl h0 h1 k hk
    obtain ⟨m, rfl, _⟩ := succ_of' hk
    have hd := drop_rd l z82 h0 (by omega)
    change _ = rd_T82 l i :: _ at hd
    simp only [impl_GraphOk.l0]
    rw [if_pos (by omega), if_pos (by omega), if_pos (by omega), w64 (by omega) (by omega), ih l n (i + 1) hl (by omega) (by omega) m (by omega), hd]
    by_cases he : eOk n (rd_T82 l i)
    · have he' := he
      unfold eOk at he'
      rw [if_neg (by omega), if_neg (by omega), if_neg (by omega), if_neg (by omega), if_neg (by omega), if_neg (by omega)]
      refine some_dec' ?_
      rw [decide_eq_true_eq]
      simp only [List.mem_cons, forall_eq_or_imp]
      constructor
      · intro h; exact ⟨he, h⟩
      · intro h; exact h.2
    · rw [decide_eq_false (p := ∀ e, e ∈ _ → _) (fun h => he (h _ List.mem_cons_self))]
      unfold eOk at he
      repeat' split
      all_goals first | rfl | (exfalso; omega)
theorem impl_GraphOk_j0 {k : Nat} {n : Int} {l : List S82} (b : Bool) (hl : l.length ≤ 1048576) (hk : l.length + 1 < k) : impl_GraphOk.j0 k b n l = some (!b && decide (∀ e ∈ l, eOk n e)) := by
  obtain ⟨m, rfl, _⟩ := succ_of' hk
  simp only [impl_GraphOk.j0]
  rw [impl_GraphOk_l0 l.length l n 0 (by omega) (by omega) (by omega) m (by omega)]
  cases b <;> simp
theorem impl_GraphOk_f {k : Nat} {n : Int} {l : List S82} (hl : l.length ≤ 1048576) (hk : l.length + 1 < k) : impl_GraphOk.f k n l = some (decide (gOk n l)) := by
  unfold impl_GraphOk.f
  rw [impl_GraphOk_j0 _ hl hk, impl_GraphOk_j0 _ hl hk]
  unfold gOk
  repeat' split
  all_goals (refine some_dec' ?_; simp; try omega)
  constructor
  · intro h; exact ⟨by omega, by omega, by omega, h.2⟩
  · intro h; exact ⟨by omega, h.2.2.2⟩
end Go.Proofs.Ytkolndfgpplknaa.Fn
