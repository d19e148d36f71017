/- What LogBytes and the reference's LogBytes come to; copies and comparisons of commits; under no condition but what each theorem states. -/
import Derived.Test.YtkolndfgpplknaaLawBytes
import Derived.Test.YtkolndfgpplknaaGx3
import Derived.Test.YtkolndfgpplknaaGx4
import Derived.Test.YtkolndfgpplknaaGx5
namespace Go.Proofs.Ytkolndfgpplknaa.Fn
set_option linter.unusedSimpArgs false
set_option linter.unusedVariables false
open Go.RowKit Go.Proofs.Ytkolndfgpplknaa.Plain Go.Proofs.Ytkolndfgpplknaa.G Go.Proofs.YtkolndfgpplknaaW.PrintWords Go.Proofs.YtkolndfgpplknaaW.PrintLast Go.Proofs.YtkolndfgpplknaaW.PrintMore

theorem dropRd {α : Type} (l : List α) (z : α) {i : Int} (h0 : 0 ≤ i) (h1 : i < l.length) : l.drop i.toNat = l.getD i.toNat z :: l.drop (i + 1).toNat := by
  rw [List.drop_eq_getElem_cons (by omega), show (i + 1).toNat = i.toNat + 1 by omega, List.getD_eq_getElem?_getD, List.getElem?_eq_getElem (by omega)]
  rfl
theorem takeSet {α : Type} (l : List α) (v : α) {i : Nat} (h : i < l.length) : (l.set i v).take (i + 1) = l.take i ++ [v] := by
  rw [List.set_eq_take_append_cons_drop, if_pos h, List.take_append, List.length_take, Nat.min_eq_left (by omega), show i + 1 - i = 1 by omega, List.take_of_length_le (by rw [List.length_take]; omega)]
  rfl
def cC (c : S23) : S27 := ⟨c.f0, c.f1, c.f2, c.f3, c.f4⟩
theorem laws_toCommitS_l0 (d : Nat) : ∀ (l : List S23) (y : List S27) (i : Int), y.length = l.length → l.length ≤ 9223372036854775800 → 0 ≤ i → l.length - i = d → ∀ k, d < k → laws_toCommitS.l0 k l y i = some (y.take i.toNat ++ (l.drop i.toNat).map cC) := by
  induction d with
  | zero =>
    intro l y i hy hl h0 h1 k hk
    obtain ⟨m, rfl, _⟩ := succ_of hk
    simp only [laws_toCommitS.l0]
    rw [if_neg (by omega), List.drop_eq_nil_of_le (by omega), List.take_of_length_le (by omega)]
    simp
  | succ d ih =>
    intro l y i hy hl h0 h1 k hk
    obtain ⟨m, rfl, _⟩ := succ_of hk
    simp only [laws_toCommitS.l0]
    unfold laws_toCommit.f
    simp only [Option.bind_some]
    rw [if_pos (by omega), if_pos (by omega), if_pos (by omega), w64 (by omega) (by omega), ih l _ (i + 1) (by simpa using hy) hl (by omega) (by omega) m (by omega), show (i + 1).toNat = i.toNat + 1 by omega, takeSet _ _ (by omega)]
    have := dropRd l z23 h0 (by omega)
    rw [this, show (i + 1).toNat = i.toNat + 1 by omega]
    simp [cC, rd_T23]
theorem laws_toCommitS_f {k : Nat} {l : List S23} (hl : l.length ≤ 1048576) (hk : l.length < k) : laws_toCommitS.f k l = some (l.map cC) := by
  unfold laws_toCommitS.f
  rw [if_pos (by omega), if_pos (by omega), laws_toCommitS_l0 l.length l _ 0 (by simp) (by omega) (by omega) (by omega) k hk]
  simp
theorem laws_szCommitS_f {l : List S23} (hl : l.length ≤ maxLen) : laws_szCommitS.f l 1048576 = some (if (l.length : Int) ≤ 1048576 then 1048576 - (l.length : Int) else -1) := by
  unfold maxLen at hl
  unfold laws_szCommitS.f
  rw [w64 (by omega) (by omega)]
  by_cases h : (l.length : Int) ≤ 1048576
  · rw [if_neg (by omega), if_pos h]
  · rw [if_pos (by omega), if_neg h]
theorem laws_eqCommit_refl (c : S27) : laws_eqCommit.f c.f0 c.f1 c.f2 c.f3 c.f4 c.f0 c.f1 c.f2 c.f3 c.f4 = some true := by
  unfold laws_eqCommit.f
  simp
theorem laws_eqCommitS_l0 (d : Nat) : ∀ (l : List S27) (i : Int), l.length ≤ 9223372036854775800 → 0 ≤ i → l.length - i = d → ∀ k, d < k → laws_eqCommitS.l0 k l l i = some true := by
  induction d with
  | zero =>
    intro l i hl h0 h1 k hk
    obtain ⟨m, rfl, _⟩ := succ_of hk
    simp only [laws_eqCommitS.l0]
    rw [if_neg (by omega)]
  | succ d ih =>
    intro l i hl h0 h1 k hk
    obtain ⟨m, rfl, _⟩ := succ_of hk
    simp only [laws_eqCommitS.l0]
    rw [if_pos (by omega), if_pos (by omega), if_pos (by omega), laws_eqCommit_refl]
    simp only [Option.bind_some, if_true]
    rw [w64 (by omega) (by omega), ih l (i + 1) hl (by omega) (by omega) m (by omega)]
theorem laws_eqCommitS_refl {k : Nat} {l : List S27} (hl : l.length ≤ 9223372036854775800) (hk : l.length < k) : laws_eqCommitS.f k l l = some true := by
  unfold laws_eqCommitS.f
  rw [if_pos rfl, laws_eqCommitS_l0 l.length l 0 hl (by omega) (by omega) k hk]
theorem laws_markCommitS_l0 (d : Nat) : ∀ (l : List S27) (n i : Int), 0 ≤ n → n + 5 * d ≤ 9223372036854775800 → l.length ≤ 9223372036854775800 → 0 ≤ i → l.length - i = d → ∀ k, d < k →
    ∃ l', laws_markCommitS.l0 k l n i = some (n + 5 * d, l') := by
  induction d with
  | zero =>
    intro l n i hn hn2 hl h0 h1 k hk
    obtain ⟨m, rfl, _⟩ := succ_of hk
    refine ⟨l, ?_⟩
    simp only [laws_markCommitS.l0]
    rw [if_neg (by omega)]
    simp
  | succ d ih =>
    intro l n i hn hn2 hl h0 h1 k hk
    obtain ⟨m, rfl, _⟩ := succ_of hk
    simp only [laws_markCommitS.l0, Option.bind_some]
    rw [if_pos (by omega), if_pos (by omega), w64 (x := n + 1) (by omega) (by omega), w64 (x := n + 1 + 1) (by omega) (by omega), w64 (x := n + 1 + 1 + 1) (by omega) (by omega), w64 (x := n + 1 + 1 + 1 + 1) (by omega) (by omega), w64 (x := n + 1 + 1 + 1 + 1 + 1) (by omega) (by omega), w64 (by omega) (by omega)]
    refine (ih _ (n + 1 + 1 + 1 + 1 + 1) (i + 1) ?_ ?_ ?_ ?_ ?_ m ?_).imp (fun l' e => e.trans ?_)
    · omega
    · omega
    · simpa using hl
    · omega
    · simp only [List.length_set]; omega
    · omega
    · congr 2
      omega
theorem laws_markCommitS_f {k : Nat} {l : List S27} (hl : l.length ≤ 1048576) (hk : l.length < k) : ∃ l', laws_markCommitS.f k l 1 = some (1 + 5 * (l.length : Int), l') :=
  laws_markCommitS_l0 l.length l 1 0 (by omega) (by omega) (by omega) (by omega) (by omega) k hk

/-! ### LogBytes -/
def cOk (c : S27) : Prop := commitOk c.f0 c.f1 c.f2 c.f3 c.f4
instance (c : S27) : Decidable (cOk c) := by unfold cOk; infer_instance
def cB (c : S27) : List Int := commitB c.f0 c.f1 c.f2 c.f3 c.f4
theorem cB_len {c : S27} (h : cOk c) : (cB c).length ≤ 60 := by
  have := commitD_len h
  unfold cB commitB
  rw [frameB_length]
  omega
def logGo : Int → List S27 → Option (List Int)
  | _, [] => some []
  | p, c :: l => if cOk c ∧ p < c.f0 then (logGo c.f0 l).map (cB c ++ ·) else none
def logRes (o : Option (List Int)) (acc : List Int) : List Int × Bool := match o with
  | some b => (acc ++ b, true)
  | none => ([], false)
theorem logRes_step (c : S27) (l : List S27) (p : Int) (acc : List Int) (h : cOk c) (hp : p < c.f0) : logRes (logGo p (c :: l)) acc = logRes (logGo c.f0 l) (acc ++ cB c) := by
  simp only [logGo]
  rw [if_pos ⟨h, hp⟩]
  cases logGo c.f0 l <;> simp [logRes]
theorem logRes_no (c : S27) (l : List S27) (p : Int) (acc : List Int) (h : ¬ (cOk c ∧ p < c.f0)) : logRes (logGo p (c :: l)) acc = ([], false) := by
  simp only [logGo]
  rw [if_neg h]
  rfl
theorem spec_LogBytes_l0 (d : Nat) : ∀ (l : List S27) (acc : List Int) (p i : Int), l.length ≤ 1048576 → acc.length + 60 * d ≤ 1000000000 → 0 ≤ i → l.length - i = d → ∀ k, d + 1000002 < k →
    spec_LogBytes.l0 k acc p l (l.length : Int) i = some (logRes (logGo p (l.drop i.toNat)) acc) := by
  induction d with
  | zero =>
    intro l acc p i hl ha h0 h1 k hk
    obtain ⟨m, rfl, _⟩ := succ_of hk
    simp only [spec_LogBytes.l0]
    rw [if_neg (by omega), List.drop_eq_nil_of_le (by omega)]
    simp [logRes, logGo]
  | succ d ih =>
    intro l acc p i hl ha h0 h1 k hk
    obtain ⟨m, rfl, _⟩ := succ_of hk
    have hd := dropRd l z27 h0 (by omega)
    change _ = rd_T27 l i :: _ at hd
    simp only [spec_LogBytes.l0]
    rw [if_pos (by omega), if_pos (by omega), if_pos (by omega), spec_CommitBytes_f (by omega), hd]
    simp only [Option.bind_some]
    by_cases hc : cOk (rd_T27 l i)
    · have hlen := cB_len hc
      have hc' := hc
      unfold cOk at hc'
      rw [if_pos hc']
      simp only [if_true]
      by_cases hp : (rd_T27 l i).f0 ≤ p
      · rw [if_pos hp, logRes_no _ _ _ _ (by omega)]
      · rw [if_neg hp, logRes_step _ _ _ _ hc (by omega)]
        change (if acc.length + (cB (rd_T27 l i)).length < 140737488355328 then _ else _) = _
        rw [if_pos (by omega), w64 (by omega) (by omega), ih l _ _ (i + 1) hl (by rw [List.length_append]; change acc.length + (cB (rd_T27 l i)).length + _ ≤ _; omega) (by omega) (by omega) m (by omega)]
        rfl
    · have hc' := hc
      unfold cOk at hc'
      rw [if_neg hc']
      simp only [Bool.false_eq_true, if_false]
      rw [logRes_no _ _ _ _ (fun h => hc h.1)]
theorem spec_LogBytes_f {k : Nat} {l : List S27} (hl : l.length ≤ 1048576) (hk : 3000000 < k) : spec_LogBytes.f k l = some (logRes (logGo 0 l) []) := by
  unfold spec_LogBytes.f
  exact spec_LogBytes_l0 l.length l [] 0 0 hl (by simp; omega) (by omega) (by omega) k (by omega)
theorem impl_LogBytes_l0 (d : Nat) : ∀ (l : List S27) (acc : List Int) (p i : Int), l.length ≤ 1048576 → acc.length + 60 * d ≤ 1000000000 → 0 ≤ i → l.length - i = d → (i = 0 → p = 0) → (0 < i → p = (rd_T27 l (i - 1)).f0) → ∀ k, d + 1000002 < k →
    impl_LogBytes.l0 k l acc l (l.length : Int) i = some (logRes (logGo p (l.drop i.toNat)) acc) := by
  induction d with
  | zero =>
    intro l acc p i hl ha h0 h1 hp0 hp1 k hk
    obtain ⟨m, rfl, _⟩ := succ_of hk
    simp only [impl_LogBytes.l0]
    rw [if_neg (by omega), List.drop_eq_nil_of_le (by omega)]
    simp [logRes, logGo]
  | succ d ih =>
    intro l acc p i hl ha h0 h1 hp0 hp1 k hk
    obtain ⟨m, rfl, _⟩ := succ_of hk
    have hd := dropRd l z27 h0 (by omega)
    change _ = rd_T27 l i :: _ at hd
    simp only [impl_LogBytes.l0]
    rw [if_pos (by omega), if_pos (by omega), if_pos (by omega), impl_CommitBytes_f (by omega), hd]
    simp only [Option.bind_some]
    by_cases hc : cOk (rd_T27 l i)
    · have hlen := cB_len hc
      have he1 : 1 ≤ (rd_T27 l i).f0 := hc.1
      have hc' := hc
      unfold cOk at hc'
      rw [if_pos hc']
      simp only [if_true]
      have hrest : p < (rd_T27 l i).f0 → (if acc.length + (commitB (rd_T27 l i).f0 (rd_T27 l i).f1 (rd_T27 l i).f2 (rd_T27 l i).f3 (rd_T27 l i).f4).length < 140737488355328 then impl_LogBytes.l0 m l (acc ++ commitB (rd_T27 l i).f0 (rd_T27 l i).f1 (rd_T27 l i).f2 (rd_T27 l i).f3 (rd_T27 l i).f4) l (l.length : Int) (wrap64 (i + 1)) else none) = some (logRes (logGo p (rd_T27 l i :: l.drop (i + 1).toNat)) acc) := by
        intro hp
        rw [logRes_step _ _ _ _ hc hp]
        change (if acc.length + (cB (rd_T27 l i)).length < 140737488355328 then _ else _) = _
        rw [if_pos (by omega), w64 (by omega) (by omega)]
        exact ih l _ (rd_T27 l i).f0 (i + 1) hl (by rw [List.length_append]; change acc.length + (cB (rd_T27 l i)).length + _ ≤ _; omega) (by omega) (by omega) (fun h => by omega) (fun _ => by rw [show i + 1 - 1 = i by omega]) m (by omega)
      by_cases hi : i > 0
      · rw [if_pos hi, w64 (x := i - 1) (by omega) (by omega), if_pos (by omega), if_pos (by omega), ← hp1 hi]
        by_cases hp : p ≥ (rd_T27 l i).f0
        · rw [if_pos hp, logRes_no _ _ _ _ (by omega)]
        · rw [if_neg hp]
          exact hrest (by omega)
      · rw [if_neg hi]
        have := hp0 (by omega)
        exact hrest (by omega)
    · have hc' := hc
      unfold cOk at hc'
      rw [if_neg hc']
      simp only [Bool.false_eq_true, if_false]
      rw [logRes_no _ _ _ _ (fun h => hc h.1)]
theorem impl_LogBytes_f {k : Nat} {l : List S27} (hl : l.length ≤ 1048576) (hk : 3000000 < k) : impl_LogBytes.f k l = some (logRes (logGo 0 l) []) := by
  unfold impl_LogBytes.f
  exact impl_LogBytes_l0 l.length l [] 0 0 hl (by simp; omega) (by omega) (by omega) (fun _ => rfl) (fun h => by omega) k (by omega)
theorem logGo_len (l : List S27) : ∀ (p : Int) (b : List Int), logGo p l = some b → b.length ≤ 60 * l.length := by
  induction l with
  | nil => intro p b h; simp [logGo] at h; subst h; simp
  | cons c l ih =>
    intro p b h
    simp only [logGo] at h
    split at h
    · rename_i hc
      obtain ⟨b', h1, rfl⟩ := Option.map_eq_some_iff.1 h
      have h2 := ih _ _ h1
      have h3 := cB_len hc.1
      rw [List.length_append, List.length_cons]
      omega
    · cases h
theorem logRes_len {l : List S27} (hl : l.length ≤ 1048576) : (logRes (logGo 0 l) []).1.length ≤ 100000000 := by
  cases h : logGo 0 l with
  | none => simp [logRes]
  | some b =>
    have := logGo_len l 0 b h
    simp [logRes]
    omega
end Go.Proofs.Ytkolndfgpplknaa.Fn
