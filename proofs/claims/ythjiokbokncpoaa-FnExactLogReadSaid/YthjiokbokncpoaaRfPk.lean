/- The law FnExactLogRead returns true. -/
import Derived.Test.YthjiokbokncpoaaRfPj
set_option linter.unusedSimpArgs false
set_option linter.unusedVariables false
namespace Go.Proofs.Ythjiokbokncpoaa.Rf
open Go

theorem take_set_succ {α : Type} (l : List α) (v : α) {i : Nat} (h : i < l.length) : (l.set i v).take (i + 1) = l.take i ++ [v] := by
  rw [List.take_succ_eq_append_getElem (by simpa using h), List.getElem_set_self, List.take_set_of_le (Nat.le_refl i)]

theorem f11_l3_is {k : Nat} {a0 a : List Int} (hlen : a.length < 100000000) (d : Nat) : ∀ (i : Nat) (r : List Int), r.length = a.length → r.take i = a.take i → a.length - i = d → i ≤ a.length → ∀ m, d < m → f11_l3 k m a0 a i r = some ((a, ()), ()) := by
  induction d with
  | zero =>
    intro i r h1 h2 h3 h4 m hm
    obtain ⟨m, rfl, _⟩ := succ_of hm
    rw [f11_l3_succ]
    simp only [f11_u3, Bool.cond_eq_ite, decide_eq_true_eq]
    rw [if_neg (by omega)]
    obtain rfl : i = a.length := by omega
    rw [← h1, List.take_length, h1, List.take_length] at h2
    rw [h2]
  | succ d ih =>
    intro i r h1 h2 h3 h4 m hm
    obtain ⟨m, rfl, _⟩ := succ_of hm
    rw [f11_l3_succ]
    simp only [f11_u3, Bool.cond_eq_ite, decide_eq_true_eq, Int.toNat_natCast]
    rw [if_pos (by omega), if_pos (by omega), if_pos (by omega), if_pos (by omega), if_pos (by omega), w64 (by omega) (by omega), show (i : Int) + 1 = ((i + 1 : Nat) : Int) by omega]
    exact ih (i + 1) _ (by rw [List.length_set]; exact h1) (by rw [take_set_succ r _ (by omega), h2, take_rdI (by omega)]) (by omega) (by omega) m (by omega)
theorem f11_is {k : Nat} {a : List Int} (hlen : a.length < 100000000) (hk : a.length < k) : f11 k a = some ((a, ()), ()) := by
  rw [f11_eq]
  simp only [f11_u, Bool.cond_eq_ite, decide_eq_true_eq, Int.toNat_natCast]
  rw [if_pos (by omega), if_pos (by omega)]
  exact f11_l3_is hlen a.length 0 (List.replicate a.length (0 : Int)) (by simp) rfl (by omega) (by omega) k hk

theorem f57_refl {k : Nat} (c : D36) : f57 k c c = some ((true, ()), ()) := by
  rw [f57_eq]
  simp [f57_u]
theorem f13_l4_is {k : Nat} {a0 a1 a : List D36} (hlen : a.length < 1000000000) (d : Nat) : ∀ (i : Nat), a.length - i = d → ∀ m, d < m → f13_l4 k m a0 a1 a a i = some ((true, ()), ()) := by
  induction d with
  | zero =>
    intro i h3 m hm
    obtain ⟨m, rfl, _⟩ := succ_of hm
    rw [f13_l4_succ]
    simp only [f13_u4, Bool.cond_eq_ite, decide_eq_true_eq]
    rw [if_neg (by omega)]
  | succ d ih =>
    intro i h3 m hm
    obtain ⟨m, rfl, _⟩ := succ_of hm
    rw [f13_l4_succ]
    simp only [f13_u4, Bool.cond_eq_ite, decide_eq_true_eq, Int.toNat_natCast, f57_refl, Option.bind_some, Bool.not_true, Bool.false_eq_true, if_false]
    rw [if_pos (by omega), if_pos (by omega), if_pos (by omega), if_pos (by omega), if_pos (by omega), w64 (by omega) (by omega), show (i : Int) + 1 = ((i + 1 : Nat) : Int) by omega]
    exact ih (i + 1) (by omega) m (by omega)
theorem f13_is {k : Nat} {a : List D36} (hlen : a.length < 1000000000) (hk : a.length < k) : f13 k a a = some ((true, ()), ()) := by
  rw [f13_eq]
  simp only [f13_u, Bool.cond_eq_ite, bne_self_eq_false, Bool.false_eq_true, if_false]
  exact f13_l4_is hlen a.length 0 (by omega) k hk

theorem f14_l4_is {k : Nat} {a0 a1 a : List Int} (hlen : a.length < 1000000000) (d : Nat) : ∀ (i : Nat), a.length - i = d → ∀ m, d < m → f14_l4 k m a0 a1 a a i = some ((true, ()), ()) := by
  induction d with
  | zero =>
    intro i h3 m hm
    obtain ⟨m, rfl, _⟩ := succ_of hm
    rw [f14_l4_succ]
    simp only [f14_u4, Bool.cond_eq_ite, decide_eq_true_eq]
    rw [if_neg (by omega)]
  | succ d ih =>
    intro i h3 m hm
    obtain ⟨m, rfl, _⟩ := succ_of hm
    rw [f14_l4_succ]
    simp only [f14_u4, Bool.cond_eq_ite, decide_eq_true_eq, Int.toNat_natCast, bne_self_eq_false, Bool.false_eq_true, if_false]
    rw [if_pos (by omega), if_pos (by omega), if_pos (by omega), if_pos (by omega), if_pos (by omega), w64 (by omega) (by omega), show (i : Int) + 1 = ((i + 1 : Nat) : Int) by omega]
    exact ih (i + 1) (by omega) m (by omega)
theorem f14_is {k : Nat} {a : List Int} (hlen : a.length < 1000000000) (hk : a.length < k) : f14 k a a = some ((true, ()), ()) := by
  rw [f14_eq]
  simp only [f14_u, Bool.cond_eq_ite, bne_self_eq_false, Bool.false_eq_true, if_false]
  exact f14_l4_is hlen a.length 0 (by omega) k hk

theorem f15_l2_is {k : Nat} {a0 : List Int} {a1 : Int} (d : Nat) : ∀ (i : Nat) (t : Int) (r : List Int), r.length < 1000000000 → 0 ≤ t → t < 1000000000 + i → i ≤ r.length → r.length - i = d → ∀ m, d < m → ∃ r', f15_l2 k m a0 a1 t i r = some ((t + d, ()), (r', ())) := by
  induction d with
  | zero =>
    intro i t r h1 h2 h2' h2'' h3 m hm
    obtain ⟨m, rfl, _⟩ := succ_of hm
    rw [f15_l2_succ]
    simp only [f15_u2, Bool.cond_eq_ite, decide_eq_true_eq]
    rw [if_neg (by omega)]
    exact ⟨r, by simp⟩
  | succ d ih =>
    intro i t r h1 h2 h2' h2'' h3 m hm
    obtain ⟨m, rfl, _⟩ := succ_of hm
    rw [f15_l2_succ]
    simp only [f15_u2, Bool.cond_eq_ite, decide_eq_true_eq, Int.toNat_natCast]
    rw [if_pos (by omega), if_pos (by omega), if_pos (by omega), w64 (x := t + 1) (by omega) (by omega), w64 (x := (i : Int) + 1) (by omega) (by omega), show (i : Int) + 1 = ((i + 1 : Nat) : Int) by omega]
    obtain ⟨r', h⟩ := ih (i + 1) (t + 1) (r.set i (IntKind.wrap .u8 t)) (by rw [List.length_set]; exact h1) (by omega) (by omega) (by rw [List.length_set]; omega) (by rw [List.length_set]; omega) m (by omega)
    rw [show t + 1 + (d : Int) = t + ((d + 1 : Nat) : Int) by omega] at h
    exact ⟨r', h⟩
theorem f15_is {k : Nat} {a : List Int} (hlen : a.length < 1000000000) (hk : a.length < k) : ∃ r', f15 k a 1 = some ((1 + (a.length : Int), ()), (r', ())) := by
  rw [f15_eq]
  exact f15_l2_is a.length 0 1 a hlen (by omega) (by omega) (by omega) (by omega) k hk

def mk (n : Int) : D36 := (n, n + 1, n + 2, (n + 3).tmod 3 == 0, n + 4, ())
theorem rd36_self {l : List D36} {i : Nat} {v : D36} (h : i < l.length) : rd36 (l.set i v) i = v := by
  show (l.set i v).getD i _ = v
  rw [List.getD_eq_getElem?_getD, List.getElem?_set_self h]
  rfl
theorem rd36_ne {l : List D36} {i j : Nat} {v : D36} (h : i ≠ j) : rd36 (l.set i v) j = rd36 l j := by
  show (l.set i v).getD j _ = l.getD j _
  rw [List.getD_eq_getElem?_getD, List.getElem?_set_ne h, ← List.getD_eq_getElem?_getD]
theorem f16_l2_is {k : Nat} {a0 : List D36} {a1 : Int} (d : Nat) : ∀ (i : Nat) (r : List D36), r.length < 1000000000 → i ≤ r.length → (∀ j, j < i → rd36 r j = mk (1 + 5 * (j : Int))) → r.length - i = d → ∀ m, d < m →
    ∃ r', f16_l2 k m a0 a1 (1 + 5 * (i : Int)) i r = some ((1 + 5 * (r.length : Int), ()), (r', ())) ∧ r'.length = r.length ∧ ∀ j, j < r.length → rd36 r' j = mk (1 + 5 * (j : Int)) := by
  induction d with
  | zero =>
    intro i r h1 h2 hj h3 m hm
    obtain ⟨m, rfl, _⟩ := succ_of hm
    rw [f16_l2_succ]
    simp only [f16_u2, Bool.cond_eq_ite, decide_eq_true_eq]
    rw [if_neg (by omega)]
    obtain rfl : i = r.length := by omega
    exact ⟨r, rfl, rfl, hj⟩
  | succ d ih =>
    intro i r h1 h2 hj h3 m hm
    obtain ⟨m, rfl, _⟩ := succ_of hm
    have hi : i < r.length := by omega
    rw [f16_l2_succ]
    have w1 : IntKind.wrap .i64 (1 + 5 * (i : Int) + 1) = 1 + 5 * (i : Int) + 1 := w64 (by omega) (by omega)
    have w2 : IntKind.wrap .i64 (1 + 5 * (i : Int) + 1 + 1) = 1 + 5 * (i : Int) + 2 := (w64 (by omega) (by omega)).trans (by omega)
    have w3 : IntKind.wrap .i64 (1 + 5 * (i : Int) + 2 + 1) = 1 + 5 * (i : Int) + 3 := (w64 (by omega) (by omega)).trans (by omega)
    have w4 : IntKind.wrap .i64 (1 + 5 * (i : Int) + 3 + 1) = 1 + 5 * (i : Int) + 4 := (w64 (by omega) (by omega)).trans (by omega)
    have w5 : IntKind.wrap .i64 (1 + 5 * (i : Int) + 4 + 1) = 1 + 5 * ((i + 1 : Nat) : Int) := (w64 (by omega) (by omega)).trans (by omega)
    have w6 : IntKind.wrap .i64 ((i : Int) + 1) = ((i + 1 : Nat) : Int) := (w64 (by omega) (by omega)).trans (by omega)
    have p1 : (i : Int) < (r.length : Int) := by omega
    have p0 : (0 : Int) ≤ (i : Int) := by omega
    simp only [f16_u2, Bool.cond_eq_ite, decide_eq_true_eq, Int.toNat_natCast, w1, w2, w3, w4, w5, w6, List.length_set, if_pos p1, if_pos p0, List.set_set, rd36_self hi]
    have hmk : ((1 + 5 * (i : Int), 1 + 5 * (i : Int) + 1, 1 + 5 * (i : Int) + 2, (1 + 5 * (i : Int) + 3).tmod 3 == 0, 1 + 5 * (i : Int) + 4, ()) : D36) = mk (1 + 5 * (i : Int)) := rfl
    rw [hmk]
    obtain ⟨r', q1, q2, q3⟩ := ih (i + 1) (r.set i (mk (1 + 5 * (i : Int)))) (by rw [List.length_set]; exact h1) (by rw [List.length_set]; omega) (fun j hji => by
      by_cases hji2 : i = j
      · subst hji2; exact rd36_self hi
      · rw [rd36_ne hji2]; exact hj j (by omega)) (by rw [List.length_set]; omega) m (by omega)
    rw [List.length_set] at q1 q2 q3
    exact ⟨r', q1, q2, q3⟩
theorem f16_is {k : Nat} {a : List D36} (hlen : a.length < 1000000000) (hk : a.length < k) : ∃ r', f16 k a 1 = some ((1 + 5 * (a.length : Int), ()), (r', ())) ∧ r'.length = a.length ∧ ∀ j, j < a.length → rd36 r' j = mk (1 + 5 * (j : Int)) := by
  rw [f16_eq]
  exact f16_l2_is a.length 0 a hlen (by omega) (fun j h => by omega) (by omega) k hk
theorem f17_l2_is {k : Nat} {a0 : List D36} {a1 : Int} {r : List D36} (h1 : r.length < 1000000000) (hj : ∀ j, j < r.length → rd36 r j = mk (1 + 5 * (j : Int))) (d : Nat) : ∀ (i : Nat), i ≤ r.length → r.length - i = d → ∀ m, d < m →
    f17_l2 k m a0 a1 r (1 + 5 * (i : Int)) i = some ((1 + 5 * (r.length : Int), ()), ()) := by
  induction d with
  | zero =>
    intro i h2 h3 m hm
    obtain ⟨m, rfl, _⟩ := succ_of hm
    rw [f17_l2_succ]
    simp only [f17_u2, Bool.cond_eq_ite, decide_eq_true_eq]
    rw [if_neg (by omega)]
    obtain rfl : i = r.length := by omega
    rfl
  | succ d ih =>
    intro i h2 h3 m hm
    obtain ⟨m, rfl, _⟩ := succ_of hm
    have hi : i < r.length := by omega
    rw [f17_l2_succ]
    have w1 : IntKind.wrap .i64 (1 + 5 * (i : Int) + 1) = 1 + 5 * (i : Int) + 1 := w64 (by omega) (by omega)
    have w2 : IntKind.wrap .i64 (1 + 5 * (i : Int) + 1 + 1) = 1 + 5 * (i : Int) + 2 := (w64 (by omega) (by omega)).trans (by omega)
    have w3 : IntKind.wrap .i64 (1 + 5 * (i : Int) + 2 + 1) = 1 + 5 * (i : Int) + 3 := (w64 (by omega) (by omega)).trans (by omega)
    have w4 : IntKind.wrap .i64 (1 + 5 * (i : Int) + 3 + 1) = 1 + 5 * (i : Int) + 4 := (w64 (by omega) (by omega)).trans (by omega)
    have w5 : IntKind.wrap .i64 (1 + 5 * (i : Int) + 4 + 1) = 1 + 5 * ((i + 1 : Nat) : Int) := (w64 (by omega) (by omega)).trans (by omega)
    have w6 : IntKind.wrap .i64 ((i : Int) + 1) = ((i + 1 : Nat) : Int) := (w64 (by omega) (by omega)).trans (by omega)
    have p1 : (i : Int) < (r.length : Int) := by omega
    have p0 : (0 : Int) ≤ (i : Int) := by omega
    simp only [f17_u2, Bool.cond_eq_ite, decide_eq_true_eq, Int.toNat_natCast, w1, w2, w3, w4, w5, w6, if_pos p1, if_pos p0, hj i hi, mk, bne_self_eq_false, Bool.false_eq_true, if_false, beq_self_eq_true, Bool.not_true]
    exact ih (i + 1) (by omega) (by omega) m (by omega)
theorem f17_is {k : Nat} {r : List D36} (h1 : r.length < 1000000000) (hj : ∀ j, j < r.length → rd36 r j = mk (1 + 5 * (j : Int))) (hk : r.length < k) : f17 k r 1 = some ((1 + 5 * (r.length : Int), ()), ()) := by
  rw [f17_eq]
  exact f17_l2_is h1 hj r.length 0 (by omega) (by omega) k hk

theorem PureFnExactLogRead (z : List Int) (w : wfD (.sl (.int .u8)) z) : ∃ k, f3 k z = some ((true, ()), ()) := by
  refine ⟨100000000, ?_⟩
  rw [f3_eq]
  simp only [f3_u, Bool.cond_eq_ite, decide_eq_true_eq]
  by_cases hbig : (z.length : Int) > 1048576
  · rw [if_pos hbig]
  rw [if_neg hbig]
  have hb := Bytes.of_wf w
  have hl : z.length ≤ 1048576 := by omega
  obtain ⟨r, r0, e12, e10⟩ := log_is (k := 100000000) hb (by omega) (by omega)
  have e11 := f11_is (k := 100000000) (a := z) (by omega) (by omega)
  have e13 := f13_is (k := 100000000) (a := r.1.1) (by omega) (by omega)
  have e14 := f14_is (k := 100000000) (a := z) (by omega) (by omega)
  obtain ⟨r15, e15⟩ := f15_is (k := 100000000) (a := z) (by omega) (by omega)
  obtain ⟨r16, e16, l16, m16⟩ := f16_is (k := 100000000) (a := r.1.1) (by omega) (by omega)
  have e17 := f17_is (k := 100000000) (r := r16) (by omega) (by rw [l16]; exact m16) (by omega)
  rw [l16] at e17
  have p : ¬ (1 + (z.length : Int) < 0) := by omega
  have p2 : ¬ (1 + 5 * (r.1.1.length : Int) < 0) := by omega
  simp only [e11, e12, e10, e13, e14, e15, e16, e17, Option.bind_some, Bool.not_true, Bool.false_eq_true, if_false, bne_self_eq_false, if_neg p, if_neg p2]
end Go.Proofs.Ythjiokbokncpoaa.Rf
