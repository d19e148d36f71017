/- The readers of commits. -/
import Derived.Test.YthjiokbokncpoaaRfPh
set_option linter.unusedSimpArgs false
set_option linter.unusedVariables false
namespace Go.Proofs.Ythjiokbokncpoaa.Rf
open Go

abbrev CR := (CM × Bool × Unit) × Unit
def cNo : CR := (((0, 0, 0, false, 0, ()), false, ()), ())
def sN (b : List Int) : Nat → Int × Bool
  | 0 => (0, false)
  | n + 1 => (rdV b (sN b n)).2
def nN (b : List Int) (n : Nat) : Int := (rdV b (sN b n)).1
def cN (b : List Int) : CM := (nN b 0, nN b 1, nN b 2, nN b 3 == 1, nN b 4, ())
def commitR (b : List Int) : CR := if (sN b 5).2 = true ∨ (sN b 5).1 ≠ b.length ∨ 1 < nN b 3 ∨ ¬ cOk (cN b) then cNo else ((cN b, true, ()), ())

theorem sN_inv (b : List Int) : ∀ n, Inv5 b (sN b n)
  | 0 => fun h => by cases h
  | n + 1 => rdV_inv (sN_inv b n)

theorem f56_is {k : Nat} (hk : 20 ≤ k) {b : List Int} (hb : Bytes b) (hlen : b.length < 140737488355328) : f56 k b = some (commitR b) := by
  have e0 : f111 k (b, 0, true, ()) = _ := f111_is (k := k) hk hb hlen (s := sN b 0) (sN_inv b 0)
  have e1 := f111_is (k := k) hk hb hlen (s := sN b 1) (sN_inv b 1)
  have e2 := f111_is (k := k) hk hb hlen (s := sN b 2) (sN_inv b 2)
  have e3 := f111_is (k := k) hk hb hlen (s := sN b 3) (sN_inv b 3)
  have e4 := f111_is (k := k) hk hb hlen (s := sN b 4) (sN_inv b 4)
  have t0 : (rdV b (sN b 0)).2 = sN b 1 := rfl
  have t1 : (rdV b (sN b 1)).2 = sN b 2 := rfl
  have t2 : (rdV b (sN b 2)).2 = sN b 3 := rfl
  have t3 : (rdV b (sN b 3)).2 = sN b 4 := rfl
  have t4 : (rdV b (sN b 4)).2 = sN b 5 := rfl
  have u : ∀ n, (rdV b (sN b n)).1 = nN b n := fun n => rfl
  rw [f56_eq]
  simp only [t0, t1, t2, t3, t4, u] at e0 e1 e2 e3 e4
  simp only [f56_u, e0, e1, e2, e3, e4, Option.bind_some, f20_is, Bool.cond_eq_ite, Bool.not_not, Bool.not_eq_false', bne_iff_ne, decide_eq_true_eq, Bool.not_eq_true', decide_eq_false_iff_not, commitR]
  have hc : ((nN b 0, nN b 1, nN b 2, nN b 3 == 1, nN b 4, ()) : CM) = cN b := rfl
  simp only [hc]
  by_cases h1 : (sN b 5).2 = true
  · rw [if_pos h1, if_pos (.inl h1)]; rfl
  rw [if_neg h1]
  by_cases h2 : (sN b 5).1 ≠ b.length
  · rw [if_pos h2, if_pos (.inr (.inl h2))]; rfl
  rw [if_neg h2]
  by_cases h3 : nN b 3 > 1
  · rw [if_pos h3, if_pos (.inr (.inr (.inl h3)))]; rfl
  rw [if_neg h3]
  by_cases h4 : ¬ cOk (cN b)
  · rw [if_pos h4, if_pos (.inr (.inr (.inr h4)))]; rfl
  rw [if_neg h4, if_neg (by rintro (h | h | h | h); exact h1 h; exact h2 h; exact h3 h; exact h4 h)]

theorem varB_head {n : Nat} (h : 128 ≤ n) : ∃ x r, varB n = x :: r ∧ 128 ≤ x := ⟨_, _, varB_big (by omega), by omega⟩

theorem commit_iff {b : List Int} (hb : Bytes b) (h5 : (sN b 5).2 = false) (hc : cOk (cN b)) : commitD (cN b) = b ↔ ((sN b 5).1 = b.length ∧ ¬ 1 < nN b 3) := by
  obtain ⟨g4, p4, m4, n4, b4, d4, l5, w4⟩ := rdV_ok hb (s := sN b 4) h5
  obtain ⟨g3, p3, m3, n3, b3, d3, l4, w3⟩ := rdV_ok hb (s := sN b 3) g4
  obtain ⟨g2, p2, m2, n2, b2, d2, l3, w2⟩ := rdV_ok hb (s := sN b 2) g3
  obtain ⟨g1, p1, m1, n1, b1, d1, l2, w1⟩ := rdV_ok hb (s := sN b 1) g2
  obtain ⟨g0, p0, m0, n0, b0, d0, l1, w0⟩ := rdV_ok hb (s := sN b 0) g1
  have t0 : (rdV b (sN b 0)).2 = sN b 1 := rfl
  have t1 : (rdV b (sN b 1)).2 = sN b 2 := rfl
  have t2 : (rdV b (sN b 2)).2 = sN b 3 := rfl
  have t3 : (rdV b (sN b 3)).2 = sN b 4 := rfl
  have t4 : (rdV b (sN b 4)).2 = sN b 5 := rfl
  have u : ∀ n, (rdV b (sN b n)).1 = nN b n := fun n => rfl
  rw [t0] at d0
  rw [t1] at d1
  rw [t2] at d2
  rw [t3] at d3
  rw [t4] at d4 l5 w4
  rw [u] at n0 n1 n2 n3 n4
  have z : (sN b 0).1.toNat = 0 := rfl
  rw [z, List.drop_zero, d1, d2, d3, d4] at d0
  have hD : commitD (cN b) = varB m0 ++ (varB m1 ++ (varB m2 ++ (varB (bitN (nN b 3 == 1)) ++ varB m4))) := by
    show varB (nN b 0).toNat ++ varB (nN b 1).toNat ++ varB (nN b 2).toNat ++ varB (bitN (nN b 3 == 1)) ++ varB (nN b 4).toNat = _
    rw [n0, n1, n2, n4]
    simp only [Int.toNat_natCast, List.append_assoc]
  have hp5 : 0 ≤ (sN b 5).1 := Int.le_trans p4 w4
  have hrest : b.drop (sN b 5).1.toNat = [] ↔ (sN b 5).1 = b.length := by
    rw [List.drop_eq_nil_iff]
    omega
  rw [← hrest, hD]
  constructor
  · intro h
    have h := h.trans d0
    have h := List.append_cancel_left (List.append_cancel_left (List.append_cancel_left h))
    by_cases hm : m3 < 128
    · rw [varB_small hm] at h
      have hbit : bitN (nN b 3 == 1) < 128 := by unfold bitN; split <;> omega
      rw [varB_small hbit] at h
      simp only [List.singleton_append, List.cons.injEq] at h
      obtain ⟨h1, h2⟩ := h
      have h3 : b.drop (sN b 5).1.toNat = [] := by
        have := congrArg List.length h2
        simp only [List.length_append] at this
        exact List.eq_nil_of_length_eq_zero (by omega)
      refine ⟨h3, ?_⟩
      have : bitN (nN b 3 == 1) ≤ 1 := by unfold bitN; split <;> omega
      omega
    · have hbit : bitN (nN b 3 == 1) < 128 := by unfold bitN; split <;> omega
      obtain ⟨x, r, hx, hx2⟩ := varB_head (n := m3) (by omega)
      rw [varB_small hbit, hx] at h
      simp only [List.cons_append, List.cons.injEq] at h
      omega
  · rintro ⟨h1, h2⟩
    have : bitN (nN b 3 == 1) = m3 := by
      rw [n3] at h2 ⊢
      have : m3 = 0 ∨ m3 = 1 := by omega
      rcases this with rfl | rfl <;> rfl
    rw [this]
    rw [h1, List.append_nil] at d0
    exact d0.symm

theorem commitD_bytes (c : CM) : Bytes (commitD c) := ((((varB_bytes _).append (varB_bytes _)).append (varB_bytes _)).append (varB_bytes _)).append (varB_bytes _)

theorem f54_is {k : Nat} (hk : 100 ≤ k) {b : List Int} (hb : Bytes b) (hlen : b.length < 140737488355328) : f54 k b = some (commitR b) := by
  have e0 : f104 k (b, 0, false, ()) = _ := f104_is (k := k) (by omega) hb hlen (s := sN b 0)
  have e1 := f104_is (k := k) (by omega) hb hlen (s := sN b 1)
  have e2 := f104_is (k := k) (by omega) hb hlen (s := sN b 2)
  have e3 := f104_is (k := k) (by omega) hb hlen (s := sN b 3)
  have e4 := f104_is (k := k) (by omega) hb hlen (s := sN b 4)
  have t0 : (rdV b (sN b 0)).2 = sN b 1 := rfl
  have t1 : (rdV b (sN b 1)).2 = sN b 2 := rfl
  have t2 : (rdV b (sN b 2)).2 = sN b 3 := rfl
  have t3 : (rdV b (sN b 3)).2 = sN b 4 := rfl
  have t4 : (rdV b (sN b 4)).2 = sN b 5 := rfl
  have u : ∀ n, (rdV b (sN b n)).1 = nN b n := fun n => rfl
  rw [f54_eq]
  simp only [t0, t1, t2, t3, t4, u] at e0 e1 e2 e3 e4
  simp only [f54_u, e0, e1, e2, e3, e4, Option.bind_some, f105_is, Bool.cond_eq_ite, bne_iff_ne, Bool.not_eq_true', decide_eq_false_iff_not, commitR]
  have hc : ((nN b 0, nN b 1, nN b 2, nN b 3 == 1, nN b 4, ()) : CM) = cN b := rfl
  simp only [hc]
  by_cases h1 : (sN b 5).2 = true
  · rw [if_pos h1, if_pos (.inl h1)]; rfl
  rw [if_neg h1]
  by_cases h4 : ¬ cOk (cN b)
  · rw [if_pos h4, if_pos (.inr (.inr (.inr h4)))]; rfl
  rw [if_neg h4]
  have hc' := Classical.not_not.1 h4
  have hi := commit_iff hb (by simpa using h1) hc'
  simp only [f106_is hk hc', Option.bind_some, sEq_bytes (commitD_bytes _) hb, decide_eq_false_iff_not]
  by_cases he : commitD (cN b) = b
  · obtain ⟨q1, q2⟩ := hi.1 he
    rw [if_neg (fun h => h he), if_neg (by rintro (h | h | h | h); exact h1 h; exact h q1; exact q2 h; exact h4 h)]
  · rw [if_pos he, if_pos (by
      by_cases hq : (sN b 5).1 = b.length
      · by_cases hq2 : 1 < nN b 3
        · exact .inr (.inr (.inl hq2))
        · exact absurd (hi.2 ⟨hq, hq2⟩) he
      · exact .inr (.inl hq))]
    rfl
end Go.Proofs.Ythjiokbokncpoaa.Rf
