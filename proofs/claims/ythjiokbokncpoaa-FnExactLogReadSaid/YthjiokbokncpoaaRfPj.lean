/- The readers of journals. -/
import Derived.Test.YthjiokbokncpoaaRfPi
set_option linter.unusedSimpArgs false
set_option linter.unusedVariables false
namespace Go.Proofs.Ythjiokbokncpoaa.Rf
open Go

theorem frameR_facts {b : List Int} (hb : Bytes b) {a : Nat} (ha : a ≤ b.length) : Bytes (frameR b a).1.1.2.1 ∧ (frameR b a).1.1.2.1.length ≤ b.length ∧ ((frameR b a).1.2.2.1 = 0 → ∃ a' : Nat, (frameR b a).1.2.1 = a' ∧ a < a' ∧ a' ≤ b.length) := by
  have err : ∀ c : Int, c ≠ 0 → Bytes (frErr c).1.1.2.1 ∧ (frErr c).1.1.2.1.length ≤ b.length ∧ ((frErr c).1.2.2.1 = 0 → ∃ a' : Nat, (frErr c).1.2.1 = a' ∧ a < a' ∧ a' ≤ b.length) :=
    fun c hc => ⟨Bytes.nil, Nat.zero_le _, fun h => absurd h hc⟩
  unfold frameR
  simp only
  split
  · exact err 1 (by omega)
  split
  · exact err 2 (by omega)
  split
  · exact err 3 (by omega)
  split
  · exact err 4 (by omega)
  split
  · exact err 5 (by omega)
  rename_i h4 _
  have hl : (b.drop (a : Int).toNat).length = b.length - a := by simp
  refine ⟨((hb.drop _).drop _).take _, by simp only [List.length_take, List.length_drop]; omega, fun _ => ?_⟩
  generalize fixN (((b.drop (a : Int).toNat).drop 2).take 6) = n at *
  exact ⟨a + 20 + n, by simp only; omega, by omega, by omega⟩

theorem commitR_ok {d : List Int} (h : (commitR d).1.2.1 = true) : cOk (commitR d).1.1 := by
  unfold commitR at h ⊢
  split at h
  · cases h
  · rename_i hc
    rw [if_neg hc]
    exact Classical.not_not.1 (fun hn => hc (.inr (.inr (.inr hn))))

def lastE (out : List D36) : Int := if out.length = 0 then 0 else (rd36 out (out.length - 1)).1

theorem log_loops {k : Nat} {b : List Int} (hb : Bytes b) (hlen : b.length < 100000000) (hk : 20 * b.length + 1300000 ≤ k) {a0 a1 : List Int} (d : Nat) : ∀ (a : Nat) (out : List D36), a ≤ b.length → b.length - a ≤ d → out.length ≤ a →
    ∃ r : R12, r.1.1.length ≤ b.length ∧ (∀ m, d < m → f12_l3 k m a0 b a out = some r) ∧ (∀ m, d < m → f10_l4 k m a1 b a (lastE out) out = some r) := by
  have q55 := fun (x : Int) => f55_is (k := k) hb (by omega) (by omega) x
  have q53 := fun (x : Int) => f53_is (k := k) hb (by omega) (by omega) x
  induction d with
  | zero =>
    intro a out h1 h2 h3
    refine ⟨((out, (a : Int), 0, ()), ()), by simp only; omega, fun m hm => ?_, fun m hm => ?_⟩
    · obtain ⟨m, rfl, _⟩ := succ_of hm
      rw [f12_l3_succ]
      simp only [f12_u3, q55, Option.bind_some, Bool.cond_eq_ite, beq_iff_eq]
      rw [if_pos (by omega)]
    · obtain ⟨m, rfl, _⟩ := succ_of hm
      rw [f10_l4_succ]
      simp only [f10_u4, Bool.cond_eq_ite, decide_eq_true_eq]
      rw [if_neg (by omega)]
  | succ d ih =>
    intro a out h1 h2 h3
    by_cases hend : a = b.length
    · refine ⟨((out, (a : Int), 0, ()), ()), by simp only; omega, fun m hm => ?_, fun m hm => ?_⟩
      · obtain ⟨m, rfl, _⟩ := succ_of (d := 0) (k := m) (by omega)
        rw [f12_l3_succ]
        simp only [f12_u3, q55, Option.bind_some, Bool.cond_eq_ite, beq_iff_eq]
        rw [if_pos (by omega)]
      · obtain ⟨m, rfl, _⟩ := succ_of (d := 0) (k := m) (by omega)
        rw [f10_l4_succ]
        simp only [f10_u4, Bool.cond_eq_ite, decide_eq_true_eq]
        rw [if_neg (by omega)]
    obtain ⟨q1, q2, q3⟩ := frameR_facts hb h1
    have e12 : ∀ m, f12_l3 k (m + 1) a0 b a out = _ := fun m => f12_l3_succ k m a0 b a out
    have e10 : ∀ m, f10_l4 k (m + 1) a1 b a (lastE out) out = _ := fun m => f10_l4_succ k m a1 b a (lastE out) out
    simp only [f12_u3, q55, Option.bind_some, Bool.cond_eq_ite, beq_iff_eq, bne_iff_ne, decide_eq_true_eq] at e12
    simp only [f10_u4, q53, Option.bind_some, Bool.cond_eq_ite, beq_iff_eq, bne_iff_ne, decide_eq_true_eq] at e10
    generalize hF : frameR b a = F at *
    have hin : (a : Int) < (b.length : Int) := by omega
    have hne : ¬ (a : Int) = (b.length : Int) := by omega
    simp only [if_neg hne] at e12
    simp only [if_pos hin] at e10
    have fin : ∀ (c : Int), (∀ m, f12_l3 k (m + 1) a0 b a out = some ((out, (a : Int), c, ()), ())) → (∀ m, f10_l4 k (m + 1) a1 b a (lastE out) out = some ((out, (a : Int), c, ()), ())) →
        ∃ r : R12, r.1.1.length ≤ b.length ∧ (∀ m, d + 1 < m → f12_l3 k m a0 b a out = some r) ∧ (∀ m, d + 1 < m → f10_l4 k m a1 b a (lastE out) out = some r) := by
      intro c h12 h10
      refine ⟨((out, (a : Int), c, ()), ()), by simp only; omega, fun m hm => ?_, fun m hm => ?_⟩
      · obtain ⟨m, rfl, _⟩ := succ_of (d := 0) (k := m) (by omega)
        exact h12 m
      · obtain ⟨m, rfl, _⟩ := succ_of (d := 0) (k := m) (by omega)
        exact h10 m
    by_cases c2 : F.1.2.2.1 = 2
    · simp only [if_pos c2] at e12 e10
      exact fin 1 e12 e10
    simp only [if_neg c2] at e12 e10
    by_cases c4 : F.1.2.2.1 = 4
    · simp only [if_pos c4] at e12 e10
      exact fin 1 e12 e10
    simp only [if_neg c4] at e12 e10
    have g54 := f54_is (k := k) (by omega) q1 (by omega)
    have g56 := f56_is (k := k) (by omega) q1 (by omega)
    simp only [g54, g56, Option.bind_some] at e12 e10
    by_cases c0 : F.1.2.2.1 ≠ 0
    · simp only [if_pos c0] at e12 e10
      exact fin 2 e12 e10
    simp only [if_neg c0] at e12 e10
    by_cases ck : F.1.1.1 ≠ 3
    · simp only [if_pos ck] at e12 e10
      exact fin 2 e12 e10
    simp only [if_neg ck] at e12 e10
    obtain ⟨a', ha', hlt, hle⟩ := q3 (Classical.not_not.1 c0)
    rw [ha'] at e12 e10
    clear ha'
    have hd' : b.length - a' ≤ d := by clear e12 e10; omega
    have hcok := commitR_ok (d := F.1.1.2.1)
    generalize commitR F.1.1.2.1 = C at *
    cases hc : C.1.2.1 with
    | false =>
      simp only [hc, Bool.not_false, if_true] at e12 e10
      exact fin 2 e12 e10
    | true =>
      have hok := hcok hc
      have hok1 : 1 ≤ C.1.1.1 := hok.1
      simp only [hc, Bool.not_true, Bool.false_eq_true, if_false, List.length_singleton] at e12 e10
      have hroom : (out.length + 1) * 40 ≤ 140737488355328 := by omega
      simp only [if_pos hroom] at e12 e10
      have hlast : lastE (out ++ [C.1.1]) = C.1.1.1 := by
        unfold lastE
        rw [if_neg (by simp)]
        have : rd36 (out ++ [C.1.1]) ((out ++ [C.1.1]).length - 1) = C.1.1 := by
          show (out ++ [C.1.1]).getD _ _ = _
          simp [List.getD_eq_getElem?_getD]
        rw [this]
      have hE : (C.1.1.1 ≤ lastE out) ↔ (out.length > 0 ∧ (rd36 out (out.length - 1)).1 ≥ C.1.1.1) := by
        unfold lastE
        by_cases h0 : out.length = 0
        · rw [if_pos h0]; omega
        · rw [if_neg h0]; omega
      by_cases hl : C.1.1.1 ≤ lastE out
      · simp only [if_pos hl] at e10
        obtain ⟨z1, z2⟩ := hE.1 hl
        have w : IntKind.wrap .i64 ((out.length : Int) - 1) = ((out.length - 1 : Nat) : Int) := by rw [w64 (by omega) (by omega)]; omega
        have z3 : (out.length : Int) > 0 := by omega
        have z4 : (0 : Int) ≤ ((out.length - 1 : Nat) : Int) := by omega
        have z5 : ((out.length - 1 : Nat) : Int) < (out.length : Int) := by omega
        simp only [w, if_pos z3, if_pos z4, if_pos z5, Int.toNat_natCast, if_pos z2] at e12
        exact fin 2 e12 e10
      · simp only [if_neg hl] at e10
        obtain ⟨r, r0, r1, r2⟩ := ih a' (out ++ [C.1.1]) hle hd' (by rw [List.length_append]; show out.length + 1 ≤ a'; omega)
        rw [hlast] at r2
        have e12' : ∀ m, f12_l3 k (m + 1) a0 b a out = f12_l3 k m a0 b a' (out ++ [C.1.1]) := by
          intro m
          rw [e12 m]
          by_cases z3 : (out.length : Int) > 0
          · have w : IntKind.wrap .i64 ((out.length : Int) - 1) = ((out.length - 1 : Nat) : Int) := by rw [w64 (by omega) (by omega)]; omega
            have z4 : (0 : Int) ≤ ((out.length - 1 : Nat) : Int) := by omega
            have z5 : ((out.length - 1 : Nat) : Int) < (out.length : Int) := by omega
            have z2 : ¬ (rd36 out (out.length - 1)).1 ≥ C.1.1.1 := fun h => hl (hE.2 ⟨by omega, h⟩)
            simp only [w, if_pos z3, if_pos z4, if_pos z5, Int.toNat_natCast, if_neg z2]
          · simp only [if_neg z3]
        refine ⟨r, r0, fun m hm => ?_, fun m hm => ?_⟩
        · obtain ⟨m, rfl, _⟩ := succ_of (d := 0) (k := m) (by omega)
          rw [e12' m, r1 m (by omega)]
        · obtain ⟨m, rfl, _⟩ := succ_of (d := 0) (k := m) (by omega)
          rw [e10 m, r2 m (by omega)]

theorem log_is {k : Nat} {b : List Int} (hb : Bytes b) (hlen : b.length < 100000000) (hk : 20 * b.length + 1300000 ≤ k) : ∃ r : R12, r.1.1.length ≤ b.length ∧ f12 k b = some r ∧ f10 k b = some r := by
  obtain ⟨r, r0, r1, r2⟩ := log_loops (k := k) hb hlen hk (a0 := b) (a1 := b) b.length 0 [] (by omega) (by omega) (by simp)
  refine ⟨r, r0, ?_, ?_⟩
  · rw [f12_eq]; exact r1 k (by omega)
  · rw [f10_eq]; exact r2 k (by omega)
end Go.Proofs.Ythjiokbokncpoaa.Rf
