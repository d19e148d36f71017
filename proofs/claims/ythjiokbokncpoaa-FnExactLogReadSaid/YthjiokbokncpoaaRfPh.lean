/- Commits read. -/
import Derived.Test.YthjiokbokncpoaaRfPg
set_option linter.unusedSimpArgs false
set_option linter.unusedVariables false
namespace Go.Proofs.Ythjiokbokncpoaa.Rf
open Go

theorem getVar_ok {b : List Int} (hb : Bytes b) {at_ n next : Int} (h : getVar b at_ = ((n, next, true, ()), ())) :
    0 ≤ at_ ∧ ∃ m : Nat, n = m ∧ m ≤ 281474976710655 ∧ b.drop at_.toNat = varB m ++ b.drop next.toNat ∧ at_ ≤ next ∧ next ≤ b.length := by
  unfold getVar at h
  split at h
  · cases h
  · rename_i hat
    refine ⟨by omega, ?_⟩
    cases he : endsAt 7 (b.drop at_.toNat) with
    | none => rw [he] at h; cases h
    | some e =>
      rw [he] at h
      simp only [varR] at h
      split at h
      · cases h
      · rename_i hc
        obtain ⟨q1, q2, q3, q4⟩ := endsAt_some (hb.drop at_.toNat) he
        have hv := varB_val q3
        have hl : ((b.drop at_.toNat).take (e + 1)).length = e + 1 := by simp at q2 ⊢; omega
        rw [q4, hl] at hv
        have heq := hv.2 (by
          by_cases h0 : e = 0
          · left; omega
          · right; intro hz; exact hc (.inl ⟨hz, by omega⟩))
        simp only [Prod.mk.injEq, and_true] at h
        obtain ⟨h1, h2⟩ := h
        refine ⟨valD ((b.drop at_.toNat).take (e + 1)), h1.symm, by omega, ?_, by omega, by simp at q2; omega⟩
        rw [heq, ← h2, Int.toNat_natCast, show at_.toNat + e + 1 = at_.toNat + (e + 1) by omega, ← List.drop_drop, List.take_append_drop]

abbrev CM := Int × Int × Int × Bool × Int × Unit
def rdV (b : List Int) (s : Int × Bool) : Int × (Int × Bool) :=
  if s.2 = true ∨ (getVar b s.1).1.2.2.1 = false then (0, (s.1, true)) else ((getVar b s.1).1.1, ((getVar b s.1).1.2.1, false))
def Inv5 (b : List Int) (s : Int × Bool) : Prop := s.2 = true → (getVar b s.1).1.2.2.1 = false
theorem rdV_inv {b : List Int} {s : Int × Bool} (h : Inv5 b s) : Inv5 b (rdV b s).2 := by
  unfold rdV
  split
  · rename_i hc
    intro _
    rcases hc with hc | hc
    · exact h hc
    · exact hc
  · intro hh; cases hh
theorem f111_is {k : Nat} (hk : 20 ≤ k) {b : List Int} (hb : Bytes b) (hlen : b.length < 140737488355328) {s : Int × Bool} (hi : Inv5 b s) : f111 k (b, s.1, !s.2, ()) = some (((rdV b s).1, ()), ((b, (rdV b s).2.1, !(rdV b s).2.2, ()), ())) := by
  rw [f111_eq]
  simp only [f111_u, f148_is (k := k) (by omega) hb hlen, Option.bind_some, Bool.cond_eq_ite]
  cases hg : (getVar b s.1).1.2.2.1 with
  | false =>
    have : rdV b s = (0, (s.1, true)) := by unfold rdV; rw [if_pos (.inr hg)]
    rw [this]; rfl
  | true =>
    have h2 : s.2 = false := by
      cases hs : s.2 with
      | false => rfl
      | true => have := hi hs; rw [hg] at this; cases this
    have : rdV b s = ((getVar b s.1).1.1, ((getVar b s.1).1.2.1, false)) := by unfold rdV; rw [if_neg (by rw [h2, hg]; simp)]
    rw [this, h2]; rfl
theorem f104_is {k : Nat} (hk : 20 ≤ k) {b : List Int} (hb : Bytes b) (hlen : b.length < 140737488355328) {s : Int × Bool} : f104 k (b, s.1, s.2, ()) = some (((rdV b s).1, ()), ((b, (rdV b s).2.1, (rdV b s).2.2, ()), ())) := by
  rw [f104_eq]
  simp only [f104_u, f144_is (k := k) hk hb hlen, Option.bind_some, Bool.cond_eq_ite]
  cases hg : (getVar b s.1).1.2.2.1 with
  | false =>
    have : rdV b s = (0, (s.1, true)) := by unfold rdV; rw [if_pos (.inr hg)]
    rw [this]; rfl
  | true =>
    cases hs : s.2 with
    | true =>
      have : rdV b s = (0, (s.1, true)) := by unfold rdV; rw [if_pos (.inl hs)]
      rw [this]; rfl
    | false =>
      have : rdV b s = ((getVar b s.1).1.1, ((getVar b s.1).1.2.1, false)) := by unfold rdV; rw [if_neg (by rw [hs, hg]; simp)]
      rw [this]; rfl
theorem rdV_ok {b : List Int} (hb : Bytes b) {s : Int × Bool} (h : (rdV b s).2.2 = false) : s.2 = false ∧ 0 ≤ s.1 ∧ ∃ m : Nat, (rdV b s).1 = m ∧ m ≤ 281474976710655 ∧ b.drop s.1.toNat = varB m ++ b.drop (rdV b s).2.1.toNat ∧ (rdV b s).2.1 ≤ b.length ∧ s.1 ≤ (rdV b s).2.1 := by
  unfold rdV at h ⊢
  split at h
  · cases h
  · rename_i hc
    rw [if_neg hc]
    have h2 : s.2 = false := by cases hs : s.2 with | false => rfl | true => exact absurd (.inl hs) hc
    have hg : getVar b s.1 = (((getVar b s.1).1.1, (getVar b s.1).1.2.1, true, ()), ()) := by
      have : (getVar b s.1).1.2.2.1 = true := by cases hs : (getVar b s.1).1.2.2.1 with | true => rfl | false => exact absurd (.inr hs) hc
      rw [← this]
    obtain ⟨q0, m, q1, q2, q3, q4, q5⟩ := getVar_ok hb hg
    exact ⟨h2, q0, m, q1, q2, q3, q5, q4⟩

def cOk (c : CM) : Prop := 1 ≤ c.1 ∧ c.1 ≤ 1000000 ∧ 1 ≤ c.2.1 ∧ c.2.1 ≤ c.1 ∧ 0 ≤ c.2.2.1 ∧ c.2.2.1 ≤ 4294967295 ∧ 0 ≤ c.2.2.2.2.1 ∧ c.2.2.2.2.1 ≤ 4294967295 ∧ (c.2.2.2.1 = true ∨ c.2.2.2.2.1 = 0)
instance (c : CM) : Decidable (cOk c) := by unfold cOk; infer_instance
theorem cOk_iff {e g s v : Int} {has : Bool} : cOk (e, g, s, has, v, ()) ↔ (1 ≤ e ∧ e ≤ 1000000 ∧ 1 ≤ g ∧ g ≤ e ∧ 0 ≤ s ∧ s ≤ 4294967295 ∧ 0 ≤ v ∧ v ≤ 4294967295 ∧ (has = true ∨ v = 0)) := Iff.rfl
def bitN (b : Bool) : Nat := if b then 1 else 0
def commitD (c : CM) : List Int := varB c.1.toNat ++ varB c.2.1.toNat ++ varB c.2.2.1.toNat ++ varB (bitN c.2.2.2.1) ++ varB c.2.2.2.2.1.toNat

theorem dec_eq {p : Prop} [Decidable p] {b : Bool} (h : b = true ↔ p) : b = decide p := by
  by_cases hp : p
  · rw [h.2 hp]; simp [hp]
  · cases b with
    | false => simp [hp]
    | true => exact absurd (h.1 rfl) hp
theorem f20_is {k : Nat} {c : CM} : f20 k c = some ((decide (cOk c), ()), ()) := by
  obtain ⟨e, g, s, has, v, u⟩ := c
  obtain rfl : u = () := rfl
  rw [f20_eq]
  simp only [f20_u, Bool.cond_eq_ite, decide_eq_true_eq]
  have no : ¬ cOk (e, g, s, has, v, ()) → decide (cOk (e, g, s, has, v, ())) = false := fun h => by simp [h]
  repeat' split
  all_goals first
    | (rw [no (fun h => by obtain ⟨h1, h2, h3, h4, h5, h6, h7, h8, _⟩ := cOk_iff.1 h; omega)]; done)
    | skip
  · rename_i h; rw [← dec_eq (b := true) (by rw [cOk_iff]; simp only [h, true_iff, true_or, and_true]; omega)]
  · rename_i h
    rw [← dec_eq (b := v == 0) (by rw [cOk_iff]; simp only [beq_iff_eq]; constructor
                                   · intro h0; refine ⟨by omega, by omega, by omega, by omega, by omega, by omega, by omega, by omega, .inr h0⟩
                                   · rintro ⟨_, _, _, _, _, _, _, _, h1 | h1⟩
                                     · exact absurd h1 h
                                     · exact h1)]
theorem f145_is {k : Nat} {x : Int} : f145 k x = some ((decide (0 ≤ x ∧ x ≤ 4294967295), ()), ()) := by
  rw [f145_eq]
  simp only [f145_u, Bool.cond_eq_ite, decide_eq_true_eq]
  by_cases h : x ≥ 0
  · rw [if_pos h, dec_eq (p := 0 ≤ x ∧ x ≤ 4294967295) (b := decide (x ≤ 4294967295)) (by simp only [decide_eq_true_eq]; omega)]
  · rw [if_neg h, ← dec_eq (b := false) (by simp; omega)]
theorem f105_is {k : Nat} {c : CM} : f105 k c = some ((decide (cOk c), ()), ()) := by
  obtain ⟨e, g, s, has, v, u⟩ := c
  obtain rfl : u = () := rfl
  rw [f105_eq]
  simp only [f105_u, f145_is, Option.bind_some, Bool.cond_eq_ite, decide_eq_true_eq]
  have no : ¬ cOk (e, g, s, has, v, ()) → decide (cOk (e, g, s, has, v, ())) = false := fun h => by simp [h]
  repeat' split
  all_goals first
    | (rw [no (fun h => by obtain ⟨h1, h2, h3, h4, h5, h6, h7, h8, _⟩ := cOk_iff.1 h; omega)]; done)
    | skip
  · rename_i h; rw [← dec_eq (b := true) (by rw [cOk_iff]; simp only [h, true_iff, true_or, and_true]; omega)]
  · rename_i h
    rw [← dec_eq (b := v == 0) (by rw [cOk_iff]; simp only [beq_iff_eq]; constructor
                                   · intro h0; refine ⟨by omega, by omega, by omega, by omega, by omega, by omega, by omega, by omega, .inr h0⟩
                                   · rintro ⟨_, _, _, _, _, _, _, _, h1 | h1⟩
                                     · exact absurd h1 h
                                     · exact h1)]

theorem f146_is {k : Nat} {x : Bool} : f146 k x = some ((((bitN x : Nat) : Int), ()), ()) := by
  rw [f146_eq]
  cases x <;> rfl

theorem f106_is {k : Nat} (hk : 100 ≤ k) {c : CM} (h : cOk c) : f106 k c = some ((commitD c, ()), ()) := by
  obtain ⟨e, g, s, has, v, u⟩ := c
  obtain rfl : u = () := rfl
  unfold cOk at h
  simp only at h
  rw [f106_eq]
  simp only [f106_u, f146_is, Option.bind_some]
  have step : ∀ (i : Nat) (r : List Int) (m : Nat) (xs : List Int), xs.length = 5 → r.length < 100 → i < 5 → (0 ≤ rdI xs i ∧ rdI xs i ≤ 281474976710655) → f106_l3 k (m + 1) (e, g, s, has, v, ()) 5 i r xs = f106_l3 k m (e, g, s, has, v, ()) 5 ((i + 1 : Nat) : Int) (r ++ varB (rdI xs i).toNat) xs := by
    intro i r m xs hx hr hi hn
    rw [f106_l3_succ]
    simp only [f106_u3, Bool.cond_eq_ite, decide_eq_true_eq, Int.toNat_natCast, f147_is (k := k) (by omega) (xs := r) (x := rdI xs i) (by omega), if_pos hn, Option.bind_some]
    rw [if_pos (by omega), if_pos (by omega), if_pos (by omega), w64 (by omega) (by omega), show (i : Int) + 1 = ((i + 1 : Nat) : Int) by omega]
  have hb : (bitN has : Nat) ≤ 1 := by unfold bitN; split <;> omega
  have len : ∀ n : Nat, n ≤ 281474976710655 → (varB n).length ≤ 7 := fun n h => varB_len7 h
  have l1 := len e.toNat (by omega)
  have l2 := len g.toNat (by omega)
  have l3 := len s.toNat (by omega)
  have l4 := len (bitN has) (by omega)
  obtain ⟨m, rfl, _⟩ := succ_of (d := 10) (k := k) (by omega)
  obtain ⟨m, rfl, _⟩ := succ_of (d := 9) (k := m) (by omega)
  obtain ⟨m, rfl, _⟩ := succ_of (d := 8) (k := m) (by omega)
  obtain ⟨m, rfl, _⟩ := succ_of (d := 7) (k := m) (by omega)
  obtain ⟨m, rfl, _⟩ := succ_of (d := 6) (k := m) (by omega)
  obtain ⟨m, rfl, _⟩ := succ_of (d := 5) (k := m) (by omega)
  generalize hK : m + 1 + 1 + 1 + 1 + 1 + 1 = K at step hk
  have hK' : m + 1 + 1 + 1 + 1 + 1 + 1 = K := hK
  generalize hX : ([e, g, s, (bitN has : Int), v] : List Int) = xs at *
  have x0 : rdI xs 0 = e := by subst hX; rfl
  have x1 : rdI xs 1 = g := by subst hX; rfl
  have x2 : rdI xs 2 = s := by subst hX; rfl
  have x3 : rdI xs 3 = (bitN has : Int) := by subst hX; rfl
  have x4 : rdI xs 4 = v := by subst hX; rfl
  have hxl : xs.length = 5 := by subst hX; rfl
  show f106_l3 K K (e, g, s, has, v, ()) (xs.length : Int) 0 [] xs = _
  rw [hxl]
  conv => lhs; arg 2; rw [← hK']
  rw [show ((5 : Nat) : Int) = 5 from rfl, show (0 : Int) = ((0 : Nat) : Int) from rfl]
  rw [step 0 [] _ xs hxl (by simp) (by omega) (by rw [x0]; omega), x0]
  rw [step 1 _ _ xs hxl (by simp; omega) (by omega) (by rw [x1]; omega), x1]
  rw [step 2 _ _ xs hxl (by simp; omega) (by omega) (by rw [x2]; omega), x2]
  rw [step 3 _ _ xs hxl (by simp; omega) (by omega) (by rw [x3]; omega), x3]
  rw [step 4 _ _ xs hxl (by simp; omega) (by omega) (by rw [x4]; omega), x4]
  rw [f106_l3_succ]
  simp only [f106_u3, Bool.cond_eq_ite, decide_eq_true_eq]
  rw [if_neg (by omega)]
  simp [commitD]
end Go.Proofs.Ythjiokbokncpoaa.Rf
