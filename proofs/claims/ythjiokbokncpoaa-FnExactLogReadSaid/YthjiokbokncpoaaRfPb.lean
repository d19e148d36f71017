/- Numbers read: in groups of seven bits, in six bytes; plain. -/
import Derived.Test.YthjiokbokncpoaaRfPa
import Derived.Laws.Strings
set_option linter.unusedSimpArgs false
set_option linter.unusedVariables false
namespace Go.Proofs.Ythjiokbokncpoaa.Rf
open Go

def valD : List Int → Nat
  | [] => 0
  | x :: r => x.toNat % 128 + 128 * valD r

def wfDs : List Int → Prop
  | [] => False
  | [x] => 0 ≤ x ∧ x < 128
  | x :: y :: r => 128 ≤ x ∧ x < 256 ∧ wfDs (y :: r)

def lastNZ : List Int → Prop
  | [] => False
  | [x] => x ≠ 0
  | _ :: y :: r => lastNZ (y :: r)

theorem val_zero : ∀ {ds : List Int}, wfDs ds → valD ds = 0 → ¬ lastNZ ds
  | [x], h, hv => by
    simp only [valD] at hv
    obtain ⟨h0, h1⟩ := h
    intro hn
    exact hn (by omega)
  | x :: y :: r, h, hv => by
    have h2 : valD (y :: r) = 0 := by simp only [valD] at hv ⊢; omega
    have hn : ¬ lastNZ (y :: r) := val_zero h.2.2 h2
    exact hn

theorem val_pos_one {x : Int} (h : wfDs [x]) (hv : 0 < valD [x]) : lastNZ [x] := by
  simp only [valD] at hv
  intro e
  subst e
  simp at hv

theorem varB_val : ∀ {ds : List Int}, wfDs ds → (varB (valD ds) = ds ↔ (ds.length = 1 ∨ lastNZ ds))
  | [x], h => by
    obtain ⟨h0, h1⟩ := h
    have e : valD [x] = x.toNat := by simp only [valD]; omega
    rw [e, varB_small (by omega)]
    simp
    omega
  | x :: y :: r, h => by
    obtain ⟨h0, h1, h2⟩ := h
    have ih := varB_val h2
    have e : valD (x :: y :: r) = x.toNat % 128 + 128 * valD (y :: r) := rfl
    show _ ↔ ((x :: y :: r).length = 1 ∨ lastNZ (y :: r))
    have hl : ¬ ((x :: y :: r).length = 1) := by simp
    by_cases hz : valD (y :: r) = 0
    · have hn := val_zero h2 hz
      rw [e, hz, varB_small (by omega)]
      constructor
      · intro h; simp at h
      · rintro (h | h)
        · exact absurd h hl
        · exact absurd h hn
    · rw [e, varB_big (by omega), show (x.toNat % 128 + 128 * valD (y :: r)) % 128 = x.toNat % 128 by omega, show (x.toNat % 128 + 128 * valD (y :: r)) / 128 = valD (y :: r) by omega]
      constructor
      · intro h
        simp only [List.cons.injEq] at h
        rcases ih.1 h.2 with h3 | h3
        · right
          match r, h3 with
          | [], _ => exact val_pos_one h2 (by omega)
        · right; exact h3
      · rintro (h | h)
        · exact absurd h hl
        · rw [ih.2 (.inr h)]
          congr 1
          omega

theorem valD_snoc (ds : List Int) (x : Int) : valD (ds ++ [x]) = valD ds + 128 ^ ds.length * (x.toNat % 128) := by
  induction ds with
  | nil => simp [valD]
  | cons y r ih =>
    simp only [List.cons_append, valD, ih, List.length_cons, Nat.pow_succ, Nat.mul_add]
    have : 128 * (128 ^ r.length * (x.toNat % 128)) = 128 ^ r.length * 128 * (x.toNat % 128) := by
      rw [← Nat.mul_assoc, Nat.mul_comm 128]
    omega

theorem valD_lt (ds : List Int) : valD ds < 128 ^ ds.length := by
  induction ds with
  | nil => simp [valD]
  | cons y r ih =>
    simp only [valD, List.length_cons, Nat.pow_succ]
    omega

/-- how many bytes before the last of a number -/
def endsAt : Nat → List Int → Option Nat
  | 0, _ => none
  | _ + 1, [] => none
  | n + 1, x :: r => if x < 128 then some 0 else (endsAt n r).map (· + 1)

theorem endsAt_some : ∀ {n : Nat} {l : List Int} {e : Nat}, Bytes l → endsAt n l = some e → e < n ∧ e < l.length ∧ wfDs (l.take (e + 1)) ∧ (lastNZ (l.take (e + 1)) ↔ rdI l e ≠ 0)
  | n + 1, x :: r, e, hb, h => by
    simp only [endsAt] at h
    have hx := hb x List.mem_cons_self
    split at h
    · rename_i hlt
      obtain rfl := Option.some.inj h
      refine ⟨by omega, by simp, ⟨hx.1, hlt⟩, ?_⟩
      show x ≠ 0 ↔ x ≠ 0
      exact Iff.rfl
    · rename_i hge
      cases he : endsAt n r with
      | none => rw [he] at h; cases h
      | some e' =>
        rw [he] at h
        obtain rfl : e' + 1 = e := by simpa using h
        obtain ⟨h1, h2, h3, h4⟩ := endsAt_some (fun y hy => hb y (List.mem_cons_of_mem _ hy)) he
        match r, h2, h3, h4 with
        | y :: r, h2, h3, h4 =>
          refine ⟨by omega, by simp at h2 ⊢; omega, ⟨by omega, hx.2, h3⟩, ?_⟩
          exact h4

theorem rdI_add (b : List Int) (a j : Nat) : rdI (b.drop a) j = rdI b (a + j) := by
  show (b.drop a).getD j (0 : Int) = b.getD (a + j) (0 : Int)
  simp [List.getD_eq_getElem?_getD, List.getElem?_drop]

theorem take_rdI {l : List Int} {j : Nat} (h : j < l.length) : l.take (j + 1) = l.take j ++ [rdI l j] := by
  rw [List.take_succ_eq_append_getElem h]
  show _ = _ ++ [l.getD j (0 : Int)]
  rw [List.getD_eq_getElem?_getD, List.getElem?_eq_getElem h]
  rfl

abbrev VR := (Int × Int × Bool × Unit) × Unit
def varFail : VR := ((0, 0, false, ()), ())
def varR (at_ : Nat) (l : List Int) : Option Nat → VR
  | none => varFail
  | some e => if (rdI l e = 0 ∧ 0 < e) ∨ 281474976710655 < valD (l.take (e + 1)) then varFail else ((((valD (l.take (e + 1)) : Nat) : Int), ((at_ + e + 1 : Nat) : Int), true, ()), ())

/-- what both readers of a number make of it -/
def getVar (b : List Int) (at_ : Int) : VR := if at_ < 0 ∨ (b.length : Int) ≤ at_ then varFail else varR at_.toNat (b.drop at_.toNat) (endsAt 7 (b.drop at_.toNat))

/-! ### texts of bytes -/
theorem bytesOf_list {l : List Int} (h : Bytes l) : (bytesOf l).data.toList.map (fun x => (x.toNat : Int)) = l := by
  induction l with
  | nil => rfl
  | cons x r ih =>
    have hx := h x List.mem_cons_self
    have := ih (fun y hy => h y (List.mem_cons_of_mem _ hy))
    simp only [bytesOf, List.map_cons, List.map_map] at this ⊢
    congr 1
    · simp [UInt8.toNat_ofNat]
      omega
theorem sEq_bytes {a b : List Int} (ha : Bytes a) (hb : Bytes b) : sEq (bytesOf a) (bytesOf b) = decide (a = b) := by
  have key : sEq (bytesOf a) (bytesOf b) = true ↔ a = b := by
    unfold sEq
    rw [beq_iff_eq]
    constructor
    · intro h
      have e : ∀ s t : ByteArray, s.toList = t.toList → s = t := by
        intro s t hst
        rw [ByteArray.toList_eq, ByteArray.toList_eq] at hst
        cases s; cases t
        simp at hst
        rw [hst]
      have := e _ _ h
      rw [← bytesOf_list ha, ← bytesOf_list hb, this]
    · rintro rfl; rfl
  by_cases h : a = b
  · rw [key.2 h]; simp [h]
  · have : sEq (bytesOf a) (bytesOf b) = false := by
      cases hs : sEq (bytesOf a) (bytesOf b) with
      | false => rfl
      | true => exact absurd (key.1 hs) h
    rw [this]; simp [h]
end Go.Proofs.Ythjiokbokncpoaa.Rf
