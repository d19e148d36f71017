/- Plain mathematics of the program's bytes. -/
import Derived.Test.YthjiokbokncpoaaRfOb
import Derived.Laws.BitsAllLaws
set_option linter.unusedSimpArgs false
namespace Go.Proofs.Ythjiokbokncpoaa.Rf
open Go

theorem w64 {x : Int} (h0 : -9223372036854775808 ≤ x) (h1 : x ≤ 9223372036854775807) : IntKind.wrap .i64 x = x := by
  show (if (true && decide (x % 2 ^ 64 ≥ 2 ^ 63)) = true then x % 2 ^ 64 - 2 ^ 64 else x % 2 ^ 64) = x
  by_cases h : x % 2 ^ 64 ≥ 2 ^ 63
  · rw [if_pos (by simp; omega)]; omega
  · rw [if_neg (by simp; omega)]; omega
theorem w8 {x : Int} (h0 : 0 ≤ x) (h1 : x < 256) : IntKind.wrap .u8 x = x := by
  simp only [IntKind.wrap, IntKind.bits, IntKind.signed, Bool.true_and, Bool.false_and, decide_eq_true_eq, Bool.false_eq_true, if_false]
  (try split) <;> omega
theorem w32 {x : Int} (h0 : 0 ≤ x) (h1 : x < 4294967296) : IntKind.wrap .u32 x = x := by
  simp only [IntKind.wrap, IntKind.bits, IntKind.signed, Bool.true_and, Bool.false_and, decide_eq_true_eq, Bool.false_eq_true, if_false]
  (try split) <;> omega
theorem wrap8 (x : Int) : IntKind.wrap .u8 x = x % 256 := by
  simp only [IntKind.wrap, IntKind.bits, IntKind.signed, Bool.false_and, Bool.false_eq_true, if_false]
  omega
theorem tdiv_nn {x : Int} (h : 0 ≤ x) (y : Int) : Int.tdiv x y = x / y := Int.tdiv_eq_ediv_of_nonneg h
theorem tmod_nn {x : Int} (h : 0 ≤ x) (y : Int) : Int.tmod x y = x % y := Int.tmod_eq_emod_of_nonneg h

/-- All of it are bytes. -/
def Bytes (l : List Int) : Prop := ∀ x ∈ l, 0 ≤ x ∧ x < 256
theorem Bytes.nil : Bytes [] := fun _ h => by simp at h
theorem Bytes.append {a b : List Int} (ha : Bytes a) (hb : Bytes b) : Bytes (a ++ b) := fun x hx => by
  rcases List.mem_append.1 hx with h | h
  · exact ha x h
  · exact hb x h
theorem Bytes.left {a b : List Int} (h : Bytes (a ++ b)) : Bytes a := fun x hx => h x (List.mem_append_left _ hx)
theorem Bytes.right {a b : List Int} (h : Bytes (a ++ b)) : Bytes b := fun x hx => h x (List.mem_append_right _ hx)
theorem Bytes.cons {x : Int} {l : List Int} (h0 : 0 ≤ x) (h1 : x < 256) (h : Bytes l) : Bytes (x :: l) := fun y hy => by
  rcases List.mem_cons.1 hy with rfl | hy
  · exact ⟨h0, h1⟩
  · exact h y hy
theorem Bytes.rd {l : List Int} (h : Bytes l) (i : Nat) : 0 ≤ rdI l i ∧ rdI l i < 256 := by
  show 0 ≤ l.getD i (0 : Int) ∧ l.getD i (0 : Int) < 256
  rw [List.getD_eq_getElem?_getD]
  cases hi : l[i]? with
  | none => simp
  | some x => exact h x (List.mem_of_getElem? hi)
theorem Bytes.of_wf {l : List Int} (h : wfD (.sl (.int .u8)) l) : Bytes l := fun x hx => by
  have : (Lit.int .u8 x).wf = true := h.2 x hx
  simp only [Lit.wf, IntKind.min, IntKind.max, IntKind.signed, IntKind.bits, Bool.and_eq_true, decide_eq_true_eq] at this
  simp at this
  omega
theorem Bytes.take {l : List Int} (h : Bytes l) (n : Nat) : Bytes (l.take n) := fun x hx => h x (List.mem_of_mem_take hx)
theorem Bytes.drop {l : List Int} (h : Bytes l) (n : Nat) : Bytes (l.drop n) := fun x hx => h x (List.mem_of_mem_drop hx)
theorem rdI_drop {l : List Int} {i : Nat} (h1 : i < l.length) : l.drop i = rdI l i :: l.drop (i + 1) := by
  rw [List.drop_eq_getElem_cons h1]
  show _ = l.getD i (0 : Int) :: _
  rw [List.getD_eq_getElem?_getD, List.getElem?_eq_getElem h1]
  rfl

/-! ### numbers in groups of seven bits -/
def varB (n : Nat) : List Int := if n < 128 then [(n : Int)] else ((n % 128 + 128 : Nat) : Int) :: varB (n / 128)
termination_by n
decreasing_by omega
theorem varB_small {n : Nat} (h : n < 128) : varB n = [(n : Int)] := by rw [varB, if_pos h]
theorem varB_big {n : Nat} (h : ¬ n < 128) : varB n = ((n % 128 + 128 : Nat) : Int) :: varB (n / 128) := by rw [varB, if_neg h]
theorem varB_bytes (n : Nat) : Bytes (varB n) := by
  induction n using Nat.strongRecOn with
  | _ n ih =>
    by_cases h : n < 128
    · rw [varB_small h]; exact Bytes.cons (by omega) (by omega) Bytes.nil
    · rw [varB_big h]; exact Bytes.cons (by omega) (by omega) (ih _ (by omega))
theorem varB_length (j : Nat) : ∀ n, n < 128 ^ (j + 1) → (varB n).length ≤ j + 1 := by
  induction j with
  | zero => intro n h; rw [varB_small (by simpa using h)]; simp
  | succ j ih =>
    intro n h
    by_cases h1 : n < 128
    · rw [varB_small h1]; simp
    · rw [varB_big h1, List.length_cons]
      have : n / 128 < 128 ^ (j + 1) := by
        rw [Nat.div_lt_iff_lt_mul (by omega)]
        rw [Nat.pow_succ] at h
        exact h
      have := ih _ this
      omega
theorem varB_len7 {n : Nat} (h : n ≤ 281474976710655) : (varB n).length ≤ 7 := varB_length 6 n (by omega)
theorem varB_pos (n : Nat) : 0 < (varB n).length := by rw [varB]; split <;> simp

/-! ### numbers in six bytes -/
def fixB (n : Nat) : List Int := [((n / 1099511627776 % 256 : Nat) : Int), ((n / 4294967296 % 256 : Nat) : Int), ((n / 16777216 % 256 : Nat) : Int), ((n / 65536 % 256 : Nat) : Int), ((n / 256 % 256 : Nat) : Int), ((n % 256 : Nat) : Int)]
theorem fixB_length (n : Nat) : (fixB n).length = 6 := rfl
theorem fixB_bytes (n : Nat) : Bytes (fixB n) := by
  unfold fixB
  repeat (refine Bytes.cons (by omega) (by omega) ?_)
  exact Bytes.nil

/-! ### the check sum -/
def crcBit (r : Nat) : Nat := if r % 2 = 1 then (r / 2) ^^^ 3988292384 else r / 2
def crcBits : Nat → Nat → Nat
  | 0, r => r
  | n + 1, r => crcBits n (crcBit r)
def crcByte (r : Nat) (x : Int) : Nat := crcBits 8 (r ^^^ x.toNat)
def crcR (l : List Int) : Nat := l.foldl crcByte 4294967295
def crc (l : List Int) : Nat := crcR l ^^^ 4294967295
theorem crcBit_lt {r : Nat} (h : r < 4294967296) : crcBit r < 4294967296 := by
  unfold crcBit
  split
  · exact Nat.xor_lt_two_pow (n := 32) (by omega) (by omega)
  · omega
theorem crcBits_lt (n : Nat) : ∀ {r : Nat}, r < 4294967296 → crcBits n r < 4294967296 := by
  induction n with
  | zero => intro r h; exact h
  | succ n ih => intro r h; exact ih (crcBit_lt h)
theorem crcByte_lt {r : Nat} {x : Int} (h : r < 4294967296) (h1 : x < 256) : crcByte r x < 4294967296 :=
  crcBits_lt 8 (Nat.xor_lt_two_pow (n := 32) h (by omega))
theorem crcFold_lt (l : List Int) (hl : Bytes l) : ∀ {r : Nat}, r < 4294967296 → l.foldl crcByte r < 4294967296 := by
  induction l with
  | nil => intro r h; exact h
  | cons x l ih =>
    intro r h
    exact ih (fun y hy => hl y (List.mem_cons_of_mem _ hy)) (crcByte_lt h (hl x List.mem_cons_self).2)
theorem crcR_lt {l : List Int} (hl : Bytes l) : crcR l < 4294967296 := crcFold_lt l hl (by omega)
theorem crc_lt {l : List Int} (hl : Bytes l) : crc l < 4294967296 := Nat.xor_lt_two_pow (n := 32) (crcR_lt hl) (by omega)

theorem bit_xor (k : IntKind) (a b : Int) : bitOp .xor k a b = Go.bits .xor k a b := rfl
theorem bit_and (k : IntKind) (a b : Int) : bitOp .and k a b = Go.bits .and k a b := rfl
theorem bit_or (k : IntKind) (a b : Int) : bitOp .or k a b = Go.bits .or k a b := rfl
theorem xor32 {a b : Int} (h1 : 0 ≤ a) (h2 : a < 4294967296) (h3 : 0 ≤ b) (h4 : b < 4294967296) : bitOp .xor .u32 a b = ((a.toNat ^^^ b.toNat : Nat) : Int) := u32_xor a b h1 h2 h3 h4
theorem xor64 {a b : Int} (h1 : 0 ≤ a) (h2 : a < 4294967296) (h3 : 0 ≤ b) (h4 : b < 4294967296) : bitOp .xor .i64 a b = ((a.toNat ^^^ b.toNat : Nat) : Int) := by
  obtain ⟨A, rfl⟩ := Int.eq_ofNat_of_zero_le h1
  obtain ⟨B, rfl⟩ := Int.eq_ofNat_of_zero_le h3
  have hx : A ^^^ B < 2 ^ 32 := Nat.xor_lt_two_pow (by omega) (by omega)
  unfold bitOp
  have e1 : BitVec.ofInt IntKind.i64.bits (A : Int) = BitVec.ofNat 64 A := BitVec.ofInt_natCast ..
  have e2 : BitVec.ofInt IntKind.i64.bits (B : Int) = BitVec.ofNat 64 B := BitVec.ofInt_natCast ..
  simp only [e1, e2]
  have e3 : (BitVec.ofNat 64 A ^^^ BitVec.ofNat 64 B).toNat = A ^^^ B := by
    rw [BitVec.toNat_xor, BitVec.toNat_ofNat, BitVec.toNat_ofNat, Nat.mod_eq_of_lt (by omega), Nat.mod_eq_of_lt (by omega)]
  show IntKind.i64.wrap (((BitVec.ofNat 64 A ^^^ BitVec.ofNat 64 B).toNat : Nat) : Int) = _
  rw [e3]
  have : IntKind.i64.wrap ((A ^^^ B : Nat) : Int) = ((A ^^^ B : Nat) : Int) := by
    exact w64 (by omega) (by omega)
  rw [this]
  simp
theorem and32_one {a : Int} (h1 : 0 ≤ a) (h2 : a < 4294967296) : bitOp .and .u32 a 1 = a % 2 := by
  rw [bit_and]
  rw [u32_and a 1 h1 h2 (by omega) (by omega)]
  have : a.toNat &&& (1 : Int).toNat = a.toNat % 2 := nat_mask1 a.toNat
  rw [this]
  omega

/-! ### frames -/
def frameB (kind : Int) (d : List Int) : List Int :=
  let h := [71, kind] ++ fixB d.length
  h ++ fixB (crc h) ++ fixB (crc d) ++ d
theorem frameB_length (kind : Int) (d : List Int) : (frameB kind d).length = 20 + d.length := by
  simp [frameB, fixB_length]
  omega
theorem head_bytes {kind : Int} (h0 : 0 ≤ kind) (h1 : kind < 256) (d : List Int) : Bytes ([71, kind] ++ fixB d.length) :=
  Bytes.append (Bytes.cons (by omega) (by omega) (Bytes.cons h0 h1 Bytes.nil)) (fixB_bytes _)
theorem frameB_bytes {kind : Int} (h0 : 0 ≤ kind) (h1 : kind < 256) {d : List Int} (hd : Bytes d) : Bytes (frameB kind d) :=
  (((head_bytes h0 h1 d).append (fixB_bytes _)).append (fixB_bytes _)).append hd

theorem succ_of {d k : Nat} (h : d < k) : ∃ m, k = m + 1 ∧ d ≤ m := ⟨k - 1, by omega, by omega⟩
end Go.Proofs.Ythjiokbokncpoaa.Rf
