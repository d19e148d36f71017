/- Numbers in six bytes, and frames read. -/
import Derived.Test.YthjiokbokncpoaaRfPd
set_option linter.unusedSimpArgs false
set_option linter.unusedVariables false
namespace Go.Proofs.Ythjiokbokncpoaa.Rf
open Go

def fixN (l : List Int) : Nat := l.foldl (fun n x => n * 256 + x.toNat) 0
theorem fixN_snoc (l : List Int) (x : Int) : fixN (l ++ [x]) = fixN l * 256 + x.toNat := by simp [fixN, List.foldl_append]
theorem fixN_lt (l : List Int) (hb : Bytes l) : fixN l < 256 ^ l.length := by
  have key : ∀ (l : List Int) (n k : Nat), Bytes l → n < 256 ^ k → l.foldl (fun n x => n * 256 + x.toNat) n < 256 ^ (k + l.length) := by
    intro l
    induction l with
    | nil => intro n k _ h; exact h
    | cons x r ih =>
      intro n k hb h
      have hx := hb x List.mem_cons_self
      have := ih (n * 256 + x.toNat) (k + 1) (fun y hy => hb y (List.mem_cons_of_mem _ hy)) (by rw [Nat.pow_succ]; omega)
      rw [List.foldl_cons, List.length_cons, show k + (r.length + 1) = k + 1 + r.length by omega]
      exact this
  have := key l 0 0 hb (by simp)
  rwa [Nat.zero_add] at this

theorem fix_six {l : List Int} (hb : Bytes l) (hl : l.length = 6) : fixB (fixN l) = l := by
  match l, hl with
  | [a, b, c, d, e, f], _ =>
    have ha := hb a (by simp); have hb' := hb b (by simp); have hc := hb c (by simp); have hd := hb d (by simp); have he := hb e (by simp); have hf := hb f (by simp)
    have hn : fixN [a, b, c, d, e, f] = ((((a.toNat * 256 + b.toNat) * 256 + c.toNat) * 256 + d.toNat) * 256 + e.toNat) * 256 + f.toNat := by simp [fixN]
    rw [hn]
    unfold fixB
    congr 1; · omega
    congr 1; · omega
    congr 1; · omega
    congr 1; · omega
    congr 1; · omega
    congr 1; omega
theorem fixN_fixB {n : Nat} (h : n < 281474976710656) : fixN (fixB n) = n := by
  simp only [fixN, fixB, List.foldl_cons, List.foldl_nil, Int.toNat_natCast]
  omega

theorem drop_take_add (l : List Int) (a n : Nat) : (l.take (a + n)).drop a = (l.drop a).take n := by
  rw [List.drop_take]
  congr 1
  omega

abbrev FX := (Int × Bool × Unit) × Unit
def getFix (b : List Int) (at_ : Int) : FX := if at_ < 0 ∨ (b.length : Int) - 6 < at_ then ((0, false, ()), ()) else ((((fixN ((b.drop at_.toNat).take 6) : Nat) : Int), true, ()), ())

theorem f101_l5_is {k : Nat} {a0 : List Int} {a1 : Int} {b : List Int} (hb : Bytes b) {at_ : Nat} (hlen : b.length < 140737488355328) (hat : at_ + 6 ≤ b.length) (d : Nat) : ∀ (i : Nat), 6 - i = d → i ≤ 6 → ∀ m, d < m →
    f101_l5 k m a0 a1 b at_ (fixN ((b.drop at_).take i) : Nat) ((at_ + i : Nat) : Int) = some ((((fixN ((b.drop at_).take 6) : Nat) : Int), true, ()), ()) := by
  induction d with
  | zero =>
    intro i h1 h2 m hm
    obtain ⟨m, rfl, _⟩ := succ_of hm
    rw [f101_l5_succ]
    simp only [f101_u5, Bool.cond_eq_ite, decide_eq_true_eq]
    rw [w64 (by omega) (by omega), if_neg (by omega)]
    obtain rfl : i = 6 := by omega
    rfl
  | succ d ih =>
    intro i h1 h2 m hm
    obtain ⟨m, rfl, _⟩ := succ_of hm
    have hx := hb.rd (at_ + i)
    have hll : ((b.drop at_).take i).length = i := by simp; omega
    have hv := fixN_lt ((b.drop at_).take i) ((hb.drop _).take _)
    rw [hll] at hv
    have hp : 256 ^ i ≤ 256 ^ 5 := Nat.pow_le_pow_right (by omega) (by omega)
    rw [f101_l5_succ]
    simp only [f101_u5, Bool.cond_eq_ite, decide_eq_true_eq, Int.toNat_natCast]
    rw [w64 (x := (at_ : Int) + 6) (by omega) (by omega), if_pos (by omega), if_pos (by omega), if_pos (by omega), w64 (x := rdI b (at_ + i)) (by omega) (by omega), w64 (x := ((fixN ((b.drop at_).take i) : Nat) : Int) * 256) (by omega) (by omega), w64 (by omega) (by omega), w64 (by omega) (by omega)]
    have e : ((fixN ((b.drop at_).take i) : Nat) : Int) * 256 + rdI b (at_ + i) = ((fixN ((b.drop at_).take (i + 1)) : Nat) : Int) := by
      rw [take_rdI (by simp; omega), fixN_snoc, rdI_add]
      omega
    rw [e, show ((at_ + i : Nat) : Int) + 1 = ((at_ + (i + 1) : Nat) : Int) by omega]
    exact ih (i + 1) (by omega) (by omega) m (by omega)

theorem f101_is {k : Nat} (hk : 10 ≤ k) {b : List Int} (hb : Bytes b) (hlen : b.length < 140737488355328) (at_ : Int) : f101 k b at_ = some (getFix b at_) := by
  rw [f101_eq]
  simp only [f101_u, Bool.cond_eq_ite, decide_eq_true_eq, getFix]
  rw [w64 (by omega) (by omega)]
  by_cases h0 : at_ < 0
  · rw [if_pos h0, if_pos (.inl h0)]
  · rw [if_neg h0]
    by_cases h1 : at_ > (b.length : Int) - 6
    · rw [if_pos h1, if_pos (.inr h1)]
    · rw [if_neg h1, if_neg (by omega)]
      obtain ⟨a, rfl⟩ := Int.eq_ofNat_of_zero_le (by omega : 0 ≤ at_)
      have := f101_l5_is (k := k) (a0 := b) (a1 := a) hb (at_ := a) hlen (by omega) 6 0 rfl (by omega) k (by omega)
      rw [List.take_zero, Nat.add_zero] at this
      exact this

theorem or_add {n : Nat} {x : Int} (hn : n < 1099511627776) (h0 : 0 ≤ x) (h1 : x < 256) : bitOp .or .i64 (shlv .i64 n 8) x = ((n * 256 + x.toNat : Nat) : Int) := by
  have hs : shlv .i64 (n : Int) 8 = ((n * 256 : Nat) : Int) := by
    unfold shlv
    have : min (8 : Int).toNat IntKind.i64.bits = 8 := rfl
    rw [this, w64 (by omega) (by omega)]
    omega
  rw [hs]
  obtain ⟨y, rfl⟩ := Int.eq_ofNat_of_zero_le h0
  unfold bitOp
  have e1 : BitVec.ofInt IntKind.i64.bits ((n * 256 : Nat) : Int) = BitVec.ofNat 64 (n * 256) := BitVec.ofInt_natCast ..
  have e2 : BitVec.ofInt IntKind.i64.bits (y : Int) = BitVec.ofNat 64 y := BitVec.ofInt_natCast ..
  simp only [e1, e2]
  have e3 : (BitVec.ofNat 64 (n * 256) ||| BitVec.ofNat 64 y).toNat = n * 256 + y := by
    rw [BitVec.toNat_or, BitVec.toNat_ofNat, BitVec.toNat_ofNat, Nat.mod_eq_of_lt (by omega), Nat.mod_eq_of_lt (by omega)]
    have := Nat.two_pow_add_eq_or_of_lt (i := 8) (b := y) (by omega) n
    rw [Nat.mul_comm n 256]
    exact this.symm
  show IntKind.i64.wrap (((BitVec.ofNat 64 (n * 256) ||| BitVec.ofNat 64 y).toNat : Nat) : Int) = _
  rw [e3, w64 (by omega) (by omega)]
  simp

theorem f107_l5_is {k : Nat} {a0 : List Int} {a1 : Int} {s : List Int} (hb : Bytes s) (hs : s.length = 6) (d : Nat) : ∀ (i : Nat), 6 - i = d → i ≤ 6 → ∀ m, d < m →
    f107_l5 k m a0 a1 (fixN (s.take i) : Nat) s (s.length : Int) (i : Int) = some ((((fixN s : Nat) : Int), true, ()), ()) := by
  induction d with
  | zero =>
    intro i h1 h2 m hm
    obtain ⟨m, rfl, _⟩ := succ_of hm
    rw [f107_l5_succ]
    simp only [f107_u5, Bool.cond_eq_ite, decide_eq_true_eq]
    rw [if_neg (by omega), List.take_of_length_le (by omega)]
  | succ d ih =>
    intro i h1 h2 m hm
    obtain ⟨m, rfl, _⟩ := succ_of hm
    have hx := hb.rd i
    have hll : (s.take i).length = i := by simp; omega
    have hv := fixN_lt (s.take i) (hb.take _)
    rw [hll] at hv
    have hp : 256 ^ i ≤ 256 ^ 5 := Nat.pow_le_pow_right (by omega) (by omega)
    rw [f107_l5_succ]
    simp only [f107_u5, Bool.cond_eq_ite, decide_eq_true_eq, Int.toNat_natCast]
    rw [if_pos (by omega), if_pos (by omega), if_pos (by omega), w64 (x := rdI s i) (by omega) (by omega), or_add (by omega) hx.1 hx.2, w64 (by omega) (by omega), ← fixN_snoc, ← take_rdI (by omega)]
    exact ih (i + 1) (by omega) (by omega) m (by omega)

theorem f107_is {k : Nat} (hk : 10 ≤ k) {b : List Int} (hb : Bytes b) (hlen : b.length < 140737488355328) (at_ : Int) : f107 k b at_ = some (getFix b at_) := by
  rw [f107_eq]
  simp only [f107_u, Bool.cond_eq_ite, decide_eq_true_eq, getFix]
  rw [w64 (x := (b.length : Int) - 6) (by omega) (by omega)]
  by_cases h0 : at_ < 0
  · rw [if_pos h0, if_pos (.inl h0)]
  · rw [if_neg h0]
    by_cases h1 : at_ > (b.length : Int) - 6
    · rw [if_pos h1, if_pos (.inr h1)]
    · rw [if_neg h1]
      obtain ⟨a, rfl⟩ := Int.eq_ofNat_of_zero_le (by omega : 0 ≤ at_)
      rw [w64 (x := (a : Int) + 6) (by omega) (by omega), if_pos (by omega), if_pos (by omega), if_pos (by omega), if_neg (c := _ ∨ _) (by omega), show ((a : Int) + 6).toNat = a + 6 by omega, Int.toNat_natCast]
      have hs : (b.take (a + 6)).drop a = (b.drop a).take 6 := by
        rw [List.drop_take]
        congr 1
        omega
      rw [hs]
      exact f107_l5_is (k := k) (a0 := b) (a1 := a) ((hb.drop a).take 6) (by simp; omega) 6 0 rfl (by omega) k (by omega)

/-! ### frames read -/
abbrev FR := ((Int × List Int × Unit) × Int × Int × Unit) × Unit
def frErr (c : Int) : FR := (((0, [], ()), 0, c, ()), ())
def frameR (b : List Int) (at_ : Int) : FR :=
  if at_ < 0 ∨ (b.length : Int) < at_ then frErr 1
  else let l := b.drop at_.toNat
    if l.length < 14 then frErr 2
    else if rdI l 0 ≠ 71 ∨ ¬ (1 ≤ rdI l 1 ∧ rdI l 1 ≤ 3) ∨ 60000 < fixN ((l.drop 2).take 6) ∨ fixN ((l.drop 8).take 6) ≠ crc (l.take 8) then frErr 3
    else if l.length < 20 + fixN ((l.drop 2).take 6) then frErr 4
    else if fixN ((l.drop 14).take 6) ≠ crc ((l.drop 20).take (fixN ((l.drop 2).take 6))) then frErr 5
    else (((rdI l 1, (l.drop 20).take (fixN ((l.drop 2).take 6)), ()), at_ + 20 + (fixN ((l.drop 2).take 6) : Nat), 0, ()), ())

theorem getFix_in {b : List Int} {at_ : Nat} (h : at_ + 6 ≤ b.length) : getFix b at_ = ((((fixN ((b.drop at_).take 6) : Nat) : Int), true, ()), ()) := by
  unfold getFix
  rw [if_neg (by omega), Int.toNat_natCast]

theorem f108_is {k : Nat} {x : Int} : f108 k x = some ((decide (1 ≤ x ∧ x ≤ 3), ()), ()) := by
  rw [f108_eq]
  simp only [f108_u, Bool.cond_eq_ite, decide_eq_true_eq]
  by_cases h : x ≥ 1
  · rw [if_pos h]
    have : decide (x ≤ 3) = decide (1 ≤ x ∧ x ≤ 3) := by
      by_cases h2 : x ≤ 3 <;> simp [h2] <;> omega
    rw [this]
  · rw [if_neg h]
    have : false = decide (1 ≤ x ∧ x ≤ 3) := by symm; simp; omega
    rw [this]

theorem f110_is {k : Nat} {l : List Int} (h : l.length ≤ 140737488355328) : f110 k l = some ((l, ()), ()) := by
  rw [f110_eq]
  simp only [f110_u, Bool.cond_eq_ite, decide_eq_true_eq]
  rw [if_pos (by omega)]

theorem f55_is {k : Nat} {b : List Int} (hb : Bytes b) (hlen : b.length < 1000000000) (hk : 20 * b.length + 200 ≤ k) (at_ : Int) : f55 k b at_ = some (frameR b at_) := by
  rw [f55_eq]
  simp only [f55_u, Bool.cond_eq_ite, decide_eq_true_eq, frameR, Int.toNat_natCast, List.take_length]
  by_cases h0 : at_ < 0
  · rw [if_pos h0, if_pos (.inl h0)]; rfl
  · rw [if_neg h0]
    by_cases h1 : at_ > (b.length : Int)
    · rw [if_pos h1, if_pos (.inr h1)]; rfl
    · rw [if_neg h1, if_pos (by omega), if_pos (by omega), if_pos (by omega), if_neg (c := _ ∨ _) (by omega)]
      obtain ⟨a, rfl⟩ := Int.eq_ofNat_of_zero_le (by omega : 0 ≤ at_)
      rw [Int.toNat_natCast]
      have hll : (b.drop a).length = b.length - a := by simp
      have hbl := hb.drop a
      generalize hl : b.drop a = l at *
      by_cases h2 : l.length < 14
      · rw [if_pos (by omega), if_pos h2]; rfl
      · rw [if_neg (by omega), if_neg h2]
        have g2 := getFix_in (b := l) (at_ := 2) (by omega)
        have g8 := getFix_in (b := l) (at_ := 8) (by omega)
        have q2 := f107_is (k := k) (by omega) hbl (by omega) 2
        have q8 := f107_is (k := k) (by omega) hbl (by omega) 8
        rw [show (2 : Int) = ((2 : Nat) : Int) from rfl, g2] at q2
        rw [show (8 : Int) = ((8 : Nat) : Int) from rfl, g8] at q8
        have x0 := hbl.rd 0
        have x1 := hbl.rd 1
        have hn := fixN_lt ((l.drop 2).take 6) ((hbl.drop 2).take 6)
        have hnl : ((l.drop 2).take 6).length = 6 := by simp; omega
        rw [hnl] at hn
        simp only [show (2 : Int) = ((2 : Nat) : Int) from rfl, show (8 : Int) = ((8 : Nat) : Int) from rfl, q2, q8, Option.bind_some, List.drop_zero, f108_is, bne_iff_ne, Bool.not_eq_true', decide_eq_false_iff_not]
        rw [if_pos (by omega)]
        by_cases e0 : rdI l 0 ≠ 71
        · rw [if_pos e0, if_pos (.inl e0)]; rfl
        rw [if_neg e0, if_pos (by omega), w64 (x := rdI l 1) (by omega) (by omega)]
        by_cases e1 : ¬ (1 ≤ rdI l 1 ∧ rdI l 1 ≤ 3)
        · rw [if_pos e1, if_pos (.inr (.inl e1))]; rfl
        rw [if_neg e1]
        by_cases e2 : 60000 < fixN ((l.drop 2).take 6)
        · rw [if_pos (by omega), if_pos (.inr (.inr (.inl e2)))]; rfl
        rw [if_neg (by omega), if_pos (by omega), f109_is (hbl.take 8) (by simp; omega) (by simp; omega)]
        simp only [Option.bind_some]
        by_cases e3 : fixN ((l.drop 8).take 6) ≠ crc (l.take 8)
        · rw [if_pos (by omega), if_pos (.inr (.inr (.inr e3)))]; rfl
        have hno : ¬ (rdI l 0 ≠ 71 ∨ ¬ (1 ≤ rdI l 1 ∧ rdI l 1 ≤ 3) ∨ 60000 < fixN ((l.drop 2).take 6) ∨ fixN ((l.drop 8).take 6) ≠ crc (l.take 8)) := by
          rintro (h | h | h | h)
          · exact e0 h
          · exact e1 h
          · exact e2 h
          · exact e3 h
        rw [if_neg hno, if_neg (by omega)]
        clear hno e3 q2 q8 g2 g8
        generalize hN : fixN ((l.drop 2).take 6) = n at *
        rw [w64 (x := (20 : Int) + (n : Nat)) (by omega) (by omega)]
        by_cases h4 : l.length < 20 + n
        · rw [if_pos (by omega), if_pos h4]; rfl
        rw [if_neg (by omega), if_neg h4, if_pos (by omega), if_pos (by omega), if_pos (by omega)]
        have hs : (l.take ((20 : Int) + (n : Nat)).toNat).drop 20 = (l.drop 20).take n := by
          rw [show ((20 : Int) + (n : Nat)).toNat = 20 + n by omega, drop_take_add]
        have g14 := getFix_in (b := l) (at_ := 14) (by omega)
        have q14 := f107_is (k := k) (by omega) hbl (by omega) 14
        rw [show (14 : Int) = ((14 : Nat) : Int) from rfl, g14] at q14
        have hdl : ((l.drop 20).take n).length = n := by simp; omega
        have q9 := f109_is (k := k) ((hbl.drop 20).take n) (by omega) (by omega)
        have q10 := f110_is (k := k) (l := (l.drop 20).take n) (by omega)
        simp only [hs, show (14 : Int) = ((14 : Nat) : Int) from rfl, q14, Option.bind_some, q9, q10]
        by_cases e5 : fixN ((l.drop 14).take 6) ≠ crc ((l.drop 20).take n)
        · rw [if_pos (by omega), if_pos e5]; rfl
        rw [if_neg (by omega), if_neg e5, w64 (x := (a : Int) + 20) (by omega) (by omega), w64 (by omega) (by omega)]
end Go.Proofs.Ythjiokbokncpoaa.Rf
