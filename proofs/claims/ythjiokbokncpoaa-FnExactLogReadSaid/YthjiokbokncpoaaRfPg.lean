/- The reference's reader of frames. -/
import Derived.Test.YthjiokbokncpoaaRfPf
set_option linter.unusedSimpArgs false
set_option linter.unusedVariables false
namespace Go.Proofs.Ythjiokbokncpoaa.Rf
open Go

theorem frame_iff {l : List Int} (hb : Bytes l) {n : Nat} (hl : 20 + n ≤ l.length) (h0 : rdI l 0 = 71) (hn : fixN ((l.drop 2).take 6) = n) (hc : fixN ((l.drop 8).take 6) = crc (l.take 8)) :
    frameB (rdI l 1) ((l.drop 20).take n) = l.take (20 + n) ↔ fixN ((l.drop 14).take 6) = crc ((l.drop 20).take n) := by
  have s1 : l.take 2 = [71, rdI l 1] := by
    rw [show (2 : Nat) = 1 + 1 from rfl, take_rdI (by omega), show (1 : Nat) = 0 + 1 from rfl, take_rdI (by omega), h0]
    rfl
  have six : ∀ j, j + 6 ≤ l.length → fixB (fixN ((l.drop j).take 6)) = (l.drop j).take 6 := fun j hj => fix_six ((hb.drop j).take 6) (by simp; omega)
  have s2 := six 2 (by omega)
  have s8 := six 8 (by omega)
  have s14 := six 14 (by omega)
  rw [hn] at s2
  have t8 : l.take 8 = [71, rdI l 1] ++ fixB n := by
    rw [show (8 : Nat) = 2 + 6 from rfl, List.take_add, s1, s2]
  have hlen : ((l.drop 20).take n).length = n := by simp; omega
  have t14 : l.take 14 = l.take 8 ++ fixB (crc (l.take 8)) := by
    rw [show (14 : Nat) = 8 + 6 from rfl, List.take_add, ← hc, s8]
  have t20 : l.take 20 = l.take 14 ++ (l.drop 14).take 6 := by
    rw [show (20 : Nat) = 14 + 6 from rfl, List.take_add]
  have tall : l.take (20 + n) = l.take 20 ++ (l.drop 20).take n := List.take_add
  unfold frameB
  rw [hlen, ← t8, tall, t20, t14]
  simp only
  constructor
  · intro h
    have h1 := List.append_inj_left h (by simp [fixB_length]; omega)
    have h2 := List.append_cancel_left h1
    rw [← h2, fixN_fixB (by have := crc_lt ((hb.drop 20).take n); omega)]
  · intro h
    rw [← h, s14]

theorem f53_is {k : Nat} {b : List Int} (hb : Bytes b) (hlen : b.length < 1000000000) (hk : 20 * b.length + 1300000 ≤ k) (at_ : Int) : f53 k b at_ = some (frameR b at_) := by
  rw [f53_eq]
  simp only [f53_u, Bool.cond_eq_ite, decide_eq_true_eq, frameR]
  by_cases h0 : at_ < 0
  · rw [if_pos h0, if_pos (.inl h0)]; rfl
  · rw [if_neg h0]
    by_cases h1 : at_ > (b.length : Int)
    · rw [if_pos h1, if_pos (.inr h1)]; rfl
    · rw [if_neg h1, if_neg (c := _ ∨ _) (by omega)]
      obtain ⟨a, rfl⟩ := Int.eq_ofNat_of_zero_le (by omega : 0 ≤ at_)
      rw [Int.toNat_natCast, w64 (x := (b.length : Int) - a) (by omega) (by omega), w64 (x := (a : Int) + 2) (by omega) (by omega), w64 (x := (a : Int) + 8) (by omega) (by omega), w64 (x := (a : Int) + 1) (by omega) (by omega), w64 (x := (a : Int) + 20) (by omega) (by omega), w64 (x := (b.length : Int) - a - 20) (by omega) (by omega)]
      have hll : (b.drop a).length = b.length - a := by simp
      have hbl := hb.drop a
      by_cases h2 : (b.drop a).length < 14
      · rw [if_pos (by omega), if_pos h2]; rfl
      · rw [if_neg (by omega), if_neg h2]
        have g2 := getFix_in (b := b) (at_ := a + 2) (by omega)
        have g8 := getFix_in (b := b) (at_ := a + 8) (by omega)
        have q2 := f101_is (k := k) (by omega) hb (by omega) ((a + 2 : Nat) : Int)
        have q8 := f101_is (k := k) (by omega) hb (by omega) ((a + 8 : Nat) : Int)
        rw [g2, ← List.drop_drop] at q2
        rw [g8, ← List.drop_drop] at q8
        have r0 : rdI b a = rdI (b.drop a) 0 := by rw [rdI_add]; rfl
        have r1 : rdI b (a + 1) = rdI (b.drop a) 1 := by rw [rdI_add]
        simp only [show (a : Int) + 2 = ((a + 2 : Nat) : Int) by omega, show (a : Int) + 8 = ((a + 8 : Nat) : Int) by omega, show ((a : Int) + 1).toNat = a + 1 by omega, q2, q8, Option.bind_some, Int.toNat_natCast, r0, r1, drop_take_add, bne_iff_ne]
        clear g2 g8 q2 q8 r0 r1
        have x0 := hbl.rd 0
        have x1 := hbl.rd 1
        have hn := fixN_lt (((b.drop a).drop 2).take 6) ((hbl.drop 2).take 6)
        have hnl : (((b.drop a).drop 2).take 6).length = 6 := by simp; omega
        rw [hnl] at hn
        have d20 : ∀ n, (b.take (a + 20 + n)).drop (a + 20) = ((b.drop a).drop 20).take n := fun n => by rw [drop_take_add, List.drop_drop]
        have d0 : ∀ n, (b.take (a + 20 + n)).drop a = (b.drop a).take (20 + n) := fun n => by rw [Nat.add_assoc, drop_take_add]
        have h1 : (b.drop a).length = b.length - a := hll
        rw [w64 (x := rdI (b.drop a) 1) (by omega) (by omega), if_pos (by omega), if_pos (by omega), if_pos (by omega), if_pos (by omega)]
        generalize b.drop a = l at *
        by_cases e0 : rdI l 0 ≠ 71
        · rw [if_pos e0, if_pos (.inl e0)]; rfl
        rw [if_neg e0]
        by_cases e1 : rdI l 1 < 1
        · rw [if_pos e1, if_pos (.inr (.inl (by omega)))]; rfl
        rw [if_neg e1]
        by_cases e1' : rdI l 1 > 3
        · rw [if_pos e1', if_pos (.inr (.inl (by omega)))]; rfl
        rw [if_neg e1']
        by_cases e2 : 60000 < fixN ((l.drop 2).take 6)
        · rw [if_pos (by omega), if_pos (.inr (.inr (.inl e2)))]; rfl
        have q9 := f102_is (k := k) (hbl.take 8) (by simp; omega) (by simp; omega)
        rw [if_neg (by omega), if_pos (by omega), if_pos (by omega), if_pos (by omega), q9]
        simp only [Option.bind_some]
        clear q9
        by_cases e3 : fixN ((l.drop 8).take 6) ≠ crc (l.take 8)
        · rw [if_pos (by omega), if_pos (.inr (.inr (.inr e3)))]; rfl
        have hno : ¬ (rdI l 0 ≠ 71 ∨ ¬ (1 ≤ rdI l 1 ∧ rdI l 1 ≤ 3) ∨ 60000 < fixN ((l.drop 2).take 6) ∨ fixN ((l.drop 8).take 6) ≠ crc (l.take 8)) := by
          rintro (h | h | h | h)
          · exact e0 h
          · exact h ⟨by omega, by omega⟩
          · exact e2 h
          · exact e3 h
        have fi := fun n hl hn => frame_iff (n := n) hbl hl (Classical.not_not.1 e0) hn (Classical.not_not.1 e3)
        rw [if_neg hno, if_neg (by omega)]
        clear hno e3
        generalize hN : fixN ((l.drop 2).take 6) = n at *
        by_cases h4 : l.length < 20 + n
        · rw [if_pos (by omega), if_pos h4]; rfl
        have fi := fi n (by omega) rfl
        rw [if_neg (by omega), if_neg h4, w64 (x := (a : Int) + 20 + (n : Nat)) (by omega) (by omega), if_pos (by omega), if_pos (by omega), if_pos (by omega), show ((a : Int) + 20).toNat = a + 20 by omega, show ((a : Int) + 20 + (n : Nat)).toNat = a + 20 + n by omega, d20, d0]
        have hdl : ((l.drop 20).take n).length = n := by simp; omega
        have q3 := f103_is (k := k) (kind := rdI l 1) (by omega) (by omega) ((hbl.drop 20).take n) (by omega) (by omega)
        have hse := sEq_bytes (frameB_bytes (kind := rdI l 1) (by omega) (by omega) ((hbl.drop 20).take n)) (hbl.take (20 + n))
        rw [List.length_nil, if_pos (by omega)]
        simp only [List.nil_append, q3, Option.bind_some, hse, Bool.not_eq_true', decide_eq_false_iff_not]
        rw [if_pos (by omega), if_pos (by omega), if_pos (by omega)]
        by_cases e5 : fixN ((l.drop 14).take 6) = crc ((l.drop 20).take n)
        · rw [if_neg (fun h => h (fi.2 e5)), if_neg (fun h => h e5)]
        · rw [if_pos (fun h => e5 (fi.1 h)), if_pos e5]; rfl
end Go.Proofs.Ythjiokbokncpoaa.Rf
