/- The law FnExactEntryText in plain Lean. -/
import Derived.Test.YtkolndfgpplknaaDoorGx1
import Derived.Test.YtkolndfgpplknaaDoorGx2
import Derived.Test.YtkolndfgpplknaaDoorGx3
import Derived.Test.YtkolndfgpplknaaDoorGx4
import Derived.Test.YtkolndfgpplknaaDoorFnText
namespace Go.Proofs.YtkolndfgpplknaaDoor.Pure
open Go.RowKit Go.Proofs.YtkolndfgpplknaaDoor.G Go.Proofs.YtkolndfgpplknaaDoorW.PrintWords Go.Proofs.YtkolndfgpplknaaDoorW.PrintLast Go.Proofs.YtkolndfgpplknaaDoorW.PrintMore
open Txt
/-- May this byte stand in a name? -/
def okC (x : Int) : Bool := (decide (97 ≤ x) && decide (x ≤ 122)) || (decide (48 ≤ x) && decide (x ≤ 57)) || decide (x = 46)
def okFrom (s : ByteArray) (i : Nat) : Nat → Bool
  | 0 => true
  | n + 1 => okC (bt s i) && okFrom s (i + 1) n
theorem okC_ite {α : Type} (x : Int) (y n : α) : (if x < 97 then (if x < 48 then (if x = 46 then y else n) else (if x > 57 then (if x = 46 then y else n) else y)) else (if x > 122 then (if x < 48 then (if x = 46 then y else n) else (if x > 57 then (if x = 46 then y else n) else y)) else y)) = if okC x = true then y else n := by
  unfold okC
  simp only [Bool.or_eq_true, Bool.and_eq_true, decide_eq_true_eq]
  (repeat' split) <;> first | rfl | omega
theorem okC_or (x : Int) : (okC x = true) = (97 ≤ x ∧ x ≤ 122 ∨ 48 ≤ x ∧ x ≤ 57 ∨ x = 46) := by
  unfold okC; simp only [Bool.or_eq_true, Bool.and_eq_true, decide_eq_true_eq, or_assoc]
theorem nameSpec (s : ByteArray) (hs : s.size ≤ 1048576) : ∀ d i : Nat, i + d = s.size → ∀ k, d < k → spec_NameOk.l0 k s (i : Int) = some (okFrom s i d && (decide (1 ≤ s.size) && decide (s.size ≤ 12))) := by
  intro d
  induction d with
  | zero =>
    intro i hi k hk
    obtain ⟨k, rfl⟩ := succ_of hk
    rw [spec_NameOk.l0, if_neg (by omega)]
    unfold okFrom
    by_cases h : (s.size : Int) ≥ 1
    · rw [if_pos h, decide_eq_true (show 1 ≤ s.size by omega)]
      simp only [Bool.true_and]; congr 1
      by_cases h2 : s.size ≤ 12
      · rw [decide_eq_true h2, decide_eq_true (by omega)]
      · rw [decide_eq_false h2, decide_eq_false (by omega)]
    · rw [if_neg h, decide_eq_false (show ¬ 1 ≤ s.size by omega)]; rfl
  | succ d ih =>
    intro i hi k hk
    obtain ⟨k, rfl⟩ := succ_of (show 0 < k by omega)
    rw [spec_NameOk.l0, if_pos (by omega), if_pos (by omega), okC_ite, show wrap64 ((i : Int) + 1) = ((i + 1 : Nat) : Int) by rw [w64 (by omega) (by omega)]; omega, ih (i + 1) (by omega) k (by omega)]
    show _ = some ((okC (bt s i) && okFrom s (i + 1) d) && _)
    cases okC (bt s i) with
    | true => rfl
    | false => rfl
theorem nameImpl (s : ByteArray) (hs : s.size ≤ 1048576) : ∀ d i : Nat, i + d = s.size → ∀ k, d < k → impl_NameOk.l0 k s (i : Int) = some (okFrom s i d) := by
  intro d
  induction d with
  | zero =>
    intro i hi k hk
    obtain ⟨k, rfl⟩ := succ_of hk
    rw [impl_NameOk.l0, if_neg (by omega)]; rfl
  | succ d ih =>
    intro i hi k hk
    obtain ⟨k, rfl⟩ := succ_of (show 0 < k by omega)
    rw [impl_NameOk.l0, if_pos (by omega), if_pos (by omega), okC_ite, show wrap64 ((i : Int) + 1) = ((i + 1 : Nat) : Int) by rw [w64 (by omega) (by omega)]; omega, ih (i + 1) (by omega) k (by omega)]
    show _ = some (okC (bt s i) && okFrom s (i + 1) d)
    cases okC (bt s i) with
    | true => rfl
    | false => rfl
def nameOk (s : ByteArray) : Bool := okFrom s 0 s.size && (decide (1 ≤ s.size) && decide (s.size ≤ 12))
theorem spec_name (s : ByteArray) (hs : s.size ≤ 1048576) (k : Nat) (hk : s.size + 1 < k) : spec_NameOk.f k s = some (nameOk s) := nameSpec s hs s.size 0 (by omega) k (by omega)
theorem impl_name (s : ByteArray) (hs : s.size ≤ 1048576) (k : Nat) (hk : s.size + 1 < k) : impl_NameOk.f k s = some (nameOk s) := by
  obtain ⟨k, rfl⟩ := succ_of (show 0 < k by omega)
  unfold impl_NameOk.f nameOk
  by_cases h1 : (s.size : Int) < 1
  · rw [if_pos h1, impl_NameOk.j0, if_pos rfl, decide_eq_false (show ¬ 1 ≤ s.size by omega)]; simp
  · rw [if_neg h1, impl_NameOk.j0]
    by_cases h2 : (s.size : Int) > 12
    · rw [if_pos (decide_eq_true h2), decide_eq_false (show ¬ s.size ≤ 12 by omega)]; simp
    · rw [if_neg (by simpa using h2), decide_eq_true (show s.size ≤ 12 by omega), decide_eq_true (show 1 ≤ s.size by omega)]
      have := nameImpl s hs s.size 0 (by omega) k (by omega)
      rw [show ((0 : Nat) : Int) = 0 from rfl] at this
      rw [this]; simp
def words5 : List ByteArray := [(⟨#[103, 114, 97, 112, 104]⟩ : ByteArray), (⟨#[118, 97, 108, 117, 101, 115]⟩ : ByteArray), (⟨#[108, 111, 103]⟩ : ByteArray), (⟨#[98, 101, 110, 116]⟩ : ByteArray), (⟨#[111, 116, 104, 101, 114]⟩ : ByteArray)]
theorem word_size (x : Int) (h1 : 1 ≤ x) (h5 : x ≤ 5) : (rdOf ByteArray.empty words5 (x - 1)).size ≤ 6 := by
  obtain h | h | h | h | h : x = 1 ∨ x = 2 ∨ x = 3 ∨ x = 4 ∨ x = 5 := by omega
  all_goals (subst h; decide +kernel)
theorem word_at (x : Int) (h1 : 1 ≤ x) (h5 : x ≤ 5) : rdOf ByteArray.empty ((⟨#[]⟩ : ByteArray) :: words5) x = rdOf ByteArray.empty words5 (x - 1) := by
  obtain h | h | h | h | h : x = 1 ∨ x = 2 ∨ x = 3 ∨ x = 4 ∨ x = 5 := by omega
  all_goals (subst h; rfl)
def entryT (s : ByteArray) (a x b : Int) : ByteArray := s ++ (⟨#[32]⟩ : ByteArray) ++ numB a ++ (⟨#[32]⟩ : ByteArray) ++ rdOf ByteArray.empty words5 (x - 1) ++ (⟨#[32]⟩ : ByteArray) ++ numB b
theorem spec_j (s : ByteArray) (a x b : Int) (hs : s.size ≤ 12) (ha : isNum a = true) (hb : isNum b = true) (h1 : 1 ≤ x) (h5 : x ≤ 5) (k : Nat) (hk : 20 < k) :
    spec_EntryText.j0 k false s a x b = some (entryT s a x b) := by
  obtain ⟨k, rfl⟩ := succ_of (show 0 < k by omega)
  have sa := sizeB a ha; have sb := sizeB b hb; have sw := word_size x h1 h5
  rw [spec_EntryText.j0, if_neg (by simp), if_pos (by omega), specText a ha k (by omega), Option.bind_some, if_pos (by omega), if_pos (by omega), Option.bind_some,
    show wrap64 (x - 1) = x - 1 from w64 (by omega) (by omega), if_pos (by omega), if_pos (by show x - 1 < 5; omega)]
  show (if s.size + 1 + (numB a).size + 1 + (rdOf ByteArray.empty words5 (x - 1)).size ≤ 9223372036854775807 then _ else _) = _
  rw [if_pos (by omega)]
  show (if s.size + 1 + (numB a).size + 1 + (rdOf ByteArray.empty words5 (x - 1)).size + 1 ≤ 9223372036854775807 then _ else _) = _
  rw [if_pos (by omega), specText b hb k (by omega), Option.bind_some]
  show (if s.size + 1 + (numB a).size + 1 + (rdOf ByteArray.empty words5 (x - 1)).size + 1 + (numB b).size ≤ 9223372036854775807 then _ else _) = _
  rw [if_pos (by omega)]; rfl
theorem impl_j (s : ByteArray) (a x b : Int) (hs : s.size ≤ 12) (ha : isNum a = true) (hb : isNum b = true) (h1 : 1 ≤ x) (h5 : x ≤ 5) (k : Nat) (hk : 20 < k) :
    impl_EntryText.j0 k false s a x b = some (entryT s a x b) := by
  obtain ⟨k, rfl⟩ := succ_of (show 0 < k by omega)
  have sa := sizeB a ha; have sb := sizeB b hb; have sw := word_size x h1 h5
  rw [impl_EntryText.j0, if_neg (by simp), Option.bind_some, if_pos (by omega), if_pos (by show x < 6; omega), implText a ha, Option.bind_some, implText b hb, Option.bind_some]
  have ew := word_at x h1 h5
  unfold words5 at ew
  rw [ew]
  have hj : joinL [s, numB a, rdOf ByteArray.empty words5 (x - 1), numB b] (⟨#[32]⟩ : ByteArray) = (entryT s a x b).data.toList := by
    unfold joinL entryT
    rw [List.map_cons, List.map_cons, List.map_cons, List.map_cons, List.map_nil, Lib.join_cons]
    simp only [bytes_append, Lib.joinTail, List.map_cons, List.map_nil, List.flatten_cons, List.flatten_nil, List.append_nil, List.append_assoc]
  have hl : (joinL [s, numB a, rdOf ByteArray.empty words5 (x - 1), numB b] (⟨#[32]⟩ : ByteArray)).length ≤ 140737488355328 := by
    rw [hj, Array.length_toList]
    show (entryT s a x b).size ≤ _
    unfold entryT
    simp only [ByteArray.size_append, sp_size]; omega
  unfold strings_Join.f
  rw [if_pos ⟨by simp, hl⟩]
  show (some (⟨(joinL [s, numB a, rdOf ByteArray.empty words5 (x - 1), numB b] (⟨#[32]⟩ : ByteArray)).toArray⟩ : ByteArray)).bind _ = _
  rw [hj]; rfl
theorem FnExactEntryText : laws_FnExactEntryText.Pure := by
  intro s a x b ws _ wx _
  unfold laws_FnExactEntryText.f laws_szEntry.f laws_toEntry.f
  by_cases h0 : (wrap64 (1048576 - (s.size : Int))) < 0
  · exact ⟨0, by rw [if_pos h0]; rfl⟩
  · have hs : s.size ≤ 1048576 := by
      have : s.size ≤ maxLen := ws
      unfold maxLen at this
      rw [w64 (by omega) (by omega)] at h0; omega
    refine ⟨s.size + 40, ?_⟩
    have h : ∃ r, spec_EntryText.f (s.size + 40) s a x b = some r ∧ impl_EntryText.f (s.size + 40) s a x b = some r := by
      have hj : spec_EntryText.j0 (s.size + 40) true s a x b = some ⟨#[]⟩ := rfl
      have hi : impl_EntryText.j0 (s.size + 40) true s a x b = some ⟨#[]⟩ := rfl
      unfold spec_EntryText.f impl_EntryText.f
      rw [spec_name s hs _ (by omega), impl_name s hs _ (by omega), specNum, specNum, implNum, implNum, hj, hi]
      cases hn : nameOk s with
      | false => exact ⟨_, rfl, rfl⟩
      | true =>
        cases ha : isNum a with
        | false => exact ⟨_, rfl, rfl⟩
        | true =>
          cases hb : isNum b with
          | false => exact ⟨_, rfl, rfl⟩
          | true =>
            simp only [Option.bind_some, if_true]
            by_cases h1 : x < 1
            · rw [if_pos h1, if_pos h1]; exact ⟨_, rfl, rfl⟩
            · rw [if_neg h1, if_neg h1]
              by_cases h5 : x > 5
              · rw [decide_eq_true h5, hj, hi]; exact ⟨_, rfl, rfl⟩
              · have hs12 : s.size ≤ 12 := by unfold nameOk at hn; simp only [Bool.and_eq_true, decide_eq_true_eq] at hn; omega
                rw [decide_eq_false h5, spec_j s a x b hs12 ha hb (by omega) (by omega) _ (by omega), impl_j s a x b hs12 ha hb (by omega) (by omega) _ (by omega)]
                exact ⟨_, rfl, rfl⟩
    obtain ⟨r, h1, h2⟩ := h
    rw [if_neg h0, Option.bind_some, if_neg h0, Option.bind_some, h1, Option.bind_some, Option.bind_some, h2, Option.bind_some, if_pos rfl]
end Go.Proofs.YtkolndfgpplknaaDoor.Pure
