/- The law FnExactStatsText in plain Lean. -/
import Derived.Test.YtkolndfgpplknaaDoorGx1
import Derived.Test.YtkolndfgpplknaaDoorGx2
import Derived.Test.YtkolndfgpplknaaDoorFnText
namespace Go.Proofs.YtkolndfgpplknaaDoor.Pure
open Go.RowKit Go.Proofs.YtkolndfgpplknaaDoor.G Go.Proofs.YtkolndfgpplknaaDoorW.PrintWords Go.Proofs.YtkolndfgpplknaaDoorW.PrintLast Go.Proofs.YtkolndfgpplknaaDoorW.PrintMore
open Txt
theorem stats_spec (a b c : Int) (ha : isNum a = true) (hb : isNum b = true) (hc : isNum c = true) (k : Nat) (hk : 40 < k) :
    spec_l04Line.f k [a, b, c] = some (numB a ++ (⟨#[32]⟩ : ByteArray) ++ numB b ++ (⟨#[32]⟩ : ByteArray) ++ numB c) := by
  obtain ⟨k, rfl⟩ := succ_of (show 0 < k by omega)
  obtain ⟨k, rfl⟩ := succ_of (show 0 < k by omega)
  obtain ⟨k, rfl⟩ := succ_of (show 0 < k by omega)
  obtain ⟨k, rfl⟩ := succ_of (show 0 < k by omega)
  have sa := sizeB a ha; have sb := sizeB b hb; have sc := sizeB c hc
  have e : (⟨#[]⟩ : ByteArray) ++ numB a = numB a := nil_append _
  have e0 : (⟨#[]⟩ : ByteArray).size = 0 := rfl
  have z1 : (numB a ++ (⟨#[32]⟩ : ByteArray)).size = (numB a).size + 1 := by rw [ByteArray.size_append, sp_size]
  have z2 : (numB a ++ (⟨#[32]⟩ : ByteArray) ++ numB b).size = (numB a).size + 1 + (numB b).size := by rw [ByteArray.size_append, z1]
  unfold spec_l04Line.f
  rw [spec_l04Line.l0, if_pos (by simp), if_pos (by omega), if_pos (by simp), if_neg (by omega),
    show rd [a, b, c] 0 = a from rfl, specText a ha _ (by omega), Option.bind_some, if_pos (by omega), e, show wrap64 (0 + 1) = 1 from (by rw [w64 (by omega) (by omega)]; rfl)]
  rw [spec_l04Line.l0, if_pos (by simp), if_pos (by omega), if_pos (by simp), if_pos (by omega), if_pos (by omega),
    show rd [a, b, c] 1 = b from rfl, specText b hb _ (by omega), Option.bind_some, if_pos (by omega), show wrap64 (1 + 1) = 2 from (by rw [w64 (by omega) (by omega)]; rfl)]
  rw [spec_l04Line.l0, if_pos (by simp), if_pos (by omega), if_pos (by simp), if_pos (by omega), if_pos (by omega),
    show rd [a, b, c] 2 = c from rfl, specText c hc _ (by omega), Option.bind_some, if_pos (by omega), show wrap64 (2 + 1) = 3 from (by rw [w64 (by omega) (by omega)]; rfl)]
  rw [spec_l04Line.l0, if_neg (by simp)]
theorem stats_impl (a b c : Int) (ha : isNum a = true) (hb : isNum b = true) (hc : isNum c = true) (k : Nat) (hk : 40 < k) :
    impl_words.f k [a, b, c] = some (numB a ++ (⟨#[32]⟩ : ByteArray) ++ numB b ++ (⟨#[32]⟩ : ByteArray) ++ numB c) := by
  obtain ⟨k, rfl⟩ := succ_of (show 0 < k by omega)
  obtain ⟨k, rfl⟩ := succ_of (show 0 < k by omega)
  obtain ⟨k, rfl⟩ := succ_of (show 0 < k by omega)
  obtain ⟨k, rfl⟩ := succ_of (show 0 < k by omega)
  have sa := sizeB a ha; have sb := sizeB b hb; have sc := sizeB c hc
  have hj : joinL [numB a, numB b, numB c] (⟨#[32]⟩ : ByteArray) = (numB a ++ (⟨#[32]⟩ : ByteArray) ++ numB b ++ (⟨#[32]⟩ : ByteArray) ++ numB c).data.toList := by
    unfold joinL
    rw [List.map_cons, List.map_cons, List.map_cons, List.map_nil, Lib.join_cons]
    simp only [bytes_append, Lib.joinTail, List.map_cons, List.map_nil, List.flatten_cons, List.flatten_nil, List.append_nil, List.append_assoc]
  unfold impl_words.f
  rw [impl_words.l0, if_pos (by simp), if_pos (by omega), if_pos (by simp),
    show rd [a, b, c] 0 = a from rfl, implText a ha, Option.bind_some, if_pos (by simp), show wrap64 (0 + 1) = 1 from (by rw [w64 (by omega) (by omega)]; rfl)]
  rw [impl_words.l0, if_pos (by simp), if_pos (by omega), if_pos (by simp),
    show rd [a, b, c] 1 = b from rfl, implText b hb, Option.bind_some, if_pos (by simp), show wrap64 (1 + 1) = 2 from (by rw [w64 (by omega) (by omega)]; rfl)]
  rw [impl_words.l0, if_pos (by simp), if_pos (by omega), if_pos (by simp),
    show rd [a, b, c] 2 = c from rfl, implText c hc, Option.bind_some, if_pos (by simp), show wrap64 (2 + 1) = 3 from (by rw [w64 (by omega) (by omega)]; rfl)]
  rw [impl_words.l0, if_neg (by simp)]
  have hl : (joinL [numB a, numB b, numB c] (⟨#[32]⟩ : ByteArray)).length ≤ 140737488355328 := by
    rw [hj, Array.length_toList]
    show (numB a ++ (⟨#[32]⟩ : ByteArray) ++ numB b ++ (⟨#[32]⟩ : ByteArray) ++ numB c).size ≤ _
    rw [ByteArray.size_append, ByteArray.size_append, ByteArray.size_append, ByteArray.size_append, sp_size]; omega
  unfold strings_Join.f
  rw [show ([] ++ [numB a] ++ [numB b] ++ [numB c]) = [numB a, numB b, numB c] from rfl, if_pos ⟨by simp, hl⟩, hj]; rfl
theorem FnExactStatsText : laws_FnExactStatsText.Pure := by
  intro a b c _ _ _
  refine ⟨41, ?_⟩
  have h : ∃ r, spec_StatsText.f 41 a b c = some r ∧ impl_StatsText.f 41 a b c = some r := by
    unfold spec_StatsText.f impl_StatsText.f
    rw [specNum, specNum, specNum, implNum, implNum, implNum]
    cases ha : isNum a with
    | false => exact ⟨_, rfl, rfl⟩
    | true =>
      cases hb : isNum b with
      | false => exact ⟨_, rfl, rfl⟩
      | true =>
        cases hc : isNum c with
        | false => exact ⟨_, rfl, rfl⟩
        | true =>
          rw [stats_spec a b c ha hb hc 41 (by omega), stats_impl a b c ha hb hc 41 (by omega)]
          exact ⟨_, rfl, rfl⟩
  obtain ⟨r, h1, h2⟩ := h
  unfold laws_FnExactStatsText.f laws_toStats.f
  rw [Option.bind_some, h1, Option.bind_some, Option.bind_some, h2, Option.bind_some, if_pos rfl]
end Go.Proofs.YtkolndfgpplknaaDoor.Pure
