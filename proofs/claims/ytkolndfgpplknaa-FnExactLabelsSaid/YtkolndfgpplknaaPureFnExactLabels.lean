/- The law FnExactLabels as a statement on numbers and lists: Labels and the reference's Labels come to the same list, for all arguments. -/
import Derived.Test.YtkolndfgpplknaaFnLabels
import Derived.Test.YtkolndfgpplknaaGx5
namespace Go.Proofs.Ytkolndfgpplknaa.Pure
set_option linter.unusedSimpArgs false
open Go.RowKit Go.Proofs.Ytkolndfgpplknaa.Open Go.Proofs.Ytkolndfgpplknaa.Plain Go.Proofs.Ytkolndfgpplknaa.G Go.Proofs.Ytkolndfgpplknaa.Fn Go.Proofs.YtkolndfgpplknaaW.PrintWords Go.Proofs.YtkolndfgpplknaaW.PrintLast Go.Proofs.YtkolndfgpplknaaW.PrintMore
theorem FnExactLabels : laws_FnExactLabels.Pure := by
  intro n l _ hwl
  have hml := hwl.1
  by_cases hl : (l.length : Int) ≤ 1048576
  · refine ⟨10000001, ?_⟩
    have hk : (10000001 : Nat) = 10000000 + 1 := rfl
    have hcl : (l.map cE).length ≤ 1048576 := by rw [List.length_map]; omega
    have hp := labelsOf_len n (l.map cE)
    unfold laws_FnExactLabels.f
    rw [laws_szGraph_f hml, if_pos hl]
    simp only [Option.bind_some]
    rw [if_neg (by omega), laws_toGraph_f (by omega) (by omega)]
    simp only [Option.bind_some]
    rw [spec_Labels_f hcl (by omega)]
    simp only [Option.bind_some]
    rw [impl_Labels_f hcl (by omega)]
    simp only [Option.bind_some]
    rw [laws_eqIntS_refl (by omega) (by omega)]
    simp only [Option.bind_some, if_true]
    rw [laws_eqGraph_refl (by omega) (by omega)]
    simp only [Option.bind_some, if_true]
    obtain ⟨l', e⟩ := laws_markGraph_f (k := 10000001) (n := n) hcl (by omega)
    rw [e]
    simp only [Option.bind_some]
    rw [if_neg (by omega)]
    simp only [Bool.not_true]
    rw [hk]
    simp only [laws_FnExactLabels.j0]
    rw [if_neg (by simp)]
    obtain ⟨m', e1, e2, e3⟩ := intS_marked (k := 10000000) (l := labelsOf n (l.map cE)) (by omega) (by omega)
    rw [e1]
    simp only [Option.bind_some]
    rw [e3 10000000 (by omega)]
    simp only [Option.bind_some]
    rw [if_neg (by omega), if_pos True.intro, laws_toGraph_f (by omega) (by omega)]
    simp only [Option.bind_some]
    rw [impl_Labels_f hcl (by omega)]
    simp only [Option.bind_some]
    rw [laws_eqIntS_refl (by omega) (by omega)]
    simp only [Option.bind_some, if_true]
    rw [if_neg (by omega)]
  · refine ⟨0, ?_⟩
    unfold laws_FnExactLabels.f
    rw [laws_szGraph_f hml, if_neg hl]
    simp only [Option.bind_some]
    rw [if_pos (by omega)]
end Go.Proofs.Ytkolndfgpplknaa.Pure
