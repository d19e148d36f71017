/- The law FnExactLogBytes as a statement on numbers and lists: LogBytes and the reference's LogBytes come to the same bytes, for all arguments. -/
import Derived.Test.YtkolndfgpplknaaFnLog
import Derived.Test.YtkolndfgpplknaaGx6
namespace Go.Proofs.Ytkolndfgpplknaa.Pure
set_option linter.unusedSimpArgs false
open Go.RowKit Go.Proofs.Ytkolndfgpplknaa.Open Go.Proofs.Ytkolndfgpplknaa.Plain Go.Proofs.Ytkolndfgpplknaa.G Go.Proofs.Ytkolndfgpplknaa.Fn Go.Proofs.YtkolndfgpplknaaW.PrintWords Go.Proofs.YtkolndfgpplknaaW.PrintLast Go.Proofs.YtkolndfgpplknaaW.PrintMore
theorem FnExactLogBytes : laws_FnExactLogBytes.Pure := by
  intro l hwl
  have hml := hwl.1
  by_cases hl : (l.length : Int) ≤ 1048576
  · refine ⟨200000003, ?_⟩
    have hcl : (l.map cC).length ≤ 1048576 := by rw [List.length_map]; omega
    have hp := logRes_len hcl
    unfold laws_FnExactLogBytes.f
    rw [laws_szCommitS_f hml, if_pos hl]
    simp only [Option.bind_some]
    rw [if_neg (by omega), laws_toCommitS_f (by omega) (by omega)]
    simp only [Option.bind_some]
    rw [spec_LogBytes_f hcl (by omega)]
    simp only [Option.bind_some]
    rw [impl_LogBytes_f hcl (by omega)]
    simp only [Option.bind_some]
    rw [laws_eqByteS_refl (by omega) (by omega)]
    simp only [Option.bind_some, if_true, bne_self_eq_false]
    obtain ⟨k0, hk0⟩ : ∃ k0, 200000003 = k0 + 1 := ⟨200000002, rfl⟩
    rw [hk0]
    simp only [laws_FnExactLogBytes.j0]
    rw [if_neg (by simp), laws_toCommitS_f (by omega) (by omega)]
    simp only [Option.bind_some]
    rw [laws_eqCommitS_refl (by omega) (by omega)]
    simp only [Option.bind_some, if_true]
    obtain ⟨l', e⟩ := laws_markCommitS_f (k := k0) hcl (by omega)
    rw [e]
    simp only [Option.bind_some]
    rw [if_neg (by omega), laws_eqByteS_refl (by omega) (by omega)]
    simp only [Option.bind_some, if_true]
    obtain ⟨k1, hk1⟩ : ∃ k1, k0 = k1 + 1 := ⟨200000001, by omega⟩
    rw [hk1]
    simp only [laws_FnExactLogBytes.j1]
    rw [if_neg (by simp)]
    obtain ⟨m', e1, e2, e3⟩ := byteS_marked (k := k1) (l := (logRes (logGo 0 (l.map cC)) []).1) (by omega) (by omega)
    rw [e1]
    simp only [Option.bind_some]
    rw [e3 k1 (by omega)]
    simp only [Option.bind_some]
    rw [if_neg (by omega), if_pos True.intro, laws_toCommitS_f (by omega) (by omega)]
    simp only [Option.bind_some]
    rw [impl_LogBytes_f hcl (by omega)]
    simp only [Option.bind_some]
    rw [laws_eqByteS_refl (by omega) (by omega)]
    simp only [Option.bind_some, if_true, bne_self_eq_false]
    obtain ⟨k2, hk2⟩ : ∃ k2, k1 = k2 + 1 := ⟨200000000, by omega⟩
    rw [hk2]
    simp only [laws_FnExactLogBytes.j2]
    rw [if_neg (by simp), e3 k2 (by omega)]
    simp only [Option.bind_some]
    rw [if_neg (by omega), if_pos True.intro]
  · refine ⟨0, ?_⟩
    unfold laws_FnExactLogBytes.f
    rw [laws_szCommitS_f hml, if_neg hl]
    simp only [Option.bind_some]
    rw [if_pos (by omega)]
end Go.Proofs.Ytkolndfgpplknaa.Pure
