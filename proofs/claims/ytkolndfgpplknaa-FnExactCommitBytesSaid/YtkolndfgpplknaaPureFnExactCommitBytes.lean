/- The law FnExactCommitBytes as a statement on numbers and lists: CommitBytes and the reference's CommitBytes come to the same bytes, for all arguments. -/
import Derived.Test.YtkolndfgpplknaaLawBytes
import Derived.Test.YtkolndfgpplknaaGx2
import Derived.Test.YtkolndfgpplknaaGx4
namespace Go.Proofs.Ytkolndfgpplknaa.Pure
set_option linter.unusedSimpArgs false
open Go.RowKit Go.Proofs.Ytkolndfgpplknaa.Open Go.Proofs.Ytkolndfgpplknaa.Plain Go.Proofs.Ytkolndfgpplknaa.G Go.Proofs.Ytkolndfgpplknaa.Fn Go.Proofs.YtkolndfgpplknaaW.PrintWords Go.Proofs.YtkolndfgpplknaaW.PrintLast Go.Proofs.YtkolndfgpplknaaW.PrintMore
theorem commitRes_len (e g s : Int) (has : Bool) (v : Int) : (if commitOk e g s has v then (commitB e g s has v, true) else ([], false)).1.length ≤ 100 := by
  split
  · rename_i h
    have := commitD_len h
    rw [commitB, frameB_length]
    omega
  · simp
theorem FnExactCommitBytes : laws_FnExactCommitBytes.Pure := by
  intro e g s has v _ _ _ _ _
  refine ⟨2000000, ?_⟩
  have hlen := commitRes_len e g s has v
  unfold laws_FnExactCommitBytes.f laws_toCommit.f
  simp only [Option.bind_some]
  rw [spec_CommitBytes_f (by omega), impl_CommitBytes_f (by omega)]
  simp only [Option.bind_some]
  rw [laws_eqByteS_refl (by omega) (by omega)]
  simp only [Option.bind_some, if_true, bne_self_eq_false]
  obtain ⟨m, hm⟩ : ∃ m, 2000000 = m + 1 := ⟨1999999, rfl⟩
  rw [hm]
  simp only [laws_FnExactCommitBytes.j0]
  obtain ⟨l', e1, e2, e3⟩ := byteS_marked (k := m) (l := (if commitOk e g s has v then (commitB e g s has v, true) else ([], false)).1) (by omega) (by omega)
  rw [if_neg (by simp), e1]
  simp only [Option.bind_some]
  rw [e3 m (by omega)]
  simp only [Option.bind_some]
  rw [if_neg (by omega), if_pos True.intro]
  unfold laws_toCommit.f
  simp only [Option.bind_some]
  rw [impl_CommitBytes_f (by omega)]
  simp only [Option.bind_some]
  rw [laws_eqByteS_refl (by omega) (by omega)]
  simp only [Option.bind_some, if_true, bne_self_eq_false]
  obtain ⟨m2, hm2⟩ : ∃ m2, m = m2 + 1 := ⟨1999998, by omega⟩
  rw [hm2]
  simp only [laws_FnExactCommitBytes.j1]
  rw [if_neg (by simp), e3 m2 (by omega)]
  simp only [Option.bind_some]
  rw [if_neg (by omega), if_pos True.intro]
end Go.Proofs.Ytkolndfgpplknaa.Pure
