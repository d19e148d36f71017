/- The row of the law FnExactLogBytes: for every input that its types allow the Go function returns true, and each argument reads afterwards as it read before; under no condition but the given row's own. -/
import Derived.Test.YtkolndfgpplknaaRows
import Derived.Test.YtkolndfgpplknaaGx6
import Derived.Test.YtkolndfgpplknaaPureFnExactLogBytes
import Derived.Test.YtkolndfgpplknaaOpens
import Derived.WalkKit
import Derived.ProofKit
import Derived.OpenShut
import Derived.ShutString
import Derived.ChangeOld
import Derived.Below
import Derived.SizedLaws
namespace Go.Proofs.Ytkolndfgpplknaa.fnExactLogBytes
open Go.ChangeShapes Go.WideShapes Go.ChangeAt Go.RowKit Go.Proofs.Ytkolndfgpplknaa.Open Go.Proofs.Ytkolndfgpplknaa.G Go.Proofs.YtkolndfgpplknaaW.PrintWords
open Go.ChangeMaps (open_string shut_string)
set_option linter.unusedVariables false
theorem own : ownKnob Try.prog.godebug = none := by kernel_rfl
theorem laidOut : laidOutB Try.prog = true := by kernel_rfl
theorem op23 : Opens Try.prog 23 k23 wf23 := opens_iso (fun x : S23 => (x.f0, (x.f1, (x.f2, (x.f3, x.f4))))) (fun a => ⟨a.1, a.2.1, a.2.2.1, a.2.2.2.1, a.2.2.2.2⟩) (fun _ => rfl) (fun _ h => h) (opens_struct Try.underlying23 (by kernel_rfl) (fields_cons rfl (opens_int Try.underlying3 (by kernel_rfl)) (fields_cons rfl (opens_int Try.underlying3 (by kernel_rfl)) (fields_cons rfl (opens_int Try.underlying3 (by kernel_rfl)) (fields_cons rfl (opens_bool Try.underlying4 (by kernel_rfl)) (fields_last rfl (opens_int Try.underlying3 (by kernel_rfl))) (by decide +kernel)) (by decide +kernel)) (by decide +kernel)) (by decide +kernel)))
set_option maxRecDepth 100000 in
theorem lifted (os : Os) (started : os.Started) (H : Type) (enc : TypeId × Value → H) :
    ReturnsInHanded {} Try.checked os 7 .any (Rows.fnExactLogBytesSpec.pre6 enc Try.prog Try.f7 Rows.fnExactLogBytesRow.domain false) (Rows.fnExactLogBytesSpec.post enc Try.prog Try.f7 false true false false) := by
  refine returnsInHanded_of_change_sized (C := Try.checked) own started (by kernel_rfl) Try.func7
    (ChangeSpec.witness6 (enc := enc) (C := Try.checked) false ⟨#[], #[(.slice none 0 0)], []⟩ 8 (by kernel_rfl) (by kernel_rfl) (by kernel_rfl) (by kernel_rfl)) ?_
  intro W base args ds gs before hval0 hW hcnd hsz0 _
  have hval : ∀ (j : Nat) t v, Try.f7.params[j]? = some t → args[j]? = some v → Value.okWide Try.prog W .any base t v := hval0
  have hW' := hW
  obtain ⟨p, q, hA0, hV, rfl, hfz, hnd⟩ := hW
  have hA : DataW.TrodAll enc Try.prog W 0 (fun _ => true) true Try.f7.params.toList args.toList ds p := hA0
  rw [Try.params7] at hA hval
  obtain ⟨v0, vs0, d0, ds0, p0, q0, hargs, rfl, rfl, h0, r0⟩ := trodAll_cons hA
  obtain ⟨rfl, rfl, rfl⟩ := trodAll_nil r0
  obtain rfl : args = #[v0] := by cases args; simp_all
  obtain ⟨rfl, rfl⟩ := trodVars_none hV
  obtain ⟨a0, len0, cap0, rfl⟩ := okWide_slice Try.underlying56 (hval 0 56 v0 rfl rfl)
  have k0 := h0
  have lt0 : ∀ x ∈ p0, x.block < W.heap.size := by obtain ⟨m, hm⟩ := k0; exact DataW.trod_lt m _ _ _ hm
  obtain ⟨fuel0, hf0⟩ := h0
  obtain ⟨z0, hK0, w0⟩ := (opens_slice Try.underlying56 (by kernel_rfl) op23).op hf0
  obtain ⟨A0, c0, e0, hl0, hr0⟩ := hK0
  simp only [Value.cells, List.cons.injEq, Value.slice.injEq, and_true] at e0
  obtain ⟨rfl, rfl, rfl⟩ := e0
  clear hA0 hval0 hsz0
  obtain ⟨k, hk⟩ := Pure.FnExactLogBytes z0 w0
  refine (laws_FnExactLogBytes.calls k _ _ z0 true W hr0 hl0 hk).mono ?_
  rintro e W' ⟨rfl, bel0⟩
  have bel : Below W.heap.size W W' := bel0
  exact ⟨_, rfl, _, _, _, [], _, [], hW', trodAll_mk1 (shut_bool Try.underlying4 _), (trodAll_cons_mk (Below.trod laidOut (by kernel_rfl) (of_decide_eq_true (by kernel_rfl)) k0 bel lt0) trodAll_mk0), rfl, bel.frame _, fun h => by cases h⟩
theorem over : Rows.fnExactLogBytesRow.holds Try.pinned (OpenSpec.ofChange Rows.fnExactLogBytesSpec) :=
  OpenClaim.holds_of_wide 7 Try.f7 rfl rfl rfl rfl rfl rfl rfl ⟨rfl, rfl, rfl, rfl, rfl⟩ rfl rfl rfl rfl rfl (by kernel_rfl) Try.func7 (by kernel_rfl)
    (of_decide_eq_true (by kernel_rfl)) (by unfold Func.isWrapper; first | (rw [if_pos (by decide +kernel)]; kernel_rfl) | (rw [if_neg (by decide +kernel)]; exact ⟨rfl, rfl⟩))
    (fun os started H enc _ => lifted os started H enc)
theorem proved : Rows.FnExactLogBytesSaid := over
#print axioms proved
end Go.Proofs.Ytkolndfgpplknaa.fnExactLogBytes
namespace Go.Proofs.Ytkolndfgpplknaa
/-- The row, under a short name, for the claim. -/
theorem fnExactLogBytes_holds : Rows.FnExactLogBytesSaid := fnExactLogBytes.proved
end Go.Proofs.Ytkolndfgpplknaa
