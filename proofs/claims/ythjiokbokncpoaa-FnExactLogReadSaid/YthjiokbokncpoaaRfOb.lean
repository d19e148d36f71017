/- Arguments of a law, and its answer. -/
import Derived.Test.YthjiokbokncpoaaRfOa
import Derived.Below
namespace Go.Proofs.Ythjiokbokncpoaa.Rf
open Go Go.WideShapes Go.RowKit

section
variable {H : Type} {enc : TypeId × Value → H} {P : Program} {w : World} {base : Nat} {spare : Nat → Bool} {held : Bool}

theorem arg_imm {base2 : Nat} {t : TypeId} {ty : Ty} {v : Value} {r : Reach} {d : DataW H} {p : List MemPlace} (hr : Rep P t ty) (hok : okB ty = true) (hv : Value.okWide P w r base2 t v) (hx : DataW.Trod enc P w base spare held t v d p) :
    ∃ y, ShapeOk ty v ∧ Rd w (Lives w) ty v.cells.toList y ∧ wfD ty y := by
  obtain ⟨fuel, hf⟩ := hx
  cases hs : isStr ty with
  | true =>
    obtain ⟨fs, hu, _⟩ := hr.und_str' hs
    unfold Value.okWide at hv
    rw [hu] at hv
    obtain ⟨cs, rfl, hsz, ts, hts, hn, hc⟩ := hv
    obtain ⟨y, h1, h2⟩ := (open_ty (enc := enc) (base := base) (spare := spare) (held := held) ty).1 hr hok hf (fun _ a len cap hm => by
      obtain ⟨i, hi, e⟩ := List.mem_iff_getElem.1 hm
      obtain ⟨u, _, hu⟩ := hc i _ (by rw [Array.getElem?_eq_getElem (by simpa [Value.cells] using hi)])
      refine hdr_cell hu a len cap ?_
      rw [← e]; exact List.mem_singleton.2 rfl)
    exact ⟨y, by simp [ShapeOk, hs], h1, h2⟩
  | false =>
    have key : v.cells = #[v] ∧ HdrOk w [v] := by
      cases ty with
      | int k =>
        obtain ⟨n, rfl⟩ := okWide_int hr.und_int hv
        exact ⟨rfl, fun a len cap hm => by simp at hm⟩
      | bool =>
        have hu := hr.und_bool
        simp only [Value.okWide, hu, Cell.okWide] at hv
        cases v <;> simp_all [Cell.ok]
        exact ⟨rfl, fun a len cap hm => by simp at hm⟩
      | str =>
        obtain ⟨s, rfl⟩ := okWide_string hr.und_str hv
        exact ⟨rfl, fun a len cap hm => by simp at hm⟩
      | sl e =>
        obtain ⟨et, hu, _⟩ := hr.und_sl
        obtain ⟨a, len, cap, rfl⟩ := okWide_slice hu hv
        refine ⟨rfl, ?_⟩
        unfold Value.okWide at hv
        rw [hu] at hv
        exact hdr_cell hv
      | own e => cases hok
      | unit => cases hs
      | pair a b => cases hs
    obtain ⟨hc, hh⟩ := key
    have hcs : v.cells.toList = [v] := by rw [hc]
    obtain ⟨y, h1, h2⟩ := (open_ty (enc := enc) (base := base) (spare := spare) (held := held) ty).1 hr hok hf (fun _ => by rw [hcs]; exact hh)
    exact ⟨y, by simp [ShapeOk, hs, hc], h1, h2⟩

/-- a law's call: it answers as its meaning says, and changes nothing that was there -/
theorem law_calls {id : FuncId} {ps : List PM} {sem : den (inTy ps) → Option (den (resTy [.val .bool]) × den (mutTy ps))} (hs : FSound P ⟨id, ps, [.val .bool], sem⟩) {x : den (inTy ps)} {m : den (mutTy ps)} (hsem : sem x = some ((true, ()), m))
    {w : World} {vs : Array Value} (hargs : ArgsOk w (Lives w) ps vs.toList x []) : Calls P id vs w fun e w' => e = .returned (.bool true) ∧ Below w.heap.size w w' := by
  refine (hs.2 x _ hsem w (Lives w) vs [] hargs List.nodup_nil (fun b hb => ⟨hb, by simp⟩) (fun b hb => by simp at hb)).mono ?_
  intro e w' ⟨fr, us, Or, Om, he, hres, _⟩
  obtain ⟨v, vs', O1, O2, rfl, rfl, ⟨hsh, hv, _⟩, rfl, _⟩ := hres
  have hsh : v.cells = #[v] := hsh
  have hv : v.cells.toList = [.bool true] := hv
  rw [hsh] at hv
  obtain rfl : v = .bool true := by simpa using hv
  exact ⟨he, fr.os, fr.tape, fr.output, fr.size, fun b hb => fr.block b hb (by simp)⟩
end
abbrev rdI (l : List Int) (i : Nat) : Int := rdN (e := .int .i64) l i
abbrev rdB (l : List Bool) (i : Nat) : Bool := rdN (e := .bool) l i
abbrev rdS (l : List ByteArray) (i : Nat) : ByteArray := rdN (e := .str) l i
end Go.Proofs.Ythjiokbokncpoaa.Rf
