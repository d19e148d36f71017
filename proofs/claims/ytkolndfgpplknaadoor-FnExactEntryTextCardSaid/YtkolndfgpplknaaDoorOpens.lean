/- What can be read as data of a type is told by that type's kind: the slices, structs and strings that come into a law are opened by one theorem for each type; under no condition but what each theorem states. -/
import Derived.Test.YtkolndfgpplknaaDoorWWords
import Derived.Test.YtkolndfgpplknaaDoorWLast
import Derived.ChangeArms
import Derived.DataReads
import Derived.WideShapes
namespace Go.Proofs.YtkolndfgpplknaaDoor.Open
open Go.RowKit Go.Proofs.YtkolndfgpplknaaDoorW.PrintWords

/-- Whatever is read as data of type t is what the kind d says of some x, and x is well formed. -/
structure Opens {α : Type} (P : Program) (t : TypeId) (d : Kd α) (wf : α → Prop) : Prop where
  sz : P.cellsOf t = d.sz
  op : ∀ {H : Type} {enc : TypeId × Value → H} {w : World} {base fuel : Nat} {held : Bool} {spare : Nat → Bool} {cs : List Value} {x : DataW H × List MemPlace}, DataW.trod enc P w base spare held fuel t cs = some x → ∃ y, d.K w y cs ∧ wf y

def wfI (k : IntKind) (x : Int) : Prop := (Lit.int k x).wf = true
def wfS (s : ByteArray) : Prop := s.size ≤ maxLen
def wfB (_ : Bool) : Prop := True
def wfL {α : Type} (wf : α → Prop) (xs : List α) : Prop := xs.length ≤ maxLen ∧ ∀ x, x ∈ xs → wf x
def wfP {α β : Type} (f : α → Prop) (g : β → Prop) (x : α × β) : Prop := f x.1 ∧ g x.2

theorem opens_int {P : Program} {t : TypeId} {k : IntKind} (ht : P.underlying t = some (.int k)) (hc : P.cellsOf t = 1) : Opens P t (Kd.int k) (wfI k) where
  sz := hc
  op := fun h => by
    obtain ⟨n, rfl, _, hw⟩ := DataW.trod_int ht h
    exact ⟨n, rfl, hw⟩
theorem opens_bool {P : Program} {t : TypeId} (ht : P.underlying t = some .bool) (hc : P.cellsOf t = 1) : Opens P t Kd.bool wfB where
  sz := hc
  op := fun h => by
    obtain ⟨n, rfl, _⟩ := DataW.trod_bool ht h
    exact ⟨n, rfl, trivial⟩
theorem opens_string {P : Program} {t : TypeId} (ht : P.underlying t = some .string) (hc : P.cellsOf t = 1) : Opens P t Kd.string wfS where
  sz := hc
  op := fun h => by
    obtain ⟨n, rfl, _, hw⟩ := DataW.trod_string ht h
    exact ⟨n, rfl, hw⟩

/-- A choice for each place below n. -/
theorem choose_list {α : Type} (n : Nat) (p : Nat → α → Prop) (h : ∀ i, i < n → ∃ y, p i y) : ∃ ys : List α, ys.length = n ∧ ∀ i y, ys[i]? = some y → p i y := by
  induction n with
  | zero => exact ⟨[], rfl, fun i y hy => by simp at hy⟩
  | succ n ih =>
    obtain ⟨ys, hl, hp⟩ := ih (fun i hi => h i (by omega))
    obtain ⟨z, hz⟩ := h n (by omega)
    refine ⟨ys ++ [z], by simp [hl], fun i y hy => ?_⟩
    by_cases hi : i < n
    · rw [List.getElem?_append_left (by omega)] at hy
      exact hp i y hy
    · rw [List.getElem?_append_right (by omega)] at hy
      have h0 : i - ys.length = 0 := by
        have := (List.getElem?_eq_some_iff.1 hy).1
        simp at this
        omega
      rw [h0] at hy
      simp at hy
      subst hy
      obtain rfl : i = n := by omega
      exact hz

theorem opens_slice {α : Type} {P : Program} {t e : TypeId} {d : Kd α} {wf : α → Prop} (ht : P.underlying t = some (.slice e)) (hc : P.cellsOf t = 1) (he : Opens P e d wf) : Opens P t (Kd.slice e d) (wfL wf) where
  sz := hc
  op := fun {H enc w base fuel held spare cs x} h => by
    rcases DataW.trod_slice ht h with ⟨rfl, _⟩ | ⟨a, len, cap, elems, rest, n, _, rfl, _, hb, hl, hm, hlen, hel, _, _⟩
    · exact ⟨[], ⟨none, 0, rfl, Nat.le_refl _, Kd.C_nil d w⟩, by simp [wfL]⟩
    · have each : ∀ i, i < len → ∃ y, ∃ c, w.cells? base (a.add (i * P.cellsOf e)) (P.cellsOf e) = some c ∧ d.K w y c ∧ wf y := by
        intro i hi
        have h1 := hel i hi
        rw [List.getElem?_eq_getElem (by omega), Option.bind_eq_some_iff] at h1
        obtain ⟨c, hc1, hc2⟩ := h1
        obtain ⟨y, hy, hwf⟩ := he.op hc2
        exact ⟨y, c, hc1, hy, hwf⟩
      obtain ⟨ys, hyl, hys⟩ := choose_list len _ each
      refine ⟨ys, ⟨some a, cap, by rw [hyl], by omega, rfl, by simp only [maxLen] at hm; omega, fun _ => ⟨a, rfl, fun j p hp => ?_⟩⟩, by simp only [maxLen] at *; omega, fun y hy => ?_⟩
      · obtain ⟨c, hc1, hK, _⟩ := hys j p hp
        obtain ⟨_, hcl, hat⟩ := World.cells?_some hc1
        refine ⟨c, by rw [hcl, he.sz], hK, fun i u hu => ?_⟩
        have hi : i < P.cellsOf e := by rw [← hcl]; exact (List.getElem?_eq_some_iff.1 hu).1
        have h2 := hat i hi
        rw [hu] at h2
        have h3 : (a.add (j * P.cellsOf e)).add i = a.add (j * d.sz + i) := by
          rw [he.sz]
          unfold Addr.add
          repeat' split
          all_goals simp_all
          all_goals omega
        rw [← h3]
        exact h2
      · obtain ⟨i, hi⟩ := List.getElem?_of_mem hy
        obtain ⟨c, _, _, hwf⟩ := hys i y hi
        exact hwf

/-- The fields of a struct from the cell 'off' on. -/
structure OpensFields {α : Type} (P : Program) (fs : List Field) (off : Nat) (d : Kd α) (wf : α → Prop) : Prop where
  op : ∀ {H : Type} {enc : TypeId × Value → H} {w : World} {base n : Nat} {held : Bool} {spare : Nat → Bool} {cs : List Value}, cs.length = d.sz →
    (∀ f, f ∈ fs → ∃ x, DataW.trod enc P w base spare held n f.type ((cs.drop (f.offset - off)).take (P.cellsOf f.type)) = some x ∧ off ≤ f.offset) → ∃ y, d.K w y cs ∧ wf y

theorem fields_last {α : Type} {P : Program} {f : Field} {off : Nat} {d : Kd α} {wf : α → Prop} (hf : f.offset = off) (h : Opens P f.type d wf) : OpensFields P [f] off d wf where
  op := fun {H enc w base n held spare cs} hl hx => by
    obtain ⟨x, hx, _⟩ := hx f (List.mem_singleton.2 rfl)
    rw [hf, Nat.sub_self, List.drop_zero, h.sz, ← hl, List.take_length] at hx
    exact h.op hx
theorem fields_cons {α β : Type} {P : Program} {f : Field} {fs : List Field} {off : Nat} {d : Kd α} {e : Kd β} {wf : α → Prop} {wg : β → Prop} (hf : f.offset = off) (h : Opens P f.type d wf) (hs : OpensFields P fs (off + d.sz) e wg) (hge : ∀ g ∈ fs, off + d.sz ≤ g.offset) : OpensFields P (f :: fs) off (Kd.pair d e) (wfP wf wg) where
  op := fun {H enc w base n held spare cs} hl hx => by
    have hsz : cs.length = d.sz + e.sz := hl
    obtain ⟨x, h1, _⟩ := hx f (List.mem_cons_self)
    rw [hf, Nat.sub_self, List.drop_zero, h.sz] at h1
    obtain ⟨y, hy, hwy⟩ := h.op h1
    obtain ⟨z, hz, hwz⟩ := hs.op (enc := enc) (w := w) (base := base) (n := n) (held := held) (spare := spare) (cs := cs.drop d.sz) (by rw [List.length_drop, hsz]; omega) (fun g hg => by
      obtain ⟨x, hx1, hx2⟩ := hx g (List.mem_cons_of_mem _ hg)
      have hg2 := hge g hg
      refine ⟨x, ?_, hg2⟩
      rw [List.drop_drop, show d.sz + (g.offset - (off + d.sz)) = g.offset - off by omega]
      exact hx1)
    exact ⟨(y, z), ⟨cs.take d.sz, cs.drop d.sz, (List.take_append_drop _ _).symm, hy, hz⟩, hwy, hwz⟩
theorem opens_struct {α : Type} {P : Program} {t : TypeId} {fs : Array Field} {d : Kd α} {wf : α → Prop} (ht : P.underlying t = some (.struct fs)) (hc : P.cellsOf t = d.sz) (h : OpensFields P fs.toList 0 d wf) : Opens P t d wf where
  sz := hc
  op := fun {H enc w base fuel held spare cs x} hx => by
    obtain ⟨xs, n, _, _, hlen, hxl, hi⟩ := DataW.trod_struct ht hx
    refine h.op (enc := enc) (base := base) (n := n) (held := held) (spare := spare) (by rw [hlen, hc]) (fun f hf => ?_)
    obtain ⟨i, hi0⟩ := List.getElem?_of_mem hf
    have h1 := hi i f (by rw [← hi0]; simp)
    have h2 : i < xs.length := by
      rw [hxl]
      have := (List.getElem?_eq_some_iff.1 hi0).1
      simpa using this
    rw [List.getElem?_eq_getElem h2] at h1
    exact ⟨_, by rw [Nat.sub_zero]; exact h1, Nat.zero_le _⟩
theorem opens_iso {α β : Type} {P : Program} {t : TypeId} {d : Kd α} {wf : α → Prop} {wg : β → Prop} (f : β → α) (g : α → β) (hfg : ∀ a, f (g a) = a) (hw : ∀ a, wf a → wg (g a)) (h : Opens P t d wf) : Opens P t (Kd.iso d f) wg where
  sz := h.sz
  op := fun hx => by
    obtain ⟨y, hy, hwy⟩ := h.op hx
    exact ⟨g y, by show d.K _ (f (g y)) _; rw [hfg]; exact hy, hw y hwy⟩
end Go.Proofs.YtkolndfgpplknaaDoor.Open
