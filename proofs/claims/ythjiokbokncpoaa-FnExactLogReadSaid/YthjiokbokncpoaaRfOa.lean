/- What comes into a law as data of a type is read as that type tells. -/
import Derived.Test.YthjiokbokncpoaaRfZ
import Derived.ChangeArms
import Derived.DataReads
import Derived.WideShapes
namespace Go.Proofs.Ythjiokbokncpoaa.Rf
open Go

def wfD : (t : Ty) → den t → Prop
  | .int k, n => (Lit.int k n).wf = true
  | .bool, _ => True
  | .str, s => s.size ≤ maxLen
  | .sl e, l => List.length l ≤ maxLen ∧ ∀ x, x ∈ (l : List (den e)) → wfD e x
  | .own e, l => List.length l ≤ maxLen ∧ ∀ x, x ∈ (l : List (den e)) → wfD e x
  | .unit, _ => True
  | .pair a b, x => wfD a x.1 ∧ wfD b x.2

def noSl : Ty → Bool
  | .sl _ => false
  | .own _ => false
  | .pair a b => noSl a && noSl b
  | _ => true

def okB : Ty → Bool
  | .sl e => noSl e
  | .own _ => false
  | .pair a b => okB a && okB b
  | _ => true

theorem okB_of_noSl : ∀ {t : Ty}, noSl t = true → okB t = true
  | .int _, _ => rfl
  | .bool, _ => rfl
  | .str, _ => rfl
  | .sl _, h => by cases h
  | .own _, h => by cases h
  | .unit, _ => rfl
  | .pair a b, h => by
    simp only [noSl, Bool.and_eq_true] at h
    simp only [okB, Bool.and_eq_true]
    exact ⟨okB_of_noSl h.1, okB_of_noSl h.2⟩

def HdrOk (w : World) (cs : List Value) : Prop := ∀ a len cap, Value.slice (some a) len cap ∈ cs → a.spot = none ∧ ∃ vs el fz, w.heap[a.block]? = some (.cells vs el fz)

theorem offs {P : Program} : ∀ {fs : List Field} {n : Nat} {t : Ty}, FieldsRep P n fs t → ∀ f ∈ fs, n ≤ f.offset
  | [], _, _, _, f, hf => by cases hf
  | g :: r, n, .pair a b, h, f, hf => by
    obtain ⟨h1, h2, h3, h4⟩ := h
    rcases List.mem_cons.1 hf with rfl | hf
    · omega
    · have := offs h4 f hf
      omega
  | _ :: _, _, .int _, h, _, _ => h.elim
  | _ :: _, _, .bool, h, _, _ => h.elim
  | _ :: _, _, .str, h, _, _ => h.elim
  | _ :: _, _, .sl _, h, _, _ => h.elim
  | _ :: _, _, .own _, h, _, _ => h.elim
  | _ :: _, _, .unit, h, _, _ => h.elim

theorem Rep.cells {P : Program} {t : TypeId} {ty : Ty} (h : Rep P t ty) : P.cellsOf t = csz ty := by
  obtain ⟨f⟩ := h.f
  simp [Program.cellsOf, f.info, f.size]

theorem choose_l {α : Type} (n : Nat) (p : Nat → α → Prop) (h : ∀ i, i < n → ∃ y, p i y) : ∃ ys : List α, ys.length = n ∧ ∀ i (hi : i < ys.length), p i ys[i] := by
  induction n with
  | zero => exact ⟨[], rfl, fun i hi => by simp at hi⟩
  | succ n ih =>
    obtain ⟨ys, hl, hp⟩ := ih (fun i hi => h i (by omega))
    obtain ⟨z, hz⟩ := h n (by omega)
    refine ⟨ys ++ [z], by simp [hl], fun i hi => ?_⟩
    by_cases hi2 : i < ys.length
    · rw [List.getElem_append_left hi2]; exact hp i hi2
    · have : i = n := by simp at hi; omega
      subst this
      rw [List.getElem_append_right (by omega)]
      simp only [hl, Nat.sub_self, List.getElem_cons_zero]
      exact hz

abbrev Lives (w : World) (b : Nat) : Prop := b < w.heap.size

section
variable {H : Type} {enc : TypeId × Value → H} {P : Program} {w : World} {base : Nat} {spare : Nat → Bool} {held : Bool}

theorem open_ty : ∀ (ty : Ty),
    (∀ {t fuel : Nat} {cs : List Value} {x : DataW H × List MemPlace}, Rep P t ty → okB ty = true → DataW.trod enc P w base spare held fuel t cs = some x → (noSl ty = false → HdrOk w cs) → ∃ y, Rd w (Lives w) ty cs y ∧ wfD ty y) ∧
    (∀ {fs : List Field} {off n : Nat} {cs : List Value}, FieldsRep P off fs ty → okB ty = true → cs.length = csz ty →
      (∀ f ∈ fs, ∃ x, DataW.trod enc P w base spare held n f.type ((cs.drop (f.offset - off)).take (P.cellsOf f.type)) = some x) → (noSl ty = false → HdrOk w cs) → ∃ y, Rd w (Lives w) ty cs y ∧ wfD ty y) := by
  intro ty
  induction ty with
  | int k =>
    refine ⟨fun hr _ hx _ => ?_, fun {fs} _ _ _ hf => by cases fs <;> exact hf.elim⟩
    obtain ⟨n, rfl, _, hw⟩ := DataW.trod_int hr.und_int hx
    exact ⟨n, rfl, hw⟩
  | bool =>
    refine ⟨fun hr _ hx _ => ?_, fun {fs} _ _ _ hf => by cases fs <;> exact hf.elim⟩
    obtain ⟨n, rfl, _⟩ := DataW.trod_bool hr.und_bool hx
    exact ⟨n, rfl, trivial⟩
  | str =>
    refine ⟨fun hr _ hx _ => ?_, fun {fs} _ _ _ hf => by cases fs <;> exact hf.elim⟩
    obtain ⟨n, rfl, _, hw⟩ := DataW.trod_string hr.und_str hx
    exact ⟨n, rfl, hw⟩
  | own e ih =>
    refine ⟨fun _ h => ?_, fun {fs} _ _ _ hf => by cases fs <;> exact hf.elim⟩
    cases h
  | sl e ih =>
    refine ⟨fun hr hok hx hh => ?_, fun {fs} _ _ _ hf => by cases fs <;> exact hf.elim⟩
    obtain ⟨et, hu, hre⟩ := hr.und_sl
    have hne : noSl e = true := hok
    rcases DataW.trod_slice hu hx with ⟨rfl, _⟩ | ⟨a, len, cap, elems, rest, n, _, rfl, _, hb, hl, hm, hlen, hel, _, _⟩
    · exact ⟨[], .inl ⟨rfl, rfl⟩, by simp [wfD]⟩
    · obtain ⟨hs, vs, el, fz, hblk⟩ := hh rfl a len cap (by simp)
      have each : ∀ i, i < len → ∃ y, Rd w (Lives w) e (((vs.toList.drop a.off).drop (i * csz e)).take (csz e)) y ∧ wfD e y := by
        intro i hi
        have h1 := hel i hi
        rw [List.getElem?_eq_getElem (by omega), Option.bind_eq_some_iff] at h1
        obtain ⟨c, hc1, hc2⟩ := h1
        have hc : c = ((vs.toList.drop a.off).drop (i * csz e)).take (csz e) := by
          obtain ⟨_, hcl, hat⟩ := World.cells?_some hc1
          rw [hre.cells] at hcl hat
          apply List.ext_getElem?
          intro j
          by_cases hj : j < csz e
          · have h2 := hat j hj
            have h3 : ((a.add (i * csz e)).add j) = ⟨a.block, a.off + i * csz e + j, none⟩ := by
              cases a with | mk b o s =>
              simp only at hs
              subst hs
              unfold Addr.add
              repeat' split
              all_goals simp_all
              all_goals omega
            rw [h3] at h2
            unfold World.cell? at h2
            simp only [hblk] at h2
            rw [← h2, List.getElem?_take, if_pos hj, List.getElem?_drop, List.getElem?_drop]
            simp [Nat.add_assoc]
          · rw [List.getElem?_eq_none (by omega), List.getElem?_eq_none (by simp; omega)]
        rw [hc] at hc2
        exact ih.1 hre (okB_of_noSl hne) hc2 (fun h => by rw [hne] at h; cases h)
      obtain ⟨ys, hyl, hys⟩ := choose_l len _ each
      refine ⟨ys, .inr ⟨a.block, a.off, cap, vs, el, fz, ?_, by omega, ?_, hblk, fun i hi => (hys i hi).1⟩, by simp only [maxLen] at *; omega, fun y hy => ?_⟩
      · cases a with | mk b o s =>
        simp only at hs
        subst hs
        simp [hyl]
      · exact (Array.getElem?_eq_some_iff.1 hblk).1
      · obtain ⟨i, hi, e⟩ := List.mem_iff_getElem.1 hy
        subst e
        exact (hys i hi).2
  | unit =>
    have two : ∀ {fs : List Field} {off n : Nat} {cs : List Value}, FieldsRep P off fs .unit → okB .unit = true → cs.length = csz .unit →
      (∀ f ∈ fs, ∃ x, DataW.trod enc P w base spare held n f.type ((cs.drop (f.offset - off)).take (P.cellsOf f.type)) = some x) → (noSl .unit = false → HdrOk w cs) → ∃ y, Rd w (Lives w) .unit cs y ∧ wfD .unit y := by
      intro fs off n cs _ _ hl _ _
      refine ⟨(), ?_, trivial⟩
      show cs = []
      simpa [csz] using hl
    refine ⟨fun {t fuel cs x} hr hok hx hh => ?_, two⟩
    obtain ⟨fs, hu, hf⟩ := hr.und_str' rfl
    obtain ⟨xs, n, _, _, hlen, hxl, hi⟩ := DataW.trod_struct hu hx
    refine two (off := 0) (n := n) hf hok (by rw [hlen, hr.cells]) (fun f hf' => ?_) hh
    obtain ⟨i, hi0⟩ := List.getElem?_of_mem hf'
    have h1 := hi i f (by rw [← hi0]; simp)
    have h2 : i < xs.length := by
      rw [hxl]
      have := (List.getElem?_eq_some_iff.1 hi0).1
      simpa using this
    rw [List.getElem?_eq_getElem h2] at h1
    exact ⟨_, by rw [Nat.sub_zero]; exact h1⟩
  | pair a b iha ihb =>
    have two : ∀ {fs : List Field} {off n : Nat} {cs : List Value}, FieldsRep P off fs (.pair a b) → okB (.pair a b) = true → cs.length = csz (.pair a b) →
      (∀ f ∈ fs, ∃ x, DataW.trod enc P w base spare held n f.type ((cs.drop (f.offset - off)).take (P.cellsOf f.type)) = some x) → (noSl (.pair a b) = false → HdrOk w cs) → ∃ y, Rd w (Lives w) (.pair a b) cs y ∧ wfD (.pair a b) y := by
      intro fs off n cs hf hok hl hx hh
      match fs, hf with
      | f :: r, hf =>
        obtain ⟨h1, h2, h3, h4⟩ := hf
        simp only [okB, Bool.and_eq_true] at hok
        have hl' : cs.length = csz a + csz b := hl
        obtain ⟨x, hx1⟩ := hx f List.mem_cons_self
        rw [h1, Nat.sub_self, List.drop_zero, h2.cells] at hx1
        have hsub : ∀ {l : List Value}, (∀ v ∈ l, v ∈ cs) → (noSl a && noSl b) = false → HdrOk w l := fun hsub hn a' len cap hm => hh hn a' len cap (hsub _ hm)
        obtain ⟨y, hy, hwy⟩ := iha.1 h2 hok.1 hx1 (fun hn => hsub (fun v hv => List.mem_of_mem_take hv) (by simp [hn]))
        obtain ⟨z, hz, hwz⟩ := ihb.2 (n := n) (cs := cs.drop (csz a)) h4 hok.2 (by rw [List.length_drop, hl']; omega) (fun g hg => by
          obtain ⟨x, hx2⟩ := hx g (List.mem_cons_of_mem _ hg)
          have hg2 := offs h4 g hg
          refine ⟨x, ?_⟩
          rw [List.drop_drop, show csz a + (g.offset - (off + csz a)) = g.offset - off by omega]
          exact hx2) (fun hn => hsub (fun v hv => List.mem_of_mem_drop hv) (by simp [hn]))
        exact ⟨(y, z), ⟨cs.take (csz a), cs.drop (csz a), (List.take_append_drop _ _).symm, hy, hz⟩, hwy, hwz⟩
    refine ⟨fun {t fuel cs x} hr hok hx hh => ?_, two⟩
    obtain ⟨fs, hu, hf⟩ := hr.und_str' rfl
    obtain ⟨xs, n, _, _, hlen, hxl, hi⟩ := DataW.trod_struct hu hx
    refine two (off := 0) (n := n) hf hok (by rw [hlen, hr.cells]) (fun f hf' => ?_) hh
    obtain ⟨i, hi0⟩ := List.getElem?_of_mem hf'
    have h1 := hi i f (by rw [← hi0]; simp)
    have h2 : i < xs.length := by
      rw [hxl]
      have := (List.getElem?_eq_some_iff.1 hi0).1
      simpa using this
    rw [List.getElem?_eq_getElem h2] at h1
    exact ⟨_, by rw [Nat.sub_zero]; exact h1⟩

/-- a cell of an argument -/
theorem hdr_cell {u : TypeId} {v : Value} {r : Reach} (h : Cell.okWide P w r base u v) : HdrOk w [v] := by
  intro a len cap hm
  obtain rfl : Value.slice (some a) len cap = v := by simpa using hm
  have : ∃ e, w.has P r base a e cap := by
    unfold Cell.okWide at h
    split at h
    all_goals first
      | (rename_i heq; cases heq; done)
      | skip
    all_goals first
      | (unfold Cell.ok at h; split at h <;> first
        | (rename_i heq; cases heq; exact ⟨_, h.2.2⟩)
        | (rename_i heq; cases heq; done)
        | exact h.elim)
      | skip
  obtain ⟨e, _, hs, row, cells, hsh, _⟩ := this
  refine ⟨hs, ?_⟩
  unfold World.shape? at hsh
  split at hsh
  · rename_i c el fz hb
    exact ⟨c, el, fz, hb⟩
  · cases hsh

end
end Go.Proofs.Ythjiokbokncpoaa.Rf
