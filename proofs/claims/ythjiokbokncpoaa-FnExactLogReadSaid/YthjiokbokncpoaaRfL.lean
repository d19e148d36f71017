/- Structs and slices put together, texts turned into bytes, smallest and greatest, parts of tuples. -/
import Derived.Test.YthjiokbokncpoaaRfK
namespace Go.Proofs.Ythjiokbokncpoaa.Rf
open Go

variable {P : Program} {B : Base} {hp : Hp} {g : Gm} {w : World} {nid : Nat} {A : Nat → Prop}

theorem foldl_sets : ∀ (l : List Value) (off k : Nat) (cs : Array Value), off + k + l.length ≤ cs.size →
    ((l.zipIdx k).foldl (fun (cs : Array Value) (p : Value × Nat) => cs.setIfInBounds (off + p.2) p.1) cs).toList = cs.toList.take (off + k) ++ l ++ cs.toList.drop (off + k + l.length)
  | [], off, k, cs, _ => by simp
  | v :: l, off, k, cs, h => by
    simp only [List.length_cons] at h
    rw [List.zipIdx_cons, List.foldl_cons, foldl_sets l off (k + 1) _ (by rw [Array.size_setIfInBounds]; omega)]
    simp only [Array.toList_setIfInBounds, List.length_cons]
    rw [set_drop_take (by rw [Array.length_toList]; omega)]
    have hl : (List.take (off + k) cs.toList).length = off + k := by simp; omega
    have e1 : (List.take (off + k) cs.toList ++ v :: List.drop (off + k + 1) cs.toList).take (off + (k + 1)) = List.take (off + k) cs.toList ++ [v] := by
      rw [List.take_append, hl, show off + (k + 1) - (off + k) = 1 by omega, List.take_of_length_le (by omega)]
      simp
    have e2 : (List.take (off + k) cs.toList ++ v :: List.drop (off + k + 1) cs.toList).drop (off + (k + 1) + l.length) = List.drop (off + k + (l.length + 1)) cs.toList := by
      rw [List.drop_append, hl, show off + (k + 1) + l.length - (off + k) = l.length + 1 by omega, List.drop_eq_nil_of_le (by omega)]
      simp only [List.nil_append, List.drop_succ_cons, List.drop_drop]
      congr 1; omega
    rw [e1, e2]
    simp

theorem fill_cons {place : Nat → Option (Nat × Nat)} {cells : Array Value} {i off size : Nat} {v : Value} {rest : List (Nat × Value)} (hp : place i = some (off, size)) (hs : v.cells.size = size) (hle : off + size ≤ cells.size) :
    ∃ cells', Instr.fill place cells ((i, v) :: rest) = Instr.fill place cells' rest ∧ cells'.toList = cells.toList.take off ++ v.cells.toList ++ cells.toList.drop (off + v.cells.toList.length) := by
  refine ⟨v.cells.zipIdx.foldl (fun cs (c, j) => cs.setIfInBounds (off + j) c) cells, ?_, ?_⟩
  · simp only [Instr.fill, hp]
    rw [if_neg (by simp [hs]; omega)]
  · have := foldl_sets v.cells.toList off 0 cells (by rw [Array.length_toList]; omega)
    rw [← Array.foldl_toList, Array.toList_zipIdx]
    simpa using this

theorem layParts_fill {ty : Ty} {place : Nat → Option (Nat × Nat)} (hpl : ∀ i o ft, fieldAt ty i = some (o, ft) → place i = some (o, csz ft) ∧ o + csz ft ≤ csz ty) :
    ∀ (ps : List (Nat × AV)) (vs : List (Nat × Value)) (cs cs' : List CV) (cells : Array Value), ps.length = vs.length → (∀ j (h : j < ps.length) (h' : j < vs.length), ps[j].1 = vs[j].1 ∧ conc w A g ps[j].2 vs[j].2) →
      concCs w A g cs cells.toList → cs.length = csz ty → layParts ty ps cs = some cs' → ∃ cells', Instr.fill place cells vs = some cells' ∧ concCs w A g cs' cells'.toList
  | [], [], cs, cs', cells, _, _, hc, _, h => by
    obtain rfl := Option.some.inj h
    exact ⟨cells, rfl, hc⟩
  | [], _ :: _, _, _, _, hl, _, _, _, _ => by simp at hl
  | _ :: _, [], _, _, _, hl, _, _, _, _ => by simp at hl
  | (i, av) :: ps, (i', v) :: vs, cs, cs', cells, hl, hcv, hc, hlen, h => by
    simp only [layParts] at h
    split at h
    · rename_i o ft hf
      split at h
      · rename_i hok
        simp only [Bool.and_eq_true, decide_eq_true_eq] at hok
        obtain ⟨⟨h1, h2⟩, h3⟩ := hok
        have h0 := hcv 0 (by simp) (by simp)
        simp only [List.getElem_cons_zero] at h0
        obtain ⟨rfl, hv⟩ := h0
        obtain ⟨hcs, _⟩ := hv.cells h3 h2
        obtain ⟨p1, p2⟩ := hpl i o ft hf
        have hsz : v.cells.size = csz ft := by have := hcs.1; simp at this; omega
        have hcl := hc.1
        simp only [Array.length_toList] at hcl
        have hle2 : o + csz ft ≤ cells.size := by omega
        obtain ⟨cells2, k1, k2⟩ := fill_cons (rest := vs) p1 hsz hle2
        have hc2 : concCs w A g (splice cs o av.cells) cells2.toList := by rw [k2]; exact hc.splice hcs o
        have hl2 : (splice cs o av.cells).length = csz ty := by
          unfold Rf.splice; simp; omega
        obtain ⟨cells', k3, k4⟩ := layParts_fill hpl ps vs (splice cs o av.cells) cs' cells2 (by simpa using hl) (fun j hj hj' => by
          have := hcv (j + 1) (by simpa using hj) (by simpa using hj')
          simpa using this) hc2 hl2 h
        exact ⟨cells', by rw [k1]; exact k3, k4⟩
      · cases h
    · cases h

theorem places_run (P : Program) (w : World) : ∀ (fs : List Field) (ty : Ty) (n : Nat), FieldsRep P n fs ty → ∃ pl : List (Nat × Nat), (fs.mapM fun f => Prod.mk f.offset <$> Go.sizeOf f.type).run P w = .ok pl w ∧
    ∀ i o ft, fieldAt ty i = some (o, ft) → pl[i]? = some (n + o, csz ft)
  | [], .unit, n, _ => ⟨[], by simp, fun i o ft h => by cases i <;> simp [fieldAt] at h⟩
  | f :: fs, .pair a b, n, h => by
    obtain ⟨h1, h2, h3, h4⟩ := h
    obtain ⟨pl, k1, k2⟩ := places_run P w fs b (n + csz a) h4
    refine ⟨(f.offset, csz a) :: pl, ?_, ?_⟩
    · simp [List.mapM_cons, h2.size_of, k1]
    · intro i o ft hf
      cases i with
      | zero =>
        simp only [fieldAt] at hf
        obtain ⟨rfl, rfl⟩ : 0 = o ∧ a = ft := by simpa using hf
        simp [h1]
      | succ i =>
        simp only [fieldAt] at hf
        split at hf
        · rename_i o' t' h5
          obtain ⟨rfl, rfl⟩ : csz a + o' = o ∧ t' = ft := by simpa using hf
          have := k2 i o' t' h5
          simpa [Nat.add_assoc] using this
        · cases hf
  | [], .int _, _, h => by simp [FieldsRep] at h
  | [], .bool, _, h => by simp [FieldsRep] at h
  | [], .str, _, h => by simp [FieldsRep] at h
  | [], .sl _, _, h => by simp [FieldsRep] at h
  | [], .own _, _, h => by simp [FieldsRep] at h
  | [], .pair _ _, _, h => by simp [FieldsRep] at h
  | _ :: _, .int _, _, h => by simp [FieldsRep] at h
  | _ :: _, .bool, _, h => by simp [FieldsRep] at h
  | _ :: _, .str, _, h => by simp [FieldsRep] at h
  | _ :: _, .sl _, _, h => by simp [FieldsRep] at h
  | _ :: _, .own _, _, h => by simp [FieldsRep] at h
  | _ :: _, .unit, _, h => by simp [FieldsRep] at h

theorem build_run {t : TypeId} {ty : Ty} (hr : Rep P t ty) (hs : isStr ty = true) {ps : List (Nat × AV)} {vs : Array (Nat × Value)} (hl : ps.length = vs.size)
    (hcv : ∀ j (h : j < ps.length) (h' : j < vs.toList.length), ps[j].1 = vs.toList[j].1 ∧ conc w A g ps[j].2 vs.toList[j].2) {cs : List CV} (h : layParts ty ps (zeros ty) = some cs) :
    ∃ cells : Array Value, (Instr.build t vs).run P w = .ok (.agg cells) w ∧ concCs w A g cs cells.toList := by
  obtain ⟨fs, hu, hf⟩ := hr.und_str' hs
  obtain ⟨z, hz, hzr⟩ := hr.zeroValue
  obtain ⟨pl, k1, k2⟩ := places_run P w fs.toList ty 0 hf
  obtain ⟨cells', k3, k4⟩ := layParts_fill (ty := ty) (place := fun i => pl[i]?) (w := w) (A := A) (g := g) (fun i o ft hfa => by
      have := k2 i o ft hfa
      rw [Nat.zero_add] at this
      obtain ⟨fd, _, _, _, _, hle⟩ := fieldAt_rep hf hfa
      exact ⟨this, hle⟩) ps vs.toList (zeros ty) cs z.cells (by simpa using hl) hcv (by rw [hz]; exact zeros_conc ty) (zeros_len ty) h
  refine ⟨cells', ?_, k4⟩
  simp only [Instr.build, Sem.run_bind, hzr, Result.andThen_ok, underlying, run_program, hu, Sem.run_pure, Array.mapM_eq_mapM_toList]
  have e : (fs.toList.mapM fun f => do pure (f.offset, ← Go.sizeOf f.type) : Sem (List (Nat × Nat))) = fs.toList.mapM fun f => Prod.mk f.offset <$> Go.sizeOf f.type := by
    congr 1
  rw [Sem.run_map, e, k1]
  simp only [Result.andThen_ok]
  have e2 : (fun i : Nat => pl.toArray[i]?) = fun i => pl[i]? := by funext i; simp
  rw [e2, k3]
  rfl

theorem fill_row {e : Ty} {Pr : List Value → den e → Prop} (hPr : ∀ c x, Pr c x → c.length = csz e) :
    ∀ (vs : List (Nat × Value)) (xs : List (den e)) (k : Nat) (cells : Array Value) (lk : List (den e)), vs.length = xs.length → (∀ j (h : j < vs.length), vs[j].1 = k + j) →
      (∀ j (h : j < vs.length) (h' : j < xs.length), Pr vs[j].2.cells.toList xs[j]) → lk.length = k → RdLs Pr (csz e) (cells.toList.take (k * csz e)) lk → (k + vs.length) * csz e ≤ cells.size →
      ∃ cells', Instr.fill (fun i => some (i * csz e, csz e)) cells vs = some cells' ∧ cells'.size = cells.size ∧ RdLs Pr (csz e) cells'.toList (lk ++ xs)
  | [], [], k, cells, lk, _, _, _, hlk, hrd, hsz => ⟨cells, rfl, rfl, by
      rw [List.append_nil]
      exact hrd.congr (by rw [hlk, List.take_take, Nat.min_self])⟩
  | [], _ :: _, _, _, _, hl, _, _, _, _, _ => by simp at hl
  | _ :: _, [], _, _, _, hl, _, _, _, _, _ => by simp at hl
  | (i, v) :: vs, x :: xs, k, cells, lk, hl, hi, hv, hlk, hrd, hsz => by
    have h0 := hi 0 (by simp)
    simp only [List.getElem_cons_zero, Nat.add_zero] at h0
    subst h0
    have hv0 := hv 0 (by simp) (by simp)
    simp only [List.getElem_cons_zero] at hv0
    have hvl := hPr _ _ hv0
    simp only [Array.length_toList] at hvl
    simp only [List.length_cons] at hsz
    have hle : i * csz e + csz e ≤ cells.size := by
      have : (i + 1) * csz e ≤ (i + (vs.length + 1)) * csz e := Nat.mul_le_mul_right _ (by omega)
      rw [Nat.succ_mul] at this; omega
    obtain ⟨cells2, k1, k2⟩ := fill_cons (place := fun i => some (i * csz e, csz e)) (i := i) (rest := vs) rfl hvl hle
    have hsz2 : cells2.size = cells.size := by have := congrArg List.length k2; simp at this; omega
    have htk : cells2.toList.take ((i + 1) * csz e) = cells.toList.take (i * csz e) ++ v.cells.toList := by
      rw [k2, Nat.succ_mul, List.take_append_of_le_length (by simp; omega), List.take_of_length_le (by simp; omega)]
    obtain ⟨cells', k3, k4, k5⟩ := fill_row hPr vs xs (i + 1) cells2 (lk ++ [x]) (by simpa using hl) (fun j hj => by
        have := hi (j + 1) (by simpa using hj)
        simp only [List.getElem_cons_succ] at this
        omega) (fun j hj hj' => by
        have := hv (j + 1) (by simpa using hj) (by simpa using hj')
        simpa using this) (by simp [hlk]) (by
        rw [htk]
        refine RdLs.append hrd (by simp [hlk]; omega) ?_
        intro j hj
        have : j = 0 := by simpa using hj
        subst this
        simp only [Nat.zero_mul, List.drop_zero, List.getElem_cons_zero]
        rw [List.take_of_length_le (by rw [Array.length_toList]; omega)]
        exact hv0) (by rw [hsz2, show i + 1 + vs.length = i + (vs.length + 1) by omega]; exact hsz)
    exact ⟨cells', by rw [k1]; exact k3, by rw [k4, hsz2], by simpa using k5⟩

theorem ids_known {c : CV} {v : Value} (h : concC w A g c v) {i : Nat} (hi : i ∈ c.ids) : g i ≠ none := by
  cases c <;> simp [CV.ids] at hi <;> subst hi
  · obtain ⟨e, b, len, cap, h1, _⟩ := h; simp [h1]
  · obtain ⟨e, b, len, cap, a, cap', h1, _⟩ := h; simp [h1]
  · obtain ⟨b, h1, _⟩ := h; simp [h1]
  · obtain ⟨e, b, len, cap, h1, _⟩ := h; simp [h1]

theorem ids_known_list {cs : List CV} {vs : List Value} (h : concCs w A g cs vs) {i : Nat} (hi : i ∈ idsOf cs) : g i ≠ none := by
  simp only [idsOf, List.mem_flatMap] at hi
  obtain ⟨c, hc, hi⟩ := hi
  obtain ⟨j, hj, rfl⟩ := List.mem_iff_getElem.1 hc
  exact ids_known (h.2 j hj (by rw [← h.1]; exact hj)) hi

theorem seqO_some {α : Type} : ∀ {l : List (Option α)} {r : List α}, seqO l = some r → l.length = r.length ∧ ∀ j (h : j < l.length) (h' : j < r.length), l[j] = some r[j]
  | [], r, h => by obtain rfl := Option.some.inj h; exact ⟨rfl, fun j h => by simp at h⟩
  | none :: l, r, h => by simp [seqO] at h
  | some x :: l, r, h => by
    simp only [seqO] at h
    split at h
    · rename_i l' hl
      obtain rfl := Option.some.inj h
      obtain ⟨h1, h2⟩ := seqO_some hl
      refine ⟨by simp [h1], fun j hj hj' => ?_⟩
      cases j with
      | zero => rfl
      | succ j => exact h2 j (by simpa using hj) (by simpa using hj')
    · cases h

end Go.Proofs.Ythjiokbokncpoaa.Rf
