/- The program's table of types against the plain types; loads and stores of whole blocks. -/
import Derived.Test.YthjiokbokncpoaaRfB
import Derived.Test.YthjiokbokncpoaaRfC
import Derived.Laws.Rows
import Derived.Tactics
namespace Go.Proofs.Ythjiokbokncpoaa.Rf
open Go

/-! ### the table -/
def zerosV : Ty → List Value
  | .int k => [.int k 0]
  | .bool => [.bool false]
  | .str => [.string ByteArray.empty]
  | .sl _ => [.slice none 0 0]
  | .own _ => [.slice none 0 0]
  | .unit => []
  | .pair a b => zerosV a ++ zerosV b

def eqZ : Value → Value → Bool
  | .int k 0, .int k' 0 => k == k'
  | .bool false, .bool false => true
  | .string s, .string t => s.data.toList.isEmpty && t.data.toList.isEmpty
  | .slice none 0 0, .slice none 0 0 => true
  | _, _ => false
def eqZs : List Value → List Value → Bool
  | [], [] => true
  | a :: r, b :: s => eqZ a b && eqZs r s
  | _, _ => false

theorem eqZ_eq {a b : Value} (h : eqZ a b = true) : a = b := by
  unfold eqZ at h
  split at h
  · rw [beq_iff_eq.1 h]
  · rfl
  · rename_i s t
    simp only [Bool.and_eq_true, List.isEmpty_iff] at h
    obtain ⟨h1, h2⟩ := h
    have e1 : s = ByteArray.empty := by
      cases s with | mk d => simp at h1; subst h1; rfl
    have e2 : t = ByteArray.empty := by
      cases t with | mk d => simp at h2; subst h2; rfl
    rw [e1, e2]
  · rfl
  · simp at h
theorem eqZs_eq : ∀ {a b : List Value}, eqZs a b = true → a = b
  | [], [], _ => rfl
  | a :: r, b :: s, h => by
    simp only [eqZs, Bool.and_eq_true] at h
    rw [eqZ_eq h.1, eqZs_eq h.2]
  | [], _ :: _, h => by simp [eqZs] at h
  | _ :: _, [], h => by simp [eqZs] at h

def fieldsB (rep : TypeId → Ty → Bool) (n : Nat) : List Field → Ty → Bool
  | [], .unit => true
  | f :: r, .pair a b => f.offset == n && rep f.type a && decide (csz a ≠ 0) && fieldsB rep (n + csz a) r b
  | _, _ => false

def repB (P : Program) : Nat → TypeId → Ty → Bool
  | 0, _, _ => false
  | n + 1, t, ty =>
    match P.info? t, P.underlying t with
    | some inf, some d => inf.size == csz ty && (match inf.zero with | some z => eqZs z.cells.toList (zerosV ty) | none => false) &&
        (match ty, d with
         | .int k, .int k' => k == k'
         | .bool, .bool => true
         | .str, .string => true
         | .sl e, .slice et => repB P n et e
         | .unit, .struct fs => fieldsB (repB P n) 0 fs.toList .unit
         | .pair a b, .struct fs => fieldsB (repB P n) 0 fs.toList (.pair a b)
         | _, _ => false)
    | _, _ => false

def teB (P : Program) : TE → Bool
  | [] => true
  | (t, i) :: r => repB P 12 t i.ty && (match P.info? t with | some inf => inf.bytes == i.bytes | none => false) &&
      (match i.ty, P.underlying t with
       | .sl _, some (.slice et) => (match P.info? et with | some inf => inf.bytes == i.ebytes | none => false)
       | .sl _, _ => false
       | _, _ => true) && teB P r

structure RepF (P : Program) (t : TypeId) (ty : Ty) where
  inf : TypeInfo
  info : P.info? t = some inf
  d : TypeDesc
  und : P.underlying t = some d
  size : inf.size = csz ty
  z : Value
  zero : inf.zero = some z
  zcs : z.cells.toList = zerosV ty

def Rep (P : Program) (t : TypeId) (ty : Ty) : Prop := ∃ n, repB P n t ty = true

theorem Rep.f {P : Program} {t : TypeId} {ty : Ty} (h : Rep P t ty) : Nonempty (RepF P t ty) := by
  obtain ⟨n, h⟩ := h
  cases n with
  | zero => simp [repB] at h
  | succ n =>
    simp only [repB] at h
    split at h
    · rename_i inf d h1 h2
      simp only [Bool.and_eq_true, beq_iff_eq] at h
      obtain ⟨⟨hs, hz⟩, _⟩ := h
      split at hz
      · rename_i z hz'
        exact ⟨⟨inf, h1, d, h2, hs, z, hz', eqZs_eq hz⟩⟩
      · simp at hz
    · simp at h

theorem Rep.und_int {P : Program} {t : TypeId} {k : IntKind} (h : Rep P t (.int k)) : P.underlying t = some (.int k) := by
  obtain ⟨n, h⟩ := h
  cases n with
  | zero => simp [repB] at h
  | succ n =>
    simp only [repB] at h
    split at h
    · rename_i inf d h1 h2
      simp only [Bool.and_eq_true] at h
      obtain ⟨_, h⟩ := h
      split at h <;> simp_all
    · simp at h
theorem Rep.und_bool {P : Program} {t : TypeId} (h : Rep P t .bool) : P.underlying t = some .bool := by
  obtain ⟨n, h⟩ := h
  cases n with
  | zero => simp [repB] at h
  | succ n =>
    simp only [repB] at h
    split at h
    · rename_i inf d h1 h2
      simp only [Bool.and_eq_true] at h
      obtain ⟨_, h⟩ := h
      split at h <;> simp_all
    · simp at h
theorem Rep.und_str {P : Program} {t : TypeId} (h : Rep P t .str) : P.underlying t = some .string := by
  obtain ⟨n, h⟩ := h
  cases n with
  | zero => simp [repB] at h
  | succ n =>
    simp only [repB] at h
    split at h
    · rename_i inf d h1 h2
      simp only [Bool.and_eq_true] at h
      obtain ⟨_, h⟩ := h
      split at h <;> simp_all
    · simp at h
theorem Rep.und_sl {P : Program} {t : TypeId} {e : Ty} (h : Rep P t (.sl e)) : ∃ et, P.underlying t = some (.slice et) ∧ Rep P et e := by
  obtain ⟨n, h⟩ := h
  cases n with
  | zero => simp [repB] at h
  | succ n =>
    simp only [repB] at h
    split at h
    · rename_i inf d h1 h2
      simp only [Bool.and_eq_true] at h
      obtain ⟨_, h⟩ := h
      split at h <;> simp_all
      exact ⟨n, h⟩
    · simp at h

def FieldsRep (P : Program) (n : Nat) : List Field → Ty → Prop
  | [], .unit => True
  | f :: r, .pair a b => f.offset = n ∧ Rep P f.type a ∧ csz a ≠ 0 ∧ FieldsRep P (n + csz a) r b
  | _, _ => False

theorem fieldsB_rep {P : Program} {k : Nat} : ∀ {fs : List Field} {t : Ty} {n : Nat}, fieldsB (repB P k) n fs t = true → FieldsRep P n fs t
  | [], .unit, _, _ => trivial
  | f :: r, .pair a b, n, h => by
    simp only [fieldsB, Bool.and_eq_true, beq_iff_eq, decide_eq_true_eq] at h
    exact ⟨h.1.1.1, ⟨k, h.1.1.2⟩, h.1.2, fieldsB_rep h.2⟩
  | [], .int _, _, h => by simp [fieldsB] at h
  | [], .bool, _, h => by simp [fieldsB] at h
  | [], .str, _, h => by simp [fieldsB] at h
  | [], .sl _, _, h => by simp [fieldsB] at h
  | [], .own _, _, h => by simp [fieldsB] at h
  | [], .pair _ _, _, h => by simp [fieldsB] at h
  | _ :: _, .int _, _, h => by simp [fieldsB] at h
  | _ :: _, .bool, _, h => by simp [fieldsB] at h
  | _ :: _, .str, _, h => by simp [fieldsB] at h
  | _ :: _, .sl _, _, h => by simp [fieldsB] at h
  | _ :: _, .own _, _, h => by simp [fieldsB] at h
  | _ :: _, .unit, _, h => by simp [fieldsB] at h

theorem Rep.und_str' {P : Program} {t : TypeId} {ty : Ty} (h : Rep P t ty) (hs : isStr ty = true) : ∃ fs, P.underlying t = some (.struct fs) ∧ FieldsRep P 0 fs.toList ty := by
  obtain ⟨n, h⟩ := h
  cases n with
  | zero => simp [repB] at h
  | succ n =>
    simp only [repB] at h
    split at h
    · rename_i inf d h1 h2
      simp only [Bool.and_eq_true] at h
      obtain ⟨_, h⟩ := h
      split at h <;> simp [isStr] at hs
      · exact ⟨_, h2, fieldsB_rep h⟩
      · exact ⟨_, h2, fieldsB_rep h⟩
      · simp at h
    · simp at h

theorem Rep.isAgg {P : Program} {t : TypeId} {ty : Ty} (h : Rep P t ty) (w : World) : (isAgg t).run P w = .ok (isStr ty) w := by
  have key : ∃ d, P.underlying t = some d ∧ (match d with | .struct _ | .array _ _ => true | _ => false) = isStr ty := by
    obtain ⟨n, h⟩ := h
    cases n with
    | zero => simp [repB] at h
    | succ n =>
      simp only [repB] at h
      split at h
      · rename_i inf d h1 h2
        simp only [Bool.and_eq_true] at h
        obtain ⟨_, h⟩ := h
        refine ⟨d, h2, ?_⟩
        split at h <;> simp_all [isStr]
      · simp at h
  obtain ⟨d, h1, h2⟩ := key
  unfold Go.isAgg
  simp only [Sem.run_bind, underlying, run_program, Result.andThen_ok, h1, Sem.run_pure]
  rw [← h2]
  cases d <;> rfl

theorem Rep.size_of {P : Program} {t : TypeId} {ty : Ty} (h : Rep P t ty) (w : World) : (Go.sizeOf t).run P w = .ok (csz ty) w := by
  obtain ⟨f⟩ := h.f
  simp [Go.sizeOf, typeInfo, f.info, f.size]

theorem Rep.zeroValue {P : Program} {t : TypeId} {ty : Ty} (h : Rep P t ty) : ∃ z : Value, z.cells.toList = zerosV ty ∧ ∀ w, (zeroValue t).run P w = .ok z w := by
  obtain ⟨f⟩ := h.f
  exact ⟨f.z, f.zcs, fun w => by simp [Go.zeroValue, typeInfo, f.info, f.zero]⟩

structure TIOk (P : Program) (t : TypeId) (i : TI) : Prop where
  rep : Rep P t i.ty
  bytes : ∃ inf, P.info? t = some inf ∧ inf.bytes = i.bytes
  elem : ∀ e, i.ty = .sl e → ∃ et inf, P.underlying t = some (.slice et) ∧ Rep P et e ∧ P.info? et = some inf ∧ inf.bytes = i.ebytes

theorem teB_ok {P : Program} : ∀ {te : TE}, teB P te = true → ∀ {t i}, te.get t = some i → TIOk P t i
  | [], _, _, _, hg => by simp [TE.get] at hg
  | (u, j) :: r, h, t, i, hg => by
    simp only [teB, Bool.and_eq_true] at h
    obtain ⟨⟨⟨h1, h2⟩, h3⟩, h4⟩ := h
    simp only [TE.get] at hg
    split at hg
    · rename_i hu
      subst hu
      obtain rfl : j = i := Option.some.inj hg
      refine ⟨⟨12, h1⟩, ?_, ?_⟩
      · split at h2
        · rename_i inf hi; exact ⟨inf, hi, by simpa using h2⟩
        · simp at h2
      · intro e he
        obtain ⟨et, hu, hr⟩ := Rep.und_sl (P := P) (t := u) (e := e) (by rw [← he]; exact ⟨12, h1⟩)
        rw [he, hu] at h3
        simp only at h3
        split at h3
        · rename_i inf hi; exact ⟨et, inf, hu, hr, hi, by simpa using h3⟩
        · simp at h3
    · exact teB_ok h4 hg

/-! ### loads and stores -/
theorem cell_of {w : World} {b : Nat} {vs : Array Value} {el : TypeId} {fz : Nat × Nat} (h : w.heap[b]? = some (.cells vs el fz)) (off : Nat) : w.cell? ⟨b, off, none⟩ = vs[off]? := by
  simp [World.cell?, h]

theorem add_none (b o n : Nat) : (⟨b, o, none⟩ : Addr).add n = ⟨b, o + n, none⟩ := by
  unfold Addr.add; split <;> simp_all

theorem loadCells_blk {P : Program} {w : World} {b off n : Nat} {vs : Array Value} {el : TypeId} {fz : Nat × Nat} (h : w.heap[b]? = some (.cells vs el fz)) (hn : off + n ≤ vs.size) :
    (loadCells ⟨b, off, none⟩ n).run P w = .ok ((vs.toList.drop off).take n).toArray w := by
  have hl : ((vs.toList.drop off).take n).length = n := by simp; omega
  have := run_loadCells_list (P := P) w ⟨b, off, none⟩ ((vs.toList.drop off).take n) (fun j v hv => by
    rw [add_none, cell_of h]
    rw [List.getElem?_take] at hv
    split at hv
    · simpa using hv
    · simp at hv)
  rw [hl] at this
  exact this

theorem loadAt_blk {P : Program} {w : World} {t : TypeId} {ty : Ty} {b off : Nat} {vs : Array Value} {el : TypeId} {fz : Nat × Nat} (hr : Rep P t ty) (h : w.heap[b]? = some (.cells vs el fz)) (hn : off + csz ty ≤ vs.size)
    (hc : isStr ty = false → csz ty = 1) :
    (Instr.loadAt t (.pointer (some ⟨b, off, none⟩))).run P w = .ok (if isStr ty then .agg ((vs.toList.drop off).take (csz ty)).toArray else vs.toList.getD off undef) w := by
  simp only [Instr.loadAt, Instr.sureAddr, loadVar, Sem.run_bind, Sem.run_pure, Result.andThen_ok, hr.isAgg]
  cases hs : isStr ty with
  | true => simp [hr.size_of, loadCells_blk h hn]
  | false =>
    have h1 := hc hs
    have hlt : off < vs.size := by omega
    simp [cell_of h, hlt]

structure Stored (w w' : World) (b : Nat) (vs' : Array Value) (el : TypeId) (fz : Nat × Nat) : Prop where
  here : w'.heap[b]? = some (.cells vs' el fz)
  other : ∀ b', b' ≠ b → w'.heap[b']? = w.heap[b']?
  size : w'.heap.size = w.heap.size
  os : w'.os = w.os
  tape : w'.tape = w.tape
  output : w'.output = w.output

theorem setCell_stored {w : World} {b off : Nat} {vs : Array Value} {el : TypeId} {fz : Nat × Nat} (h : w.heap[b]? = some (.cells vs el fz)) (v : Value) :
    Stored w (w.setCell ⟨b, off, none⟩ v) b (vs.setIfInBounds off v) el fz := by
  refine ⟨?_, ?_, ?_, rfl, rfl, rfl⟩
  · simp [World.setCell, Array.getElem?_modify, h]
  · intro b' hb
    simp only [World.setCell, Array.getElem?_modify]
    rw [if_neg (by omega)]
  · simp [World.setCell]

theorem set_drop_take {l : List Value} {i : Nat} {v : Value} (h : i < l.length) : l.set i v = l.take i ++ v :: l.drop (i + 1) := by
  rw [List.set_eq_take_append_cons_drop, if_pos h]

theorem storeCells_blk {P : Program} {b off : Nat} {el : TypeId} {fz : Nat × Nat} : ∀ (news : List Value) (i : Nat) (w : World) (vs : Array Value), w.heap[b]? = some (.cells vs el fz) →
    off + i + news.length ≤ vs.size → (fz.2 ≤ fz.1 ∨ vs.size ≤ fz.1) → (∀ v ∈ news, v.oneCell' = true) →
    ∃ w' vs', (storeCells ⟨b, off, none⟩ news i).run P w = .ok () w' ∧ Stored w w' b vs' el fz ∧ vs'.toList = vs.toList.take (off + i) ++ news ++ vs.toList.drop (off + i + news.length)
  | [], i, w, vs, h, hn, _, _ => ⟨w, vs, by simp [storeCells], ⟨h, fun _ _ => rfl, rfl, rfl, rfl, rfl⟩, by simp⟩
  | v :: news, i, w, vs, h, hn, hf, h1 => by
    simp only [List.length_cons] at hn
    have hlt : off + i < vs.size := by omega
    have hc : w.cell? ⟨b, off + i, none⟩ = some vs[off + i] := by rw [cell_of h]; simp [hlt]
    have hfz : w.frozen? ⟨b, off + i, none⟩ = false := by
      simp only [World.frozen?, h]
      rcases fz with ⟨lo, hi⟩
      simp only at hf ⊢
      simp only [Bool.and_eq_false_iff, decide_eq_false_iff_not]
      omega
    have hs := setCell_stored (off := off + i) h v
    obtain ⟨w', vs', hr, hst, hl⟩ := storeCells_blk (P := P) (off := off) news (i + 1) (w.setCell ⟨b, off + i, none⟩ v) (vs.setIfInBounds (off + i) v) hs.here (by rw [Array.size_setIfInBounds]; omega) (by simpa using hf) (fun u hu => h1 u (by simp [hu]))
    refine ⟨w', vs', ?_, ⟨hst.here, fun b' hb => (hst.other b' hb).trans (hs.other b' hb), hst.size.trans hs.size, hst.os.trans hs.os, hst.tape.trans hs.tape, hst.output.trans hs.output⟩, ?_⟩
    · simp only [storeCells, Sem.run_bind, add_none]
      rw [run_store P w _ v .plain (h1 v (by simp)), hc]
      simp only [hfz, Bool.false_eq_true, if_false, Result.andThen_ok]
      exact hr
    · rw [hl]
      simp only [Array.toList_setIfInBounds, List.length_cons]
      rw [set_drop_take (by simpa using hlt)]
      have e1 : (List.take (off + i) vs.toList ++ v :: List.drop (off + i + 1) vs.toList).take (off + (i + 1)) = List.take (off + i) vs.toList ++ [v] := by
        rw [List.take_append]
        have : (List.take (off + i) vs.toList).length = off + i := by simp; omega
        rw [this, show off + (i + 1) - (off + i) = 1 by omega]
        simp [List.take_take]
      have e2 : (List.take (off + i) vs.toList ++ v :: List.drop (off + i + 1) vs.toList).drop (off + (i + 1) + news.length) = List.drop (off + i + (news.length + 1)) vs.toList := by
        rw [List.drop_append]
        have : (List.take (off + i) vs.toList).length = off + i := by simp; omega
        rw [this, show off + (i + 1) + news.length - (off + i) = news.length + 1 by omega, List.drop_eq_nil_of_le (by rw [this]; omega)]
        simp only [List.nil_append, List.drop_succ_cons, List.drop_drop]
        congr 1; omega
      rw [e1, e2]
      simp

end Go.Proofs.Ythjiokbokncpoaa.Rf
