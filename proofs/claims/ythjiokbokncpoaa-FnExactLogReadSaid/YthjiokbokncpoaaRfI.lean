/- Places, parts, cuts, new slices: the machine does what the plain reading says. -/
import Derived.Test.YthjiokbokncpoaaRfH
namespace Go.Proofs.Ythjiokbokncpoaa.Rf
open Go

variable {P : Program} {B : Base} {hp : Hp} {g : Gm} {w : World} {nid : Nat} {A : Nat → Prop}

theorem lenA_val (hI : Inv B hp g w) {c : CV} {v : Value} {n : Nat} (hc : concC w (Im B hp g w) g c v) (h : lenA hp c = some n) (hns : ∀ s, c ≠ .str s) : ∃ a cap, v = .slice a n cap := by
  cases c with
  | sl e l =>
    simp only [lenA] at h
    obtain rfl := Option.some.inj h
    rcases hc with ⟨h1, h2⟩ | ⟨b, off, cap, vs, el, fz, h1, _⟩ <;> obtain rfl := (List.cons.inj h1).1
    · subst h2; exact ⟨_, _, rfl⟩
    · exact ⟨_, _, rfl⟩
  | nilv => obtain rfl := hc; obtain rfl := Option.some.inj h; exact ⟨_, _, rfl⟩
  | ref i =>
    simp only [lenA] at h
    split at h
    · rename_i e l hi
      obtain rfl := Option.some.inj h
      obtain ⟨e', b, len, cap, hg, rfl⟩ := hc
      obtain ⟨rfl, rfl, hr⟩ := row_of hI hi hg
      cases b with
      | none => exact ⟨none, 0, by rw [hr.1]; rfl⟩
      | some b => exact ⟨_, _, rfl⟩
    · cases h
  | sub i lo m => obtain rfl := Option.some.inj h; obtain ⟨e, b, len, cap, a, cap', _, rfl, _⟩ := hc; exact ⟨_, _, rfl⟩
  | str s => exact absurd rfl (hns s)
  | _ => simp [lenA] at h

theorem len_sl {t ty : TypeId} {e : Ty} (hr : Rep P t (.sl e)) (a : Option Addr) (n cap : Nat) : (Builtin.len_ #[t] ty #[.slice a n cap]).run P w = .ok (.int .i64 n) w := by
  obtain ⟨et, hu, _⟩ := hr.und_sl
  simp [Builtin.len_, underlying, hu, goInt]
theorem len_str {t ty : TypeId} (hr : Rep P t .str) (s : ByteArray) : (Builtin.len_ #[t] ty #[.string s]).run P w = .ok (.int .i64 s.size) w := by
  simp [Builtin.len_, underlying, hr.und_str, goInt]

theorem index_str {t : TypeId} (hr : Rep P t .str) {s : ByteArray} {k : IntKind} {n : Int} (h0 : 0 ≤ n) (h1 : n < s.size) : (Instr.index t (.string s) (.int k n)).run P w = .ok (.int .u8 (bt s n.toNat)) w := by
  have hlt : n.toNat < s.size := by omega
  simp only [Instr.index, asIntOf, Sem.run_bind, Sem.run_pure, Result.andThen_ok, underlying, run_program, hr.und_str, if_pos h0]
  have e : s[n.toNat]? = some (s[n.toNat]'hlt) := by simp [hlt]
  rw [e]
  simp only [Sem.run_pure]
  unfold bt
  congr 2
  have : s.data.toList.getD n.toNat 0 = s[n.toNat]'hlt := by
    have h2 : n.toNat < s.data.toList.length := by simpa using hlt
    simp only [List.getD_eq_getElem?_getD, List.getElem?_eq_getElem h2, Option.getD_some]
    rfl
  rw [this]

theorem indexAt_sl {t : TypeId} {e : Ty} (hr : Rep P t (.sl e)) {b off len cap : Nat} {k : IntKind} {n : Int} (h0 : 0 ≤ n) (h1 : n < len) :
    (Instr.indexAt t (.slice (some ⟨b, off, none⟩) len cap) (.int k n)).run P w = .ok (.pointer (some ⟨b, off + n.toNat * csz e, none⟩)) w := by
  obtain ⟨et, hu, hre⟩ := hr.und_sl
  simp only [Instr.indexAt, asIntOf, Sem.run_bind, Sem.run_pure, Result.andThen_ok, underlying, run_program, hu, Sem.run_ite, if_pos (And.intro h0 h1), hre.size_of, add_none]

theorem indexAddr_ref_runs (hI : Inv B hp g w) {t : TypeId} {e : Ty} (hr : Rep P t (.sl e)) {i : Nat} {l : List (den e)} {v : Value} (hv : concC w (Im B hp g w) g (.ref i) v) (hi : hp i = some (.row e l)) {k : IntKind} {n : Int}
    (h0 : 0 ≤ n) (h1 : n < l.length) : Runs P B hp hp g w nid (.c (.elt i n.toNat 0)) (Instr.indexAt t v (.int k n)) := by
  obtain ⟨e', b, len, cap, hg, rfl⟩ := hv
  obtain ⟨rfl, rfl, hrow⟩ := row_of hI hi hg
  cases b with
  | none => have := hrow.1; omega
  | some b =>
    refine Runs.pure hI (indexAt_sl (off := 0) hr h0 h1) ⟨e', b, l.length, cap, hg, by omega, ?_⟩
    rw [Nat.zero_add, Nat.add_zero]

theorem indexAddr_sub_runs (hI : Inv B hp g w) {t : TypeId} {e : Ty} (hr : Rep P t (.sl e)) {i lo m : Nat} {l : List (den e)} {v : Value} (hv : concC w (Im B hp g w) g (.sub i lo m) v) (hi : hp i = some (.row e l)) {k : IntKind} {n : Int}
    (h0 : 0 ≤ n) (h1 : n < m) : Runs P B hp hp g w nid (.c (.elt i (lo + n.toNat) 0)) (Instr.indexAt t v (.int k n)) := by
  obtain ⟨e', b, len, cap, a, cap', hg, rfl, _, hle, ha⟩ := hv
  obtain ⟨rfl, rfl, hrow⟩ := row_of hI hi hg
  rcases ha with ⟨_, h2, _⟩ | ⟨b', off, rfl, rfl, hoff⟩
  · omega
  · rcases hoff with hoff | rfl
    · omega
    · refine Runs.pure hI (indexAt_sl hr h0 h1) ⟨e', b', l.length, cap, hg, by omega, ?_⟩
      rw [Nat.add_zero, ← Nat.add_mul]

theorem indexAddr_sl_runs (hI : Inv B hp g w) {t : TypeId} {e : Ty} (hr : Rep P t (.sl e)) {l : List (den e)} {v : Value} (hv : concC w (Im B hp g w) g (.sl e l) v) {k : IntKind} {n : Int}
    (h0 : 0 ≤ n) (h1 : n < l.length) : Runs P B hp hp g w nid (.c (.cst e (rdN l n.toNat) 0)) (Instr.indexAt t v (.int k n)) := by
  rcases hv with ⟨_, h2⟩ | ⟨b, off, cap, vs, el, fz, h, _, hA, hb, hrd⟩
  · subst h2; simp at h1; omega
  · obtain rfl := (List.cons.inj h).1
    have hlt : n.toNat < l.length := by omega
    refine Runs.pure hI (indexAt_sl hr h0 h1) ⟨b, off + n.toNat * csz e, vs, el, fz, by rw [Nat.add_zero], hA, hb, ?_⟩
    rw [rdN_of hlt, ← List.drop_drop]
    exact hrd _ hlt

/-! ### fields -/
theorem fieldAt_rep {fs : List Field} {ty : Ty} {n f o : Nat} {ft : Ty} (hf : FieldsRep P n fs ty) (h : fieldAt ty f = some (o, ft)) : ∃ fd, fs[f]? = some fd ∧ fd.offset = n + o ∧ Rep P fd.type ft ∧ csz ft ≠ 0 ∧ o + csz ft ≤ csz ty := by
  induction fs generalizing ty n f o with
  | nil => cases ty <;> simp [FieldsRep] at hf; cases f <;> simp [fieldAt] at h
  | cons fd fs ih =>
    cases ty <;> simp only [FieldsRep] at hf
    rename_i a b
    obtain ⟨h1, h2, h3, h4⟩ := hf
    cases f with
    | zero =>
      simp only [fieldAt] at h
      obtain ⟨rfl, rfl⟩ : 0 = o ∧ a = ft := by simpa using h
      exact ⟨fd, rfl, by simpa using h1, h2, h3, by simp [csz]⟩
    | succ f =>
      simp only [fieldAt] at h
      split at h
      · rename_i o' t' h5
        obtain ⟨rfl, rfl⟩ : csz a + o' = o ∧ t' = ft := by simpa using h
        obtain ⟨fd', k1, k2, k3, k4, k5⟩ := ih h4 h5
        exact ⟨fd', k1, by omega, k3, k4, by simp only [csz]; omega⟩
      · cases h

theorem isStr_of_field {ty ft : Ty} {f o : Nat} (h : fieldAt ty f = some (o, ft)) : isStr ty = true := by
  cases ty <;> cases f <;> simp [fieldAt, isStr] at h ⊢

theorem fieldAddr_run {s : TypeId} {ty ft : Ty} (hr : Rep P s ty) {f o : Nat} (h : fieldAt ty f = some (o, ft)) (b off : Nat) :
    (Instr.fieldAt s (.pointer (some ⟨b, off, none⟩)) f).run P w = .ok (.pointer (some ⟨b, off + o, none⟩)) w := by
  obtain ⟨fs, hu, hf⟩ := hr.und_str' (isStr_of_field h)
  obtain ⟨fd, h1, h2, h3, h4, _⟩ := fieldAt_rep hf h
  have h1' : fs[f]? = some fd := by simpa using h1
  simp only [Instr.fieldAt, Sem.run_bind, underlying, run_program, Result.andThen_ok, hu, Sem.run_pure, h1', Instr.sureAddr, fieldPlace, h3.size_of, Sem.run_ite]
  rw [if_neg h4]
  simp [add_none, h2]

theorem field_run {s : TypeId} {ty ft : Ty} (hr : Rep P s ty) {f o : Nat} (h : fieldAt ty f = some (o, ft)) {vs : Array Value} (hle : o + csz ft ≤ vs.size) :
    (Instr.field s (.agg vs) f).run P w = .ok (if isStr ft then .agg ((vs.toList.drop o).take (csz ft)).toArray else vs.toList.getD o undef) w := by
  obtain ⟨fs, hu, hf⟩ := hr.und_str' (isStr_of_field h)
  obtain ⟨fd, h1, h2, h3, h4, _⟩ := fieldAt_rep hf h
  have h1' : fs[f]? = some fd := by simpa using h1
  have h2' : fd.offset = o := by omega
  simp only [Instr.field, Sem.run_bind, underlying, run_program, Result.andThen_ok, hu, Sem.run_pure, h1', asAgg, part, h3.isAgg]
  cases hs : isStr ft with
  | true =>
    simp only [if_true, Sem.run_bind, h3.size_of, Result.andThen_ok, Sem.run_pure, h2']
    congr 2
    apply Array.ext'
    simp [List.extract_eq_take_drop]
  | false =>
    have hlt : o < vs.size := by omega
    simp [h2', hlt]

/-! ### cuts -/
theorem bound_run {x : Int} {k : IntKind} {y : Nat} (c : BoundsCode) (h0 : 0 ≤ x) (h1 : x ≤ y) : (Instr.sliceBound (.int k x) y c).run P w = .ok x.toNat w := by
  simp [Instr.sliceBound, asIntOf, h0, h1]

def optV (d : Int) : Option Value → Int → Prop
  | none, x => x = d
  | some v, x => ∃ k, v = .int k x

theorem bounds_run {isS : Bool} {len cap : Nat} {lo hi : Option Value} {x y : Int} (hlo : optV 0 lo x) (hhi : optV len hi y) (h0 : 0 ≤ x) (h1 : x ≤ y) (h2 : y ≤ len) (h3 : len ≤ cap) :
    (Instr.sliceBounds isS len cap lo hi none).run P w = .ok (x.toNat, y.toNat, cap) w := by
  have eh : y ≤ (cap : Int) := by omega
  have el : x ≤ ((y.toNat : Nat) : Int) := by omega
  cases lo with
  | none =>
    have : x = 0 := hlo
    subst this
    cases hi with
    | none => have : y = len := hhi; subst this; simp [Instr.sliceBounds]
    | some v => obtain ⟨k, rfl⟩ := hhi; simp only [Instr.sliceBounds, Sem.run_bind, Sem.run_pure, Result.andThen_ok, bound_run _ h1 eh]; rfl
  | some u =>
    obtain ⟨k', rfl⟩ := hlo
    cases hi with
    | none =>
      have : y = len := hhi
      subst this
      have el' : x ≤ (len : Int) := h1
      simp only [Instr.sliceBounds, Sem.run_bind, Sem.run_pure, Result.andThen_ok, bound_run _ h0 el']; rfl
    | some v =>
      obtain ⟨k, rfl⟩ := hhi
      have hy : 0 ≤ y := by omega
      simp only [Instr.sliceBounds, Sem.run_bind, Sem.run_pure, Result.andThen_ok, bound_run _ hy eh, bound_run _ h0 el]

theorem slice_str_run {t : TypeId} (hr : Rep P t .str) {s : ByteArray} {lo hi : Option Value} {x y : Int} (hlo : optV 0 lo x) (hhi : optV s.size hi y) (h0 : 0 ≤ x) (h1 : x ≤ y) (h2 : y ≤ s.size) :
    (Instr.sliceAt t (.string s) lo hi none).run P w = .ok (.string (s.extract x.toNat y.toNat)) w := by
  simp only [Instr.sliceAt, Sem.run_bind, underlying, run_program, Result.andThen_ok, hr.und_str, Sem.run_pure, Instr.slice, Option.isSome_none, Bool.false_eq_true, if_false]
  rw [bounds_run hlo hhi h0 h1 h2 (Nat.le_refl _)]
  rfl

theorem slice_sl_run {t : TypeId} {e : Ty} (hr : Rep P t (.sl e)) {a : Option Addr} {len cap : Nat} {lo hi : Option Value} {x y : Int} (hlo : optV 0 lo x) (hhi : optV len hi y) (h0 : 0 ≤ x) (h1 : x ≤ y) (h2 : y ≤ len) (h3 : len ≤ cap) :
    (Instr.sliceAt t (.slice a len cap) lo hi none).run P w = .ok (.slice (if cap = x.toNat then a else a.map (·.add (x.toNat * csz e))) (y.toNat - x.toNat) (cap - x.toNat)) w := by
  obtain ⟨et, hu, hre⟩ := hr.und_sl
  simp only [Instr.sliceAt, Sem.run_bind, underlying, run_program, Result.andThen_ok, hu, Sem.run_pure, Instr.slice]
  rw [bounds_run hlo hhi h0 h1 h2 h3]
  simp only [Result.andThen_ok, hre.size_of]

theorem optI_conc {a : Act} {tm : List AV} (hρ : ∀ x, conc w A g (evalA tm x) (a.eval x)) {o : Option Operand} {d x : Int} (h : optI (evalA tm) o d = some x) : optV d (o.map a.eval) x := by
  cases o with
  | none => simp only [optI] at h; exact (Option.some.inj h).symm
  | some y =>
    simp only [optI] at h
    have := hρ y
    split at h
    · rename_i k n he
      rw [he] at this
      obtain rfl := Option.some.inj h
      exact ⟨k, this⟩
    · cases h

end Go.Proofs.Ythjiokbokncpoaa.Rf
