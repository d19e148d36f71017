/- Numbers, texts, conversions, parts of values: the machine does what the plain reading says. -/
import Derived.Test.YthjiokbokncpoaaRfG
import Derived.Laws.StructEq
namespace Go.Proofs.Ythjiokbokncpoaa.Rf
open Go

variable {P : Program} {B : Base} {hp : Hp} {g : Gm} {w : World} {nid : Nat} {A : Nat → Prop}

theorem bif_some {α : Type} {b : Bool} {x : Option α} {r : α} (h : (bif b then x else none) = some r) : b = true ∧ x = some r := by
  cases b with
  | true => exact ⟨rfl, h⟩
  | false => cases h

theorem map_val {α β : Type} (f : α → β) (x : CT α) : (x.map f).val = x.val.map f := by
  induction x with
  | fail => rfl
  | ok a => rfl
  | test b x ih => cases b <;> simp [CT.map, CT.val, ih]
  | call c k ih => cases c <;> simp [CT.map, CT.val, ih]

theorem intBin_runs {op : BinOp} {t : TypeId} {k : IntKind} {x y : Int} {c : CV} (h : (intBin op k x y).val = some c) (hop : op ≠ .shl ∧ op ≠ .shr) :
    ∃ v, (binOp op t (.int k x) (.int k y)).run P w = .ok v w ∧ concC w A g c v := by
  cases op <;> simp only [intBin, CT.val] at h <;> try (first | exact absurd rfl hop.1 | exact absurd rfl hop.2)
  case quo =>
    obtain ⟨h0, h1⟩ := bif_some h
    obtain rfl := Option.some.inj h1
    have hy : y ≠ 0 := by simpa using h0
    exact ⟨_, by simp [binOp, Op.intDiv, hy], rfl⟩
  case rem =>
    obtain ⟨h0, h1⟩ := bif_some h
    obtain rfl := Option.some.inj h1
    have hy : y ≠ 0 := by simpa using h0
    exact ⟨_, by simp [binOp, Op.intDiv, hy], rfl⟩
  all_goals
    first
    | (obtain rfl := Option.some.inj h; refine ⟨_, ?_, rfl⟩; simp only [binOp, ne_eq, not_true_eq_false, if_false]; rfl)
    | cases h

theorem strBin_runs {op : BinOp} {t : TypeId} {x y : ByteArray} {c : CV} (h : (strBin op x y).val = some c) :
    ∃ v, (binOp op t (.string x) (.string y)).run P w = .ok v w ∧ concC w A g c v := by
  cases op <;> simp only [strBin, CT.val] at h
  case add =>
    obtain ⟨h0, h1⟩ := bif_some h
    obtain rfl := Option.some.inj h1
    have hy : x.size + y.size ≤ 9223372036854775807 := by simpa using h0
    refine ⟨_, ?_, rfl⟩
    simp only [binOp, Op.stringOp, Sem.run_ite]
    rw [if_neg (by
      have e : IntKind.i64.max = 9223372036854775807 := by decide
      rw [e]; omega)]
    rfl
  all_goals
    first
    | (obtain rfl := Option.some.inj h; exact ⟨_, rfl, rfl⟩)
    | cases h

theorem shift_runs {op : BinOp} {t : TypeId} {k k' : IntKind} {x y : Int} (hy : 0 ≤ y) :
    (op = .shl → (binOp op t (.int k x) (.int k' y)).run P w = .ok (.int k (shlv k x y)) w) ∧ (op = .shr → (binOp op t (.int k x) (.int k' y)).run P w = .ok (.int k (shrv k x y)) w) := by
  refine ⟨fun h => ?_, fun h => ?_⟩ <;> subst h <;> simp only [binOp, Op.shift, Sem.run_ite] <;> rw [if_neg (by omega)] <;> rfl

theorem guard_of (op : BinOp) (t : TypeId) (x y : Operand) {c : CV} {v u : Value} (h : concC w A g c v) (hd : ∃ k n, c = .int k n ∨ (∃ s, c = .str s) ∨ (∃ b, c = .bool b)) :
    eqGuard op t x y v u = pure () := by
  obtain ⟨k, n, rfl | ⟨s, rfl⟩ | ⟨b, rfl⟩⟩ := hd <;> obtain rfl := h <;> cases op <;> rfl

theorem binOpA_runs {op : BinOp} {t : TypeId} {x y : Operand} {a b : CV} {u v : Value} {c : CV} (ha : concC w A g a u) (hb : concC w A g b v) (h : (binOpA op a b).val = some c) :
    ∃ r, (do eqGuard op t x y u v; binOp op t u v : Sem Value).run P w = .ok r w ∧ concC w A g c r := by
  cases a <;> simp only [binOpA] at h <;> try (cases h; done)
  · rename_i k n
    cases b <;> simp only at h <;> try (cases h; done)
    rename_i k' m
    have hg := guard_of op t x y (u := v) ha ⟨k, n, .inl rfl⟩
    obtain rfl := ha; obtain rfl := hb
    rw [hg]
    by_cases h1 : op = .shl
    · subst h1
      simp only [CT.val] at h
      obtain ⟨h0, h2⟩ := bif_some h
      obtain rfl := Option.some.inj h2
      exact ⟨_, by simpa using (shift_runs (P := P) (w := w) (t := t) (k := k) (k' := k') (x := n) (by simpa using h0)).1 rfl, rfl⟩
    · by_cases h2 : op = .shr
      · subst h2
        simp only [CT.val] at h
        obtain ⟨h0, h2⟩ := bif_some h
        obtain rfl := Option.some.inj h2
        exact ⟨_, by simpa using (shift_runs (P := P) (w := w) (t := t) (k := k) (k' := k') (x := n) (by simpa using h0)).2 rfl, rfl⟩
      · have h3 : (if k = k' then intBin op k n m else .fail : CT CV).val = some c := by
          cases op <;> first | exact absurd rfl h1 | exact absurd rfl h2 | exact h
        split at h3
        · rename_i hk
          subst hk
          obtain ⟨r, h4, h5⟩ := intBin_runs (P := P) (w := w) (t := t) (A := A) (g := g) h3 ⟨h1, h2⟩
          exact ⟨r, by simpa using h4, h5⟩
        · cases h3
  · rename_i s
    cases b <;> simp only at h <;> try (cases h; done)
    rename_i s'
    have hg := guard_of op t x y (u := v) ha ⟨.i64, 0, .inr (.inl ⟨s, rfl⟩)⟩
    obtain rfl := ha; obtain rfl := hb
    rw [hg]
    obtain ⟨r, h4, h5⟩ := strBin_runs (P := P) (w := w) (t := t) (A := A) (g := g) h
    exact ⟨r, by simpa using h4, h5⟩

theorem boolEq_runs {t : TypeId} {x y : Operand} {a b : Bool} (hr : Rep P t .bool) :
    (do eqGuard .eql t x y (.bool a) (.bool b); binOp .eql t (.bool a) (.bool b) : Sem Value).run P w = .ok (.bool (a == b)) w ∧
    (do eqGuard .neq t x y (.bool a) (.bool b); binOp .neq t (.bool a) (.bool b) : Sem Value).run P w = .ok (.bool (!(a == b))) w := by
  have he : (Op.equal t (.bool a) (.bool b)).run P w = .ok (a == b) w := by
    unfold Op.equal
    rw [show Op.maxDepth = 9999 + 1 from rfl]
    exact run_equalIn_bool' w 9999 t a b hr.und_bool
  constructor <;> simp [eqGuard, binOp, he]

theorem unOpA_runs {op : UnOp} {x c : CV} {u : Value} (hx : concC w A g x u) (h : (unOpA op x).val = some c) : ∃ r, (Op.unary op u).run P w = .ok r w ∧ concC w A g c r := by
  cases op <;> cases x <;> simp only [unOpA] at h <;> (try (cases h; done)) <;> (obtain rfl := hx; obtain rfl := Option.some.inj h; exact ⟨_, rfl, rfl⟩)

/-! ### conversions -/
theorem Rep.und_some {t : TypeId} {ty : Ty} (h : Rep P t ty) : ∃ d, P.underlying t = some d := by
  obtain ⟨f⟩ := h.f
  exact ⟨f.d, f.und⟩

theorem conv_int {s d : TypeId} {k0 k k' : IntKind} {n : Int} (hs : Rep P s (.int k0)) (hd : Rep P d (.int k)) : (convert s d (.int k' n)).run P w = .ok (.int k (k.wrap n)) w := by
  simp [convert, underlying, hs.und_int, hd.und_int, Conv.intToInt]
theorem conv_str {s d : TypeId} {b : ByteArray} (hs : Rep P s .str) (hd : Rep P d .str) : (convert s d (.string b)).run P w = .ok (.string b) w := by
  simp [convert, underlying, hs.und_str, hd.und_str]

theorem foldl_push (ns : List Int) (s : ByteArray) : (ns.foldl (fun r n => r.push (UInt8.ofNat n.toNat)) s).data.toList = s.data.toList ++ ns.map fun n => UInt8.ofNat n.toNat := by
  induction ns generalizing s with
  | nil => simp
  | cons n ns ih => simp only [List.foldl_cons, ih, ByteArray.data_push, Array.toList_push, List.map_cons, List.append_assoc, List.singleton_append]

theorem bytesOf_fold (ns : List Int) : ns.foldl (fun r n => r.push (UInt8.ofNat n.toNat)) ByteArray.empty = bytesOf ns := by
  have := foldl_push ns ByteArray.empty
  unfold bytesOf
  generalize hx : ns.foldl (fun r n => r.push (UInt8.ofNat n.toNat)) ByteArray.empty = x at this
  cases x with
  | mk d =>
    have h2 : d.toList = ns.map fun n => UInt8.ofNat n.toNat := by rw [this]; rfl
    congr 1
    rw [← h2]

theorem rd_ints {k : IntKind} {cs : List Value} {l : List Int} (h : RdLs (Rd w A (.int k)) (csz (.int k)) cs l) : cs.take l.length = l.map (.int k) := by
  apply List.ext_getElem?
  intro i
  rcases Nat.lt_or_ge i l.length with hi | hi
  · have := h i hi
    simp only [Rd, csz, Nat.mul_one] at this
    rw [List.getElem?_take_of_lt hi, List.getElem?_map, List.getElem?_eq_getElem hi]
    have e : (cs.drop i)[0]? = ((cs.drop i).take 1)[0]? := by rw [List.getElem?_take_of_lt (by omega)]
    rw [List.getElem?_drop] at e
    rw [Nat.add_zero] at e
    rw [e, this]; rfl
  · rw [List.getElem?_eq_none (by simp; omega), List.getElem?_eq_none (by simpa using hi)]

theorem conv_bytes {s d : TypeId} {v : Value} {l : List Int} (hs : Rep P s (.sl (.int .u8))) (hd : Rep P d .str) (hv : Rd w A (.sl (.int .u8)) [v] l) :
    (convert s d v).run P w = .ok (.string (bytesOf l)) w := by
  obtain ⟨et, hu, hre⟩ := hs.und_sl
  rcases hv with ⟨h, hl⟩ | ⟨b, off, cap, vs, el, fz, h, _, _, hb, hr⟩
  · obtain rfl := (List.cons.inj h).1
    subst hl
    simp [convert, underlying, hu, hd.und_str, hre.und_int, Conv.bytesToString]
    rfl
  · obtain rfl := (List.cons.inj h).1
    have hl := rd_ints hr
    have hlen : off + l.length ≤ vs.size ∨ l.length = 0 := by
      have := congrArg List.length hl
      simp at this
      omega
    have hload : (loadCells ⟨b, off, none⟩ (List.length l)).run P w = .ok (l.map (Value.int .u8)).toArray w := by
      rcases hlen with hlen | hlen
      · rw [loadCells_blk hb hlen, hl]
      · have : l = [] := List.length_eq_zero_iff.1 hlen
        subst this
        simp [loadCells, loadCellsFrom]
    have := run_bytesToString (P := P) w ⟨b, off, none⟩ (List.length l) cap l hload
    simp only [convert, underlying, Sem.run_bind, run_program, Result.andThen_ok, hu, hd.und_str, hre.und_int, Sem.run_pure]
    rw [this, bytesOf_fold]

end Go.Proofs.Ythjiokbokncpoaa.Rf
