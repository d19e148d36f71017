/- Functions: the machine's call does what the evaluator says. -/
import Derived.Test.YthjiokbokncpoaaRfY
namespace Go.Proofs.Ythjiokbokncpoaa.Rf
open Go

variable {P : Program} {B : Base} {cfg : Cfg}

theorem mkVal_conc {w : World} {A : Nat → Prop} {g : Gm} {t : Ty} {v : Value} {cs : List CV} (hs : ShapeOk t v) (hc : concCs w A g cs v.cells.toList) (hl : cs.length = csz t) : conc w A g (mkVal t cs) v := by
  have h := part_of_shape hs hc hl
  unfold PartOk at h
  unfold mkVal
  simp only at h
  cases ht : isStr t with
  | true => rw [ht] at h; exact h
  | false =>
    rw [ht] at h
    simp only [Bool.false_eq_true, if_false] at h ⊢
    obtain ⟨x, rfl, h2⟩ := h
    exact h2

theorem parA_ok {w : World} {A : Nat → Prop} {p : PM} (n : Nat) {v : Value} {x : den p.ty} {O : List Nat} (h : ArgOk w A p v x O) :
    (parA n p x).2.map Prod.fst = List.range' n (cntP p) ∧ ∃ gs : List Gh, gs.length = cntP p ∧ gs.filterMap Gh.blk = O ∧ ∀ g', Ghosts g' n gs → conc w A g' (parA n p x).1 v ∧ ∀ q ∈ (parA n p x).2, ObOk w A g' q.1 q.2 := by
  have val : ∀ {t : Ty} {x : den t} {O : List Nat}, ShapeOk t v → OwnRd w A t v.cells.toList x O → (unpack n t x).2.map Prod.fst = List.range' n (cnt t) ∧ ∃ gs : List Gh, gs.length = cnt t ∧ gs.filterMap Gh.blk = O ∧
      ∀ g', Ghosts g' n gs → conc w A g' (mkVal t (unpack n t x).1) v ∧ ∀ q ∈ (unpack n t x).2, ObOk w A g' q.1 q.2 := by
    intro t x O hs ho
    obtain ⟨k1, gs, k2, k3, k4⟩ := unpack_ok n ho
    refine ⟨k1, gs, k2, k3, fun g' hg => ?_⟩
    obtain ⟨q1, q2⟩ := k4 g' hg
    exact ⟨mkVal_conc hs q1 (unpack_cells_len n t x), q2⟩
  cases p with
  | imm t =>
    obtain ⟨h1, h2, rfl⟩ := h
    exact val h1 (OwnRd.of_rd h2)
  | lent t => exact val h.1 h.2
  | take t => exact val h.1 h.2
  | ref t =>
    obtain ⟨b, vs, el, O', rfl, h1, h2, rfl⟩ := h
    obtain ⟨k1, gs, k2, k3, k4⟩ := unpack_ok (n + 1) h2
    refine ⟨?_, .box b :: gs, by simp [k2, cntP], by simp [k3, Gh.blk], fun g' hg => ?_⟩
    · simp only [parA, List.map_cons, k1, cntP]
      rw [List.range'_succ]
    · have hg' : Ghosts g' n ([.box b] ++ gs) := hg
      have h0 := hg 0 (by simp)
      simp only [Nat.add_zero, List.getElem_cons_zero] at h0
      obtain ⟨q1, q2⟩ := k4 g' hg'.right
      refine ⟨⟨b, h0, rfl⟩, fun q hq => ?_⟩
      simp only [parA, List.mem_cons] at hq
      rcases hq with rfl | hq
      · exact ⟨b, vs, el, h0, h1, q1⟩
      · exact q2 q hq

theorem parsA_ok {w : World} {A : Nat → Prop} : ∀ {ps : List PM} (n : Nat) {vs : List Value} {x : den (inTy ps)} {O : List Nat}, ArgsOk w A ps vs x O →
    (parsA n ps x).2.map Prod.fst = List.range' n (cntIn ps) ∧ ps.length = vs.length ∧ ∃ gs : List Gh, gs.length = cntIn ps ∧ gs.filterMap Gh.blk = O ∧
      ∀ g', Ghosts g' n gs → concL w A g' (parsA n ps x).1 vs ∧ ∀ q ∈ (parsA n ps x).2, ObOk w A g' q.1 q.2
  | [], n, _, _, _, h => by obtain ⟨rfl, rfl⟩ := h; exact ⟨rfl, rfl, [], rfl, rfl, fun g' _ => ⟨⟨rfl, fun i hi => by simp [parsA] at hi⟩, fun q hq => by simp [parsA] at hq⟩⟩
  | p :: ps, n, _, x, _, h => by
    obtain ⟨v, vs', O1, O2, rfl, rfl, h1, h2⟩ := h
    obtain ⟨k1, gs1, k2, k3, k4⟩ := parA_ok n h1
    obtain ⟨m1, ml, gs2, m2, m3, m4⟩ := parsA_ok (n + cntP p) h2
    refine ⟨?_, by simp [ml], gs1 ++ gs2, by simp [cntIn, k2, m2], by simp [k3, m3], fun g' hg => ?_⟩
    · simp only [parsA, List.map_append, k1, m1, cntIn]
      rw [List.range'_append_1]
    · obtain ⟨q1, q2⟩ := k4 g' hg.left
      obtain ⟨⟨r0, r1⟩, r2⟩ := m4 g' (by have := hg.right; rw [k2] at this; exact this)
      refine ⟨⟨by simp [parsA, r0], fun i hi hi' => ?_⟩, fun q hq => ?_⟩
      · cases i with
        | zero => exact q1
        | succ i => exact r1 i (by simpa [parsA] using hi) (by simpa using hi')
      · simp only [parsA, List.mem_append] at hq
        exact hq.elim (q2 q) (r2 q)

theorem listHp_in {us : List (Nat × Ob)} {i : Nat} {ob : Ob} (h : listHp us i = some ob) : (i, ob) ∈ us := by
  by_cases hk : i ∈ us.map Prod.fst
  · -- the last entry of that number
    unfold listHp at h
    have key : ∀ (hp : Hp) (us : List (Nat × Ob)), updHp hp (lift us) i = some ob → (i, ob) ∈ us ∨ hp i = some ob := by
      intro hp us
      induction us generalizing hp with
      | nil => intro h; exact .inr h
      | cons q us ih =>
        intro h
        rcases ih (setHp hp q.1 (some q.2)) h with h1 | h1
        · exact .inl (by simp [h1])
        · unfold setHp at h1
          split at h1
          · rename_i e
            obtain rfl := Option.some.inj h1
            subst e
            exact .inl (by simp)
          · exact .inr h1
    rcases key _ us h with h1 | h1
    · exact h1
    · cases h1
  · unfold listHp at h
    rw [updHp_out hk] at h
    cases h

theorem entry_ok {w : World} {A : Nat → Prop} {fn : Func} {ps : List PM} {x : den (inTy ps)} {vs : Array Value} {O : List Nat} (hargs : ArgsOk w A ps vs.toList x O) (hn : O.Nodup) (hA : ∀ b, A b → b < w.heap.size ∧ b ∉ O)
    (hO : ∀ b ∈ O, b < w.heap.size) : ∃ g0 : List Gh, g0.length = cntIn ps ∧ g0.filterMap Gh.blk = O ∧
      SInv ⟨w, A, O⟩ (ps.length + (fn.ntmps - ps.length)) g0 (entrySt fn ps x) { tmps := vs ++ Array.replicate (fn.ntmps - vs.size) undef, defers := [] } w ∧
      (∀ g', Ghosts g' 0 g0 → concL w A g' (parsA 0 ps x).1 vs.toList) := by
  obtain ⟨k1, k0, gs, k2, k3, k4⟩ := parsA_ok 0 hargs
  have hvs : vs.size = ps.length := by simpa using k0.symm
  let g : Gm := fun j => gs[j]?
  have hgh : Ghosts g 0 gs := fun k hk => by show gs[0 + k]? = _; rw [Nat.zero_add, List.getElem?_eq_getElem hk]
  obtain ⟨c1, c2⟩ := k4 g hgh
  have hblk : ∀ i b, BlkOf (listHp (parsA 0 ps x).2) g i b → b ∈ O ∧ ∃ h : i < gs.length, gs[i].blk = some b := by
    rintro i b ⟨ob, gh, h1, h2, h3⟩
    have h2' : gs[i]? = some gh := h2
    obtain ⟨hlt, he⟩ := List.getElem?_eq_some_iff.1 h2'
    subst he
    exact ⟨by rw [← k3]; exact List.mem_filterMap.2 ⟨_, List.getElem_mem hlt, h3⟩, hlt, h3⟩
  have hIm : ∀ b, A b → Im ⟨w, A, O⟩ (listHp (parsA 0 ps x).2) g w b := by
    intro b hb
    refine ⟨(hA b hb).1, .inl hb, fun ha => ?_⟩
    obtain ⟨i, hi⟩ := alive_iff.1 ha
    exact (hA b hb).2 (hblk i b hi).1
  refine ⟨gs, k2, k3, ⟨g, ⟨⟨rfl, rfl, rfl, Nat.le_refl _, fun _ _ _ => rfl⟩, ?_, ?_, ?_⟩, ?_, ?_, rfl, ?_, hgh⟩, fun g' hg' => (k4 g' hg').1⟩
  · intro i ob hi
    exact (c2 (i, ob) (listHp_in hi)).mono hIm
  · intro i ob gh b h1 h2 h3
    obtain ⟨hb, _⟩ := hblk i b ⟨ob, gh, h1, h2, h3⟩
    exact ⟨hO b hb, .inr hb⟩
  · intro i j oi oj gi gj b h1 h2 h3 h4 h5 h6
    obtain ⟨_, hi, ei⟩ := hblk i b ⟨oi, gi, h1, h3, h5⟩
    obtain ⟨_, hj, ej⟩ := hblk j b ⟨oj, gj, h2, h4, h6⟩
    exact filterMap_inj (by rw [k3]; exact hn) hi hj ei ej
  · have hl : (parsA 0 ps x).1.length = vs.size := by simpa using c1.1
    refine ⟨by simp [entrySt, hl, hvs], fun i hi hi' => ?_⟩
    simp only [entrySt] at hi ⊢
    rcases Nat.lt_or_ge i (parsA 0 ps x).1.length with h | h
    · rw [List.getElem_append_left h, Array.getElem_append_left (by omega)]
      have := c1.2 i h (by simp; omega)
      simp only [Array.getElem_toList] at this
      exact this.frame (fun b hb => ⟨hIm b hb, rfl⟩) (Gm.le_refl g)
    · rw [List.getElem_append_right h, List.getElem_replicate]
      trivial
  · intro i hi
    show gs[i]? = none
    exact List.getElem?_eq_none (by rw [k2]; exact hi)
  · simp only [entrySt, List.length_append, List.length_replicate]
    have hl : (parsA 0 ps x).1.length = vs.size := by simpa using c1.1
    omega

/-! ### results -/
def retRun (tmps : Array Value) : ResultVar → Sem Value
  | .tmp t => pure (tmps.getD t undef)
  | .cell a t => do loadVar t (← asAddr (tmps.getD a undef))

theorem retCells_ok {g : Gm} {w : World} {s : St} {a : Act} (hte : teB P cfg.te = true) (hI : Inv B s.hp g w) (htm : concTm w (Im B s.hp g w) g s.tm a.tmps) {r : Ty} {v : ResultVar} {cs : List CV} (h : retCells cfg.te s r v = some cs)
    (hd : cs.all CV.isDef = true) : ∃ val, (retRun a.tmps v).run P w = .ok val w ∧ ShapeOk r val ∧ concCs w (Im B s.hp g w) g cs val.cells.toList := by
  cases v with
  | tmp t =>
    simp only [retCells] at h
    obtain ⟨h1, h2⟩ := bif_some h
    obtain rfl := Option.some.inj h2
    have hc := evalA_conc htm (.tmp t)
    exact ⟨a.tmps.getD t undef, rfl, shape_of hc h1 hd, (hc.cells h1 hd).1⟩
  | cell z t =>
    simp only [retCells] at h
    split at h
    · rename_i i j off hi hz
      split at h
      · rename_i cs0 hj
        obtain ⟨h1, h2⟩ := bif_some h
        obtain rfl := Option.some.inj h2
        simp only [Bool.and_eq_true, decide_eq_true_eq, beq_iff_eq] at h1
        obtain ⟨⟨h1, h3⟩, h4⟩ := h1
        have hc := evalA_conc htm (.tmp z)
        have hz' : evalA s.tm (.tmp z) = .c (.ptr j off) := hz
        rw [hz'] at hc
        obtain ⟨b, hg, hp⟩ := hc
        have hp : a.tmps.getD z undef = .pointer (some ⟨b, off, none⟩) := hp
        obtain ⟨b', vs, el, hg', hb, hcs⟩ := hI.ob j _ hj
        rw [hg] at hg'
        obtain rfl : b = b' := by simpa using hg'
        have hsz : vs.size = cs0.length := by have := hcs.1; simp at this; omega
        have hrep := (teB_ok hte hi).rep
        have hload := loadAt_blk (P := P) (off := off) hrep hb (by omega) csz_one
        have hrun : (retRun a.tmps (.cell z t)).run P w = .ok (if isStr i.ty then .agg ((vs.toList.drop off).take (csz i.ty)).toArray else vs.toList.getD off undef) w := by
          rw [← hload]
          simp only [retRun, hp, asAddr, Instr.loadAt, Instr.sureAddr, Sem.run_bind, Sem.run_pure, Result.andThen_ok]
        refine ⟨_, hrun, ?_, ?_⟩
        · unfold ShapeOk
          rw [← h4]
          cases hs : isStr i.ty with
          | true => exact ⟨_, rfl⟩
          | false =>
            simp only [Bool.false_eq_true, if_false]
            have hc1 := csz_one hs
            have hlt : off < cs0.length := by omega
            have hlt' : off < vs.toList.length := by simp; omega
            have := hcs.2 off hlt hlt'
            have e : vs.toList.getD off undef = vs.toList[off] := by
              rw [List.getD_eq_getElem?_getD, List.getElem?_eq_getElem hlt']; rfl
            rw [e]
            refine (concC.one this ?_).2
            refine List.all_eq_true.1 hd _ ?_
            have e2 : (cs0.drop off).take (csz i.ty) = [cs0[off]] := by rw [hc1, List.drop_eq_getElem_cons hlt]; rfl
            rw [e2]; simp
        · cases hs : isStr i.ty with
          | true => simpa [Value.cells] using (hcs.drop off).take (csz i.ty)
          | false =>
            simp only [Bool.false_eq_true, if_false]
            have hc1 := csz_one hs
            have hlt : off < cs0.length := by omega
            have hlt' : off < vs.toList.length := by simp; omega
            have h5 := hcs.2 off hlt hlt'
            have e : vs.toList.getD off undef = vs.toList[off] := by
              rw [List.getD_eq_getElem?_getD, List.getElem?_eq_getElem hlt']; rfl
            have e2 : (cs0.drop off).take (csz i.ty) = [cs0[off]] := by rw [hc1, List.drop_eq_getElem_cons hlt]; rfl
            rw [e, e2]
            rw [e2] at hd
            rw [(concC.one h5 (by simpa using hd)).2]
            exact .single h5
      · cases h
    · cases h

theorem packRet_ok {g : Gm} {w : World} {s : St} {a : Act} (hte : teB P cfg.te = true) (hI : Inv B s.hp g w) (htm : concTm w (Im B s.hp g w) g s.tm a.tmps) {r : RM} {v : ResultVar} {x : den r.ty} {o m : List Nat}
    (h : packRet cfg.te s r v = some (x, o, m)) : ∃ val, (retRun a.tmps v).run P w = .ok val w ∧ ResOk w (With B s.hp g w m) r val x (bo g o) ∧ AliveIds s.hp o ∧ AliveIds s.hp m := by
  cases r with
  | val t =>
    simp only [packRet] at h
    split at h
    · rename_i cs hcs
      split at h
      · rename_i y hy
        obtain ⟨rfl, rfl, rfl⟩ : y = x ∧ (ownIds t cs).1 = o ∧ (slIds t cs).1 = m := by simpa using h
        obtain ⟨val, h1, h2, h3⟩ := retCells_ok hte hI htm hcs (packAll_def hy)
        obtain ⟨k1, k2, k3, _⟩ := packAll_own hI h3 hy
        exact ⟨val, h1, ⟨h2, k1⟩, k2, k3⟩
      · cases h
    · cases h
  | ptr t =>
    simp only [packRet] at h
    split at h
    · rename_i z
      split at h
      · rename_i i cs hb
        obtain ⟨hav, hi⟩ := boxOf_some hb
        split at h
        · rename_i y hy
          obtain ⟨rfl, rfl, rfl⟩ : y = x ∧ i :: (ownIds t cs).1 = o ∧ (slIds t cs).1 = m := by simpa using h
          have hc := evalA_conc htm (.tmp z)
          have hz' : evalA s.tm (.tmp z) = .c (.ptr i 0) := hav
          rw [hz'] at hc
          obtain ⟨b, hg, hp⟩ := hc
          obtain ⟨b', vs, el, hg', hbk, hcs⟩ := hI.ob i _ hi
          rw [hg] at hg'
          obtain rfl : b = b' := by simpa using hg'
          obtain ⟨k1, k2, k3, _⟩ := packAll_own hI hcs hy
          refine ⟨_, rfl, ⟨b, vs, el, _, hp, hbk, k1, ?_⟩, fun j hj => ?_, k3⟩
          · simp [bo, hg, Gh.blk]
          · rcases List.mem_cons.1 hj with rfl | hj
            · rw [hi]; simp
            · exact k2 j hj
        · cases h
      · cases h
    · cases h

theorem aliveIds_append {hp : Hp} {u v : List Nat} (h1 : AliveIds hp u) (h2 : AliveIds hp v) : AliveIds hp (u ++ v) := fun i hi => (List.mem_append.1 hi).elim (h1 i) (h2 i)

theorem With.left {B : Base} {hp : Hp} {g : Gm} {w : World} {is js : List Nat} {b : Nat} (h : With B hp g w is b) : With B hp g w (is ++ js) b := With.mono (fun i hi => by simp [hi]) h
theorem With.right {B : Base} {hp : Hp} {g : Gm} {w : World} {is js : List Nat} {b : Nat} (h : With B hp g w js b) : With B hp g w (is ++ js) b := With.mono (fun i hi => by simp [hi]) h

theorem ResOk.mono {w : World} {A A' : Nat → Prop} (hA : ∀ b, A b → A' b) {r : RM} {v : Value} {x : den r.ty} {O : List Nat} (h : ResOk w A r v x O) : ResOk w A' r v x O := by
  cases r with
  | val t => exact ⟨h.1, h.2.mono hA⟩
  | ptr t => exact BoxAt.of h (fun h => h.mono hA)

theorem packRets_ok {g : Gm} {w : World} {s : St} {a : Act} (hte : teB P cfg.te = true) (hI : Inv B s.hp g w) (htm : concTm w (Im B s.hp g w) g s.tm a.tmps) : ∀ {rs : List RM} {vs : List ResultVar} {x : den (resTy rs)} {o m : List Nat},
    packRets cfg.te s rs vs = some (x, o, m) → ∃ us, (vs.mapM (retRun a.tmps)).run P w = .ok us w ∧ RessOk w (With B s.hp g w m) rs us x (bo g o) ∧ AliveIds s.hp o ∧ AliveIds s.hp m
  | [], [], _, _, _, h => by
    obtain ⟨rfl, rfl⟩ : [] = _ ∧ [] = _ := by simpa [packRets] using h
    exact ⟨[], by simp, ⟨rfl, rfl⟩, fun i hi => (by cases hi), fun i hi => (by cases hi)⟩
  | [], _ :: _, _, _, _, h => by simp [packRets] at h
  | _ :: _, [], _, _, _, h => by simp [packRets] at h
  | r :: rs, v :: vs, _, _, _, h => by
    simp only [packRets] at h
    split at h
    · rename_i x1 o1 m1 h1
      split at h
      · rename_i y o2 m2 h2
        obtain ⟨rfl, rfl, rfl⟩ : (x1, y) = _ ∧ o1 ++ o2 = _ ∧ m1 ++ m2 = _ := by simpa using h
        obtain ⟨val, k1, k2, k3, k4⟩ := packRet_ok hte hI htm h1
        obtain ⟨us, n1, n2, n3, n4⟩ := packRets_ok hte hI htm h2
        refine ⟨val :: us, ?_, ⟨val, us, bo g o1, bo g o2, rfl, bo_append _ _ _, k2.mono fun b hb => hb.left, n2.mono fun b hb => hb.right⟩, aliveIds_append k3 n3, aliveIds_append k4 n4⟩
        simp only [List.mapM_cons, Sem.run_bind, k1, Result.andThen_ok, n1, Sem.run_pure]
      · cases h
    · cases h

theorem mkVal_cells {w : World} {A : Nat → Prop} {g : Gm} {t : Ty} {v : Value} {cs : List CV} (hs : ShapeOk t v) (hc : conc w A g (mkVal t cs) v) (hl : cs.length = csz t) : concCs w A g cs v.cells.toList := by
  unfold mkVal at hc
  unfold ShapeOk at hs
  cases ht : isStr t with
  | true =>
    rw [ht] at hc
    obtain ⟨vs, rfl, h⟩ := hc
    exact h
  | false =>
    rw [ht] at hc hs
    simp only [Bool.false_eq_true, if_false] at hc hs
    rw [csz_one ht] at hl
    match cs, hl with
    | [c], _ => rw [hs]; exact .single hc

/-- the arguments that were lent, at the end -/
theorem packMuts_ok {g : Gm} {w : World} {s : St} (hI : Inv B s.hp g w) {w0 : World} {A : Nat → Prop} : ∀ {ps : List PM} (n : Nat) {vs : List Value} {x : den (inTy ps)} {O : List Nat} {z : den (mutTy ps)} {o m : List Nat},
    ArgsOk w0 A ps vs x O → concL w (Im B s.hp g w) g (parsA n ps x).1 vs → packMuts s n ps x = some (z, o, m) →
    MutsOk w (With B s.hp g w m) ps vs z (bo g o) ∧ AliveIds s.hp o ∧ AliveIds s.hp m
  | [], n, vs, _, _, _, _, _, _, _, h => by
    obtain ⟨rfl, rfl⟩ : [] = _ ∧ [] = _ := by simpa [packMuts] using h
    exact ⟨rfl, fun i hi => (by cases hi), fun i hi => (by cases hi)⟩
  | .imm t :: ps, n, _, x, _, z, o, m, ha, hcl, h => by
    obtain ⟨v, vs', O1, O2, rfl, rfl, ha1, ha2⟩ := ha
    obtain ⟨k1, k2, k3⟩ := packMuts_ok hI (n + cnt t) ha2 hcl.tail.2 h
    exact ⟨⟨v, vs', rfl, k1⟩, k2, k3⟩
  | .take t :: ps, n, _, x, _, z, o, m, ha, hcl, h => by
    obtain ⟨v, vs', O1, O2, rfl, rfl, ha1, ha2⟩ := ha
    obtain ⟨k1, k2, k3⟩ := packMuts_ok hI (n + cnt t) ha2 hcl.tail.2 h
    exact ⟨⟨v, vs', rfl, k1⟩, k2, k3⟩
  | .lent t :: ps, n, _, x, _, _, _, _, ha, hcl, h => by
    obtain ⟨v, vs', O1, O2, rfl, rfl, ha1, ha2⟩ := ha
    simp only [packMuts] at h
    split at h
    · rename_i y hy
      split at h
      · rename_i z o m hz
        obtain ⟨rfl, rfl, rfl⟩ : (y, z) = _ ∧ (ownIds t (unpack n t x.1).1).1 ++ o = _ ∧ (slIds t (unpack n t x.1).1).1 ++ m = _ := by simpa using h
        obtain ⟨h1, h2⟩ := hcl.tail
        obtain ⟨k1, k2, k3⟩ := packMuts_ok hI (n + cnt t) ha2 h2 hz
        obtain ⟨q1, q2, q3, _⟩ := packAll_own hI (mkVal_cells ha1.1 h1 (unpack_cells_len n t x.1)) hy
        exact ⟨⟨v, vs', _, _, rfl, bo_append _ _ _, q1.mono fun b hb => hb.left, k1.mono fun b hb => hb.right⟩, aliveIds_append q2 k2, aliveIds_append q3 k3⟩
      · cases h
    · cases h
  | .ref t :: ps, n, _, x, _, _, _, _, ha, hcl, h => by
    obtain ⟨v, vs', O1, O2, rfl, rfl, ha1, ha2⟩ := ha
    simp only [packMuts] at h
    split at h
    · rename_i cs hn
      split at h
      · rename_i y hy
        split at h
        · rename_i z o m hz
          obtain ⟨rfl, rfl, rfl⟩ : (y, z) = _ ∧ n :: ((ownIds t cs).1 ++ o) = _ ∧ (slIds t cs).1 ++ m = _ := by simpa using h
          obtain ⟨h1, h2⟩ := hcl.tail
          obtain ⟨k1, k2, k3⟩ := packMuts_ok hI (n + (cnt t + 1)) ha2 h2 hz
          obtain ⟨b, hg, hp⟩ := h1
          obtain ⟨b', vs, el, hg', hbk, hcs⟩ := hI.ob n _ hn
          rw [hg] at hg'
          obtain rfl : b = b' := by simpa using hg'
          obtain ⟨q1, q2, q3, _⟩ := packAll_own hI hcs hy
          refine ⟨⟨v, vs', b :: bo g (ownIds t cs).1, bo g o, rfl, ?_, ⟨b, vs, el, _, hp, hbk, q1.mono fun b hb => hb.left, rfl⟩, k1.mono fun b hb => hb.right⟩, ?_, aliveIds_append q3 k3⟩
          · have e : bo g (n :: ((ownIds t cs).1 ++ o)) = b :: bo g ((ownIds t cs).1 ++ o) := by simp [bo, hg, Gh.blk]
            rw [e, bo_append]; rfl
          · intro j hj
            rcases List.mem_cons.1 hj with rfl | hj
            · rw [hn]; simp
            · exact aliveIds_append q2 k2 j hj
        · cases h
      · cases h
    · cases h

theorem exit_ok {fn : Func} {ps : List PM} {rs : List RM} {w0 : World} {A : Nat → Prop} {O : List Nat} (hte : teB P cfg.te = true) {c : FC} (_hps : c.ps = ps) (_hrs : c.rs = rs) {vs : List Value} {x : den (inTy ps)} (hargs : ArgsOk w0 A ps vs x O)
    {nt : Nat} {g0 : List Gh} (hent : ∀ g', Ghosts g' 0 g0 → concL w0 A g' (parsA 0 ps x).1 vs) (hA : ∀ b, A b → b < w0.heap.size ∧ b ∉ O) {s : St} {a : Act} {w : World} (hI : SInv ⟨w0, A, O⟩ nt g0 s a w) (_hg0 : g0.filterMap Gh.blk = O)
    {y : den (resTy rs) × den (mutTy ps)} (h : exitF cfg.te fn ps rs x s = some y) :
    a.defers = [] ∧ ∃ v, (results fn a.tmps).run P w = .ok v w ∧ FPost ⟨0, ps, rs, fun _ => none⟩ w0 A O vs y (.returned v) w := by
  obtain ⟨g, hInv, htm, hfr, hdf, hlen, hgh⟩ := hI
  refine ⟨hdf, ?_⟩
  unfold exitF at h
  split at h
  · rename_i y1 o m h1
    split at h
    · rename_i z o' m' h2
      obtain ⟨hchk, h⟩ := bif_some h
      obtain rfl := Option.some.inj h
      simp only [Bool.and_eq_true] at hchk
      have hnd := nodupB_iff hchk.1
      have hdj := disjB_iff hchk.2
      obtain ⟨us, k1, k2, k3, k4⟩ := packRets_ok hte hInv htm h1
      -- what the arguments read at first lies still
      have hO : ∀ b ∈ O, ∀ i, BlkOf s.hp g i b → True := fun _ _ _ _ => trivial
      have hAf : ∀ b, A b → Im ⟨w0, A, O⟩ s.hp g w b ∧ w.heap[b]? = w0.heap[b]? := by
        intro b hb
        obtain ⟨hb1, hb2⟩ := hA b hb
        refine ⟨⟨Nat.lt_of_lt_of_le hb1 hInv.fr.size, .inl hb, fun ha => ?_⟩, hInv.fr.block b hb1 hb2⟩
        obtain ⟨i, hi⟩ := alive_iff.1 ha
        rcases (hInv.blk' hi).2 with h | h
        · have h' : w0.heap.size ≤ b := h
          omega
        · exact hb2 h
      have hcl0 := hent g hgh
      have hcl : concL w (Im ⟨w0, A, O⟩ s.hp g w) g (parsA 0 ps x).1 vs := ⟨hcl0.1, fun i hi hi' => (hcl0.2 i hi hi').frame hAf (Gm.le_refl g)⟩
      obtain ⟨m1, m2, m3⟩ := packMuts_ok hInv 0 hargs hcl h2
      have hal := aliveIds_append k3 m2
      have hmem : ∀ b, b ∈ bo g o ++ bo g o' → ∃ i ∈ o ++ o', BlkOf s.hp g i b := by
        intro b hb
        rw [← bo_append] at hb
        exact bo_blkOf hal hb
      have hW : ∀ b, With ⟨w0, A, O⟩ s.hp g w (m ++ m') b → After w0 w A O (bo g o ++ bo g o') b := by
        rintro b (hb | ⟨i, hi, hb⟩)
        · refine ⟨hb.1, hb.2.1, fun hm => ?_⟩
          obtain ⟨j, _, hj⟩ := hmem b hm
          exact hb.2.2 (alive_iff.2 ⟨j, hj⟩)
        · refine ⟨(hInv.blk' hb).1, ?_, fun hm => ?_⟩
          · exact .inr (hInv.blk' hb).2
          · obtain ⟨j, hj, hjb⟩ := hmem b hm
            have := hInv.inj' hb hjb
            subst this
            exact hdj i hi hj
      refine ⟨resV us, ?_, ⟨hInv.fr.os, hInv.fr.tape, hInv.fr.output, hInv.fr.size, hInv.fr.block⟩, us, bo g o, bo g o', rfl, k2.mono fun b hb => hW b hb.left, m1.mono fun b hb => hW b hb.right, ?_, fun b hb => ?_⟩
      · unfold results
        simp only [Sem.run_bind, Array.mapM_eq_mapM_toList]
        have e : (fn.results.toList.mapM fun
            | .tmp t => pure (a.tmps.getD t undef)
            | .cell z t => do loadVar t (← asAddr (a.tmps.getD z undef)) : Sem (List Value)) = fn.results.toList.mapM (retRun a.tmps) := by
          congr 1
        rw [Sem.run_map]
        erw [e, k1]
        simp only [Result.andThen_ok, Sem.run_pure]
        match us with
        | [] => rfl
        | [u] => rfl
        | u :: u2 :: us => rfl
      · rw [← bo_append]
        exact bo_nodup hInv hal hnd
      · obtain ⟨i, _, hi⟩ := hmem b hb
        exact hInv.blk' hi
    · cases h
  · cases h

/-- THE LAW: what the evaluator says of a function's text, the machine's call does. -/
theorem fn_sound (hm : P.follows .mixedOrders = true) (hte : teB P cfg.te = true) (hfs : AllSound P cfg.fs) {c : FC} {fn : Func} {cd : Code} (hf : P.funcs[c.id]? = some fn) (hname : (fn.name == "runtime.NumGoroutine") = false)
    (hbody : fn.body = some cd) (an : An) (han : anOk (bodyOf fn) an = true) (hev : ∀ x y, c.sem x = some y → ∃ k, evF an cfg k fn c.ps c.rs x = some y) : FSound P c := by
  refine ⟨⟨fn, cd, hf, hname, hbody⟩, fun x y hy w A vs O hargs hn hA hO => ?_⟩
  obtain ⟨k, h⟩ := hev x y hy
  obtain ⟨g0, e1, e2, e3, e4⟩ := entry_ok (fn := fn) hargs hn hA hO
  refine calls_of_wp hf hbody ?_
  have hb : bodyOf fn = cd := by simp [bodyOf, hbody]
  unfold evF at h
  have hfin : ∀ s a w', exitF cfg.te fn c.ps c.rs x s = some y → SInv ⟨w, A, O⟩ (fuOf an cfg fn c.ps).nt g0 s a w' → bodyPost P fn (FPost c w A O vs.toList y) .normal a w' ∧ bodyPost P fn (FPost c w A O vs.toList y) .ret a w' := fun s a w' h1 h2 => by
    obtain ⟨q1, v, q2, q3⟩ := exit_ok (c := c) (fn := fn) hte rfl rfl hargs e4 hA h2 e2 h1
    have key : bodyPost P fn (FPost c w A O vs.toList y) .ret a w' := ⟨q1, v, q2, ⟨q3.fr, q3.res⟩⟩
    exact ⟨key, key⟩
  have hlen : (fuOf an cfg fn c.ps).m = g0.length := e1.symm
  have o := orc_sound (fu := fuOf an cfg fn c.ps) (B := ⟨w, A, O⟩) hm hte hfs hlen han hfin k (fun _ _ _ => True) (fun _ _ _ _ _ _ _ _ _ _ => trivial)
  obtain ⟨c', hc', hw⟩ := evU_sound (fu := fuOf an cfg fn c.ps) hm hte hfs hlen ⟨fun _ _ _ _ _ _ _ _ => trivial, o.1, o.2⟩ hfin big .run [] _ _ w h e3
  have h0 : nodeAt (bodyOf fn) [] = some cd := by rw [hb]; cases cd <;> rfl
  obtain rfl : cd = c' := by simpa using h0.symm.trans hc'
  exact hw

/-- what is known of a function whose text is read -/
noncomputable def mkC (id : FuncId) (ps : List PM) (rs : List RM) (an : An) (cfg : Cfg) (k : Nat) (fn : Func) : FC := ⟨id, ps, rs, fun x => evF an cfg k fn ps rs x⟩

theorem mkC_sound {id : FuncId} {ps : List PM} {rs : List RM} {an : An} {k : Nat} {fn : Func} (hm : P.follows .mixedOrders = true) (hte : teB P cfg.te = true) (hfs : AllSound P cfg.fs) (hf : P.funcs[id]? = some fn) (hname : (fn.name == "runtime.NumGoroutine") = false)
    (hbody : fn.body = some (bodyOf fn)) (han : anOk (bodyOf fn) an = true) : FSound P (mkC id ps rs an cfg k fn) :=
  fn_sound hm hte hfs hf hname hbody an han (fun _ _ h => ⟨k, h⟩)

end Go.Proofs.Ythjiokbokncpoaa.Rf
