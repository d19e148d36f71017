/- The call of a function whose meaning is known. -/
import Derived.Test.YthjiokbokncpoaaRfO
namespace Go.Proofs.Ythjiokbokncpoaa.Rf
open Go

variable {P : Program} {B : Base} {hp : Hp} {g : Gm} {w : World} {nid : Nat} {A : Nat → Prop}

theorem OwnRd.rd : ∀ {t : Ty} {cs : List Value} {x : den t} {O : List Nat}, noOwn t = true → OwnRd w A t cs x O → Rd w A t cs x ∧ O = []
  | .int _, _, _, _, _, h => h
  | .bool, _, _, _, _, h => h
  | .str, _, _, _, _, h => h
  | .sl _, _, _, _, _, h => h
  | .own _, _, _, _, hn, _ => by simp [noOwn] at hn
  | .unit, _, _, _, _, h => h
  | .pair a b, _, _, _, hn, h => by
    simp only [noOwn, Bool.and_eq_true] at hn
    obtain ⟨c1, c2, O1, O2, h1, rfl, h3, h4⟩ := h
    obtain ⟨k1, rfl⟩ := OwnRd.rd hn.1 h3
    obtain ⟨k2, rfl⟩ := OwnRd.rd hn.2 h4
    exact ⟨⟨c1, c2, h1, k1, k2⟩, rfl⟩

theorem packAll_pack {hp : Hp} {t : Ty} {cs : List CV} {x : den t} (h : packAll hp t cs = some x) : pack hp t cs = some (x, []) := by
  unfold packAll at h
  split at h
  · rename_i x' h1
    obtain rfl := Option.some.inj h
    exact h1
  · cases h

theorem packAll_own (hI : Inv B hp g w) {t : Ty} {cs : List CV} {vs : List Value} {x : den t} (hc : concCs w (Im B hp g w) g cs vs) (h : packAll hp t cs = some x) :
    OwnRd w (With B hp g w (slIds t cs).1) t vs x (bo g (ownIds t cs).1) ∧ AliveIds hp (ownIds t cs).1 ∧ AliveIds hp (slIds t cs).1 ∧ cs.length = csz t := by
  obtain ⟨k1, k2, k3, k4, _, _, k7⟩ := pack_own hI hc (packAll_pack h)
  have hl : cs.length = csz t := by
    have := congrArg List.length k2
    simp at this; omega
  rw [List.take_of_length_le (by rw [← hc.1]; omega)] at k1
  exact ⟨k1, k4, k7, hl⟩

theorem shape_of {av : AV} {v : Value} {t : Ty} (h : conc w A g av v) (hf : av.fits t = true) (hd : av.cells.all CV.isDef = true) : ShapeOk t v := by
  cases av with
  | c x =>
    simp only [AV.fits, Bool.not_eq_true'] at hf
    unfold ShapeOk
    rw [hf]
    exact (concC.one h (by simpa [AV.cells] using hd)).2
  | agg cs =>
    simp only [AV.fits] at hf
    unfold ShapeOk
    rw [hf]
    obtain ⟨vs, h1, _⟩ := h
    exact ⟨vs, h1⟩
  | tup ps => simp [AV.fits] at hf

theorem boxOf_some {hp : Hp} {av : AV} {i : Nat} {cs : List CV} (h : boxOf hp av = some (i, cs)) : av = .c (.ptr i 0) ∧ hp i = some (.box cs) := by
  unfold boxOf at h
  split at h
  · rename_i j
    split at h
    · rename_i cs' hj
      obtain ⟨rfl, rfl⟩ := Prod.mk.inj (Option.some.inj h)
      exact ⟨rfl, hj⟩
    · cases h
  · cases h

theorem packArg_ok (hI : Inv B hp g w) {p : PM} {av : AV} {v : Value} (hv : conc w (Im B hp g w) g av v) {x : den p.ty} {os ms fs : List Nat} (h : packArg hp p av = some (x, os, ms, fs)) :
    ArgOk w (With B hp g w (ms ++ fs)) p v x (bo g os) ∧ AliveIds hp os ∧ AliveIds hp ms ∧ AliveIds hp fs := by
  cases p with
  | imm t =>
    simp only [packArg] at h
    split at h
    · rename_i hok
      simp only [Bool.and_eq_true] at hok
      split at h
      · rename_i x' hx
        obtain ⟨rfl, rfl, rfl, rfl⟩ : x' = x ∧ [] = os ∧ (slIds t av.cells).1 = ms ∧ [] = fs := by simpa using h
        have hd := packAll_def hx
        obtain ⟨hcs, _⟩ := hv.cells hok.1 hd
        obtain ⟨k1, _, k3, _⟩ := packAll_own hI hcs hx
        refine ⟨⟨shape_of hv hok.1 hd, ?_, rfl⟩, fun i hi => (by cases hi), k3, fun i hi => (by cases hi)⟩
        rw [List.append_nil]
        exact (k1.rd hok.2).1
      · cases h
    · cases h
  | lent t =>
    simp only [packArg] at h
    split at h
    · rename_i hok
      split at h
      · rename_i x' hx
        obtain ⟨rfl, rfl, rfl, rfl⟩ : x' = x ∧ (ownIds t av.cells).1 = os ∧ (slIds t av.cells).1 = ms ∧ [] = fs := by simpa using h
        have hd := packAll_def hx
        obtain ⟨hcs, _⟩ := hv.cells hok hd
        obtain ⟨k1, k2, k3, _⟩ := packAll_own hI hcs hx
        refine ⟨⟨shape_of hv hok hd, ?_⟩, k2, k3, fun i hi => (by cases hi)⟩
        rw [List.append_nil]
        exact k1
      · cases h
    · cases h
  | take t =>
    simp only [packArg] at h
    split at h
    · rename_i hok
      split at h
      · rename_i x' hx
        obtain ⟨rfl, rfl, rfl, rfl⟩ : x' = x ∧ (ownIds t av.cells).1 = os ∧ [] = ms ∧ (slIds t av.cells).1 = fs := by simpa using h
        have hd := packAll_def hx
        obtain ⟨hcs, _⟩ := hv.cells hok hd
        obtain ⟨k1, k2, k3, _⟩ := packAll_own hI hcs hx
        exact ⟨⟨shape_of hv hok hd, k1⟩, k2, fun i hi => (by cases hi), k3⟩
      · cases h
    · cases h
  | ref t =>
    simp only [packArg] at h
    split at h
    · rename_i i cs hb
      obtain ⟨rfl, hi⟩ := boxOf_some hb
      split at h
      · rename_i x' hx
        obtain ⟨rfl, rfl, rfl, rfl⟩ : x' = x ∧ i :: (ownIds t cs).1 = os ∧ [] = ms ∧ (slIds t cs).1 = fs := by simpa using h
        obtain ⟨b, hg, rfl⟩ := hv
        obtain ⟨b', vs, el, hg', hbk, hcs⟩ := hI.ob i _ hi
        rw [hg] at hg'
        obtain rfl : b = b' := by simpa using hg'
        obtain ⟨k1, k2, k3, _⟩ := packAll_own hI hcs hx
        refine ⟨⟨b, vs, el, _, rfl, hbk, k1, ?_⟩, fun j hj => ?_, fun i hi => (by cases hi), k3⟩
        · simp [bo, hg, Gh.blk]
        · rcases List.mem_cons.1 hj with rfl | hj
          · rw [hi]; simp
          · exact k2 j hj
      · cases h
    · cases h

theorem ArgOk.mono {A' : Nat → Prop} (hA : ∀ b, A b → A' b) {p : PM} {v : Value} {x : den p.ty} {O : List Nat} (h : ArgOk w A p v x O) : ArgOk w A' p v x O := by
  cases p with
  | imm t => exact ⟨h.1, Rd.mono hA h.2.1, h.2.2⟩
  | lent t => exact ⟨h.1, h.2.mono hA⟩
  | take t => exact ⟨h.1, h.2.mono hA⟩
  | ref t => obtain ⟨b, vs, el, O', h1, h2, h3, h4⟩ := h; exact ⟨b, vs, el, O', h1, h2, h3.mono hA, h4⟩

theorem ArgsOk.mono {A' : Nat → Prop} (hA : ∀ b, A b → A' b) : ∀ {ps : List PM} {vs : List Value} {x : den (inTy ps)} {O : List Nat}, ArgsOk w A ps vs x O → ArgsOk w A' ps vs x O
  | [], _, _, _, h => h
  | _ :: _, _, _, _, h => by
    obtain ⟨v, vs', O1, O2, h1, h2, h3, h4⟩ := h
    exact ⟨v, vs', O1, O2, h1, h2, h3.mono hA, ArgsOk.mono hA h4⟩

def concL (w : World) (A : Nat → Prop) (g : Gm) (avs : List AV) (vs : List Value) : Prop := avs.length = vs.length ∧ ∀ i (h : i < avs.length) (h' : i < vs.length), conc w A g avs[i] vs[i]

theorem concL.tail {av : AV} {avs : List AV} {v : Value} {vs : List Value} (h : concL w A g (av :: avs) (v :: vs)) : conc w A g av v ∧ concL w A g avs vs :=
  ⟨h.2 0 (by simp) (by simp), by have := h.1; simpa using this, fun i hi hi' => by
    have := h.2 (i + 1) (by simpa using hi) (by simpa using hi')
    simpa using this⟩

theorem packArgs_ok (hI : Inv B hp g w) : ∀ {ps : List PM} {avs : List AV} {vs : List Value} {x : den (inTy ps)} {os ms fs : List Nat}, concL w (Im B hp g w) g avs vs → packArgs hp ps avs = some (x, os, ms, fs) →
    ArgsOk w (With B hp g w (ms ++ fs)) ps vs x (bo g os) ∧ AliveIds hp os ∧ AliveIds hp ms ∧ AliveIds hp fs
  | [], [], [], _, _, _, _, _, h => by
    obtain ⟨rfl, rfl, rfl⟩ : [] = _ ∧ [] = _ ∧ [] = _ := by simpa [packArgs] using h
    exact ⟨⟨rfl, rfl⟩, fun i hi => (by cases hi), fun i hi => (by cases hi), fun i hi => (by cases hi)⟩
  | [], [], _ :: _, _, _, _, _, hc, _ => by have := hc.1; simp at this
  | [], _ :: _, _, _, _, _, _, _, h => by simp [packArgs] at h
  | _ :: _, [], _, _, _, _, _, _, h => by simp [packArgs] at h
  | _ :: _, _ :: _, [], _, _, _, _, hc, _ => by have := hc.1; simp at this
  | p :: ps, av :: avs, v :: vs, _, _, _, _, hc, h => by
    obtain ⟨hv, hc'⟩ := hc.tail
    simp only [packArgs] at h
    split at h
    · rename_i x1 o m f h1
      split at h
      · rename_i y o' m' f' h2
        obtain ⟨rfl, rfl, rfl, rfl⟩ : (x1, y) = _ ∧ o ++ o' = _ ∧ m ++ m' = _ ∧ f ++ f' = _ := by simpa using h
        obtain ⟨a1, a2, a3, a4⟩ := packArg_ok hI hv h1
        obtain ⟨b1, b2, b3, b4⟩ := packArgs_ok hI hc' h2
        have al : ∀ {u v : List Nat}, AliveIds hp u → AliveIds hp v → AliveIds hp (u ++ v) := fun h1 h2 i hi => (List.mem_append.1 hi).elim (h1 i) (h2 i)
        refine ⟨⟨v, vs, bo g o, bo g o', rfl, bo_append _ _ _, a1.mono fun b hb => With.mono (fun i hi => ?_) hb, b1.mono fun b hb => With.mono (fun i hi => ?_) hb⟩, al a2 b2, al a3 b3, al a4 b4⟩
        · simp only [List.mem_append] at hi ⊢; rcases hi with hi | hi <;> simp [hi]
        · simp only [List.mem_append] at hi ⊢; rcases hi with hi | hi <;> simp [hi]
      · cases h
    · cases h

theorem muts_ok {w0 : World} {hp : Hp} {g : Gm} (hI : Inv B hp g w0) {w : World} {A : Nat → Prop} : ∀ {ps : List PM} {avs : List AV} {vs : List Value} {x : den (inTy ps)} {os ms fs : List Nat} (n : Nat) {y : den (mutTy ps)} {Om : List Nat},
    concL w0 (Im B hp g w0) g avs vs → packArgs hp ps avs = some (x, os, ms, fs) → MutsOk w A ps vs y Om →
    (backNews n ps y).map Prod.fst = List.range' n (cntPs ps) ∧ ((backWrites hp n ps avs y).map Prod.fst).Sublist os ∧ (∀ i ∈ os, i ∈ (backWrites hp n ps avs y).map Prod.fst ∨ i ∈ backKills hp ps avs) ∧
      (∀ i ∈ fs, i ∈ backKills hp ps avs) ∧
      ∃ gs : List Gh, gs.length = cntPs ps ∧ Om.Perm (bo g ((backWrites hp n ps avs y).map Prod.fst) ++ gs.filterMap Gh.blk) ∧
        ∀ g', g.le g' → Ghosts g' n gs → (∀ p ∈ backWrites hp n ps avs y, ObOk w A g' p.1 p.2) ∧ ∀ p ∈ backNews n ps y, ObOk w A g' p.1 p.2
  | [], [], [], _, _, _, _, n, _, _, _, h, hm => by
    obtain ⟨rfl, rfl, rfl⟩ : [] = _ ∧ [] = _ ∧ [] = _ := by simpa [packArgs] using h
    refine ⟨rfl, List.Sublist.refl _, fun i hi => (by cases hi), fun i hi => (by cases hi), [], rfl, ?_, fun g' _ _ => ⟨fun p hp => by simp [backWrites] at hp, fun p hp => by simp [backNews] at hp⟩⟩
    have : _ = [] := hm
    rw [this]; exact List.Perm.refl _
  | [], [], _ :: _, _, _, _, _, _, _, _, hc, _, _ => by have := hc.1; simp at this
  | [], _ :: _, _, _, _, _, _, _, _, _, _, h, _ => by simp [packArgs] at h
  | _ :: _, [], _, _, _, _, _, _, _, _, _, h, _ => by simp [packArgs] at h
  | _ :: _, _ :: _, [], _, _, _, _, _, _, _, hc, _, _ => by have := hc.1; simp at this
  | p :: ps, av :: avs, v :: vs, _, _, _, _, n, y, Om, hc, h, hm => by
    obtain ⟨hv, hc'⟩ := hc.tail
    simp only [packArgs] at h
    split at h
    · rename_i x1 o m f h1
      split at h
      · rename_i y2 o' m' f' h2
        obtain ⟨rfl, rfl, rfl, rfl⟩ : (x1, y2) = _ ∧ o ++ o' = _ ∧ m ++ m' = _ ∧ f ++ f' = _ := by simpa using h
        cases p with
        | imm t =>
          obtain ⟨v', vs', e1, hm'⟩ := hm
          obtain ⟨rfl, rfl⟩ := List.cons.inj e1
          obtain ⟨k1, k2, k3, k4, gs, k5, k6, k7⟩ := muts_ok hI n hc' h2 hm'
          have ho : o = [] ∧ f = [] := by
            simp only [packArg] at h1
            split at h1
            · split at h1
              · obtain ⟨_, h3, _, h4⟩ : _ ∧ [] = o ∧ _ ∧ [] = f := by simpa using h1
                exact ⟨h3.symm, h4.symm⟩
              · cases h1
            · cases h1
          obtain ⟨rfl, rfl⟩ := ho
          exact ⟨k1, k2, k3, k4, gs, k5, k6, k7⟩
        | take t =>
          obtain ⟨v', vs', e1, hm'⟩ := hm
          obtain ⟨rfl, rfl⟩ := List.cons.inj e1
          obtain ⟨k1, k2, k3, k4, gs, k5, k6, k7⟩ := muts_ok hI n hc' h2 hm'
          have ho : o = (ownIds t av.cells).1 ∧ f = (slIds t av.cells).1 := by
            simp only [packArg] at h1
            split at h1
            · split at h1
              · obtain ⟨_, h3, _, h4⟩ : _ ∧ (ownIds t av.cells).1 = o ∧ _ ∧ (slIds t av.cells).1 = f := by simpa using h1
                exact ⟨h3.symm, h4.symm⟩
              · cases h1
            · cases h1
          obtain ⟨rfl, rfl⟩ := ho
          refine ⟨k1, k2.trans (List.sublist_append_right _ _), fun i hi => ?_, fun i hi => ?_, gs, k5, k6, k7⟩
          · rcases List.mem_append.1 hi with hi | hi
            · right; simp [backKills, hi]
            · exact (k3 i hi).imp id fun h => by simp [backKills, h]
          · rcases List.mem_append.1 hi with hi | hi
            · simp [backKills, hi]
            · have := k4 i hi; simp [backKills, this]
        | lent t =>
          obtain ⟨v', vs', O1, O2, e1, rfl, hm1, hm'⟩ := hm
          obtain ⟨rfl, rfl⟩ := List.cons.inj e1
          obtain ⟨k1, k2, k3, k4, gs, k5, k6, k7⟩ := muts_ok hI n hc' h2 hm'
          simp only [packArg] at h1
          split at h1
          · rename_i hok
            split at h1
            · rename_i x' hx
              obtain ⟨_, rfl, _, rfl⟩ : x' = x1 ∧ (ownIds t av.cells).1 = o ∧ _ ∧ [] = f := by simpa using h1
              obtain ⟨hcs, _⟩ := hv.cells hok (packAll_def hx)
              have hl := (packAll_own hI hcs hx).2.2.2
              obtain ⟨_, _, q3, q4, q5⟩ := rewriteOwn_ok hI (A := A) (w := w) hcs (packAll_pack hx) (x := y.1) (O := O1) (by rw [List.take_of_length_le (by rw [← hcs.1]; omega)]; exact hm1)
              refine ⟨k1, ?_, fun i hi => ?_, fun i hi => ?_, gs, k5, ?_, fun g' hle hgs => ?_⟩
              · simp only [backWrites, List.map_append, q3]
                exact List.Sublist.append (List.Sublist.refl _) k2
              · simp only [backWrites, List.map_append, q3, List.mem_append] at hi ⊢
                rcases hi with hi | hi
                · exact .inl (.inl hi)
                · rcases k3 i hi with h | h
                  · exact .inl (.inr h)
                  · exact .inr (by simpa [backKills] using h)
              · rw [List.nil_append] at hi
                simpa [backKills] using k4 i hi
              · simp only [backWrites, List.map_append, q3, bo_append, q4, List.append_assoc]
                exact List.Perm.append_left _ k6
              · obtain ⟨r1, r2⟩ := k7 g' hle hgs
                refine ⟨fun p hp => ?_, r2⟩
                simp only [backWrites, List.mem_append] at hp
                exact hp.elim (q5 g' hle p) (r1 p)
            · cases h1
          · cases h1
        | ref t =>
          obtain ⟨v', vs', O1, O2, e1, rfl, hm1, hm'⟩ := hm
          obtain ⟨rfl, rfl⟩ := List.cons.inj e1
          obtain ⟨k1, k2, k3, k4, gs, k5, k6, k7⟩ := muts_ok hI (n + cnt t) hc' h2 hm'
          simp only [packArg] at h1
          split at h1
          · rename_i i cs hb
            obtain ⟨rfl, hi⟩ := boxOf_some hb
            split at h1
            · rename_i x' hx
              obtain ⟨_, rfl, _, rfl⟩ : x' = x1 ∧ i :: (ownIds t cs).1 = o ∧ _ ∧ (slIds t cs).1 = f := by simpa using h1
              obtain ⟨b, hg, rfl⟩ := hv
              obtain ⟨b', us, el, O', hp', hbk, hown, rfl⟩ := hm1
              obtain rfl : b = b' := by
                have := hp'
                simp only [Value.pointer.injEq, Option.some.injEq, Addr.mk.injEq] at this
                exact this.1
              obtain ⟨u1, gs1, u2, u3, u4⟩ := unpack_ok n hown
              refine ⟨?_, ?_, fun j hj => ?_, fun j hj => ?_, gs1 ++ gs, by simp [cntPs, u2, k5], ?_, fun g' hle hgs => ?_⟩
              · simp only [backNews, List.map_append, u1, k1, cntPs]
                rw [List.range'_append_1]
              · simp only [backWrites, hb, List.map_append, List.map_cons, List.map_nil]
                exact List.Sublist.append (List.Sublist.cons_cons _ (List.nil_sublist _)) k2
              · simp only [backWrites, hb, backKills, List.map_append, List.map_cons, List.map_nil, List.mem_append, List.mem_cons] at hj ⊢
                rcases hj with (rfl | hj) | hj
                · exact .inl (.inl (.inl rfl))
                · exact .inr (.inl (.inl hj))
                · rcases k3 j hj with h | h
                  · exact .inl (.inr h)
                  · exact .inr (.inr h)
              · simp only [backKills, hb, List.mem_append] at hj ⊢
                rcases hj with hj | hj
                · exact .inl (.inr hj)
                · exact .inr (k4 j hj)
              · simp only [backWrites, hb, List.map_append, List.map_cons, List.map_nil, bo_append, List.filterMap_append, u3]
                have e : bo g [i] = [b] := by simp [bo, hg, Gh.blk]
                rw [e]
                refine ((List.Perm.append_left (b :: O') k6).trans ?_)
                simp only [List.singleton_append, List.cons_append]
                refine List.Perm.cons _ ?_
                rw [← List.append_assoc, ← List.append_assoc]
                exact List.Perm.append_right _ List.perm_append_comm
              · obtain ⟨r1, r2⟩ := u4 g' hgs.left
                obtain ⟨s1, s2⟩ := k7 g' hle (by have := hgs.right; rw [u2] at this; exact this)
                refine ⟨fun p hp => ?_, fun p hp => ?_⟩
                · simp only [backWrites, hb, List.mem_append, List.mem_singleton] at hp
                  rcases hp with rfl | hp
                  · exact ⟨b, us, el, hle _ _ hg, hbk, r1⟩
                  · exact s1 p hp
                · simp only [backNews, List.mem_append] at hp
                  exact hp.elim (r2 p) (s2 p)
            · cases h1
          · cases h1
      · cases h
    · cases h

end Go.Proofs.Ythjiokbokncpoaa.Rf
