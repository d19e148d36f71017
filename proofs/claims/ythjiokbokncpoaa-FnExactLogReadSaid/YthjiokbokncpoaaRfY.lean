/- Code: the machine does what the evaluator says. -/
import Derived.Test.YthjiokbokncpoaaRfX
namespace Go.Proofs.Ythjiokbokncpoaa.Rf
open Go

variable {P : Program} {B : Base} {cfg : Cfg} {ops : Array Oper}

def SInv (B : Base) (nt : Nat) (g0 : List Gh) (s : St) (a : Act) (w : World) : Prop :=
  ∃ g, Inv B s.hp g w ∧ concTm w (Im B s.hp g w) g s.tm a.tmps ∧ (∀ i, s.nx ≤ i → g i = none) ∧ a.defers = [] ∧ s.tm.length = nt ∧ Ghosts g 0 g0

/-! ### regions -/
theorem set_same {tm : List AV} {d : Nat} {v : AV} (h : tm.getD d (.c .undef) = v) : tm.set d v = tm := by
  apply List.ext_getElem?
  intro i
  by_cases hi : d = i
  · subst hi
    rcases Nat.lt_or_ge d tm.length with hlt | hge
    · rw [List.getElem?_set_self hlt, List.getElem?_eq_getElem hlt]
      simp [hlt] at h
      rw [h]
    · rw [List.getElem?_eq_none (by simpa using hge), List.getElem?_eq_none hge]
  · rw [List.getElem?_set_ne hi]

theorem evOps_run {R : Type} {base : Nat} {draw : Bool} {r : R} {K : List AV → Hp → List Rec → Option R} : ∀ {L : List (Nat × Oper)} {rcs : List Rec} {tm : List AV} {hp : Hp}, evOps cfg ops base draw L rcs tm hp K = some r →
    ∃ rcs' s', RunR cfg ops base draw L ⟨tm, hp⟩ rcs' s' ∧ K s'.tm s'.hp (rcs'.reverse ++ rcs) = some r
  | [], rcs, tm, hp, h => ⟨[], ⟨tm, hp⟩, ⟨rfl, rfl⟩, by simpa [evOps] using h⟩
  | (i, o) :: L, rcs, tm, hp, h => by
    have hgo : ∀ {tm : List AV}, wantedA ops o tm = some true → ((stepOp cfg (evalA tm) (view draw tm hp o.op) (base + 16 * i) o.op).run fun p =>
        evOps cfg ops base draw L (⟨i, fpOf tm hp o.op, p.2.map (·.1)⟩ :: rcs) (putA tm o.dst p.1) (updHp hp p.2) K) = some r →
        ∃ rcs' s', RunR cfg ops base draw ((i, o) :: L) ⟨tm, hp⟩ rcs' s' ∧ K s'.tm s'.hp (rcs'.reverse ++ rcs) = some r := by
      intro tm hw h
      rw [CT.run_val] at h
      cases hv : (stepOp cfg (evalA tm) (view draw tm hp o.op) (base + 16 * i) o.op).val with
      | none => rw [hv] at h; cases h
      | some p =>
        rw [hv] at h
        simp only [Option.bind_some] at h
        obtain ⟨rcs', s', h1, h2⟩ := evOps_run h
        refine ⟨⟨i, fpOf tm hp o.op, p.2.map (·.1)⟩ :: rcs', s', ⟨⟨putA tm o.dst p.1, updHp hp p.2⟩, _, rcs', ?_, rfl, h1⟩, by simpa using h2⟩
        unfold StepR
        simp only [hw]
        exact ⟨p.1, p.2, hv, rfl, rfl⟩
    have hskip : ∀ {tm : List AV}, wantedA ops o tm = some false → evOps cfg ops base draw L (⟨i, [], []⟩ :: rcs) (putA tm o.dst (.c .nov)) hp K = some r →
        ∃ rcs' s', RunR cfg ops base draw ((i, o) :: L) ⟨tm, hp⟩ rcs' s' ∧ K s'.tm s'.hp (rcs'.reverse ++ rcs) = some r := by
      intro tm hw h
      obtain ⟨rcs', s', h1, h2⟩ := evOps_run h
      refine ⟨⟨i, [], []⟩ :: rcs', s', ⟨⟨putA tm o.dst (.c .nov), hp⟩, _, rcs', ?_, rfl, h1⟩, by simpa using h2⟩
      unfold StepR
      simp only [hw]
      exact ⟨trivial, trivial⟩
    unfold evOps at h
    simp only at h
    split at h
    · rename_i hg
      exact hgo (by unfold wantedA; rw [hg]) h
    · rename_i j pol hg
      split at h
      · cases h
      · rename_i d hd
        split at h
        · rename_i b hb
          have hw : ∀ c, b = c → wantedA ops o tm = some (c == pol) := by
            intro c hc
            unfold wantedA
            simp only [hg, hd, hb, hc]
          cases b with
          | true =>
            have hs : tm.set d (.c (.bool true)) = tm := set_same hb
            simp only [cond_true] at h
            rw [hs] at h
            cases pol with
            | true => exact hgo (hw true rfl) h
            | false => exact hskip (hw true rfl) h
          | false =>
            have hs : tm.set d (.c (.bool false)) = tm := set_same hb
            simp only [cond_false] at h
            rw [hs] at h
            cases pol with
            | true => exact hskip (hw false rfl) h
            | false => exact hgo (hw false rfl) h
        · rename_i hb
          exact hskip (by unfold wantedA; simp only [hg, hd, hb]) h
        · cases h

theorem pairsB_pw {bs : List Nat} : ∀ {l : List Rec}, pairsB ops bs l = true → l.Pairwise (fun a b => pairOk ops bs a b = true)
  | [], _ => List.Pairwise.nil
  | a :: r, h => by
    simp only [pairsB, Bool.and_eq_true] at h
    exact List.Pairwise.cons (fun b hb => List.all_eq_true.1 h.1 b hb) (pairsB_pw h.2)

theorem zip_swap_map (l : List Oper) (k : Nat) : (l.zipIdx k |>.map fun p => (p.2, p.1)).map (·.1) = List.range' k l.length := by
  rw [List.map_map]
  have : (fun p : Nat × Oper => p.1) ∘ (fun p : Oper × Nat => (p.2, p.1)) = Prod.snd := rfl
  rw [this]
  simp

theorem concTm_len {w : World} {A : Nat → Prop} {g : Gm} {tm : List AV} {ts : Array Value} (h : concTm w A g tm ts) : tm.length = ts.size := h.1

theorem runR_len {base : Nat} {draw : Bool} : ∀ {L : List (Nat × Oper)} {s s' : RS} {rcs : List Rec}, RunR cfg ops base draw L s rcs s' → s'.tm.length = s.tm.length
  | [], _, _, _, h => by rw [h.2]
  | (i, o) :: L, s, s', _, h => by
    obtain ⟨s1, rc, rcs', h1, _, h2⟩ := h
    rw [runR_len h2]
    have hput : ∀ (v : AV), (putA s.tm o.dst v).length = s.tm.length := by intro v; cases o.dst <;> simp [putA]
    unfold StepR at h1
    split at h1
    · obtain ⟨_, _, _, rfl, _⟩ := h1; exact hput _
    · obtain ⟨rfl, _⟩ := h1; exact hput _
    · exact h1.elim

theorem evRegion_sound {R : Type} (hm : P.follows .mixedOrders = true) (hte : teB P cfg.te = true) (hfs : AllSound P cfg.fs) {nt : Nat} {g0 : List Gh} {draw : Bool} {s : St} {K : St → Option R} {r : R} (h : evRegion cfg ops draw s K = some r) {a : Act} {w : World}
    (hI : SInv B nt g0 s a w) {Q : Exit → Act → World → Prop} (hQ : ∀ s' a' w', K s' = some r → SInv B nt g0 s' a' w' → Q .normal a' w') (id : Nat) : (Code.region id ops draw).wp P Q a w := by
  unfold evRegion at h
  obtain ⟨rcs, s', hrun, hK⟩ := evOps_run h
  obtain ⟨g, hInv, htm, hfr, hdf, hlen, hg0⟩ := hI
  have hend : ∀ s2, K s2 = some r → s2.tm = s'.tm → s2.hp = s'.hp → s2.nx = s.nx + 16 * ops.size → ∀ a w, RInv B g0 s.nx (fun k => k < ops.size) s' a w → Q .normal a w := by
    intro s2 hs2 e1 e2 e3 a w ⟨g', h1, h2, h3, h4, h5⟩
    refine hQ s2 a w hs2 ⟨g', by rw [e2]; exact h1, by rw [e1, e2]; exact h2, fun i hi => ?_, h4, ?_, h5⟩
    · cases hg : g' i with
      | none => rfl
      | some gh =>
        rcases h3 i (by rw [hg]; simp) with h7 | ⟨k, hk, h7, h6⟩
        · omega
        · omega
    · rw [e1, runR_len hrun]; exact hlen
  have hstart : ∀ (done : Nat → Prop) (w' : World), w'.heap = w.heap → w'.os = w.os → w'.tape = w.tape → w'.output = w.output → RInv B g0 s.nx done ⟨s.tm, s.hp⟩ a w' := by
    intro done w' e1 e2 e3 e4
    obtain ⟨k1, k2⟩ := hInv.same e1 e2 e3 e4
    refine ⟨g, k1, htm.frame k2 (Gm.le_refl g), fun i hi => .inl ?_, hdf, hg0⟩
    rcases Nat.lt_or_ge i s.nx with h | h
    · exact h
    · exact absurd (hfr i h) hi
  cases draw with
  | false =>
    simp only [cond_false] at hK
    refine wp_region ?_
    rw [List.range_eq_range', ← Array.length_toList]
    exact seq_sound hte hfs (hend _ hK rfl rfl rfl) ops.toList 0 ⟨s.tm, s.hp⟩ rcs a w (fun j => by simp) (by simp) hrun (hstart _ w rfl rfl rfl rfl)
  | true =>
    simp only [cond_true, List.append_nil, List.reverse_reverse] at hK
    have hchk := bif_some hK
    obtain ⟨hchk, hK⟩ := hchk
    simp only [Bool.and_eq_true] at hchk
    refine wp_region_any hm ?_
    have hbs : ∀ i j, ((befs ops.toList []).getD i 0).testBit j = true → AncP ops j i := befs_spec ops.toList [] (fun k => by simp) (fun i j h => by simp at h)
    have hget : ∀ j : Nat, (Array.replicate ops.size false).getD j false = false := fun j => getD_replicate_false _ _
    refine any_sound (base := s.nx) (sEnd := s') hte hfs (hend _ hK rfl rfl rfl) hchk.1 hbs ops.size (ops.toList.zipIdx.map fun p => (p.2, p.1)) _ ⟨s.tm, s.hp⟩ rcs a _ (by simp) (by simp) ?_ ?_ ?_ ?_ hrun (pairsB_pw hchk.2) (hstart _ _ rfl rfl rfl rfl)
    · intro p hp
      obtain ⟨q, hq, rfl⟩ := List.mem_map.1 hp
      obtain ⟨i, hi, e⟩ := List.mem_iff_getElem.1 hq
      simp only [List.getElem_zipIdx, Nat.zero_add] at e
      subst e
      refine ⟨?_, hget _⟩
      simp only [List.length_zipIdx, Array.length_toList] at hi
      simp [hi]
    · intro k hk _
      refine ⟨ops[k], List.mem_map.2 ⟨(ops[k], k), ?_, rfl⟩⟩
      rw [List.mem_iff_getElem]
      exact ⟨k, by simpa using hk, by simp⟩
    · rw [zip_swap_map]
      exact List.pairwise_lt_range'
    · intro k o _ hl
      rw [hget] at hl; cases hl

/-! ### new numbers -/
theorem pos_some : ∀ {acc : List Nat} {i j : Nat}, pos acc i = some j → acc[j]? = some i
  | [], _, _, h => by cases h
  | x :: r, i, j, h => by
    simp only [pos] at h
    split at h
    · rename_i hx
      obtain rfl := Option.some.inj h
      simp [hx]
    · split at h
      · rename_i k hk
        obtain rfl := Option.some.inj h
        simpa using pos_some hk
      · cases h

theorem collect_spec {hp : Hp} : ∀ (f : Nat) (todo acc : List Nat), acc.Nodup → (collect hp f todo acc).Nodup ∧ ∀ j, j < acc.length → (collect hp f todo acc)[j]? = acc[j]?
  | 0, _, acc, h1 => by unfold collect; exact ⟨h1, fun _ _ => rfl⟩
  | f + 1, [], acc, h1 => by unfold collect; exact ⟨h1, fun _ _ => rfl⟩
  | f + 1, i :: r, acc, h1 => by
    unfold collect
    cases hc : (acc.contains i || !aliveIn hp i) with
    | true => exact collect_spec f r acc h1
    | false =>
      simp only [Bool.or_eq_false_iff, Bool.not_eq_false'] at hc
      obtain ⟨k1, k2⟩ := collect_spec (hp := hp) f (r ++ boxIds hp i) (acc ++ [i]) (by
        rw [List.nodup_append]
        refine ⟨h1, by simp, fun x hx y hy hxy => ?_⟩
        have : y = i := by simpa using hy
        subst this; subst hxy
        have := hc.1
        simp at this
        exact this hx)
      refine ⟨k1, fun j hj => ?_⟩
      have := k2 j (by simp; omega)
      simp only [cond_false]
      rw [this, List.getElem?_append_left hj]

theorem obsOf_get {hp : Hp} {acc0 acc : List Nat} (j : Nat) : ((obsOf hp acc0 acc)[j]?).bind (fun x => x) = (acc[j]?).bind fun i => (hp i).map (renOb acc0) := by
  unfold obsOf
  rw [List.getElem?_map]
  cases acc[j]? with
  | none => rfl
  | some i =>
    simp only [Option.map_some, Option.bind_some]
    cases hp i <;> rfl

theorem obsOf_len {hp : Hp} {acc0 acc : List Nat} : (obsOf hp acc0 acc).length = acc.length := by simp [obsOf]

theorem renC_conc {w : World} {A A' : Nat → Prop} {g g' : Gm} {acc : List Nat} (hA : ∀ b, A b → A' b) (hg : ∀ j i, acc[j]? = some i → g' j = g i) {c : CV} {v : Value} (h : concC w A g c v) : concC w A' g' (renC acc c) v := by
  cases c with
  | ref i =>
    simp only [renC]
    split
    · rename_i j hj
      obtain ⟨e, b, len, cap, h1, h2⟩ := h
      exact ⟨e, b, len, cap, by rw [hg j i (pos_some hj)]; exact h1, h2⟩
    · trivial
  | sub i lo n =>
    simp only [renC]
    split
    · rename_i j hj
      obtain ⟨e, b, len, cap, a, cap', h1, h2⟩ := h
      exact ⟨e, b, len, cap, a, cap', by rw [hg j i (pos_some hj)]; exact h1, h2⟩
    · trivial
  | ptr i o =>
    simp only [renC]
    split
    · rename_i j hj
      obtain ⟨b, h1, h2⟩ := h
      exact ⟨b, by rw [hg j i (pos_some hj)]; exact h1, h2⟩
    · trivial
  | elt i ix o =>
    simp only [renC]
    split
    · rename_i j hj
      obtain ⟨e, b, len, cap, h1, h2⟩ := h
      exact ⟨e, b, len, cap, by rw [hg j i (pos_some hj)]; exact h1, h2⟩
    · trivial
  | sl e l => exact Rd.mono hA h
  | cst e x off => obtain ⟨b, o, vs, el, fz, h1, h2, h3, h4⟩ := h; exact ⟨b, o, vs, el, fz, h1, hA b h2, h3, Rd.mono hA h4⟩
  | _ => exact h

theorem renCs_conc {w : World} {A A' : Nat → Prop} {g g' : Gm} {acc : List Nat} (hA : ∀ b, A b → A' b) (hg : ∀ j i, acc[j]? = some i → g' j = g i) {cs : List CV} {vs : List Value} (h : concCs w A g cs vs) :
    concCs w A' g' (cs.map (renC acc)) vs :=
  ⟨by simp [h.1], fun i hi hi' => by simp only [List.getElem_map]; exact renC_conc hA hg (h.2 i (by simpa using hi) hi')⟩

theorem renA_conc {w : World} {A A' : Nat → Prop} {g g' : Gm} {acc : List Nat} (hA : ∀ b, A b → A' b) (hg : ∀ j i, acc[j]? = some i → g' j = g i) {x : AV} {v : Value} (h : conc w A g x v) : conc w A' g' (renA acc x) v := by
  cases x with
  | c x => exact renC_conc hA hg h
  | agg cs => obtain ⟨vs, h1, h2⟩ := h; exact ⟨vs, h1, renCs_conc hA hg h2⟩
  | tup ps =>
    obtain ⟨vs, h1, h2, h3⟩ := h
    refine ⟨vs, h1, by simpa using h2, fun i hi hi' => ?_⟩
    have hi2 : i < ps.length := by simpa using hi
    have := h3 i hi2 hi'
    simp only [List.getElem_map]
    split
    · rename_i hp
      rw [if_pos hp] at this
      obtain ⟨us, k1, k2⟩ := this
      exact ⟨us, k1, renCs_conc hA hg k2⟩
    · rename_i hp
      rw [if_neg hp] at this
      obtain ⟨x, k1, k2⟩ := this
      exact ⟨renC acc x, by rw [k1]; rfl, renC_conc hA hg k2⟩

theorem setAll_len : ∀ (ts : List Nat) (vs : List AV) (tm : List AV), (setAll tm ts vs).length = tm.length
  | [], _, _ => by unfold setAll; rfl
  | _ :: _, [], _ => by unfold setAll; rfl
  | t :: ts, v :: vs, tm => by unfold setAll; rw [setAll_len ts vs]; simp

theorem setAll_conc {w : World} {A : Nat → Prop} {g : Gm} {a : Act} : ∀ (ts : List Nat) (vs : List AV) (tm : List AV), concTm w A g tm a.tmps → (∀ j (h : j < ts.length) (h' : j < vs.length), conc w A g vs[j] (a.tmps.getD ts[j] undef)) →
    concTm w A g (setAll tm ts vs) a.tmps
  | [], _, tm, h, _ => by unfold setAll; exact h
  | _ :: _, [], tm, h, _ => by unfold setAll; exact h
  | t :: ts, v :: vs, tm, h, hv => by
    unfold setAll
    refine setAll_conc ts vs _ ?_ (fun j hj hj' => by
      have := hv (j + 1) (by simpa using hj) (by simpa using hj')
      simpa using this)
    have h0 := hv 0 (by simp) (by simp)
    simp only [List.getElem_cons_zero] at h0
    refine ⟨by simp [h.1], fun i hi hi' => ?_⟩
    have hi2 : i < tm.length := by simpa using hi
    by_cases hti : t = i
    · subst hti
      rw [List.getElem_set_self]
      have e : a.tmps.getD t undef = a.tmps[t] := by simp [hi']
      rw [e] at h0
      exact h0
    · rw [List.getElem_set_ne hti]
      exact h.2 i hi2 hi'

theorem canon_sound {nt : Nat} {g0 : List Gh} {live : List Nat} {s : St} {a : Act} {w : World} (hI : SInv B nt g0 s a w) : SInv B nt g0 (expandSt nt live (canonSt g0.length live s)) a w := by
  obtain ⟨g, hInv, htm, hfr, hdf, hlen, hg0⟩ := hI
  obtain ⟨hnd, hpre⟩ := collect_spec (hp := s.hp) 300 ((live.map (getTm s.tm)).flatMap AV.ids ++ (List.range g0.length).flatMap (boxIds s.hp)) (List.range g0.length) List.nodup_range
  show SInv B nt g0 ⟨setAll (List.replicate nt (.c .undef)) live ((live.map (getTm s.tm)).map (renA (canonIds g0.length live s))), fun j => ((obsOf s.hp (canonIds g0.length live s) (canonIds g0.length live s))[j]?).bind fun x => x,
    (obsOf s.hp (canonIds g0.length live s) (canonIds g0.length live s)).length⟩ a w
  have hid : canonIds g0.length live s = collect s.hp 300 ((live.map (getTm s.tm)).flatMap AV.ids ++ (List.range g0.length).flatMap (boxIds s.hp)) (List.range g0.length) := rfl
  rw [← hid] at hnd hpre
  generalize canonIds g0.length live s = acc at hnd hpre ⊢
  let g' : Gm := fun j => (acc[j]?).bind g
  let hp' : Hp := fun j => ((obsOf s.hp acc acc)[j]?).bind fun x => x
  have hgg : ∀ j i, acc[j]? = some i → g' j = g i := fun j i h => by show (acc[j]?).bind g = g i; rw [h]; rfl
  have hhp : ∀ j ob, hp' j = some ob → ∃ i ob0, acc[j]? = some i ∧ s.hp i = some ob0 ∧ ob = renOb acc ob0 := by
    intro j ob h
    have h' : ((obsOf s.hp acc acc)[j]?).bind (fun x => x) = some ob := h
    rw [obsOf_get] at h'
    cases hj : acc[j]? with
    | none => rw [hj] at h'; cases h'
    | some i =>
      rw [hj] at h'
      simp only [Option.bind_some] at h'
      cases hi : s.hp i with
      | none => rw [hi] at h'; cases h'
      | some ob0 => rw [hi] at h'; exact ⟨i, ob0, rfl, hi, (Option.some.inj h').symm⟩
  have hblk : ∀ j b, BlkOf hp' g' j b → ∃ i, acc[j]? = some i ∧ BlkOf s.hp g i b := by
    rintro j b ⟨ob, gh, h1, h2, h3⟩
    obtain ⟨i, ob0, k1, k2, _⟩ := hhp j ob h1
    exact ⟨i, k1, ob0, gh, k2, by rw [← hgg j i k1]; exact h2, h3⟩
  have hA : ∀ b, Im B s.hp g w b → Im B hp' g' w b := by
    rintro b ⟨h1, h2, h3⟩
    refine ⟨h1, h2, fun ha => h3 ?_⟩
    obtain ⟨j, hj⟩ := alive_iff.1 ha
    obtain ⟨i, _, hi⟩ := hblk j b hj
    exact alive_iff.2 ⟨i, hi⟩
  refine ⟨g', ⟨hInv.fr, ?_, ?_, ?_⟩, ?_, ?_, hdf, ?_, ?_⟩
  · intro j ob hj
    obtain ⟨i, ob0, k1, k2, rfl⟩ := hhp j ob hj
    have := hInv.ob i ob0 k2
    cases ob0 with
    | box cs =>
      obtain ⟨b, vs, el, m1, m2, m3⟩ := this
      exact ⟨b, vs, el, by rw [hgg j i k1]; exact m1, m2, renCs_conc hA hgg m3⟩
    | row e l =>
      obtain ⟨b, cap, m1, m2⟩ := this
      refine ⟨b, cap, by rw [hgg j i k1]; exact m1, ?_⟩
      cases b with
      | none => exact m2
      | some b =>
        obtain ⟨q1, q2, q3, q4, q5, q6, q7, q8⟩ := m2
        exact ⟨q1, q2, q3, q4, q5, q6, q7, q8.mono fun _ _ h => Rd.mono hA h⟩
  · intro j ob gh b h1 h2 h3
    obtain ⟨i, _, hi⟩ := hblk j b ⟨ob, gh, h1, h2, h3⟩
    exact hInv.blk' hi
  · intro j1 j2 o1 o2 g1 g2 b h1 h2 h3 h4 h5 h6
    obtain ⟨i1, e1, hi1⟩ := hblk j1 b ⟨o1, g1, h1, h3, h5⟩
    obtain ⟨i2, e2, hi2⟩ := hblk j2 b ⟨o2, g2, h2, h4, h6⟩
    have := hInv.inj' hi1 hi2
    subst this
    have hlt1 := (List.getElem?_eq_some_iff.1 e1).1
    have hlt2 := (List.getElem?_eq_some_iff.1 e2).1
    exact (List.getElem?_inj hlt1 hnd).1 (e1.trans e2.symm)
  · refine setAll_conc live _ _ ⟨?_, fun i hi hi' => ?_⟩ (fun j hj hj' => ?_)
    · rw [List.length_replicate, ← hlen]; exact htm.1
    · rw [List.getElem_replicate]; trivial
    · simp only [List.getElem_map]
      refine renA_conc hA hgg ?_
      have := evalA_conc htm (.tmp live[j])
      exact this
  · intro j hj
    show (acc[j]?).bind g = none
    simp only at hj
    rw [obsOf_len] at hj
    rw [List.getElem?_eq_none hj]; rfl
  · rw [setAll_len, List.length_replicate]
  · intro k hk
    rw [Nat.zero_add]
    have h1 := hpre k (by simpa using hk)
    rw [List.getElem?_range hk] at h1
    rw [hgg k k h1]
    have := hg0 k hk
    rwa [Nat.zero_add] at this

/-! ### forms -/
/-- what becomes of the objects: new rows at free numbers, rows given up -/
structure CoeOk (B : Base) (hp hp' : Hp) (g g' : Gm) (w : World) (nx nx' : Nat) : Prop where
  inv : Inv B hp' g' w
  keep : Keep B hp hp' g g' w w
  le : g.le g'
  up : nx ≤ nx'
  free : (∀ i, nx ≤ i → g i = none) → ∀ i, nx' ≤ i → g' i = none
  box : ∀ i cs, hp i = some (.box cs) → hp' i = some (.box cs)

theorem CoeOk.refl {B : Base} {hp : Hp} {g : Gm} {w : World} {nx : Nat} (h : Inv B hp g w) : CoeOk B hp hp g g w nx nx := ⟨h, Keep.refl _ _ _ _, Gm.le_refl _, Nat.le_refl _, fun h => h, fun _ _ h => h⟩
theorem CoeOk.trans {B : Base} {hp hp' hp'' : Hp} {g g' g'' : Gm} {w : World} {nx nx' nx'' : Nat} (h : CoeOk B hp hp' g g' w nx nx') (k : CoeOk B hp' hp'' g' g'' w nx' nx'') : CoeOk B hp hp'' g g'' w nx nx'' :=
  ⟨k.inv, h.keep.trans k.keep, Gm.le_trans h.le k.le, Nat.le_trans h.up k.up, fun hf => k.free (h.free hf), fun i cs hi => k.box i cs (h.box i cs hi)⟩

theorem kill_row_ok {B : Base} {hp : Hp} {g : Gm} {w : World} {nx : Nat} (hI : Inv B hp g w) {i : Nat} {e : Ty} {l : List (den e)} (hi : hp i = some (.row e l)) : CoeOk B hp (setHp hp i none) g g w nx nx := by
  obtain ⟨k1, k2⟩ := hI.kill i
  refine ⟨k1, k2, Gm.le_refl g, Nat.le_refl _, fun h => h, fun j cs hj => ?_⟩
  have hne : j ≠ i := by intro e; subst e; rw [hi] at hj; cases hj
  simp [setHp, hne, hj]

theorem coeC_ok {B : Base} {hp : Hp} {g : Gm} {w : World} {nx : Nat} (hI : Inv B hp g w) (hfr : ∀ i, nx ≤ i → g i = none) {k : Coe} {c : CV} {v : Value} (hc : concC w (Im B hp g w) g c v) :
    ∃ g', CoeOk B hp (coeC hp nx k c).2.1 g g' w nx (coeC hp nx k c).2.2 ∧ concC w (Im B (coeC hp nx k c).2.1 g' w) g' (coeC hp nx k c).1 v := by
  have same : ∃ g', CoeOk B hp hp g g' w nx nx ∧ concC w (Im B hp g' w) g' c v := ⟨g, CoeOk.refl hI, hc⟩
  have kill : ∀ {i : Nat} {e : Ty} {l l' : List (den e)}, hp i = some (.row e l) → Rd w (With B hp g w [i]) (.sl e) [v] l' → ∃ g', CoeOk B hp (setHp hp i none) g g' w nx nx ∧ concC w (Im B (setHp hp i none) g' w) g' (.sl e l') v := by
    intro i e l l' hi hr
    refine ⟨g, kill_row_ok hI hi, ?_⟩
    exact Rd.mono (fun b hb => With.killed hI hb) hr
  cases k with
  | keep => cases c <;> exact same
  | own e =>
    cases c <;> try exact same
    obtain rfl := hc
    obtain ⟨k1, k2⟩ := hI.nilrow (n := nx) (hfr nx (Nat.le_refl _)) e
    refine ⟨_, ⟨k1, k2, setG_le (hfr nx (Nat.le_refl _)), Nat.le_succ _, fun h i hi => ?_, fun i cs hi => ?_⟩, ⟨e, none, 0, 0, by simp [setG], rfl⟩⟩
    · have hi : nx + 1 ≤ i := hi
      have hne : i ≠ nx := by omega
      simp only [setG, if_neg hne]; exact h i (by omega)
    · have hne : i ≠ nx := by
        intro e'; subst e'
        have := hI.none_of (hfr i (Nat.le_refl _))
        rw [this] at hi; cases hi
      show setHp hp nx _ i = _
      simp [setHp, hne, hi]
  | sl e =>
    cases c <;> try exact same
    · obtain rfl := hc
      exact ⟨g, CoeOk.refl hI, .inl ⟨rfl, rfl⟩⟩
    · rename_i i
      simp only [coeC]
      split
      · rename_i l hl
        exact kill (rowOf_some hl) (asL_sound hI hc (show asL hp e (.ref i) = some l from hl))
      · exact same
    · rename_i i lo n
      simp only [coeC]
      split
      · rename_i l hl
        refine kill (rowOf_some hl) (asL_sound hI hc (show asL hp e (.sub i lo n) = some _ from ?_))
        simp only [asL, hl]
      · exact same

theorem coeCs_ok {B : Base} {w : World} : ∀ {ks : List Coe} {cs : List CV} {vs : List Value} {hp : Hp} {g : Gm} {nx : Nat}, Inv B hp g w → (∀ i, nx ≤ i → g i = none) → concCs w (Im B hp g w) g cs vs →
    ∃ g', CoeOk B hp (coeCs hp nx ks cs).2.1 g g' w nx (coeCs hp nx ks cs).2.2 ∧ concCs w (Im B (coeCs hp nx ks cs).2.1 g' w) g' (coeCs hp nx ks cs).1 vs
  | [], cs, vs, hp, g, nx, hI, hfr, hc => by unfold coeCs; exact ⟨g, CoeOk.refl hI, hc⟩
  | _ :: _, [], vs, hp, g, nx, hI, hfr, hc => by unfold coeCs; exact ⟨g, CoeOk.refl hI, hc⟩
  | k :: ks, c :: cs, [], hp, g, nx, hI, hfr, hc => by have := hc.1; simp at this
  | k :: ks, c :: cs, v :: vs, hp, g, nx, hI, hfr, hc => by
    have h0 := hc.2 0 (by simp) (by simp)
    simp only [List.getElem_cons_zero] at h0
    have ht : concCs w (Im B hp g w) g cs vs := ⟨by have := hc.1; simpa using this, fun i hi hi' => by
      have := hc.2 (i + 1) (by simpa using hi) (by simpa using hi')
      simpa using this⟩
    obtain ⟨g1, k1, k2⟩ := coeC_ok (k := k) hI hfr h0
    obtain ⟨g2, m1, m2⟩ := coeCs_ok (ks := ks) k1.inv (k1.free hfr) (ht.frame k1.keep k1.le)
    unfold coeCs
    exact ⟨g2, k1.trans m1, (concCs.single (k2.frame m1.keep m1.le)).append m2⟩

theorem coeOne_sound {nt : Nat} {g0 : List Gh} {s : St} {o : Co} {a : Act} {w : World} (hI : SInv B nt g0 s a w) : SInv B nt g0 (coeOne s o) a w := by
  have hI0 := hI
  obtain ⟨g, hInv, htm, hfr, hdf, hlen, hg0⟩ := hI
  unfold coeOne
  cases o.box with
  | true =>
    simp only [cond_true]
    split
    · rename_i i off hsl
      split
      · rename_i cs hi
        obtain ⟨b, vs, el, h1, h2, h3⟩ := hInv.ob i _ hi
        obtain ⟨g', k1, k2⟩ := coeCs_ok (ks := o.cs) hInv hfr h3
        generalize hR : coeCs s.hp s.nx o.cs cs = R at k1 k2 ⊢
        have hi' := k1.box i cs hi
        have hgi := k1.le _ _ h1
        obtain ⟨m1, m2⟩ := k1.inv.write (ob' := .box R.1) (w' := w) (vs' := vs) (el := el) (fz := (0, 0)) hi' ⟨_, _, hi', hgi, rfl⟩ ⟨h2, fun _ _ => rfl, rfl, rfl, rfl, rfl⟩ (fun hk => ⟨b, vs, el, hgi, h2, k2.frame hk (Gm.le_refl _)⟩)
        refine ⟨g', m1, (htm.frame k1.keep k1.le).frame m2 (Gm.le_refl _), k1.free hfr, hdf, hlen, fun j hj => k1.le _ _ (hg0 j hj)⟩
      · exact hI0
    · exact hI0
  | false =>
    simp only [cond_false]
    have put : ∀ {hp' : Hp} {g' : Gm} {nx' : Nat} {r : AV}, CoeOk B s.hp hp' g g' w s.nx nx' → conc w (Im B hp' g' w) g' r (a.tmps.getD o.slot undef) → SInv B nt g0 ⟨s.tm.set o.slot r, hp', nx'⟩ a w := by
      intro hp' g' nx' r k1 k2
      refine ⟨g', k1.inv, ?_, k1.free hfr, hdf, by simpa using hlen, fun j hj => k1.le _ _ (hg0 j hj)⟩
      have h := htm.frame k1.keep k1.le
      refine ⟨by simpa using h.1, fun i hi hi' => ?_⟩
      have hi2 : i < s.tm.length := by simpa using hi
      by_cases hs : o.slot = i
      · subst hs
        simp only [List.getElem_set_self]
        have e : a.tmps.getD o.slot undef = a.tmps[o.slot] := by simp [hi']
        rw [e] at k2; exact k2
      · simp only [List.getElem_set_ne hs]
        exact h.2 i hi2 hi'
    have hv := evalA_conc htm (.tmp o.slot)
    have hev : a.eval (.tmp o.slot) = a.tmps.getD o.slot undef := rfl
    have hea : evalA s.tm (.tmp o.slot) = s.tm.getD o.slot (.c .undef) := rfl
    rw [hev, hea] at hv
    split
    · rename_i x hx
      rw [hx] at hv
      obtain ⟨g', k1, k2⟩ := coeCs_ok (ks := o.cs) (cs := [x]) (vs := [a.tmps.getD o.slot undef]) hInv hfr (concCs.single hv)
      refine put k1 ?_
      have hl := k2.1
      generalize hR : coeCs s.hp s.nx o.cs [x] = R at k1 k2 hl ⊢
      match hR1 : R.1, hl with
      | [y], _ =>
        rw [hR1] at k2
        exact k2.2 0 (by simp) (by simp)
    · rename_i cs hx
      rw [hx] at hv
      obtain ⟨vs, h1, h2⟩ := hv
      obtain ⟨g', k1, k2⟩ := coeCs_ok (ks := o.cs) hInv hfr h2
      exact put k1 ⟨vs, h1, k2⟩
    · exact hI0

theorem coeSt_sound {nt : Nat} {g0 : List Gh} {a : Act} {w : World} : ∀ {os : List Co} {s : St}, SInv B nt g0 s a w → SInv B nt g0 (coeSt s os) a w
  | [], _, h => h
  | o :: os, s, h => by unfold coeSt; exact coeSt_sound (os := os) (coeOne_sound h)

/-! ### code -/
theorem wp_loop_n {c : Code} {Q : Exit → Act → World → Prop} (I : Nat → Act → World → Prop)
    (round : ∀ n a w, I n a w → c.wp P (Exit.then (fun a' w' => ∃ m, m < n ∧ I m a' w') Q) a w) : ∀ n a w, I n a w → (Code.loop c).wp P Q a w := by
  intro n a w h₀ b k cs
  have key : ∀ n a w, I n a w → ∃ e a' w', Q e a' w' ∧ Arrives P (lone (b.at a (.code c :: .inLoop c :: k)) cs w) b k cs e a' w' := by
    intro n
    induction n using Nat.strongRecOn with
    | _ n ih =>
      intro a w hI
      obtain ⟨e, a₁, w₁, hq, harr⟩ := round n a w hI b (.inLoop c :: k) cs
      cases e with
      | normal =>
        obtain ⟨m, hlt, hI₁⟩ := hq
        obtain ⟨e₂, a₂, w₂, hq₂, harr₂⟩ := ih m hlt a₁ w₁ hI₁
        exact ⟨e₂, a₂, w₂, hq₂, .of_steps (Steps.trans harr (.one step_inLoop)) harr₂⟩
      | exit id => exact ⟨_, a₁, w₁, hq, .pass (x := .inLoop c) rfl (fun _ _ => .inl (by simp)) harr⟩
      | goto l => exact ⟨_, a₁, w₁, hq, .pass (x := .inLoop c) rfl (fun _ _ => .inl (by simp)) harr⟩
      | ret => exact ⟨_, a₁, w₁, hq, .pass (x := .inLoop c) rfl (fun _ _ => .inl (by simp)) harr⟩
      | panic ch => exact ⟨_, a₁, w₁, hq, .pass (x := .inLoop c) rfl (fun _ _ => .inl (by simp)) harr⟩
      | outgrown => exact ⟨_, a₁, w₁, hq, .pass (x := .inLoop c) rfl (fun _ _ => .inl (by simp)) harr⟩
  obtain ⟨e, a', w', hq, harr⟩ := key n a w h₀
  exact ⟨e, a', w', hq, .of_steps (.one step_loop) harr⟩

theorem refine_eq {s : St} {c : Operand} {b : Bool} (h : evalA s.tm c = .c (.bool b)) : Rf.refine s c b = s := by
  unfold Rf.refine
  cases c with
  | tmp t =>
    simp only
    have : s.tm.set t (.c (.bool b)) = s.tm := set_same h
    rw [this]
  | _ => rfl

theorem node_snoc : ∀ (root : Code) (p : List Nat) (i : Nat) {c : Code}, nodeAt root p = some c → nodeAt root (p ++ [i]) = nodeAt c [i]
  | root, [], i, c, h => by
    have : nodeAt root [] = some root := by cases root <;> rfl
    rw [this] at h
    obtain rfl := Option.some.inj h
    rfl
  | .seq a b, 0 :: p, i, c, h => node_snoc a p i h
  | .seq a b, 1 :: p, i, c, h => node_snoc b p i h
  | .cond _ a b, 0 :: p, i, c, h => node_snoc a p i h
  | .cond _ a b, 1 :: p, i, c, h => node_snoc b p i h
  | .block _ a, 0 :: p, i, c, h => node_snoc a p i h
  | .loop a, 0 :: p, i, c, h => node_snoc a p i h
  | .seq _ _, (_ + 2) :: _, _, _, h => by simp [nodeAt] at h
  | .cond _ _ _, (_ + 2) :: _, _, _, h => by simp [nodeAt] at h
  | .block _ _, (_ + 1) :: _, _, _, h => by simp [nodeAt] at h
  | .loop _, (_ + 1) :: _, _, _, h => by simp [nodeAt] at h
  | .skip, _ :: _, _, _, h => by simp [nodeAt] at h
  | .region .., _ :: _, _, _, h => by simp [nodeAt] at h
  | .rangeFunc .., _ :: _, _, _, h => by simp [nodeAt] at h
  | .exit _, _ :: _, _, _, h => by simp [nodeAt] at h
  | .scope _, _ :: _, _, _, h => by simp [nodeAt] at h
  | .label _, _ :: _, _, _, h => by simp [nodeAt] at h
  | .goto _, _ :: _, _, _, h => by simp [nodeAt] at h
  | .ret, _ :: _, _, _, h => by simp [nodeAt] at h
  | .refuse _, _ :: _, _, _, h => by simp [nodeAt] at h

theorem node_pre {root : Code} {q : List Nat} {i : Nat} {c c' : Code} (h : nodeAt root q.reverse = some c) (hc : nodeAt c [i] = some c') : nodeAt root (i :: q).reverse = some c' := by
  rw [List.reverse_cons, node_snoc root q.reverse i h, hc]

/-- what must hold behind a step down from a piece of code; 'inv' for the loops that stand around it -/
def step1 (P : Program) (inv : Nat → Act → World → Prop) (Q : Exit → Act → World → Prop) (i : Nat) : Option Code → (Exit → Act → World → Prop)
  | some (.seq _ b) => match i with
    | 0 => Exit.then (b.wp P Q) Q
    | _ => Q
  | some (.block id _) => Exit.inBlock id Q
  | some (.loop c) => Exit.then (inv ((firstRegion c).getD 0)) Q
  | _ => Q

def post (P : Program) (inv : Nat → Act → World → Prop) (root : Code) (Q : Exit → Act → World → Prop) : List Nat → (Exit → Act → World → Prop)
  | [] => Q
  | i :: q => step1 P inv (post P inv root Q q) i (nodeAt root q.reverse)

theorem step1_ret {inv : Nat → Act → World → Prop} {Q : Exit → Act → World → Prop} {a : Act} {w : World} (h : Q .ret a w) (i : Nat) (oc : Option Code) : step1 P inv Q i oc .ret a w := by
  cases oc with
  | none => exact h
  | some c => cases c <;> first
    | exact h
    | (cases i <;> exact h)

theorem step1_exit {inv : Nat → Act → World → Prop} {Q : Exit → Act → World → Prop} {a : Act} {w : World} {id : Nat} (h : Q (.exit id) a w) (i : Nat) {c : Code} (hc : ∀ id' c', c = .block id' c' → False) : step1 P inv Q i (some c) (.exit id) a w := by
  cases c <;> first
    | exact h
    | (cases i <;> exact h)
    | exact (hc _ _ rfl).elim

theorem post_ret {inv : Nat → Act → World → Prop} {root : Code} {Q : Exit → Act → World → Prop} {a : Act} {w : World} (h : Q .ret a w) : ∀ rp, post P inv root Q rp .ret a w
  | [] => h
  | i :: q => step1_ret (post_ret h q) i _

theorem step1_congr {inv inv' : Nat → Act → World → Prop} {Q : Exit → Act → World → Prop} {i : Nat} {oc : Option Code} (h : ∀ c, oc = some (.loop c) → inv ((firstRegion c).getD 0) = inv' ((firstRegion c).getD 0)) : step1 P inv Q i oc = step1 P inv' Q i oc := by
  cases oc with
  | none => rfl
  | some c => cases c <;> first
    | rfl
    | (rename_i c; show Exit.then _ _ = Exit.then _ _; rw [h c rfl])

theorem post_congr {inv inv' : Nat → Act → World → Prop} {root : Code} {Q : Exit → Act → World → Prop} : ∀ {rp : List Nat}, (∀ id ∈ loopsR root rp, inv id = inv' id) → post P inv root Q rp = post P inv' root Q rp
  | [], _ => rfl
  | i :: q, h => by
    unfold post
    unfold loopsR at h
    split at h
    · rename_i c hc
      rw [post_congr (rp := q) (fun id hid => h id (List.mem_cons_of_mem _ hid))]
      refine step1_congr fun c' hc' => ?_
      rw [hc] at hc'
      obtain rfl : c = c' := by simpa using hc'
      exact h _ List.mem_cons_self
    · rename_i hc
      rw [post_congr (rp := q) h]
      exact step1_congr fun c' hc' => (hc _ hc').elim

/-- a step of the walk says of its end -/
def MdOk (P : Program) (inv : Nat → Act → World → Prop) (root : Code) (Q : Exit → Act → World → Prop) (rp : List Nat) (a : Act) (w : World) : Md → Prop
  | .run => ∃ c, nodeAt root rp.reverse = some c ∧ c.wp P (post P inv root Q rp) a w
  | .go => ∃ c, nodeAt root rp.reverse = some c ∧ c.wp P (post P inv root Q rp) a w
  | .up => post P inv root Q rp .normal a w
  | .ex id => post P inv root Q rp (.exit id) a w

/-- what the oracle's word is worth: at the end of a round, and before a head -/
structure OrcOk {R : Type} (P : Program) (B : Base) (g0 : List Gh) (fu : Fu) (o : Nat → LSt → Option R) (r : R) (inv : Nat → Act → World → Prop) (Q : Exit → Act → World → Prop) : Prop where
  round : ∀ id h ls a w, look fu.an.loops id = some h → o id ls = some r → SInv B fu.nt g0 (expandSt fu.nt h.live ls) a w → inv id a w
  loop : ∀ id h ls a w c, look fu.an.loops id = some h → o id ls = some r → SInv B fu.nt g0 (expandSt fu.nt h.live ls) a w → nodeAt fu.root h.rp.reverse = some c → c.wp P (post P inv fu.root Q h.rp) a w
  join : ∀ id h ls a w c, look fu.an.joins id = some h → o id ls = some r → SInv B fu.nt g0 (expandSt fu.nt h.live ls) a w → nodeAt fu.root h.rp.reverse = some c → c.wp P (post P inv fu.root Q h.rp) a w

theorem eqL_iff : ∀ {a b : List Nat}, eqL a b = true → a = b
  | [], [], _ => rfl
  | x :: a, y :: b, h => by
    simp only [eqL, Bool.and_eq_true, beq_iff_eq] at h
    rw [h.1, eqL_iff h.2]

theorem atHead_some {R : Type} {fu : Fu} {o : Nat → LSt → Option R} {hs : List (Nat × Head)} {id : Nat} {rp : List Nat} {s : St} {r : R} (h : atHead fu o hs id rp s = some r) :
    ∃ hd, look hs id = some hd ∧ hd.rp = rp ∧ o id (canonSt fu.m hd.live (coeSt s hd.co)) = some r := by
  unfold atHead at h
  split at h
  · cases h
  · rename_i hd hl
    obtain ⟨h1, h2⟩ := bif_some h
    exact ⟨hd, hl, eqL_iff h1, h2⟩

theorem evU_sound {R : Type} {fu : Fu} {o : Nat → LSt → Option R} {fin : St → Option R} {r : R} (hm : P.follows .mixedOrders = true) (hte : teB P fu.cfg.te = true) (hfs : AllSound P fu.cfg.fs) {g0 : List Gh} (hlen : fu.m = g0.length)
    {inv : Nat → Act → World → Prop} {Q : Exit → Act → World → Prop} (ho : OrcOk P B g0 fu o r inv Q)
    (hfin : ∀ s a w, fin s = some r → SInv B fu.nt g0 s a w → Q .normal a w ∧ Q .ret a w) : ∀ (f : Nat) (md : Md) (rp : List Nat) (s : St) (a : Act) (w : World), evU fu o fin f md rp s = some r → SInv B fu.nt g0 s a w → MdOk P inv fu.root Q rp a w md := by
  intro f
  induction f with
  | zero => intro md rp s a w h _; unfold evU at h; cases h
  | succ f ih =>
    intro md rp s a w h hI
    have hcan : ∀ hd : Head, SInv B fu.nt g0 (expandSt fu.nt hd.live (canonSt fu.m hd.live (coeSt s hd.co))) a w := fun hd => by rw [hlen]; exact canon_sound (coeSt_sound hI)
    cases md with
    | run =>
      unfold evU at h
      split at h
      · rename_i hc
        exact ⟨_, hc, wp_skip (ih _ _ _ _ _ h hI)⟩
      · rename_i hc
        exact ⟨_, hc, wp_label (ih _ _ _ _ _ h hI)⟩
      · rename_i id ops draw hc
        split at h
        · obtain ⟨hd, h1, h2, h3⟩ := atHead_some h
          subst h2
          exact ⟨_, hc, ho.join id hd _ a w _ h1 h3 (hcan hd) hc⟩
        · exact ih .go _ _ _ _ h hI
      · rename_i c1 c2 hc
        obtain ⟨c', hc', hw⟩ := ih _ _ _ _ _ h hI
        obtain rfl : c1 = c' := by simpa using (node_pre hc (i := 0) (c' := c1) (by cases c1 <;> rfl)).symm.trans hc'
        refine ⟨_, hc, wp_seq ?_⟩
        unfold post at hw
        rw [hc] at hw
        exact hw
      · rename_i c c1 c2 hc
        split at h
        · rename_i b hb
          have hv : a.eval c = .bool b := by
            obtain ⟨g, _, htm, _⟩ := hI
            have := evalA_conc htm c
            rw [hb] at this
            exact this
          cases b with
          | true =>
            rw [cond_true, refine_eq hb] at h
            obtain ⟨c', hc', hw⟩ := ih _ _ _ _ _ h hI
            obtain rfl : c1 = c' := by simpa using (node_pre hc (i := 0) (c' := c1) (by cases c1 <;> rfl)).symm.trans hc'
            refine ⟨_, hc, wp_cond_true hv ?_⟩
            unfold post at hw
            rw [hc] at hw
            exact hw
          | false =>
            rw [cond_false, refine_eq hb] at h
            obtain ⟨c', hc', hw⟩ := ih _ _ _ _ _ h hI
            obtain rfl : c2 = c' := by simpa using (node_pre hc (i := 1) (c' := c2) (by cases c2 <;> rfl)).symm.trans hc'
            refine ⟨_, hc, wp_cond_false hv ?_⟩
            unfold post at hw
            rw [hc] at hw
            exact hw
        · cases h
      · rename_i id c1 hc
        obtain ⟨c', hc', hw⟩ := ih _ _ _ _ _ h hI
        obtain rfl : c1 = c' := by simpa using (node_pre hc (i := 0) (c' := c1) (by cases c1 <;> rfl)).symm.trans hc'
        refine ⟨_, hc, wp_block ?_⟩
        unfold post at hw
        rw [hc] at hw
        exact hw
      · rename_i body hc
        split at h
        · rename_i id hid
          obtain ⟨hd, h1, h2, h3⟩ := atHead_some h
          subst h2
          exact ⟨_, hc, ho.loop id hd _ a w _ h1 h3 (hcan hd) hc⟩
        · cases h
      · rename_i id hc
        exact ⟨_, hc, wp_exit (ih _ _ _ _ _ h hI)⟩
      · rename_i hc
        exact ⟨_, hc, wp_ret (post_ret (hfin _ _ _ h hI).2 rp)⟩
      · cases h
    | go =>
      unfold evU at h
      split at h
      · rename_i id ops draw hc
        exact ⟨_, hc, evRegion_sound hm hte hfs h hI (fun s' a' w' h1 h2 => ih _ _ _ _ _ h1 h2) id⟩
      · cases h
    | up =>
      unfold evU at h
      split at h
      · exact (hfin _ _ _ h hI).1
      · rename_i i q
        show step1 P inv (post P inv fu.root Q q) i (nodeAt fu.root q.reverse) .normal a w
        split at h
        · rename_i c1 c2 hc
          rw [hc]
          split at h
          · obtain ⟨c', hc', hw⟩ := ih _ _ _ _ _ h hI
            obtain rfl : c2 = c' := by simpa using (node_pre hc (i := 1) (c' := c2) (by cases c2 <;> rfl)).symm.trans hc'
            unfold post at hw
            rw [hc] at hw
            exact hw
          · have := ih _ _ _ _ _ h hI
            rename_i hi
            cases i with
            | zero => exact absurd rfl hi
            | succ i => exact this
        · rename_i hc
          rw [hc]
          exact ih _ _ _ _ _ h hI
        · rename_i hc
          rw [hc]
          exact ih _ _ _ _ _ h hI
        · rename_i body hc
          rw [hc]
          split at h
          · rename_i id hid
            obtain ⟨hd, h1, h2, h3⟩ := atHead_some h
            show inv ((firstRegion body).getD 0) a w
            rw [hid]
            exact ho.round id hd _ a w h1 h3 (hcan hd)
          · cases h
        · cases h
    | ex id =>
      unfold evU at h
      split at h
      · cases h
      · rename_i i q
        show step1 P inv (post P inv fu.root Q q) i (nodeAt fu.root q.reverse) (.exit id) a w
        split at h
        · rename_i id' c hc
          rw [hc]
          show Exit.inBlock id' (post P inv fu.root Q q) (.exit id) a w
          unfold Exit.inBlock
          split at h
          · rename_i hd
            have hd := of_decide_eq_true hd
            simp only [hd, if_true]
            exact ih _ _ _ _ _ h hI
          · rename_i hd
            have hd : ¬ (id = id') := fun e => of_decide_eq_false hd e.symm
            simp only [hd, if_false]
            exact ih _ _ _ _ _ h hI
        · rename_i c hnb hc
          have := ih _ _ _ _ _ h hI
          rw [hc]
          exact step1_exit this i (fun id' c' e => hnb id' c' (by rw [e]))
        · cases h

theorem look_mem : ∀ {l : List (Nat × Head)} {i : Nat} {h : Head}, look l i = some h → (i, h) ∈ l
  | [], _, _, h => by cases h
  | (j, h') :: l, i, h, e => by
    unfold look at e
    split at e
    · rename_i hj
      subst hj
      obtain rfl := Option.some.inj e
      exact List.mem_cons_self
    · exact List.mem_cons_of_mem _ (look_mem e)

/-- the oracle with n rounds says the truth -/
theorem orc_sound {R : Type} {fu : Fu} {fin : St → Option R} {r : R} (hm : P.follows .mixedOrders = true) (hte : teB P fu.cfg.te = true) (hfs : AllSound P fu.cfg.fs) {g0 : List Gh} (hlen : fu.m = g0.length) (han : anOk fu.root fu.an = true)
    {Q : Exit → Act → World → Prop} (hfin : ∀ s a w, fin s = some r → SInv B fu.nt g0 s a w → Q .normal a w ∧ Q .ret a w) : ∀ (n : Nat) (inv : Nat → Act → World → Prop),
    (∀ m, m < n → ∀ id h ls a w, look fu.an.loops id = some h → orcN fu fin m id ls = some r → SInv B fu.nt g0 (expandSt fu.nt h.live ls) a w → inv id a w) →
    (∀ id h ls a w c, look fu.an.loops id = some h → orcN fu fin n id ls = some r → SInv B fu.nt g0 (expandSt fu.nt h.live ls) a w → nodeAt fu.root h.rp.reverse = some c → c.wp P (post P inv fu.root Q h.rp) a w) ∧
    (∀ id h ls a w c, look fu.an.joins id = some h → orcN fu fin n id ls = some r → SInv B fu.nt g0 (expandSt fu.nt h.live ls) a w → nodeAt fu.root h.rp.reverse = some c → c.wp P (post P inv fu.root Q h.rp) a w) := by
  intro n
  induction n using Nat.strongRecOn with
  | _ n ih =>
    intro inv hinv
    have loopAt : ∀ {id : Nat} {h : Head}, look fu.an.loops id = some h → ∃ body, nodeAt fu.root h.rp.reverse = some (.loop body) ∧ firstRegion body = some id ∧ id ∉ loopsR fu.root h.rp := by
      intro id h hl
      have := look_mem hl
      unfold anOk at han
      simp only [Bool.and_eq_true, List.all_eq_true] at han
      have := han.1 _ this
      unfold isLoopAt at this
      split at this
      · rename_i body hb
        split at this
        · rename_i i hi
          simp only [Bool.and_eq_true, decide_eq_true_eq, Bool.not_eq_true'] at this
          obtain ⟨rfl, h2⟩ := this
          refine ⟨body, hb, hi, fun hmem => ?_⟩
          have : (loopsR fu.root h.rp).contains i = true := by simpa using hmem
          rw [this] at h2; cases h2
        · cases this
      · cases this
    have lp : ∀ id h ls a w c, look fu.an.loops id = some h → orcN fu fin n id ls = some r → SInv B fu.nt g0 (expandSt fu.nt h.live ls) a w → nodeAt fu.root h.rp.reverse = some c → c.wp P (post P inv fu.root Q h.rp) a w := by
      intro id h ls a w c hl ho hI hc
      obtain ⟨body, hb, hid, hnot⟩ := loopAt hl
      rw [hb] at hc
      obtain rfl := Option.some.inj hc
      refine wp_loop_n (fun k a w => k ≤ n ∧ ∃ ls, orcN fu fin k id ls = some r ∧ SInv B fu.nt g0 (expandSt fu.nt h.live ls) a w) ?_ n a w ⟨Nat.le_refl n, ls, ho, hI⟩
      rintro k a w ⟨hk, ls, ho, hI⟩
      cases k with
      | zero => unfold orcN at ho; cases ho
      | succ k =>
        unfold orcN at ho
        rw [hl] at ho
        simp only at ho
        let inv' : Nat → Act → World → Prop := fun id' a w => if id' = id then (∃ m, m < k + 1 ∧ m ≤ n ∧ ∃ ls, orcN fu fin m id ls = some r ∧ SInv B fu.nt g0 (expandSt fu.nt h.live ls) a w) else inv id' a w
        have hinv' : ∀ m, m < k + 1 → ∀ id' h' ls a w, look fu.an.loops id' = some h' → orcN fu fin m id' ls = some r → SInv B fu.nt g0 (expandSt fu.nt h'.live ls) a w → inv' id' a w := by
          intro m hmk id' h' ls a w hl' ho' hI'
          show if id' = id then _ else _
          split
          · rename_i e
            subst e
            rw [hl] at hl'
            obtain rfl := Option.some.inj hl'
            exact ⟨m, hmk, by omega, ls, ho', hI'⟩
          · exact hinv m (by omega) id' h' ls a w hl' ho' hI'
        obtain ⟨t1, t2⟩ := ih k (by omega) inv' (fun m hm' => hinv' m (by omega))
        have orc : OrcOk P B g0 fu (orcN fu fin k) r inv' Q := ⟨fun id' h' ls a w hl' ho' hI' => hinv' k (by omega) id' h' ls a w hl' ho' hI', t1, t2⟩
        obtain ⟨c', hc', hw⟩ := evU_sound hm hte hfs hlen orc hfin big .run (0 :: h.rp) _ a w ho hI
        obtain rfl : body = c' := by simpa using (node_pre hb (i := 0) (c' := body) (by cases body <;> rfl)).symm.trans hc'
        unfold post at hw
        rw [hb, post_congr (inv' := inv) (fun id' hm' => by
          have hne : id' ≠ id := fun e => hnot (e ▸ hm')
          funext a w
          show (if id' = id then _ else _) = _
          rw [if_neg hne])] at hw
        have hw : body.wp P (Exit.then (inv' ((firstRegion body).getD 0)) (post P inv fu.root Q h.rp)) a w := hw
        have e : inv' ((firstRegion body).getD 0) = fun a' w' => ∃ m, m < k + 1 ∧ m ≤ n ∧ ∃ ls, orcN fu fin m id ls = some r ∧ SInv B fu.nt g0 (expandSt fu.nt h.live ls) a' w' := by
          funext a w
          rw [hid]
          show (if id = id then _ else _) = _
          rw [if_pos rfl]
        rw [e] at hw
        exact hw
    refine ⟨lp, ?_⟩
    intro id h ls a w c hl ho hI hc
    cases n with
    | zero => unfold orcN at ho; cases ho
    | succ n =>
      unfold orcN at ho
      split at ho
      · rename_i h' hl'
        have := look_mem hl
        unfold anOk at han
        simp only [Bool.and_eq_true, List.all_eq_true] at han
        have := (han.2 _ this).2
        rw [hl'] at this
        cases this
      · rw [hl] at ho
        simp only at ho
        obtain ⟨t1, t2⟩ := ih n (by omega) inv (fun m hm' => hinv m (by omega))
        have orc : OrcOk P B g0 fu (orcN fu fin n) r inv Q := ⟨fun id' h' ls a w hl' ho' hI' => hinv n (by omega) id' h' ls a w hl' ho' hI', t1, t2⟩
        obtain ⟨c', hc', hw⟩ := evU_sound hm hte hfs hlen orc hfin big .go h.rp _ a w ho hI
        rw [hc] at hc'
        obtain rfl := Option.some.inj hc'
        exact hw

end Go.Proofs.Ythjiokbokncpoaa.Rf
