/- The call of a function whose meaning is known: what it leaves. -/
import Derived.Test.YthjiokbokncpoaaRfP
namespace Go.Proofs.Ythjiokbokncpoaa.Rf
open Go

variable {P : Program} {B : Base} {hp : Hp} {g : Gm} {w : World} {nid : Nat} {A A' : Nat → Prop}

theorem Rd.flat : ∀ {t : Ty} {cs : List Value} {x : den t}, flatB t = true → Rd w A t cs x → Rd w A' t cs x
  | .int _, _, _, _, h => h
  | .bool, _, _, _, h => h
  | .str, _, _, _, h => h
  | .sl _, _, _, hf, _ => by simp [flatB] at hf
  | .own _, _, _, _, h => h.elim
  | .unit, _, _, _, h => h
  | .pair a b, _, _, hf, h => by
    simp only [flatB, Bool.and_eq_true] at hf
    obtain ⟨c1, c2, h1, h2, h3⟩ := h
    exact ⟨c1, c2, h1, Rd.flat hf.1 h2, Rd.flat hf.2 h3⟩

theorem OwnRd.flat : ∀ {t : Ty} {cs : List Value} {x : den t} {O : List Nat}, flatB t = true → OwnRd w A t cs x O → OwnRd w A' t cs x O
  | .int _, _, _, _, _, h => h
  | .bool, _, _, _, _, h => h
  | .str, _, _, _, _, h => h
  | .sl _, _, _, _, hf, _ => by simp [flatB] at hf
  | .own e, _, _, _, hf, h => by
    obtain ⟨b, cap, h1, h2, h3⟩ := h
    refine ⟨b, cap, h1, ?_, h3⟩
    cases b with
    | none => exact h2
    | some b =>
      obtain ⟨q1, q2, q3, q4, q5, q6, q7, q8⟩ := h2
      exact ⟨q1, q2, q3, q4, q5, q6, q7, q8.mono fun _ _ h => Rd.flat (by simpa [flatB] using hf) h⟩
  | .unit, _, _, _, _, h => h
  | .pair a b, _, _, _, hf, h => by
    simp only [flatB, Bool.and_eq_true] at hf
    obtain ⟨c1, c2, O1, O2, h1, h2, h3, h4⟩ := h
    exact ⟨c1, c2, O1, O2, h1, h2, OwnRd.flat hf.1 h3, OwnRd.flat hf.2 h4⟩

theorem BoxAt.of {t : Ty} {v : Value} {x : den t} {O : List Nat} (h : BoxAt w A t v x O) (hA : ∀ {cs : List Value} {x : den t} {O : List Nat}, OwnRd w A t cs x O → OwnRd w A' t cs x O) : BoxAt w A' t v x O := by
  obtain ⟨b, vs, el, O', h1, h2, h3, h4⟩ := h
  exact ⟨b, vs, el, O', h1, h2, hA h3, h4⟩

theorem ResOk.flat {r : RM} {v : Value} {x : den r.ty} {O : List Nat} (hf : flatB r.ty = true) (h : ResOk w A r v x O) : ResOk w A' r v x O := by
  cases r with
  | val t => exact ⟨h.1, h.2.flat hf⟩
  | ptr t => exact BoxAt.of h (fun h => h.flat hf)

theorem RessOk.flat : ∀ {rs : List RM} {vs : List Value} {y : den (resTy rs)} {O : List Nat}, allFlat rs = true → RessOk w A rs vs y O → RessOk w A' rs vs y O
  | [], _, _, _, _, h => h
  | _ :: _, _, _, _, hf, h => by
    simp only [allFlat, Bool.and_eq_true] at hf
    obtain ⟨v, vs', O1, O2, h1, h2, h3, h4⟩ := h
    exact ⟨v, vs', O1, O2, h1, h2, h3.flat hf.1, RessOk.flat hf.2 h4⟩

theorem RessOk.mono (hA : ∀ b, A b → A' b) : ∀ {rs : List RM} {vs : List Value} {y : den (resTy rs)} {O : List Nat}, RessOk w A rs vs y O → RessOk w A' rs vs y O
  | [], _, _, _, h => h
  | r :: _, _, _, _, h => by
    obtain ⟨v, vs', O1, O2, h1, h2, h3, h4⟩ := h
    refine ⟨v, vs', O1, O2, h1, h2, ?_, RessOk.mono hA h4⟩
    cases r with
    | val t => exact ⟨h3.1, h3.2.mono hA⟩
    | ptr t => exact BoxAt.of h3 (fun h => h.mono hA)

theorem MutsOk.flat : ∀ {ps : List PM} {vs : List Value} {y : den (mutTy ps)} {O : List Nat}, mutFlat ps = true → MutsOk w A ps vs y O → MutsOk w A' ps vs y O
  | [], _, _, _, _, h => h
  | .imm _ :: _, _, _, _, hf, h => by obtain ⟨v, vs', h1, h2⟩ := h; exact ⟨v, vs', h1, MutsOk.flat hf h2⟩
  | .take _ :: _, _, _, _, hf, h => by obtain ⟨v, vs', h1, h2⟩ := h; exact ⟨v, vs', h1, MutsOk.flat hf h2⟩
  | .lent t :: _, _, _, _, hf, h => by
    simp only [mutFlat, Bool.and_eq_true] at hf
    obtain ⟨v, vs', O1, O2, h1, h2, h3, h4⟩ := h
    exact ⟨v, vs', O1, O2, h1, h2, h3.flat hf.1, MutsOk.flat hf.2 h4⟩
  | .ref t :: _, _, _, _, hf, h => by
    simp only [mutFlat, Bool.and_eq_true] at hf
    obtain ⟨v, vs', O1, O2, h1, h2, h3, h4⟩ := h
    exact ⟨v, vs', O1, O2, h1, h2, BoxAt.of h3 (fun h => h.flat hf.1), MutsOk.flat hf.2 h4⟩

theorem MutsOk.mono (hA : ∀ b, A b → A' b) : ∀ {ps : List PM} {vs : List Value} {y : den (mutTy ps)} {O : List Nat}, MutsOk w A ps vs y O → MutsOk w A' ps vs y O
  | [], _, _, _, h => h
  | .imm _ :: _, _, _, _, h => by obtain ⟨v, vs', h1, h2⟩ := h; exact ⟨v, vs', h1, MutsOk.mono hA h2⟩
  | .take _ :: _, _, _, _, h => by obtain ⟨v, vs', h1, h2⟩ := h; exact ⟨v, vs', h1, MutsOk.mono hA h2⟩
  | .lent t :: _, _, _, _, h => by
    obtain ⟨v, vs', O1, O2, h1, h2, h3, h4⟩ := h
    exact ⟨v, vs', O1, O2, h1, h2, h3.mono hA, MutsOk.mono hA h4⟩
  | .ref t :: _, _, _, _, h => by
    obtain ⟨v, vs', O1, O2, h1, h2, h3, h4⟩ := h
    exact ⟨v, vs', O1, O2, h1, h2, BoxAt.of h3 (fun h => h.mono hA), MutsOk.mono hA h4⟩

theorem ObOk.mono (hA : ∀ b, A b → A' b) {i : Nat} {ob : Ob} (h : ObOk w A g i ob) : ObOk w A' g i ob := by
  cases ob with
  | box cs =>
    obtain ⟨b, vs, el, h1, h2, h3⟩ := h
    exact ⟨b, vs, el, h1, h2, h3.frame (fun b hb => ⟨hA b hb, rfl⟩) (Gm.le_refl _)⟩
  | row e l =>
    obtain ⟨b, cap, h1, h2⟩ := h
    refine ⟨b, cap, h1, ?_⟩
    cases b with
    | none => exact h2
    | some b =>
      obtain ⟨q1, q2, q3, q4, q5, q6, q7, q8⟩ := h2
      exact ⟨q1, q2, q3, q4, q5, q6, q7, q8.mono fun _ _ h => Rd.mono hA h⟩

theorem updHp_append (hp : Hp) (a b : Upd) : updHp hp (a ++ b) = updHp (updHp hp a) b := by
  induction a generalizing hp with
  | nil => rfl
  | cons x a ih => exact ih _

theorem updHp_out {hp : Hp} : ∀ {L : List (Nat × Ob)} {j : Nat}, j ∉ L.map Prod.fst → updHp hp (lift L) j = hp j := by
  intro L
  induction L generalizing hp with
  | nil => intro j _; rfl
  | cons p L ih =>
    intro j h
    simp only [List.map_cons, List.mem_cons, not_or] at h
    show updHp (setHp hp p.1 (some p.2)) (lift L) j = _
    rw [ih h.2]
    simp [setHp, h.1]

theorem updHp_in {hp : Hp} : ∀ {L : List (Nat × Ob)} {p : Nat × Ob}, (L.map Prod.fst).Nodup → p ∈ L → updHp hp (lift L) p.1 = some p.2 := by
  intro L
  induction L generalizing hp with
  | nil => intro p _ h; cases h
  | cons q L ih =>
    intro p hn hp'
    simp only [List.map_cons, List.nodup_cons] at hn
    show updHp (setHp hp q.1 (some q.2)) (lift L) p.1 = _
    rcases List.mem_cons.1 hp' with rfl | h
    · rw [updHp_out hn.1]; simp [setHp]
    · exact ih hn.2 h

theorem filterMap_inj {gs : List Gh} (hn : (gs.filterMap Gh.blk).Nodup) {i j b : Nat} (hi : i < gs.length) (hj : j < gs.length) (h1 : gs[i].blk = some b) (h2 : gs[j].blk = some b) : i = j := by
  induction gs generalizing i j with
  | nil => simp at hi
  | cons x gs ih =>
    have hmem : ∀ {k : Nat} (hk : k < gs.length), gs[k].blk = some b → b ∈ gs.filterMap Gh.blk := fun hk h => List.mem_filterMap.2 ⟨_, List.getElem_mem hk, h⟩
    cases i with
    | zero =>
      cases j with
      | zero => rfl
      | succ j =>
        simp only [List.getElem_cons_zero] at h1
        simp only [List.getElem_cons_succ] at h2
        simp only [List.filterMap_cons, h1, List.nodup_cons] at hn
        exact absurd (hmem (by simpa using hj) h2) hn.1
    | succ i =>
      cases j with
      | zero =>
        simp only [List.getElem_cons_zero] at h2
        simp only [List.getElem_cons_succ] at h1
        simp only [List.filterMap_cons, h2, List.nodup_cons] at hn
        exact absurd (hmem (by simpa using hi) h1) hn.1
      | succ j =>
        simp only [List.getElem_cons_succ] at h1 h2
        have hn' : (gs.filterMap Gh.blk).Nodup := by
          simp only [List.filterMap_cons] at hn
          split at hn
          · exact hn
          · exact (List.nodup_cons.1 hn).2
        rw [ih hn' (by simpa using hi) (by simpa using hj) h1 h2]

theorem callA_sound (hI : Inv B hp g w) (hfresh : ∀ i, nid ≤ i → i < nid + 16 → g i = none) {c : FC} (hc : FSound P c) {avs : List AV} {vs : Array Value} (hconc : concL w (Im B hp g w) g avs vs.toList)
    {r : AV} {ups : Upd} (h : (callA hp nid c avs).val = some (r, ups)) :
    Calls P c.id vs w (fun e w' => ∃ g' v, e = .returned v ∧ Post B hp (updHp hp ups) g w nid r g' w' v) := by
  unfold callA at h
  split at h
  · rename_i x os ms fs hpk
    split at h
    · rename_i hok
      simp only [Bool.and_eq_true, decide_eq_true_eq, Bool.or_eq_true, List.isEmpty_iff] at hok
      obtain ⟨⟨⟨hos, hdj⟩, hflat⟩, hcnt⟩ := hok
      have hos := nodupB_iff hos
      have hdj := disjB_iff hdj
      simp only [CT.val] at h
      cases hy : c.sem x with
      | none => rw [hy] at h; cases h
      | some y =>
        rw [hy] at h
        simp only [Option.bind_some] at h
        obtain ⟨rfl, rfl⟩ := Prod.mk.inj (Option.some.inj h)
        obtain ⟨hargs, hao, ham, haf⟩ := packArgs_ok hI hconc hpk
        have hO : ∀ b ∈ bo g os, ∃ i ∈ os, BlkOf hp g i b := fun b hb => bo_blkOf hao hb
        have hA : ∀ b, With B hp g w (ms ++ fs) b → b < w.heap.size ∧ b ∉ bo g os := by
          rintro b (hb | ⟨i, hi, hb⟩)
          · refine ⟨hb.1, fun hO' => ?_⟩
            obtain ⟨j, _, hj⟩ := hO b hO'
            exact hb.2.2 (alive_iff.2 ⟨j, hj⟩)
          · refine ⟨(hI.blk' hb).1, fun hO' => ?_⟩
            obtain ⟨j, hj, hjb⟩ := hO b hO'
            have := hI.inj' hb hjb
            subst this
            exact hdj _ hi hj
        refine (hc.2 x y hy w _ vs (bo g os) hargs (bo_nodup hI hao hos) hA (fun b hb => by obtain ⟨i, _, hi⟩ := hO b hb; exact (hI.blk' hi).1)).mono ?_
        intro e w' hpost
        obtain ⟨hfr, us, Or, Om, rfl, hres, hmut, hnd, hblk⟩ := hpost
        -- what may be read behind the call
        let A3 : Nat → Prop := fun b => After w w' (With B hp g w (ms ++ fs)) (bo g os) (Or ++ Om) b ∧ ¬ ∃ i ∈ ms, BlkOf hp g i b
        have hres3 : RessOk w' A3 c.rs us y.1 Or := by
          rcases hflat with hms | hfl
          · exact hres.mono fun b hb => ⟨hb, fun ⟨i, hi, _⟩ => by rw [hms] at hi; cases hi⟩
          · exact hres.flat hfl.1
        have hmut3 : MutsOk w' A3 c.ps vs.toList y.2 Om := by
          rcases hflat with hms | hfl
          · exact hmut.mono fun b hb => ⟨hb, fun ⟨i, hi, _⟩ => by rw [hms] at hi; cases hi⟩
          · exact hmut.flat hfl.2
        obtain ⟨r1, gs1, r2, r3, r4⟩ := resAll_ok nid hres3
        obtain ⟨m1, m2, m3, m4, gs2, m5, m6, m7⟩ := muts_ok hI (nid + cntRs c.rs) hconc hpk hmut3
        generalize hWr : backWrites hp (nid + cntRs c.rs) c.ps avs y.2 = Wr at m2 m3 m6 m7 ⊢
        generalize hNw : backNews (nid + cntRs c.rs) c.ps y.2 = Nw at m1 m7 ⊢
        generalize hK : backKills hp c.ps avs = K at m3 m4 ⊢
        generalize hRs : resAll nid c.rs y.1 = Rs at r1 r4 ⊢
        let gs := gs1 ++ gs2
        have hgl : gs.length = cntRs c.rs + cntPs c.ps := by simp [gs, r2, m5]
        let g' : Gm := fun j => if nid ≤ j ∧ j < nid + gs.length then gs[j - nid]? else g j
        have hgle : g.le g' := by
          intro j gh hj
          have : ¬ (nid ≤ j ∧ j < nid + gs.length) := by
            rintro ⟨h1, h2⟩
            rw [hfresh j h1 (by omega)] at hj
            cases hj
          simp only [g', if_neg this]; exact hj
        have hghosts : Ghosts g' nid gs := by
          intro k hk
          have : nid ≤ nid + k ∧ nid + k < nid + gs.length := by omega
          simp only [g', if_pos this]
          rw [show nid + k - nid = k by omega, List.getElem?_eq_getElem hk]
        have hgh1 : Ghosts g' nid gs1 := hghosts.left
        have hgh2 : Ghosts g' (nid + cntRs c.rs) gs2 := by have := hghosts.right; rw [r2] at this; exact this
        obtain ⟨⟨ra, rb⟩, rc⟩ := r4 g' hgh1
        obtain ⟨ma, mb⟩ := m7 g' hgle hgh2
        -- the numbers that are written
        let L : List (Nat × Ob) := Wr ++ (Nw ++ Rs.2)
        have hkeys : L.map Prod.fst = Wr.map Prod.fst ++ (List.range' (nid + cntRs c.rs) (cntPs c.ps) ++ List.range' nid (cntRs c.rs)) := by simp [L, m1, r1]
        have hWos : ∀ i ∈ Wr.map Prod.fst, i ∈ os := fun i hi => m2.subset hi
        have hgos : ∀ i ∈ os, g i ≠ none := by
          intro i hi hn
          exact hao i hi (hI.none_of hn)
        have hfr1 : ∀ i, i ∈ List.range' (nid + cntRs c.rs) (cntPs c.ps) ++ List.range' nid (cntRs c.rs) ↔ nid ≤ i ∧ i < nid + gs.length := by
          intro i
          simp only [List.mem_append, List.mem_range'_1, hgl]
          omega
        have hnodup : (L.map Prod.fst).Nodup := by
          rw [hkeys, List.nodup_append]
          refine ⟨List.Nodup.sublist m2 hos, ?_, ?_⟩
          · rw [List.nodup_append]
            refine ⟨List.nodup_range', List.nodup_range', ?_⟩
            intro a ha b hb hab
            simp only [List.mem_range'_1] at ha hb
            omega
          · intro a ha b hb hab
            subst hab
            have := (hfr1 a).1 hb
            exact hgos a (hWos a ha) (hfresh a this.1 (by omega))
        let hp' := updHp hp (kills K ++ lift L)
        have hin : ∀ p ∈ L, hp' p.1 = some p.2 := fun p hpL => by
          show updHp hp (kills K ++ lift L) p.1 = _
          rw [updHp_append]; exact updHp_in hnodup hpL
        have hout : ∀ j, j ∉ L.map Prod.fst → hp' j = if j ∈ K then none else hp j := fun j hj => by
          show updHp hp (kills K ++ lift L) j = _
          rw [updHp_append, updHp_out hj, updHp_kills, killAll_at]
        -- the blocks of the numbers
        have hperm : (Or ++ Om).Perm (gs1.filterMap Gh.blk ++ (bo g (Wr.map Prod.fst) ++ gs2.filterMap Gh.blk)) := by
          rw [r3]; exact List.Perm.append_left _ m6
        have hnd2 := hperm.nodup_iff.1 hnd
        have hmemO : ∀ b, b ∈ Or ++ Om ↔ (b ∈ gs.filterMap Gh.blk ∨ b ∈ bo g (Wr.map Prod.fst)) := by
          intro b
          rw [hperm.mem_iff]
          simp only [gs, List.filterMap_append, List.mem_append]
          constructor
          · rintro (h | h | h)
            · exact .inl (.inl h)
            · exact .inr h
            · exact .inl (.inr h)
          · rintro ((h | h) | h)
            · exact .inl h
            · exact .inr (.inr h)
            · exact .inr (.inl h)
        have hgsnd : (gs.filterMap Gh.blk).Nodup := by
          simp only [gs, List.filterMap_append]
          exact List.Nodup.sublist (List.Sublist.append (List.Sublist.refl _) (List.sublist_append_right _ _)) hnd2
        have hgsW : ∀ b, b ∈ gs.filterMap Gh.blk → b ∉ bo g (Wr.map Prod.fst) := by
          intro b h1 h2
          simp only [gs, List.filterMap_append, List.mem_append] at h1
          rw [List.nodup_append] at hnd2
          obtain ⟨_, n2, n3⟩ := hnd2
          rcases h1 with h1 | h1
          · exact n3 b h1 b (List.mem_append.2 (.inl h2)) rfl
          · rw [List.nodup_append] at n2
            exact n2.2.2 b h2 b h1 rfl
        -- every block behind the call
        have hkind : ∀ i b, BlkOf hp' g' i b → (nid ≤ i ∧ i < nid + gs.length ∧ ∃ h : i - nid < gs.length, gs[i - nid].blk = some b) ∨ (i ∈ Wr.map Prod.fst ∧ BlkOf hp g i b) ∨
            (i ∉ L.map Prod.fst ∧ i ∉ K ∧ i ∉ os ∧ hp' i = hp i ∧ BlkOf hp g i b) := by
          rintro i b ⟨ob, gh, h1, h2, h3⟩
          by_cases hfi : nid ≤ i ∧ i < nid + gs.length
          · left
            have hlt : i - nid < gs.length := by omega
            simp only [g', if_pos hfi] at h2
            rw [List.getElem?_eq_getElem hlt] at h2
            obtain rfl := Option.some.inj h2
            exact ⟨hfi.1, hfi.2, hlt, h3⟩
          · simp only [g', if_neg hfi] at h2
            right
            by_cases hw : i ∈ Wr.map Prod.fst
            · left
              refine ⟨hw, ?_⟩
              cases ho : hp i with
              | none => exact absurd ho (hao i (hWos i hw))
              | some o => exact ⟨o, gh, ho, h2, h3⟩
            · right
              have hnL : i ∉ L.map Prod.fst := by
                rw [hkeys, List.mem_append]
                rintro (h | h)
                · exact hw h
                · exact hfi ((hfr1 i).1 h)
              have ho := hout i hnL
              by_cases hk : i ∈ K
              · rw [if_pos hk] at ho; rw [ho] at h1; cases h1
              · rw [if_neg hk] at ho
                refine ⟨hnL, hk, fun hios => ?_, ho, ob, gh, by rw [← ho]; exact h1, h2, h3⟩
                rcases m3 i hios with h | h
                · exact hw h
                · exact hk h
        have hOrOm : ∀ i b, BlkOf hp' g' i b → (nid ≤ i ∧ i < nid + gs.length) ∨ i ∈ Wr.map Prod.fst → b ∈ Or ++ Om := by
          intro i b hb hcase
          rcases hkind i b hb with ⟨_, _, hlt, h⟩ | ⟨hw, h⟩ | ⟨hnL, _, _, _, _⟩
          · exact (hmemO b).2 (.inl (List.mem_filterMap.2 ⟨_, List.getElem_mem hlt, h⟩))
          · refine (hmemO b).2 (.inr ?_)
            obtain ⟨ob, gh, _, h2, h3⟩ := h
            exact List.mem_filterMap.2 ⟨i, hw, by rw [h2]; exact h3⟩
          · exfalso; apply hnL
            rw [hkeys, List.mem_append]
            rcases hcase with hc | hc
            · exact .inr ((hfr1 i).2 hc)
            · exact .inl hc
        have hpos := hI.step (hp' := hp') (g' := g') (w' := w') hgle hfr.os hfr.tape hfr.output hfr.size ?_ ?_ ?_ ?_ ?_
        · obtain ⟨hI', hK'⟩ := hpos
          refine ⟨g', resV us, rfl, hgle, ?_, hI', hK', ?_⟩
          · intro i h1 h2
            by_cases hfi : nid ≤ i ∧ i < nid + gs.length
            · exact ⟨hfi.1, by omega⟩
            · simp only [g', if_neg hfi] at h2; exact absurd h1 h2
          · have hA3 : ∀ b, A3 b → Im B hp' g' w' b := by
              rintro b ⟨⟨a1, a2, a3⟩, a4⟩
              refine ⟨a1, ?_, fun hal => ?_⟩
              · rcases a2 with (hb | ⟨i, _, hb⟩) | hb | hb
                · exact hb.2.1
                · exact .inr (hI.blk' hb).2
                · exact .inr (.inl (Nat.le_trans hI.fr.size hb))
                · obtain ⟨i, _, hi⟩ := hO b hb
                  exact .inr (hI.blk' hi).2
              · obtain ⟨i, hi⟩ := alive_iff.1 hal
                rcases hkind i b hi with ⟨h1, h2, _, _⟩ | ⟨hw, _⟩ | ⟨_, hk, hos', _, hb⟩
                · exact a3 (hOrOm i b hi (.inl ⟨h1, h2⟩))
                · exact a3 (hOrOm i b hi (.inr hw))
                · rcases a2 with (hb' | ⟨j, hj, hb'⟩) | hb' | hb'
                  · exact hb'.2.2 (alive_iff.2 ⟨i, hb⟩)
                  · have := hI.inj' hb hb'
                    subst this
                    rcases List.mem_append.1 hj with hj | hj
                    · exact a4 ⟨i, hj, hb⟩
                    · exact hk (m4 i hj)
                  · have := (hI.blk' hb).1; omega
                  · obtain ⟨j, hj, hjb⟩ := hO b hb'
                    have := hI.inj' hb hjb
                    subst this
                    exact hos' hj
            exact (resAV_conc ra rb).frame (fun b hb => ⟨hA3 b hb, rfl⟩) (Gm.le_refl _)
        · intro i b hb
          rcases hkind i b hb with ⟨h1, h2, _, _⟩ | ⟨hw, h⟩ | ⟨_, _, _, _, h⟩
          · rcases (hblk b (hOrOm i b hb (.inl ⟨h1, h2⟩))).2 with h | h
            · exact .inr h
            · obtain ⟨j, _, hj⟩ := hO b h; exact .inl ⟨j, hj⟩
          · exact .inl ⟨i, h⟩
          · exact .inl ⟨i, h⟩
        · intro i b hb
          rcases hkind i b hb with ⟨h1, h2, _, _⟩ | ⟨hw, h⟩ | ⟨_, _, _, _, h⟩
          · exact (hblk b (hOrOm i b hb (.inl ⟨h1, h2⟩))).1
          · exact Nat.lt_of_lt_of_le (hI.blk' h).1 hfr.size
          · exact Nat.lt_of_lt_of_le (hI.blk' h).1 hfr.size
        · intro b hb hna
          exact hfr.block b hb (fun h => by obtain ⟨i, _, hi⟩ := hO b h; exact hna i hi)
        · intro i j b hi hj
          have hnot : ∀ i, BlkOf hp' g' i b → (i ∉ L.map Prod.fst ∧ i ∉ K ∧ i ∉ os ∧ hp' i = hp i ∧ BlkOf hp g i b) → b ∉ Or ++ Om := by
            rintro i hi ⟨_, _, hos', _, h⟩ hm
            rcases (hblk b hm).2 with h1 | h1
            · have := (hI.blk' h).1; omega
            · obtain ⟨j, hj, hjb⟩ := hO b h1
              have := hI.inj' h hjb
              subst this; exact hos' hj
          rcases hkind i b hi with ⟨i1, i2, i3, i4⟩ | ⟨iw, ih⟩ | iu <;> rcases hkind j b hj with ⟨j1, j2, j3, j4⟩ | ⟨jw, jh⟩ | ju
          · have := filterMap_inj hgsnd i3 j3 i4 j4; omega
          · exfalso
            refine hgsW b (List.mem_filterMap.2 ⟨_, List.getElem_mem i3, i4⟩) ?_
            obtain ⟨ob, gh, _, h2, h3⟩ := jh
            exact List.mem_filterMap.2 ⟨j, jw, by rw [h2]; exact h3⟩
          · exact absurd (hOrOm i b hi (.inl ⟨i1, i2⟩)) (hnot j hj ju)
          · exfalso
            refine hgsW b (List.mem_filterMap.2 ⟨_, List.getElem_mem j3, j4⟩) ?_
            obtain ⟨ob, gh, _, h2, h3⟩ := ih
            exact List.mem_filterMap.2 ⟨i, iw, by rw [h2]; exact h3⟩
          · exact hI.inj' ih jh
          · exact absurd (hOrOm i b hi (.inr iw)) (hnot j hj ju)
          · exact absurd (hOrOm j b hj (.inl ⟨j1, j2⟩)) (hnot i hi iu)
          · exact absurd (hOrOm j b hj (.inr jw)) (hnot i hi iu)
          · exact hI.inj' iu.2.2.2.2 ju.2.2.2.2
        · intro hk i ob hi
          by_cases hL : i ∈ L.map Prod.fst
          · right
            obtain ⟨p, hp, rfl⟩ := List.mem_map.1 hL
            rw [hin p hp] at hi
            obtain rfl := Option.some.inj hi
            have hob : ObOk w' A3 g' p.1 p.2 := by
              simp only [L, List.mem_append] at hp
              rcases hp with hp | hp | hp
              · exact ma p hp
              · exact mb p hp
              · exact rc p hp
            refine hob.mono ?_
            rintro b ⟨⟨a1, a2, a3⟩, a4⟩
            refine ⟨a1, ?_, fun hal => ?_⟩
            · rcases a2 with (hb | ⟨i, _, hb⟩) | hb | hb
              · exact hb.2.1
              · exact .inr (hI.blk' hb).2
              · exact .inr (.inl (Nat.le_trans hI.fr.size hb))
              · obtain ⟨i, _, hi⟩ := hO b hb
                exact .inr (hI.blk' hi).2
            · obtain ⟨i, hi⟩ := alive_iff.1 hal
              rcases hkind i b hi with ⟨h1, h2, _, _⟩ | ⟨hw, _⟩ | ⟨_, hk, hos', _, hb⟩
              · exact a3 (hOrOm i b hi (.inl ⟨h1, h2⟩))
              · exact a3 (hOrOm i b hi (.inr hw))
              · rcases a2 with (hb' | ⟨j, hj, hb'⟩) | hb' | hb'
                · exact hb'.2.2 (alive_iff.2 ⟨i, hb⟩)
                · have := hI.inj' hb hb'
                  subst this
                  rcases List.mem_append.1 hj with hj | hj
                  · exact a4 ⟨i, hj, hb⟩
                  · exact hk (m4 i hj)
                · have := (hI.blk' hb).1; omega
                · obtain ⟨j, hj, hjb⟩ := hO b hb'
                  have := hI.inj' hb hjb
                  subst this
                  exact hos' hj
          · left
            have ho := hout i hL
            by_cases hk' : i ∈ K
            · rw [if_pos hk'] at ho; rw [ho] at hi; cases hi
            · rw [if_neg hk'] at ho
              refine ⟨by rw [← ho]; exact hi, fun b hb => hfr.block b (hI.blk' hb).1 (fun hm => ?_)⟩
              obtain ⟨j, hj, hjb⟩ := hO b hm
              have := hI.inj' hb hjb
              subst this
              rcases m3 i hj with h | h
              · apply hL; rw [hkeys, List.mem_append]; exact .inl h
              · exact hk' h
    · cases h
  · cases h

end Go.Proofs.Ythjiokbokncpoaa.Rf
