/- Every operation that the plain reading takes: the machine does what it says (all of them). -/
import Derived.Test.YthjiokbokncpoaaRfR
namespace Go.Proofs.Ythjiokbokncpoaa.Rf
open Go

variable {P : Program} {B : Base} {hp hp' : Hp} {g : Gm} {w : World} {nid : Nat}

theorem wp_val {o : Oper} {a : Act} {K : Act → World → Prop} {Q : Exit → Act → World → Prop} {c : CV} {s : Sem Value} (hI : Inv B hp g w) (he : execOp a.eval o = (do pure (.value (← s))))
    (hK : ∀ g' w' v, Post B hp (updHp hp []) g w nid (.c c) g' w' v → K (a.put o.dst v) w') {v : Value} (hr : s.run P w = .ok v w) (hc : concC w (Im B hp g w) g c v) : o.wp P a w K Q :=
  wp_of_runs he (Runs.pure (r := .c c) hI hr hc) hK

theorem ok_val {α : Type} {x y : α} (h : (CT.ok x).val = some y) : x = y := Option.some.inj h

theorem evalA_conc {A : Nat → Prop} {g : Gm} {tm : List AV} {a : Act} (h : concTm w A g tm a.tmps) (x : Operand) : conc w A g (evalA tm x) (a.eval x) := by
  cases x with
  | tmp t =>
    simp only [evalA, Act.eval]
    rcases Nat.lt_or_ge t tm.length with ht | ht
    · have ht' : t < a.tmps.size := by rw [← h.1]; exact ht
      have := h.2 t ht ht'
      simpa [ht, ht'] using this
    · have ht' : a.tmps.size ≤ t := by rw [← h.1]; exact ht
      simp only [List.getD_eq_getElem?_getD, List.getElem?_eq_none ht, Option.getD_none]
      trivial
  | const v =>
    cases v with
    | int k n => rfl
    | bool b => rfl
    | string s => rfl
    | slice a n c =>
      match a, n, c with
      | none, 0, 0 => rfl
      | some _, _, _ => trivial
      | none, _ + 1, _ => trivial
      | none, 0, _ + 1 => trivial
    | _ => trivial
  | global i => trivial
  | func f => rfl

def AllSound (P : Program) (fs : List FC) : Prop := ∀ c ∈ fs, FSound P c

theorem findFC_mem : ∀ {fs : List FC} {f : FuncId} {c : FC}, findFC fs f = some c → c ∈ fs ∧ c.id = f
  | [], _, _, h => by cases h
  | d :: fs, f, c, h => by
    simp only [findFC] at h
    split at h
    · rename_i hd
      obtain rfl := Option.some.inj h
      exact ⟨by simp, hd⟩
    · obtain ⟨h1, h2⟩ := findFC_mem h
      exact ⟨by simp [h1], h2⟩

theorem cells_len {A : Nat → Prop} {g : Gm} {tm : List AV} {ρ : Operand → Value} {ps : Array (Nat × Operand)} (hρ : ∀ x, conc w A g (evalA tm x) (ρ x)) :
    ∀ j (h : j < (ps.toList.map fun p => (p.1, evalA tm p.2)).length) (h' : j < (ps.map fun (p : Nat × Operand) => (p.1, ρ p.2)).toList.length),
      ((ps.toList.map fun p => (p.1, evalA tm p.2))[j]).1 = ((ps.map fun (p : Nat × Operand) => (p.1, ρ p.2)).toList[j]).1 ∧ conc w A g ((ps.toList.map fun p => (p.1, evalA tm p.2))[j]).2 ((ps.map fun (p : Nat × Operand) => (p.1, ρ p.2)).toList[j]).2 := by
  intro j h h'
  simp only [List.getElem_map, Array.toList_map]
  exact ⟨trivial, hρ _⟩

theorem stepOp_sound {cfg : Cfg} (hte : teB P cfg.te = true) (hfs : AllSound P cfg.fs) (hI : Inv B hp g w) (hfresh : ∀ i, nid ≤ i → i < nid + 16 → g i = none) {tm : List AV} {a : Act}
    (htm : concTm w (Im B hp g w) g tm a.tmps) {o : Oper} {r : AV} {ups : Upd} (h : (stepOp cfg (evalA tm) hp nid o.op).val = some (r, ups)) {K : Act → World → Prop} {Q : Exit → Act → World → Prop}
    (hK : ∀ g' w' v, Post B hp (updHp hp ups) g w nid r g' w' v → K (a.put o.dst v) w') : o.wp P a w K Q := by
  have hn : g nid = none := hfresh nid (Nat.le_refl _) (by omega)
  have hρ : ∀ x, conc w (Im B hp g w) g (evalA tm x) (a.eval x) := evalA_conc htm
  obtain ⟨dst, op, type, pos, after, guard⟩ := o
  cases op <;> simp only [stepOp] at h <;> try (cases h; done)
  case move x =>
    obtain ⟨rfl, rfl⟩ := Prod.mk.inj (ok_val h)
    exact wp_of_runs (s := pure (a.eval x)) rfl (Runs.pure hI rfl (hρ x)) hK
  case assign x =>
    obtain ⟨rfl, rfl⟩ := Prod.mk.inj (ok_val h)
    exact wp_of_runs (s := pure (a.eval x)) rfl (Runs.pure hI rfl (hρ x)) hK
  case pick c x y =>
    have hc := hρ c
    split at h
    · rename_i t ht
      rw [ht] at hc
      obtain ⟨rfl, rfl⟩ := Prod.mk.inj (ok_val h)
      have hc' : a.eval c = .bool t := hc
      refine wp_of_runs (s := do pure (if ← asBool (a.eval c) then a.eval x else a.eval y)) (by simp only [execOp]; simp) (Runs.pure (v := if t then a.eval x else a.eval y) hI ?_ ?_) hK
      · rw [hc']; simp [asBool]
      · cases t
        · exact hρ y
        · exact hρ x
    · cases h
  case alloc t =>
    split at h
    · rename_i i hi
      obtain ⟨rfl, rfl⟩ := Prod.mk.inj (ok_val h)
      exact wp_of_runs rfl (alloc_runs hI hn (teB_ok hte hi).rep) hK
    · cases h
  case box t x =>
    split at h
    · rename_i i hi
      split at h
      · rename_i hok
        simp only [Bool.and_eq_true, decide_eq_true_eq] at hok
        obtain ⟨rfl, rfl⟩ := Prod.mk.inj (ok_val h)
        exact wp_of_runs rfl (box_runs hI hn ((hρ x).cells hok.1.2 hok.2).1) hK
      · cases h
    · cases h
  case build t ps =>
    split at h
    · rename_i i hi
      split at h
      · rename_i hs
        split at h
        · rename_i cs hcs
          obtain ⟨rfl, rfl⟩ := Prod.mk.inj (ok_val h)
          obtain ⟨cells, k1, k2⟩ := build_run (P := P) (vs := ps.map fun (i, x) => (i, a.eval x)) (teB_ok hte hi).rep hs (by simp) (cells_len hρ) hcs
          exact wp_of_runs rfl (Runs.pure (r := .agg cs) hI k1 ⟨cells, rfl, k2⟩) hK
        · cases h
      · cases h
    · cases h
  case buildSlice t n ps =>
    split at h
    · rename_i e b1 b2 hi
      split at h
      · rename_i hok
        simp only [Bool.and_eq_true, decide_eq_true_eq] at hok
        obtain ⟨⟨⟨h1, h2⟩, h3⟩, h4⟩ := hok
        split at h
        · rename_i l hl
          obtain ⟨rfl, rfl⟩ := Prod.mk.inj (ok_val h)
          have hr := buildSlice_runs (P := P) (ps := ps.toList.map fun p => (p.1, evalA tm p.2)) (vs := ps.map fun (i, x) => (i, a.eval x)) hI hn (teB_ok hte hi) rfl h2 (by simp) (cells_len hρ) (by rw [List.map_map]; exact h1) h3
            (fun p hp => by
              obtain ⟨q, hq, rfl⟩ := List.mem_map.1 hp
              exact ⟨e, List.all_eq_true.1 h4 q hq⟩) (l := l) (by rw [List.map_map]; exact hl)
          rw [List.flatMap_map] at hr
          refine wp_of_runs rfl hr ?_
          intro g' w' v hp
          refine hK g' w' v ?_
          rw [← updHp_kills] at hp
          exact hp
        · cases h
      · cases h
    · cases h
  case load t x =>
    split at h
    · rename_i i hi
      have hr := (teB_ok hte hi).rep
      have hx := hρ x
      split at h
      · rename_i j off ha
        rw [ha] at hx
        split at h
        · rename_i cs hj
          split at h
          · rename_i hle
            obtain ⟨rfl, rfl⟩ := Prod.mk.inj (ok_val h)
            exact wp_of_runs rfl (load_ptr_runs hI hr hx hj hle) hK
          · cases h
        · cases h
      · rename_i j ix off ha
        rw [ha] at hx
        split at h
        · rename_i e l hj
          split at h
          · rename_i hle
            simp only [Bool.and_eq_true, decide_eq_true_eq] at hle
            obtain ⟨rfl, rfl⟩ := Prod.mk.inj (ok_val h)
            exact wp_of_runs rfl (load_elt_runs hI hr hx hj hle.1) hK
          · cases h
        · cases h
      · rename_i e y off ha
        rw [ha] at hx
        split at h
        · rename_i hle
          obtain ⟨rfl, rfl⟩ := Prod.mk.inj (ok_val h)
          exact wp_of_runs rfl (load_cst_runs hI hr hx hle) hK
        · cases h
      · cases h
    · cases h
  case store t x y =>
    split at h
    · rename_i i hi
      have hr := (teB_ok hte hi).rep
      have hx := hρ x
      have hy := hρ y
      split at h
      · rename_i hok
        simp only [Bool.and_eq_true, decide_eq_true_eq] at hok
        obtain ⟨⟨h1, h2⟩, h3⟩ := hok
        split at h
        · rename_i j off ha
          rw [ha] at hx
          split at h
          · rename_i cs hj
            split at h
            · rename_i hle
              obtain ⟨rfl, rfl⟩ := Prod.mk.inj (ok_val h)
              exact wp_of_runsU rfl (store_ptr_runs hI hr hx hy h2 h3 h1 hj hle) hK
            · cases h
          · cases h
        · rename_i j ix off ha
          rw [ha] at hx
          split at h
          · rename_i e l hj
            split at h
            · rename_i hle
              simp only [Bool.and_eq_true, decide_eq_true_eq, Bool.not_eq_true', List.contains_eq_mem] at hle
              obtain ⟨⟨k1, k2⟩, k3⟩ := hle
              split at h
              · rename_i z hz
                obtain ⟨rfl, rfl⟩ := Prod.mk.inj (ok_val h)
                refine wp_of_runsU (nid := nid) rfl (store_elt_runs hI hr hx hy h2 h3 h1 hj k1 k2 (by simpa using k3) hz) ?_
                intro g' w' v hp
                refine hK g' w' v ?_
                rw [← updHp_kills] at hp
                exact hp
              · cases h
            · cases h
          · cases h
        · cases h
      · cases h
    · cases h
  case nilCheck x =>
    have hx := hρ x
    split at h
    · rename_i i off ha
      rw [ha] at hx
      obtain ⟨rfl, rfl⟩ := Prod.mk.inj (ok_val h)
      have hx' := hx
      obtain ⟨b, h1, h2⟩ := hx'
      refine wp_of_runs (s := pure (a.eval x)) ?_ (Runs.pure hI rfl hx) hK
      simp only [execOp]; rw [h2]; rfl
    · rename_i i ix off ha
      rw [ha] at hx
      obtain ⟨rfl, rfl⟩ := Prod.mk.inj (ok_val h)
      have hx' := hx
      obtain ⟨e, b, len, cap, h1, h3, h2⟩ := hx'
      refine wp_of_runs (s := pure (a.eval x)) ?_ (Runs.pure hI rfl hx) hK
      simp only [execOp]; rw [h2]; rfl
    · rename_i e y off ha
      rw [ha] at hx
      obtain ⟨rfl, rfl⟩ := Prod.mk.inj (ok_val h)
      have hx' := hx
      obtain ⟨b, o, vs, el, fz, h2, _⟩ := hx'
      refine wp_of_runs (s := pure (a.eval x)) ?_ (Runs.pure hI rfl hx) hK
      simp only [execOp]; rw [h2]; rfl
    · cases h
  case binOp bop t x y yt =>
    have hx := hρ x
    have hy := hρ y
    split at h
    · rename_i u v hu hv
      rw [hu] at hx; rw [hv] at hy
      have hx' : a.eval x = .bool u := hx
      have hy' : a.eval y = .bool v := hy
      split at h
      · rename_i b1 b2 hi
        have hr := (teB_ok hte hi).rep
        split at h
        · obtain ⟨rfl, rfl⟩ := val1_inj h
          refine wp_val hI rfl hK ?_ rfl
          rw [hx', hy']
          exact (boolEq_runs hr).1
        · obtain ⟨rfl, rfl⟩ := val1_inj h
          refine wp_val hI rfl hK ?_ rfl
          rw [hx', hy']
          exact (boolEq_runs hr).2
        · cases h
      · cases h
    · rename_i u v _ hu hv
      rw [hu] at hx; rw [hv] at hy
      rw [map_val] at h
      cases hb : (binOpA bop u v).val with
      | none => rw [hb] at h; cases h
      | some c =>
        rw [hb] at h
        obtain ⟨rfl, rfl⟩ := val1_inj h
        obtain ⟨z, k1, k2⟩ := binOpA_runs (P := P) (t := t) (x := x) (y := y) hx hy hb
        exact wp_val hI rfl hK k1 k2
    · cases h
  case unOp uop t x =>
    have hx := hρ x
    split at h
    · rename_i u hu
      rw [hu] at hx
      rw [map_val] at h
      cases hb : (unOpA uop u).val with
      | none => rw [hb] at h; cases h
      | some c =>
        rw [hb] at h
        obtain ⟨rfl, rfl⟩ := val1_inj h
        obtain ⟨z, k1, k2⟩ := unOpA_runs (P := P) hx hb
        exact wp_val hI rfl hK k1 k2
    · cases h
  case convert s d x =>
    have hx := hρ x
    split at h
    · rename_i k0 b1 b2 k b3 b4 hs hd
      have h1 := (teB_ok hte hs).rep
      have h2 := (teB_ok hte hd).rep
      split at h
      · rename_i k' n hu
        rw [hu] at hx
        have hx' : a.eval x = .int k' n := hx
        obtain ⟨rfl, rfl⟩ := val1_inj h
        refine wp_val hI rfl hK ?_ rfl
        rw [hx']; exact conv_int h1 h2
      · cases h
    · rename_i b1 b2 b3 b4 hs hd
      have h1 := (teB_ok hte hs).rep
      have h2 := (teB_ok hte hd).rep
      split at h
      · rename_i z hu
        rw [hu] at hx
        have hx' : a.eval x = .string z := hx
        obtain ⟨rfl, rfl⟩ := val1_inj h
        refine wp_val hI rfl hK ?_ rfl
        rw [hx']; exact conv_str h1 h2
      · cases h
    · rename_i b1 b2 b3 b4 hs hd
      have h1 := (teB_ok hte hs).rep
      have h2 := (teB_ok hte hd).rep
      split at h
      · rename_i v hu
        rw [hu] at hx
        split at h
        · rename_i l hl
          obtain ⟨rfl, rfl⟩ := val1_inj h
          exact wp_val hI rfl hK (conv_bytes h1 h2 (asL_sound hI hx hl)) rfl
        · cases h
      · cases h
    · rename_i b1 b2 b3 b4 hs hd
      have h1 := (teB_ok hte hs).rep
      have h2 := (teB_ok hte hd).rep
      split at h
      · rename_i z hu
        rw [hu] at hx
        have hx' : a.eval x = .string z := hx
        obtain ⟨rfl, rfl⟩ := Prod.mk.inj (ok_val h)
        refine wp_of_runs rfl (hx'.symm ▸ stringToBytes_runs hI hn h1 h2) hK
      · cases h
    · cases h
  case makeSlice t l c =>
    split at h
    · rename_i e b1 eb hi
      split at h
      · rename_i hok
        simp only [Bool.and_eq_true, bne_iff_ne, ne_eq] at hok
        obtain ⟨⟨h1, h2⟩, h3⟩ := hok
        split at h
        · rename_i n hu
          simp only [CT.val] at h
          obtain ⟨k0, h⟩ := bif_some h
          obtain ⟨k1, h⟩ := bif_some h
          obtain ⟨rfl, rfl⟩ := Prod.mk.inj (Option.some.inj h)
          have hl := hρ l
          rw [hu] at hl
          have hl' : a.eval l = .int .i64 n := hl
          have hc' : a.eval c = a.eval l := by
            unfold sameTmp at h1
            split at h1
            · have := beq_iff_eq.1 h1; rw [this]
            · have := beq_iff_eq.1 h1; rw [this]
            · cases h1
          refine wp_of_runs rfl ?_ hK
          rw [hc', hl']
          exact makeSlice_runs hI hn (teB_ok hte hi) rfl h2 h3 (by simpa using k0) (by simpa using k1)
        · cases h
      · cases h
    · cases h
  case slice t x lo hi mx =>
    cases mx with
    | some _ => cases h
    | none =>
      simp only at h
      have hx := hρ x
      split at h
      · rename_i c hc
        rw [hc] at hx
        split at h
        · rename_i y hlo
          split at h
          · rename_i n hn'
            split at h
            · rename_i z hhi
              exact wp_of_runs rfl (sliceA_runs hI hte hx (optI_conc hρ hlo) hn' (optI_conc hρ hhi) h) hK
            · cases h
          · cases h
        · cases h
      · cases h
  case fieldAddr s x f =>
    split at h
    · rename_i i hi
      have hr := (teB_ok hte hi).rep
      have hx := hρ x
      split at h
      · rename_i o ft hf
        split at h
        · rename_i j off ha
          rw [ha] at hx
          obtain ⟨rfl, rfl⟩ := Prod.mk.inj (ok_val h)
          obtain ⟨b, h1, h2⟩ := hx
          refine wp_val hI rfl hK (v := .pointer (some ⟨b, off + o, none⟩)) ?_ ⟨b, h1, rfl⟩
          rw [h2]; exact fieldAddr_run hr hf b off
        · rename_i j ix off ha
          rw [ha] at hx
          obtain ⟨rfl, rfl⟩ := Prod.mk.inj (ok_val h)
          obtain ⟨e, b, len, cap, h1, h3, h2⟩ := hx
          refine wp_val hI rfl hK (v := .pointer (some ⟨b, ix * csz e + off + o, none⟩)) ?_ ⟨e, b, len, cap, h1, h3, by rw [Nat.add_assoc]⟩
          rw [h2]; exact fieldAddr_run hr hf b _
        · rename_i e y off ha
          rw [ha] at hx
          obtain ⟨rfl, rfl⟩ := Prod.mk.inj (ok_val h)
          obtain ⟨b, oo, vs, el, fz, h2, h3⟩ := hx
          refine wp_val hI rfl hK (v := .pointer (some ⟨b, oo + off + o, none⟩)) ?_ ⟨b, oo, vs, el, fz, by rw [Nat.add_assoc], h3⟩
          rw [h2]; exact fieldAddr_run hr hf b _
        · cases h
      · cases h
    · cases h
  case field s x f =>
    split at h
    · rename_i i hi
      have hr := (teB_ok hte hi).rep
      have hx := hρ x
      split at h
      · rename_i o ft hf
        split at h
        · rename_i cs ha
          rw [ha] at hx
          split at h
          · rename_i hle
            obtain ⟨rfl, rfl⟩ := Prod.mk.inj (ok_val h)
            obtain ⟨vs, h1, h2⟩ := hx
            have hsz : vs.size = cs.length := by have := h2.1; simp at this; omega
            refine wp_of_runs rfl (Runs.pure hI ?_ (partAV_conc h2 csz_one hle)) hK
            rw [h1]; exact field_run hr hf (by omega)
          · cases h
        · cases h
      · cases h
    · cases h
  case indexAddr t x ix =>
    split at h
    · rename_i te b1 b2 k n hi hix
      have hr := (teB_ok hte hi).rep
      have hx := hρ x
      have hn' := hρ ix
      rw [hix] at hn'
      have hn' : a.eval ix = .int k n := hn'
      split at h
      · rename_i i ha
        rw [ha] at hx
        split at h
        · rename_i l hl
          simp only [CT.val] at h
          obtain ⟨k0, h⟩ := bif_some h
          obtain ⟨k1, h⟩ := bif_some h
          obtain ⟨rfl, rfl⟩ := Prod.mk.inj (Option.some.inj h)
          refine wp_of_runs rfl ?_ hK
          rw [hn']
          exact indexAddr_ref_runs hI hr hx (rowOf_some hl) (by simpa using k0) (by simpa using k1)
        · cases h
      · rename_i i lo m ha
        rw [ha] at hx
        split at h
        · rename_i l hl
          simp only [CT.val] at h
          obtain ⟨k0, h⟩ := bif_some h
          obtain ⟨k1, h⟩ := bif_some h
          obtain ⟨rfl, rfl⟩ := Prod.mk.inj (Option.some.inj h)
          refine wp_of_runs rfl ?_ hK
          rw [hn']
          exact indexAddr_sub_runs hI hr hx (rowOf_some hl) (by simpa using k0) (by simpa using k1)
        · cases h
      · rename_i e l ha
        rw [ha] at hx
        split at h
        · cases h
        · rename_i hee
          have hee' : e = te := by simpa using hee
          subst hee'
          simp only [CT.val] at h
          obtain ⟨k0, h⟩ := bif_some h
          obtain ⟨k1, h⟩ := bif_some h
          obtain ⟨rfl, rfl⟩ := Prod.mk.inj (Option.some.inj h)
          refine wp_of_runs rfl ?_ hK
          rw [hn']
          exact indexAddr_sl_runs hI hr hx (by simpa using k0) (by simpa using k1)
      · cases h
    · cases h
  case index t x ix =>
    split at h
    · rename_i b1 b2 k n s hi hix ha
      have hr := (teB_ok hte hi).rep
      have hx := hρ x
      have hn' := hρ ix
      rw [hix] at hn'; rw [ha] at hx
      have hn' : a.eval ix = .int k n := hn'
      have hx : a.eval x = .string s := hx
      simp only [CT.val] at h
      obtain ⟨k0, h⟩ := bif_some h
      obtain ⟨k1, h⟩ := bif_some h
      obtain ⟨rfl, rfl⟩ := val1_inj h
      refine wp_val hI rfl hK ?_ rfl
      rw [hn', hx]
      exact index_str hr (by simpa using k0) (by simpa using k1)
    · cases h
  case extract x i =>
    have hx := hρ x
    split at h
    · rename_i ps ha
      rw [ha] at hx
      obtain ⟨vs, h1, h2, h3⟩ := hx
      have hrun : ∀ v, vs[i]? = some v → (Instr.extract (a.eval x) i).run P w = .ok v w := by
        intro v hv; rw [h1]; simp [Instr.extract, hv]
      split at h
      · rename_i cs hp
        obtain ⟨rfl, rfl⟩ := Prod.mk.inj (ok_val h)
        obtain ⟨hi, hpi⟩ := List.getElem?_eq_some_iff.1 hp
        have hi' : i < vs.size := by omega
        have := h3 i hi hi'
        rw [hpi] at this
        simp only [if_true] at this
        exact wp_of_runs rfl (Runs.pure (r := .agg cs) hI (hrun vs[i] (by simp [hi'])) this) hK
      · rename_i y hp
        obtain ⟨rfl, rfl⟩ := Prod.mk.inj (ok_val h)
        obtain ⟨hi, hpi⟩ := List.getElem?_eq_some_iff.1 hp
        have hi' : i < vs.size := by omega
        have := h3 i hi hi'
        rw [hpi] at this
        simp only [Bool.false_eq_true, if_false] at this
        obtain ⟨z, hz, hcz⟩ := this
        have hz' : y = z := by simpa using hz
        subst hz'
        exact wp_val hI rfl hK (hrun vs[i] (by simp [hi'])) hcz
      · cases h
    · cases h
  case call c =>
    have hargs : concL w (Im B hp g w) g (c.args.toList.map (evalA tm)) (c.args.map a.eval).toList := by rw [Array.toList_map]; exact concL_map hρ _
    split at h
    · rename_i b hb
      obtain ⟨s, h1, h2⟩ := builtin_sound (P := P) (ty := type) (cs := c.args.map fun | .const _ => true | _ => false) hte hI hn hargs h
      refine wp_of_runs (s := s) ?_ h2 hK
      simp only [execOp, resolve, hb, pure_bind, invoke]
      exact h1
    · rename_i f hf
      have hfv := hρ f
      split at h
      · rename_i fid hfe
        rw [hfe] at hfv
        have hfv : a.eval f = .func (.func fid) #[] #[] := hfv
        split at h
        · rename_i fc hfind
          obtain ⟨hmem, rfl⟩ := findFC_mem hfind
          have hs := hfs fc hmem
          obtain ⟨⟨fn, cd, hfn, hname, hbody⟩, _⟩ := hs
          have hcall := callA_sound hI hfresh (hfs fc hmem) hargs h
          unfold Oper.wp
          have he : (execOp a.eval { dst := dst, op := .call c, type := type, pos := pos, after := after, guard := guard }).run P w = .ok (.enter fc.id (c.args.map a.eval)) w := by
            simp only [execOp, resolve, hf, hfv, Deferred.ofValue, pure_bind, invoke, Array.empty_append, Array.append_empty]
            have hname' : ¬ fn.name = "runtime.NumGoroutine" := by simpa using hname
            simp [callFunc, hfn, hname', hbody]
          rw [he, Oper.upon_enter]
          refine hcall.mono ?_
          rintro e w' ⟨g', v, rfl, hpost⟩
          exact hK g' w' v hpost
        · cases h
      · cases h
    · cases h

end Go.Proofs.Ythjiokbokncpoaa.Rf
