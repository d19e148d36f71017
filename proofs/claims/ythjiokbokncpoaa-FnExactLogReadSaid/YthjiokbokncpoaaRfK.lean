/- Appends. -/
import Derived.Test.YthjiokbokncpoaaRfJ
import Derived.Deep.Upon
namespace Go.Proofs.Ythjiokbokncpoaa.Rf
open Go

variable {P : Program} {B : Base} {hp : Hp} {g : Gm} {w : World} {nid : Nat} {A : Nat → Prop}

theorem asL_rows (hI : Inv B hp g w) {e : Ty} {c : CV} {v : Value} {l : List (den e)} (hc : concC w (Im B hp g w) g c v) (h : asL hp e c = some l) :
    (v = .slice none 0 0 ∧ l = []) ∨ ∃ b off cap vs el fz, v = .slice (some ⟨b, off, none⟩) l.length cap ∧ w.heap[b]? = some (.cells vs el fz) ∧ RdLs (Rd w (Im B hp g w) e) (csz e) (vs.toList.drop off) l := by
  cases c with
  | sl e' l' =>
    obtain ⟨he, hl⟩ := castL_some h
    subst he; subst hl
    rcases hc with ⟨h1, h2⟩ | ⟨b, off, cap, vs, el, fz, h1, _, _, h3, h4⟩ <;> obtain rfl := (List.cons.inj h1).1
    · exact .inl ⟨rfl, h2⟩
    · exact .inr ⟨b, off, cap, vs, el, fz, rfl, h3, h4⟩
  | nilv => obtain rfl := hc; obtain rfl := Option.some.inj h; exact .inl ⟨rfl, rfl⟩
  | ref i =>
    have hi := rowOf_some h
    obtain ⟨e', b, len, cap, hg, rfl⟩ := hc
    obtain ⟨rfl, rfl, hr⟩ := row_of hI hi hg
    cases b with
    | none => exact .inl ⟨rfl, List.length_eq_zero_iff.1 hr.1⟩
    | some b =>
      obtain ⟨vs, el, fz, k1, k2, _, _, k5⟩ := hr
      exact .inr ⟨b, 0, cap, vs, el, fz, rfl, k1, by simpa using k5⟩
  | sub i lo n =>
    simp only [asL] at h
    split at h
    · rename_i l' hl'
      have hi := rowOf_some hl'
      obtain ⟨e', b, len, cap, a, cap', hg, rfl, hnc, hlo, ha⟩ := hc
      obtain ⟨rfl, rfl, hr⟩ := row_of hI hi hg
      obtain rfl := Option.some.inj h
      have hlen : (List.take n (List.drop lo l')).length = n := by simp; omega
      rcases ha with ⟨rfl, rfl, rfl⟩ | ⟨b', off, rfl, rfl, hoff⟩
      · exact .inl ⟨rfl, by simp⟩
      · obtain ⟨vs, el, fz, k1, _, _, _, k5⟩ := hr
        refine .inr ⟨b', off, cap', vs, el, fz, by rw [hlen], k1, ?_⟩
        rcases hoff with rfl | rfl
        · simp only [List.take_zero]; exact RdLs.nil _
        · exact (k5.drop lo).take n
    · cases h
  | _ => simp [asL] at h

theorem Rd.one {t : Ty} (hno : noOwn t = true) {cs : List Value} {x : den t} (h : Rd w A t cs x) : ∀ u ∈ cs, u.oneCell' = true :=
  (flat_conc (g := fun _ => none) h).one (flat_def x hno)

theorem RdLs.one {e : Ty} (hno : noOwn e = true) {cs : List Value} {l : List (den e)} (h : RdLs (Rd w A e) (csz e) cs l) (hl : cs.length = l.length * csz e) : ∀ u ∈ cs, u.oneCell' = true := by
  intro u hu
  obtain ⟨j, hj, rfl⟩ := List.mem_iff_getElem.1 hu
  rcases Nat.eq_zero_or_pos (csz e) with h0 | h0
  · rw [hl, h0] at hj; simp at hj
  · have hi : j / csz e < l.length := by rw [Nat.div_lt_iff_lt_mul h0]; omega
    have hr := h _ hi
    refine Rd.one hno hr _ ?_
    rw [List.mem_iff_getElem]
    have hm := Nat.mod_lt j h0
    have hd := Nat.div_add_mod j (csz e)
    refine ⟨j % csz e, by simp; rw [Nat.mul_comm]; omega, ?_⟩
    simp only [List.getElem_take, List.getElem_drop]
    congr 1
    rw [Nat.mul_comm]; exact hd

theorem listOf_rd (s : ByteArray) : RdLs (Rd w A (.int .u8)) (csz (.int .u8)) (byteCells s) (listOf s : List (den (.int .u8))) := by
  intro i hi
  have hi' : i < s.data.toList.length := by simpa [listOf] using hi
  have e : List.take 1 (List.drop (i * 1) (byteCells s)) = [.int .u8 ((listOf s)[i]'hi)] := by
    rw [Nat.mul_one]
    have h2 : i < (byteCells s).length := by unfold byteCells; simpa using hi'
    rw [List.drop_eq_getElem_cons h2]
    simp [byteCells, listOf]
  exact e

theorem src_of (hI : Inv B hp g w) {e : Ty} (hno : noOwn e = true) {x : AV} {v : Value} {xs : List (den e)} (hc : conc w (Im B hp g w) g x v) (h : elemsOf hp e x = some xs) {tx : TypeId}
    (hk : (∃ e', P.underlying tx = some (.slice e')) ∧ (∀ s, x ≠ .c (.str s)) ∨ P.underlying tx = some .string ∧ (∃ s, x = .c (.str s))) :
    ∃ news, Src P (csz e) tx v xs.length news w ∧ RdLs (Rd w (Im B hp g w) e) (csz e) news xs := by
  rcases hk with ⟨⟨e', hk⟩, hx⟩ | ⟨hk, s, rfl⟩
  · have h' : ∃ c, x = .c c ∧ asL hp e c = some xs := by
      cases x with
      | c c => cases c <;> first | exact ⟨_, rfl, h⟩ | exact absurd rfl (hx _)
      | agg cs => simp [elemsOf] at h
      | tup ps => simp [elemsOf] at h
    obtain ⟨c, rfl, h'⟩ := h'
    rcases asL_rows hI hc h' with ⟨rfl, rfl⟩ | ⟨b, off, cap, vs, el, fz, rfl, hb, hrd⟩
    · exact ⟨[], Src.ofNil w hk 0, RdLs.nil _⟩
    · have hfit : xs.length * csz e ≤ (vs.toList.drop off).length := by
        rcases hrd.fits (fun c x h => Rd.len h) with h1 | h1
        · exact h1
        · rw [h1]; omega
      have hl : ((vs.toList.drop off).take (xs.length * csz e)).length = xs.length * csz e := by rw [List.length_take]; omega
      have hrd' : RdLs (Rd w (Im B hp g w) e) (csz e) ((vs.toList.drop off).take (xs.length * csz e)) xs := hrd.congr (by rw [List.take_take, Nat.min_self])
      refine ⟨_, Src.ofSlice w hk ⟨b, off, none⟩ xs.length cap _ hl (fun j u hu => ?_) (hrd'.one hno hl), hrd'⟩
      rw [add_none, cell_of hb]
      rw [List.getElem?_take] at hu
      split at hu
      · simpa using hu
      · cases hu
  · simp only [elemsOf] at h
    obtain ⟨he, hl⟩ := castL_some h
    subst he
    subst hl
    have : (listOf s).length = s.size := by simp [listOf]
    refine ⟨byteCells s, ?_, listOf_rd s⟩
    obtain rfl := hc
    show Src P 1 tx (.string s) (List.length (listOf s)) (byteCells s) w
    rw [this]
    exact Src.ofString w hk s

theorem setCells_stored {b off : Nat} {el : TypeId} {fz : Nat × Nat} {news : List Value} {vs : Array Value} (h : w.heap[b]? = some (.cells vs el fz)) (hle : off + news.length ≤ vs.size) (hf : fz.2 ≤ fz.1 ∨ vs.size ≤ fz.1)
    (h1 : ∀ v ∈ news, v.oneCell' = true) : ∃ vs', Stored w (w.setCells b off news) b vs' el fz ∧ vs'.toList = vs.toList.take off ++ news ++ vs.toList.drop (off + news.length) := by
  obtain ⟨w', vs', k1, k2, k3⟩ := storeCells_blk (P := default) (off := off) news 0 w vs h (by omega) hf h1
  have hfr : ∀ j, j < news.length → w.frozen? ⟨b, off + 0 + j, none⟩ = false := by
    intro j hj
    simp only [World.frozen?, h]
    rcases fz with ⟨lo, hi⟩
    simp only at hf ⊢
    simp only [Bool.and_eq_false_iff, decide_eq_false_iff_not]
    omega
  have := run_storeCells_cells (P := default) b off news 0 w (fun j hj => by rw [cell_of h]; simp; omega) hfr h1
  rw [k1] at this
  have e : w' = w.setCells b off news := by simpa using this
  subst e
  exact ⟨vs', k2, by simpa using k3⟩

theorem post_kill {i : Nat} {hp' : Hp} {g' : Gm} {w' : World} {r : AV} {v : Value} (hI : Inv B hp g w) (h : Post B (setHp hp i none) hp' g w nid r g' w' v) : Post B hp hp' g w nid r g' w' v :=
  ⟨h.le, h.new, h.inv, (hI.kill i).2.trans h.keep, h.val⟩

theorem append_grow_runs (hI : Inv B hp g w) (hn : g nid = none) {t tx ty : TypeId} {i : TI} {e : Ty} (hti : TIOk P t i) (hty : i.ty = .sl e) (hb : i.ebytes ≠ 0) {base : Option Addr} {sLen sCap : Nat}
    {olds : List Value} {l : List (den e)} (hl : l.length = sLen) (ho : (Builtin.firstCells (csz e) sLen (.slice base sLen sCap)).run P w.drew = .ok olds.toArray w.drew) (holds : RdLs (Rd w (Im B hp g w) e) (csz e) olds l)
    (hol : olds.length = l.length * csz e) {v : Value} {xs : List (den e)} {news : List Value} (hs : Src P (csz e) tx v xs.length news w) (hrd : RdLs (Rd w (Im B hp g w) e) (csz e) news xs)
    (hgrow : sCap < sLen + xs.length) (hfit : (l.length + xs.length) * i.ebytes ≤ 140737488355328) :
    ∃ g' w' u, (Builtin.append_ #[t, tx] ty #[.slice base sLen sCap, v]).run P w = .ok u w' ∧ Post B hp (setHp hp nid (some (.row e (l ++ xs)))) g w nid (.c (.ref nid)) g' w' u := by
  obtain ⟨et, inf, hu, hre, hinf, hbytes⟩ := hti.elem e hty
  obtain ⟨f⟩ := hre.f
  have hif : f.inf = inf := by have := f.info; rw [hinf] at this; exact (Option.some.inj this).symm
  subst hl
  have hle : l.length + xs.length ≤ 140737488355328 := by
    have : (l.length + xs.length) * 1 ≤ (l.length + xs.length) * i.ebytes := Nat.mul_le_mul_left _ (by omega)
    omega
  rw [← f.size] at ho
  have hrun := run_append_grow_src (P := P) w t tx ty et f.inf f.z hu f.info f.zero base l.length sCap olds ho v xs.length news (by rw [f.size]; exact hs) hgrow (by omega)
    (by rw [hif, hbytes]; exact growslice_fits hgrow hfit)
  have hzl : f.z.cells.size = csz e := by
    have h1 := congrArg List.length f.zcs
    have h2 : (zerosV e).length = csz e := by rw [← zeros_len e]; exact (zeros_conc (w := w) (A := fun _ => True) (g := g) e).1.symm
    rw [h2] at h1; simpa using h1
  have hcap := grownCap_ge w (l.length + xs.length) sCap et
  have hpost := newrow_post (nid := nid) (w' := w.drew.alloc (.cells ((olds ++ news).toArray ++ Builtin.zeroCells f.z.cells (grownCap w (l.length + xs.length) sCap et - (l.length + xs.length))) et))
    (cap := grownCap w (l.length + xs.length) sCap et) (l := l ++ xs) hI hn (Nat.le_refl _) (by omega) rfl rfl rfl rfl (by simpa using hcap)
    (by
      rw [Array.size_append, size_zeroCells, hzl]
      simp only [List.size_toArray, List.length_append, hol, hs.newsLen]
      rw [← Nat.add_mul, ← Nat.add_mul]
      exact Nat.mul_le_mul_right _ (by omega))
    (.inl (Nat.le_refl _))
    (by
      simp only [Array.toList_append]
      refine RdLs.congr (holds.append hol hrd) ?_
      refine (List.take_append_of_le_length ?_).symm
      simp only [List.length_append, hol, hs.newsLen, Nat.add_mul]
      exact Nat.le_refl _)
  rw [List.length_append] at hpost
  exact ⟨_, _, _, hrun, hpost⟩

theorem appendA_runs (hI : Inv B hp g w) (hn : g nid = none) {t tx ty : TypeId} {i : TI} {e : Ty} (hti : TIOk P t i) (hty : i.ty = .sl e) {s x : AV} {vs v : Value} (hs : conc w (Im B hp g w) g s vs) (hx : conc w (Im B hp g w) g x v)
    (hk : (∃ e', P.underlying tx = some (.slice e')) ∧ (∀ s, x ≠ .c (.str s)) ∨ P.underlying tx = some .string ∧ (∃ s, x = .c (.str s)))
    {r : AV} {ups : Upd} (h : (appendA hp nid e i.ebytes s x).val = some (r, ups)) : Runs P B hp (updHp hp ups) g w nid r (Builtin.append_ #[t, tx] ty #[vs, v]) := by
  unfold appendA at h
  split at h
  · cases h
  · rename_i hc
    have hc' : noOwn e = true ∧ i.ebytes ≠ 0 := by simpa using hc
    obtain ⟨hno, hb⟩ := hc'
    obtain ⟨et, inf, hu, hre, hinf, hbytes⟩ := hti.elem e hty
    obtain ⟨f⟩ := hre.f
    split at h
    · cases h
    · rename_i xs hxs
      obtain ⟨news, hsrc, hrd⟩ := src_of hI hno hx hxs hk
      -- nothing onto a row without a block
      have hnone : ∀ (hp0 : Hp), Inv B hp0 g w → xs.length = 0 → ∃ g' w' u, (Builtin.append_ #[t, tx] ty #[.slice none 0 0, v]).run P w = .ok u w' ∧ Post B hp0 (setHp hp0 nid (some (.row e xs))) g w nid (.c (.ref nid)) g' w' u := by
        intro hp0 hI0 h0
        have hxs0 : xs = [] := List.length_eq_zero_iff.1 h0
        subst hxs0
        have hn0 : news = [] := by have := hsrc.newsLen; simpa using this
        subst hn0
        obtain ⟨k1, k2⟩ := hI0.nilrow (n := nid) hn e
        exact ⟨_, w, _, run_append_nothing w t tx ty et f.inf hu f.info none 0 0 (Nat.le_refl _) v (by rw [f.size]; exact hsrc), setG_le hn, new_setG (Nat.le_refl _) (by omega), k1, k2, ⟨e, none, 0, 0, by simp [setG], rfl⟩⟩
      have hnil : (h1 : xs.length * i.ebytes ≤ 140737488355328) → ∃ g' w' u, (Builtin.append_ #[t, tx] ty #[.slice none 0 0, v]).run P w = .ok u w' ∧ Post B hp (setHp hp nid (some (.row e xs))) g w nid (.c (.ref nid)) g' w' u := by
        intro h1
        rcases Nat.eq_zero_or_pos xs.length with h0 | h0
        · exact hnone hp hI h0
        · exact append_grow_runs (l := []) hI hn hti hty hb rfl (by simp [Builtin.firstCells]) (RdLs.nil []) (by simp) hsrc hrd (by omega) (by simpa using h1)
      split at h
      · simp only [CT.val] at h
        obtain ⟨h1, h⟩ := bif_some h
        obtain ⟨rfl, rfl⟩ := Prod.mk.inj (Option.some.inj h)
        obtain rfl := hs
        exact hnil (by simpa using h1)
      · rename_i j
        split at h
        · rename_i l hl
          have hj := rowOf_some hl
          simp only [CT.val] at h
          obtain ⟨h1, h⟩ := bif_some h
          have h1 : (l.length + xs.length) * i.ebytes ≤ 140737488355328 := by simpa using h1
          obtain ⟨rfl, rfl⟩ := Prod.mk.inj (Option.some.inj h)
          obtain ⟨e', b, len, cap, hg, rfl⟩ := hs
          obtain ⟨rfl, rfl, hrow⟩ := row_of hI hj hg
          show ∃ g' w' u, _ ∧ Post B hp (setHp (setHp hp j none) nid (some (.row e' (l ++ xs)))) g w nid (.c (.ref nid)) g' w' u
          cases b with
          | none =>
            obtain ⟨hl0, rfl⟩ := hrow
            have hl' : l = [] := List.length_eq_zero_iff.1 hl0
            subst hl'
            obtain ⟨hIk, hKk⟩ := hI.kill j
            rcases Nat.eq_zero_or_pos xs.length with h0 | h0
            · obtain ⟨g', w', u, k1, k2⟩ := hnone _ hIk h0
              exact ⟨g', w', u, k1, post_kill hI k2⟩
            · obtain ⟨g', w', u, k1, k2⟩ := append_grow_runs (l := []) (t := t) (tx := tx) (ty := ty) (base := none) (sLen := 0) (sCap := 0) (v := v) (olds := []) (news := news) (xs := xs) hIk hn hti hty hb rfl (by simp [Builtin.firstCells]) (RdLs.nil []) (by simp) hsrc (hrd.mono fun _ _ h => Rd.frame hKk h) (by omega) (by simpa using h1)
              exact ⟨g', w', u, k1, post_kill hI k2⟩
          | some b =>
            obtain ⟨cs, el, fz, hbk, hlc, hcap, hfz, hrdl⟩ := hrow
            by_cases hroom : l.length + xs.length ≤ cap
            · have hfits : l.length * csz e' + news.length ≤ cap * csz e' := by
                rw [hsrc.newsLen, ← Nat.add_mul]; exact Nat.mul_le_mul_right _ hroom
              obtain ⟨cs', hst, hcl⟩ := setCells_stored (off := l.length * csz e') (news := news) hbk (by omega) hfz hsrc.one
              have hrun := run_append_room_src (P := P) w t tx ty et f.inf hu f.info b 0 l.length cap v xs.length news (by rw [f.size]; exact hsrc) hroom
                (fun k hk => by rw [cell_of hbk, f.size]; have : l.length * csz e' + k < cs.size := by omega
                                simp [this])
                (fun k hk => by
                  rw [f.size]
                  simp only [World.frozen?, hbk]
                  rcases fz with ⟨lo, hi⟩
                  simp only at hfz ⊢
                  simp only [Bool.and_eq_false_iff, decide_eq_false_iff_not]
                  omega)
              rw [f.size, Nat.zero_add] at hrun
              have hsz : cs'.size = cs.size := by
                have := congrArg List.length hcl
                simp at this; omega
              obtain ⟨k1, k2⟩ := hI.moved (n := nid) (ob' := .row e' (l ++ xs)) (gh := .row e' (some b) (l ++ xs).length cap) ⟨_, _, hj, hg, rfl⟩ hn rfl hst
                (fun hk => ⟨some b, cap, by simp [setG], cs', el, fz, hst.here, by simpa using hroom, by rw [hsz]; exact hcap, by rw [hsz]; exact hfz, by
                  rw [hcl, List.append_assoc]
                  have hlt : (List.take (l.length * csz e') cs.toList).length = l.length * csz e' := by simp; omega
                  have h0 : RdLs (Rd (w.setCells b (l.length * csz e') news) (Im B (setHp (setHp hp j none) nid (some (.row e' (l ++ xs)))) (setG g nid (.row e' (some b) (l ++ xs).length cap)) (w.setCells b (l.length * csz e') news)) e') (csz e') (List.take (l.length * csz e') cs.toList) l :=
                    (hrdl.mono fun _ _ h => Rd.frame hk h).congr (by rw [List.take_take, Nat.min_self])
                  refine RdLs.append h0 hlt ?_
                  refine RdLs.congr (hrd.mono fun _ _ h => Rd.frame hk h) ?_
                  rw [← hsrc.newsLen, List.take_append_of_le_length (Nat.le_refl _)]⟩)
              refine ⟨_, _, _, hrun, setG_le hn, new_setG (Nat.le_refl _) (by omega), k1, k2, ⟨e', some b, (l ++ xs).length, cap, by simp [setG], ?_⟩⟩
              simp [hdr]
            · obtain ⟨hIk, hKk⟩ := hI.kill j
              have hle : l.length * csz e' ≤ cs.size := Nat.le_trans (Nat.mul_le_mul_right _ hlc) hcap
              have hol : (List.take (l.length * csz e') cs.toList).length = l.length * csz e' := by simp; omega
              have hfirst : (Builtin.firstCells (csz e') l.length (.slice (some ⟨b, 0, none⟩) l.length cap)).run P w.drew = .ok (List.take (l.length * csz e') cs.toList).toArray w.drew := by
                have hbk' : w.drew.heap[b]? = some (.cells cs el fz) := hbk
                have := loadCells_blk (P := P) (off := 0) (n := l.length * csz e') hbk' (by omega)
                simpa [Builtin.firstCells] using this
              obtain ⟨g', w', u, k1, k2⟩ := append_grow_runs (l := l) (t := t) (tx := tx) (ty := ty) (v := v) (news := news) (xs := xs) hIk hn hti hty hb rfl hfirst
                ((hrdl.mono fun _ _ h => Rd.frame hKk h).congr (by rw [List.take_take, Nat.min_self])) hol hsrc (hrd.mono fun _ _ h => Rd.frame hKk h) (by omega) h1
              exact ⟨g', w', u, k1, post_kill hI k2⟩
        · cases h
      · cases h

end Go.Proofs.Ythjiokbokncpoaa.Rf
