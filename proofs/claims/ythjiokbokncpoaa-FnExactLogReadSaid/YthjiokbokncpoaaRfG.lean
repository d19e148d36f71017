/- Each operation of the machine does what its plain reading says. -/
import Derived.Test.YthjiokbokncpoaaRfF
import Derived.Laws.Strings
import Derived.Laws.BytesString
namespace Go.Proofs.Ythjiokbokncpoaa.Rf
open Go

variable {P : Program} {B : Base} {hp : Hp} {g : Gm} {w : World} {nid : Nat}

def Runs (P : Program) (B : Base) (hp hp' : Hp) (g : Gm) (w : World) (nid : Nat) (r : AV) (s : Sem Value) : Prop :=
  ∃ g' w' v, s.run P w = .ok v w' ∧ Post B hp hp' g w nid r g' w' v

def RunsU (P : Program) (B : Base) (hp hp' : Hp) (g : Gm) (w : World) (nid : Nat) (s : Sem Unit) : Prop :=
  ∃ g' w', s.run P w = .ok () w' ∧ Post B hp hp' g w nid (.c .undef) g' w' undef

theorem Runs.pure (hI : Inv B hp g w) {r : AV} {v : Value} {s : Sem Value} (hs : s.run P w = .ok v w) (hv : conc w (Im B hp g w) g r v) : Runs P B hp hp g w nid r s :=
  ⟨g, w, v, hs, Post.pure hI hv⟩

theorem new_setG {g : Gm} {n nid : Nat} {gh : Gh} (hn : nid ≤ n) (hn' : n < nid + 16) : ∀ i, g i = none → setG g n gh i ≠ none → nid ≤ i ∧ i < nid + 16 := by
  intro i h1 h2
  unfold setG at h2
  split at h2
  · rename_i e; subst e; exact ⟨hn, hn'⟩
  · exact absurd h1 h2

theorem box_runs (hI : Inv B hp g w) (hn : g nid = none) {t : TypeId} {v : Value} {cs : List CV} (hc : concCs w (Im B hp g w) g cs v.cells.toList) :
    Runs P B hp (setHp hp nid (some (.box cs))) g w nid (.c (.ptr nid 0)) (Instr.box t v) := by
  refine ⟨setG g nid (.box w.heap.size), { w with heap := w.heap.push (.cells v.cells t (0, 0)) }, .pointer (some ⟨w.heap.size, 0, none⟩), ?_, ?_⟩
  · simp [Instr.box, newVar, newRow]
  · obtain ⟨h1, h2⟩ := hI.alloc (w' := { w with heap := w.heap.push (.cells v.cells t (0, 0)) }) hn (.cells v.cells t (0, 0)) (.box cs) (.box w.heap.size) rfl rfl rfl rfl rfl
      (fun hk => ⟨w.heap.size, v.cells, t, by simp [setG], by simp, hc.frame hk (setG_le hn)⟩)
    exact ⟨setG_le hn, new_setG (Nat.le_refl _) (by omega), h1, h2, ⟨w.heap.size, by simp [setG], rfl⟩⟩

theorem alloc_runs (hI : Inv B hp g w) (hn : g nid = none) {t : TypeId} {ty : Ty} (hr : Rep P t ty) :
    Runs P B hp (setHp hp nid (some (.box (zeros ty)))) g w nid (.c (.ptr nid 0)) (Instr.alloc t true (.tuple #[])) := by
  obtain ⟨z, hz, hzr⟩ := hr.zeroValue
  obtain ⟨g', w', v, h1, h2⟩ := box_runs (P := P) (t := t) (v := z) hI hn (by rw [hz]; exact zeros_conc ty)
  refine ⟨g', w', v, ?_, h2⟩
  rw [← h1]
  simp [Instr.alloc, Instr.box, hzr, newVar, newRow]

theorem partAV_conc {A : Nat → Prop} {ty : Ty} {cs : List CV} {vs : List Value} {off : Nat} (hc : concCs w A g cs vs) (h1 : isStr ty = false → csz ty = 1) (hle : off + csz ty ≤ cs.length) :
    conc w A g (partAV ty cs off) (if isStr ty then .agg ((vs.drop off).take (csz ty)).toArray else vs.getD off undef) := by
  unfold partAV mkVal
  cases hs : isStr ty with
  | true => exact ⟨_, rfl, by simpa using (hc.drop off).take (csz ty)⟩
  | false =>
    have e := h1 hs
    rw [e] at hle ⊢
    have hlt : off < cs.length := by omega
    have hlt' : off < vs.length := by rw [← hc.1]; exact hlt
    simp only [Bool.false_eq_true, if_false]
    have e1 : (List.take 1 (List.drop off cs)).headD CV.undef = cs[off] := by
      rw [List.drop_eq_getElem_cons hlt]; rfl
    have e2 : vs.getD off undef = vs[off] := by simp [hlt']
    rw [e1, e2]
    exact hc.2 off hlt hlt'

theorem csz_one : ∀ {ty : Ty}, isStr ty = false → csz ty = 1
  | .int _, _ => rfl
  | .bool, _ => rfl
  | .str, _ => rfl
  | .sl _, _ => rfl
  | .own _, _ => rfl
  | .unit, h => by simp [isStr] at h
  | .pair _ _, h => by simp [isStr] at h

theorem load_ptr_runs (hI : Inv B hp g w) {t : TypeId} {ty : Ty} (hr : Rep P t ty) {j off : Nat} {cs : List CV} {v : Value} (hv : concC w (Im B hp g w) g (.ptr j off) v)
    (hj : hp j = some (.box cs)) (hle : off + csz ty ≤ cs.length) : Runs P B hp hp g w nid (partAV ty cs off) (Instr.loadAt t v) := by
  obtain ⟨b, hg, rfl⟩ := hv
  obtain ⟨b', vs, el, hg', hb, hc⟩ := hI.ob j _ hj
  rw [hg] at hg'
  obtain rfl : b = b' := by simpa using hg'
  exact Runs.pure hI (loadAt_blk hr hb (by have := hc.1; simp at this; omega) csz_one) (partAV_conc hc csz_one hle)

theorem rdN_of {e : Ty} {l : List (den e)} {i : Nat} (h : i < l.length) : rdN l i = l[i] := by simp [rdN, h]

def RowAt (w : World) (A : Nat → Prop) (e : Ty) (l : List (den e)) (b : Option Nat) (cap : Nat) : Prop :=
  match b with
  | none => l.length = 0 ∧ cap = 0
  | some b => ∃ vs el fz, w.heap[b]? = some (.cells vs el fz) ∧ l.length ≤ cap ∧ cap * csz e ≤ vs.size ∧ (fz.2 ≤ fz.1 ∨ vs.size ≤ fz.1) ∧
          RdLs (Rd w A e) (csz e) vs.toList l

theorem row_of (hI : Inv B hp g w) {j : Nat} {e : Ty} {l : List (den e)} (hj : hp j = some (.row e l)) {e' : Ty} {b : Option Nat} {len cap : Nat} (hg : g j = some (.row e' b len cap)) :
    e' = e ∧ len = l.length ∧ RowAt w (Im B hp g w) e l b cap := by
  obtain ⟨b2, cap2, hg2, hr⟩ := hI.ob j _ hj
  rw [hg] at hg2
  obtain ⟨rfl, rfl, rfl, rfl⟩ : e' = e ∧ b = b2 ∧ len = l.length ∧ cap = cap2 := by simpa using hg2
  exact ⟨rfl, rfl, hr⟩

theorem mul_fits {i l c s v : Nat} (h1 : i < l) (h2 : l ≤ c) (h3 : c * s ≤ v) : i * s + s ≤ v := by
  have : (i + 1) * s ≤ c * s := Nat.mul_le_mul_right s (by omega)
  rw [Nat.succ_mul] at this; omega

theorem take_drop_off {cs : List Value} {o off n m : Nat} (h : off + n ≤ m) : ((cs.drop o).take m |>.drop off).take n = (cs.drop (o + off)).take n := by
  rw [List.drop_take, List.take_take, List.drop_drop, Nat.min_eq_left (by omega)]

theorem load_elt_runs (hI : Inv B hp g w) {t : TypeId} {ty : Ty} (hr : Rep P t ty) {j ix off : Nat} {e : Ty} {l : List (den e)} {v : Value} (hv : concC w (Im B hp g w) g (.elt j ix off) v)
    (hj : hp j = some (.row e l)) (hle : off + csz ty ≤ csz e) : Runs P B hp hp g w nid (partAV ty (flat e (rdN l ix)) off) (Instr.loadAt t v) := by
  obtain ⟨e', b, len, cap, hg, hix, rfl⟩ := hv
  obtain ⟨rfl, rfl, vs, el, fz, hb, h1, h2, _, hrd⟩ := row_of hI hj hg
  have hf := mul_fits hix h1 h2
  have hx := flat_conc (g := g) (hrd ix hix)
  rw [rdN_of hix]
  refine Runs.pure hI (loadAt_blk (off := ix * csz e' + off) hr hb (by omega) csz_one) ?_
  have := partAV_conc (off := off) hx csz_one (by rw [flat_len]; exact hle)
  rw [take_drop_off hle] at this
  cases hs : isStr ty with
  | true => simpa [hs] using this
  | false =>
    simp only [hs, Bool.false_eq_true, if_false] at this ⊢
    have e1 := csz_one hs
    have e2 : (List.take (csz e') (List.drop (ix * csz e') vs.toList)).getD off undef = vs.toList.getD (ix * csz e' + off) undef := by
      simp only [List.getD_eq_getElem?_getD]
      rw [List.getElem?_take_of_lt (by omega), List.getElem?_drop]
    rw [e2] at this; exact this

theorem load_cst_runs (hI : Inv B hp g w) {t : TypeId} {ty : Ty} (hr : Rep P t ty) {off : Nat} {e : Ty} {x : den e} {v : Value} (hv : concC w (Im B hp g w) g (.cst e x off) v)
    (hle : off + csz ty ≤ csz e) : Runs P B hp hp g w nid (partAV ty (flat e x) off) (Instr.loadAt t v) := by
  obtain ⟨b, o, vs, el, fz, rfl, _, hb, hrd⟩ := hv
  have hx := flat_conc (g := g) hrd
  have hlen := hrd.len
  simp at hlen
  rcases Nat.eq_zero_or_pos (csz e) with h0 | h0
  · have h00 : csz ty = 0 := by omega
    have hs : isStr ty = true := by
      cases hs : isStr ty with
      | true => rfl
      | false => rw [csz_one hs] at h00; cases h00
    refine Runs.pure (v := .agg #[]) hI ?_ ?_
    · simp [Instr.loadAt, Instr.sureAddr, loadVar, hr.isAgg, hs, hr.size_of, h00, loadCells, loadCellsFrom]
    · unfold partAV mkVal
      simp only [hs, if_true, h00, List.take_zero]
      exact ⟨#[], rfl, .nil⟩
  · refine Runs.pure hI (loadAt_blk (off := o + off) hr hb (by omega) csz_one) ?_
    have := partAV_conc (off := off) hx csz_one (by rw [flat_len]; exact hle)
    rw [take_drop_off hle] at this
    cases hs : isStr ty with
    | true => simpa [hs] using this
    | false =>
      simp only [hs, Bool.false_eq_true, if_false] at this ⊢
      have e1 := csz_one hs
      have e2 : (List.take (csz e) (List.drop o vs.toList)).getD off undef = vs.toList.getD (o + off) undef := by
        simp only [List.getD_eq_getElem?_getD]
        rw [List.getElem?_take_of_lt (by omega), List.getElem?_drop]
      rw [e2] at this; exact this

theorem storeAt_run {t : TypeId} {ty : Ty} (hr : Rep P t ty) {b off : Nat} {vs : Array Value} {el : TypeId} {fz : Nat × Nat} (hb : w.heap[b]? = some (.cells vs el fz)) {v : Value}
    (hlen : v.cells.size = csz ty) (hle : off + csz ty ≤ vs.size) (hf : fz.2 ≤ fz.1 ∨ vs.size ≤ fz.1) (h1 : ∀ u ∈ v.cells.toList, u.oneCell' = true) :
    ∃ w' vs', (Instr.storeAt t (.pointer (some ⟨b, off, none⟩)) v).run P w = .ok () w' ∧ Stored w w' b vs' el fz ∧ vs'.toList = vs.toList.take off ++ v.cells.toList ++ vs.toList.drop (off + v.cells.toList.length) := by
  have hle' : off + 0 + v.cells.toList.length ≤ vs.size := by rw [Array.length_toList]; omega
  obtain ⟨w', vs', h2, h3, h4⟩ := storeCells_blk (P := P) (off := off) v.cells.toList 0 w vs hb hle' hf h1
  refine ⟨w', vs', ?_, h3, h4⟩
  simp only [Instr.storeAt, Instr.sureAddr, storeVar, Sem.run_bind, Sem.run_pure, Result.andThen_ok, hr.size_of, Sem.run_ite]
  rw [if_neg (by simp [hlen])]
  exact h2

theorem store_ptr_runs (hI : Inv B hp g w) {t : TypeId} {ty : Ty} (hr : Rep P t ty) {j off : Nat} {cs : List CV} {av : AV} {a v : Value} (ha : concC w (Im B hp g w) g (.ptr j off) a)
    (hv : conc w (Im B hp g w) g av v) (hf : av.fits ty = true) (hd : av.cells.all CV.isDef = true) (hl : av.cells.length = csz ty) (hj : hp j = some (.box cs)) (hle : off + csz ty ≤ cs.length) :
    RunsU P B hp (setHp hp j (some (.box (splice cs off av.cells)))) g w nid (Instr.storeAt t a v) := by
  obtain ⟨b, hg, rfl⟩ := ha
  obtain ⟨b', vs, el, hg', hb, hc⟩ := hI.ob j _ hj
  rw [hg] at hg'
  obtain rfl : b = b' := by simpa using hg'
  obtain ⟨hcs, h1⟩ := hv.cells hf hd
  have hlen : v.cells.size = csz ty := by have := hcs.1; simp at this; omega
  have hsz : vs.size = cs.length := by have := hc.1; simp at this; omega
  obtain ⟨w', vs', h2, h3, h4⟩ := storeAt_run (off := off) hr hb hlen (by omega) (.inl (Nat.le_refl _)) h1
  obtain ⟨k1, k2⟩ := hI.write (ob' := .box (splice cs off av.cells)) hj ⟨_, _, hj, hg, rfl⟩ h3 (fun hk => ⟨b, vs', el, hg, h3.here, by
    rw [h4]; exact (hc.frame hk (Gm.le_refl g)).splice (hcs.frame hk (Gm.le_refl g)) off⟩)
  exact ⟨g, w', h2, Gm.le_refl g, fun i e1 e2 => absurd e1 e2, k1, k2, trivial⟩

/-- several objects are given up -/
def killAll (hp : Hp) : List Nat → Hp
  | [] => hp
  | i :: r => killAll (setHp hp i none) r

theorem updHp_kills (hp : Hp) (is : List Nat) : updHp hp (kills is) = killAll hp is := by
  induction is generalizing hp with
  | nil => rfl
  | cons i r ih => exact ih _

theorem killAll_at {hp : Hp} {is : List Nat} {j : Nat} : killAll hp is j = if j ∈ is then none else hp j := by
  induction is generalizing hp with
  | nil => simp [killAll]
  | cons i r ih =>
    simp only [killAll, ih, setHp]
    by_cases h1 : j ∈ r <;> by_cases h2 : j = i <;> simp [h1, h2]

theorem Inv.killAll {B : Base} {g : Gm} {w : World} {is : List Nat} : ∀ {hp : Hp}, Inv B hp g w → Inv B (killAll hp is) g w ∧ Keep B hp (killAll hp is) g g w w := by
  induction is with
  | nil => intro hp h; exact ⟨h, Keep.refl _ _ _ _⟩
  | cons i r ih =>
    intro hp h
    obtain ⟨h1, h2⟩ := h.kill i
    obtain ⟨h3, h4⟩ := ih h1
    exact ⟨h3, h2.trans h4⟩

/-- behind the giving up, what these rows held may be read -/
theorem With.killed (hI : Inv B hp g w) {is : List Nat} {b : Nat} (h : With B hp g w is b) : Im B (killAll hp is) g w b := by
  rcases h with h | ⟨i, hi, hb⟩
  · exact (hI.killAll.2 b h).1
  · obtain ⟨h1, h2⟩ := hI.blk' hb
    refine ⟨h1, .inr h2, fun ha => ?_⟩
    obtain ⟨j, ob, gh, k1, k2, k3⟩ := alive_iff.1 ha
    rw [killAll_at] at k1
    split at k1
    · cases k1
    · rename_i hj
      have := hI.inj' hb ⟨ob, gh, k1, k2, k3⟩
      subst this
      exact hj hi

theorem setHp_killAll {hp : Hp} {is : List Nat} {j : Nat} {o : Option Ob} (h : j ∉ is) : killAll (setHp hp j o) is = setHp (killAll hp is) j o := by
  funext k
  simp only [killAll_at, setHp]
  by_cases h1 : k = j
  · subst h1; simp [h]
  · simp [h1]

theorem store_elt_runs (hI : Inv B hp g w) {t : TypeId} {ty : Ty} (hr : Rep P t ty) {j ix off : Nat} {e : Ty} {l : List (den e)} {x : den e} {av : AV} {a v : Value} (ha : concC w (Im B hp g w) g (.elt j ix off) a)
    (hv : conc w (Im B hp g w) g av v) (hf : av.fits ty = true) (hd : av.cells.all CV.isDef = true) (hl : av.cells.length = csz ty) (hj : hp j = some (.row e l)) (hle : off + csz ty ≤ csz e) (hno : noOwn e = true)
    (hni : j ∉ idsOf av.cells) (hx : packAll hp e (splice (flat e (rdN l ix)) off av.cells) = some x) :
    RunsU P B hp (killAll (setHp hp j (some (.row e (l.set ix x)))) (idsOf av.cells)) g w nid (Instr.storeAt t a v) := by
  obtain ⟨e', b, len, cap, hg, hix, rfl⟩ := ha
  obtain ⟨rfl, rfl, vs, el, fz, hb, h1, h2, hfz, hrd⟩ := row_of hI hj hg
  have hfit := mul_fits hix h1 h2
  obtain ⟨hcs, h1'⟩ := hv.cells hf hd
  have hlen : v.cells.size = csz ty := by have := hcs.1; simp at this; omega
  obtain ⟨w', vs', h3, h4, h5⟩ := storeAt_run (off := ix * csz e' + off) hr hb hlen (by omega) hfz h1'
  rw [rdN_of hix] at hx
  have hold := flat_conc (g := g) (hrd ix hix)
  have hnew := packAll_sound hI hno (hold.splice hcs off) hx
  obtain ⟨hI1, hK1⟩ := hI.killAll (is := idsOf av.cells)
  have hj1 : killAll hp (idsOf av.cells) j = some (.row e' l) := by rw [killAll_at, if_neg hni]; exact hj
  have hids : ∀ i ∈ idsOf (splice (flat e' l[ix]) off av.cells), i ∈ idsOf av.cells := by
    have hfl : ∀ (t : Ty) (y : den t), idsOf (flat t y) = [] := by
      intro t
      induction t with
      | pair a b iha ihb => intro y; simp only [idsOf, flat, List.flatMap_append]; have := iha y.1; have := ihb y.2; simp_all [idsOf]
      | _ => intro y; rfl
    have hsub : ∀ (n : Nat) (cs : List CV), idsOf cs = [] → idsOf (cs.take n) = [] ∧ idsOf (cs.drop n) = [] := by
      intro n cs h
      simp only [idsOf, List.flatMap_eq_nil_iff] at h ⊢
      exact ⟨fun y hy => h y (List.mem_of_mem_take hy), fun y hy => h y (List.mem_of_mem_drop hy)⟩
    intro i hi
    unfold Rf.splice at hi
    have h0 := hfl e' l[ix]
    simp only [idsOf, List.flatMap_append, List.mem_append] at hi
    rcases hi with (hi | hi) | hi
    · have := (hsub off _ h0).1; simp only [idsOf] at this; rw [this] at hi; cases hi
    · exact hi
    · have := (hsub (off + av.cells.length) _ h0).2; simp only [idsOf] at this; rw [this] at hi; cases hi
  obtain ⟨k1, k2⟩ := hI1.write (ob' := .row e' (l.set ix x)) hj1 ⟨_, _, hj1, hg, rfl⟩ h4 (fun hk => by
    refine ⟨some b, cap, by simpa using hg, vs', el, fz, h4.here, by simpa using h1, ?_, ?_, ?_⟩
    · have := congrArg List.length h5; simp at this; have : vs'.size = vs.size := by omega
      omega
    · have := congrArg List.length h5; simp at this; have : vs'.size = vs.size := by omega
      rw [this]; exact hfz
    · have hset := ((hrd.mono fun _ _ h => Rd.frame (hK1.trans hk) h).set hix (Rd.frame (fun b hb => hk b (With.killed hI (With.mono hids hb))) hnew) hnew.len (by simpa using hfit))
      have e1 : vs'.toList = vs.toList.take (ix * csz e') ++ (List.take off ((vs.toList.drop (ix * csz e')).take (csz e')) ++ v.cells.toList ++ List.drop (off + v.cells.toList.length) ((vs.toList.drop (ix * csz e')).take (csz e'))) ++ vs.toList.drop (ix * csz e' + csz e') := by
        rw [h5]
        have hvl : v.cells.toList.length = csz ty := by simpa using hlen
        rw [hvl]
        have a1 : vs.toList.take (ix * csz e' + off) = vs.toList.take (ix * csz e') ++ List.take off ((vs.toList.drop (ix * csz e')).take (csz e')) := by
          rw [List.take_add, List.take_take, Nat.min_eq_left (by omega)]
        have a2 : vs.toList.drop (ix * csz e' + off + csz ty) = List.drop (off + csz ty) ((vs.toList.drop (ix * csz e')).take (csz e')) ++ vs.toList.drop (ix * csz e' + csz e') := by
          rw [List.drop_take, List.drop_drop]
          have : vs.toList.drop (ix * csz e' + csz e') = (vs.toList.drop (ix * csz e' + (off + csz ty))).drop (csz e' - (off + csz ty)) := by
            rw [List.drop_drop]; congr 1; omega
          rw [this, List.take_append_drop, Nat.add_assoc]
        rw [a1, a2]
        simp [List.append_assoc]
      rw [e1]; exact hset)
  refine ⟨g, w', h3, Gm.le_refl g, fun i e1 e2 => absurd e1 e2, ?_, ?_, trivial⟩
  · rw [setHp_killAll hni]; exact k1
  · rw [setHp_killAll hni]; exact hK1.trans k2

end Go.Proofs.Ythjiokbokncpoaa.Rf
