/- New slices out of parts, texts turned into bytes, smallest and greatest, parts of tuples. -/
import Derived.Test.YthjiokbokncpoaaRfL
namespace Go.Proofs.Ythjiokbokncpoaa.Rf
open Go

variable {P : Program} {B : Base} {hp : Hp} {g : Gm} {w : World} {nid : Nat} {A : Nat → Prop}

theorem packAll_all (hI : Inv B hp g w) {e : Ty} (hno : noOwn e = true) {av : AV} {v : Value} {x : den e} (hv : conc w (Im B hp g w) g av v) (hx : packAll hp e av.cells = some x) (hd : av.cells.all CV.isDef = true) (hf : ∃ t, av.fits t = true) :
    Rd w (With B hp g w (idsOf av.cells)) e v.cells.toList x := by
  obtain ⟨t, hf⟩ := hf
  obtain ⟨hcs, _⟩ := hv.cells hf hd
  exact packAll_sound hI hno hcs hx

theorem pack_def {hp : Hp} : ∀ {t : Ty} {cs r : List CV} {x : den t}, pack hp t cs = some (x, r) → ∃ c0, cs = c0 ++ r ∧ c0.all CV.isDef = true := by
  intro t
  induction t with
  | int k =>
    intro cs r x h
    match cs, h with
    | c :: cs, h => cases c <;> simp [pack] at h; obtain ⟨_, _, rfl⟩ := h; exact ⟨[.int _ _], rfl, rfl⟩
    | [], h => simp [pack] at h
  | bool =>
    intro cs r x h
    match cs, h with
    | c :: cs, h => cases c <;> simp [pack] at h; obtain ⟨_, rfl⟩ := h; exact ⟨[.bool _], rfl, rfl⟩
    | [], h => simp [pack] at h
  | str =>
    intro cs r x h
    match cs, h with
    | c :: cs, h => cases c <;> simp [pack] at h; obtain ⟨_, rfl⟩ := h; exact ⟨[.str _], rfl, rfl⟩
    | [], h => simp [pack] at h
  | sl e ih =>
    intro cs r x h
    match cs, h with
    | c :: cs, h =>
      simp only [pack] at h
      split at h
      · rename_i l hl
        obtain ⟨_, rfl⟩ := Prod.mk.inj (Option.some.inj h)
        refine ⟨[c], rfl, ?_⟩
        cases c <;> first | rfl | simp [asL] at hl
      · cases h
    | [], h => simp [pack] at h
  | own e ih =>
    intro cs r x h
    match cs, h with
    | c :: cs, h =>
      simp only [pack] at h
      split at h
      · rename_i l hl
        obtain ⟨_, rfl⟩ := Prod.mk.inj (Option.some.inj h)
        refine ⟨[c], rfl, ?_⟩
        cases c <;> first | rfl | simp [asO] at hl
      · cases h
    | [], h => simp [pack] at h
  | unit => intro cs r x h; simp [pack] at h; exact ⟨[], by simp [h], rfl⟩
  | pair a b iha ihb =>
    intro cs r x h
    simp only [pack] at h
    split at h
    · rename_i x1 r1 h1
      split at h
      · rename_i y r2 h2
        obtain ⟨_, rfl⟩ := Prod.mk.inj (Option.some.inj h)
        obtain ⟨c0, rfl, d0⟩ := iha h1
        obtain ⟨c1, rfl, d1⟩ := ihb h2
        exact ⟨c0 ++ c1, by simp, by simp [d0, d1]⟩
      · cases h
    · cases h

theorem packAll_def {hp : Hp} {t : Ty} {cs : List CV} {x : den t} (h : packAll hp t cs = some x) : cs.all CV.isDef = true := by
  unfold packAll at h
  split at h
  · rename_i x' h1
    obtain ⟨c0, h2, h3⟩ := pack_def h1
    rw [List.append_nil] at h2
    rw [h2]; exact h3
  · cases h

theorem buildSlice_runs (hI : Inv B hp g w) (hn : g nid = none) {t : TypeId} {i : TI} {e : Ty} (hti : TIOk P t i) (hty : i.ty = .sl e) (hno : noOwn e = true) {ps : List (Nat × AV)} {vs : Array (Nat × Value)} (hl : ps.length = vs.size)
    (hcv : ∀ j (h : j < ps.length) (h' : j < vs.toList.length), ps[j].1 = vs.toList[j].1 ∧ conc w (Im B hp g w) g ps[j].2 vs.toList[j].2) {n : Nat} (hix : ps.map (·.1) = List.range n) (h24 : n * csz e ≤ 16777216)
    (hfit : ∀ p ∈ ps, ∃ t, p.2.fits t = true)
    {l : List (den e)} (hlx : seqO (ps.map fun p => packAll hp e p.2.cells) = some l) :
    Runs P B hp (killAll (setHp hp nid (some (.row e l))) (ps.flatMap fun p => idsOf p.2.cells)) g w nid (.c (.ref nid)) (Instr.buildSlice t n vs) := by
  obtain ⟨et, inf, hu, hre, hinf, hbytes⟩ := hti.elem e hty
  obtain ⟨z, hz, hzr⟩ := hre.zeroValue
  obtain ⟨hll, hlp⟩ := seqO_some hlx
  simp only [List.length_map] at hll hlp
  have hpn : ps.length = n := by have := congrArg List.length hix; simpa using this
  generalize hids : (ps.flatMap fun p => idsOf p.2.cells) = ids
  obtain ⟨hI1, hK1⟩ := hI.killAll (is := ids)
  have hzl : z.cells.size = csz e := by
    have h1 := congrArg List.length hz
    have h2 : (zerosV e).length = csz e := by rw [← zeros_len e]; exact (zeros_conc (w := w) (A := fun _ => True) (g := g) e).1.symm
    rw [h2] at h1; simpa using h1
  have hrds : ∀ j (h : j < vs.toList.length) (h' : j < l.length), Rd w (Im B (killAll hp ids) g w) e vs.toList[j].2.cells.toList l[j] := by
    intro j h h'
    have hj : j < ps.length := by omega
    obtain ⟨_, hc⟩ := hcv j hj h
    have hx := hlp j hj h'
    simp only [List.getElem_map] at hx
    have := packAll_all hI hno hc hx (packAll_def hx) (hfit _ (List.getElem_mem hj))
    refine Rd.mono (fun b hb => With.killed hI (With.mono (fun i hi => ?_) hb)) this
    rw [← hids, List.mem_flatMap]
    exact ⟨_, List.getElem_mem hj, hi⟩
  obtain ⟨cells', k1, k2, k3⟩ := fill_row (Pr := Rd w (Im B (killAll hp ids) g w) e) (fun c x h => Rd.len h) vs.toList l 0 ((Array.range (n * csz e)).map (fun j => (if n * csz e = 0 then #[] else z.cells)[j % (if n * csz e = 0 then #[] else z.cells).size]!)) []
    (by rw [Array.length_toList]; omega) (fun j hj => by
      have hj' : j < ps.length := by rw [Array.length_toList] at hj; omega
      obtain ⟨h1, _⟩ := hcv j hj' hj
      rw [← h1, Nat.zero_add]
      have h2 := congrArg (fun (l : List Nat) => l[j]?) hix
      simp only [List.getElem?_map, List.getElem?_eq_getElem hj', Option.map_some] at h2
      rw [List.getElem?_range (by omega)] at h2
      exact Option.some.inj h2) hrds rfl (RdLs.nil _) (by rw [Array.size_map, Array.size_range, Nat.zero_add, Array.length_toList, ← hl, hpn]; exact Nat.le_refl _)
  have hg : ∀ i ∈ ids, g i ≠ none := by
    intro i hi
    rw [← hids, List.mem_flatMap] at hi
    obtain ⟨p, hp', hi⟩ := hi
    obtain ⟨j, hj, rfl⟩ := List.mem_iff_getElem.1 hp'
    have hj' : j < vs.toList.length := by rw [Array.length_toList]; omega
    obtain ⟨_, hc⟩ := hcv j hj hj'
    have hx := hlp j hj (by omega)
    simp only [List.getElem_map] at hx
    obtain ⟨t', hf⟩ := hfit _ hp'
    exact ids_known_list (hc.cells hf (packAll_def hx)).1 hi
  have hni : nid ∉ ids := fun h => hg nid h hn
  have hpost := newrow_post (nid := nid) (w' := w.alloc (.cells cells' et)) (cap := n) (l := l) (vs := cells') hI1 hn (Nat.le_refl _) (by omega) rfl rfl rfl rfl (by omega)
    (by rw [k2]; simp) (.inl (Nat.le_refl _)) (by simpa using k3)
  have hln : l.length = n := by omega
  rw [hln] at hpost
  refine ⟨setG g nid (.row e (some w.heap.size) n n), w.alloc (.cells cells' et), .slice (some ⟨w.heap.size, 0, none⟩) n n, ?_, ?_⟩
  · simp only [Instr.buildSlice, Sem.run_bind, underlying, run_program, Result.andThen_ok, hu, Sem.run_pure, hre.size_of, Sem.run_ite]
    rw [if_neg (by omega)]
    by_cases h0 : n * csz e = 0
    · simp only [h0, if_true] at k1 ⊢
      try simp only [Sem.run_pure, Result.andThen_ok]
      rw [k1]
      simp only [newRow, Sem.run_bind, run_newObj, Result.andThen_ok, Sem.run_pure]
      rfl
    · simp only [h0, if_false] at k1 ⊢
      simp only [hzr, Sem.run_bind, Sem.run_pure, Result.andThen_ok]
      rw [k1]
      simp only [newRow, Sem.run_bind, run_newObj, Result.andThen_ok, Sem.run_pure]
      rfl
  · rw [setHp_killAll hni]
    exact ⟨hpost.le, hpost.new, hpost.inv, hK1.trans hpost.keep, hpost.val⟩

/-! ### a text's bytes -/
theorem freeze_push (o : Obj) (n : Nat) (cells : Array Value) (el : TypeId) (ho : o = .cells cells el (0, 0)) :
    (({ w with heap := w.heap.push o } : World).freeze ⟨w.heap.size, n, none⟩ 1).heap = w.heap.push (.cells cells el (n, n + 1)) := by
  subst ho
  simp only [World.freeze]
  rw [if_neg (by omega)]
  apply Array.ext_getElem?
  intro i
  simp only [Array.getElem?_modify, Array.getElem?_push]
  by_cases h : i = w.heap.size
  · subst h; simp
  · rw [if_neg (by omega), if_neg h]
    simp [h]

theorem stringToBytes_runs (hI : Inv B hp g w) (hn : g nid = none) {s d : TypeId} {b : ByteArray} (hs : Rep P s .str) (hd : Rep P d (.sl (.int .u8))) :
    Runs P B hp (setHp hp nid (some (.row (.int .u8) (listOf b)))) g w nid (.c (.ref nid)) (convert s d (.string b)) := by
  obtain ⟨et, hu, hre⟩ := hd.und_sl
  let cap := (Question.appendCap b.size 0 et).cut (w.tape w.drawn (.appendCap b.size 0 et))
  have hcap : b.size ≤ cap := by show b.size ≤ b.size + _; omega
  let cells : Array Value := (b.data.map fun b => .int .u8 b.toNat) ++ Array.replicate (cap - b.size) (.int .u8 0)
  have hcs : cells.size = cap := by
    have : b.data.size = b.size := rfl
    simp [cells, this]; omega
  let w1 : World := { heap := w.heap.push (.cells cells et (0, 0)), tape := w.tape, drawn := w.drawn + 1, os := w.os, output := w.output }
  have hll : (listOf b).length = b.size := by simp [listOf]
  have hfr : (w1.freeze ⟨w.heap.size, cells.size, none⟩ 1).heap = w.heap.push (.cells cells et (cells.size, cells.size + 1)) :=
    freeze_push (w := { w with drawn := w.drawn + 1 }) _ cells.size cells et rfl
  have hpost := newrow_post (nid := nid) (w' := w1.freeze ⟨w.heap.size, cells.size, none⟩ 1) (cap := cap) (e := .int .u8) (l := listOf b) (vs := cells) (el := et) (fz := (cells.size, cells.size + 1)) hI hn (Nat.le_refl _) (by omega)
    hfr rfl rfl rfl (by rw [hll]; exact hcap) (by rw [hcs]; simp [csz]) (.inr (Nat.le_refl _))
    (by
      have e : cells.toList = byteCells b ++ List.replicate (cap - b.size) (.int .u8 0) := by simp [cells, byteCells]
      rw [e]
      refine RdLs.congr (listOf_rd b) ?_
      refine (List.take_append_of_le_length ?_).symm
      rw [byteCells_length, hll]; simp [csz])
  rw [hll] at hpost
  have hsh : World.shape? w1 w.heap.size = some (et, cells.size) := by simp [World.shape?, w1]
  have hmark : (markStringish ⟨w.heap.size, 0, none⟩).run P w1 = .ok () (w1.freeze ⟨w.heap.size, cells.size, none⟩ 1) := by
    simp only [markStringish, Sem.run_bind, run_shape, Result.andThen_ok, hsh, run_freeze]
  refine ⟨_, _, _, ?_, hpost⟩
  simp only [convert, underlying, Sem.run_bind, run_program, Result.andThen_ok, hs.und_str, hu, hre.und_int, Sem.run_pure, Conv.stringToBytes, run_choose]
  simp only [Question.forced, Bool.false_eq_true, if_false, Result.andThen_ok, newRow, Sem.run_bind, run_newObj, Sem.run_pure]
  have := hmark
  simp only [cells, cap, w1] at this
  rw [this]
  rfl

end Go.Proofs.Ythjiokbokncpoaa.Rf
