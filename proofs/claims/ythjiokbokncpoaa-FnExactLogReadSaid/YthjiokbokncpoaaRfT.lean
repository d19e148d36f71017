/- An operation that comes out on a part of the objects comes out just so on all of them. -/
import Derived.Test.YthjiokbokncpoaaRfC
namespace Go.Proofs.Ythjiokbokncpoaa.Rf
open Go

def Hp.le (a b : Hp) : Prop := ∀ j ob, a j = some ob → b j = some ob

variable {a b : Hp}

theorem rowOf_mono (h : a.le b) {i : Nat} {e : Ty} {l : List (den e)} (hr : rowOf a i e = some l) : rowOf b i e = some l := by
  unfold rowOf at hr ⊢
  split at hr
  · rename_i e' l' hi
    rw [h _ _ hi]; exact hr
  · cases hr

theorem asL_mono (h : a.le b) {e : Ty} {c : CV} {l : List (den e)} (hr : asL a e c = some l) : asL b e c = some l := by
  cases c <;> simp only [asL] at hr ⊢ <;> try exact hr
  · exact rowOf_mono h hr
  · split at hr
    · rename_i l' hl; rw [rowOf_mono h hl]; exact hr
    · cases hr

theorem asO_mono (h : a.le b) {e : Ty} {c : CV} {l : List (den e)} (hr : asO a e c = some l) : asO b e c = some l := by
  cases c <;> simp only [asO] at hr ⊢ <;> first | exact hr | exact rowOf_mono h hr

theorem pack_mono (h : a.le b) : ∀ {t : Ty} {cs : List CV} {x : den t × List CV}, pack a t cs = some x → pack b t cs = some x := by
  intro t
  induction t with
  | int k => intro cs x hr; cases cs with
    | nil => simp [pack] at hr
    | cons c cs => cases c <;> simp only [pack] at hr ⊢ <;> first | exact hr | cases hr
  | bool => intro cs x hr; cases cs with
    | nil => simp [pack] at hr
    | cons c cs => cases c <;> simp only [pack] at hr ⊢ <;> first | exact hr | cases hr
  | str => intro cs x hr; cases cs with
    | nil => simp [pack] at hr
    | cons c cs => cases c <;> simp only [pack] at hr ⊢ <;> first | exact hr | cases hr
  | sl e _ => intro cs x hr; cases cs with
    | nil => simp [pack] at hr
    | cons c cs =>
      simp only [pack] at hr ⊢
      split at hr
      · rename_i l hl; rw [asL_mono h hl]; exact hr
      · cases hr
  | own e _ => intro cs x hr; cases cs with
    | nil => simp [pack] at hr
    | cons c cs =>
      simp only [pack] at hr ⊢
      split at hr
      · rename_i l hl; rw [asO_mono h hl]; exact hr
      · cases hr
  | unit => intro cs x hr; simp only [pack] at hr ⊢; exact hr
  | pair s t ihs iht =>
    intro cs x hr
    simp only [pack] at hr ⊢
    split at hr
    · rename_i y r h1
      rw [ihs h1]
      simp only
      split at hr
      · rename_i z r' h2
        rw [iht h2]; exact hr
      · cases hr
    · cases hr

theorem packAll_mono (h : a.le b) {t : Ty} {cs : List CV} {x : den t} (hr : packAll a t cs = some x) : packAll b t cs = some x := by
  unfold packAll at hr ⊢
  split at hr
  · rename_i y hy; rw [pack_mono h hy]; exact hr
  · cases hr

theorem lenA_mono (h : a.le b) {c : CV} {n : Nat} (hr : lenA a c = some n) : lenA b c = some n := by
  cases c <;> simp only [lenA] at hr ⊢ <;> try exact hr
  split at hr
  · rename_i e l hi; rw [h _ _ hi]; exact hr
  · cases hr

theorem elemsOf_mono (h : a.le b) {e : Ty} {v : AV} {l : List (den e)} (hr : elemsOf a e v = some l) : elemsOf b e v = some l := by
  cases v with
  | c x => cases x <;> simp only [elemsOf] at hr ⊢ <;> first | exact hr | exact asL_mono h hr
  | agg cs => simp [elemsOf] at hr
  | tup ps => simp [elemsOf] at hr

theorem boxOf_mono (h : a.le b) {v : AV} {x : Nat × List CV} (hr : boxOf a v = some x) : boxOf b v = some x := by
  unfold boxOf at hr ⊢
  split at hr
  · split at hr
    · rename_i cs hi; rw [h _ _ hi]; exact hr
    · cases hr
  · cases hr

theorem packArg_mono (h : a.le b) {p : PM} {v : AV} {x : den p.ty × List Nat × List Nat × List Nat} (hr : packArg a p v = some x) : packArg b p v = some x := by
  cases p with
  | ref t =>
    simp only [packArg] at hr ⊢
    split at hr
    · rename_i i cs hb
      rw [boxOf_mono h hb]
      simp only
      split at hr
      · rename_i y hy; rw [packAll_mono h hy]; exact hr
      · cases hr
    · cases hr
  | _ =>
    simp only [packArg] at hr ⊢
    split at hr
    · rename_i hc
      rw [if_pos hc]
      split at hr
      · rename_i y hy; rw [packAll_mono h hy]; exact hr
      · cases hr
    · cases hr

theorem packArg_box {p : PM} {t : Ty} {v : AV} {x : den p.ty × List Nat × List Nat × List Nat} (hp : p = .ref t) (hr : packArg a p v = some x) : ∃ y, boxOf a v = some y := by
  subst hp
  simp only [packArg] at hr
  split at hr
  · rename_i i cs hb; exact ⟨_, hb⟩
  · cases hr

theorem packArgs_mono (h : a.le b) : ∀ {ps : List PM} {vs : List AV} {x : den (inTy ps) × List Nat × List Nat × List Nat}, packArgs a ps vs = some x → packArgs b ps vs = some x ∧ backKills a ps vs = backKills b ps vs ∧
    ∀ (n : Nat) (y : den (mutTy ps)), backWrites a n ps vs y = backWrites b n ps vs y
  | [], [], _, hr => ⟨hr, rfl, fun _ _ => rfl⟩
  | [], _ :: _, _, hr => by simp [packArgs] at hr
  | _ :: _, [], _, hr => by simp [packArgs] at hr
  | p :: ps, v :: vs, x, hr => by
    simp only [packArgs] at hr ⊢
    split at hr
    · rename_i x1 o m f h1
      rw [packArg_mono h h1]
      simp only
      split at hr
      · rename_i y o' m' f' h2
        obtain ⟨k1, k2, k3⟩ := packArgs_mono h h2
        rw [k1]
        refine ⟨hr, ?_, fun n y => ?_⟩
        · cases p with
          | ref t =>
            obtain ⟨z, hz⟩ := packArg_box rfl h1
            simp only [backKills, hz, boxOf_mono h hz, k2]
          | _ => simp only [backKills, k2]
        · cases p with
          | ref t =>
            obtain ⟨z, hz⟩ := packArg_box rfl h1
            simp only [backWrites, hz, boxOf_mono h hz, k3]
          | _ => simp only [backWrites, k3]
      · cases hr
    · cases hr

theorem callA_mono (h : a.le b) {nid : Nat} {c : FC} {vs : List AV} {x : AV × Upd} (hr : (callA a nid c vs).val = some x) : (callA b nid c vs).val = some x := by
  unfold callA at hr ⊢
  split at hr
  · rename_i y os ms fs h1
    obtain ⟨k1, k2, k3⟩ := packArgs_mono h h1
    rw [k1]
    simp only
    split at hr
    · rename_i hc
      rw [if_pos hc]
      simp only [CT.val] at hr ⊢
      rw [← k2]
      simp only [← k3]
      exact hr
    · cases hr
  · cases hr

theorem sliceA_mono (h : a.le b) {te : Option TI} {c : CV} {lo hi : Int} {x : AV × Upd} (hr : (sliceA a te c lo hi).val = some x) : (sliceA b te c lo hi).val = some x := by
  unfold sliceA at hr ⊢
  split at hr
  · exact hr
  · exact hr
  · split at hr
    · rename_i l hl; simp only [rowOf_mono h hl]; exact hr
    · cases hr
  · split at hr
    · rename_i l hl; simp only [rowOf_mono h hl]; exact hr
    · cases hr
  · cases hr

theorem appendA_mono (h : a.le b) {nid : Nat} {e : Ty} {eb : Nat} {s v : AV} {x : AV × Upd} (hr : (appendA a nid e eb s v).val = some x) : (appendA b nid e eb s v).val = some x := by
  unfold appendA at hr ⊢
  split at hr
  · cases hr
  · rename_i hc
    rw [if_neg hc]
    split at hr
    · cases hr
    · rename_i xs hxs
      rw [elemsOf_mono h hxs]
      simp only
      split at hr
      · exact hr
      · split at hr
        · rename_i l hl; simp only [rowOf_mono h hl]; exact hr
        · cases hr
      · cases hr

theorem builtinA_mono (h : a.le b) {cfg : Cfg} {nid : Nat} {bi : Builtin} {ts : List Nat} {vs : List AV} {x : AV × Upd} (hr : (builtinA cfg a nid bi ts vs).val = some x) : (builtinA cfg b nid bi ts vs).val = some x := by
  unfold builtinA at hr ⊢
  split at hr
  · split at hr
    · split at hr
      · rename_i hg
        try simp only [hg]
        split at hr
        · cases hr
        · split at hr
          · rename_i n hn
            simp only [lenA_mono h hn]
            exact hr
          · cases hr
      · rename_i hg
        try simp only [hg]
        exact hr
      · cases hr
    · cases hr
  · split at hr
    · split at hr
      · rename_i hg hg2
        try simp only [hg, hg2]
        split at hr
        · cases hr
        · exact appendA_mono h hr
      · rename_i hg hg2
        try simp only [hg, hg2]
        split at hr
        · exact appendA_mono h hr
        · cases hr
      · cases hr
    · cases hr
  · exact hr
  · exact hr
  · cases hr

theorem seqO_mono {α β : Type} {f g : α → Option β} (h : ∀ x y, f x = some y → g x = some y) : ∀ {l : List α} {r : List β}, seqO (l.map f) = some r → seqO (l.map g) = some r
  | [], _, hr => hr
  | x :: l, r, hr => by
    simp only [List.map_cons] at hr ⊢
    cases hf : f x with
    | none => rw [hf] at hr; simp [seqO] at hr
    | some y =>
      rw [hf] at hr
      rw [h x y hf]
      simp only [seqO] at hr ⊢
      split at hr
      · rename_i l' hl
        rw [seqO_mono h hl]; exact hr
      · cases hr

theorem stepOp_mono (h : a.le b) {cfg : Cfg} {ρ : Operand → AV} {nid : Nat} {op : Op} {x : AV × Upd} (hr : (stepOp cfg ρ a nid op).val = some x) : (stepOp cfg ρ b nid op).val = some x := by
  cases op <;> simp only [stepOp] at hr ⊢ <;> try exact hr
  case buildSlice t n ps =>
    split at hr
    · rename_i e _ _ heq
      try simp only [heq]
      split at hr
      · rename_i hc
        rw [if_pos hc]
        split at hr
        · rename_i l hl
          have := seqO_mono (g := fun p : Nat × Operand => packAll b e (ρ p.2).cells) (fun p y hp => packAll_mono h hp) hl
          simp only [this]; exact hr
        · cases hr
      · cases hr
    · cases hr
  case load t p =>
    split at hr
    · rename_i heq; try simp only [heq]
      split at hr
      · rename_i heq; try simp only [heq]
        split at hr
        · rename_i cs hj; simp only [h _ _ hj]; exact hr
        · cases hr
      · rename_i heq; try simp only [heq]
        split at hr
        · rename_i cs hj; simp only [h _ _ hj]; exact hr
        · cases hr
      · exact hr
      · cases hr
    · cases hr
  case store t p v =>
    split at hr
    · rename_i heq; try simp only [heq]
      split at hr
      · rename_i hc
        rw [if_pos hc]
        split at hr
        · rename_i heq; try simp only [heq]
          split at hr
          · rename_i cs hj; simp only [h _ _ hj]; exact hr
          · cases hr
        · rename_i heq; try simp only [heq]
          split at hr
          · rename_i e l hj
            simp only [h _ _ hj]
            split at hr
            · rename_i hc2
              rw [if_pos hc2]
              split at hr
              · rename_i z hz; simp only [packAll_mono h hz]; exact hr
              · cases hr
            · cases hr
          · cases hr
        · cases hr
      · cases hr
    · cases hr
  case convert s d p =>
    split at hr
    · exact hr
    · exact hr
    · rename_i heq; try simp only [heq]
      split at hr
      · rename_i heq; try simp only [heq]
        split at hr
        · rename_i l hl; simp only [asL_mono h hl]; exact hr
        · cases hr
      · cases hr
    · exact hr
    · cases hr
  case slice t p lo hi mx =>
    cases mx with
    | some _ => cases hr
    | none =>
      simp only at hr ⊢
      split at hr
      · rename_i heq; try simp only [heq]
        split at hr
        · rename_i heq; try simp only [heq]
          split at hr
          · rename_i n hn
            simp only [lenA_mono h hn]
            split at hr
            · exact sliceA_mono h hr
            · cases hr
          · cases hr
        · cases hr
      · cases hr
  case indexAddr t p ix =>
    split at hr
    · rename_i heq; try simp only [heq]
      split at hr
      · rename_i heq; try simp only [heq]
        split at hr
        · rename_i l hl; simp only [rowOf_mono h hl]; exact hr
        · cases hr
      · rename_i heq; try simp only [heq]
        split at hr
        · rename_i l hl; simp only [rowOf_mono h hl]; exact hr
        · cases hr
      · exact hr
      · cases hr
    · cases hr
  case call c =>
    split at hr
    · exact builtinA_mono h hr
    · rename_i heq; try simp only [heq]
      split at hr
      · rename_i heq; try simp only [heq]
        split at hr
        · exact callA_mono h hr
        · cases hr
      · cases hr
    · cases hr

end Go.Proofs.Ythjiokbokncpoaa.Rf
