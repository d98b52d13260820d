/- The executor is sound: operations on memory. -/
import Derived.Test.YtgjkcoifgdmmbaaDoorXA
set_option linter.unusedSimpArgs false
set_option linter.unusedVariables false
section
namespace Go.Ax
open Go

inductive TA where
  | keep
  | into (id : Id) (suf : List (Nat × Nat))
  | shift (id : Id) (n : Nat)
  | frz
  | drop

def shiftLast (n : Nat) : List (Nat × Nat) → List (Nat × Nat)
  | [] => []
  | [(i, j)] => [(n + i, j)]
  | x :: l => x :: shiftLast n l

def TA.tag (t : TA) : Tag → Option Tag
  | .fz => some .fz
  | .deep id p => match t with
    | .keep => some (.deep id p)
    | .into id' suf => some (.deep id' (p ++ suf))
    | .shift id' n => match p with
      | [] => none
      | x :: l => some (.deep id' (shiftLast n (x :: l)))
    | .frz => some .fz
    | .drop => none
  | .sh id => match t with
    | .keep => some (.sh id)
    | .into id' [] => some (.sh id')
    | .into _ _ => none
    | .shift _ _ => none
    | .frz => some .fz
    | .drop => none

theorem shiftLast_cons (n : Nat) (x y : Nat × Nat) (l : List (Nat × Nat)) : shiftLast n (x :: y :: l) = x :: shiftLast n (y :: l) := by
  obtain ⟨i, j⟩ := x; rfl

def TagMap.of (act : Id → TA) : TagMap where
  f t := match t.ids with | none => some t | some id => (act id).tag t
  fz := rfl
  ext := by
    intro t t' i j h
    cases t with
    | fz => simp [Tag.ids] at h; subst h; rfl
    | sh id =>
      simp only [Tag.ids] at h
      simp only [Tag.ext, Tag.ids]
      cases hA : act id with
      | into id' suf => cases suf <;> simp [hA, TA.tag] at h; subst h; rfl
      | _ => simp [hA, TA.tag] at h <;> (subst h; rfl)
    | deep id p =>
      simp only [Tag.ids] at h
      simp only [Tag.ext, Tag.ids]
      cases hA : act id with
      | shift id' n =>
        cases p with
        | nil => simp [hA, TA.tag] at h
        | cons x l =>
          simp only [hA, TA.tag, Option.some.injEq] at h
          subst h
          simp only [TA.tag, shiftLast_cons]
          try rfl
      | drop => simp [hA, TA.tag] at h
      | _ => simp only [hA, TA.tag, Option.some.injEq] at h <;> (subst h; rfl)
  own := by
    intro t t' h hne e
    subst e
    simp [Tag.ids] at h
    exact hne h.symm

theorem TagMap.of_keep {act : Id → TA} {t : Tag} (h : t.avoids (fun id => act id ≠ .keep)) : (TagMap.of act).f t = some t := by
  cases t with
  | fz => rfl
  | deep id p =>
    have : act id = .keep := Classical.not_not.1 (h id rfl)
    simp [TagMap.of, Tag.ids, this, TA.tag]
  | sh id =>
    have : act id = .keep := Classical.not_not.1 (h id rfl)
    simp [TagMap.of, Tag.ids, this, TA.tag]

structure Pushed (w w' : World) (cells : Array Value) (et : TypeId) (fr : Nat × Nat) : Prop where
  heap : w'.heap = w.heap.push (.cells cells et fr)
  os : w'.os = w.os
  tape : w'.tape = w.tape
  output : w'.output = w.output

theorem Pushed.old {w w' : World} {cells : Array Value} {et : TypeId} {fr : Nat × Nat} (p : Pushed w w' cells et fr) {b : Nat} {o : Go.Obj} (h : w.heap[b]? = some o) : w'.heap[b]? = some o := by
  have hb : b < w.heap.size := (Array.getElem?_eq_some_iff.1 h).1
  rw [p.heap, Array.getElem?_push, if_neg (by omega)]; exact h

theorem Pushed.new {w w' : World} {cells : Array Value} {et : TypeId} {fr : Nat × Nat} (p : Pushed w w' cells et fr) : w'.heap[w.heap.size]? = some (.cells cells et fr) := by
  rw [p.heap, Array.getElem?_push, if_pos rfl]

def own1 (act : Id → TA) (ow : Own) (b : Nat) (t : Tag) : Own := fun x => if x = b then some t else (TagMap.of act).on ow x

theorem ne_size {w : World} {b : Nat} {o : Go.Obj} (h : w.heap[b]? = some o) : b ≠ w.heap.size := by
  have := (Array.getElem?_eq_some_iff.1 h).1; omega

theorem Pushed.rep {w w' : World} {cells : Array Value} {et : TypeId} {fr : Nat × Nat} (p : Pushed w w' cells et fr) {act : Id → TA} {ow : Own} {nt : Tag} {t t' : Tag} {d : D} {v : Value}
    (r : Rep w ow t d v) (h : (TagMap.of act).f t = some t') : Rep w' (own1 act ow w.heap.size nt) t' d v :=
  (r.map (TagMap.of act) h).mono (S := fun _ => True) (fun _ _ _ _ => trivial) (fun b t o h1 _ h2 => ⟨p.old h2, by simp only [own1, if_neg (ne_size h2)]; exact h1⟩) trivial

theorem Pushed.step {w w' : World} {cells : Array Value} {et : TypeId} {fr : Nat × Nat} (p : Pushed w w' cells et fr) {act : Id → TA} {ow : Own} {nt : Tag} {σ : Val} {id : Id} {v : Value} {X : Id → Prop}
    (hX : ∀ i, act i ≠ .keep → X i) (hid : X id) : Step X w ow σ w' (own1 act ow w.heap.size nt) (fun i => if i = id then v else σ i) where
  heap := fun b t o h1 h2 h3 => ⟨p.old h3, by
    simp only [own1, if_neg (ne_size h3), TagMap.on, h1, Option.bind_some]
    exact TagMap.of_keep (fun i hi hne => h2 i hi (hX i hne))⟩
  val := fun i hi => by
    have : i ≠ id := fun e => hi (e ▸ hid)
    simp [this]

theorem Pushed.frame {w w' : World} {cells : Array Value} {et : TypeId} {fr : Nat × Nat} (p : Pushed w w' cells et fr) {act : Id → TA} {ow : Own} {nt : Tag} {B : Base} (hf : Frame' B.w B.ow w ow)
    (hb : ∀ b, b < B.w.heap.size → (B.ow b = none ∨ B.ow b = some .fz) → (TagMap.of act).on ow b = ow b) : Frame' B.w B.ow w' (own1 act ow w.heap.size nt) where
  os := by rw [p.os, hf.os]
  tape := by rw [p.tape, hf.tape]
  output := by rw [p.output, hf.output]
  size := by rw [p.heap]; simp; have := hf.size; omega
  old := fun b hb1 hb2 => by
    obtain ⟨g1, g2⟩ := hf.old b hb1 hb2
    have hlt : b < w.heap.size := by have := hf.size; omega
    refine ⟨?_, ?_⟩
    · rw [← g1, p.heap, Array.getElem?_push, if_neg (by omega)]
    · simp only [own1, if_neg (show b ≠ w.heap.size by omega)]
      rw [hb b hb1 hb2, g2]

theorem old_keep {B : Base} {w : World} {ow : Own} (hf : Frame' B.w B.ow w ow) (act : Id → TA) (b : Nat) (h1 : b < B.w.heap.size) (h2 : B.ow b = none ∨ B.ow b = some .fz) :
    (TagMap.of act).on ow b = ow b := by
  obtain ⟨_, g⟩ := hf.old b h1 h2
  simp only [TagMap.on]
  rw [g]
  rcases h2 with h2 | h2 <;> rw [h2] <;> rfl

def updIds (upd : List (Id × Option Obj)) (id : Id) : Prop := ∃ p ∈ upd, p.1 = id

theorem updO_spec (upd : List (Id × Option Obj)) : ∀ (o : Id → Option (Option Obj)) (id : Id), (¬ updIds upd id → updO upd o id = o id) ∧ (updIds upd id → ∃ x, (id, x) ∈ upd ∧ updO upd o id = some x) := by
  induction upd with
  | nil => intro o id; exact ⟨fun _ => rfl, fun ⟨p, hp, _⟩ => by simp at hp⟩
  | cons q upd ih =>
    obtain ⟨i, x⟩ := q
    intro o id
    simp only [updO]
    obtain ⟨h1, h2⟩ := ih (fun j => bif eqId i j then some x else o j) id
    constructor
    · intro hn
      rw [h1 (fun ⟨p, hp, he⟩ => hn ⟨p, List.mem_cons_of_mem _ hp, he⟩)]
      have : eqId i id = false := by
        cases he : eqId i id with
        | false => rfl
        | true => exact absurd ⟨_, List.mem_cons_self, eqId_iff.1 he⟩ hn
      simp [this]
    · rintro ⟨p, hp, he⟩
      by_cases hu : updIds upd id
      · obtain ⟨y, hy, hz⟩ := h2 hu
        exact ⟨y, List.mem_cons_of_mem _ hy, hz⟩
      · have hpi : i = id := by
          rcases List.mem_cons.1 hp with rfl | hp
          · exact he
          · exact absurd ⟨p, hp, he⟩ hu
        subst hpi
        refine ⟨x, List.mem_cons_self, ?_⟩
        rw [h1 hu, eqId_self]; rfl

theorem Upd.of_app {st : St} {dst : Option Nat} {v : V} {upd : List (Id × Option Obj)} : Upd (updIds upd) st (st.app dst v upd) dst v where
  nt := rfl
  env := fun s => by
    cases dst with
    | none => simp [St.app]
    | some d =>
      by_cases e : d = s
      · simp [St.app, e]
      · have e' : (d == s) = false := by simpa using e
        simp [St.app, e, e']
  objs := fun id hid => (updO_spec upd st.objs id).1 hid
  laid := fun id hid => by
    obtain ⟨x, _, hx⟩ := (updO_spec upd st.objs id).2 hid
    show updO upd st.objs id ≠ none
    rw [hx]; simp

theorem updIds_kills (ids : List Id) (id : Id) (upd : List (Id × Option Obj)) : updIds (kills ids ++ upd) id ↔ id ∈ ids ∨ updIds upd id := by
  constructor
  · rintro ⟨p, hp, rfl⟩
    rcases List.mem_append.1 hp with hp | hp
    · simp only [kills, List.mem_map] at hp; obtain ⟨i, hi, rfl⟩ := hp; exact .inl hi
    · exact .inr ⟨p, hp, rfl⟩
  · rintro (hi | ⟨p, hp, rfl⟩)
    · exact ⟨(id, none), List.mem_append_left _ (List.mem_map.2 ⟨id, hi, rfl⟩), rfl⟩
    · exact ⟨p, List.mem_append_right _ hp, rfl⟩

section
variable {E : Pr} {B : Base} {ow : Own} {σ : Val} {st : St} {a : Act} {w : World} {o : Oper} (h : Inv E B ow σ st a w) (hd : st.dstOk o.dst = true)
include h hd

theorem mk_good {d : Nat} (hdst : o.dst = some d) (hfresh : st.objs (d, 0) = none) {ids : List Id} (hlive : ∀ id, id ∈ ids → st.ob id ≠ none)
    {w' : World} {ow' : Own} {x root : Value} (hrun : (execOp a.eval o).run E.P w = .ok (.value x) w') {obj : Obj} {v : V}
    (hs : Step (fun i => i ∈ ids ∨ i = (d, 0)) w ow σ w' ow' (fun i => if i = (d, 0) then root else σ i)) (hf : Frame' B.w B.ow w' ow')
    (hobj : ∀ ob', (∀ id, id ∈ ids → ob' id = none) → (∀ id, id ∉ ids → id ≠ (d, 0) → ob' id = st.ob id) → ob' (d, 0) = some obj →
      RO w' ow' (fun i => if i = (d, 0) then root else σ i) ob' (d, 0) obj)
    (hoid : ∀ id, id ∈ obj.ids → st.objs id ≠ none)
    (hv : ∀ ob', ob' (d, 0) = some obj → RV w' ow' (fun i => if i = (d, 0) then root else σ i) ob' v x) (hvid : ∀ id, id ∈ v.ids → id = (d, 0)) :
    Good E B st a w o v (kills ids ++ [((d, 0), some obj)]) := by
  have hu := Upd.of_app (st := st) (dst := o.dst) (v := v) (upd := kills ids ++ [((d, 0), some obj)])
  have hX : ∀ id, updIds (kills ids ++ [((d, 0), some obj)]) id ↔ id ∈ ids ∨ id = (d, 0) := fun id => by
    rw [updIds_kills]
    constructor
    · rintro (h | ⟨q, hq, rfl⟩)
      · exact .inl h
      · simp only [List.mem_singleton] at hq; subst hq; exact .inr rfl
    · rintro (h | rfl)
      · exact .inl h
      · exact .inr ⟨_, List.mem_singleton.2 rfl, rfl⟩
  have hnotin : (d, 0) ∉ ids := fun hm => hlive _ hm (St.ob_none hfresh)
  have hnew : (st.app o.dst v (kills ids ++ [((d, 0), some obj)])).ob (d, 0) = some obj := by
    obtain ⟨y, hy, hz⟩ := (updO_spec (kills ids ++ [((d, 0), some obj)]) st.objs (d, 0)).2 ((hX _).2 (.inr rfl))
    rcases List.mem_append.1 hy with hy | hy
    · simp only [kills, List.mem_map] at hy; obtain ⟨i, hi, he⟩ := hy; cases he; exact absurd hi hnotin
    · simp only [List.mem_singleton, Prod.mk.injEq, true_and] at hy; subst hy
      show St.ob _ _ = _
      simp only [St.ob, St.app, hz]
  have hdead : ∀ id, id ∈ ids → (st.app o.dst v (kills ids ++ [((d, 0), some obj)])).ob id = none := fun id hid => by
    obtain ⟨y, hy, hz⟩ := (updO_spec (kills ids ++ [((d, 0), some obj)]) st.objs id).2 ((hX _).2 (.inl hid))
    have : y = none := by
      rcases List.mem_append.1 hy with hy | hy
      · simp only [kills, List.mem_map] at hy; obtain ⟨i, hi, he⟩ := hy; cases he; rfl
      · simp only [List.mem_singleton, Prod.mk.injEq] at hy; rw [hy.1] at hid; exact absurd hid hnotin
    subst this
    simp only [St.ob, St.app, hz]
  have hother : ∀ id, id ∉ ids → id ≠ (d, 0) → (st.app o.dst v (kills ids ++ [((d, 0), some obj)])).ob id = st.ob id := fun id h1 h2 =>
    St.ob_congr (hu.objs id (fun hx => ((hX id).1 hx).elim h1 h2))
  have hs' : Step (updIds (kills ids ++ [((d, 0), some obj)])) w ow σ w' ow' (fun i => if i = (d, 0) then root else σ i) :=
    ⟨fun b t o h1 h2 h3 => hs.heap b t o h1 (fun i hi hx => h2 i hi ((hX i).2 hx)) h3, fun i hi => hs.val i (fun hx => hi ((hX i).2 hx))⟩
  refine ⟨x, w', _, _, .inl hrun, h.upd hs' hu hd ?_ ?_ (fun _ => hv _ hnew) ?_ ?_ hf ?_⟩
  · intro id hx hne
    rcases (hX id).1 hx with hid | rfl
    · exact .inr (.inl (hdead id hid))
    · exact absurd hfresh hne
  · intro id ob hx hob
    rcases (hX id).1 hx with hid | rfl
    · rw [hdead id hid] at hob; cases hob
    · rw [hnew] at hob; cases hob
      exact hobj _ hdead hother hnew
  · intro id hid
    rw [hvid id hid]
    exact hu.laid _ ((hX _).2 (.inr rfl))
  · intro id ob hx hob id' hid'
    rcases (hX id).1 hx with hid | rfl
    · rw [hdead id hid] at hob; cases hob
    · rw [hnew] at hob; cases hob
      by_cases hx' : updIds (kills ids ++ [((d, 0), some obj)]) id'
      · exact hu.laid _ hx'
      · rw [hu.objs _ hx']; exact hoid id' hid'
  · intro id ob hx hge hob
    rcases (hX id).1 hx with hid | rfl
    · rw [hdead id hid] at hob; cases hob
    · exfalso
      rw [hdst] at hd
      have h1 : d < st.nt := by simpa [St.dstOk] using hd
      have h2 := h.small
      simp only at hge
      omega

theorem new_good {d : Nat} (hdst : o.dst = some d) (hfresh : st.objs (d, 0) = none) {ids : List Id} (hlive : ∀ id, id ∈ ids → st.ob id ≠ none) {act : Id → TA} (hact : ∀ i, act i ≠ .keep → i ∈ ids)
    {w' : World} {cells : Array Value} {et : TypeId} {fr : Nat × Nat} (p : Pushed w w' cells et fr) {x root : Value} (hrun : (execOp a.eval o).run E.P w = .ok (.value x) w') {obj : Obj} {nt : Tag} {v : V}
    (hobj : ∀ ob', (∀ id, id ∈ ids → ob' id = none) → (∀ id, id ∉ ids → id ≠ (d, 0) → ob' id = st.ob id) → ob' (d, 0) = some obj →
      RO w' (own1 act ow w.heap.size nt) (fun i => if i = (d, 0) then root else σ i) ob' (d, 0) obj)
    (hoid : ∀ id, id ∈ obj.ids → st.objs id ≠ none)
    (hv : ∀ ob', ob' (d, 0) = some obj → RV w' (own1 act ow w.heap.size nt) (fun i => if i = (d, 0) then root else σ i) ob' v x) (hvid : ∀ id, id ∈ v.ids → id = (d, 0)) :
    Good E B st a w o v (kills ids ++ [((d, 0), some obj)]) :=
  mk_good h hd hdst hfresh hlive hrun (p.step (fun i hi => .inl (hact i hi)) (.inr rfl)) (p.frame h.frame (old_keep h.frame act)) hobj hoid hv hvid

end

theorem run_newRow (P : Program) (e : TypeId) (cells : Array Value) (w : World) :
    (newRow e cells).run P w = .ok ⟨w.heap.size, 0, none⟩ { w with heap := w.heap.push (.cells cells e) } := by
  unfold newRow newObj
  rw [run_bind]; rfl

theorem pushed_new (w : World) (cells : Array Value) (e : TypeId) : Pushed w { w with heap := w.heap.push (.cells cells e) } cells e (0, 0) := ⟨rfl, rfl, rfl, rfl⟩

section
variable {E : Pr} {B : Base} {ow : Own} {σ : Val} {st : St} {a : Act} {w : World} {o : Oper} (h : Inv E B ow σ st a w) (hT : TabOk E.P E.T) (hd : st.dstOk o.dst = true)
include h hd

theorem newBox_good {d : Nat} (hdst : o.dst = some d) (hfresh : st.objs (d, 0) = none) {cs : List C} {cells : Array Value} {et : TypeId} (hr : RCs w ow σ st.ob cs cells) (hid : ∀ id, id ∈ cs.flatMap C.ids → st.objs id ≠ none)
    (hrun : (execOp a.eval o).run E.P w = .ok (.value (.pointer (some ⟨w.heap.size, 0, none⟩))) { w with heap := w.heap.push (.cells cells et) }) :
    Good E B st a w o (.c (.ptr (d, 0) 0)) [((d, 0), some (.box cs))] := by
  have key := new_good h hd hdst hfresh (ids := []) (by simp) (act := fun _ => .keep) (by simp) (pushed_new w cells et) hrun (obj := .box cs) (nt := .sh (d, 0)) (root := .pointer (some ⟨w.heap.size, 0, none⟩)) (v := .c (.ptr (d, 0) 0))
    (fun ob' _ h2 h3 => ?_) hid (fun ob' h3 => ?_) (by simp [V.ids, V1.ids, C.ids])
  · exact key
  · refine ⟨w.heap.size, cells, et, (0, 0), by simp, by simp [own1], (pushed_new w cells et).new, .inl (Nat.le_refl _), ?_⟩
    have s := (pushed_new w cells et).step (act := fun _ => .keep) (ow := ow) (nt := .sh (d, 0)) (σ := σ) (id := (d, 0)) (v := .pointer (some ⟨w.heap.size, 0, none⟩)) (X := fun i => i = (d, 0)) (by simp) rfl
    refine hr.step s fun id' hid' => ?_
    have hne : id' ≠ (d, 0) := fun e => hid id' hid' (e ▸ hfresh)
    exact .inl ⟨hne, h2 id' (by simp) hne⟩
  · intro cs' hcs'
    rw [h3] at hcs'; cases hcs'
    exact ⟨w.heap.size, by simp, rfl⟩

include hT in
theorem alloc_good {d : Nat} {e : TypeId} (ho : o.op = .alloc e) (hdst : o.dst = some d) (hfresh : st.objs (d, 0) = none) (hz : (E.T.zero e).length = E.T.size e) (hz0 : E.T.zero e ≠ []) :
    Good E B st a w o (.c (.ptr (d, 0) 0)) [((d, 0), some (.box ((E.T.zero e).map .val)))] := by
  have ht : ∃ i, E.T.ti e = some i := by
    cases ht : E.T.ti e with
    | none => simp [Tab.zero, ht] at hz0
    | some i => exact ⟨i, rfl⟩
  obtain ⟨i, ht⟩ := ht
  obtain ⟨info, hi1, hi2, _, z, hz1, hz2⟩ := (hT e i ht).info
  have hzero : z.cells.toList = E.T.zero e := by rw [hz2]; simp [Tab.zero, ht]
  refine newBox_good h hd hdst hfresh (cells := z.cells) (et := e) ?_ (by simp [List.mem_flatMap, C.ids]) ?_
  · rw [← hzero]
    refine ⟨by simp, fun i c hc => ?_⟩
    simp only [List.getElem?_map, Array.getElem?_toList, Option.map_eq_some_iff] at hc
    obtain ⟨x, hx, rfl⟩ := hc
    exact ⟨x, hx, rfl⟩
  · unfold execOp; rw [ho]
    simp only
    refine run_v ?_
    unfold Instr.alloc
    rw [run_bind, run_zeroValue hi1 hz1]
    simp only
    rw [run_bind]
    unfold newVar
    rw [run_newRow]; rfl

theorem box_good {d : Nat} {e : TypeId} {x : Operand} {x1 : V1} (ho : o.op = .box e x) (hdst : o.dst = some d) (hfresh : st.objs (d, 0) = none) (hx1 : st.ev E.T x = .s x1) (hok : x1.cells.all (C.ok st.ob) = true) :
    Good E B st a w o (.c (.ptr (d, 0) 0)) [((d, 0), some (.box x1.cells))] := by
  have hx := h.ev x
  have hid := h.evid x
  rw [hx1] at hx hid
  refine newBox_good h hd hdst hfresh (cells := (a.eval x).cells) (et := e) (RV1.cellsR h hx hok) ?_ ?_
  · intro id hid'
    refine hid id ?_
    cases x1 with
    | one c => simpa [V.ids, V1.ids, V1.cells] using hid'
    | agg cs => exact hid'
  · unfold execOp; rw [ho]
    simp only
    refine run_v ?_
    unfold Instr.box newVar
    rw [run_bind, run_newRow]; rfl

end

end Go.Ax
end

section
namespace Go.Ax
open Go

def useLk : List (Id × (Nat × Nat)) → Id → Option (Nat × Nat)
  | [], _ => none
  | (i, p) :: l, id => bif eqId i id then some p else useLk l id

theorem useLk_mem : ∀ {l : List (Id × (Nat × Nat))} {id : Id} {p : Nat × Nat}, nodupI (l.map (·.1)) = true → (id, p) ∈ l → useLk l id = some p := by
  intro l
  induction l with
  | nil => intro id p _ h; simp at h
  | cons q l ih =>
    obtain ⟨i, p'⟩ := q
    intro id p hn hm
    simp only [List.map_cons, nodupI, Bool.and_eq_true, Bool.not_eq_true'] at hn
    simp only [useLk]
    rcases List.mem_cons.1 hm with he | hm
    · cases he; rw [eqId_self]; rfl
    · have hne : eqId i id = false := by
        cases he : eqId i id with
        | false => rfl
        | true =>
          have := hn.1
          rw [List.any_eq_false] at this
          exact absurd he (this id (List.mem_map.2 ⟨_, hm, rfl⟩))
      rw [hne]; exact ih hn.2 hm

theorem useLk_none : ∀ {l : List (Id × (Nat × Nat))} {id : Id}, useLk l id ≠ none → id ∈ l.map (·.1) := by
  intro l
  induction l with
  | nil => intro id h; exact absurd rfl h
  | cons q l ih =>
    obtain ⟨i, p⟩ := q
    intro id h
    simp only [useLk] at h
    cases he : eqId i id with
    | true => rw [eqId_iff.1 he]; simp
    | false => rw [he] at h; exact List.mem_cons_of_mem _ (ih h)

def actOf (deep : Bool) (new : Id) (use : List (Id × (Nat × Nat))) (id : Id) : TA :=
  match useLk use id with
  | some ij => bif deep then .into new [ij] else .frz
  | none => .keep

theorem actOf_keep {deep : Bool} {new : Id} {use : List (Id × (Nat × Nat))} {id : Id} (h : actOf deep new use id ≠ .keep) : id ∈ use.map (·.1) := by
  unfold actOf at h
  cases hu : useLk use id with
  | none => simp [hu] at h
  | some p => exact useLk_none (by simp [hu])

def Put (w : World) (ow : Own) (deep : Bool) (use : List (Id × (Nat × Nat))) (ij : Nat × Nat) (d : D) (x : Value) : Prop :=
  (∃ y, d = .v y ∧ x = y ∧ y.oneC = true) ∨ (deep = false ∧ Rep w ow .fz d x) ∨ ∃ dp id, (id, ij) ∈ use ∧ (deep = true → dp = true) ∧ Rep w ow (rootTag dp id) d x

theorem Put.mono {w : World} {ow : Own} {deep : Bool} {use use' : List (Id × (Nat × Nat))} {ij : Nat × Nat} {d : D} {x : Value} (h : Put w ow deep use ij d x) (hs : ∀ p, p ∈ use → p ∈ use') : Put w ow deep use' ij d x := by
  rcases h with h | h | ⟨dp, id, h1, h2⟩
  · exact .inl h
  · exact .inr (.inl h)
  · exact .inr (.inr ⟨dp, id, hs _ h1, h2⟩)

def Mapped (w : World) (ow : Own) (act : Id → TA) (t' : Tag) (d : D) (x : Value) : Prop := (∃ y, d = .v y ∧ x = y ∧ y.oneC = true) ∨ ∃ t, (TagMap.of act).f t = some t' ∧ Rep w ow t d x

theorem Put.map {w : World} {ow : Own} {deep : Bool} {use : List (Id × (Nat × Nat))} {i j : Nat} {d : D} {x : Value} (h : Put w ow deep use (i, j) d x) (hn : nodupI (use.map (·.1)) = true) (new : Id) :
    Mapped w ow (actOf deep new use) ((rootTag deep new).ext i j) d x := by
  rcases h with h | ⟨rfl, h⟩ | ⟨dp, id, hm, hdp, h⟩
  · exact .inl h
  · exact .inr ⟨.fz, rfl, h⟩
  · refine .inr ⟨_, ?_, h⟩
    have hu := useLk_mem hn hm
    cases deep with
    | true =>
      rw [hdp rfl]
      simp [TagMap.of, rootTag, Tag.ids, actOf, hu, TA.tag, Tag.ext]
    | false =>
      cases dp <;> simp [TagMap.of, rootTag, Tag.ids, actOf, hu, TA.tag, Tag.ext]

theorem into_spec {E : Pr} {B : Base} {ow : Own} {σ : Val} {st : St} {a : Act} {w : World} (h : Inv E B ow σ st a w) {deep : Bool} {i : Nat} :
    ∀ (cs : List C) (j : Nat) (ds : List D) (xs : List (Id × (Nat × Nat))) (g : Nat → Option Value), intoRows deep st.ob i j cs = some (ds, xs) → (∀ m c, cs[m]? = some c → ∃ x, g m = some x ∧ RC w ow σ st.ob c x) →
      ds.length = cs.length ∧ (∀ p, p ∈ xs → st.ob p.1 ≠ none) ∧ ∀ m d, ds[m]? = some d → ∃ x, g m = some x ∧ Put w ow deep xs (i, j + m) d x := by
  intro cs
  induction cs with
  | nil => intro j ds xs g hi _; simp [intoRows] at hi; obtain ⟨rfl, rfl⟩ := hi; simp
  | cons c cs ih =>
    intro j ds xs g hi hg
    simp only [intoRows] at hi
    cases h1 : intoRow deep st.ob c with
    | none => simp [h1] at hi
    | some q =>
      obtain ⟨d, oid⟩ := q
      cases h2 : intoRows deep st.ob i (j + 1) cs with
      | none => cases oid <;> simp [h1, h2] at hi
      | some q =>
        obtain ⟨ds', xs'⟩ := q
        obtain ⟨x, hx, hr⟩ := hg 0 c rfl
        obtain ⟨i1, i2, i3⟩ := ih (j + 1) ds' xs' (fun m => g (m + 1)) h2 (fun m c' hc' => hg (m + 1) c' hc')
        have hp : ∀ use, (∀ id, oid = some id → (id, (i, j)) ∈ use) → Put w ow deep use (i, j) d x ∧ ∀ id, oid = some id → st.ob id ≠ none := by
          intro use hu
          cases c with
          | val y =>
            simp only [intoRow] at h1
            by_cases hy : y.oneC = true
            · simp only [hy, cond_true, Option.some.injEq, Prod.mk.injEq] at h1; obtain ⟨rfl, rfl⟩ := h1; exact ⟨.inl ⟨y, rfl, hr, hy⟩, by simp⟩
            · simp only [Bool.not_eq_true] at hy; simp only [hy, cond_false] at h1; cases h1
          | dat d' =>
            simp only [intoRow] at h1
            by_cases hy : (deep || !(oneCellD d')) = true
            · simp only [hy, cond_true] at h1; cases h1
            · simp only [Bool.not_eq_true] at hy
              simp only [hy, cond_false, Option.some.injEq, Prod.mk.injEq] at h1
              obtain ⟨rfl, rfl⟩ := h1
              simp only [Bool.or_eq_false_iff] at hy
              exact ⟨.inr (.inl ⟨hy.1, hr⟩), by simp⟩
          | own id =>
            simp only [intoRow] at h1
            split at h1
            · rename_i dp k n row ver ho
              by_cases hy : (dp || !deep) = true
              · simp only [hy, cond_true, Option.some.injEq, Prod.mk.injEq] at h1
                obtain ⟨rfl, rfl⟩ := h1
                refine ⟨.inr (.inr ⟨dp, id, hu id rfl, fun e => by simpa [e] using hy, ?_⟩), fun id' e => by cases e; rw [ho]; simp⟩
                rw [hr _ _ _ _ _ ho]
                exact h.objs id _ ho
              · simp only [Bool.not_eq_true] at hy; simp only [hy, cond_false] at h1; cases h1
            · cases h1
          | _ => simp [intoRow] at h1
        cases oid with
        | none =>
          simp only [h1, h2, Option.some.injEq, Prod.mk.injEq] at hi
          obtain ⟨rfl, rfl⟩ := hi
          refine ⟨by simp [i1], i2, fun m d' hd' => ?_⟩
          cases m with
          | zero => simp only [List.getElem?_cons_zero, Option.some.injEq] at hd'; subst hd'; exact ⟨x, hx, (hp _ (by simp)).1⟩
          | succ m => simp only [List.getElem?_cons_succ] at hd'; rw [show j + (m + 1) = j + 1 + m by omega]; exact i3 m d' hd'
        | some id =>
          simp only [h1, h2, Option.some.injEq, Prod.mk.injEq] at hi
          obtain ⟨rfl, rfl⟩ := hi
          refine ⟨by simp [i1], fun p hp' => ?_, fun m d' hd' => ?_⟩
          · rcases List.mem_cons.1 hp' with rfl | hp'
            · exact (hp [(id, (i, j))] (by simp)).2 id rfl
            · exact i2 p hp'
          · cases m with
            | zero => simp only [List.getElem?_cons_zero, Option.some.injEq] at hd'; subst hd'; exact ⟨x, hx, (hp _ (by simp)).1⟩
            | succ m =>
              simp only [List.getElem?_cons_succ] at hd'
              rw [show j + (m + 1) = j + 1 + m by omega]
              obtain ⟨y, hy, hq⟩ := i3 m d' hd'
              exact ⟨y, hy, hq.mono fun p hp => List.mem_cons_of_mem _ hp⟩

section
variable {E : Pr} {B : Base} {ow : Own} {σ : Val} {st : St} {a : Act} {w : World} {o : Oper} (h : Inv E B ow σ st a w) (hT : TabOk E.P E.T) (hd : st.dstOk o.dst = true)
include h hd

theorem newSl_good {d : Nat} (hdst : o.dst = some d) (hfresh : st.objs (d, 0) = none) {ids : List Id} (hlive : ∀ id, id ∈ ids → st.ob id ≠ none) {act : Id → TA} (hact : ∀ i, act i ≠ .keep → i ∈ ids)
    {w' : World} {cells : Array Value} {et : TypeId} {fr : Nat × Nat} (p : Pushed w w' cells et fr) {n cap k : Nat} {row : Nat → List D} {deep : Bool} (ver : Nat)
    (hrun : (execOp a.eval o).run E.P w = .ok (.value (.slice (some ⟨w.heap.size, 0, none⟩) n cap)) w')
    (hcap : n ≤ cap) (hsz : cap * k ≤ cells.size) (hfr : fr.2 ≤ fr.1 ∨ cells.size ≤ fr.1) (hk : ∀ i, i < n → (row i).length = k)
    (hc : ∀ i j e, i < n → (row i)[j]? = some e → ∃ x, cells[i * k + j]? = some x ∧ Mapped w ow act ((rootTag deep (d, 0)).ext i j) e x) :
    Good E B st a w o (.c (.own (d, 0))) (kills ids ++ [((d, 0), some (.sl deep k n row ver))]) := by
  refine new_good h hd hdst hfresh hlive hact p hrun (obj := .sl deep k n row ver) (nt := rootTag deep (d, 0)) (root := .slice (some ⟨w.heap.size, 0, none⟩) n cap) (v := .c (.own (d, 0)))
    (fun ob' _ _ _ => ?_) (by simp [Obj.ids]) (fun ob' h3 => ?_) (by simp [V.ids, V1.ids, C.ids])
  · simp only [RO, if_true]
    refine .sl _ k n row w.heap.size 0 cap cells et fr (fun i j => cells.getD (i * k + j) undef) p.new (by simp [own1]) hcap ?_ (fun _ => hfr) hk (fun i j e hi hj => ?_) (fun i j e hi hj => ?_)
    · have : (if rootTag deep (d, 0) = .fz then n else cap) ≤ cap := by split <;> omega
      have := Nat.mul_le_mul_right k this
      omega
    · obtain ⟨x, hx, _⟩ := hc i j e hi hj
      rw [Nat.zero_add, hx]
      simp [hx]
    · obtain ⟨x, hx, hm⟩ := hc i j e hi hj
      have : cells.getD (i * k + j) undef = x := by simp [hx]
      rw [this]
      rcases hm with ⟨y, rfl, rfl, hy⟩ | ⟨t, h1, h2⟩
      · exact .v _ _ hy
      · exact p.rep h2 h1
  · intro deep' k' n' row' ver' ho
    simp

end

theorem wrap_i64 {n : Int} (h1 : -9223372036854775808 ≤ n) (h2 : n ≤ 9223372036854775807) : IntKind.i64.wrap n = n := by
  simp only [IntKind.wrap, IntKind.bits, IntKind.signed]
  simp only [Bool.true_and]
  split
  · rename_i h; simp at h; omega
  · rename_i h; simp at h; omega

theorem map_range0 (f : Nat → Value) : (Array.range 0).map f = #[] := by simp

theorem divmod_lt {i j k n m : Nat} (hi : i < n) (hj : j < k) (hm : n * k ≤ m) : i * k + j < m := by
  have : (i + 1) * k ≤ n * k := Nat.mul_le_mul_right k hi
  rw [Nat.add_mul] at this
  omega

theorem mod_at {i j k : Nat} (hj : j < k) : (i * k + j) % k = j := by
  rw [Nat.mul_comm, Nat.mul_add_mod, Nat.mod_eq_of_lt hj]

theorem zeros_at {zero : Array Value} {n k i j : Nat} (hk : zero.size = k) (hi : i < n) (hj : j < k) :
    ((Array.range (n * k)).map (fun m => zero[m % zero.size]!))[i * k + j]? = zero[j]? := by
  have hlt := divmod_lt hi hj (Nat.le_refl (n * k))
  rw [Array.getElem?_map, Array.getElem?_range, if_pos hlt]
  simp only [Option.map_some, hk, mod_at hj]
  rw [getElem!_pos zero j (by omega)]
  simp [show j < zero.size by omega]

section
variable {E : Pr} {B : Base} {ow : Own} {σ : Val} {st : St} {a : Act} {w : World} {o : Oper} (h : Inv E B ow σ st a w) (hT : TabOk E.P E.T) (hd : st.dstOk o.dst = true)
  {side : Prop} {v : V} {upd : List (Id × Option Obj)}
include h hd hT

omit h hd in
theorem zero_run {e : Nat} (hp : 0 < E.T.size e) (hz : (E.T.zero e).length = E.T.size e) :
    ∃ z : Value, (∀ w, (zeroValue e).run E.P w = .ok z w) ∧ (∀ w, (sizeOf e).run E.P w = .ok (E.T.size e) w) ∧ z.cells.toList = E.T.zero e ∧ z.cells.size = E.T.size e ∧ ∃ info, E.P.info? e = some info ∧ info.bytes = E.T.bytes e := by
  obtain ⟨i, ht, hs⟩ := size_pos hp
  obtain ⟨info, hi1, hi2, hi3, z, hz1, hz2⟩ := (hT e i ht).info
  have hzero : z.cells.toList = E.T.zero e := by rw [hz2]; simp [Tab.zero, ht]
  refine ⟨z, fun w => run_zeroValue hi1 hz1 w, fun w => by rw [run_sizeOf' hT ht, hs], hzero, ?_, info, hi1, by rw [hi3]; simp [Tab.bytes, ht]⟩
  rw [← Array.length_toList, hzero, hz]

omit h hd hT in
theorem zrow_at {z : Value} {T : Tab} {e : Nat} (hz : z.cells.toList = T.zero e) {j : Nat} {d : D} (hj : (zrow T e)[j]? = some d) (ha : (T.zero e).all Value.oneC = true) : ∃ y, z.cells[j]? = some y ∧ d = .v y ∧ y.oneC = true := by
  unfold zrow at hj
  rw [← hz] at hj
  simp only [List.getElem?_map, Array.getElem?_toList, Option.map_eq_some_iff] at hj
  obtain ⟨y, hy, rfl⟩ := hj
  refine ⟨y, hy, rfl, ?_⟩
  rw [← hz, List.all_eq_true] at ha
  exact ha y (by rw [Array.mem_toList_iff]; exact Array.mem_of_getElem? hy)

omit h hd hT in
theorem intV_inv {x : V} {n : Int} (hx : intV x = some n) : x = .int n := by
  unfold intV at hx
  split at hx
  · cases hx; rfl
  · cases hx

theorem makeSlice_good {dp : Nat → Bool} {t : Nat} {l c : Operand} (ho : o.op = .makeSlice t l c) (he : makeSlice E.T dp o.dst t (st.ev E.T l) (st.ev E.T c) = .det side v upd) (hs : side)
    (hnew : ∀ d, o.dst = some d → st.objs (d, 0) = none) : Good E B st a w o v upd := by
  unfold makeSlice at he
  split at he
  · rename_i d e n m hdst hk hl hc
    by_cases hb : (decide (0 < E.T.size e) && decide (E.T.bytes e < 1000) && decide (0 < E.T.bytes e) && ((E.T.zero e).length == E.T.size e) && (E.T.zero e).all Value.oneC) = true
    · simp only [hb, cond_true, Ev.det.injEq] at he
      obtain ⟨rfl, rfl, rfl⟩ := he
      simp only [Bool.and_eq_true, beq_iff_eq, decide_eq_true_eq] at hb
      obtain ⟨⟨⟨⟨hb1, hb2⟩, hb4⟩, hb3⟩, hb5⟩ := hb
      obtain ⟨rfl, hs2, hs3⟩ := hs
      have hxl := h.ev l
      have hxc := h.ev c
      rw [intV_inv hl] at hxl
      rw [intV_inv hc] at hxc
      have hxl' : a.eval l = .int .i64 n := hxl
      have hxc' : a.eval c = .int .i64 n := hxc
      obtain ⟨_, td, ht, _, hu, hko⟩ := kind_und hT hk (by simp)
      cases td <;> simp [kindOk] at hko
      subst hko
      obtain ⟨z, z1, z2, z3, z4, info, z5, z6⟩ := zero_run hT hb1 hb3
      have hnb : n.toNat ≤ n.toNat * E.T.bytes e := Nat.le_mul_of_pos_right _ hb4
      have hw : IntKind.i64.wrap n = n := wrap_i64 (by omega) (by unfold small at hs3; omega)
      refine newSl_good h hd hdst (hnew d hdst) (ids := []) (by simp) (act := fun _ => .keep) (by simp) (pushed_new w ((Array.range (n.toNat * E.T.size e)).map (fun m => z.cells[m % z.cells.size]!)) e) (cap := n.toNat) 0 ?_ (Nat.le_refl _) (by simp) (.inl (Nat.le_refl _)) (fun _ _ => by simp [zrow, hb3]) (fun i j y hi hj => ?_)
      · unfold execOp; rw [ho]; simp only [hxl', hxc']
        refine run_v ?_
        unfold Instr.makeSlice
        rw [run_bind, run_underlying hu]
        simp only
        unfold asInt asIntOf
        rw [run_bind, run_bind, run_pure]
        simp only
        rw [run_pure]
        simp only
        rw [run_bind, run_bind, run_pure]
        simp only
        rw [run_pure]
        simp only
        rw [run_bind, run_typeInfo z5]
        simp only [hw, z6]
        have hbn : ((E.T.bytes e : Int) * n) ≤ small := by
          have : ((E.T.bytes e : Int) * n) = ((n.toNat * E.T.bytes e : Nat) : Int) := by
            rw [Int.natCast_mul, Int.toNat_of_nonneg hs2, Int.mul_comm]
          rw [this]; exact_mod_cast hs3
        have htl : (decide (n < 0) || decide ((E.T.bytes e : Int) * n > 2 ^ 48)) = false := by
          have : (small : Int) < 2 ^ 48 := by unfold small; decide
          simp; omega
        rw [htl]
        simp only [Bool.false_or, Bool.or_false]
        rw [if_neg (by simp; omega)]
        simp only [pure_bind]
        rw [run_bind]
        unfold askRoom
        rw [if_neg (by unfold roomBytes; unfold small at hs3; omega), run_pure]
        simp only
        rw [run_bind, z2]
        simp only
        by_cases hn0 : n.toNat * E.T.size e = 0
        · rw [if_pos hn0, run_bind, run_newRow, hn0]
          simp only [map_range0]
          rfl
        · rw [if_neg hn0, run_bind, z1]
          simp only
          rw [run_bind, run_newRow]; rfl
      · obtain ⟨y', h1, rfl, h5⟩ := zrow_at z3 hj (by assumption)
        have hjk : j < E.T.size e := by rw [← z4]; exact (Array.getElem?_eq_some_iff.1 h1).1
        exact ⟨y', by rw [zeros_at z4 hi hjk]; exact h1, .inl ⟨y', rfl, rfl, h5⟩⟩
    · simp only [Bool.not_eq_true] at hb; simp only [hb, cond_false] at he; cases he
  · cases he

theorem rows_good {deep : Bool} {e len : Nat} (place : Nat → Option (Nat × Nat)) (hpl : ∀ i, place i = some (i * E.T.size e, E.T.size e)) :
    ∀ (ps : List (Nat × Operand)) (row : Nat → List D) (use : List (Id × (Nat × Nat))) (cells : Array Value) (row' : Nat → List D) (use' : List (Id × (Nat × Nat))),
      rowsOf E.T deep e len st.ob (ps.map fun p => (p.1, st.ev E.T p.2)) row use = some (row', use') → cells.size = len * E.T.size e →
      (∀ i, i < len → (row i).length = E.T.size e) → (∀ i j y, i < len → (row i)[j]? = some y → ∃ x, cells[i * E.T.size e + j]? = some x ∧ Put w ow deep use (i, j) y x) → (∀ p, p ∈ use → st.ob p.1 ≠ none) →
      ∃ cells', Instr.fill place cells (ps.map fun p => (p.1, a.eval p.2)) = some cells' ∧ cells'.size = len * E.T.size e ∧ (∀ i, i < len → (row' i).length = E.T.size e) ∧
        (∀ i j y, i < len → (row' i)[j]? = some y → ∃ x, cells'[i * E.T.size e + j]? = some x ∧ Put w ow deep use' (i, j) y x) ∧ (∀ p, p ∈ use' → st.ob p.1 ≠ none) := by
  have _ := hT; have _ := hd
  intro ps
  induction ps with
  | nil =>
    intro row use cells row' use' hr h1 h2 h3 h4
    simp only [List.map_nil, rowsOf, Option.some.injEq, Prod.mk.injEq] at hr
    obtain ⟨rfl, rfl⟩ := hr
    exact ⟨cells, rfl, h1, h2, h3, h4⟩
  | cons p ps ih =>
    intro row use cells row' use' hr h1 h2 h3 h4
    obtain ⟨i, x⟩ := p
    simp only [List.map_cons] at hr
    cases hx : st.ev E.T x with
    | tup xs => rw [hx] at hr; simp [rowsOf] at hr
    | s x1 =>
      rw [hx] at hr
      simp only [rowsOf] at hr
      cases hi : intoRows deep st.ob i 0 x1.cells with
      | none => simp [hi] at hr
      | some q =>
        obtain ⟨ds, xs⟩ := q
        simp only [hi] at hr
        by_cases hb : ((x1.cells.length == E.T.size e) && decide (i < len) && x1.cells.all (C.ok st.ob)) = true
        · simp only [hb, cond_true] at hr
          simp only [Bool.and_eq_true, beq_iff_eq, decide_eq_true_eq] at hb
          obtain ⟨⟨b1, b2⟩, b3⟩ := hb
          have hxe := h.ev x
          rw [hx] at hxe
          have hc := RV1.cellsR h hxe b3
          obtain ⟨s1, s2, s3⟩ := into_spec h x1.cells 0 ds xs (fun m => (a.eval x).cells[m]?) hi (fun m c hm => hc.2 m c hm)
          have hsz : (a.eval x).cells.size = E.T.size e := by rw [hc.1, b1]
          have hle : i * E.T.size e + (a.eval x).cells.size ≤ cells.size := by
            rw [h1, hsz]
            have := Nat.mul_le_mul_right (E.T.size e) (show i + 1 ≤ len from b2)
            rw [Nat.add_mul] at this; omega
          have hone := fill_one (a.eval x) (i * E.T.size e) cells hle
          obtain ⟨cells', g1, g2⟩ := ih (setRow row i ds) (use ++ xs) _ row' use' hr (by
              rw [← Array.length_toList, hone, length_setAt (by simpa using hle)]; simpa using h1)
            (fun m hm => by
              unfold setRow
              by_cases e : m = i
              · subst e; simp [s1, b1]
              · have hne : (m == i) = false := by simpa using e
                simp only [hne, cond_false]; exact h2 m hm)
            (fun m j y hm hj => by
              unfold setRow at hj
              rw [← Array.getElem?_toList, hone]
              have hlen : ((a.eval x).cells.toList).length = E.T.size e := by simpa using hsz
              have hcl : cells.toList.length = len * E.T.size e := by simpa using h1
              by_cases e' : m = i
              · subst e'
                simp only [BEq.rfl, cond_true] at hj
                obtain ⟨y', hy', hp⟩ := s3 j y hj
                have hjk : j < E.T.size e := by rw [← b1, ← s1]; exact (List.getElem?_eq_some_iff.1 hj).1
                refine ⟨y', ?_, by simpa using hp.mono fun p hp => List.mem_append_right _ hp⟩
                unfold Ax.setAt
                rw [List.append_assoc, List.getElem?_append_right (by simp; omega), List.getElem?_append_left (by simp; omega)]
                simp only [List.length_take]
                rw [show m * E.T.size e + j - min (m * E.T.size e) cells.toList.length = j by omega]
                simpa using hy'
              · have hne : (m == i) = false := by simpa using e'
                simp only [hne, cond_false] at hj
                obtain ⟨y', hy', hp⟩ := h3 m j y hm hj
                have hjk : j < E.T.size e := by rw [← h2 m hm]; exact (List.getElem?_eq_some_iff.1 hj).1
                refine ⟨y', ?_, hp.mono fun p hp => List.mem_append_left _ hp⟩
                rw [← Array.getElem?_toList] at hy'
                unfold Ax.setAt
                rcases Nat.lt_or_ge m i with hlt | hge
                · have := Nat.mul_le_mul_right (E.T.size e) (show m + 1 ≤ i from hlt)
                  rw [Nat.add_mul] at this
                  rw [List.append_assoc, List.getElem?_append_left (by simp; omega), List.getElem?_take, if_pos (by omega)]
                  exact hy'
                · have := Nat.mul_le_mul_right (E.T.size e) (show i + 1 ≤ m by omega)
                  rw [Nat.add_mul] at this
                  rw [List.getElem?_append_right (by simp; omega), List.getElem?_drop]
                  simp only [List.length_append, List.length_take]
                  rw [show i * E.T.size e + (a.eval x).cells.toList.length + (m * E.T.size e + j - (min (i * E.T.size e) cells.toList.length + (a.eval x).cells.toList.length)) = m * E.T.size e + j by omega]
                  exact hy')
            (fun p hp => by
              rcases List.mem_append.1 hp with hp | hp
              · exact h4 p hp
              · exact s2 p hp)
          refine ⟨cells', ?_, g2⟩
          simp only [List.map_cons, Instr.fill, hpl]
          rw [if_neg (by simp; omega)]
          exact g1
        · simp only [Bool.not_eq_true] at hb; simp only [hb, cond_false] at hr; cases hr

theorem buildSlice_good {dp : Nat → Bool} {t n : Nat} {ps : Array (Nat × Operand)} (ho : o.op = .buildSlice t n ps) (he : buildSlice E.T dp o.dst t n st.ob (ps.toList.map fun p => (p.1, st.ev E.T p.2)) = .det side v upd)
    (hnew : ∀ d, o.dst = some d → st.objs (d, 0) = none) : Good E B st a w o v upd := by
  unfold buildSlice at he
  split at he
  · rename_i d e hdst hk
    generalize hdeep : (E.T.flat e || dp e) = deep at he
    cases hr : rowsOf E.T deep e n st.ob (ps.toList.map fun p => (p.1, st.ev E.T p.2)) (fun _ => zrow E.T e) [] with
    | none => simp [hr] at he
    | some q =>
      obtain ⟨row, use⟩ := q
      simp only [hr] at he
      by_cases hb : (nodupI (use.map (·.1)) && decide (0 < E.T.size e) && decide (n * E.T.size e ≤ 10000) && ((E.T.zero e).length == E.T.size e) && (E.T.zero e).all Value.oneC) = true
      · simp only [hb, cond_true, Ev.det.injEq] at he
        obtain ⟨_, rfl, rfl⟩ := he
        simp only [Bool.and_eq_true, beq_iff_eq, decide_eq_true_eq] at hb
        obtain ⟨⟨⟨⟨b1, b2⟩, b3⟩, b4⟩, b5⟩ := hb
        obtain ⟨_, td, ht, _, hu, hko⟩ := kind_und hT hk (by simp)
        cases td <;> simp [kindOk] at hko
        subst hko
        obtain ⟨z, z1, z2, z3, z4, info, z5, z6⟩ := zero_run hT b2 b4
        obtain ⟨cells', g1, g2, g3, g4, g5⟩ := rows_good h hT hd (fun i => some (i * E.T.size e, E.T.size e)) (fun _ => rfl) ps.toList (fun _ => zrow E.T e) [] ((Array.range (n * E.T.size e)).map (fun m => z.cells[m % z.cells.size]!)) row use hr
          (by simp) (fun _ _ => by simp [zrow, b4]) (fun i j y hi hj => by
            obtain ⟨y', h1, rfl, h5⟩ := zrow_at z3 hj (by assumption)
            have hjk : j < E.T.size e := by rw [← z4]; exact (Array.getElem?_eq_some_iff.1 h1).1
            exact ⟨y', by rw [zeros_at z4 hi hjk]; exact h1, .inl ⟨y', rfl, rfl, h5⟩⟩) (by simp)
        refine newSl_good h hd hdst (hnew d hdst) (ids := use.map (·.1)) (fun id hid => ?_) (act := actOf deep (d, 0) use) (fun i hi => actOf_keep hi) (pushed_new w cells' e) (cap := n) 0 ?_ (Nat.le_refl _) (by omega) (.inl (Nat.le_refl _)) g3 (fun i j y hi hj => ?_)
        · obtain ⟨p, hp, rfl⟩ := List.mem_map.1 hid; exact g5 p hp
        · unfold execOp; rw [ho]
          simp only
          refine run_v ?_
          unfold Instr.buildSlice
          rw [run_bind, run_underlying hu]
          simp only
          rw [run_bind, z2]
          simp only
          rw [if_neg (by omega)]
          by_cases hn0 : n * E.T.size e = 0
          · rw [if_pos hn0, run_bind, run_pure]
            simp only
            have g1' := g1
            simp only [hn0, map_range0] at g1' ⊢
            simp only [Array.toList_map]
            rw [g1']
            simp only
            rw [run_bind, run_newRow]; rfl
          · rw [if_neg hn0, run_bind, z1]
            simp only
            rw [run_bind, run_pure]
            simp only [Array.toList_map]
            rw [g1]
            simp only
            rw [run_bind, run_newRow]; rfl
        · obtain ⟨x, hx, hp⟩ := g4 i j y hi hj
          exact ⟨x, hx, hp.map b1 _⟩
      · simp only [Bool.not_eq_true] at hb; simp only [hb, cond_false] at he; cases he
  · cases he

end

end Go.Ax
end

section
namespace Go.Ax
open Go

theorem run_firstCells {P : Program} {w : World} {ow : Own} {t : Tag} {k n : Nat} {row : Nat → List D} {v : Value} (hr : Rep w ow t (.sl k n row) v) :
    ∃ cells : Array Value, (∀ w1 : World, w1.heap = w.heap → (Builtin.firstCells k n v).run P w1 = .ok cells w1) ∧ cells.size = n * k ∧
      ∀ i j d, i < n → (row i)[j]? = some d → ∃ x, cells[i * k + j]? = some x ∧ Rep w ow (t.ext i j) d x := by
  rcases hr.inv with ⟨rfl, rfl | ⟨_, A, cap, rfl⟩⟩ | ⟨b, off, cap, cells, et, fr, cv, rfl, sb⟩
  · exact ⟨#[], fun _ _ => rfl, by simp, fun i j d hi => absurd hi (Nat.not_lt_zero i)⟩
  · refine ⟨#[], fun w1 _ => ?_, by simp, fun i j d hi => absurd hi (Nat.not_lt_zero i)⟩
    cases A with
    | none => rfl
    | some A => unfold Builtin.firstCells loadCells; simp only [Nat.zero_mul]; rfl
  · have hle : off + n * k ≤ cells.size := by
      have := sb.hsz
      have hc := Nat.mul_le_mul_right k sb.hcap
      split at this <;> omega
    refine ⟨cells.extract off (off + n * k), fun w1 hw => ?_, by simp; omega, fun i j d hi hj => ?_⟩
    · unfold Builtin.firstCells loadCells
      have := run_loadCellsFrom (P := P) (w := w1) (by rw [hw]; exact sb.hb) (n * k) 0 #[] (by omega)
      simpa using this
    · refine ⟨cv i j, ?_, sb.hr i j d hi hj⟩
      have h1 := sb.hc i j d hi hj
      have hjk : j < k := by rw [← sb.hk i hi]; exact (List.getElem?_eq_some_iff.1 hj).1
      have hlt := divmod_lt hi hjk (Nat.le_refl (n * k))
      rw [Array.getElem?_extract, if_pos (by omega)]
      rw [← h1]; congr 1; omega

theorem growBy_le (need : Nat) : ∀ (r c : Nat), c ≤ need + need / 4 + 192 → Builtin.growBy need r c ≤ need + need / 4 + 192 := by
  intro r
  induction r with
  | zero => intro c h; exact h
  | succ r ih =>
    intro c h
    unfold Builtin.growBy
    split
    · exact h
    · refine ih _ ?_; omega

theorem nextslicecap_le {need cap : Nat} (h : cap < need) : Builtin.nextslicecap need cap ≤ 2 * need + 512 := by
  unfold Builtin.nextslicecap
  split
  · omega
  · split
    · omega
    · have := growBy_le need 4 cap (by omega); omega

structure AppB (E : Pr) (w : World) (ow : Own) (σ : Val) (st : St) (ids : List Id) (deep : Bool) (k n : Nat) (row : Nat → List D) (v : Value) : Prop where
  len : ids.length ≤ 1
  live : ∀ id, id ∈ ids → st.ob id ≠ none
  cases : (ids = [] ∧ n = 0 ∧ v = .slice none 0 0) ∨ ∃ id ver, ids = [id] ∧ st.ob id = some (.sl deep k n row ver) ∧ v = σ id ∧ Rep w ow (rootTag deep id) (.sl k n row) v

structure AppM (E : Pr) (w : World) (ow : Own) (σ : Val) (st : St) (ids : List Id) (deep : Bool) (k n : Nat) (row : Nat → List D) (v : Value) : Prop where
  live : ∀ id, id ∈ ids → st.ob id ≠ none
  klen : ∀ i, i < n → (row i).length = k
  cases : (ids = [] ∧ (deep = true → flatRows n row) ∧ Rep w ow .fz (.sl k n row) v) ∨ ∃ id dp, ids = [id] ∧ (deep = true → dp = true) ∧ Rep w ow (rootTag dp id) (.sl k n row) v

theorem rep_klen {w : World} {ow : Own} {t : Tag} {k n : Nat} {row : Nat → List D} {v : Value} (h : Rep w ow t (.sl k n row) v) : ∀ i, i < n → (row i).length = k := by
  rcases h.inv with ⟨rfl, _⟩ | ⟨b, off, cap, cells, et, fr, cv, _, sb⟩
  · intro i hi; omega
  · exact sb.hk

def actApp (new : Id) (deep : Bool) (n : Nat) (k1 k2 : List Id) (id : Id) : TA :=
  bif k1.any (fun i => eqId i id) then .into new [] else bif k2.any (fun i => eqId i id) then (bif deep then .shift new n else .frz) else .keep

theorem actApp_keep {new : Id} {deep : Bool} {n : Nat} {k1 k2 : List Id} {id : Id} (h : actApp new deep n k1 k2 id ≠ .keep) : id ∈ k1 ++ k2 := by
  unfold actApp at h
  cases h1 : k1.any (fun i => eqId i id) with
  | true => rw [List.any_eq_true] at h1; obtain ⟨i, hi, he⟩ := h1; rw [eqId_iff.1 he] at hi; exact List.mem_append_left _ hi
  | false =>
    cases h2 : k2.any (fun i => eqId i id) with
    | true => rw [List.any_eq_true] at h2; obtain ⟨i, hi, he⟩ := h2; rw [eqId_iff.1 he] at hi; exact List.mem_append_right _ hi
    | false => rw [h1, h2] at h; exact absurd rfl h

theorem nodupI_ne {l m : List Id} {a b : Id} (h : nodupI (l ++ m) = true) (ha : a ∈ l) (hb : b ∈ m) : eqId a b = false := by
  induction l with
  | nil => simp at ha
  | cons c l ih =>
    simp only [List.cons_append, nodupI, Bool.and_eq_true, Bool.not_eq_true'] at h
    rcases List.mem_cons.1 ha with rfl | ha
    · rw [List.any_eq_false] at h
      have := h.1 b (List.mem_append_right _ hb)
      simpa using this
    · exact ih h.2 ha

theorem eqId_symm (a b : Id) : eqId a b = eqId b a := by
  cases h : eqId b a with
  | true => rw [eqId_iff.1 h, eqId_self]
  | false =>
    cases h' : eqId a b with
    | true => rw [eqId_iff.1 h', eqId_self] at h; cases h
    | false => rfl

section
variable {E : Pr} {w : World} {ow : Own} {σ : Val} {st : St} {k1 k2 : List Id} {deep : Bool} {k n n' : Nat} {row row' : Nat → List D} {v v' : Value} {new : Id}

theorem base_mapped (hb : AppB E w ow σ st k1 deep k n row v) (hn : nodupI (k1 ++ k2) = true) {i j : Nat} {d : D} {x : Value} (hi : i < n) (id : Id) (hk : k1 = [id]) (hr : Rep w ow ((rootTag deep id).ext i j) d x) :
    Mapped w ow (actApp new deep n k1 k2) ((rootTag deep new).ext i j) d x := by
  refine .inr ⟨_, ?_, hr⟩
  have h1 : k1.any (fun i => eqId i id) = true := by rw [hk]; simp [eqId_self]
  cases deep with
  | true => simp [TagMap.of, rootTag, Tag.ext, Tag.ids, actApp, h1, TA.tag]
  | false => simp [TagMap.of, rootTag, Tag.ext, Tag.ids]

theorem more_mapped (hm : AppM E w ow σ st k2 deep k n' row' v') (hn : nodupI (k1 ++ k2) = true) : ∃ t, Rep w ow t (.sl k n' row') v' ∧ ∀ i j d x, i < n' → (row' i)[j]? = some d →
    Rep w ow (t.ext i j) d x → Mapped w ow (actApp new deep n k1 k2) ((rootTag deep new).ext (n + i) j) d x := by
  rcases hm.cases with ⟨_, hflat, hrep⟩ | ⟨id, dp, hk, hdp, hrep⟩
  · refine ⟨.fz, hrep, fun i j d x hi hj hr => ?_⟩
    cases deep with
    | true =>
      obtain ⟨y, rfl⟩ := hflat rfl i hi d (List.mem_of_getElem? hj)
      exact .inl ⟨y, rfl, hr.v_inv, hr.v_one⟩
    | false => exact .inr ⟨.fz, rfl, hr⟩
  · refine ⟨_, hrep, fun i j d x hi hj hr => ?_⟩
    have h1 : k1.any (fun i => eqId i id) = false := by
      rw [List.any_eq_false]
      intro i hi
      simp [nodupI_ne hn hi (show id ∈ k2 by rw [hk]; simp)]
    have h2 : k2.any (fun i => eqId i id) = true := by rw [hk]; simp [eqId_self]
    refine .inr ⟨_, ?_, hr⟩
    cases deep with
    | true =>
      rw [hdp rfl]
      simp [TagMap.of, rootTag, Tag.ext, Tag.ids, actApp, h1, h2, TA.tag, shiftLast]
    | false =>
      cases dp <;> simp [TagMap.of, rootTag, Tag.ext, Tag.ids, actApp, h1, h2, TA.tag]

end

theorem cells_one {w : World} {ow : Own} {t : Tag} {k n : Nat} {row : Nat → List D} {cells : Array Value} (hk : ∀ i, i < n → (row i).length = k) (hs : cells.size = n * k)
    (h : ∀ i j d, i < n → (row i)[j]? = some d → ∃ x, cells[i * k + j]? = some x ∧ Rep w ow (t.ext i j) d x) : cells.toList.all Value.oneC = true := by
  rw [List.all_eq_true]
  intro x hx
  obtain ⟨m, hm⟩ := List.getElem?_of_mem hx
  rw [Array.getElem?_toList] at hm
  have hlt := (Array.getElem?_eq_some_iff.1 hm).1
  rw [hs] at hlt
  have hk0 : 0 < k := Nat.pos_of_ne_zero (fun e => by subst e; simp at hlt)
  have hi : m / k < n := by rw [Nat.div_lt_iff_lt_mul hk0]; exact hlt
  have hj := Nat.mod_lt m hk0
  obtain ⟨y, hy, hr⟩ := h (m / k) (m % k) ((row (m / k))[m % k]'(by rw [hk _ hi]; exact hj)) hi (by simp)
  have : m / k * k + m % k = m := Nat.div_add_mod' m k
  rw [this, hm] at hy
  cases hy
  exact hr.one

theorem catRow_lt {n m : Nat} {r r' : Nat → List D} (h : m < n) : catRow n r r' m = r m := by simp [catRow, h]
theorem catRow_ge {n m : Nat} {r r' : Nat → List D} (h : n ≤ m) : catRow n r r' m = r' (m - n) := by simp [catRow, show ¬ m < n by omega]

section
variable {E : Pr} {B : Base} {ow : Own} {σ : Val} {st : St} {a : Act} {w : World} {o : Oper} (h : Inv E B ow σ st a w) (hT : TabOk E.P E.T) (hd : st.dstOk o.dst = true)
include h hd

theorem append_core {d : Nat} (hdst : o.dst = some d) (hfresh : st.objs (d, 0) = none) {k1 k2 : List Id} {deep : Bool} {k n n' : Nat} {row row' : Nat → List D} {v v' : Value} {e : TypeId} {zero : Array Value} {bytes : Nat}
    (hb : AppB E w ow σ st k1 deep k n row v) (hm : AppM E w ow σ st k2 deep k n' row' v') (hn : nodupI (k1 ++ k2) = true) (hk : 0 < k) (hz : zero.size = k) (hby : bytes < 1000) (hby0 : 0 < bytes)
    (hside : (n + n') * bytes ≤ small) {len' : Nat} {A' : Option Addr} {cap' : Nat} (hv' : v' = .slice A' n' cap')
    (hrun : ∀ A cap, v = .slice A n cap → (execOp a.eval o).run E.P w = (do
        if n + n' ≤ cap then
          let new ← Builtin.firstCells k n' v'
          if let some a := A then storeCells (a.add (n * k)) new.toList
          Pure.pure (Next.value (.slice A (n + n') cap))
        else
          let newCap ← choose (.appendCap (n + n') cap e)
          askRoom (newCap * bytes)
          let old ← Builtin.firstCells k n (.slice A n cap)
          let new ← Builtin.firstCells k n' v'
          let rest := Builtin.zeroCells zero (newCap - (n + n'))
          Pure.pure (Next.value (.slice (some (← newRow e (old ++ new ++ rest))) (n + n') newCap)) : Sem Next).run E.P w) :
    Good E B st a w o (.c (.own (d, 0))) (kills (k1 ++ k2) ++ [((d, 0), some (.sl deep k (n + n') (catRow n row row') 0))]) := by
  have hlive : ∀ id, id ∈ k1 ++ k2 → st.ob id ≠ none := fun id hid => by
    rcases List.mem_append.1 hid with hid | hid
    · exact hb.live id hid
    · exact hm.live id hid
  have hkl : ∀ i, i < n → (row i).length = k := by
    rcases hb.cases with ⟨_, rfl, _⟩ | ⟨id, ver, _, _, _, hr⟩
    · intro i hi; omega
    · exact rep_klen hr
  have hkl' : ∀ i, i < n + n' → (catRow n row row' i).length = k := fun i hi => by
    by_cases hin : i < n
    · rw [catRow_lt hin]; exact hkl i hin
    · rw [catRow_ge (by omega)]; exact hm.klen _ (by omega)
  obtain ⟨t2, hr2, hmap2⟩ := more_mapped (new := (d, 0)) (n := n) hm hn
  obtain ⟨new, hnew1, hnew2, hnew3⟩ := run_firstCells (P := E.P) hr2
  obtain ⟨A, cap, hv, hcap⟩ : ∃ A cap, v = .slice A n cap ∧ n ≤ cap := by
    rcases hb.cases with ⟨_, rfl, rfl⟩ | ⟨id, ver, _, _, _, hr⟩
    · exact ⟨_, _, rfl, Nat.le_refl _⟩
    · rcases hr.inv with ⟨rfl, rfl | ⟨hf, A, cap, rfl⟩⟩ | ⟨b, off, cap, cells, et, fr, cv, rfl, sb⟩
      · exact ⟨_, _, rfl, Nat.le_refl _⟩
      · exact ⟨_, _, rfl, Nat.zero_le _⟩
      · exact ⟨_, _, rfl, sb.hcap⟩
  have hR := hrun A cap hv
  have hrt : rootTag deep (d, 0) ≠ .fz := by cases deep <;> simp [rootTag]
  by_cases hroom : n + n' ≤ cap
  · rw [if_pos hroom, run_bind, hnew1 w rfl] at hR
    simp only at hR
    have same : ∀ {t : Tag} {x : Value} {w' : World}, n + n' = 0 → (execOp a.eval o).run E.P w = .ok (.value (.slice none 0 0)) w → Good E B st a w o (.c (.own (d, 0))) (kills (k1 ++ k2) ++ [((d, 0), some (.sl deep k (n + n') (catRow n row row') 0))]) := by
      intro _ _ _ h0 hrun0
      have hstep : Step (fun i => i ∈ k1 ++ k2 ∨ i = (d, 0)) w ow σ w ow (fun i => if i = (d, 0) then Value.slice none 0 0 else σ i) :=
        ⟨fun b t o h1 _ h2 => ⟨h2, h1⟩, fun i hi => by have : i ≠ (d, 0) := fun e => hi (.inr e); simp [this]⟩
      refine mk_good h hd hdst hfresh hlive (root := .slice none 0 0) hrun0 hstep h.frame (fun ob' _ _ _ => ?_) (by simp [Obj.ids]) (fun ob' h3 => ?_) (by simp [V.ids, V1.ids, C.ids])
      · simp only [RO, if_true]; rw [h0]; exact .nil _ _ _
      · intro deep' k' n' row' ver' ho; simp
    rcases hb.cases with ⟨hk1, rfl, he⟩ | ⟨id, ver, hk1, hob, _, hr⟩
    · rw [hv] at he; cases he
      have hn0 : n' = 0 := by omega
      subst hn0
      exact same (t := .fz) (x := .nilFunc) (w' := w) rfl (by simpa using hR)
    · rcases hr.inv with ⟨rfl, h1 | ⟨hf, _⟩⟩ | ⟨b, off, cap1, cells, et, fr, cv, h1, sb⟩
      · rw [hv] at h1; cases h1
        have hn0 : n' = 0 := by omega
        subst hn0
        exact same (t := .fz) (x := .nilFunc) (w' := w) rfl (by simpa using hR)
      · cases deep <;> simp [rootTag] at hf
      · rw [hv] at h1; cases h1
        simp only [add_none] at hR
        have hrt1 : rootTag deep id ≠ .fz := by cases deep <;> simp [rootTag]
        have hsz := sb.hsz
        rw [if_neg hrt1] at hsz
        have hcapk := Nat.mul_le_mul_right k hroom
        rw [Nat.add_mul] at hcapk
        have hall := cells_one hm.klen hnew2 hnew3
        obtain ⟨w', g1, g2, g3, g4, g5, g6, g7⟩ := run_storeCells (P := E.P) new.toList 0 (off + n * k) w cells sb.hb (sb.hfr hrt1) (by simp [hnew2]; omega) hall
        rw [run_bind, g1] at hR
        simp only at hR
        have hR' : (execOp a.eval o).run E.P w = .ok (.value (.slice (some ⟨b, off, none⟩) (n + n') cap)) w' := hR
        have hbt : ow b = some (rootTag deep id) := sb.ho
        let ow' : Own := (TagMap.of (actApp (d, 0) deep n k1 k2)).on ow
        have hne : ∀ b1 t, ow b1 = some t → t ≠ rootTag deep id → b1 ≠ b := fun b1 t h1 h2 e => by subst e; rw [hbt] at h1; cases h1; exact h2 rfl
        have hstep : Step (fun i => i ∈ k1 ++ k2 ∨ i = (d, 0)) w ow σ w' ow' (fun i => if i = (d, 0) then Value.slice (some ⟨b, off, none⟩) (n + n') cap else σ i) := by
          refine ⟨fun b1 t o1 h1 h2 h3 => ⟨?_, ?_⟩, fun i hi => by have : i ≠ (d, 0) := fun e => hi (.inr e); simp [this]⟩
          · rw [g2 b1 (hne b1 t h1 fun e => h2 id (by rw [e, rootTag_ids]) (.inl (by rw [hk1]; simp)))]; exact h3
          · simp only [ow', TagMap.on, h1, Option.bind_some]
            exact TagMap.of_keep fun i hi hne' => h2 i hi (.inl (actApp_keep hne'))
        have hf : Frame' B.w B.ow w' ow' := by
          refine ⟨by rw [g5, h.frame.os], by rw [g6, h.frame.tape], by rw [g7, h.frame.output], by rw [g4]; exact h.frame.size, fun b1 hb1 hb2 => ?_⟩
          obtain ⟨f1, f2⟩ := h.frame.old b1 hb1 hb2
          have hb1ne : b1 ≠ b := fun e => by
            subst e
            rw [hbt] at f2
            rcases hb2 with hb2 | hb2 <;> rw [hb2] at f2
            · cases f2
            · exact hrt1 (Option.some.inj f2)
          exact ⟨by rw [g2 b1 hb1ne, f1], by show (TagMap.of _).on ow b1 = _; rw [old_keep h.frame _ b1 hb1 hb2, f2]⟩
        refine mk_good h hd hdst hfresh hlive (root := .slice (some ⟨b, off, none⟩) (n + n') cap) hR' hstep hf (fun ob' _ _ _ => ?_) (by simp [Obj.ids]) (fun ob' h3 => ?_) (by simp [V.ids, V1.ids, C.ids])
        · simp only [RO, if_true]
          have hb' : w'.heap[b]? = some (.cells ((cells.toList.take (off + n * k) ++ new.toList ++ cells.toList.drop (off + n * k + (n' * k))).toArray) et fr) := by
            rw [g3]; simp [hnew2]
          have hsz' : ((cells.toList.take (off + n * k) ++ new.toList ++ cells.toList.drop (off + n * k + (n' * k))).toArray).size = cells.size := by
            simp [hnew2]; omega
          have inner : ∀ {t : Tag} {i j : Nat} {y : D} {x : Value}, Mapped w ow (actApp (d, 0) deep n k1 k2) ((rootTag deep (d, 0)).ext i j) y x → Rep w' ow' ((rootTag deep (d, 0)).ext i j) y x := by
            intro _ i j y x hmx
            rcases hmx with ⟨q, rfl, rfl, hq⟩ | ⟨t, h1, h2⟩
            · exact .v _ _ hq
            · refine (h2.map _ h1).mono (S := fun t => t = .fz ∨ ∃ q p, t = .deep (d, 0) (q :: p)) (fun t i' j' ht => ?_) (fun b1 t1 o1 e1 e2 e3 => ⟨?_, e1⟩) ?_
              · rcases ht with rfl | ⟨q, p, rfl⟩
                · exact .inl rfl
                · exact .inr ⟨_, _, rfl⟩
              · rw [g2 b1 (fun e => ?_)]; exact e3
                subst e
                simp only [TagMap.on, hbt, Option.bind_some] at e1
                have hA : actApp (d, 0) deep n k1 k2 id = .into (d, 0) [] := by simp [actApp, hk1, eqId_self]
                cases deep with
                | true =>
                  simp [TagMap.of, rootTag, Tag.ids, hA, TA.tag] at e1
                  subst e1
                  rcases e2 with e2 | ⟨q, p, e2⟩ <;> cases e2
                | false =>
                  simp [TagMap.of, rootTag, Tag.ids, hA, TA.tag] at e1
                  subst e1
                  rcases e2 with e2 | ⟨q, p, e2⟩ <;> cases e2
              · cases deep with
                | true => exact .inr ⟨_, _, rfl⟩
                | false => exact .inl rfl
          have hget : ∀ i j y, i < n + n' → (catRow n row row' i)[j]? = some y → ∃ x, ((cells.toList.take (off + n * k) ++ new.toList ++ cells.toList.drop (off + n * k + (n' * k))).toArray)[off + i * k + j]? = some x ∧
              Mapped w ow (actApp (d, 0) deep n k1 k2) ((rootTag deep (d, 0)).ext i j) y x := by
            intro i j y hi hj
            by_cases hin : i < n
            · rw [catRow_lt hin] at hj
              have hjk : j < k := by rw [← hkl i hin]; exact (List.getElem?_eq_some_iff.1 hj).1
              have hlt := divmod_lt hin hjk (Nat.le_refl (n * k))
              refine ⟨cv i j, ?_, base_mapped hb hn hin id hk1 (sb.hr i j y hin hj)⟩
              rw [List.getElem?_toArray, List.append_assoc, List.getElem?_append_left (by simp; omega), List.getElem?_take, if_pos (by omega), Array.getElem?_toList]
              exact sb.hc i j y hin hj
            · rw [catRow_ge (by omega)] at hj
              have hi' : i - n < n' := by omega
              have hjk : j < k := by rw [← hm.klen _ hi']; exact (List.getElem?_eq_some_iff.1 hj).1
              obtain ⟨x, hx, hrx⟩ := hnew3 (i - n) j y hi' hj
              have hlt := divmod_lt hi' hjk (Nat.le_refl (n' * k))
              have hmul : i * k = n * k + (i - n) * k := by rw [← Nat.add_mul]; congr 1; omega
              refine ⟨x, ?_, by have := hmap2 (i - n) j y x hi' hj hrx; rwa [show n + (i - n) = i by omega] at this⟩
              rw [List.getElem?_toArray, List.append_assoc, List.getElem?_append_right (by simp; omega), List.getElem?_append_left (by simp; omega), Array.getElem?_toList]
              rw [← hx]; congr 1; simp; omega
          have hbo : ow' b = some (rootTag deep (d, 0)) := by
            simp only [ow', TagMap.on, hbt, Option.bind_some]
            have hA : actApp (d, 0) deep n k1 k2 id = .into (d, 0) [] := by simp [actApp, hk1, eqId_self]
            cases deep <;> simp [TagMap.of, rootTag, Tag.ids, hA, TA.tag]
          refine .sl _ k _ _ b off cap _ et fr (fun i j => ((cells.toList.take (off + n * k) ++ new.toList ++ cells.toList.drop (off + n * k + (n' * k))).toArray).getD (off + i * k + j) undef) hb' hbo hroom ?_ (fun _ => by rw [hsz']; exact sb.hfr hrt1) hkl'
            (fun i j y hi hj => ?_) (fun i j y hi hj => ?_)
          · rw [if_neg hrt, hsz']; exact hsz
          · obtain ⟨x, hx, _⟩ := hget i j y hi hj
            rw [hx]
            simp only [Array.getD_eq_getD_getElem?, hx, Option.getD_some]
          · obtain ⟨x, hx, hmx⟩ := hget i j y hi hj
            simp only [Array.getD_eq_getD_getElem?, hx, Option.getD_some]
            exact inner (t := .fz) hmx
        · intro deep' k' n' row' ver' ho; simp
  · rw [if_neg hroom, run_bind] at hR
    have hch : (choose (.appendCap (n + n') cap e)).run E.P w = .ok ((Question.appendCap (n + n') cap e).cut (w.tape w.drawn (.appendCap (n + n') cap e))) { w with drawn := w.drawn + 1 } := by
      unfold choose; simp only [Sem.run, Question.forced]; rfl
    rw [hch] at hR
    generalize hnc : (Question.appendCap (n + n') cap e).cut (w.tape w.drawn (.appendCap (n + n') cap e)) = nc at hR
    have hncle : n + n' ≤ nc := by rw [← hnc]; simp only [Question.cut]; omega
    simp only at hR
    rw [run_bind] at hR
    have hask : ∀ w1, (askRoom (nc * bytes)).run E.P w1 = .ok () w1 := by intro w1; unfold askRoom; split <;> rfl
    rw [hask] at hR
    simp only at hR

    obtain ⟨old, hold1, hold2, hold3⟩ : ∃ old : Array Value, (∀ w1 : World, w1.heap = w.heap → (Builtin.firstCells k n (.slice A n cap)).run E.P w1 = .ok old w1) ∧ old.size = n * k ∧
        ∀ i j y, i < n → (row i)[j]? = some y → ∃ x, old[i * k + j]? = some x ∧ Mapped w ow (actApp (d, 0) deep n k1 k2) ((rootTag deep (d, 0)).ext i j) y x := by
      rcases hb.cases with ⟨_, rfl, he⟩ | ⟨id, ver, hk1, _, _, hr⟩
      · rw [hv] at he; cases he
        exact ⟨#[], fun _ _ => rfl, by simp, fun i j y hi => absurd hi (Nat.not_lt_zero i)⟩
      · rw [hv] at hr
        obtain ⟨old, o1, o2, o3⟩ := run_firstCells (P := E.P) hr
        exact ⟨old, o1, o2, fun i j y hi hj => let ⟨x, hx, hrx⟩ := o3 i j y hi hj; ⟨x, hx, base_mapped hb hn hi id hk1 hrx⟩⟩
    rw [run_bind, hold1 { w with drawn := w.drawn + 1 } rfl] at hR
    simp only at hR
    rw [run_bind, hnew1 { w with drawn := w.drawn + 1 } rfl] at hR
    simp only at hR
    rw [run_bind, run_newRow] at hR
    simp only at hR
    have hzs : (Builtin.zeroCells zero (nc - (n + n'))).size = (nc - (n + n')) * k := by simp [Builtin.zeroCells, hz]
    have hp : Pushed w { w with drawn := w.drawn + 1, heap := w.heap.push (.cells (old ++ new ++ Builtin.zeroCells zero (nc - (n + n'))) e) } (old ++ new ++ Builtin.zeroCells zero (nc - (n + n'))) e (0, 0) := ⟨rfl, rfl, rfl, rfl⟩
    refine newSl_good h hd hdst hfresh hlive (act := actApp (d, 0) deep n k1 k2) (fun i hi => actApp_keep hi) hp (cap := nc) 0 hR hncle ?_ (.inl (Nat.le_refl _)) hkl' (fun i j y hi hj => ?_)
    · simp only [Array.size_append, hold2, hnew2, hzs]
      have : nc * k = n * k + n' * k + (nc - (n + n')) * k := by rw [← Nat.add_mul, ← Nat.add_mul]; congr 1; omega
      omega
    · by_cases hin : i < n
      · rw [catRow_lt hin] at hj
        have hjk : j < k := by rw [← hkl i hin]; exact (List.getElem?_eq_some_iff.1 hj).1
        obtain ⟨x, hx, hmx⟩ := hold3 i j y hin hj
        have hlt := divmod_lt hin hjk (Nat.le_refl (n * k))
        refine ⟨x, ?_, hmx⟩
        rw [Array.append_assoc, Array.getElem?_append_left (by omega)]; exact hx
      · rw [catRow_ge (by omega)] at hj
        have hi' : i - n < n' := by omega
        have hjk : j < k := by rw [← hm.klen _ hi']; exact (List.getElem?_eq_some_iff.1 hj).1
        obtain ⟨x, hx, hrx⟩ := hnew3 (i - n) j y hi' hj
        have hlt := divmod_lt hi' hjk (Nat.le_refl (n' * k))
        have hmul : i * k = n * k + (i - n) * k := by rw [← Nat.add_mul]; congr 1; omega
        refine ⟨x, ?_, by have := hmap2 (i - n) j y x hi' hj hrx; rwa [show n + (i - n) = i by omega] at this⟩
        rw [Array.append_assoc, Array.getElem?_append_right (by omega), Array.getElem?_append_left (by omega)]
        rw [← hx]; congr 1; omega

end

end Go.Ax
end

section
namespace Go.Ax
open Go

theorem isNil_val {c : C} (h : isNil c = true) : c = .val (.slice none 0 0) := by
  unfold isNil at h
  split at h
  · rfl
  · cases h

section
variable {E : Pr} {B : Base} {ow : Own} {σ : Val} {st : St} {a : Act} {w : World} {o : Oper} (h : Inv E B ow σ st a w) (hT : TabOk E.P E.T) (hd : st.dstOk o.dst = true)
  {side : Prop} {v : V} {upd : List (Id × Option Obj)}
include h

theorem appBase_spec {dp : Nat → Bool} {e : Nat} {c : C} {x : Value} (hc : RC w ow σ st.ob c x) {k1 : List Id} {deep : Bool} {n : Nat} {row : Nat → List D} (he : appBase E.T dp e st.ob c = some (k1, deep, n, row)) :
    AppB E w ow σ st k1 deep (E.T.size e) n row x := by
  unfold appBase at he
  cases hn : isNil c with
  | true =>
    rw [hn] at he
    simp only [cond_true, Option.some.injEq, Prod.mk.injEq] at he
    obtain ⟨rfl, rfl, rfl, rfl⟩ := he
    rw [isNil_val hn] at hc
    exact ⟨by simp, by simp, .inl ⟨rfl, rfl, hc⟩⟩
  | false =>
    rw [hn] at he
    simp only [cond_false] at he
    split at he
    · rename_i id
      split at he
      · rename_i dp' k n' row' ver ho
        by_cases hk : (k == E.T.size e) = true
        · simp only [hk, cond_true, Option.some.injEq, Prod.mk.injEq] at he
          obtain ⟨rfl, rfl, rfl, rfl⟩ := he
          simp only [beq_iff_eq] at hk
          subst hk
          have hv := hc _ _ _ _ _ ho
          exact ⟨by simp, by simp [ho], .inr ⟨id, ver, rfl, ho, hv, by rw [hv]; exact h.objs id _ ho⟩⟩
        · simp only [Bool.not_eq_true] at hk; simp only [hk, cond_false] at he; cases he
      · cases he
    · cases he

theorem appMore_spec {deep : Bool} {e : Nat} {c : C} {x : Value} (hc : RC w ow σ st.ob c x) {p : Prop} {k2 : List Id} {n : Nat} {row : Nat → List D} (he : appMore E.T deep e st.ob c = some (p, k2, n, row)) (hp : p) :
    AppM E w ow σ st k2 deep (E.T.size e) n row x ∧ ∃ A cap, x = .slice A n cap := by
  unfold appMore at he
  cases hn : isNil c with
  | true =>
    rw [hn] at he
    simp only [cond_true, Option.some.injEq, Prod.mk.injEq] at he
    obtain ⟨rfl, rfl, rfl, rfl⟩ := he
    rw [isNil_val hn] at hc
    rw [show x = .slice none 0 0 from hc]
    exact ⟨⟨by simp, fun i hi => absurd hi (Nat.not_lt_zero i), .inl ⟨rfl, fun _ i hi => absurd hi (Nat.not_lt_zero i), .nil _ _ _⟩⟩, _, _, rfl⟩
  | false =>
    rw [hn] at he
    simp only [cond_false] at he
    split at he
    · rename_i id
      split at he
      · rename_i dp' k n' row' ver ho
        by_cases hk : ((k == E.T.size e) && (dp' || !deep)) = true
        · simp only [hk, cond_true, Option.some.injEq, Prod.mk.injEq] at he
          obtain ⟨_, rfl, rfl, rfl⟩ := he
          simp only [Bool.and_eq_true, beq_iff_eq] at hk
          obtain ⟨rfl, hk2⟩ := hk
          have hv := hc _ _ _ _ _ ho
          have hr : Rep w ow (rootTag dp' id) (.sl (E.T.size e) n' row') x := by rw [hv]; exact h.objs id _ ho
          exact ⟨⟨by simp [ho], rep_klen hr, .inr ⟨id, dp', rfl, fun e => by simpa [e] using hk2, hr⟩⟩, slD_len h hc (k := E.T.size e) (n := n') (row := row') (by simp [slD, ho])⟩
        · simp only [Bool.not_eq_true] at hk; simp only [hk, cond_false] at he; cases he
      · cases he
    · rename_i k n' row'
      by_cases hk : (k == E.T.size e) = true
      · simp only [hk, cond_true, Option.some.injEq, Prod.mk.injEq] at he
        obtain ⟨hpe, rfl, rfl, rfl⟩ := he
        simp only [beq_iff_eq] at hk
        subst hk
        refine ⟨⟨by simp, rep_klen (t := .fz) hc, .inl ⟨rfl, fun e => ?_, hc⟩⟩, slD_len h hc rfl⟩
        subst e
        rw [← hpe] at hp
        exact hp
      · simp only [Bool.not_eq_true] at hk; simp only [hk, cond_false] at he; cases he
    · cases he

include hT hd in
theorem append_good {dp : Nat → Bool} {c : Call} {x y : Operand} {t t' : TypeId} (ho : o.op = .call c) (hcal : c.callee = .builtin .append) (ha : c.args = #[x, y]) (hat : c.argTypes.toList = [t, t']) (hk' : (E.T.kind t').isSlice = true)
    (he : append E.T dp o.dst t st.ob (st.ev E.T x) (st.ev E.T y) = .det side v upd) (hs : side) (hnew : ∀ d, o.dst = some d → st.objs (d, 0) = none) : Good E B st a w o v upd := by
  have hx := h.ev x
  have hy := h.ev y
  unfold append at he
  split at he
  · rename_i d e c1 c2 hdst hk ex ey
    rw [ex] at hx; rw [ey] at hy
    cases hb : appBase E.T dp e st.ob c1 with
    | none => simp [hb] at he
    | some q =>
      obtain ⟨k1, deep, n, row⟩ := q
      cases hm : appMore E.T deep e st.ob c2 with
      | none => simp [hb, hm] at he
      | some q =>
        obtain ⟨p, k2, n', row'⟩ := q
        simp only [hb, hm] at he
        by_cases hcnd : (nodupI (k1 ++ k2) && decide (0 < E.T.size e) && decide (E.T.bytes e < 1000) && decide (0 < E.T.bytes e) && ((E.T.zero e).length == E.T.size e) && (E.T.zero e).all Value.oneC) = true
        · simp only [hcnd, cond_true, Ev.det.injEq] at he
          obtain ⟨rfl, rfl, rfl⟩ := he
          simp only [Bool.and_eq_true, beq_iff_eq, decide_eq_true_eq] at hcnd
          obtain ⟨⟨⟨⟨⟨q1, q2⟩, q3⟩, q4⟩, q5⟩, q6⟩ := hcnd
          obtain ⟨hs1, hs2⟩ := hs
          obtain ⟨_, td, ht, _, hu, hko⟩ := kind_und hT hk (by simp)
          cases td <;> simp [kindOk] at hko
          subst hko
          have hk2 : ∃ e', E.T.kind t' = .slice e' := by
            cases hkk : E.T.kind t' <;> simp [hkk, TK.isSlice] at hk'
            exact ⟨_, rfl⟩
          obtain ⟨e', hk2⟩ := hk2
          obtain ⟨_, td2, _, _, hu2, hko2⟩ := kind_und hT hk2 (by simp)
          cases td2 <;> simp [kindOk] at hko2
          obtain ⟨z, z1, z2, z3, z4, info, z5, z6⟩ := zero_run hT q2 q5
          have hB := appBase_spec h hx hb
          obtain ⟨hM, A', cap', hv'⟩ := appMore_spec h hy hm hs1
          refine append_core h hd hdst (hnew d hdst) hB hM q1 q2 (e := e) (zero := z.cells) z4 q3 q4 hs2 (len' := 0) hv' (fun A cap hv => ?_)
          unfold execOp; rw [ho]
          simp only
          unfold resolve
          simp only [hcal, ha]
          rw [run_bind, run_pure]
          simp only
          unfold invoke builtin
          simp only
          rw [run_bind]
          have hargs : (#[x, y].map a.eval) = #[.slice A n cap, .slice A' n' cap'] := by simp [← hv, ← hv']
          have hat0 : c.argTypes[0]? = some t := by rw [← Array.getElem?_toList, hat]; rfl
          have hat1 : c.argTypes[1]? = some t' := by rw [← Array.getElem?_toList, hat]; rfl
          rw [hargs]
          unfold Builtin.append_
          simp only [hat0, hat1, List.getElem?_toArray, List.getElem?_cons_zero, List.getElem?_cons_succ]
          rw [run_bind, run_underlying hu]
          simp only
          rw [run_bind, z2]
          simp only
          rw [run_bind, run_underlying hu2]
          simp only
          rw [run_bind, run_pure]
          simp only [Bool.false_eq_true, if_false, Bool.not_false, if_true]
          rw [run_bind]
          have hlen : (Builtin.lenOf (.slice A' n' cap')).run E.P w = .ok n' w := rfl
          rw [hlen]
          simp only
          by_cases hroom : n + n' ≤ cap
          · rw [if_pos hroom, if_pos hroom, run_bind, run_bind, hv']
            cases hfc : (Builtin.firstCells (E.T.size e) n' (.slice A' n' cap')).run E.P w with
            | halt hh w1 => rfl
            | ok new w1 =>
              simp only
              cases A with
              | none => simp only; rw [run_pure]
              | some A =>
                simp only
                rw [run_bind, run_bind]
                cases (storeCells (A.add (n * E.T.size e)) new.toList).run E.P w1 with
                | halt hh w1 => rfl
                | ok _ w1 => simp only; rw [run_pure]
          · have hnsm : n + n' ≤ (n + n') * E.T.bytes e := Nat.le_mul_of_pos_right _ q4
            rw [if_neg hroom, if_neg hroom]
            rw [run_bind, run_typeInfo z5]
            simp only
            rw [if_neg (by rw [z6]; rintro ⟨_, hh⟩; simp at hh; omega)]
            rw [run_bind, run_typeInfo z5]
            simp only
            have hns := nextslicecap_le (show cap < n + n' by omega)
            have hlim : ¬ (Builtin.nextslicecap (n + n') cap * info.bytes > 2 ^ 48) := by
              rw [z6]
              have h1 := Nat.mul_le_mul_right (E.T.bytes e) hns
              rw [Nat.add_mul, Nat.mul_assoc] at h1
              unfold small at hs2
              omega
            rw [if_neg hlim]
            rw [run_bind, run_bind]
            cases hch : (choose (.appendCap (n + n') cap e)).run E.P w with
            | halt hh w1 => rfl
            | ok nc w1 =>
              simp only
              rw [run_bind, run_typeInfo z5]
              simp only [z6]
              rw [run_bind, run_bind]
              cases (askRoom (nc * E.T.bytes e)).run E.P w1 with
              | halt hh w2 => rfl
              | ok _ w2 =>
                simp only
                rw [run_bind, run_bind]
                cases (Builtin.firstCells (E.T.size e) n (.slice A n cap)).run E.P w2 with
                | halt hh w3 => rfl
                | ok old w3 =>
                  simp only
                  rw [run_bind, run_bind, hv']
                  cases (Builtin.firstCells (E.T.size e) n' (.slice A' n' cap')).run E.P w3 with
                  | halt hh w4 => rfl
                  | ok new w4 =>
                    simp only
                    rw [run_bind, z1]
                    simp only
                    rw [run_bind, run_bind, run_newRow]
                    simp only
                    rw [run_pure]
        · simp only [Bool.not_eq_true] at hcnd; simp only [hcnd, cond_false] at he; cases he
  · cases he

end

end Go.Ax
end

section
namespace Go.Ax
open Go

theorem run_storeAt {P : Program} {T : Tab} (hT : TabOk P T) {t : Nat} {i : TI} (ht : T.ti t = some i) {w : World} {b o : Nat} {v : Value} {arr : Array Value} {et : TypeId} {fr : Nat × Nat}
    (hb : w.heap[b]? = some (.cells arr et fr)) (hf : freeFr fr arr.size) (hle : o + v.cells.size ≤ arr.size) (hsz : v.cells.size = T.size t) (hall : v.cells.toList.all Value.oneC = true) :
    ∃ w', (Instr.storeAt t (.pointer (some ⟨b, o, none⟩)) v).run P w = .ok () w' ∧ (∀ b', b' ≠ b → w'.heap[b']? = w.heap[b']?) ∧
        (∃ arr', w'.heap[b]? = some (.cells arr' et fr) ∧ arr'.toList = setAt arr.toList o v.cells.toList) ∧ w'.heap.size = w.heap.size ∧ w'.os = w.os ∧ w'.tape = w.tape ∧ w'.output = w.output := by
  obtain ⟨w', g1, g2, g3, g4⟩ := run_storeCells (P := P) v.cells.toList 0 o w arr hb hf (by simpa using hle) hall
  refine ⟨w', ?_, g2, ⟨_, g3, by simp [setAt]⟩, g4⟩
  unfold Instr.storeAt Instr.sureAddr
  rw [run_bind, run_pure]
  simp only
  unfold storeVar
  rw [run_bind, run_sizeOf' hT ht]
  simp only
  rw [if_neg (by rw [hsz, size_ti ht]; simp)]
  exact g1

section
variable {E : Pr} {B : Base} {ow : Own} {σ : Val} {st : St} {a : Act} {w : World} {o : Oper} (h : Inv E B ow σ st a w) (hT : TabOk E.P E.T) (hd : st.dstOk o.dst = true)
  {side : Prop} {v : V} {upd : List (Id × Option Obj)}
include h hT hd

theorem storeBox_good {t : Nat} {p x : Operand} {id : Id} {off : Nat} {old : List C} {x1 : V1} (ho : o.op = .store t p x) (hp : st.ev E.T p = .c (.ptr id off)) (hx1 : st.ev E.T x = .s x1)
    (hob : st.ob id = some (.box old)) (hlen : x1.cells.length = E.T.size t) (hok : x1.cells.all (C.ok st.ob) = true) (hle : off + x1.cells.length ≤ old.length) (hpos : 0 < E.T.size t) :
    Good E B st a w o .any [(id, some (.box (setAt old off x1.cells)))] := by
  have hpe := h.ev p
  have hxe := h.ev x
  have hxid := h.evid x
  rw [hp] at hpe; rw [hx1] at hxe hxid
  obtain ⟨b, hσ, hpv⟩ := hpe _ hob
  obtain ⟨b', arr, et, fr, g1, g2, g3, g4, g5⟩ := h.objs id _ hob
  rw [hσ] at g1; cases g1
  obtain ⟨i, ht, _⟩ := size_pos hpos
  have hc := RV1.cellsR h hxe hok
  obtain ⟨w', r1, r2, ⟨arr', r3, r4⟩, r5, r6, r7, r8⟩ := run_storeAt hT ht g3 g4 (o := off) (v := a.eval x) (by rw [hc.1, g5.1]; exact hle) (by rw [hc.1, hlen]) (RCs.oneC h hc hok)
  have hs : Step (updIds [(id, some (.box (setAt old off x1.cells)))]) w ow σ w' ow σ := by
    refine ⟨fun b1 t1 o1 h1 h2 h3 => ⟨?_, h1⟩, fun _ _ => rfl⟩
    rw [r2 b1 (fun e => ?_)]; exact h3
    subst e
    rw [g2] at h1; cases h1
    exact h2 id rfl ⟨_, List.mem_singleton.2 rfl, rfl⟩
  have hu := Upd.of_app (st := st) (dst := o.dst) (v := .any) (upd := [(id, some (.box (setAt old off x1.cells)))])
  have hX : ∀ i, updIds [(id, some (.box (setAt old off x1.cells)))] i ↔ i = id := fun i => ⟨fun ⟨q, hq, he⟩ => by simp at hq; subst hq; exact he.symm, fun e => ⟨_, List.mem_singleton.2 rfl, e.symm⟩⟩
  have hnew : (st.app o.dst .any [(id, some (.box (setAt old off x1.cells)))]).ob id = some (.box (setAt old off x1.cells)) := by
    simp [St.ob, St.app, updO, eqId_self]
  have hkept : ∀ i, st.objs i ≠ none → Kept (updIds [(id, some (.box (setAt old off x1.cells)))]) σ σ st.ob (st.app o.dst .any [(id, some (.box (setAt old off x1.cells)))]).ob i := fun i hi => by
    by_cases e : i = id
    · subst e; exact .inr (.inr ⟨rfl, .inl ⟨_, _, hob, hnew⟩⟩)
    · have := fun hx => e ((hX i).1 hx)
      exact .inl ⟨this, St.ob_congr (hu.objs i this)⟩
  have hnf : ∀ i, st.objs i ≠ none → (st.app o.dst .any [(id, some (.box (setAt old off x1.cells)))]).objs i ≠ none := fun i hi => by
    by_cases hx : updIds [(id, some (.box (setAt old off x1.cells)))] i
    · exact hu.laid i hx
    · rw [hu.objs i hx]; exact hi
  have hcells : ∀ i', i' ∈ (setAt old off x1.cells).flatMap C.ids → st.objs i' ≠ none := fun i' hi' => by
    simp only [List.mem_flatMap] at hi'
    obtain ⟨c, hc1, hc2⟩ := hi'
    rcases mem_setAt hc1 with hm | hm
    · exact h.closedO id _ hob i' (List.mem_flatMap.2 ⟨c, hm, hc2⟩)
    · refine hxid i' ?_
      cases x1 with
      | one c' => simp only [V1.cells, List.mem_singleton] at hm; subst hm; exact hc2
      | agg cs' => exact List.mem_flatMap.2 ⟨c, hm, hc2⟩
  refine ⟨undef, w', ow, σ, .inr ⟨?_, rfl⟩, h.upd hs hu hd (fun i hx hi => hkept i hi) (fun i o1 hx ho1 => ?_) (fun _ => trivial) (by simp [V.ids, V1.ids, C.ids]) (fun i o1 hx ho1 i' hi' => ?_) ?_ (fun i o1 hx _ ho1 => ⟨rfl, by rw [(hX i).1 hx, hob]; simp⟩)⟩
  · unfold execOp; rw [ho]; simp only [hpv]
    rw [run_bind, r1]; rfl
  · rw [(hX i).1 hx] at ho1 ⊢
    rw [hnew] at ho1; cases ho1
    refine ⟨b, arr', et, fr, hσ, g2, r3, ?_, ?_⟩
    · have : arr'.size = arr.size := by rw [← Array.length_toList, r4, length_setAt (by simp; rw [hc.1, g5.1]; exact hle), Array.length_toList]
      rw [this]; exact g4
    · exact (g5.setAt hc off hle r4).step hs fun i' hi' => hkept i' (hcells i' hi')
  · rw [(hX i).1 hx] at ho1
    rw [hnew] at ho1; cases ho1
    exact hnf i' (hcells i' hi')
  · refine ⟨by rw [r6, h.frame.os], by rw [r7, h.frame.tape], by rw [r8, h.frame.output], by rw [r5]; exact h.frame.size, fun b1 hb1 hb2 => ?_⟩
    obtain ⟨f1, f2⟩ := h.frame.old b1 hb1 hb2
    refine ⟨?_, f2⟩
    rw [r2 b1 (fun e => ?_), f1]
    subst e
    rw [g2] at f2
    rcases hb2 with hb2 | hb2 <;> rw [hb2] at f2 <;> cases f2

theorem storeEl_good {t : Nat} {p x : Operand} {id : Id} {k i off n : Nat} {deep : Bool} {row : Nat → List D} {ver : Nat} {x1 : V1} {ds : List D} {xs : List (Id × (Nat × Nat))} (ho : o.op = .store t p x)
    (hp : st.ev E.T p = .c (.eptr id k i off)) (hx1 : st.ev E.T x = .s x1) (hob : st.ob id = some (.sl deep k n row ver)) (hlen : x1.cells.length = E.T.size t) (hok : x1.cells.all (C.ok st.ob) = true)
    (hinto : intoRows deep st.ob i off x1.cells = some (ds, xs)) (hn : nodupI (id :: xs.map (·.1)) = true) (hle : off + ds.length ≤ k) (hpos : 0 < E.T.size t) :
    Good E B st a w o .any (kills (xs.map (·.1)) ++ [(id, some (.sl deep k n (setRow row i (setAt (row i) off ds)) (ver + 1)))]) := by
  have hpe := h.ev p
  have hxe := h.ev x
  rw [hp] at hpe; rw [hx1] at hxe
  obtain ⟨b, o0, cap, hσ, hin, hpv⟩ := hpe _ _ _ _ _ hob
  have hr : Rep w ow (rootTag deep id) (.sl k n row) (σ id) := h.objs id _ hob
  obtain ⟨ti, ht, _⟩ := size_pos hpos
  have hc := RV1.cellsR h hxe hok
  obtain ⟨s1, s2, s3⟩ := into_spec h x1.cells off ds xs (fun m => (a.eval x).cells[m]?) hinto (fun m c hm => hc.2 m c hm)
  have hsz : (a.eval x).cells.size = ds.length := by rw [hc.1, s1]
  have hrt : rootTag deep id ≠ .fz := by cases deep <;> simp [rootTag]
  rcases hr.inv with ⟨rfl, _⟩ | ⟨b', off', cap', cells, et, fr, cv, h1, sb⟩
  · omega
  rw [hσ] at h1; cases h1
  have hbs := sb.hsz
  rw [if_neg hrt] at hbs
  have hik : i * k + k ≤ cap * k := by
    have := Nat.mul_le_mul_right k (show i + 1 ≤ cap by have := sb.hcap; omega)
    rw [Nat.add_mul] at this; omega
  obtain ⟨w', r1, r2, ⟨arr', r3, r4⟩, r5, r6, r7, r8⟩ := run_storeAt hT ht sb.hb (sb.hfr hrt) (o := o0 + i * k + off) (v := a.eval x) (by rw [hsz]; omega) (by rw [hc.1, hlen]) (RCs.oneC h hc hok)
  simp only [nodupI, Bool.and_eq_true, Bool.not_eq_true'] at hn
  obtain ⟨hn1, hn2⟩ := hn
  have hidx : id ∉ xs.map (·.1) := fun hm => by
    rw [List.any_eq_false] at hn1
    exact absurd (eqId_self id) (hn1 id hm)
  let upd' : List (Id × Option Obj) := kills (xs.map (·.1)) ++ [(id, some (.sl deep k n (setRow row i (setAt (row i) off ds)) (ver + 1)))]
  let act := actOf deep id xs
  let ow' : Own := (TagMap.of act).on ow
  have hactid : act id = .keep := Classical.not_not.1 fun hne => hidx (actOf_keep hne)
  have hX : ∀ i', updIds upd' i' ↔ i' ∈ xs.map (·.1) ∨ i' = id := fun i' => by
    rw [updIds_kills]
    constructor
    · rintro (h | ⟨q, hq, rfl⟩)
      · exact .inl h
      · simp only [List.mem_singleton] at hq; subst hq; exact .inr rfl
    · rintro (h | rfl)
      · exact .inl h
      · exact .inr ⟨_, List.mem_singleton.2 rfl, rfl⟩
  have hbo : ow b = some (rootTag deep id) := sb.ho
  have hs : Step (updIds upd') w ow σ w' ow' σ := by
    refine ⟨fun b1 t1 o1 h1 h2 h3 => ⟨?_, ?_⟩, fun _ _ => rfl⟩
    · rw [r2 b1 (fun e => ?_)]; exact h3
      subst e
      rw [hbo] at h1; cases h1
      exact h2 id (rootTag_ids _ _) ((hX id).2 (.inr rfl))
    · simp only [ow', TagMap.on, h1, Option.bind_some]
      exact TagMap.of_keep fun i' hi' hne => h2 i' hi' ((hX i').2 (.inl (actOf_keep hne)))
  have hu := Upd.of_app (st := st) (dst := o.dst) (v := .any) (upd := upd')
  have hnew : (st.app o.dst .any upd').ob id = some (.sl deep k n (setRow row i (setAt (row i) off ds)) (ver + 1)) := by
    obtain ⟨y, hy, hz⟩ := (updO_spec upd' st.objs id).2 ((hX _).2 (.inr rfl))
    rcases List.mem_append.1 hy with hy | hy
    · simp only [kills, List.mem_map] at hy; obtain ⟨i', hi', he⟩ := hy; cases he
      exact absurd (List.mem_map.2 hi') hidx
    · simp only [List.mem_singleton, Prod.mk.injEq, true_and] at hy; subst hy
      simp only [St.ob, St.app, hz]
  have hdead : ∀ i', i' ∈ xs.map (·.1) → (st.app o.dst .any upd').ob i' = none := fun i' hi' => by
    obtain ⟨y, hy, hz⟩ := (updO_spec upd' st.objs i').2 ((hX _).2 (.inl hi'))
    have : y = none := by
      rcases List.mem_append.1 hy with hy | hy
      · simp only [kills, List.mem_map] at hy; obtain ⟨_, _, he⟩ := hy; cases he; rfl
      · simp only [List.mem_singleton, Prod.mk.injEq] at hy; rw [hy.1] at hi'; exact absurd hi' hidx
    subst this
    simp only [St.ob, St.app, hz]
  refine ⟨undef, w', ow', σ, .inr ⟨?_, rfl⟩, h.upd hs hu hd (fun i' hx hi' => ?_) (fun i' o1 hx ho1 => ?_) (fun _ => trivial) (by simp [V.ids, V1.ids, C.ids]) (fun i' o1 hx ho1 i'' hi'' => ?_) ?_ (fun i' o1 hx _ ho1 => ⟨rfl, by
      rcases (hX i').1 hx with hm | rfl
      · rw [hdead i' hm] at ho1; cases ho1
      · rw [hob]; simp⟩)⟩
  · unfold execOp; rw [ho]; simp only [hpv]
    rw [run_bind, r1]; rfl
  · rcases (hX i').1 hx with hm | rfl
    · exact .inr (.inl (hdead i' hm))
    · exact .inr (.inr ⟨rfl, .inr ⟨_, _, _, _, _, _, _, hob, hnew, Nat.lt_succ_self _⟩⟩)
  · rcases (hX i').1 hx with hm | rfl
    · rw [hdead i' hm] at ho1; cases ho1
    · rw [hnew] at ho1; cases ho1
      simp only [RO]
      rw [hσ]
      have hasz : arr'.size = cells.size := by
        rw [← Array.length_toList, r4, length_setAt (by simp; omega), Array.length_toList]
      have inner : ∀ {i1 j1 : Nat} {y : D} {q : Value}, Mapped w ow act ((rootTag deep i').ext i1 j1) y q → Rep w' ow' ((rootTag deep i').ext i1 j1) y q := by
        intro i1 j1 y q hmx
        rcases hmx with ⟨z, rfl, rfl, hz⟩ | ⟨t1, e1, e2⟩
        · exact .v _ _ hz
        · refine (e2.map _ e1).mono (S := fun t => t = .fz ∨ ∃ q p, t = .deep i' (q :: p)) (fun t _ _ ht => ?_) (fun b1 t2 o1 f1 f2 f3 => ⟨?_, f1⟩) ?_
          · rcases ht with rfl | ⟨q, p, rfl⟩
            · exact .inl rfl
            · exact .inr ⟨_, _, rfl⟩
          · rw [r2 b1 (fun e => ?_)]; exact f3
            subst e
            simp only [TagMap.on, hbo, Option.bind_some] at f1
            cases deep with
            | true =>
              simp [TagMap.of, rootTag, Tag.ids, hactid, TA.tag] at f1
              subst f1
              rcases f2 with f2 | ⟨q, p, f2⟩ <;> cases f2
            | false =>
              simp [TagMap.of, rootTag, Tag.ids, hactid, TA.tag] at f1
              subst f1
              rcases f2 with f2 | ⟨q, p, f2⟩ <;> cases f2
          · cases deep with
            | true => exact .inr ⟨_, _, rfl⟩
            | false => exact .inl rfl
      have hkl : ∀ m, m < n → (setRow row i (setAt (row i) off ds) m).length = k := fun m hm => by
        unfold setRow
        by_cases e : m = i
        · subst e
          simp only [BEq.rfl, cond_true]
          rw [length_setAt (by rw [sb.hk m hm]; exact hle)]; exact sb.hk m hm
        · have : (m == i) = false := by simpa using e
          simp only [this, cond_false]; exact sb.hk m hm
      have hold : ∀ i1 j1 y, i1 < n → (row i1)[j1]? = some y → Mapped w ow act ((rootTag deep i').ext i1 j1) y (cv i1 j1) := fun i1 j1 y h1 h2 => by
        refine .inr ⟨_, ?_, sb.hr i1 j1 y h1 h2⟩
        cases deep with
        | true => simp [TagMap.of, rootTag, Tag.ext, Tag.ids, hactid, TA.tag]
        | false => rfl
      have hget : ∀ i1 j1 y, i1 < n → (setRow row i (setAt (row i) off ds) i1)[j1]? = some y → ∃ q, arr'[o0 + i1 * k + j1]? = some q ∧ Mapped w ow act ((rootTag deep i').ext i1 j1) y q := by
        intro i1 j1 y hi1 hj1
        have hj1k : j1 < k := by rw [← hkl i1 hi1]; exact (List.getElem?_eq_some_iff.1 hj1).1
        have hlen' : (a.eval x).cells.toList.length = ds.length := by simpa using hsz
        have hcl : cells.toList.length = cells.size := by simp
        have hc1 : i1 * k + k ≤ cap * k := by
          have := Nat.mul_le_mul_right k (show i1 + 1 ≤ cap by have := sb.hcap; omega)
          rw [Nat.add_mul] at this; omega
        rw [← Array.getElem?_toList, r4]
        unfold setRow at hj1
        unfold Ax.setAt
        by_cases e : i1 = i
        · subst e
          simp only [BEq.rfl, cond_true] at hj1
          have hrl := sb.hk i1 hi1
          unfold Ax.setAt at hj1
          by_cases c1 : j1 < off
          · rw [List.append_assoc, List.getElem?_append_left (by simp; omega), List.getElem?_take, if_pos c1] at hj1
            refine ⟨cv i1 j1, ?_, hold i1 j1 y hi1 hj1⟩
            rw [List.append_assoc, List.getElem?_append_left (by simp; omega), List.getElem?_take, if_pos (by omega), Array.getElem?_toList]
            exact sb.hc i1 j1 y hi1 hj1
          · by_cases c2 : j1 < off + ds.length
            · rw [List.append_assoc, List.getElem?_append_right (by simp; omega), List.getElem?_append_left (by simp; omega)] at hj1
              simp only [List.length_take, hrl] at hj1
              rw [show j1 - min off k = j1 - off by omega] at hj1
              obtain ⟨q, hq, hp⟩ := s3 (j1 - off) y hj1
              refine ⟨q, ?_, by have := hp.map hn2 i'; rwa [show off + (j1 - off) = j1 by omega] at this⟩
              rw [List.append_assoc, List.getElem?_append_right (by simp; omega), List.getElem?_append_left (by simp; omega), Array.getElem?_toList]
              rw [← hq]; congr 1; simp; omega
            · rw [List.getElem?_append_right (by simp; omega), List.getElem?_drop] at hj1
              simp only [List.length_append, List.length_take, hrl] at hj1
              rw [show off + ds.length + (j1 - (min off k + ds.length)) = j1 by omega] at hj1
              refine ⟨cv i1 j1, ?_, hold i1 j1 y hi1 hj1⟩
              rw [List.getElem?_append_right (by simp; omega), List.getElem?_drop, Array.getElem?_toList]
              rw [← sb.hc i1 j1 y hi1 hj1]; congr 1; simp; omega
        · have hne : (i1 == i) = false := by simpa using e
          simp only [hne, cond_false] at hj1
          refine ⟨cv i1 j1, ?_, hold i1 j1 y hi1 hj1⟩
          rcases Nat.lt_or_ge i1 i with hlt | hge
          · have := Nat.mul_le_mul_right k (show i1 + 1 ≤ i from hlt)
            rw [Nat.add_mul] at this
            rw [List.append_assoc, List.getElem?_append_left (by simp; omega), List.getElem?_take, if_pos (by omega), Array.getElem?_toList]
            exact sb.hc i1 j1 y hi1 hj1
          · have := Nat.mul_le_mul_right k (show i + 1 ≤ i1 by omega)
            rw [Nat.add_mul] at this
            rw [List.getElem?_append_right (by simp; omega), List.getElem?_drop, Array.getElem?_toList]
            rw [← sb.hc i1 j1 y hi1 hj1]; congr 1; simp; omega
      refine .sl _ k n _ b o0 cap arr' et fr (fun i1 j1 => arr'.getD (o0 + i1 * k + j1) undef) r3 ?_ sb.hcap ?_ (fun _ => by rw [hasz]; exact sb.hfr hrt) hkl (fun i1 j1 y hi1 hj1 => ?_) (fun i1 j1 y hi1 hj1 => ?_)
      · simp only [ow', TagMap.on, hbo, Option.bind_some]
        exact TagMap.of_keep fun i2 hi2 hne => by rw [rootTag_ids] at hi2; cases hi2; exact hne hactid
      · rw [if_neg hrt, hasz]; exact hbs
      · obtain ⟨q, hq, _⟩ := hget i1 j1 y hi1 hj1
        rw [hq]; simp only [Array.getD_eq_getD_getElem?, hq, Option.getD_some]
      · obtain ⟨q, hq, hmx⟩ := hget i1 j1 y hi1 hj1
        simp only [Array.getD_eq_getD_getElem?, hq, Option.getD_some]
        exact inner hmx
  · rcases (hX i').1 hx with hm | rfl
    · rw [hdead i' hm] at ho1; cases ho1
    · rw [hnew] at ho1; cases ho1; simp [Obj.ids] at hi''
  · refine ⟨by rw [r6, h.frame.os], by rw [r7, h.frame.tape], by rw [r8, h.frame.output], by rw [r5]; exact h.frame.size, fun b1 hb1 hb2 => ?_⟩
    obtain ⟨f1, f2⟩ := h.frame.old b1 hb1 hb2
    have hne : b1 ≠ b := fun e => by
      subst e
      rw [hbo] at f2
      rcases hb2 with hb2 | hb2 <;> rw [hb2] at f2
      · cases f2
      · exact hrt (Option.some.inj f2)
    exact ⟨by rw [r2 b1 hne, f1], by show (TagMap.of _).on ow b1 = _; rw [old_keep h.frame _ b1 hb1 hb2, f2]⟩

end

end Go.Ax
end

section
namespace Go.Ax
open Go

theorem bif_ne {b : Bool} {f : FuncId} {as : List Arg} {es : List (Id × Id)} {bs : List Id} {s : Prop} {v : V} {u : List (Id × Option Obj)} (h : (bif b then Ev.call f as es bs else .stuck) = .det s v u) : False := by cases b <;> cases h

section
variable {E : Pr} {B : Base} {ow : Own} {σ : Val} {st : St} {a : Act} {w : World} {o : Oper} (h : Inv E B ow σ st a w) (hT : TabOk E.P E.T) (hd : st.dstOk o.dst = true)
  {side : Prop} {v : V} {upd : List (Id × Option Obj)}
include h hT hd

theorem store_good {t : Nat} {p x : Operand} (ho : o.op = .store t p x) {c : C} {x1 : V1} (hp : st.ev E.T p = .c c) (hx : st.ev E.T x = .s x1) (he : store E.T t st.ob c x1.cells = some upd) : Good E B st a w o .any upd := by
  unfold store at he
  by_cases hb : ((x1.cells.length == E.T.size t) && x1.cells.all (C.ok st.ob) && decide (0 < E.T.size t)) = true
  · simp only [hb, cond_true] at he
    simp only [Bool.and_eq_true, beq_iff_eq, decide_eq_true_eq] at hb
    obtain ⟨⟨b1, b2⟩, b3⟩ := hb
    split at he
    · rename_i id off
      split at he
      · rename_i old hob
        by_cases hle : off + x1.cells.length ≤ old.length
        · simp only [hle, decide_true, cond_true, Option.some.injEq] at he
          subst he
          exact storeBox_good h hT hd ho hp hx hob b1 b2 hle b3
        · simp [hle] at he
      · cases he
    · rename_i id k i off
      split at he
      · rename_i deep k' n row ver hob
        cases hi : intoRows deep st.ob i off x1.cells with
        | none => simp [hi] at he
        | some q =>
          obtain ⟨ds, xs⟩ := q
          simp only [hi] at he
          by_cases hc : ((k == k') && nodupI (id :: xs.map (·.1)) && decide (off + ds.length ≤ k)) = true
          · simp only [hc, cond_true, Option.some.injEq] at he
            subst he
            simp only [Bool.and_eq_true, beq_iff_eq, decide_eq_true_eq] at hc
            obtain ⟨⟨rfl, c2⟩, c3⟩ := hc
            exact storeEl_good h hT hd ho hp hx hob b1 b2 hi c2 c3 b3
          · simp only [Bool.not_eq_true] at hc; simp only [hc, cond_false] at he; cases he
      · cases he
    · cases he
  · simp only [Bool.not_eq_true] at hb; simp only [hb, cond_false] at he; cases he

theorem det_good {dp : Nat → Bool} (he : eval E.T dp o.dst o.op (st.ev E.T) st.ob = .det side v upd) (hs : side) (hnew : st.newOk o.op o.dst = true) : Good E B st a w o v upd := by
  have newD : ∀ {op : Op}, (∃ t n ps, op = .buildSlice t n ps) ∨ (∃ t l c, op = .makeSlice t l c) ∨ (∃ t, op = .alloc t) ∨ (∃ t x, op = .box t x) ∨ (∃ c, op = .call c ∧ c.callee = .builtin .append) →
      st.newOk op o.dst = true → ∀ d, o.dst = some d → st.objs (d, 0) = none := by
    intro op hop hn d hd
    rcases hop with ⟨t, n, ps, rfl⟩ | ⟨t, l, c, rfl⟩ | ⟨t, rfl⟩ | ⟨t, x, rfl⟩ | ⟨c, rfl, hc⟩
    · simpa [St.newOk, hd] using hn
    · simpa [St.newOk, hd] using hn
    · simpa [St.newOk, hd] using hn
    · simpa [St.newOk, hd] using hn
    · simpa [St.newOk, hd, hc] using hn
  cases hop : o.op with
  | move x => rw [hop] at he; simp only [eval, Ev.det.injEq] at he; obtain ⟨_, rfl, rfl⟩ := he; exact good_move h hd (.inl hop)
  | assign x => rw [hop] at he; simp only [eval, Ev.det.injEq] at he; obtain ⟨_, rfl, rfl⟩ := he; exact good_move h hd (.inr hop)
  | pick c x y =>
    rw [hop] at he
    simp only [eval] at he
    split at he
    · rename_i t p q e1 e2 e3
      simp only [Ev.det.injEq] at he
      obtain ⟨_, rfl, rfl⟩ := he
      exact good_pick h hd hop e1 (by rw [e2, e3]; cases t <;> rfl)
    · rename_i t e1 _
      simp only [Ev.det.injEq] at he
      obtain ⟨_, rfl, rfl⟩ := he
      exact good_pick h hd hop e1 (by cases t <;> rfl)
    · cases he
  | alloc e =>
    rw [hop] at he hnew
    simp only [eval] at he
    split at he
    · rename_i d hdst
      by_cases hc : (((E.T.zero e).length == E.T.size e) && decide (0 < E.T.size e)) = true
      · simp only [hc, cond_true, Ev.det.injEq] at he
        obtain ⟨_, rfl, rfl⟩ := he
        simp only [Bool.and_eq_true, beq_iff_eq, decide_eq_true_eq] at hc
        exact alloc_good h hT hd hop hdst (newD (.inr (.inr (.inl ⟨_, rfl⟩))) hnew d hdst) hc.1 (by intro e0; rw [e0] at hc; simp at hc; omega)
      · simp only [Bool.not_eq_true] at hc; simp only [hc, cond_false] at he; cases he
    · cases he
  | box e x =>
    rw [hop] at he hnew
    simp only [eval] at he
    split at he
    · rename_i d x1 hdst ex
      by_cases hc : ((x1.cells.length == E.T.size e) && x1.cells.all (C.ok st.ob)) = true
      · simp only [hc, cond_true, Ev.det.injEq] at he
        obtain ⟨_, rfl, rfl⟩ := he
        simp only [Bool.and_eq_true, beq_iff_eq] at hc
        exact box_good h hd hop hdst (newD (.inr (.inr (.inr (.inl ⟨_, _, rfl⟩)))) hnew d hdst) ex hc.2
      · simp only [Bool.not_eq_true] at hc; simp only [hc, cond_false] at he; cases he
    · cases he
  | build t ps => rw [hop] at he; exact build_good h hT hd hop he
  | buildSlice t n ps => rw [hop] at he hnew; exact buildSlice_good h hT hd hop he (newD (.inl ⟨_, _, _, rfl⟩) hnew)
  | load t x =>
    rw [hop] at he
    simp only [eval] at he
    split at he
    · rename_i c ex
      cases hl : load E.T t st.ob c with
      | none => simp [hl] at he
      | some cs =>
        cases hp : pack E.T t cs with
        | none => simp [hl, hp] at he
        | some v1 =>
          simp only [hl, hp, Ev.det.injEq] at he
          obtain ⟨_, rfl, rfl⟩ := he
          exact good_load hT h hd hop ex hl hp
    · cases he
  | store t p x =>
    rw [hop] at he
    simp only [eval] at he
    split at he
    · rename_i c x1 ep ex
      cases hst : store E.T t st.ob c x1.cells with
      | none => simp [hst] at he
      | some u =>
        simp only [hst, Ev.det.injEq] at he
        obtain ⟨_, rfl, rfl⟩ := he
        exact store_good h hT hd hop ep ex hst
    · cases he
  | nilCheck x => rw [hop] at he; exact nilCheck_good h hd hop he
  | binOp op t x y t' => rw [hop] at he; exact bin_good h hT hd hop he hs
  | unOp op t x => rw [hop] at he; exact unop_good h hd hop he
  | convert s d x => rw [hop] at he; exact conv_good h hT hd hop he
  | makeSlice t l c => rw [hop] at he hnew; exact makeSlice_good h hT hd hop he hs (newD (.inr (.inl ⟨_, _, _, rfl⟩)) hnew)
  | slice t x lo hi mx =>
    rw [hop] at he
    simp only [eval] at he
    by_cases hc : (mx.isNone || hi.isSome) = true
    · simp only [hc, cond_true] at he
      exact slice_good h hT hd hop he hs (fun h1 h2 => by subst h2; cases mx <;> simp_all)
    · simp only [Bool.not_eq_true] at hc; simp only [hc, cond_false] at he; cases he
  | fieldAddr t x f => rw [hop] at he; exact fieldAddr_good h hT hd hop he
  | field t x f => rw [hop] at he; exact field_good h hT hd hop he
  | indexAddr t x i => rw [hop] at he; exact indexAddr_good h hT hd hop he hs
  | index t x i =>
    rw [hop] at he
    simp only [eval] at he
    split at he
    · rename_i s n hk ex ei
      simp only [Ev.det.injEq] at he
      obtain ⟨rfl, rfl, rfl⟩ := he
      exact index_good h hT hd hop hk ex ei hs
    · cases he
  | extract x i =>
    rw [hop] at he
    simp only [eval] at he
    split at he
    · rename_i xs ex
      cases hx : xs[i]? with
      | none => simp [hx] at he
      | some v1 =>
        simp only [hx, Ev.det.injEq] at he
        obtain ⟨_, rfl, rfl⟩ := he
        exact extract_good h hd hop ex hx
    · cases he
  | call c =>
    rw [hop] at he hnew
    have arr1 : ∀ {l : List V} {x : V}, c.args.toList.map (st.ev E.T) = [x] → ∃ y, c.args = #[y] ∧ st.ev E.T y = x := by
      intro l x hl
      cases ha : c.args.toList with
      | nil => simp [ha] at hl
      | cons y ys =>
        cases ys with
        | nil => simp only [ha, List.map_cons, List.map_nil, List.cons.injEq, and_true] at hl; exact ⟨y, by apply Array.ext'; simpa using ha, hl⟩
        | cons => simp [ha] at hl
    have arr2 : ∀ {x y : V}, c.args.toList.map (st.ev E.T) = [x, y] → ∃ p q, c.args = #[p, q] ∧ st.ev E.T p = x ∧ st.ev E.T q = y := by
      intro x y hl
      cases ha : c.args.toList with
      | nil => simp [ha] at hl
      | cons p ys =>
        cases ys with
        | nil => simp [ha] at hl
        | cons q zs =>
          cases zs with
          | nil => simp only [ha, List.map_cons, List.map_nil, List.cons.injEq, and_true] at hl; exact ⟨p, q, by apply Array.ext'; simpa using ha, hl.1, hl.2⟩
          | cons => simp [ha] at hl
    simp only [eval] at he
    split at he
    · split at he
      · unfold callFn at he; split at he
        · rename_i as es bs _
          exact (bif_ne he).elim
        · cases he
      · rename_i fs cs _
        cases hf : (fs.isEmpty && cs.isEmpty) with
        | false => rw [hf] at he; cases he
        | true =>
          rw [hf] at he
          simp only [cond_true] at he
          unfold callFn at he; split at he
          · rename_i as es bs _
            exact (bif_ne he).elim
          · cases he
      · cases he
    · rename_i hcal
      split at he
      · rename_i x t e1 e2
        obtain ⟨y, ha, rfl⟩ := arr1 (l := []) e1
        cases hbl : blen (E.T.kind t) st.ob (st.ev E.T y) with
        | none => simp [hbl] at he
        | some n =>
          simp only [hbl, Ev.det.injEq] at he
          obtain ⟨_, rfl, rfl⟩ := he
          exact len_good h hT hd hop hcal ha (by rw [← Array.getElem?_toList, e2]; rfl) hbl
      · cases he
    · rename_i hcal
      split at he
      · rename_i x y t t' e1 e2
        obtain ⟨p, q, ha, rfl, rfl⟩ := arr2 e1
        cases hk' : (E.T.kind t').isSlice with
        | false => simp [hk'] at he
        | true =>
          simp only [hk', cond_true] at he
          exact append_good h hT hd hop hcal ha e2 hk' he hs (newD (.inr (.inr (.inr (.inr ⟨c, rfl, hcal⟩)))) hnew)
      · cases he
    · rename_i hcal
      split at he
      · rename_i x y e1
        obtain ⟨p, q, ha, rfl, rfl⟩ := arr2 e1
        unfold max2I at he
        split at he
        · rename_i m n ep eq
          simp only [Ev.det.injEq] at he
          obtain ⟨_, rfl, rfl⟩ := he
          exact maxmin_good h hd true hop hcal ha ep eq
        · cases he
      · cases he
    · rename_i hcal
      split at he
      · rename_i x y e1
        obtain ⟨p, q, ha, rfl, rfl⟩ := arr2 e1
        unfold min2I at he
        split at he
        · rename_i m n ep eq
          simp only [Ev.det.injEq] at he
          obtain ⟨_, rfl, rfl⟩ := he
          exact maxmin_good h hd false hop hcal ha ep eq
        · cases he
      · cases he
    · cases he
  | _ => rw [hop] at he; simp [eval] at he

end

end Go.Ax
end
