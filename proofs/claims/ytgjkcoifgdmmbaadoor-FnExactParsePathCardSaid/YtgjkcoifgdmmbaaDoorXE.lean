/- The executor is sound: whole functions, and its working out by equations. -/
import Derived.Test.YtgjkcoifgdmmbaaDoorXD
import Derived.Control
import Derived.Laws.Sem
import Derived.KernelRfl
set_option linter.unusedSimpArgs false
set_option linter.unusedVariables false
section
namespace Go.Ax
open Go

def renId (ren : List (Id × Id)) (ob : Id → Option Obj) (id : Id) : Option Id :=
  match ob id with
  | some _ => exLk ren id
  | none => none

def renCaps (ren : List (Id × Id)) (ob : Id → Option Obj) : List (Id × Nat) → Option (List (Id × Nat))
  | [] => some []
  | (id, off) :: l => match renId ren ob id, renCaps ren ob l with
    | some id', some l' => some ((id', off) :: l')
    | _, _ => none

def renC (ren : List (Id × Id)) (ob : Id → Option Obj) : C → C
  | .val x => .val x
  | .dat d => .dat d
  | .own id => match renId ren ob id with
    | some id' => .own id'
    | none => match ob id with
      | some (.sl _ k n row _) => .dat (.sl k n row)
      | _ => .any
  | .osub id ver k i j => match renId ren ob id with
    | some _ => .any
    | none => match ob id with
      | some (.sl _ _ _ row ver') => bif ver == ver' then match (row i)[j]? with
        | some d => .dat d
        | none => .any
        else .any
      | _ => .any
  | .ptr id off => match renId ren ob id with
    | some id' => .ptr id' off
    | none => .any
  | .eptr id k i off => match renId ren ob id with
    | some id' => .eptr id' k i off
    | none => .any
  | .fptr cs => .fptr cs
  | .fn f caps => match renCaps ren ob caps with
    | some l => .fn f l
    | none => .any
  | .any => .any

def renCs (ren : List (Id × Id)) (ob : Id → Option Obj) : List C → List C
  | [] => []
  | c :: cs => renC ren ob c :: renCs ren ob cs

def renV1 (ren : List (Id × Id)) (ob : Id → Option Obj) : V1 → V1
  | .one c => .one (renC ren ob c)
  | .agg cs => .agg (renCs ren ob cs)

def renV1s (ren : List (Id × Id)) (ob : Id → Option Obj) : List V1 → List V1
  | [] => []
  | x :: xs => renV1 ren ob x :: renV1s ren ob xs

def renV (ren : List (Id × Id)) (ob : Id → Option Obj) : V → V
  | .s x => .s (renV1 ren ob x)
  | .tup xs => .tup (renV1s ren ob xs)

def renO (ren : List (Id × Id)) (ob : Id → Option Obj) : Obj → Obj
  | .sl deep k n row _ => .sl deep k n row 0
  | .box cs => .box (renCs ren ob cs)

def renObjs (ren0 : List (Id × Id)) (ob : Id → Option Obj) : List (Id × Id) → List (Id × Obj)
  | [] => []
  | (i, i') :: l => match ob i with
    | some o => (i', renO ren0 ob o) :: renObjs ren0 ob l
    | none => renObjs ren0 ob l

def renEnv (ren : List (Id × Id)) (st : St) : List Nat → List (Nat × V)
  | [] => []
  | s :: l => (s, renV ren st.ob (st.env s)) :: renEnv ren st l

def norm (ren : List (Id × Id)) (keep : List Nat) (st : St) : St := St.mk' st.nt (renEnv ren st keep) (renObjs ren st.ob ren)

def renOk (ren : List (Id × Id)) : Bool := ren.all fun p => !(decide (2000000 ≤ p.2.1)) || eqId p.1 p.2

section
variable {ren : List (Id × Id)} (h1 : nodupI (ren.map (·.1)) = true) (h2 : nodupI (ren.map (·.2)) = true)

theorem renCs_get (ob : Id → Option Obj) : ∀ (cs : List C) (i : Nat), (renCs ren ob cs)[i]? = (cs[i]?).map (renC ren ob) := by
  intro cs
  induction cs with
  | nil => intro i; simp [renCs]
  | cons c cs ih => intro i; cases i <;> simp [renCs, ih]

theorem length_renCs (ob : Id → Option Obj) (cs : List C) : (renCs ren ob cs).length = cs.length := by
  induction cs with
  | nil => rfl
  | cons c cs ih => simp [renCs, ih]

theorem renV1s_get (ob : Id → Option Obj) : ∀ (xs : List V1) (i : Nat), (renV1s ren ob xs)[i]? = (xs[i]?).map (renV1 ren ob) := by
  intro xs
  induction xs with
  | nil => intro i; simp [renV1s]
  | cons c cs ih => intro i; cases i <;> simp [renV1s, ih]

theorem length_renV1s (ob : Id → Option Obj) (xs : List V1) : (renV1s ren ob xs).length = xs.length := by
  induction xs with
  | nil => rfl
  | cons c cs ih => simp [renV1s, ih]

theorem renObjs_spec {ren0 : List (Id × Id)} {ob : Id → Option Obj} : ∀ {l : List (Id × Id)} {id' : Id} {o' : Option Obj}, getO (renObjs ren0 ob l) id' = some o' → ∃ id o, (id, id') ∈ l ∧ ob id = some o ∧ o' = some (renO ren0 ob o) := by
  intro l
  induction l with
  | nil => intro id' o' h; simp [renObjs, getO] at h
  | cons q l ih =>
    obtain ⟨i, i'⟩ := q
    intro id' o' h
    simp only [renObjs] at h
    cases ho : ob i with
    | none =>
      rw [ho] at h
      obtain ⟨id, o, g1, g2⟩ := ih h
      exact ⟨id, o, List.mem_cons_of_mem _ g1, g2⟩
    | some o =>
      rw [ho] at h
      simp only [getO] at h
      cases he : eqId i' id' with
      | true =>
        rw [he] at h
        simp only [cond_true, Option.some.injEq] at h
        exact ⟨i, o, by rw [eqId_iff.1 he]; exact List.mem_cons_self, ho, h.symm⟩
      | false =>
        rw [he] at h
        obtain ⟨id, o, g1, g2⟩ := ih h
        exact ⟨id, o, List.mem_cons_of_mem _ g1, g2⟩

theorem renObjs_laid {ren0 : List (Id × Id)} {ob : Id → Option Obj} : ∀ {l : List (Id × Id)} {id id' : Id}, (id, id') ∈ l → ob id ≠ none → getO (renObjs ren0 ob l) id' ≠ none := by
  intro l
  induction l with
  | nil => intro _ _ h; cases h
  | cons q l ih =>
    obtain ⟨i, i'⟩ := q
    intro id id' hm ho
    simp only [renObjs]
    rcases List.mem_cons.1 hm with he | hm
    · cases he
      cases hob : ob i with
      | none => exact absurd hob ho
      | some o => simp only [getO, eqId_self]; simp
    · cases hob : ob i with
      | none => exact ih hm ho
      | some o =>
        simp only [getO]
        cases eqId i' id' with
        | true => simp
        | false => exact ih hm ho

def unren : List (Id × Id) → Id → Option Id
  | [], _ => none
  | (i, n) :: l, id => bif eqId n id then some i else unren l id

include h2 in
theorem unren_mem {id id' : Id} (h : (id, id') ∈ ren) : unren ren id' = some id := by
  induction ren with
  | nil => cases h
  | cons q l ih =>
    obtain ⟨i, n⟩ := q
    simp only [List.map_cons, nodupI, Bool.and_eq_true, Bool.not_eq_true'] at h2
    simp only [unren]
    rcases List.mem_cons.1 h with he | hm
    · cases he; rw [eqId_self]; rfl
    · have hne : eqId n id' = false := by
        cases he : eqId n id' with
        | false => rfl
        | true =>
          have := h2.1
          rw [List.any_eq_false] at this
          exact absurd he (this id' (List.mem_map.2 ⟨_, hm, rfl⟩))
      rw [hne]; exact ih h2.2 hm

def renAct (ren : List (Id × Id)) (id : Id) : TA :=
  match exLk ren id with
  | some id' => .into id' []
  | none => .frz

def renVal (ren : List (Id × Id)) (σ : Val) : Val := fun id' => match unren ren id' with | some id => σ id | none => σ id'

section
variable {E : Pr} {B : Base} {ow : Own} {σ : Val} {st : St} {a : Act} {w : World} (h : Inv E B ow σ st a w) (keep : List Nat)
include h h1 h2

theorem norm_ob {id id' : Id} {o' : Obj} (hm : exLk ren id = some id') (ho : (norm ren keep st).ob id' = some o') : ∃ o, st.ob id = some o ∧ o' = renO ren st.ob o := by
  have _ := h1; have _ := h
  have := St.ob_live ho
  obtain ⟨i, o, g1, g2, g3⟩ := renObjs_spec this
  have e1 := unren_mem h2 g1
  have e2 := unren_mem h2 (exLk_some hm)
  rw [e1] at e2; cases e2
  simp only [Option.some.injEq] at g3
  exact ⟨o, g2, g3⟩

theorem renId_some {id id' : Id} (hr : renId ren st.ob id = some id') : exLk ren id = some id' ∧ renVal ren σ id' = σ id ∧ (norm ren keep st).objs id' ≠ none := by
  have _ := h1; have _ := h
  unfold renId at hr
  cases ho : st.ob id with
  | none => rw [ho] at hr; cases hr
  | some o =>
    rw [ho] at hr
    refine ⟨hr, ?_, renObjs_laid (exLk_some hr) (by rw [ho]; simp)⟩
    simp only [renVal, unren_mem h2 (exLk_some hr)]

theorem ren_tag {deep : Bool} {id id' : Id} (hm : exLk ren id = some id') : (TagMap.of (renAct ren)).f (rootTag deep id) = some (rootTag deep id') := by
  have _ := h1; have _ := h2; have _ := h
  cases deep <;> simp [TagMap.of, rootTag, Tag.ids, renAct, hm, TA.tag]

theorem frz_tag {t : Tag} {id : Id} (ht : t.ids = some id) (hm : exLk ren id = none) : (TagMap.of (renAct ren)).f t = some .fz := by
  have _ := h1; have _ := h2; have _ := h
  cases t with
  | fz => cases ht
  | deep i p => simp only [Tag.ids, Option.some.injEq] at ht; subst ht; simp [TagMap.of, Tag.ids, renAct, hm, TA.tag]
  | sh i => simp only [Tag.ids, Option.some.injEq] at ht; subst ht; simp [TagMap.of, Tag.ids, renAct, hm, TA.tag]

theorem renId_none {id : Id} {o : Obj} (hr : renId ren st.ob id = none) (ho : st.ob id = some o) : exLk ren id = none := by
  have _ := h1; have _ := h2; have _ := h
  unfold renId at hr; rw [ho] at hr; exact hr

theorem renC_rc {c : C} {v : Value} (hc : RC w ow σ st.ob c v) : RC w ((TagMap.of (renAct ren)).on ow) (renVal ren σ) (norm ren keep st).ob (renC ren st.ob c) v := by
  cases c with
  | val x => exact hc
  | dat d => exact Rep.map _ hc rfl
  | own id =>
    simp only [renC]
    cases hr : renId ren st.ob id with
    | some id' =>
      obtain ⟨g1, g2, g3⟩ := renId_some h1 h2 h keep hr
      intro deep k n row ver ho
      obtain ⟨o, e1, e2⟩ := norm_ob h1 h2 h keep g1 ho
      cases o with
      | box => simp [renO] at e2
      | sl => rw [g2]; exact hc _ _ _ _ _ e1
    | none =>
      simp only
      cases ho : st.ob id with
      | none => trivial
      | some o =>
        cases o with
        | box => trivial
        | sl deep k n row ver =>
          show Rep w _ .fz (.sl k n row) v
          rw [hc _ _ _ _ _ ho]
          exact Rep.map _ (h.objs id _ ho) (frz_tag h1 h2 h (rootTag_ids _ _) (renId_none h1 h2 h hr ho))
  | osub id ver k i j =>
    simp only [renC]
    cases hr : renId ren st.ob id with
    | some id' => trivial
    | none =>
      simp only
      cases ho : st.ob id with
      | none => trivial
      | some o =>
        cases o with
        | box => trivial
        | sl deep k' n row ver' =>
          simp only
          cases hv : (ver == ver') with
          | false => trivial
          | true =>
            simp only [beq_iff_eq] at hv
            subst hv
            simp only [cond_true]
            cases hrow : (row i)[j]? with
            | none => trivial
            | some d =>
              have := osub_rep h hc ho hrow
              cases deep with
              | true => exact Rep.map _ this (frz_tag h1 h2 h (id := id) rfl (renId_none h1 h2 h hr ho))
              | false => exact Rep.map _ this rfl
  | ptr id off =>
    simp only [renC]
    cases hr : renId ren st.ob id with
    | none => trivial
    | some id' =>
      obtain ⟨g1, g2, g3⟩ := renId_some h1 h2 h keep hr
      intro cs ho
      obtain ⟨o, e1, e2⟩ := norm_ob h1 h2 h keep g1 ho
      cases o with
      | sl => simp [renO] at e2
      | box => rw [g2]; exact hc _ e1
  | eptr id k i off =>
    simp only [renC]
    cases hr : renId ren st.ob id with
    | none => trivial
    | some id' =>
      obtain ⟨g1, g2, g3⟩ := renId_some h1 h2 h keep hr
      intro deep k' n row ver ho
      obtain ⟨o, e1, e2⟩ := norm_ob h1 h2 h keep g1 ho
      cases o with
      | box => simp [renO] at e2
      | sl deep0 k0 n0 row0 ver0 =>
        simp only [renO, Obj.sl.injEq] at e2
        obtain ⟨rfl, rfl, rfl, rfl, rfl⟩ := e2
        rw [g2]; exact hc _ _ _ _ _ e1
  | fptr cs =>
    obtain ⟨b, off, arr, et, fr, g1, g2, g3, g4⟩ := hc
    exact ⟨b, off, arr, et, fr, g1, g2, by simp [TagMap.on, g3, TagMap.of, Tag.ids], fun j d hj => let ⟨x, hx, hr⟩ := g4 j d hj; ⟨x, hx, hr.map _ rfl⟩⟩
  | fn f caps =>
    simp only [renC]
    obtain ⟨vs, rfl, hs, hp⟩ := hc
    have key : ∀ (l : List (Id × Nat)) (l' : List (Id × Nat)), renCaps ren st.ob l = some l' → l'.length = l.length ∧ ∀ (i : Nat) (id' : Id) (off : Nat), l'[i]? = some (id', off) → ∃ id : Id, l[i]? = some (id, off) ∧ renId ren st.ob id = some id' := by
      intro l
      induction l with
      | nil => intro l' hl; simp [renCaps] at hl; subst hl; simp
      | cons q l ih =>
        obtain ⟨id, off⟩ := q
        intro l' hl
        simp only [renCaps] at hl
        cases hr : renId ren st.ob id with
        | none => simp [hr] at hl
        | some id' =>
          cases hr2 : renCaps ren st.ob l with
          | none => simp [hr, hr2] at hl
          | some l2 =>
            simp only [hr, hr2, Option.some.injEq] at hl
            subst hl
            obtain ⟨k1, k2⟩ := ih l2 hr2
            refine ⟨by simp [k1], fun i id2 off2 hi => ?_⟩
            cases i with
            | zero => simp only [List.getElem?_cons_zero, Option.some.injEq, Prod.mk.injEq] at hi; obtain ⟨rfl, rfl⟩ := hi; exact ⟨id, rfl, hr⟩
            | succ i => exact k2 i id2 off2 (by simpa using hi)
    cases hr : renCaps ren st.ob caps with
    | none => trivial
    | some l' =>
      obtain ⟨k1, k2⟩ := key caps l' hr
      refine ⟨vs, rfl, by rw [hs, k1], fun i id' off hi => ?_⟩
      obtain ⟨id, e1, e2⟩ := k2 i id' off hi
      obtain ⟨x, hx, hpx⟩ := hp i id off e1
      obtain ⟨g1, g2, g3⟩ := renId_some h1 h2 h keep e2
      refine ⟨x, hx, fun cs ho => ?_⟩
      obtain ⟨o, f1, f2⟩ := norm_ob h1 h2 h keep g1 ho
      cases o with
      | sl => simp [renO] at f2
      | box => rw [g2]; exact hpx _ f1
  | any => trivial

theorem renC_ids {c : C} : ∀ id', id' ∈ (renC ren st.ob c).ids → (norm ren keep st).objs id' ≠ none := by
  intro id' hid
  cases c with
  | val | dat | fptr | any => simp [renC, C.ids] at hid
  | own id =>
    simp only [renC] at hid
    cases hr : renId ren st.ob id with
    | some i => rw [hr] at hid; simp only [C.ids, List.mem_singleton] at hid; subst hid; exact (renId_some h1 h2 h keep hr).2.2
    | none =>
      rw [hr] at hid
      simp only at hid
      split at hid <;> simp [C.ids] at hid
  | osub id ver k i j =>
    simp only [renC] at hid
    cases hr : renId ren st.ob id with
    | some i => rw [hr] at hid; simp [C.ids] at hid
    | none =>
      rw [hr] at hid
      simp only at hid
      split at hid
      · rename_i ver' _
        cases hv : (ver == ver') with
        | false => rw [hv] at hid; simp [C.ids] at hid
        | true =>
          rw [hv] at hid
          simp only [cond_true] at hid
          split at hid <;> simp [C.ids] at hid
      · simp [C.ids] at hid
  | ptr id off =>
    simp only [renC] at hid
    cases hr : renId ren st.ob id with
    | some i => rw [hr] at hid; simp only [C.ids, List.mem_singleton] at hid; subst hid; exact (renId_some h1 h2 h keep hr).2.2
    | none => rw [hr] at hid; simp [C.ids] at hid
  | eptr id k i off =>
    simp only [renC] at hid
    cases hr : renId ren st.ob id with
    | some i => rw [hr] at hid; simp only [C.ids, List.mem_singleton] at hid; subst hid; exact (renId_some h1 h2 h keep hr).2.2
    | none => rw [hr] at hid; simp [C.ids] at hid
  | fn f caps =>
    simp only [renC] at hid
    cases hr : renCaps ren st.ob caps with
    | none => rw [hr] at hid; simp [C.ids] at hid
    | some l' =>
      rw [hr] at hid
      simp only [C.ids] at hid
      have key : ∀ (l : List (Id × Nat)) (l' : List (Id × Nat)), renCaps ren st.ob l = some l' → ∀ p, p ∈ l' → ∃ id, renId ren st.ob id = some p.1 := by
        intro l
        induction l with
        | nil => intro l' hl; simp [renCaps] at hl; subst hl; simp
        | cons q l ih =>
          obtain ⟨id, off⟩ := q
          intro l' hl
          simp only [renCaps] at hl
          cases hr : renId ren st.ob id with
          | none => simp [hr] at hl
          | some id' =>
            cases hr2 : renCaps ren st.ob l with
            | none => simp [hr, hr2] at hl
            | some l2 =>
              simp only [hr, hr2, Option.some.injEq] at hl
              subst hl
              intro p hp
              rcases List.mem_cons.1 hp with rfl | hp
              · exact ⟨id, hr⟩
              · exact ih l2 hr2 p hp
      obtain ⟨p, hp, rfl⟩ := List.mem_map.1 hid
      obtain ⟨id, hr'⟩ := key caps l' hr p hp
      exact (renId_some h1 h2 h keep hr').2.2

theorem renCs_ids {cs : List C} : ∀ id', id' ∈ (renCs ren st.ob cs).flatMap C.ids → (norm ren keep st).objs id' ≠ none := by
  intro id' hid
  obtain ⟨c, hc, hid⟩ := List.mem_flatMap.1 hid
  obtain ⟨i, hi⟩ := List.mem_iff_getElem?.1 hc
  rw [renCs_get] at hi
  simp only [Option.map_eq_some_iff] at hi
  obtain ⟨c0, _, rfl⟩ := hi
  exact renC_ids h1 h2 h keep id' hid

theorem renV1_ids {x : V1} : ∀ id', id' ∈ (renV1 ren st.ob x).ids → (norm ren keep st).objs id' ≠ none := by
  cases x with
  | one c => exact renC_ids h1 h2 h keep
  | agg cs => exact renCs_ids h1 h2 h keep

theorem renV_ids {x : V} : ∀ id', id' ∈ (renV ren st.ob x).ids → (norm ren keep st).objs id' ≠ none := by
  cases x with
  | s x => exact renV1_ids h1 h2 h keep
  | tup xs =>
    intro id' hid
    obtain ⟨y, hy, hid⟩ := List.mem_flatMap.1 (show id' ∈ (renV1s ren st.ob xs).flatMap V1.ids from hid)
    obtain ⟨i, hi⟩ := List.mem_iff_getElem?.1 hy
    rw [renV1s_get] at hi
    simp only [Option.map_eq_some_iff] at hi
    obtain ⟨c0, _, rfl⟩ := hi
    exact renV1_ids h1 h2 h keep id' hid

theorem renCs_rc {cs : List C} {vs : Array Value} (hc : RCs w ow σ st.ob cs vs) : RCs w ((TagMap.of (renAct ren)).on ow) (renVal ren σ) (norm ren keep st).ob (renCs ren st.ob cs) vs := by
  refine ⟨by rw [hc.1, length_renCs], fun i c hi => ?_⟩
  rw [renCs_get] at hi
  simp only [Option.map_eq_some_iff] at hi
  obtain ⟨c0, h0, rfl⟩ := hi
  obtain ⟨v, hv, hr⟩ := hc.2 i c0 h0
  exact ⟨v, hv, renC_rc h1 h2 h keep hr⟩

theorem renV1_rv {x : V1} {v : Value} (hc : RV1 w ow σ st.ob x v) : RV1 w ((TagMap.of (renAct ren)).on ow) (renVal ren σ) (norm ren keep st).ob (renV1 ren st.ob x) v := by
  cases x with
  | one c => exact renC_rc h1 h2 h keep hc
  | agg cs => obtain ⟨vs, rfl, hr⟩ := hc; exact ⟨vs, rfl, renCs_rc h1 h2 h keep hr⟩

theorem renV_rv {x : V} {v : Value} (hc : RV w ow σ st.ob x v) : RV w ((TagMap.of (renAct ren)).on ow) (renVal ren σ) (norm ren keep st).ob (renV ren st.ob x) v := by
  cases x with
  | s x => exact renV1_rv h1 h2 h keep hc
  | tup xs =>
    obtain ⟨vs, rfl, hs, hr⟩ := hc
    refine ⟨vs, rfl, by rw [hs, length_renV1s], fun i c hi => ?_⟩
    rw [renV1s_get] at hi
    simp only [Option.map_eq_some_iff] at hi
    obtain ⟨c0, h0, rfl⟩ := hi
    obtain ⟨v, hv, hr⟩ := hr i c0 h0
    exact ⟨v, hv, renV1_rv h1 h2 h keep hr⟩

theorem renEnv_get : ∀ (l : List Nat) (s : Nat), getE (renEnv ren st l) s = V.any ∨ getE (renEnv ren st l) s = renV ren st.ob (st.env s) := by
  have _ := h1; have _ := h2; have _ := h
  intro l
  induction l with
  | nil => intro s; exact .inl rfl
  | cons t l ih =>
    intro s
    simp only [renEnv, getE]
    cases ht : (t == s) with
    | true => simp only [beq_iff_eq] at ht; subst ht; exact .inr rfl
    | false => exact ih s

theorem norm_sound (h3 : renOk ren = true) : ∃ ow' σ', Inv E B ow' σ' (norm ren keep st) a w := by
  refine ⟨(TagMap.of (renAct ren)).on ow, renVal ren σ, h.defers, h.size, fun s => ?_, fun id' o' ho => ?_, fun s id' hid => ?_, fun id' o' ho id2 hid => ?_, ?_, ?_, h.small, fun j v hj o' ho => ?_⟩
  · rcases renEnv_get h1 h2 h keep s with e | e
    · show RV _ _ _ _ (getE (renEnv ren st keep) s) _
      rw [e]; trivial
    · show RV _ _ _ _ (getE (renEnv ren st keep) s) _
      rw [e]; exact renV_rv h1 h2 h keep (h.env s)
  · have hl := St.ob_live ho
    obtain ⟨id, o, g1, g2, g3⟩ := renObjs_spec hl
    simp only [Option.some.injEq] at g3
    subst g3
    have hm : exLk ren id = some id' := exLk_mem h1 g1
    have hσ : renVal ren σ id' = σ id := by simp only [renVal, unren_mem h2 g1]
    have := h.objs id o g2
    cases o with
    | sl deep k n row ver =>
      show Rep w _ (rootTag deep id') (.sl k n row) (renVal ren σ id')
      rw [hσ]
      exact Rep.map _ this (ren_tag h1 h2 h hm)
    | box cs =>
      obtain ⟨b, arr, et, fr, k1, k2, k3, k4, k5⟩ := this
      refine ⟨b, arr, et, fr, by rw [hσ]; exact k1, ?_, k3, k4, renCs_rc h1 h2 h keep k5⟩
      have := ren_tag (deep := false) h1 h2 h hm
      simp only [rootTag, cond_false] at this
      simp [TagMap.on, k2, this]
  · rcases renEnv_get h1 h2 h keep s with e | e
    · have : id' ∈ (getE (renEnv ren st keep) s).ids := hid
      rw [e] at this; simp [V.ids, V1.ids, C.ids] at this
    · have : id' ∈ (getE (renEnv ren st keep) s).ids := hid
      rw [e] at this
      exact renV_ids h1 h2 h keep id' this
  · have hl := St.ob_live ho
    obtain ⟨id, o, g1, g2, g3⟩ := renObjs_spec hl
    simp only [Option.some.injEq] at g3
    subst g3
    cases o with
    | sl => simp [renO, Obj.ids] at hid
    | box cs => exact renCs_ids h1 h2 h keep id2 hid
  · have hF := h.frame
    refine ⟨hF.os, hF.tape, hF.output, hF.size, fun b hb1 hb2 => ?_⟩
    obtain ⟨g1, g2⟩ := hF.old b hb1 hb2
    refine ⟨g1, ?_⟩
    simp only [TagMap.on, g2]
    rcases hb2 with e | e <;> simp [e, TagMap.of, Tag.ids]
  · intro g cs hg
    obtain ⟨arr, et, fr, g1, g2, g3, gz⟩ := h.globs g cs hg
    exact ⟨arr, et, fr, g1, by simp [TagMap.on, g2, TagMap.of, Tag.ids], fun j d hj => let ⟨x, hx, hr⟩ := g3 j d hj; ⟨x, hx, hr.map _ rfl⟩, gz⟩
  · obtain ⟨id, o, g1, g2, g3⟩ := renObjs_spec (St.ob_live ho)
    have := (List.all_eq_true.1 h3) _ g1
    have he : id = (2000000 + j, 0) := by simpa [eqId_iff] using this
    have hσ : renVal ren σ (2000000 + j, 0) = σ id := by simp only [renVal, unren_mem h2 g1]
    rw [hσ]
    subst he
    exact h.pin j v hj o g2

end
end

end Go.Ax
end

section
namespace Go.Ax
open Go

def Post (E : Pr) (B : Base) (Q : Exit → St → Prop) : Exit → Act → World → Prop := fun e a w => ∃ ow σ st, Q e st ∧ Inv E B ow σ st a w

def Awp (E : Pr) (c : Code) (Q : Exit → St → Prop) (st : St) : Prop := ∀ B ow σ a w, Inv E B ow σ st a w → c.wp E.P (Post E B Q) a w

def Sub (E : Pr) (st st' : St) : Prop := ∀ B ow σ a w, Inv E B ow σ st a w → ∃ ow' σ', Inv E B ow' σ' st' a w

def thenA (next : St → Prop) (Q : Exit → St → Prop) : Exit → St → Prop
  | .normal, s => next s
  | e, s => Q e s

def inBlockA (id : Nat) (Q : Exit → St → Prop) : Exit → St → Prop
  | .exit id', s => if id' = id then Q .normal s else Q (.exit id') s
  | e, s => Q e s

theorem exists_least {p : Nat → Prop} (h : ∃ n, p n) : ∃ n, p n ∧ ∀ m, p m → n ≤ m := by
  obtain ⟨n, hn⟩ := h
  induction n using Nat.strongRecOn with
  | _ n ih =>
    by_cases hm : ∃ m, m < n ∧ p m
    · obtain ⟨m, h1, h2⟩ := hm; exact ih m h1 h2
    · exact ⟨n, hn, fun m h => Nat.le_of_not_lt fun hlt => hm ⟨m, hlt, h⟩⟩

open Classical in
noncomputable def least (p : Nat → Prop) : Nat := if h : ∃ n, p n then (exists_least h).choose else 0

theorem least_spec {p : Nat → Prop} (h : ∃ n, p n) : p (least p) ∧ ∀ m, p m → least p ≤ m := by
  unfold least
  rw [dif_pos h]; exact (exists_least h).choose_spec

section
variable {E : Pr} {Q : Exit → St → Prop} {st : St}

theorem awp_sub {c : Code} {st' : St} (hs : Sub E st st') (h : Awp E c Q st') : Awp E c Q st := fun B ow σ a w hi => let ⟨ow', σ', hi'⟩ := hs B ow σ a w hi; h B ow' σ' a w hi'

theorem awp_mono {c : Code} {Q' : Exit → St → Prop} (hq : ∀ e s, Q e s → Q' e s) (h : Awp E c Q st) : Awp E c Q' st := fun B ow σ a w hi =>
  wp_mono (h B ow σ a w hi) fun e a w ⟨ow, σ, s, h1, h2⟩ => ⟨ow, σ, s, hq _ _ h1, h2⟩

theorem awp_skip (h : Q .normal st) : Awp E .skip Q st := fun B ow σ a w hi => wp_skip ⟨ow, σ, st, h, hi⟩
theorem awp_exit {id : Nat} (h : Q (.exit id) st) : Awp E (.exit id) Q st := fun B ow σ a w hi => wp_exit ⟨ow, σ, st, h, hi⟩
theorem awp_ret (h : Q .ret st) : Awp E .ret Q st := fun B ow σ a w hi => wp_ret ⟨ow, σ, st, h, hi⟩

theorem awp_seq {x y : Code} (h : Awp E x (thenA (Awp E y Q) Q) st) : Awp E (.seq x y) Q st := fun B ow σ a w hi =>
  wp_seq (wp_mono (h B ow σ a w hi) fun e a w ⟨ow, σ, s, h1, h2⟩ => by
    cases e <;> first | exact h1 B ow σ a w h2 | exact ⟨ow, σ, s, h1, h2⟩)

theorem awp_block {id : Nat} {c : Code} (h : Awp E c (inBlockA id Q) st) : Awp E (.block id c) Q st := fun B ow σ a w hi =>
  wp_block (wp_mono (h B ow σ a w hi) fun e a w ⟨ow, σ, s, h1, h2⟩ => by
    cases e with
    | exit id' =>
      simp only [inBlockA] at h1
      simp only [Exit.inBlock]
      by_cases hid : id' = id
      · rw [if_pos hid] at h1 ⊢; exact ⟨ow, σ, s, h1, h2⟩
      · rw [if_neg hid] at h1 ⊢; exact ⟨ow, σ, s, h1, h2⟩
    | _ => exact ⟨ow, σ, s, h1, h2⟩)

theorem awp_cond {c : Operand} {x y : Code} {b : Bool} (hc : boolV (st.ev E.T c) = some b) (h1 : b = true → Awp E x Q st) (h2 : b = false → Awp E y Q st) : Awp E (.cond c x y) Q st := fun B ow σ a w hi => by
  have hv : a.eval c = .bool b := by
    have := hi.ev c
    rw [boolV_some hc] at this; exact this
  exact wp_cond_split hv (fun hb => h1 hb B ow σ a w hi) (fun hb => h2 hb B ow σ a w hi)

theorem awp_loop {c : Code} {ι : Type} (S : ι → St) (μ : ι → Nat) (i0 : ι) (h0 : Sub E st (S i0)) (round : ∀ i, Awp E c (thenA (fun s => ∃ j, Sub E s (S j) ∧ μ j < μ i) Q) (S i)) : Awp E (.loop c) Q st := fun B ow σ a w hi => by
  obtain ⟨ow0, σ0, hi0⟩ := h0 B ow σ a w hi
  let I : Act → World → Nat → Prop := fun a w n => ∃ i ow σ, μ i = n ∧ Inv E B ow σ (S i) a w
  refine wp_loop (fun a w => ∃ n, I a w n) (fun a w => least (I a w)) ⟨_, i0, ow0, σ0, rfl, hi0⟩ fun a w hex => ?_
  obtain ⟨i, ow1, σ1, hμ, hi1⟩ := (least_spec hex).1
  refine wp_mono (round i B ow1 σ1 a w hi1) fun e a2 w2 ⟨ow2, σ2, s2, hq, hi2⟩ => ?_
  cases e with
  | normal =>
    obtain ⟨j, hsub, hlt⟩ := hq
    obtain ⟨ow3, σ3, hi3⟩ := hsub B ow2 σ2 a2 w2 hi2
    have hI2 : I a2 w2 (μ j) := ⟨j, ow3, σ3, rfl, hi3⟩
    refine ⟨⟨_, hI2⟩, ?_⟩
    have := (least_spec ⟨_, hI2⟩).2 _ hI2
    show least (I a2 w2) < least (I a w)
    rw [← hμ]; omega
  | _ => exact ⟨ow2, σ2, s2, hq, hi2⟩

theorem sub_norm {ren : List (Id × Id)} {keep : List Nat} (h1 : nodupI (ren.map (·.1)) = true) (h2 : nodupI (ren.map (·.2)) = true) (h3 : renOk ren = true) : Sub E st (norm ren keep st) := fun B ow σ a w hi => norm_sound h1 h2 hi keep h3

theorem sub_refl : Sub E st st := fun B ow σ a w hi => ⟨ow, σ, hi⟩

theorem sub_trans {s2 s3 : St} (h1 : Sub E st s2) (h2 : Sub E s2 s3) : Sub E st s3 := fun B ow σ a w hi => let ⟨ow', σ', hi'⟩ := h1 B ow σ a w hi; h2 B ow' σ' a w hi'

variable (hT : TabOk E.P E.T) (dp : Nat → Bool)
include hT

theorem awp_text {id : Nat} {ops : Array Oper} (h : execL E dp ops ops.toList (Q .normal) st) : Awp E (.region id ops false) Q st := fun B ow σ a w hi =>
  region_text hT hi h fun ow2 σ2 st2 a2 w2 hk h2 => ⟨ow2, σ2, st2, hk, h2⟩

theorem awp_draw (hm : E.P.follows .mixedOrders = true) {id : Nat} {ops : Array Oper} (clo : List (List Nat)) (pairs : List (Nat × Nat)) (hf : fineB ops clo pairs = true) (h : execT E dp ops pairs 0 ops.toList [] (Q .normal) st) :
    Awp E (.region id ops true) Q st := fun B ow σ a w hi =>
  region_drawn hT hm hf hi h fun ow2 σ2 st2 a2 w2 hk h2 => ⟨ow2, σ2, st2, hk, h2⟩

end

end Go.Ax
end

section
namespace Go.Ax
open Go

def pinName (j : Nat) : Nat → Id := fun i => (2000000 + j, 1 + i)

def argV (j : Nat) : Arg → V
  | .one d => .c (ofD d)
  | .agg ds => .s (.agg (ds.map ofD))
  | .xsl .. => .c (.own (2000000 + j, 0))
  | .xbox _ => .c (.ptr (2000000 + j, 0) 0)

def argEnv : Nat → List Arg → List (Nat × V)
  | _, [] => []
  | j, a :: l => (j, argV j a) :: argEnv (j + 1) l

def cellObjs (nm : Nat → Id) : Nat → List RCell → List (Id × Obj)
  | _, [] => []
  | i, .own deep k n row :: l => (nm i, .sl deep k n row 0) :: cellObjs nm (i + 1) l
  | i, .fz _ :: l => cellObjs nm (i + 1) l

def argO (j : Nat) : Arg → List (Id × Obj)
  | .xsl deep k n row => [((2000000 + j, 0), .sl deep k n row 0)]
  | .xbox cs => ((2000000 + j, 0), .box (resCs (pinName j) 0 cs)) :: cellObjs (pinName j) 0 cs
  | _ => []

def argObjs : Nat → List Arg → List (Id × Obj)
  | _, [] => []
  | j, a :: l => argO j a ++ argObjs (j + 1) l

def entrySt (nt : Nat) (args : List Arg) : St := St.mk' nt (argEnv 0 args) (argObjs 0 args)

theorem argEnv_get : ∀ (l : List Arg) (j s : Nat), getE (argEnv j l) s = V.any ∨ ∃ i a, s = j + i ∧ l[i]? = some a ∧ getE (argEnv j l) s = argV s a := by
  intro l
  induction l with
  | nil => intro j s; exact .inl rfl
  | cons a l ih =>
    intro j s
    simp only [argEnv, getE]
    cases hj : (j == s) with
    | true => simp only [beq_iff_eq] at hj; subst hj; exact .inr ⟨0, a, rfl, rfl, rfl⟩
    | false =>
      rcases ih (j + 1) s with h | ⟨i, a', h1, h2, h3⟩
      · exact .inl h
      · exact .inr ⟨i + 1, a', by omega, by simpa using h2, h3⟩

theorem getO_mem : ∀ {l : List (Id × Obj)} {id : Id} {o : Obj}, getO l id = some (some o) → (id, o) ∈ l := by
  intro l
  induction l with
  | nil => intro id o h; simp [getO] at h
  | cons q l ih =>
    obtain ⟨d, o'⟩ := q
    intro id o h
    simp only [getO] at h
    cases he : eqId d id with
    | true => rw [he] at h; simp only [cond_true, Option.some.injEq] at h; subst h; rw [eqId_iff.1 he]; exact List.mem_cons_self
    | false => rw [he] at h; exact List.mem_cons_of_mem _ (ih h)

theorem getO_laid : ∀ {l : List (Id × Obj)} {id : Id}, id ∈ l.map (·.1) → getO l id ≠ none := by
  intro l
  induction l with
  | nil => intro id h; simp at h
  | cons q l ih =>
    obtain ⟨d, o'⟩ := q
    intro id h
    simp only [getO]
    cases he : eqId d id with
    | true => simp
    | false =>
      rcases List.mem_cons.1 h with rfl | h
      · rw [eqId_self] at he; cases he
      · exact ih h

theorem argObjs_mem : ∀ {l : List Arg} {j : Nat} {id : Id} {o : Obj}, (id, o) ∈ argObjs j l → ∃ i a, l[i]? = some a ∧ (id, o) ∈ argO (j + i) a := by
  intro l
  induction l with
  | nil => intro j id o h; simp [argObjs] at h
  | cons a l ih =>
    intro j id o h
    simp only [argObjs, List.mem_append] at h
    rcases h with h | h
    · exact ⟨0, a, rfl, h⟩
    · obtain ⟨i, a', h1, h2⟩ := ih h
      exact ⟨i + 1, a', by simpa using h1, by rw [show j + (i + 1) = j + 1 + i by omega]; exact h2⟩

theorem argObjs_of : ∀ {l : List Arg} {j i : Nat} {a : Arg} {p : Id × Obj}, l[i]? = some a → p ∈ argO (j + i) a → p ∈ argObjs j l := by
  intro l
  induction l with
  | nil => intro j i a p h; simp at h
  | cons b l ih =>
    intro j i a p h hp
    simp only [argObjs, List.mem_append]
    cases i with
    | zero => simp only [List.getElem?_cons_zero, Option.some.injEq] at h; subst h; exact .inl hp
    | succ i => exact .inr (ih (by simpa using h) (by rw [show j + 1 + i = j + (i + 1) by omega]; exact hp))

theorem cellObjs_mem {nm : Nat → Id} : ∀ {l : List RCell} {i0 : Nat} {id : Id} {o : Obj}, (id, o) ∈ cellObjs nm i0 l → ∃ i deep k n row, l[i]? = some (.own deep k n row) ∧ id = nm (i0 + i) ∧ o = .sl deep k n row 0 := by
  intro l
  induction l with
  | nil => intro i0 id o h; simp [cellObjs] at h
  | cons r l ih =>
    intro i0 id o h
    cases r with
    | fz d =>
      simp only [cellObjs] at h
      obtain ⟨i, deep, k, n, row, h1, h2, h3⟩ := ih h
      exact ⟨i + 1, deep, k, n, row, by simpa using h1, by rw [h2]; congr 1; omega, h3⟩
    | own deep k n row =>
      simp only [cellObjs, List.mem_cons, Prod.mk.injEq] at h
      rcases h with ⟨rfl, rfl⟩ | h
      · exact ⟨0, deep, k, n, row, rfl, rfl, rfl⟩
      · obtain ⟨i, deep, k, n, row, h1, h2, h3⟩ := ih h
        exact ⟨i + 1, deep, k, n, row, by simpa using h1, by rw [h2]; congr 1; omega, h3⟩

theorem resCs_cellObjs {nm : Nat → Id} : ∀ {l : List RCell} {i0 : Nat} {id : Id}, id ∈ (resCs nm i0 l).flatMap C.ids → id ∈ (cellObjs nm i0 l).map (·.1) := by
  intro l
  induction l with
  | nil => intro i0 id h; simp [resCs] at h
  | cons r l ih =>
    intro i0 id h
    simp only [resCs, List.flatMap_cons, List.mem_append] at h
    cases r with
    | fz d =>
      rcases h with h | h
      · cases d <;> simp [resC, C.ids] at h
      · exact ih h
    | own deep k n row =>
      simp only [cellObjs, List.map_cons, List.mem_cons]
      rcases h with h | h
      · left; simpa [resC, C.ids] using h
      · exact .inr (ih h)

open Classical in
noncomputable def unpin (n : Nat) : Nat := if h : ∃ j, n = 2000000 + j then h.choose else 0

theorem unpin_add (j : Nat) : unpin (2000000 + j) = j := by
  have h : ∃ j', 2000000 + j = 2000000 + j' := ⟨j, rfl⟩
  unfold unpin
  rw [dif_pos h]
  have := h.choose_spec
  omega

noncomputable def argVal (w : World) (vs : Array Value) : Val := fun id =>
  match id.2 with
  | 0 => vs.getD (unpin id.1) undef
  | i + 1 => match vs.getD (unpin id.1) undef with
    | .pointer (some ⟨b, _, _⟩) => match w.heap[b]? with
      | some (.cells arr _ _) => arr.getD i undef
      | _ => undef
    | _ => undef

theorem repD {w : World} {ow : Own} {d : D} {v : Value} (h : Rep w ow .fz d v) (σ : Val) (ob : Id → Option Obj) : RC w ow σ ob (ofD d) v := by
  cases d with
  | v x => exact h.v_inv
  | sl => exact h

theorem ofD_ids (d : D) : (ofD d).ids = [] := by cases d <;> rfl

def pinAct (id : Id) : TA := .into (2000000 + id.1, id.2) []

theorem pin_tag (deep : Bool) (j i : Nat) : (TagMap.of pinAct).f (rootTag deep (j, i)) = some (rootTag deep (2000000 + j, i)) := by
  cases deep <;> simp [TagMap.of, rootTag, Tag.ids, pinAct, TA.tag]

section
variable {E : Pr} {w : World} {ow : Own} {args : List Arg} {vs : Array Value} (he : Entry E w ow args vs) (nt : Nat) (hnt : args.length ≤ nt) (hsm : nt ≤ 1000000)
include he hnt hsm

theorem entry_inv : Inv E ⟨w, ow, vs⟩ ((TagMap.of pinAct).on ow) (argVal w vs) (entrySt nt args) { tmps := vs ++ Array.replicate (nt - vs.size) undef, defers := [] } w := by
  have hsz := he.size
  have hval : ∀ j a, args[j]? = some a → ∃ v, vs[j]? = some v ∧ vs.getD j undef = v ∧ RepArg w ow j a v := fun j a ha => by
    obtain ⟨v, h1, h2⟩ := he.rep j a ha
    exact ⟨v, h1, by simp [Array.getD_eq_getD_getElem?, h1], h2⟩
  have hob : ∀ id o, (entrySt nt args).ob id = some o → ∃ j a, id.1 = 2000000 + j ∧ args[j]? = some a ∧ (id, o) ∈ argO j a := fun id o ho => by
    obtain ⟨i, a, h1, h2⟩ := argObjs_mem (getO_mem (St.ob_live ho))
    simp only [Nat.zero_add] at h2
    refine ⟨i, a, ?_, h1, h2⟩
    cases a with
    | one | agg => simp [argO] at h2
    | xsl => simp only [argO, List.mem_singleton, Prod.mk.injEq] at h2; rw [h2.1]
    | xbox cs =>
      simp only [argO, List.mem_cons, Prod.mk.injEq] at h2
      rcases h2 with ⟨h2, _⟩ | h2
      · rw [h2]
      · obtain ⟨_, _, _, _, _, _, h2, _⟩ := cellObjs_mem h2; rw [h2]; rfl
  have root : ∀ j, argVal w vs (2000000 + j, 0) = vs.getD j undef := fun j => by simp only [argVal, unpin_add]
  have frame : Frame' w ow w ((TagMap.of pinAct).on ow) := ⟨rfl, rfl, rfl, Nat.le_refl _, fun b _ hb => ⟨rfl, by
    simp only [TagMap.on]; rcases hb with e | e <;> simp [e, TagMap.of, Tag.ids]⟩⟩
  have globs : Globs E.T w ((TagMap.of pinAct).on ow) := fun g cs hg => by
    obtain ⟨arr, et, fr, g1, g2, g3, gz⟩ := he.globs g cs hg
    exact ⟨arr, et, fr, g1, by simp [TagMap.on, g2, TagMap.of, Tag.ids], fun j d hj => let ⟨x, hx, hr⟩ := g3 j d hj; ⟨x, hx, hr.map _ rfl⟩, gz⟩
  have fzm : ∀ {d : D} {v : Value}, Rep w ow .fz d v → Rep w ((TagMap.of pinAct).on ow) .fz d v := fun h => h.map _ rfl
  refine ⟨rfl, ?_, fun s => ?_, fun id o ho => ?_, fun s id hid => ?_, fun id o ho id' hid => ?_, frame, globs, hsm, fun j v hj o ho => ?_⟩
  · show (vs ++ Array.replicate (nt - vs.size) undef).size = nt
    simp [hsz]; omega
  · show RV w _ _ _ (getE (argEnv 0 args) s) _
    rcases argEnv_get args 0 s with h | ⟨i, a, h1, h2, h3⟩
    · rw [h]; trivial
    · simp only [Nat.zero_add] at h1
      subst h1
      obtain ⟨v, g1, g2, g3⟩ := hval s a h2
      have hv : (vs ++ Array.replicate (nt - vs.size) undef).getD s undef = v := by
        have hlt : s < vs.size := (Array.getElem?_eq_some_iff.1 g1).1
        rw [Array.getD_eq_getD_getElem?, Array.getElem?_append_left hlt, g1]; rfl
      rw [h3]
      show RV w _ _ _ _ ((vs ++ Array.replicate (nt - vs.size) undef).getD s undef)
      rw [hv]
      cases a with
      | one d => exact repD (fzm g3) _ _
      | agg ds =>
        obtain ⟨xs, rfl, k1, k2⟩ := g3
        refine ⟨xs, rfl, by simp [k1], fun i c hc => ?_⟩
        simp only [List.getElem?_map, Option.map_eq_some_iff] at hc
        obtain ⟨d, hd, rfl⟩ := hc
        obtain ⟨x, hx, hr⟩ := k2 i d hd
        exact ⟨x, hx, repD (fzm hr) _ _⟩
      | xsl deep k n row => intro _ _ _ _ _ _; rw [root, g2]
      | xbox cs =>
        obtain ⟨b, arr, et, fr, rfl, _⟩ := g3
        intro cs' _
        exact ⟨b, by rw [root, g2], rfl⟩
  · obtain ⟨j, a, h0, h1, h2⟩ := hob id o ho
    obtain ⟨v, g1, g2, g3⟩ := hval _ a h1
    cases a with
    | one | agg => simp [argO] at h2
    | xsl deep k n row =>
      simp only [argO, List.mem_singleton, Prod.mk.injEq] at h2
      obtain ⟨h2, rfl⟩ := h2
      show Rep w _ (rootTag deep id) (.sl k n row) (argVal w vs id)
      rw [h2, root, g2]
      exact Rep.map _ g3 (pin_tag deep j 0)
    | xbox cs =>
      obtain ⟨b, arr, et, fr, rfl, k2, k3, k4, k5⟩ := g3
      have harr : ∀ i, argVal w vs (2000000 + j, i + 1) = arr.getD i undef := fun i => by simp only [argVal, unpin_add, g2, k3]
      simp only [argO, List.mem_cons, Prod.mk.injEq] at h2
      rcases h2 with ⟨h2, rfl⟩ | h2
      · refine ⟨b, arr, et, fr, by rw [h2, root, g2], ?_, k3, k4, by rw [k5.1, length_resCs], fun i c hc => ?_⟩
        · have := pin_tag false j 0
          simp only [rootTag, cond_false] at this
          rw [h2]; simp [TagMap.on, k2, this]
        · rw [resCs_get] at hc
          simp only [Option.map_eq_some_iff] at hc
          obtain ⟨r, hr, rfl⟩ := hc
          obtain ⟨x, hx, hrep⟩ := k5.2 i r hr
          refine ⟨x, hx, ?_⟩
          cases r with
          | fz d => cases d with
            | v y => exact Rep.v_inv hrep
            | sl => exact fzm hrep
          | own deep k n row =>
            intro _ _ _ _ _ _
            have : pinName j (0 + i) = (2000000 + j, i + 1) := by simp [pinName]; omega
            rw [this, harr]
            simp [Array.getD_eq_getD_getElem?, hx]
      · obtain ⟨i, deep, k, n, row, e1, e2, rfl⟩ := cellObjs_mem h2
        obtain ⟨x, hx, hrep⟩ := k5.2 i _ e1
        show Rep w _ (rootTag deep id) (.sl k n row) (argVal w vs id)
        have e3 : id = (2000000 + j, i + 1) := by rw [e2]; simp [pinName]; omega
        have : argVal w vs id = x := by rw [e3, harr]; simp [Array.getD_eq_getD_getElem?, hx]
        rw [this, e2, Nat.zero_add]
        exact Rep.map _ hrep (pin_tag deep j (1 + i))
  · have hid' : id ∈ (getE (argEnv 0 args) s).ids := hid
    rcases argEnv_get args 0 s with h | ⟨i, a, h1, h2, h3⟩
    · rw [h] at hid'; simp [V.ids, V1.ids, C.ids] at hid'
    · simp only [Nat.zero_add] at h1
      subst h1
      rw [h3] at hid'
      cases a with
      | one d => simp [argV, V.ids, V1.ids, ofD_ids] at hid'
      | agg ds => simp [argV, V.ids, V1.ids, List.flatMap_map, ofD_ids] at hid'
      | xsl deep k n row =>
        simp only [argV, V.ids, V1.ids, C.ids, List.mem_singleton] at hid'
        exact getO_laid (List.mem_map.2 ⟨((2000000 + s, 0), .sl deep k n row 0), argObjs_of (j := 0) h2 (by simp [argO]), hid'.symm⟩)
      | xbox cs =>
        simp only [argV, V.ids, V1.ids, C.ids, List.mem_singleton] at hid'
        exact getO_laid (List.mem_map.2 ⟨((2000000 + s, 0), .box (resCs (pinName s) 0 cs)), argObjs_of (j := 0) h2 (by simp [argO]), hid'.symm⟩)
  · obtain ⟨j, a, h0, h1, h2⟩ := hob id o ho
    cases a with
    | one | agg => simp [argO] at h2
    | xsl deep k n row =>
      simp only [argO, List.mem_singleton, Prod.mk.injEq] at h2
      obtain ⟨h2, rfl⟩ := h2
      simp [Obj.ids] at hid
    | xbox cs =>
      simp only [argO, List.mem_cons, Prod.mk.injEq] at h2
      rcases h2 with ⟨h2, rfl⟩ | h2
      · obtain ⟨p, hp, hpe⟩ := List.mem_map.1 (resCs_cellObjs (show id' ∈ (resCs (pinName j) 0 cs).flatMap C.ids from hid))
        exact getO_laid (List.mem_map.2 ⟨p, argObjs_of (j := 0) h1 (by simp only [Nat.zero_add, argO]; exact List.mem_cons_of_mem _ hp), hpe⟩)
      · obtain ⟨_, _, _, _, _, _, _, rfl⟩ := cellObjs_mem h2
        simp [Obj.ids] at hid
  · rw [root]; simp [Array.getD_eq_getD_getElem?, show vs[j]? = some v from hj]

end

end Go.Ax
end

section
namespace Go.Ax
open Go

def sameRow (n : Nat) (row row' : Nat → List D) : Prop := ∀ i, i < n → row i = row' i

def fitC (ob : Id → Option Obj) (c : C) : RCell → Prop
  | .fz (.v y) => match c with
    | .val x => x = y ∧ x.oneC = true
    | _ => False
  | .fz (.sl k n row) => match c with
    | .val (.slice none 0 0) => n = 0
    | .dat (.sl k' n' row') => k' = k ∧ n' = n ∧ sameRow n' row' row
    | _ => False
  | .own deep k n row => match c with
    | .val (.slice none 0 0) => n = 0
    | .own id => match ob id with
      | some (.sl deep' k' n' row' _) => deep' = deep ∧ k' = k ∧ n' = n ∧ sameRow n' row' row
      | _ => False
    | _ => False

def useC (nm : Id) (c : C) : RCell → List (Id × Id)
  | .own .. => match c with
    | .own id => [(id, nm)]
    | _ => []
  | .fz _ => []

def fitCs (ob : Id → Option Obj) : List C → List RCell → Prop
  | [], [] => True
  | c :: cs, r :: rs => fitC ob c r ∧ fitCs ob cs rs
  | _, _ => False

def useCs (nm : Nat → Id) : Nat → List C → List RCell → List (Id × Id)
  | i, c :: cs, r :: rs => useC (nm i) c r ++ useCs nm (i + 1) cs rs
  | _, _, _ => []

def fitR1 (ob : Id → Option Obj) : V1 → R1 → Prop
  | .one c, .one r => fitC ob c r
  | .agg cs, .agg rs => fitCs ob cs rs
  | _, _ => False

def useR1 (nm : Nat → Id) : V1 → R1 → List (Id × Id)
  | .one c, .one r => useC (nm 0) c r
  | .agg cs, .agg rs => useCs nm 0 cs rs
  | _, _ => []

def resX (T : Tab) (st : St) : ResultVar → Option V1
  | .tmp t => match st.env t with
    | .s x => some x
    | _ => none
  | .cell a t => match st.env a with
    | .s (.one c) => match load T t st.ob c with
      | some cs => pack T t cs
      | none => none
    | _ => none

def resXs (T : Tab) (st : St) : List ResultVar → Option (List V1)
  | [] => some []
  | r :: l => match resX T st r, resXs T st l with
    | some x, some xs => some (x :: xs)
    | _, _ => none

def fitRs (ob : Id → Option Obj) : List V1 → Res → Prop
  | [], [] => True
  | x :: xs, r :: rs => fitR1 ob x r ∧ fitRs ob xs rs
  | _, _ => False

def useRs : Nat → List V1 → Res → List (Id × Id)
  | m, x :: xs, r :: rs => useR1 (resId m) x r ++ useRs (m + 1) xs rs
  | _, _, _ => []

def fitUp (ob : Id → Option Obj) : Nat → List Arg → List Arg → Prop
  | _, [], [] => True
  | j, a :: as, u :: us => (match a with
    | .xsl deep k n _ => match u with
      | .xsl deep' k' n' row => deep = deep' ∧ k = k' ∧ n = n' ∧ (match ob (2000000 + j, 0) with
        | some (.sl deep0 k0 n0 row0 _) => deep0 = deep ∧ k0 = k ∧ n0 = n ∧ sameRow n row0 row
        | _ => False)
      | _ => False
    | .xbox cs => match u with
      | .xbox cs' => cs.length = cs'.length ∧ (match ob (2000000 + j, 0) with
        | some (.box cl) => fitCs ob cl cs'
        | _ => False)
      | _ => False
    | _ => True) ∧ fitUp ob (j + 1) as us
  | _, _, _ => False

def useUp (ob : Id → Option Obj) : Nat → List Arg → List Arg → List (Id × Id)
  | j, a :: as, u :: us => (match a with
    | .xsl .. => [((2000000 + j, 0), (j, 0))]
    | .xbox _ => match u with
      | .xbox cs' => match ob (2000000 + j, 0) with
        | some (.box cl) => ((2000000 + j, 0), (j, 0)) :: useCs (argName j) 0 cl cs'
        | _ => []
      | _ => []
    | _ => []) ++ useUp ob (j + 1) as us
  | _, _, _ => []

def Ends (E : Pr) (rvs : List ResultVar) (args : List Arg) (Q : Res → List Arg → Prop) (st : St) : Prop :=
  ∃ res up, Q res up ∧ match resXs E.T st rvs with
    | some xs => nodupI ((useRs 0 xs res ++ useUp st.ob 0 args up).map (·.1)) = true ∧ fitRs st.ob xs res ∧ fitUp st.ob 0 args up
    | none => False

def outAct (use : List (Id × Id)) (id : Id) : TA :=
  match exLk use id with
  | some nm => .into nm []
  | none => .drop

section
variable {E : Pr} (hT : TabOk E.P E.T) {B : Base} {ow : Own} {σ : Val} {st : St} {a : Act} {w : World} (h : Inv E B ow σ st a w)
include h

theorem fitC_rep {use : List (Id × Id)} (hn : nodupI (use.map (·.1)) = true) {nm : Id} {c : C} {r : RCell} {v : Value} (hc : RC w ow σ st.ob c v) (hf : fitC st.ob c r) (hu : ∀ p, p ∈ useC nm c r → p ∈ use) :
    RepCell w ((TagMap.of (outAct use)).on ow) nm r v := by
  cases r with
  | fz d =>
    cases d with
    | v y =>
      simp only [fitC] at hf
      split at hf
      · rename_i x
        obtain ⟨rfl, h1⟩ := hf
        rw [show v = x from hc]; exact .v _ _ h1
      · exact hf.elim
    | sl k n row =>
      simp only [fitC] at hf
      split at hf
      · subst hf; rw [show v = .slice none 0 0 from hc]; exact .nil _ _ _
      · rename_i k' n' row'
        obtain ⟨rfl, rfl, hr⟩ := hf
        exact (Rep.map _ (show Rep w ow .fz (.sl k' n' row') v from hc) rfl).eqv ⟨rfl, rfl, hr⟩
      · exact hf.elim
  | own deep k n row =>
    simp only [fitC] at hf
    split at hf
    · subst hf; rw [show v = .slice none 0 0 from hc]; exact .nil _ _ _
    · rename_i id
      split at hf
      · rename_i deep' k' n' row' ver ho
        obtain ⟨rfl, rfl, rfl, hr⟩ := hf
        show Rep w _ (rootTag deep' nm) (.sl k' n' row) v
        rw [hc _ _ _ _ _ ho]
        have hm := exLk_mem hn (hu (id, nm) (by simp [useC]))
        refine (Rep.map _ (h.objs id _ ho) (t' := rootTag deep' nm) ?_).eqv ⟨rfl, rfl, hr⟩
        cases deep' <;> simp [TagMap.of, rootTag, Tag.ids, outAct, hm, TA.tag]
      · exact hf.elim
    · exact hf.elim

theorem fitCs_rep {use : List (Id × Id)} (hn : nodupI (use.map (·.1)) = true) {nm : Nat → Id} : ∀ (cs : List C) (rs : List RCell) (i0 : Nat) (g : Nat → Option Value), (∀ i c, cs[i]? = some c → ∃ v, g i = some v ∧ RC w ow σ st.ob c v) → fitCs st.ob cs rs →
    (∀ p, p ∈ useCs nm i0 cs rs → p ∈ use) → rs.length = cs.length ∧ ∀ i r, rs[i]? = some r → ∃ v, g i = some v ∧ RepCell w ((TagMap.of (outAct use)).on ow) (nm (i0 + i)) r v := by
  intro cs
  induction cs with
  | nil =>
    intro rs i0 g _ hf _
    cases rs with
    | nil => simp
    | cons => exact hf.elim
  | cons c cs ih =>
    intro rs i0 g hg hf hu
    cases rs with
    | nil => exact hf.elim
    | cons r rs =>
      obtain ⟨v, hv, hr⟩ := hg 0 c rfl
      obtain ⟨i1, i2⟩ := ih rs (i0 + 1) (fun i => g (i + 1)) (fun i c hc => hg (i + 1) c hc) hf.2 (fun p hp => hu p (List.mem_append_right _ hp))
      refine ⟨by simp [i1], fun i r' hi => ?_⟩
      cases i with
      | zero =>
        simp only [List.getElem?_cons_zero, Option.some.injEq] at hi
        subst hi
        exact ⟨v, hv, fitC_rep h hn hr hf.1 (fun p hp => hu p (List.mem_append_left _ hp))⟩
      | succ i =>
        obtain ⟨y, hy, hq⟩ := i2 i r' (by simpa using hi)
        exact ⟨y, hy, by rw [show i0 + (i + 1) = i0 + 1 + i by omega]; exact hq⟩

theorem fitR1_rep {use : List (Id × Id)} (hn : nodupI (use.map (·.1)) = true) {nm : Nat → Id} {x : V1} {r : R1} {v : Value} (hx : RV1 w ow σ st.ob x v) (hf : fitR1 st.ob x r) (hu : ∀ p, p ∈ useR1 nm x r → p ∈ use) :
    RepR1 w ((TagMap.of (outAct use)).on ow) nm r v := by
  cases x with
  | one c =>
    cases r with
    | one r => exact fitC_rep h hn hx hf hu
    | agg => exact hf.elim
  | agg cs =>
    cases r with
    | one => exact hf.elim
    | agg rs =>
      obtain ⟨vs, rfl, h1, h2⟩ := hx
      obtain ⟨i1, i2⟩ := fitCs_rep h hn cs rs 0 (fun i => vs[i]?) h2 hf hu
      exact ⟨vs, rfl, by rw [h1, i1], fun i r hi => by simpa using i2 i r hi⟩

include hT in
theorem resX_run {g : ResultVar → Sem Value} (g1 : ∀ t, g (.tmp t) = pure (a.tmps.getD t undef)) (g2 : ∀ c t, g (.cell c t) = do loadVar t (← asAddr (a.tmps.getD c undef))) {rv : ResultVar} {x : V1} (hx : resX E.T st rv = some x) :
    ∃ v, (g rv).run E.P w = .ok v w ∧ RV1 w ow σ st.ob x v := by
  cases rv with
  | tmp t =>
    simp only [resX] at hx
    have he := h.env t
    split at hx
    · rename_i y hy
      simp only [Option.some.injEq] at hx
      subst hx
      rw [hy] at he
      exact ⟨_, by rw [g1]; rfl, he⟩
    · cases hx
  | cell c t =>
    simp only [resX] at hx
    have he := h.env c
    split at hx
    · rename_i c0 hc
      rw [hc] at he
      split at hx
      · rename_i cs hl
        obtain ⟨l, hv, rfl, _⟩ := load_view h he hl (fun id hid => h.closed c id (by rw [hc]; exact hid))
        obtain ⟨i, ht⟩ := pack_ti hx
        obtain ⟨y, hy, hr⟩ := run_loadVar hT ht hv hx
        refine ⟨y, ?_, hr⟩
        obtain ⟨b, o, arr, et, fr, hp, _⟩ := hv
        rw [hp] at hy
        rw [g2, hp]
        exact hy
      · cases hx
    · cases hx

include hT in
theorem resXs_run {g : ResultVar → Sem Value} (g1 : ∀ t, g (.tmp t) = pure (a.tmps.getD t undef)) (g2 : ∀ c t, g (.cell c t) = do loadVar t (← asAddr (a.tmps.getD c undef))) : ∀ (rvs : List ResultVar) (xs : List V1), resXs E.T st rvs = some xs →
    ∃ vs : List Value, (rvs.mapM g).run E.P w = .ok vs w ∧ vs.length = xs.length ∧
      ∀ (i : Nat) (x : V1), xs[i]? = some x → ∃ v, vs[i]? = some v ∧ RV1 w ow σ st.ob x v := by
  intro rvs
  induction rvs with
  | nil => intro xs hx; simp [resXs] at hx; subst hx; exact ⟨[], rfl, rfl, by simp⟩
  | cons r rvs ih =>
    intro xs hx
    simp only [resXs] at hx
    cases h1 : resX E.T st r with
    | none => simp [h1] at hx
    | some x =>
      cases h2 : resXs E.T st rvs with
      | none => simp [h1, h2] at hx
      | some xs' =>
        simp only [h1, h2, Option.some.injEq] at hx
        subst hx
        obtain ⟨v, f1, f2⟩ := resX_run hT h g1 g2 h1
        obtain ⟨vs, k1, k2, k3⟩ := ih xs' h2
        refine ⟨v :: vs, ?_, by simp [k2], fun i y hi => ?_⟩
        · rw [List.mapM_cons, run_bind, f1]
          simp only
          rw [run_bind, k1]; rfl
        · cases i with
          | zero => simp only [List.getElem?_cons_zero, Option.some.injEq] at hi; subst hi; exact ⟨v, rfl, f2⟩
          | succ i => exact k3 i y (by simpa using hi)

theorem fitRs_rep {use : List (Id × Id)} (hn : nodupI (use.map (·.1)) = true) : ∀ (xs : List V1) (rs : Res) (m0 : Nat) (g : Nat → Option Value), (∀ i x, xs[i]? = some x → ∃ v, g i = some v ∧ RV1 w ow σ st.ob x v) → fitRs st.ob xs rs →
    (∀ p, p ∈ useRs m0 xs rs → p ∈ use) → rs.length = xs.length ∧ ∀ i r, rs[i]? = some r → ∃ v, g i = some v ∧ RepR1 w ((TagMap.of (outAct use)).on ow) (resId (m0 + i)) r v := by
  intro xs
  induction xs with
  | nil =>
    intro rs i0 g _ hf _
    cases rs with
    | nil => simp
    | cons => exact hf.elim
  | cons c cs ih =>
    intro rs i0 g hg hf hu
    cases rs with
    | nil => exact hf.elim
    | cons r rs =>
      obtain ⟨v, hv, hr⟩ := hg 0 c rfl
      obtain ⟨i1, i2⟩ := ih rs (i0 + 1) (fun i => g (i + 1)) (fun i c hc => hg (i + 1) c hc) hf.2 (fun p hp => hu p (List.mem_append_right _ hp))
      refine ⟨by simp [i1], fun i r' hi => ?_⟩
      cases i with
      | zero =>
        simp only [List.getElem?_cons_zero, Option.some.injEq] at hi
        subst hi
        exact ⟨v, hv, fitR1_rep h hn hr hf.1 (fun p hp => hu p (List.mem_append_left _ hp))⟩
      | succ i =>
        obtain ⟨y, hy, hq⟩ := i2 i r' (by simpa using hi)
        exact ⟨y, hy, by rw [show i0 + (i + 1) = i0 + 1 + i by omega]; exact hq⟩

theorem fitUp_rep {use : List (Id × Id)} (hn : nodupI (use.map (·.1)) = true) : ∀ (as us : List Arg) (j0 : Nat), fitUp st.ob j0 as us → (∀ p, p ∈ useUp st.ob j0 as us → p ∈ use) →
    us.length = as.length ∧ ∀ j arg, as[j]? = some arg → arg.isX = true → ∃ u, us[j]? = some u ∧ arg.alike u ∧ RepArg w ((TagMap.of (outAct use)).on ow) (j0 + j) u (σ (2000000 + (j0 + j), 0)) ∧ ∃ o, st.ob (2000000 + (j0 + j), 0) = some o := by
  intro as
  induction as with
  | nil =>
    intro us j0 hf _
    cases us with
    | nil => simp
    | cons => exact hf.elim
  | cons arg as ih =>
    intro us j0 hf hu
    cases us with
    | nil => exact hf.elim
    | cons u us =>
      simp only [fitUp] at hf
      simp only [useUp] at hu
      obtain ⟨i1, i2⟩ := ih us (j0 + 1) hf.2 (fun p hp => hu p (List.mem_append_right _ hp))
      refine ⟨by simp [i1], fun j b hj hb => ?_⟩
      cases j with
      | succ j =>
        obtain ⟨u', e1, e2, e3⟩ := i2 j b (by simpa using hj) hb
        exact ⟨u', e1, e2, by rw [show j0 + (j + 1) = j0 + 1 + j by omega]; exact e3⟩
      | zero =>
        simp only [List.getElem?_cons_zero, Option.some.injEq] at hj
        subst hj
        refine ⟨u, rfl, ?_⟩
        have hf1 := hf.1
        cases arg with
        | one | agg => cases hb
        | xsl deep k n row =>
          cases u with
          | xsl deep' k' n' row' =>
            simp only at hf1
            obtain ⟨rfl, rfl, rfl, hf1⟩ := hf1
            refine ⟨⟨rfl, rfl, rfl⟩, ?_⟩
            split at hf1
            · rename_i deep0 k0 n0 row0 ver ho
              obtain ⟨rfl, rfl, rfl, hr⟩ := hf1
              have hm := exLk_mem hn (hu ((2000000 + j0, 0), (j0, 0)) (by simp))
              refine ⟨?_, _, ho⟩
              refine Rep.eqv (Rep.map _ (h.objs _ _ ho) (t' := rootTag deep0 (j0, 0)) ?_) ⟨rfl, rfl, hr⟩
              cases deep0 <;> simp [TagMap.of, rootTag, Tag.ids, outAct, hm, TA.tag]
            · exact hf1.elim
          | _ => exact hf1.elim
        | xbox cs =>
          cases u with
          | xbox cs' =>
            simp only at hf1
            obtain ⟨hl, hf1⟩ := hf1
            refine ⟨hl, ?_⟩
            split at hf1
            · rename_i cl ho
              simp only [ho] at hu
              obtain ⟨b, arr, et, fr, g1, g2, g3, g4, g5⟩ := h.objs _ _ ho
              obtain ⟨k1, k2⟩ := fitCs_rep h hn cl cs' 0 (fun i => arr[i]?) g5.2 hf1 (nm := argName j0) (fun p hp => hu p (List.mem_append_left _ (List.mem_cons_of_mem _ hp)))
              have hm := exLk_mem hn (hu ((2000000 + j0, 0), (j0, 0)) (by simp))
              refine ⟨?_, _, ho⟩
              refine ⟨b, arr, et, fr, g1, ?_, g3, g4, by rw [g5.1, k1], fun i r hi => by simpa using k2 i r hi⟩
              simp [TagMap.on, g2, TagMap.of, Tag.ids, outAct, hm, TA.tag]
            · exact hf1.elim
          | _ => exact hf1.elim

end

end Go.Ax
end

section
namespace Go.Ax
open Go

structure Body (P : Program) (f : FuncId) (c : Code) (nt : Nat) (rvs : List ResultVar) : Prop where
  row : ∃ fn, P.funcs[f]? = some fn ∧ fn.body = some c ∧ (fn.name == "runtime.NumGoroutine") = false ∧ fn.ntmps = nt ∧ fn.results.toList = rvs

theorem run_res {E : Pr} (hT : TabOk E.P E.T) {B : Base} {ow : Own} {σ : Val} {st : St} {a : Act} {w : World} (h : Inv E B ow σ st a w) {l : List ResultVar} {xs : List V1} (hx : resXs E.T st l = some xs)
    {g : ResultVar → Sem Value} (g1 : ∀ t, g (.tmp t) = pure (a.tmps.getD t undef)) (g2 : ∀ c t, g (.cell c t) = do loadVar t (← asAddr (a.tmps.getD c undef))) :
    ∃ vs : List Value, (do let x ← l.mapM g; pure (if h : x.toArray.size = 1 then x.toArray[0] else Value.tuple x.toArray) : Sem Value).run E.P w = .ok (match vs with | [v] => v | vs => .tuple vs.toArray) w ∧ vs.length = xs.length ∧ ∀ (i : Nat) (x : V1), xs[i]? = some x → ∃ v, vs[i]? = some v ∧ RV1 w ow σ st.ob x v := by
  obtain ⟨vs, h1, h2, h3⟩ := resXs_run hT h g1 g2 _ _ hx
  refine ⟨vs, ?_, h2, h3⟩
  rw [run_bind, h1]
  match vs with
  | [] => rfl
  | [v] => rfl
  | v :: v' :: l => rfl

theorem run_results {E : Pr} (hT : TabOk E.P E.T) {B : Base} {ow : Own} {σ : Val} {st : St} {a : Act} {w : World} (h : Inv E B ow σ st a w) {fn : Func} {xs : List V1} (hx : resXs E.T st fn.results.toList = some xs) :
    ∃ vs : List Value, (results fn a.tmps).run E.P w = .ok (match vs with | [v] => v | vs => .tuple vs.toArray) w ∧ vs.length = xs.length ∧ ∀ (i : Nat) (x : V1), xs[i]? = some x → ∃ v, vs[i]? = some v ∧ RV1 w ow σ st.ob x v := by
  unfold results
  rw [Array.mapM_eq_mapM_toList]
  simp only [bind_map_left]
  exact run_res hT h hx (fun _ => rfl) (fun _ _ => rfl)

theorem acall_of {E : Pr} (hT : TabOk E.P E.T) {f : FuncId} {c : Code} {nt : Nat} {rvs : List ResultVar} (hb : Body E.P f c nt rvs) {args : List Arg} {Q : Res → List Arg → Prop} (hnt : decide (args.length ≤ nt ∧ nt ≤ 1000000) = true)
    (hq : ∃ r u, Q r u) (h : Awp E c (fun e s => match e with | .normal | .ret => Ends E rvs args Q s | _ => False) (entrySt nt args)) : ACall E f args Q := by
  obtain ⟨fn, hf, hbody, hname, rfl, rfl⟩ := hb.row
  refine ⟨⟨fn, hf, by rw [hbody]; rfl, hname⟩, hq, fun w ow vs he => ?_⟩
  have hnt' : args.length ≤ fn.ntmps ∧ fn.ntmps ≤ 1000000 := by simpa using hnt
  have hi := entry_inv he fn.ntmps hnt'.1 hnt'.2
  refine calls_of_wp hf hbody (wp_mono (h _ _ _ _ _ hi) fun e a2 w2 ⟨ow2, σ2, s2, hq2, hi2⟩ => ?_)
  have fin : Ends E fn.results.toList args Q s2 → a2.defers = [] ∧ ∃ v, (results fn a2.tmps).run E.P w2 = .ok v w2 ∧ (fun e w' => ∃ v ow' res up, e = Ending.returned v ∧ Q res up ∧ RepRes w' ow' res v ∧
      (up.length = args.length ∧ ∀ j a, args[j]? = some a → a.isX = true → ∃ a', up[j]? = some a' ∧ a.alike a' ∧ ∃ x, vs[j]? = some x ∧ RepArg w' ow' j a' x) ∧ Frame' w ow w' ow') (.returned v) w2 := by
    rintro ⟨res, up, hQ, hend⟩
    cases hx : resXs E.T s2 fn.results.toList with
    | none => rw [hx] at hend; exact hend.elim
    | some xs =>
      rw [hx] at hend
      obtain ⟨hn, hfit, hup⟩ := hend
      obtain ⟨vals, hrun, hl, hvals⟩ := run_results hT hi2 hx
      refine ⟨hi2.defers, _, hrun, ?_⟩
      generalize huse : useRs 0 xs res ++ useUp s2.ob 0 args up = use at hn
      have hsub1 : ∀ p, p ∈ useRs 0 xs res → p ∈ use := fun p hp => by rw [← huse]; exact List.mem_append_left _ hp
      have hsub2 : ∀ p, p ∈ useUp s2.ob 0 args up → p ∈ use := fun p hp => by rw [← huse]; exact List.mem_append_right _ hp
      obtain ⟨r1, r2⟩ := fitRs_rep hi2 hn xs res 0 (fun i => vals[i]?) hvals hfit hsub1
      obtain ⟨u1, u2⟩ := fitUp_rep hi2 hn args up 0 hup hsub2
      refine ⟨_, (TagMap.of (outAct use)).on ow2, res, up, rfl, hQ, ?_, ⟨u1, fun j arg hj hX => ?_⟩, ?_⟩
      · have hlen : vals.length = res.length := by omega
        have many : (∀ m r, res[m]? = some r → ∃ x, vals.toArray[m]? = some x ∧ RepR1 w2 ((TagMap.of (outAct use)).on ow2) (resId m) r x) := fun m r hm => by simpa using r2 m r hm
        match res, vals, hlen, many with
        | [r], [v], _, many =>
          obtain ⟨x, hx, hr⟩ := many 0 r rfl
          simp at hx; subst hx; exact hr
        | [], [], _, many => exact ⟨#[], rfl, rfl, by simp⟩
        | r :: r' :: rs, v :: v' :: vs, hl, many => exact ⟨_, rfl, by simpa using hl, many⟩
      · obtain ⟨u, e1, e2, e3, o, ho⟩ := u2 j arg hj hX
        simp only [Nat.zero_add] at e3 ho
        obtain ⟨x, hx, _⟩ := he.rep j arg hj
        refine ⟨u, e1, e2, x, hx, ?_⟩
        rw [← hi2.pin j x hx o ho]
        exact e3
      · have hF := hi2.frame
        refine ⟨hF.os, hF.tape, hF.output, hF.size, fun b hb1 hb2 => ?_⟩
        obtain ⟨g1, g2⟩ := hF.old b hb1 hb2
        refine ⟨g1, ?_⟩
        simp only [TagMap.on, g2]
        rcases hb2 with e | e <;> simp [e, TagMap.of, Tag.ids]
  cases e with
  | normal => exact fin hq2
  | ret => exact fin hq2
  | _ => exact hq2.elim

end Go.Ax
end

section
namespace Go.Ax
open Go

attribute [go_sem] execL execG exec1 guardOf eval St.ev getE getO V.c V.int V.bool V.val V.any blen slD bin binI binS isNil unop conv max2I min2I
  load pack store TK.isAgg TK.isSlice ofD ofRow ofRows C.ok oneCellD intoRow intoRows kills nodupI setAt catRow setRow appBase appMore append fillC partOf partsOf build zrow rowsOf buildSlice intV anyIntV
  makeSlice optI slice indexAddr fieldOff fieldAddr fieldOf toCell toCells shCell shCells argOf exclOf argsOf callFn lk V1.cells St.dstOk St.newOk
  resC resO resCs resOs R1.cells resV1 resName resVs resAll resV boxName exUpd ret RCell.noFz R1.noFz Arg.noFz
  renCaps renCs renV1s renObjs renEnv exLk
  execT stepT chk involved footE look lookO deepIds obIds newIds Foot.apart Foot.wr
  argV argEnv cellObjs argO argObjs pinName
  fitC useC fitCs useCs fitR1 useR1 resX resXs fitRs useRs fitUp useUp resId argName
  thenA inBlockA boolV Value.oneC

def updLk : List (Id × Option Obj) → Id → Option (Option Obj)
  | [], _ => none
  | (i, x) :: l, id => match updLk l id with
    | some y => some y
    | none => bif eqId i id then some x else none

theorem updO_lk : ∀ (l : List (Id × Option Obj)) (o : Id → Option (Option Obj)) (id : Id), updO l o id = match updLk l id with | some y => some y | none => o id := by
  intro l
  induction l with
  | nil => intro o id; rfl
  | cons q l ih =>
    obtain ⟨i, x⟩ := q
    intro o id
    simp only [updO, updLk, ih]
    cases updLk l id with
    | some y => rfl
    | none => cases eqId i id <;> rfl

@[go_sem] theorem env_mk (nt : Nat) (e : List (Nat × V)) (o : List (Id × Obj)) (s : Nat) : (St.mk' nt e o).env s = getE e s := rfl
@[go_sem] theorem objs_mk (nt : Nat) (e : List (Nat × V)) (o : List (Id × Obj)) (id : Id) : (St.mk' nt e o).objs id = getO o id := rfl
@[go_sem] theorem nt_mk (nt : Nat) (e : List (Nat × V)) (o : List (Id × Obj)) : (St.mk' nt e o).nt = nt := rfl
@[go_sem] theorem env_app (st : St) (d : Nat) (v : V) (u : List (Id × Option Obj)) (s : Nat) : (st.app (some d) v u).env s = bif d == s then v else st.env s := rfl
@[go_sem] theorem env_app_none (st : St) (v : V) (u : List (Id × Option Obj)) (s : Nat) : (st.app none v u).env s = st.env s := rfl
@[go_sem] theorem nt_app (st : St) (d : Option Nat) (v : V) (u : List (Id × Option Obj)) : (st.app d v u).nt = st.nt := rfl
@[go_sem] theorem objs_app_nil (st : St) (d : Option Nat) (v : V) (id : Id) : (st.app d v []).objs id = st.objs id := rfl
@[go_sem] theorem objs_app (st : St) (d : Option Nat) (v : V) (q : Id × Option Obj) (u : List (Id × Option Obj)) (id : Id) : (st.app d v (q :: u)).objs id = match updLk (q :: u) id with | some y => some y | none => st.objs id := updO_lk _ _ _
attribute [go_sem] updLk
@[go_sem] theorem ob_eq (st : St) (id : Id) : st.ob id = match st.objs id with | some (some o) => some o | _ => none := rfl
@[go_sem] theorem norm_eq (ren : List (Id × Id)) (keep : List Nat) (st : St) : norm ren keep st = St.mk' st.nt (renEnv ren st keep) (renObjs ren st.ob ren) := rfl
@[go_sem] theorem entry_eq (nt : Nat) (args : List Arg) : entrySt nt args = St.mk' nt (argEnv 0 args) (argObjs 0 args) := rfl
section
variable (ren : List (Id × Id)) (ob : Id → Option Obj)
@[go_sem] theorem renV_s (x : V1) : renV ren ob (.s x) = .s (renV1 ren ob x) := rfl
@[go_sem] theorem renV_tup (xs : List V1) : renV ren ob (.tup xs) = .tup (renV1s ren ob xs) := rfl
@[go_sem] theorem renV1_one (c : C) : renV1 ren ob (.one c) = .one (renC ren ob c) := rfl
@[go_sem] theorem renV1_agg (cs : List C) : renV1 ren ob (.agg cs) = .agg (renCs ren ob cs) := rfl
@[go_sem] theorem renC_val (x : Value) : renC ren ob (.val x) = .val x := rfl
@[go_sem] theorem renC_dat (x : D) : renC ren ob (.dat x) = .dat x := rfl
@[go_sem] theorem renC_fptr (x : List D) : renC ren ob (.fptr x) = .fptr x := rfl
@[go_sem] theorem renC_any : renC ren ob .any = .any := rfl
@[go_sem] theorem renC_own (id : Id) : renC ren ob (.own id) = match renId ren ob id with
    | some id' => .own id'
    | none => match ob id with
      | some (.sl _ k n row _) => .dat (.sl k n row)
      | _ => .any := rfl
@[go_sem] theorem renC_osub (id : Id) (ver k i j : Nat) : renC ren ob (.osub id ver k i j) = match renId ren ob id with
    | some _ => .any
    | none => match ob id with
      | some (.sl _ _ _ row ver') => bif ver == ver' then match (row i)[j]? with
        | some d => .dat d
        | none => .any
        else .any
      | _ => .any := rfl
@[go_sem] theorem renC_ptr (id : Id) (off : Nat) : renC ren ob (.ptr id off) = match renId ren ob id with
    | some id' => .ptr id' off
    | none => .any := rfl
@[go_sem] theorem renC_eptr (id : Id) (k i off : Nat) : renC ren ob (.eptr id k i off) = match renId ren ob id with
    | some id' => .eptr id' k i off
    | none => .any := rfl
@[go_sem] theorem renC_fn (f : FuncId) (caps : List (Id × Nat)) : renC ren ob (.fn f caps) = match renCaps ren ob caps with
    | some l => .fn f l
    | none => .any := rfl
@[go_sem] theorem renO_sl (deep : Bool) (k n : Nat) (row : Nat → List D) (ver : Nat) : renO ren ob (.sl deep k n row ver) = .sl deep k n row 0 := rfl
@[go_sem] theorem renO_box (cs : List C) : renO ren ob (.box cs) = .box (renCs ren ob cs) := rfl
@[go_sem] theorem renId_eq (id : Id) : renId ren ob id = match ob id with
  | some _ => exLk ren id
  | none => none := rfl
end
@[go_sem] theorem eqId_eq (a b c d : Nat) : eqId (a, b) (c, d) = ((a == c) && (b == d)) := rfl

attribute [go_sem ↓] cond_true cond_false
attribute [go_sem] Bool.true_and Bool.and_true Bool.false_and Bool.and_false Bool.not_true Bool.not_false Bool.true_or Bool.or_true Bool.false_or Bool.or_false true_and and_true decide_true decide_false
  List.map_cons List.map_nil List.all_cons List.all_nil List.any_cons List.any_nil List.length_cons List.length_nil List.cons_append List.nil_append List.append_nil List.take_succ_cons List.take_zero List.drop_succ_cons List.drop_zero List.drop_nil List.take_nil
  List.getElem?_cons_zero List.getElem?_cons_succ List.getElem?_nil List.headD_cons List.headD_nil List.tail_cons List.tail_nil List.flatMap_cons List.flatMap_nil List.isEmpty_nil List.isEmpty_cons List.toList_toArray
  forall_const ne_eq not_true_eq_false not_false_eq_true reduceCtorEq forall_eq implies_true beq_self_eq_true Option.map_some Option.map_none Option.isNone_none Option.isNone_some Option.isSome_none Option.isSome_some

def FnPost (E : Pr) (rvs : List ResultVar) (args : List Arg) (Q : Res → List Arg → Prop) : Exit → St → Prop
  | .normal, s | .ret, s => Ends E rvs args Q s
  | _, _ => False

theorem acall_by {E : Pr} (hT : TabOk E.P E.T) {f : FuncId} {c : Code} {nt : Nat} {rvs : List ResultVar} (hb : Body E.P f c nt rvs) {args : List Arg} {r : Res} {u : List Arg} (hnt : decide (args.length ≤ nt ∧ nt ≤ 1000000) = true)
    (h : Awp E c (FnPost E rvs args fun r' u' => r' = r ∧ u' = u) (entrySt nt args)) : ACall E f args fun r' u' => r' = r ∧ u' = u :=
  acall_of hT hb hnt ⟨_, _, rfl, rfl⟩ (awp_mono (fun e s hq => by cases e <;> exact hq) h)

theorem ends_det {E : Pr} {rvs : List ResultVar} {args : List Arg} {r : Res} {u : List Arg} {st : St} (h : match resXs E.T st rvs with
    | some xs => nodupI ((useRs 0 xs r ++ useUp st.ob 0 args u).map (·.1)) = true ∧ fitRs st.ob xs r ∧ fitUp st.ob 0 args u
    | none => False) : Ends E rvs args (fun r' u' => r' = r ∧ u' = u) st := ⟨r, u, ⟨rfl, rfl⟩, h⟩

theorem ret_det {E : Pr} {rvs : List ResultVar} {args : List Arg} {r : Res} {u : List Arg} {st : St} (h : match resXs E.T st rvs with
    | some xs => nodupI ((useRs 0 xs r ++ useUp st.ob 0 args u).map (·.1)) = true ∧ fitRs st.ob xs r ∧ fitUp st.ob 0 args u
    | none => False) : Awp E .ret (FnPost E rvs args fun r' u' => r' = r ∧ u' = u) st := awp_ret (ends_det h)

theorem execL_congr {E : Pr} {dp : Nat → Bool} {ops : Array Oper} {l : List Oper} {K : St → Prop} {s s' : St} (h : s = s') : execL E dp ops l K s = execL E dp ops l K s' := by rw [h]
theorem execT_congr {E : Pr} {dp : Nat → Bool} {ops : Array Oper} {pairs : List (Nat × Nat)} {i : Nat} {l : List Oper} {lg lg' : Log} {K : St → Prop} {s s' : St} (hl : lg = lg') (h : s = s') : execT E dp ops pairs i l lg K s = execT E dp ops pairs i l lg' K s' := by rw [hl, h]

theorem execG_congr {E : Pr} {dp : Nat → Bool} {ops : Array Oper} {o : Oper} {K : St → Prop} {s s' : St} (h : s = s') : execG E dp ops o K s = execG E dp ops o K s' := by rw [h]
theorem exec1_congr {E : Pr} {dp : Nat → Bool} {o : Oper} {K : St → Prop} {s s' : St} (h : s = s') : exec1 E dp o K s = exec1 E dp o K s' := by rw [h]
theorem stepT_congr {E : Pr} {dp : Nat → Bool} {ops : Array Oper} {o : Oper} {C : Foot → Bool} {K : Foot → St → Prop} {s s' : St} (h : s = s') : stepT E dp ops o C K s = stepT E dp ops o C K s' := by rw [h]
theorem cond_congr.{u} {α : Sort u} {c c' : Bool} {a b : α} (h : c = c') : (bif c then a else b) = (bif c' then a else b) := by rw [h]
@[go_sem ↓] theorem gsplit_tt (p q : Prop) : gsplit true true p q = p := by simp [gsplit]
@[go_sem ↓] theorem gsplit_tf (p q : Prop) : gsplit true false p q = q := by simp [gsplit]
@[go_sem ↓] theorem gsplit_ft (p q : Prop) : gsplit false true p q = q := by simp [gsplit]
@[go_sem ↓] theorem gsplit_ff (p q : Prop) : gsplit false false p q = p := by simp [gsplit]
@[go_sem low] theorem gsplit_t (b : Bool) (p q : Prop) : gsplit b true p q = ((b = true → p) ∧ (b = false → q)) := rfl
@[go_sem low] theorem gsplit_f (b : Bool) (p q : Prop) : gsplit b false p q = ((b = false → p) ∧ (b = true → q)) := rfl
theorem gsplit_congr {b b' want : Bool} {p q : Prop} (h : b = b') : gsplit b want p q = gsplit b' want p q := by rw [h]
theorem acall_congr {E : Pr} {f : FuncId} {a a' : List Arg} {Q : Res → List Arg → Prop} (h : a = a') : ACall E f a Q = ACall E f a' Q := by rw [h]
theorem awp_congr {E : Pr} {c : Code} {Q : Exit → St → Prop} {s s' : St} (h : s = s') : Awp E c Q s = Awp E c Q s' := by rw [h]

theorem exec1_mono {E : Pr} {dp : Nat → Bool} {o : Oper} {K K' : St → Prop} (hk : ∀ s, K s → K' s) {st : St} (h : exec1 E dp o K st) : exec1 E dp o K' st := by
  unfold exec1 at h ⊢
  generalize eval E.T dp o.dst o.op (st.ev E.T) st.ob = e at h ⊢
  cases e with
  | stuck => exact h
  | det side v upd =>
    simp only at h ⊢
    cases hb : (st.newOk o.op o.dst && st.dstOk o.dst) with
    | false => rw [hb] at h; exact h
    | true => rw [hb] at h; exact ⟨h.1, hk _ h.2⟩
  | nd f =>
    simp only at h ⊢
    cases hb : st.dstOk o.dst with
    | false => rw [hb] at h; exact h
    | true => rw [hb] at h; exact fun b => hk _ (h b)
  | call f args ex bor =>
    simp only at h ⊢
    cases hb : st.dstOk o.dst with
    | false => rw [hb] at h; exact h
    | true =>
      rw [hb] at h
      refine ACall.mono h fun r u hq => ?_
      split at hq
      · exact hk _ hq
      · exact hq

theorem execG_mono {E : Pr} {dp : Nat → Bool} {ops : Array Oper} {o : Oper} {K K' : St → Prop} (hk : ∀ s, K s → K' s) {st : St} (h : execG E dp ops o K st) : execG E dp ops o K' st := by
  unfold execG at h ⊢
  cases hg : guardOf ops o with
  | free => rw [hg] at h; exact exec1_mono hk h
  | bad => rw [hg] at h; exact h
  | slot g want =>
    rw [hg] at h
    simp only at h ⊢
    split at h
    · refine ⟨fun hb => exec1_mono hk (h.1 hb), fun hb => ?_⟩
      have := h.2 hb
      cases hd : st.dstOk o.dst with
      | false => rw [hd] at this; exact this
      | true => rw [hd] at this; exact hk _ this
    · cases hd : st.dstOk o.dst with
      | false => rw [hd] at h; exact h
      | true => rw [hd] at h; exact hk _ h
    · exact h

attribute [congr] gsplit_congr cond_congr execG_congr exec1_congr stepT_congr acall_congr awp_congr execL_congr execT_congr

section
variable {E : Pr} (hT : TabOk E.P E.T) (dp : Nat → Bool) {Q : Exit → St → Prop} {st : St}
include hT

theorem step_text (ren : List (Id × Id)) (keep : List Nat) {id : Nat} {l : List Oper} {y : Code} (h1 : nodupI (ren.map (·.1)) = true) (h2 : nodupI (ren.map (·.2)) = true) (h3 : renOk ren = true)
    (h : execL E dp l.toArray l (fun s => Awp E y Q (norm ren keep s)) st) : Awp E (.seq (.region id l.toArray false) y) Q st :=
  awp_seq (awp_text hT dp (by
    have hm : ∀ (l' : List Oper) (s : St), execL E dp l.toArray l' (fun s => Awp E y Q (norm ren keep s)) s → execL E dp l.toArray l' (thenA (Awp E y Q) Q .normal) s := by
      intro l'
      induction l' with
      | nil => intro s hs; exact awp_sub (sub_norm h1 h2 h3) hs
      | cons o l' ih => intro s hs; exact execG_mono ih hs
    simpa using hm l st h))

end

end Go.Ax
end

section
namespace Go.Ax
open Go

def getP : List (Id × Option Obj) → Id → Option (Option Obj)
  | [], _ => none
  | (d, o) :: l, id => bif eqId d id then some o else getP l id

def St.m (nt : Nat) (e : List (Nat × V)) (o : List (Id × Option Obj)) : St := ⟨nt, getE e, getP o⟩

def pushO : List (Id × Option Obj) → List (Id × Option Obj) → List (Id × Option Obj)
  | [], o => o
  | q :: u, o => pushO u (q :: o)

theorem updO_push : ∀ (u : List (Id × Option Obj)) (o : List (Id × Option Obj)), updO u (getP o) = getP (pushO u o) := by
  intro u
  induction u with
  | nil => intro o; rfl
  | cons q u ih => intro o; obtain ⟨i, x⟩ := q; simp only [updO, pushO]; rw [← ih]; rfl

@[go_sem] theorem app_m (nt : Nat) (e : List (Nat × V)) (o : List (Id × Option Obj)) (d : Nat) (v : V) (u : List (Id × Option Obj)) :
    (St.m nt e o).app (some d) v u = St.m nt ((d, v) :: e) (pushO u o) := by
  simp only [St.m, St.app, updO_push]
  congr 1

@[go_sem] theorem app_m_none (nt : Nat) (e : List (Nat × V)) (o : List (Id × Option Obj)) (v : V) (u : List (Id × Option Obj)) :
    (St.m nt e o).app none v u = St.m nt e (pushO u o) := by
  simp only [St.m, St.app, updO_push]

theorem getO_getP : ∀ (l : List (Id × Obj)), getO l = getP (l.map fun p => (p.1, some p.2)) := by
  intro l
  induction l with
  | nil => rfl
  | cons q l ih => funext id; obtain ⟨d, o⟩ := q; simp only [getO, getP, List.map_cons, ih]

@[go_sem] theorem mk_m (nt : Nat) (e : List (Nat × V)) (o : List (Id × Obj)) : St.mk' nt e o = St.m nt e (o.map fun p => (p.1, some p.2)) := by
  simp only [St.mk', St.m, getO_getP]

@[go_sem] theorem env_m (nt : Nat) (e : List (Nat × V)) (o : List (Id × Option Obj)) (s : Nat) : (St.m nt e o).env s = getE e s := rfl
@[go_sem] theorem objs_m (nt : Nat) (e : List (Nat × V)) (o : List (Id × Option Obj)) (id : Id) : (St.m nt e o).objs id = getP o id := rfl
@[go_sem] theorem nt_m (nt : Nat) (e : List (Nat × V)) (o : List (Id × Option Obj)) : (St.m nt e o).nt = nt := rfl

def obP (o : List (Id × Option Obj)) (id : Id) : Option Obj := match getP o id with | some (some x) => some x | _ => none

@[go_sem] theorem ob_m (nt : Nat) (e : List (Nat × V)) (o : List (Id × Option Obj)) : (St.m nt e o).ob = obP o := rfl

def atL {α : Type} : List α → Nat → Option α
  | [], _ => none
  | a :: l, n => bif n == 0 then some a else atL l (n - 1)

theorem atL_eq {α : Type} : ∀ (l : List α) (n : Nat), atL l n = l[n]? := by
  intro l
  induction l with
  | nil => intro n; rfl
  | cons a l ih => intro n; cases n with
    | zero => rfl
    | succ n => simp [atL, ih]

def guardL (ops : List Oper) (o : Oper) : Gd :=
  match o.guard with
  | none => .free
  | some (j, want) => match atL ops j with
    | some o' => match o'.dst with
      | some d => .slot d want
      | none => .bad
    | none => .bad

theorem guardL_eq (ops : List Oper) (o : Oper) : guardOf ops.toArray o = guardL ops o := by
  unfold guardOf guardL
  cases o.guard with
  | none => rfl
  | some p => obtain ⟨j, want⟩ := p; simp only [atL_eq, List.getElem?_toArray]; rfl

structure SOp where
  dst : Option Nat
  op : Op
  gd : Gd

def slimG (ds : List (Option Nat)) : Option (Nat × Bool) → Gd
  | none => .free
  | some (j, want) => match atL ds j with
    | some (some d) => .slot d want
    | _ => .bad

def slimL (ds : List (Option Nat)) : List Oper → List SOp
  | [] => []
  | o :: l => ⟨o.dst, o.op, slimG ds o.guard⟩ :: slimL ds l

def dstL : List Oper → List (Option Nat)
  | [] => []
  | o :: l => o.dst :: dstL l

theorem dstL_at : ∀ (l : List Oper) (j : Nat), atL (dstL l) j = (atL l j).map (·.dst) := by
  intro l
  induction l with
  | nil => intro j; rfl
  | cons o l ih => intro j; simp only [dstL, atL]; cases (j == 0) <;> simp [ih]

theorem slimG_eq (ops : List Oper) (o : Oper) : slimG (dstL ops) o.guard = guardL ops o := by
  unfold slimG guardL
  cases o.guard with
  | none => rfl
  | some p =>
    obtain ⟨j, want⟩ := p
    simp only [dstL_at]
    cases atL ops j with
    | none => rfl
    | some o' => cases h : o'.dst <;> simp [h]

inductive Out where
  | stuck
  | fin (st : St)
  | side (p : Prop) (o : Out)
  | br (b want : Bool) (k1 : St → Out) (s1 : St) (k2 : St → Out) (s2 : St)
  | call (f : FuncId) (args : List Arg) (ex : List (Id × Id)) (bor : List Id) (dst : Option Nat) (st : St) (k : St → Out)

def stepO (T : Tab) (dp : Nat → Bool) (o : SOp) (K : St → Out) (st : St) : Out :=
  match eval T dp o.dst o.op (st.ev T) st.ob with
  | .stuck => .stuck
  | .det side v upd => bif st.newOk o.op o.dst && st.dstOk o.dst then .side side (K (st.app o.dst v upd)) else .stuck
  | .nd _ => .stuck
  | .call f args ex bor => bif st.dstOk o.dst then .call f args ex bor o.dst st K else .stuck

def skipO (o : SOp) (K : St → Out) (st : St) : Out := bif st.dstOk o.dst then K (st.app o.dst .undef []) else .stuck

def runL (T : Tab) (dp : Nat → Bool) : List SOp → St → Out
  | [], st => .fin st
  | o :: l, st => match o.gd with
    | .free => stepO T dp o (runL T dp l) st
    | .bad => .stuck
    | .slot g want => match st.env g with
      | .s (.one (.val (.bool b))) => .br b want (stepO T dp o (runL T dp l)) (st.app (some g) (.bool want) []) (skipO o (runL T dp l)) (st.app (some g) (.bool (!want)) [])
      | .s (.one (.val (.tuple ⟨[]⟩))) => skipO o (runL T dp l) st
      | _ => .stuck

def RetK (o : Option (V × List (Id × Option Obj))) (p : V → List (Id × Option Obj) → Prop) : Prop :=
  match o with
  | some x => p x.1 x.2
  | none => False

def GoodO (E : Pr) (K : St → Prop) : Out → Prop
  | .stuck => False
  | .fin st => K st
  | .side p o => p ∧ GoodO E K o
  | .br b want k1 s1 k2 s2 => gsplit b want (GoodO E K (k1 s1)) (GoodO E K (k2 s2))
  | .call f args ex bor dst st k => ACall E f args fun res up => RetK (ret st dst ex bor res up) fun v upd => GoodO E K (k (st.app dst v upd))

theorem stepO_good {E : Pr} {dp : Nat → Bool} {K : St → Prop} {o : Oper} {g : Gd} {R : St → Out} {R' : St → Prop} {st : St} (ih : ∀ st, GoodO E K (R st) → R' st)
    (h : GoodO E K (stepO E.T dp ⟨o.dst, o.op, g⟩ R st)) : exec1 E dp o R' st := by
  unfold stepO at h
  unfold exec1
  generalize eval E.T dp o.dst o.op (st.ev E.T) st.ob = e at h ⊢
  cases e with
  | stuck => exact h
  | nd => exact h.elim
  | det side v upd =>
    simp only at h ⊢
    cases hb : (st.newOk o.op o.dst && st.dstOk o.dst) with
    | false => rw [hb] at h; exact h.elim
    | true => rw [hb] at h; exact ⟨h.1, ih _ h.2⟩
  | call f args ex bor =>
    simp only at h ⊢
    cases hb : st.dstOk o.dst with
    | false => rw [hb] at h; exact h.elim
    | true =>
      rw [hb] at h
      refine ACall.mono h fun r u hq => ?_
      unfold RetK at hq
      split at hq
      · rename_i hr; simp only [hr]; exact ih _ hq
      · exact hq.elim

theorem runL_good {E : Pr} {dp : Nat → Bool} {ops : List Oper} {K : St → Prop} : ∀ (l : List Oper) (st : St), GoodO E K (runL E.T dp (slimL (dstL ops) l) st) → execL E dp ops.toArray l K st := by
  intro l
  induction l with
  | nil => intro st h; exact h
  | cons o l ih =>
    intro st h
    show execG E dp ops.toArray o (execL E dp ops.toArray l K) st
    simp only [slimL, runL, slimG_eq] at h
    unfold execG
    rw [guardL_eq]
    cases hg : guardL ops o with
    | free => rw [hg] at h; exact stepO_good ih h
    | bad => rw [hg] at h; exact h
    | slot g want =>
      rw [hg] at h
      simp only at h ⊢
      split at h
      · rename_i b hb
        rw [hb]
        simp only
        refine ⟨fun e => stepO_good ih (h.1 e), fun e => ?_⟩
        have := h.2 e
        simp only [skipO] at this
        cases hd : st.dstOk o.dst with
        | false => rw [show (st.app (some g) (.bool (!want)) []).dstOk o.dst = st.dstOk o.dst from rfl, hd] at this; exact this.elim
        | true => rw [show (st.app (some g) (.bool (!want)) []).dstOk o.dst = st.dstOk o.dst from rfl, hd] at this; exact ih _ this
      · rename_i hb
        rw [hb]
        simp only [skipO] at h ⊢
        cases hd : st.dstOk o.dst with
        | false => rw [hd] at h; exact h.elim
        | true => rw [hd] at h; exact ih _ h
      · exact h.elim

def useF (C : Foot → Bool) (ok : Bool) (side : Prop) (K : Foot → St → Out) (st : St) (f : Foot) : Out := bif C f && ok then .side side (K f st) else .stuck
def useK (C : Foot → Bool) (ok : Bool) (K : Foot → Out) (f : Foot) : Out := bif C f && ok then K f else .stuck

def callK (f : FuncId) (args : List Arg) (ex : List (Id × Id)) (bor : List Id) (dst : Option Nat) (st : St) (K : Foot → St → Out) (ft : Foot) : Out := .call f args ex bor dst st (K ft)

def stepF (T : Tab) (dp : Nat → Bool) (o : SOp) (C : Foot → Bool) (K : Foot → St → Out) (st : St) : Out :=
  match eval T dp o.dst o.op (st.ev T) st.ob with
  | .stuck => .stuck
  | .det side v upd => useF C (st.newOk o.op o.dst && st.dstOk o.dst) side K (st.app o.dst v upd) ⟨look T st o.op, newIds o.op o.dst ++ upd.map (·.1), none, false⟩
  | .nd _ => .stuck
  | .call f args ex bor => useK C (st.dstOk o.dst) (callK f args ex bor o.dst st K) ⟨look T st o.op, ex.map (·.1), o.dst, true⟩

def runT (T : Tab) (dp : Nat → Bool) (pairs : List (Nat × Nat)) : Nat → List SOp → Log → St → Out
  | _, [], _, st => .fin st
  | i, o :: l, log, st => bif involved pairs i then
      match o.gd with
      | .free => stepF T dp o (fun f => chk pairs i f log) (fun f => runT T dp pairs (i + 1) l ((i, f) :: log)) st
      | .bad => .stuck
      | .slot g want => match st.env g with
        | .s (.one (.val (.bool b))) => .br b want (stepF T dp o (fun f => chk pairs i f log) (fun f => runT T dp pairs (i + 1) l ((i, f) :: log))) (st.app (some g) (.bool want) [])
            (skipO o (runT T dp pairs (i + 1) l ((i, ⟨[], [], none, false⟩) :: log))) (st.app (some g) (.bool (!want)) [])
        | .s (.one (.val (.tuple ⟨[]⟩))) => skipO o (runT T dp pairs (i + 1) l ((i, ⟨[], [], none, false⟩) :: log)) st
        | _ => .stuck
    else match o.gd with
      | .free => stepO T dp o (runT T dp pairs (i + 1) l log) st
      | .bad => .stuck
      | .slot g want => match st.env g with
        | .s (.one (.val (.bool b))) => .br b want (stepO T dp o (runT T dp pairs (i + 1) l log)) (st.app (some g) (.bool want) [])
            (skipO o (runT T dp pairs (i + 1) l log)) (st.app (some g) (.bool (!want)) [])
        | .s (.one (.val (.tuple ⟨[]⟩))) => skipO o (runT T dp pairs (i + 1) l log) st
        | _ => .stuck

def chkF (pairs : List (Nat × Nat)) (i : Nat) (log : Log) (f : Foot) : Bool := chk pairs i f log
def nextF (T : Tab) (dp : Nat → Bool) (pairs : List (Nat × Nat)) (i : Nat) (l : List SOp) (log : Log) (f : Foot) (st : St) : Out := runT T dp pairs (i + 1) l ((i, f) :: log) st

theorem stepF_good {E : Pr} {dp : Nat → Bool} {K : St → Prop} {o : Oper} {g : Gd} {C : Foot → Bool} {R : Foot → St → Out} {R' : Foot → St → Prop} {st : St} (ih : ∀ f st, GoodO E K (R f st) → R' f st)
    (h : GoodO E K (stepF E.T dp ⟨o.dst, o.op, g⟩ C R st)) : C (footE E.T st o (some (eval E.T dp o.dst o.op (st.ev E.T) st.ob))) = true ∧ exec1 E dp o (R' (footE E.T st o (some (eval E.T dp o.dst o.op (st.ev E.T) st.ob)))) st := by
  unfold stepF at h
  unfold exec1
  generalize eval E.T dp o.dst o.op (st.ev E.T) st.ob = e at h ⊢
  cases e with
  | stuck => exact h.elim
  | nd => exact h.elim
  | det side v upd =>
    simp only [useF] at h
    simp only [footE]
    cases hc : C ⟨look E.T st o.op, newIds o.op o.dst ++ upd.map (·.1), none, false⟩ with
    | false => rw [hc] at h; exact h.elim
    | true =>
      rw [hc] at h
      cases hb : (st.newOk o.op o.dst && st.dstOk o.dst) with
      | false => rw [hb] at h; exact h.elim
      | true => rw [hb] at h; exact ⟨rfl, h.1, ih _ _ h.2⟩
  | call f args ex bor =>
    simp only [useK] at h
    simp only [footE]
    cases hc : C ⟨look E.T st o.op, ex.map (·.1), o.dst, true⟩ with
    | false => rw [hc] at h; exact h.elim
    | true =>
      rw [hc] at h
      cases hb : st.dstOk o.dst with
      | false => rw [hb] at h; exact h.elim
      | true =>
        rw [hb] at h
        refine ⟨rfl, ACall.mono h fun r u hq => ?_⟩
        unfold RetK at hq
        split at hq
        · rename_i hr; simp only [hr]; exact ih _ _ hq
        · exact hq.elim

theorem runT_good {E : Pr} {dp : Nat → Bool} {ops : List Oper} {pairs : List (Nat × Nat)} {K : St → Prop} : ∀ (l : List Oper) (i : Nat) (log : Log) (st : St), GoodO E K (runT E.T dp pairs i (slimL (dstL ops) l) log st) → execT E dp ops.toArray pairs i l log K st := by
  intro l
  induction l with
  | nil => intro i log st h; exact h
  | cons o l ih =>
    intro i log st h
    simp only [slimL, runT, slimG_eq] at h
    simp only [execT]
    cases hi : involved pairs i with
    | true =>
      rw [hi] at h
      simp only [cond_true] at h ⊢
      unfold stepT
      rw [guardL_eq]
      cases hg : guardL ops o with
      | free => rw [hg] at h; exact stepF_good (fun f st hf => ih _ _ _ hf) h
      | bad => rw [hg] at h; exact h
      | slot g want =>
        rw [hg] at h
        simp only at h ⊢
        split at h
        · rename_i b hb
          rw [hb]
          simp only
          refine ⟨fun e => stepF_good (fun f st hf => ih _ _ _ hf) (h.1 e), fun e => ?_⟩
          have := h.2 e
          simp only [skipO] at this
          cases hd : st.dstOk o.dst with
          | false => rw [show (st.app (some g) (.bool (!want)) []).dstOk o.dst = st.dstOk o.dst from rfl, hd] at this; exact this.elim
          | true => rw [show (st.app (some g) (.bool (!want)) []).dstOk o.dst = st.dstOk o.dst from rfl, hd] at this; exact ih _ _ _ this
        · rename_i hb
          rw [hb]
          simp only [skipO] at h ⊢
          cases hd : st.dstOk o.dst with
          | false => rw [hd] at h; exact h.elim
          | true => rw [hd] at h; exact ih _ _ _ h
        · exact h.elim
    | false =>
      rw [hi] at h
      simp only [cond_false] at h ⊢
      unfold execG
      rw [guardL_eq]
      cases hg : guardL ops o with
      | free => rw [hg] at h; exact stepO_good (fun st hf => ih _ _ _ hf) h
      | bad => rw [hg] at h; exact h
      | slot g want =>
        rw [hg] at h
        simp only at h ⊢
        split at h
        · rename_i b hb
          rw [hb]
          simp only
          refine ⟨fun e => stepO_good (fun st hf => ih _ _ _ hf) (h.1 e), fun e => ?_⟩
          have := h.2 e
          simp only [skipO] at this
          cases hd : st.dstOk o.dst with
          | false => rw [show (st.app (some g) (.bool (!want)) []).dstOk o.dst = st.dstOk o.dst from rfl, hd] at this; exact this.elim
          | true => rw [show (st.app (some g) (.bool (!want)) []).dstOk o.dst = st.dstOk o.dst from rfl, hd] at this; exact ih _ _ _ this
        · rename_i hb
          rw [hb]
          simp only [skipO] at h ⊢
          cases hd : st.dstOk o.dst with
          | false => rw [hd] at h; exact h.elim
          | true => rw [hd] at h; exact ih _ _ _ h
        · exact h.elim

theorem goodO_congr {E : Pr} {K : St → Prop} {o o' : Out} (h : o = o') : GoodO E K o = GoodO E K o' := by rw [h]

theorem good_call {E : Pr} {K : St → Prop} {f : FuncId} {args : List Arg} {ex : List (Id × Id)} {bor : List Id} {dst : Option Nat} {st : St} {k : St → Out} {r : Res} {u : List Arg} (h : ACall E f args fun r' u' => r' = r ∧ u' = u)
    (hk : RetK (ret st dst ex bor r u) fun v upd => GoodO E K (k (st.app dst v upd))) : GoodO E K (.call f args ex bor dst st k) :=
  ACall.det h hk

theorem good_callE {E : Pr} {K : St → Prop} {f : FuncId} {args : List Arg} {ex : List (Id × Id)} {bor : List Id} {dst : Option Nat} {st : St} {k : St → Out} {R : Res → List Arg → Prop} (h : ACall E f args R)
    (hk : ∀ r u, R r u → RetK (ret st dst ex bor r u) fun v upd => GoodO E K (k (st.app dst v upd))) : GoodO E K (.call f args ex bor dst st k) :=
  ACall.mono h hk

@[go_sem] theorem goodO_side (E : Pr) (K : St → Prop) (p : Prop) (o : Out) : GoodO E K (.side p o) = (p ∧ GoodO E K o) := rfl
@[go_sem] theorem goodO_fin (E : Pr) (K : St → Prop) (st : St) : GoodO E K (.fin st) = K st := rfl
@[go_sem] theorem goodO_br (E : Pr) (K : St → Prop) (b want : Bool) (k1 k2 : St → Out) (s1 s2 : St) : GoodO E K (.br b want k1 s1 k2 s2) = gsplit b want (GoodO E K (k1 s1)) (GoodO E K (k2 s2)) := rfl
attribute [go_sem] obP getP pushO V.undef V.ids V1.ids C.ids isGo lkV

def selOk (b : Bool) (side : Prop) (K : St → Out) (st : St) : Out := bif b then .side side (K st) else .stuck
def selSk (b : Bool) (K : St → Out) (st : St) : Out := bif b then K st else .stuck
def selCl (b : Bool) (f : FuncId) (args : List Arg) (ex : List (Id × Id)) (bor : List Id) (dst : Option Nat) (st : St) (K : St → Out) : Out := bif b then .call f args ex bor dst st K else .stuck
def selE (o : SOp) (st : St) (K : St → Out) : Ev → Out
  | .det side v upd => selOk (st.newOk o.op o.dst && st.dstOk o.dst) side K (st.app o.dst v upd)
  | .call f args ex bor => selCl (st.dstOk o.dst) f args ex bor o.dst st K
  | _ => .stuck
def selF (b : Bool) (side : Prop) (K : Foot → St → Out) (st : St) (f : Foot) : Out := bif b then .side side (K f st) else .stuck
def selFC (b : Bool) (f : FuncId) (args : List Arg) (ex : List (Id × Id)) (bor : List Id) (dst : Option Nat) (st : St) (K : Foot → St → Out) (ft : Foot) : Out := bif b then .call f args ex bor dst st (K ft) else .stuck
def selX (T : Tab) (o : SOp) (st : St) (C : Foot → Bool) (K : Foot → St → Out) : Ev → Out
  | .det side v upd => useF C (st.newOk o.op o.dst && st.dstOk o.dst) side K (st.app o.dst v upd) ⟨look T st o.op, newIds o.op o.dst ++ upd.map (·.1), none, false⟩
  | .call f args ex bor => useK C (st.dstOk o.dst) (callK f args ex bor o.dst st K) ⟨look T st o.op, ex.map (·.1), o.dst, true⟩
  | _ => .stuck
def selV (k1 k2 : St → Out) (g : Nat) (want : Bool) (st : St) : V → Out
  | .s (.one (.val (.bool b))) => .br b want k1 (st.app (some g) (.bool want) []) k2 (st.app (some g) (.bool (!want)) [])
  | .s (.one (.val (.tuple ⟨[]⟩))) => k2 st
  | _ => .stuck
def selGd (k1 k2 : St → Out) (st : St) : Gd → Out
  | .free => k1 st
  | .bad => .stuck
  | .slot g want => selV k1 k2 g want st (st.env g)
def selT (T : Tab) (dp : Nat → Bool) (pairs : List (Nat × Nat)) (i : Nat) (o : SOp) (l : List SOp) (log : Log) (st : St) : Bool → Out
  | true => selGd (stepF T dp o (chkF pairs i log) (nextF T dp pairs i l log)) (skipO o (runT T dp pairs (i + 1) l ((i, ⟨[], [], none, false⟩) :: log))) st o.gd
  | false => selGd (stepO T dp o (runT T dp pairs (i + 1) l log)) (skipO o (runT T dp pairs (i + 1) l log)) st o.gd

section
variable (T : Tab) (dp : Nat → Bool) (pairs : List (Nat × Nat)) (i : Nat) (o : SOp) (l : List SOp) (log : Log) (st : St) (K : St → Out) (KF : Foot → St → Out) (C : Foot → Bool) (side : Prop) (v : V) (upd : List (Id × Option Obj)) (f : FuncId) (args : List Arg) (ex : List (Id × Id)) (bor : List Id) (dst : Option Nat) (ft : Foot) (k1 k2 : St → Out) (g : Nat) (want b : Bool)
@[go_sem] theorem selOk_t : selOk true side K st = .side side (K st) := rfl
@[go_sem] theorem selSk_t : selSk true K st = K st := rfl
@[go_sem] theorem selCl_t : selCl true f args ex bor dst st K = .call f args ex bor dst st K := rfl
@[go_sem] theorem selE_det : selE o st K (.det side v upd) = selOk (st.newOk o.op o.dst && st.dstOk o.dst) side K (st.app o.dst v upd) := rfl
@[go_sem] theorem selE_call : selE o st K (.call f args ex bor) = selCl (st.dstOk o.dst) f args ex bor o.dst st K := rfl
@[go_sem] theorem selF_t : selF true side KF st ft = .side side (KF ft st) := rfl
@[go_sem] theorem selFC_t : selFC true f args ex bor dst st KF ft = .call f args ex bor dst st (KF ft) := rfl
@[go_sem] theorem selX_det : selX T o st C KF (.det side v upd) = useF C (st.newOk o.op o.dst && st.dstOk o.dst) side KF (st.app o.dst v upd) ⟨look T st o.op, newIds o.op o.dst ++ upd.map (·.1), none, false⟩ := rfl
@[go_sem] theorem selX_call : selX T o st C KF (.call f args ex bor) = useK C (st.dstOk o.dst) (callK f args ex bor o.dst st KF) ⟨look T st o.op, ex.map (·.1), o.dst, true⟩ := rfl
@[go_sem] theorem selV_bool : selV k1 k2 g want st (.s (.one (.val (.bool b)))) = .br b want k1 (st.app (some g) (.bool want) []) k2 (st.app (some g) (.bool (!want)) []) := rfl
@[go_sem] theorem selV_undef : selV k1 k2 g want st (.s (.one (.val (.tuple ⟨[]⟩)))) = k2 st := rfl
@[go_sem] theorem selGd_free : selGd k1 k2 st .free = k1 st := rfl
@[go_sem] theorem selGd_slot : selGd k1 k2 st (.slot g want) = selV k1 k2 g want st (st.env g) := rfl
@[go_sem] theorem selT_t : selT T dp pairs i o l log st true = selGd (stepF T dp o (chkF pairs i log) (nextF T dp pairs i l log)) (skipO o (runT T dp pairs (i + 1) l ((i, ⟨[], [], none, false⟩) :: log))) st o.gd := rfl
@[go_sem] theorem selT_f : selT T dp pairs i o l log st false = selGd (stepO T dp o (runT T dp pairs (i + 1) l log)) (skipO o (runT T dp pairs (i + 1) l log)) st o.gd := rfl
@[go_sem] theorem stepO_eq : stepO T dp o K st = selE o st K (eval T dp o.dst o.op (st.ev T) st.ob) := by
  unfold stepO selE
  cases eval T dp o.dst o.op (st.ev T) st.ob <;> rfl
@[go_sem] theorem skipO_eq : skipO o K st = selSk (st.dstOk o.dst) K (st.app o.dst .undef []) := rfl
@[go_sem] theorem stepF_eq : stepF T dp o C KF st = selX T o st C KF (eval T dp o.dst o.op (st.ev T) st.ob) := by
  unfold stepF selX
  cases eval T dp o.dst o.op (st.ev T) st.ob <;> rfl
@[go_sem] theorem callK_eq : callK f args ex bor dst st KF ft = .call f args ex bor dst st (KF ft) := rfl
@[go_sem] theorem useF_eq (ok : Bool) : useF C ok side KF st ft = selF (C ft && ok) side KF st ft := rfl
@[go_sem] theorem useK_eq (ok : Bool) : useK C ok (callK f args ex bor dst st KF) ft = selFC (C ft && ok) f args ex bor dst st KF ft := rfl
@[go_sem] theorem chkF_eq : chkF pairs i log ft = chk pairs i ft log := rfl
@[go_sem] theorem nextF_eq : nextF T dp pairs i l log ft st = runT T dp pairs (i + 1) l ((i, ft) :: log) st := rfl
@[go_sem] theorem runL_nil : runL T dp [] st = .fin st := rfl
@[go_sem] theorem runL_cons : runL T dp (o :: l) st = selGd (stepO T dp o (runL T dp l)) (skipO o (runL T dp l)) st o.gd := by
  simp only [runL]
  cases o.gd with
  | free => rfl
  | bad => rfl
  | slot g want =>
    simp only [selGd]
    unfold selV
    split <;> rfl
@[go_sem] theorem runT_nil : runT T dp pairs i [] log st = .fin st := rfl
@[go_sem] theorem runT_cons : runT T dp pairs i (o :: l) log st = selT T dp pairs i o l log st (involved pairs i) := by
  simp only [runT]
  cases involved pairs i with
  | true =>
    simp only [cond_true, selT]
    cases o.gd with
    | free => rfl
    | bad => rfl
    | slot g want =>
      simp only [selGd]
      unfold selV
      split <;> rfl
  | false =>
    simp only [cond_false, selT]
    cases o.gd with
    | free => rfl
    | bad => rfl
    | slot g want =>
      simp only [selGd]
      unfold selV
      split <;> rfl
end

theorem retK_congr {o o' : Option (V × List (Id × Option Obj))} {p : V → List (Id × Option Obj) → Prop} (h : o = o') : RetK o p = RetK o' p := by rw [h]
theorem call_congr {f : FuncId} {args args' : List Arg} {ex ex' : List (Id × Id)} {bor bor' : List Id} {dst : Option Nat} {st st' : St} {k : St → Out} (h1 : args = args') (h2 : ex = ex') (h3 : bor = bor') (h4 : st = st') : Out.call f args ex bor dst st k = Out.call f args' ex' bor' dst st' k := by rw [h1, h2, h3, h4]
attribute [congr] call_congr goodO_congr retK_congr
@[go_sem ↓] theorem retK_some (x : V × List (Id × Option Obj)) (p : V → List (Id × Option Obj) → Prop) : RetK (some x) p = p x.1 x.2 := rfl

section
variable {E : Pr} (hT : TabOk E.P E.T) (dp : Nat → Bool) {Q : Exit → St → Prop} {st : St}

theorem execL_mono {E : Pr} {dp : Nat → Bool} {ops : Array Oper} {K K' : St → Prop} (hk : ∀ s, K s → K' s) : ∀ (l : List Oper) (s : St), execL E dp ops l K s → execL E dp ops l K' s := by
  intro l
  induction l with
  | nil => intro s hs; exact hk _ hs
  | cons o l ih => intro s hs; exact execG_mono ih hs

include hT

theorem awp_textS {id : Nat} {ops : Array Oper} (h : execL E dp ops ops.toList (fun s => ∃ s', Sub E s s' ∧ Q .normal s') st) : Awp E (.region id ops false) Q st := fun B ow σ a w hi =>
  region_text hT hi h fun ow2 σ2 st2 a2 w2 ⟨s', hs, hq⟩ h2 => let ⟨ow3, σ3, h3⟩ := hs B ow2 σ2 a2 w2 h2; ⟨ow3, σ3, s', hq, h3⟩

theorem awp_drawS (hm : E.P.follows .mixedOrders = true) {id : Nat} {ops : Array Oper} (clo : List (List Nat)) (pairs : List (Nat × Nat)) (hf : fineB ops clo pairs = true) (h : execT E dp ops pairs 0 ops.toList [] (fun s => ∃ s', Sub E s s' ∧ Q .normal s') st) :
    Awp E (.region id ops true) Q st := fun B ow σ a w hi =>
  region_drawn hT hm hf hi h fun ow2 σ2 st2 a2 w2 ⟨s', hs, hq⟩ h2 => let ⟨ow3, σ3, h3⟩ := hs B ow2 σ2 a2 w2 h2; ⟨ow3, σ3, s', hq, h3⟩

def renFine (ren : List (Id × Id)) : Bool := nodupI (ren.map (·.1)) && nodupI (ren.map (·.2)) && renOk ren

omit hT in
theorem sub_fine {ren : List (Id × Id)} {keep : List Nat} (h : renFine ren = true) : Sub E st (norm ren keep st) := by
  simp only [renFine, Bool.and_eq_true] at h
  exact sub_norm h.1.1 h.1.2 h.2

omit hT in

def AfterN (E : Pr) (y : Code) (Q : Exit → St → Prop) (ren : List (Id × Id)) (keep : List Nat) (s : St) : Prop := Awp E y Q (norm ren keep s)
omit hT in
def EndN (Q : Exit → St → Prop) (ren : List (Id × Id)) (keep : List Nat) (s : St) : Prop := Q .normal (norm ren keep s)
omit hT in
def FamN {ι : Type} (S : ι → St) (P : ι → Prop) (ren : List (Id × Id)) (keep : List Nat) (s : St) : Prop := ∃ i, P i ∧ norm ren keep s = S i
omit hT in
def Fam0 (S : St) (ren : List (Id × Id)) (keep : List Nat) (s : St) : Prop := norm ren keep s = S

theorem gt1 (ren : List (Id × Id)) (keep : List Nat) {id : Nat} {l : List Oper} (h1 : renFine ren = true) {sl : List SOp} (h : GoodO E (EndN Q ren keep) (runL E.T dp sl st)) (hl : slimL (dstL l) l = sl := by conv => lhs; simp only [dstL, slimL, slimG, atL, cond_true, cond_false, beq_self_eq_true, Nat.reduceBEq, Nat.reduceSub]) : Awp E (.region id l.toArray false) Q st :=
  awp_textS hT dp (execL_mono (fun s hs => ⟨_, sub_fine h1, hs⟩) _ _ (runL_good (ops := l) (l.toArray.toList) st (hl ▸ h)))

theorem gt (ren : List (Id × Id)) (keep : List Nat) {id : Nat} {l : List Oper} {y : Code} (h1 : renFine ren = true) {sl : List SOp} (h : GoodO E (AfterN E y Q ren keep) (runL E.T dp sl st)) (hl : slimL (dstL l) l = sl := by conv => lhs; simp only [dstL, slimL, slimG, atL, cond_true, cond_false, beq_self_eq_true, Nat.reduceBEq, Nat.reduceSub]) : Awp E (.seq (.region id l.toArray false) y) Q st :=
  awp_seq (gt1 hT dp ren keep h1 h hl)

theorem gtc {ι : Type} (S : ι → St) (P : ι → Prop) (ren : List (Id × Id)) (keep : List Nat) {id : Nat} {l : List Oper} {y : Code} (h1 : renFine ren = true) {sl : List SOp} (h : GoodO E (FamN S P ren keep) (runL E.T dp sl st)) (h2 : ∀ i, P i → Awp E y Q (S i)) (hl : slimL (dstL l) l = sl := by conv => lhs; simp only [dstL, slimL, slimG, atL, cond_true, cond_false, beq_self_eq_true, Nat.reduceBEq, Nat.reduceSub]) : Awp E (.seq (.region id l.toArray false) y) Q st :=
  awp_seq (awp_textS hT dp (execL_mono (fun s ⟨i, hp, he⟩ => ⟨S i, he ▸ sub_fine h1, h2 i hp⟩) _ _ (runL_good (ops := l) (l.toArray.toList) st (hl ▸ h))))

theorem gtc0 (S : St) (ren : List (Id × Id)) (keep : List Nat) {id : Nat} {l : List Oper} {y : Code} (h1 : renFine ren = true) {sl : List SOp} (h : GoodO E (Fam0 S ren keep) (runL E.T dp sl st)) (h2 : Awp E y Q S) (hl : slimL (dstL l) l = sl := by conv => lhs; simp only [dstL, slimL, slimG, atL, cond_true, cond_false, beq_self_eq_true, Nat.reduceBEq, Nat.reduceSub]) : Awp E (.seq (.region id l.toArray false) y) Q st :=
  awp_seq (awp_textS hT dp (execL_mono (K := Fam0 S ren keep) (fun s he => ⟨S, he ▸ sub_fine h1, h2⟩) _ _ (runL_good (ops := l) (l.toArray.toList) st (hl ▸ h))))

theorem gtc01 (S : St) (ren : List (Id × Id)) (keep : List Nat) {id : Nat} {l : List Oper} (h1 : renFine ren = true) {sl : List SOp} (h : GoodO E (Fam0 S ren keep) (runL E.T dp sl st)) (h2 : Q .normal S) (hl : slimL (dstL l) l = sl := by conv => lhs; simp only [dstL, slimL, slimG, atL, cond_true, cond_false, beq_self_eq_true, Nat.reduceBEq, Nat.reduceSub]) : Awp E (.region id l.toArray false) Q st :=
  awp_textS hT dp (execL_mono (K := Fam0 S ren keep) (fun s he => ⟨S, he ▸ sub_fine h1, h2⟩) _ _ (runL_good (ops := l) (l.toArray.toList) st (hl ▸ h)))

theorem execT_mono {E : Pr} {dp : Nat → Bool} {ops : Array Oper} {pairs : List (Nat × Nat)} {K K' : St → Prop} (hk : ∀ s, K s → K' s) : ∀ (l : List Oper) (i : Nat) (log : Log) (s : St), execT E dp ops pairs i l log K s → execT E dp ops pairs i l log K' s := by
  have _ := hT
  intro l
  induction l with
  | nil => intro i log s hs; exact hk _ hs
  | cons o l ih =>
    intro i log s hs
    simp only [execT] at hs ⊢
    cases hi : involved pairs i with
    | true =>
      rw [hi] at hs
      simp only [cond_true] at hs ⊢
      unfold stepT at hs ⊢
      cases hg : guardOf ops o with
      | free => rw [hg] at hs; exact ⟨hs.1, exec1_mono (ih _ _) hs.2⟩
      | bad => rw [hg] at hs; exact hs
      | slot g want =>
        rw [hg] at hs
        simp only at hs ⊢
        split at hs
        · refine ⟨fun e => ⟨(hs.1 e).1, exec1_mono (ih _ _) (hs.1 e).2⟩, fun e => ?_⟩
          have := hs.2 e
          cases hd : s.dstOk o.dst with
          | false => rw [hd] at this; exact this.elim
          | true => rw [hd] at this; exact ih _ _ _ this
        · cases hd : s.dstOk o.dst with
          | false => rw [hd] at hs; exact hs.elim
          | true => rw [hd] at hs; exact ih _ _ _ hs
        · exact hs.elim
    | false => rw [hi] at hs; exact execG_mono (ih _ _) hs

theorem gd1 (hm : E.P.follows .mixedOrders = true) (ren : List (Id × Id)) (keep : List Nat) (pairs : List (Nat × Nat)) {id : Nat} {l : List Oper} (h1 : renFine ren = true) (hf : fineB l.toArray (cloOf l) pairs = true)
    {sl : List SOp} (h : GoodO E (EndN Q ren keep) (runT E.T dp pairs 0 sl [] st)) (hl : slimL (dstL l) l = sl := by conv => lhs; simp only [dstL, slimL, slimG, atL, cond_true, cond_false, beq_self_eq_true, Nat.reduceBEq, Nat.reduceSub]) : Awp E (.region id l.toArray true) Q st :=
  awp_drawS hT dp hm (cloOf l) pairs hf (execT_mono (hT := hT) (fun s hs => ⟨_, sub_fine h1, hs⟩) _ _ _ _ (runT_good (ops := l) (l.toArray.toList) 0 [] st (hl ▸ h)))

theorem gd (hm : E.P.follows .mixedOrders = true) (ren : List (Id × Id)) (keep : List Nat) (pairs : List (Nat × Nat)) {id : Nat} {l : List Oper} {y : Code} (h1 : renFine ren = true) (hf : fineB l.toArray (cloOf l) pairs = true)
    {sl : List SOp} (h : GoodO E (AfterN E y Q ren keep) (runT E.T dp pairs 0 sl [] st)) (hl : slimL (dstL l) l = sl := by conv => lhs; simp only [dstL, slimL, slimG, atL, cond_true, cond_false, beq_self_eq_true, Nat.reduceBEq, Nat.reduceSub]) : Awp E (.seq (.region id l.toArray true) y) Q st :=
  awp_seq (gd1 hT dp hm ren keep pairs h1 hf h hl)

theorem gdc {ι : Type} (S : ι → St) (P : ι → Prop) (hm : E.P.follows .mixedOrders = true) (ren : List (Id × Id)) (keep : List Nat) (pairs : List (Nat × Nat)) {id : Nat} {l : List Oper} {y : Code} (h1 : renFine ren = true) (hf : fineB l.toArray (cloOf l) pairs = true)
    {sl : List SOp} (h : GoodO E (FamN S P ren keep) (runT E.T dp pairs 0 sl [] st)) (h2 : ∀ i, P i → Awp E y Q (S i)) (hl : slimL (dstL l) l = sl := by conv => lhs; simp only [dstL, slimL, slimG, atL, cond_true, cond_false, beq_self_eq_true, Nat.reduceBEq, Nat.reduceSub]) : Awp E (.seq (.region id l.toArray true) y) Q st :=
  awp_seq (awp_drawS hT dp hm (cloOf l) pairs hf (execT_mono (hT := hT) (fun s ⟨i, hp, he⟩ => ⟨S i, he ▸ sub_fine h1, h2 i hp⟩) _ _ _ _ (runT_good (ops := l) (l.toArray.toList) 0 [] st (hl ▸ h))))

omit hT in
theorem execT_none {E : Pr} {dp : Nat → Bool} {ops : Array Oper} {K : St → Prop} : ∀ (l : List Oper) (i : Nat) (log : Log) (s : St), execL E dp ops l K s → execT E dp ops [] i l log K s := by
  intro l
  induction l with
  | nil => intro i log s hs; exact hs
  | cons o l ih => intro i log s hs; exact execG_mono (ih (i + 1) log) hs

theorem ge1 (hm : E.P.follows .mixedOrders = true) (ren : List (Id × Id)) (keep : List Nat) {id : Nat} {l : List Oper} (h1 : renFine ren = true) (hf : fineB l.toArray (cloOf l) [] = true)
    {sl : List SOp} (h : GoodO E (EndN Q ren keep) (runL E.T dp sl st)) (hl : slimL (dstL l) l = sl := by conv => lhs; simp only [dstL, slimL, slimG, atL, cond_true, cond_false, beq_self_eq_true, Nat.reduceBEq, Nat.reduceSub]) : Awp E (.region id l.toArray true) Q st :=
  awp_drawS hT dp hm (cloOf l) [] hf (execT_none _ _ _ _ (execL_mono (fun s hs => ⟨_, sub_fine h1, hs⟩) _ _ (runL_good (ops := l) (l.toArray.toList) st (hl ▸ h))))
theorem ge (hm : E.P.follows .mixedOrders = true) (ren : List (Id × Id)) (keep : List Nat) {id : Nat} {l : List Oper} {y : Code} (h1 : renFine ren = true) (hf : fineB l.toArray (cloOf l) [] = true)
    {sl : List SOp} (h : GoodO E (AfterN E y Q ren keep) (runL E.T dp sl st)) (hl : slimL (dstL l) l = sl := by conv => lhs; simp only [dstL, slimL, slimG, atL, cond_true, cond_false, beq_self_eq_true, Nat.reduceBEq, Nat.reduceSub]) : Awp E (.seq (.region id l.toArray true) y) Q st :=
  awp_seq (ge1 hT dp hm ren keep h1 hf h hl)
theorem gec {ι : Type} (S : ι → St) (P : ι → Prop) (hm : E.P.follows .mixedOrders = true) (ren : List (Id × Id)) (keep : List Nat) {id : Nat} {l : List Oper} {y : Code} (h1 : renFine ren = true) (hf : fineB l.toArray (cloOf l) [] = true)
    {sl : List SOp} (h : GoodO E (FamN S P ren keep) (runL E.T dp sl st)) (h2 : ∀ i, P i → Awp E y Q (S i)) (hl : slimL (dstL l) l = sl := by conv => lhs; simp only [dstL, slimL, slimG, atL, cond_true, cond_false, beq_self_eq_true, Nat.reduceBEq, Nat.reduceSub]) : Awp E (.seq (.region id l.toArray true) y) Q st :=
  awp_seq (awp_drawS hT dp hm (cloOf l) [] hf (execT_none _ _ _ _ (execL_mono (fun s ⟨i, hp, he⟩ => ⟨S i, he ▸ sub_fine h1, h2 i hp⟩) _ _ (runL_good (ops := l) (l.toArray.toList) st (hl ▸ h)))))
theorem gec0 (S : St) (hm : E.P.follows .mixedOrders = true) (ren : List (Id × Id)) (keep : List Nat) {id : Nat} {l : List Oper} {y : Code} (h1 : renFine ren = true) (hf : fineB l.toArray (cloOf l) [] = true)
    {sl : List SOp} (h : GoodO E (Fam0 S ren keep) (runL E.T dp sl st)) (h2 : Awp E y Q S) (hl : slimL (dstL l) l = sl := by conv => lhs; simp only [dstL, slimL, slimG, atL, cond_true, cond_false, beq_self_eq_true, Nat.reduceBEq, Nat.reduceSub]) : Awp E (.seq (.region id l.toArray true) y) Q st :=
  awp_seq (awp_drawS hT dp hm (cloOf l) [] hf (execT_none _ _ _ _ (execL_mono (K := Fam0 S ren keep) (fun s he => ⟨S, he ▸ sub_fine h1, h2⟩) _ _ (runL_good (ops := l) (l.toArray.toList) st (hl ▸ h)))))

omit hT
section
variable (E) (y : Code) (Q) (ren : List (Id × Id)) (keep : List Nat) (nt : Nat) (e : List (Nat × V)) (o : List (Id × Option Obj))
@[go_sem] theorem afterN_m : AfterN E y Q ren keep (St.m nt e o) = Awp E y Q (norm ren keep (St.m nt e o)) := rfl
@[go_sem] theorem endN_m : EndN Q ren keep (St.m nt e o) = Q .normal (norm ren keep (St.m nt e o)) := rfl
@[go_sem] theorem famN_m {ι : Type} (S : ι → St) (P : ι → Prop) : FamN S P ren keep (St.m nt e o) = ∃ i, P i ∧ norm ren keep (St.m nt e o) = S i := rfl
@[go_sem] theorem fam0_m (S : St) : Fam0 S ren keep (St.m nt e o) = (norm ren keep (St.m nt e o) = S) := rfl
end

theorem gif {c : Operand} {x y z : Code} {b : Bool} (hc : boolV (st.ev E.T c) = some b) (h1 : b = true → Awp E x (thenA (Awp E z Q) Q) st) (h2 : b = false → Awp E y (thenA (Awp E z Q) Q) st) : Awp E (.seq (.cond c x y) z) Q st :=
  awp_seq (awp_cond hc h1 h2)

theorem gif1 {c : Operand} {x z : Code} {b : Bool} (hc : boolV (st.ev E.T c) = some b) (h1 : b = true → Awp E x (thenA (Awp E z Q) Q) st) (h2 : b = false → Awp E z Q st) : Awp E (.seq (.cond c x .skip) z) Q st :=
  awp_seq (awp_cond hc h1 fun h => awp_skip (h2 h))

theorem gif2 {c : Operand} {id : Nat} {z : Code} {b : Bool} (hc : boolV (st.ev E.T c) = some b) (h1 : b = true → Awp E z Q st) (h2 : b = false → Q (.exit id) st) : Awp E (.seq (.cond c .skip (.exit id)) z) Q st :=
  awp_seq (awp_cond hc (fun h => awp_skip (h1 h)) fun h => awp_exit (h2 h))

theorem gcut {ι : Type} (S : ι → St) (P : ι → Prop) {x y : Code} (h : Awp E x (thenA (fun s => ∃ i, P i ∧ Sub E s (S i)) Q) st) (h2 : ∀ i, P i → Awp E y Q (S i)) : Awp E (.seq x y) Q st :=
  awp_seq (awp_mono (fun e s hq => by
    cases e with
    | normal => obtain ⟨i, hp, hs⟩ := hq; exact awp_sub hs (h2 i hp)
    | _ => exact hq) h)

theorem gcut0 (S : St) {x y : Code} (h : Awp E x (thenA (fun s => Sub E s S) Q) st) (h2 : Awp E y Q S) : Awp E (.seq x y) Q st :=
  awp_seq (awp_mono (fun e s hq => by
    cases e with
    | normal => exact awp_sub hq h2
    | _ => exact hq) h)

theorem gcutP (p : Prop) (S : St) {x y : Code} (h : Awp E x (thenA (fun s => p ∧ Sub E s S) Q) st) (h2 : p → Awp E y Q S) : Awp E (.seq x y) Q st :=
  awp_seq (awp_mono (fun e s hq => by
    cases e with
    | normal => exact awp_sub hq.2 (h2 hq.1)
    | _ => exact hq) h)

theorem gblk {id : Nat} {x y : Code} (h : Awp E x (inBlockA id (thenA (Awp E y Q) Q)) st) : Awp E (.seq (.block id x) y) Q st := awp_seq (awp_block h)

theorem gloop {ι : Type} (S : ι → St) (P : ι → Prop) (μ : ι → Nat) (i0 : ι) {id : Nat} {c y : Code} (h0 : Sub E st (S i0)) (hp : P i0)
    (round : ∀ i, P i → Awp E c (thenA (fun s => ∃ j, P j ∧ μ j < μ i ∧ Sub E s (S j)) (inBlockA id (thenA (Awp E y Q) Q))) (S i)) : Awp E (.seq (.block id (.loop c)) y) Q st :=
  gblk (awp_loop (ι := { i // P i }) (fun i => S i.1) (fun i => μ i.1) ⟨i0, hp⟩ h0 fun i => awp_mono (fun e s hq => by
    cases e with
    | normal => obtain ⟨j, hpj, hlt, hs⟩ := hq; exact ⟨⟨j, hpj⟩, hs, hlt⟩
    | _ => exact hq) (round i.1 i.2))

theorem sub_norm' {s : St} (ren : List (Id × Id)) (keep : List Nat) (h : renFine ren = true) (he : norm ren keep st = s) : Sub E st s := he ▸ sub_fine h

theorem sub_eq {s : St} (h : st = s) : Sub E st s := h ▸ sub_refl
end

theorem gloop1 {E : Pr} {Q : Exit → St → Prop} {st : St} {ι : Type} (S : ι → St) (P : ι → Prop) (μ : ι → Nat) (i0 : ι) {id : Nat} {c : Code} (h0 : Sub E st (S i0)) (hp : P i0)
    (round : ∀ i, P i → Awp E c (thenA (fun s => ∃ j, P j ∧ μ j < μ i ∧ Sub E s (S j)) (inBlockA id Q)) (S i)) : Awp E (.block id (.loop c)) Q st :=
  awp_block (awp_loop (ι := { i // P i }) (fun i => S i.1) (fun i => μ i.1) ⟨i0, hp⟩ h0 fun i => awp_mono (fun e s hq => by
    cases e with
    | normal => obtain ⟨j, hpj, hlt, hs⟩ := hq; exact ⟨⟨j, hpj⟩, hs, hlt⟩
    | _ => exact hq) (round i.1 i.2))

def EndsD (E : Pr) (rvs : List ResultVar) (args : List Arg) (r : Res) (u : List Arg) (st : St) : Prop :=
  match resXs E.T st rvs with
  | some xs => nodupI ((useRs 0 xs r ++ useUp st.ob 0 args u).map (·.1)) = true ∧ fitRs st.ob xs r ∧ fitUp st.ob 0 args u
  | none => False

def FnD (E : Pr) (rvs : List ResultVar) (args : List Arg) (r : Res) (u : List Arg) : Exit → St → Prop
  | .normal, s => EndsD E rvs args r u s
  | .ret, s => EndsD E rvs args r u s
  | _, _ => False

@[go_sem] theorem fnD_normal (E : Pr) (rvs : List ResultVar) (args : List Arg) (r : Res) (u : List Arg) (s : St) : FnD E rvs args r u .normal s = EndsD E rvs args r u s := rfl
@[go_sem] theorem fnD_ret (E : Pr) (rvs : List ResultVar) (args : List Arg) (r : Res) (u : List Arg) (s : St) : FnD E rvs args r u .ret s = EndsD E rvs args r u s := rfl
attribute [go_sem] EndsD

theorem acallD {E : Pr} (hT : TabOk E.P E.T) {f : FuncId} {c : Code} {nt : Nat} {rvs : List ResultVar} (hb : Body E.P f c nt rvs) {args : List Arg} {r : Res} {u : List Arg} (hnt : decide (args.length ≤ nt ∧ nt ≤ 1000000) = true)
    (h : Awp E c (FnD E rvs args r u) (entrySt nt args)) : ACall E f args fun r' u' => r' = r ∧ u' = u :=
  acall_of hT hb hnt ⟨_, _, rfl, rfl⟩ (awp_mono (fun e s hq => by cases e <;> first | exact ends_det hq | exact hq) h)

def EndsE (E : Pr) (rvs : List ResultVar) (args : List Arg) (R : Res → List Arg → Prop) (st : St) : Prop := ∃ r u, R r u ∧ EndsD E rvs args r u st
def FnE (E : Pr) (rvs : List ResultVar) (args : List Arg) (R : Res → List Arg → Prop) : Exit → St → Prop
  | .normal, s => EndsE E rvs args R s
  | .ret, s => EndsE E rvs args R s
  | _, _ => False
@[go_sem] theorem fnE_normal (E : Pr) (rvs : List ResultVar) (args : List Arg) (R : Res → List Arg → Prop) (s : St) : FnE E rvs args R .normal s = EndsE E rvs args R s := rfl
@[go_sem] theorem fnE_ret (E : Pr) (rvs : List ResultVar) (args : List Arg) (R : Res → List Arg → Prop) (s : St) : FnE E rvs args R .ret s = EndsE E rvs args R s := rfl

theorem acallE {E : Pr} (hT : TabOk E.P E.T) {f : FuncId} {c : Code} {nt : Nat} {rvs : List ResultVar} (hb : Body E.P f c nt rvs) {args : List Arg} {R : Res → List Arg → Prop} (hnt : decide (args.length ≤ nt ∧ nt ≤ 1000000) = true)
    (hR : ∃ r u, R r u) (h : Awp E c (FnE E rvs args R) (entrySt nt args)) : ACall E f args R :=
  acall_of hT hb hnt hR (awp_mono (fun e s hq => by
    cases e with
    | normal => obtain ⟨r, u, h1, h2⟩ := hq; exact ⟨r, u, h1, h2⟩
    | ret => obtain ⟨r, u, h1, h2⟩ := hq; exact ⟨r, u, h1, h2⟩
    | _ => exact hq) h)

def adopt (s : Nat) (id : Id) (deep : Bool) (k : Nat) (st : St) : St :=
  { nt := st.nt, env := fun t => bif s == t then .c (.own id) else st.env t, objs := fun i => bif eqId id i then some (some (.sl deep k 0 (fun _ => []) 0)) else st.objs i }

def Free (st : St) (id : Id) : Prop := st.objs id = none

theorem free_ob {st : St} {id : Id} (h : st.objs id = none) : st.ob id = none := by simp [St.ob, h]

theorem adopt_ob {s : Nat} {id : Id} {deep : Bool} {k : Nat} {st : St} {i : Id} (hne : i ≠ id) : (adopt s id deep k st).ob i = st.ob i := by
  have he : eqId id i = false := by
    cases h : eqId id i with
    | false => rfl
    | true => exact absurd (eqId_iff.1 h).symm hne
  show (match bif eqId id i then some (some (Obj.sl deep k 0 (fun _ => []) 0)) else st.objs i with | some (some o) => some o | _ => none) = _
  rw [he]; rfl

theorem adopt_ob_self {s : Nat} {id : Id} {deep : Bool} {k : Nat} {st : St} : (adopt s id deep k st).ob id = some (.sl deep k 0 (fun _ => []) 0) := by
  show (match bif eqId id id then some (some (Obj.sl deep k 0 (fun _ => []) 0)) else st.objs id with | some (some o) => some o | _ => none) = _
  rw [eqId_self]; rfl

section
variable {w : World} {ow : Own} {σ σ' : Val} {ob ob' : Id → Option Obj}
theorem RC.ren {c : C} {v : Value} (h : RC w ow σ ob c v) (hk : ∀ id, id ∈ c.ids → ob' id = ob id ∧ σ' id = σ id) : RC w ow σ' ob' c v := by
  cases c with
  | val x => exact h
  | dat d => exact h
  | fptr cs => exact h
  | any => trivial
  | own id =>
    obtain ⟨h1, h2⟩ := hk id (by simp [C.ids])
    intro deep k n row ver ho
    rw [h2]; exact h deep k n row ver (h1 ▸ ho)
  | osub id ver k i j =>
    obtain ⟨h1, h2⟩ := hk id (by simp [C.ids])
    intro deep k' n row ver' ho
    rw [h2]; exact h deep k' n row ver' (h1 ▸ ho)
  | ptr id off =>
    obtain ⟨h1, h2⟩ := hk id (by simp [C.ids])
    intro cs ho
    rw [h2]; exact h cs (h1 ▸ ho)
  | eptr id k i off =>
    obtain ⟨h1, h2⟩ := hk id (by simp [C.ids])
    intro deep k' n row ver ho
    rw [h2]; exact h deep k' n row ver (h1 ▸ ho)
  | fn f caps =>
    obtain ⟨vs, g1, g2, g3⟩ := h
    refine ⟨vs, g1, g2, fun i id off hi => ?_⟩
    obtain ⟨x, hx, hp⟩ := g3 i id off hi
    obtain ⟨h1, h2⟩ := hk id (List.mem_map.2 ⟨(id, off), List.mem_of_getElem? hi, rfl⟩)
    refine ⟨x, hx, fun cs ho => ?_⟩
    rw [h2]; exact hp cs (h1 ▸ ho)

theorem RCs.ren {cs : List C} {vs : Array Value} (h : RCs w ow σ ob cs vs) (hk : ∀ id, id ∈ cs.flatMap C.ids → ob' id = ob id ∧ σ' id = σ id) : RCs w ow σ' ob' cs vs :=
  ⟨h.1, fun i c hc => let ⟨v, hv, hr⟩ := h.2 i c hc; ⟨v, hv, hr.ren fun id hid => hk id (List.mem_flatMap.2 ⟨c, List.mem_of_getElem? hc, hid⟩)⟩⟩

theorem RV1.ren {x : V1} {v : Value} (h : RV1 w ow σ ob x v) (hk : ∀ id, id ∈ x.ids → ob' id = ob id ∧ σ' id = σ id) : RV1 w ow σ' ob' x v := by
  cases x with
  | one c => exact RC.ren h hk
  | agg cs => obtain ⟨vs, rfl, h2⟩ := h; exact ⟨vs, rfl, h2.ren hk⟩

theorem RV.ren {x : V} {v : Value} (h : RV w ow σ ob x v) (hk : ∀ id, id ∈ x.ids → ob' id = ob id ∧ σ' id = σ id) : RV w ow σ' ob' x v := by
  cases x with
  | s x => exact RV1.ren h hk
  | tup xs =>
    obtain ⟨vs, rfl, h1, h2⟩ := h
    exact ⟨vs, rfl, h1, fun i x hx => let ⟨y, hy, hr⟩ := h2 i x hx; ⟨y, hy, RV1.ren hr fun id hid => hk id (List.mem_flatMap.2 ⟨x, List.mem_of_getElem? hx, hid⟩)⟩⟩
end

section
variable {E : Pr} {st : St}
theorem sub_adopt (s : Nat) (id : Id) (deep : Bool) (k : Nat) (hs : st.env s = .val (.slice none 0 0)) (hid : st.objs id = none) (hlt : decide (id.1 < 2000000) = true) : Sub E st (adopt s id deep k st) := fun B ow σ a w h => by
  have hlt' : id.1 < 2000000 := by simpa using hlt
  let σ' : Val := fun i => if i = id then .slice none 0 0 else σ i
  have hσ : ∀ i, i ≠ id → σ' i = σ i := fun i hi => by simp [σ', hi]
  have keep : ∀ i, st.objs i ≠ none → (adopt s id deep k st).ob i = st.ob i ∧ σ' i = σ i := fun i hi => by
    have hne : i ≠ id := fun e => hi (e ▸ hid)
    exact ⟨adopt_ob hne, hσ i hne⟩
  refine ⟨ow, σ', h.defers, h.size, fun t => ?_, fun i o ho => ?_, fun t i hi => ?_, fun i o ho i' hi' => ?_, h.frame, h.globs, h.small, fun j v hj o ho => ?_⟩
  · show RV w ow σ' _ (bif s == t then .c (.own id) else st.env t) _
    cases ht : (s == t) with
    | true =>
      simp only [beq_iff_eq] at ht; subst ht
      have := h.env s
      rw [hs] at this
      intro deep' k' n row ver ho
      show a.tmps.getD s undef = σ' id
      simp only [σ', if_true]
      exact this
    | false => exact RV.ren (h.env t) fun i hi => keep i (h.closed t i hi)
  · by_cases hne : i = id
    · subst hne
      rw [adopt_ob_self] at ho
      cases ho
      show Rep w ow _ (.sl k 0 _) (σ' i)
      simp only [σ', if_true]
      exact .nil _ _ _
    · rw [adopt_ob hne] at ho
      have := h.objs i o ho
      cases o with
      | sl => show Rep w ow _ _ (σ' i); rw [hσ i hne]; exact this
      | box cs =>
        obtain ⟨b, arr, et, fr, g1, g2, g3, g4, g5⟩ := this
        exact ⟨b, arr, et, fr, by rw [hσ i hne]; exact g1, g2, g3, g4, g5.ren fun i' hi' => keep i' (h.closedO i _ ho i' hi')⟩
  · show (bif eqId id i then some (some (Obj.sl deep k 0 (fun _ => []) 0)) else st.objs i) ≠ none
    cases he : eqId id i with
    | true => simp
    | false =>
      have hi2 : i ∈ (bif s == t then V.c (.own id) else st.env t).ids := hi
      cases ht : (s == t) with
      | true =>
        rw [ht] at hi2
        simp only [cond_true, V.c, V.ids, V1.ids, C.ids, List.mem_singleton] at hi2
        subst hi2; rw [eqId_self] at he; cases he
      | false => rw [ht] at hi2; exact h.closed t i hi2
  · show (bif eqId id i' then some (some (Obj.sl deep k 0 (fun _ => []) 0)) else st.objs i') ≠ none
    cases he : eqId id i' with
    | true => simp
    | false =>
      by_cases hne : i = id
      · subst hne; rw [adopt_ob_self] at ho; cases ho; simp [Obj.ids] at hi'
      · rw [adopt_ob hne] at ho; exact h.closedO i o ho i' hi'
  · have hne : (2000000 + j, 0) ≠ id := fun e => by rw [← e] at hlt'; simp at hlt'; omega
    rw [adopt_ob hne] at ho
    show σ' (2000000 + j, 0) = v
    rw [hσ _ hne]; exact h.pin j v hj o ho

@[go_sem] theorem adopt_m (s : Nat) (id : Id) (deep : Bool) (k nt : Nat) (e : List (Nat × V)) (o : List (Id × Option Obj)) : adopt s id deep k (St.m nt e o) = St.m nt ((s, .c (.own id)) :: e) ((id, some (.sl deep k 0 (fun _ => []) 0)) :: o) := by
  simp only [adopt, St.m]
  congr 1

def adoptB (b : Id) (i : Nat) (id : Id) (deep : Bool) (k : Nat) (st : St) : St :=
  { nt := st.nt, env := st.env, objs := fun q => bif eqId id q then some (some (.sl deep k 0 (fun _ => []) 0)) else bif eqId b q then some (match st.ob b with | some (.box cs) => some (.box (cs.set i (.own id))) | o => o) else st.objs q }

theorem sub_adoptB (b : Id) (i : Nat) (id : Id) (deep : Bool) (k : Nat) {cs : List C} (hb : st.ob b = some (.box cs)) (hs : cs[i]? = some (.val (.slice none 0 0))) (hid : st.objs id = none) (hlt : decide (id.1 < 2000000) = true) : Sub E st (adoptB b i id deep k st) := fun B ow σ a w h => by
  have hlt' : id.1 < 2000000 := by simpa using hlt
  have hbid : b ≠ id := fun e => by subst e; rw [free_ob hid] at hb; cases hb
  let σ' : Val := fun i => if i = id then .slice none 0 0 else σ i
  have hσ : ∀ i, i ≠ id → σ' i = σ i := fun i hi => by simp [σ', hi]
  have obs : ∀ q, q ≠ id → q ≠ b → (adoptB b i id deep k st).ob q = st.ob q := fun q h1 h2 => by
    have e1 : eqId id q = false := by
      cases hh : eqId id q with
      | false => rfl
      | true => exact absurd (eqId_iff.1 hh).symm h1
    have e2 : eqId b q = false := by
      cases hh : eqId b q with
      | false => rfl
      | true => exact absurd (eqId_iff.1 hh).symm h2
    show (match bif eqId id q then _ else bif eqId b q then _ else st.objs q with | some (some o) => some o | _ => none) = _
    rw [e1, e2]; rfl
  have obId : (adoptB b i id deep k st).ob id = some (.sl deep k 0 (fun _ => []) 0) := by
    show (match bif eqId id id then some (some (Obj.sl deep k 0 (fun _ => []) 0)) else _ with | some (some o) => some o | _ => none) = _
    rw [eqId_self]; rfl
  have obB : (adoptB b i id deep k st).ob b = some (.box (cs.set i (.own id))) := by
    have e1 : eqId id b = false := by
      cases hh : eqId id b with
      | false => rfl
      | true => exact absurd (eqId_iff.1 hh).symm hbid
    show (match bif eqId id b then _ else bif eqId b b then some (match st.ob b with | some (.box cs) => some (.box (cs.set i (.own id))) | o => o) else st.objs b with | some (some o) => some o | _ => none) = _
    rw [e1, eqId_self, hb]; rfl

  have rc : ∀ (c : C) (v : Value), (∀ id', id' ∈ c.ids → st.objs id' ≠ none) → RC w ow σ st.ob c v → RC w ow σ' (adoptB b i id deep k st).ob c v := fun c v hc hr => by
    have ne : ∀ id', id' ∈ c.ids → id' ≠ id := fun id' hid' e => hc id' hid' (e ▸ hid)
    cases c with
    | val | dat | fptr | any => exact hr
    | own id' =>
      have hn := ne id' (by simp [C.ids])
      intro deep' k' n row ver ho
      by_cases hq : id' = b
      · subst hq; rw [obB] at ho; cases ho
      · rw [obs id' hn hq] at ho; rw [hσ _ hn]; exact hr _ _ _ _ _ ho
    | osub id' ver k2 i2 j2 =>
      have hn := ne id' (by simp [C.ids])
      intro deep' k' n row ver ho
      by_cases hq : id' = b
      · subst hq; rw [obB] at ho; cases ho
      · rw [obs id' hn hq] at ho; rw [hσ _ hn]; exact hr _ _ _ _ _ ho
    | eptr id' k2 i2 off =>
      have hn := ne id' (by simp [C.ids])
      intro deep' k' n row ver ho
      by_cases hq : id' = b
      · subst hq; rw [obB] at ho; cases ho
      · rw [obs id' hn hq] at ho; rw [hσ _ hn]; exact hr _ _ _ _ _ ho
    | ptr id' off =>
      have hn := ne id' (by simp [C.ids])
      intro cs' ho
      by_cases hq : id' = b
      · subst hq; rw [hσ _ hn]; exact hr _ hb
      · rw [obs id' hn hq] at ho; rw [hσ _ hn]; exact hr _ ho
    | fn f caps =>
      obtain ⟨vs, g1, g2, g3⟩ := hr
      refine ⟨vs, g1, g2, fun m id' off hi => ?_⟩
      obtain ⟨x, hx, hp⟩ := g3 m id' off hi
      have hn := ne id' (List.mem_map.2 ⟨(id', off), List.mem_of_getElem? hi, rfl⟩)
      refine ⟨x, hx, fun cs' ho => ?_⟩
      by_cases hq : id' = b
      · subst hq; rw [hσ _ hn]; exact hp _ hb
      · rw [obs id' hn hq] at ho; rw [hσ _ hn]; exact hp _ ho
  have rcs : ∀ (cs : List C) (vs : Array Value), (∀ id', id' ∈ cs.flatMap C.ids → st.objs id' ≠ none) → RCs w ow σ st.ob cs vs → RCs w ow σ' (adoptB b i id deep k st).ob cs vs := fun cs vs hc hr =>
    ⟨hr.1, fun m c hm => let ⟨v, hv, hrc⟩ := hr.2 m c hm; ⟨v, hv, rc c v (fun id' hid' => hc id' (List.mem_flatMap.2 ⟨c, List.mem_of_getElem? hm, hid'⟩)) hrc⟩⟩
  have rv1 : ∀ (x : V1) (v : Value), (∀ id', id' ∈ x.ids → st.objs id' ≠ none) → RV1 w ow σ st.ob x v → RV1 w ow σ' (adoptB b i id deep k st).ob x v := fun x v hc hr => by
    cases x with
    | one c => exact rc c v hc hr
    | agg cs => obtain ⟨vs, rfl, h2⟩ := hr; exact ⟨vs, rfl, rcs cs vs hc h2⟩
  have live : ∀ q, st.objs q ≠ none → (adoptB b i id deep k st).objs q ≠ none := fun q hq => by
    show (bif eqId id q then some (some (Obj.sl deep k 0 (fun _ => []) 0)) else bif eqId b q then some (match st.ob b with | some (.box cs) => some (.box (cs.set i (.own id))) | o => o) else st.objs q) ≠ none
    cases eqId id q with
    | true => simp
    | false =>
      cases eqId b q with
      | true => simp
      | false => exact hq
  have liveId : (adoptB b i id deep k st).objs id ≠ none := by
    show (bif eqId id id then some (some (Obj.sl deep k 0 (fun _ => []) 0)) else _) ≠ none
    rw [eqId_self]; simp
  refine ⟨ow, σ', h.defers, h.size, fun t => ?_, fun q o ho => ?_, fun t q hq => live q (h.closed t q hq), fun q o ho q' hq' => ?_, h.frame, h.globs, h.small, fun j v hj o ho => ?_⟩
  · have := h.env t
    have hc := h.closed t
    show RV w ow σ' _ (st.env t) _
    cases hx : st.env t with
    | s x => rw [hx] at this hc; exact rv1 x _ hc this
    | tup xs =>
      rw [hx] at this hc
      obtain ⟨vs, g0, g1, g2⟩ := this
      exact ⟨vs, g0, g1, fun m x hm => let ⟨y, hy, hr⟩ := g2 m x hm; ⟨y, hy, rv1 x y (fun id' hid' => hc id' (List.mem_flatMap.2 ⟨x, List.mem_of_getElem? hm, hid'⟩)) hr⟩⟩
  · by_cases hne : q = id
    · subst hne
      rw [obId] at ho
      cases ho
      show Rep w ow _ (.sl k 0 _) (σ' q)
      simp only [σ', if_true]
      exact .nil _ _ _
    · by_cases hq : q = b
      · subst hq
        rw [obB] at ho
        cases ho
        obtain ⟨bb, arr, et, fr, g1, g2, g3, g4, g5⟩ := h.objs q _ hb
        refine ⟨bb, arr, et, fr, by rw [hσ q hne]; exact g1, g2, g3, g4, by simp [g5.1], fun m c hm => ?_⟩
        rw [List.getElem?_set] at hm
        by_cases hmi : i = m
        · subst hmi
          simp only [if_true] at hm
          split at hm
          · cases hm
            obtain ⟨v, hv, hr⟩ := g5.2 i _ hs
            refine ⟨v, hv, fun deep' k' n row ver ho => ?_⟩
            simp only [σ', if_true]
            exact hr
          · cases hm
        · rw [if_neg hmi] at hm
          obtain ⟨v, hv, hr⟩ := g5.2 m c hm
          exact ⟨v, hv, rc c v (fun id' hid' => h.closedO q _ hb id' (List.mem_flatMap.2 ⟨c, List.mem_of_getElem? hm, hid'⟩)) hr⟩
      · rw [obs q hne hq] at ho
        have := h.objs q o ho
        cases o with
        | sl => show Rep w ow _ _ (σ' q); rw [hσ q hne]; exact this
        | box cs' =>
          obtain ⟨bb, arr, et, fr, g1, g2, g3, g4, g5⟩ := this
          exact ⟨bb, arr, et, fr, by rw [hσ q hne]; exact g1, g2, g3, g4, rcs cs' arr (h.closedO q _ ho) g5⟩
  · by_cases hne : q = id
    · subst hne; rw [obId] at ho; cases ho; simp [Obj.ids] at hq'
    · by_cases hq : q = b
      · subst hq
        rw [obB] at ho
        cases ho
        simp only [Obj.ids, List.mem_flatMap] at hq'
        obtain ⟨c, hc, hc'⟩ := hq'
        rcases List.mem_or_eq_of_mem_set hc with hc | rfl
        · exact live _ (h.closedO q _ hb q' (List.mem_flatMap.2 ⟨c, hc, hc'⟩))
        · simp only [C.ids, List.mem_singleton] at hc'; subst hc'; exact liveId
      · rw [obs q hne hq] at ho; exact live _ (h.closedO q o ho q' hq')
  · have hne : (2000000 + j, 0) ≠ id := fun e => by rw [← e] at hlt'; simp at hlt'; omega
    show σ' (2000000 + j, 0) = v
    rw [hσ _ hne]
    by_cases hq : (2000000 + j, 0) = b
    · rw [hq] at ho ⊢; have := h.pin j v hj (.box cs) (by rw [hq]; exact hb); rw [hq] at this; exact this
    · rw [obs _ hne hq] at ho; exact h.pin j v hj o ho
end

@[go_sem] theorem adoptB_m (b : Id) (i : Nat) (id : Id) (deep : Bool) (k nt : Nat) (e : List (Nat × V)) (o : List (Id × Option Obj)) : adoptB b i id deep k (St.m nt e o) = St.m nt e ((id, some (.sl deep k 0 (fun _ => []) 0)) :: (b, match obP o b with | some (.box cs) => some (.box (cs.set i (.own id))) | o => o) :: o) := by
  simp only [adoptB, St.m]
  congr 1

end Go.Ax
end
