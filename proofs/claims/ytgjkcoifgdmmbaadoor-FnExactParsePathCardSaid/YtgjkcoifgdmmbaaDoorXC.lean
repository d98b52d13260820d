/- The executor is sound: calls. -/
import Derived.Test.YtgjkcoifgdmmbaaDoorXB
import Derived.Conc.Own4
set_option linter.unusedSimpArgs false
set_option linter.unusedVariables false
section
namespace Go.Ax
open Go

def exLk : List (Id × Id) → Id → Option Id
  | [], _ => none
  | (i, n) :: l, id => bif eqId i id then some n else exLk l id

def actIn (ex : List (Id × Id)) (bor : List Id) (id : Id) : TA :=
  match exLk ex id with
  | some nm => .into nm []
  | none => bif bor.any (eqId id) then .frz else .drop

theorem exLk_mem : ∀ {l : List (Id × Id)} {id nm : Id}, nodupI (l.map (·.1)) = true → (id, nm) ∈ l → exLk l id = some nm := by
  intro l
  induction l with
  | nil => intro id p _ h; simp at h
  | cons q l ih =>
    obtain ⟨i, p'⟩ := q
    intro id p hn hm
    simp only [List.map_cons, nodupI, Bool.and_eq_true, Bool.not_eq_true'] at hn
    simp only [exLk]
    rcases List.mem_cons.1 hm with he | hm
    · cases he; rw [eqId_self]; rfl
    · have hne : eqId i id = false := by
        cases he : eqId i id with
        | false => rfl
        | true =>
          have := hn.1
          rw [List.any_eq_false] at this
          exact absurd he (this id (List.mem_map.2 ⟨_, hm, rfl⟩))
      rw [hne]; exact ih hn.2 hm

theorem exLk_some : ∀ {l : List (Id × Id)} {id nm : Id}, exLk l id = some nm → (id, nm) ∈ l := by
  intro l
  induction l with
  | nil => intro id nm h; simp [exLk] at h
  | cons q l ih =>
    obtain ⟨i, p⟩ := q
    intro id nm h
    simp only [exLk] at h
    cases he : eqId i id with
    | true => rw [he] at h; simp only [cond_true, Option.some.injEq] at h; rw [eqId_iff.1 he, h]; exact List.mem_cons_self
    | false => rw [he] at h; exact List.mem_cons_of_mem _ (ih h)

theorem exLk_none {l : List (Id × Id)} {id : Id} (h : ∀ nm, (id, nm) ∉ l) : exLk l id = none := by
  cases he : exLk l id with
  | none => rfl
  | some nm => exact absurd (exLk_some he) (h nm)

structure Names (ex : List (Id × Id)) (bor : List Id) : Prop where
  nodup : nodupI (ex.map (·.1)) = true
  apart : ∀ e, e ∈ ex → bor.any (eqId e.1) = false

theorem actIn_bor {ex : List (Id × Id)} {bor : List Id} (hn : Names ex bor) {id : Id} (h : id ∈ bor) : actIn ex bor id = .frz := by
  have hany : bor.any (eqId id) = true := List.any_eq_true.2 ⟨id, h, eqId_self id⟩
  unfold actIn
  rw [exLk_none (fun nm hm => by rw [hn.apart _ hm] at hany; cases hany), hany]; rfl

theorem actIn_ex {ex : List (Id × Id)} {bor : List Id} (hn : Names ex bor) {id nm : Id} (h : (id, nm) ∈ ex) : actIn ex bor id = .into nm [] := by
  unfold actIn; rw [exLk_mem hn.nodup h]

section
variable {E : Pr} {B : Base} {ow : Own} {σ : Val} {st : St} {a : Act} {w : World} (h : Inv E B ow σ st a w) {ex : List (Id × Id)} {bor : List Id} (hn : Names ex bor)
include h hn

theorem shCell_rep {c : C} {x : Value} {d : D} {ids : List Id} (hc : RC w ow σ st.ob c x) (he : shCell st.ob c = some (d, ids)) (hb : ∀ id, id ∈ ids → id ∈ bor) :
    Rep w ((TagMap.of (actIn ex bor)).on ow) .fz d x := by
  have frz : ∀ {t : Tag} {d : D} {x : Value} {id : Id}, Rep w ow t d x → t.ids = some id ∨ t = .fz → id ∈ bor → Rep w ((TagMap.of (actIn ex bor)).on ow) .fz d x := by
    intro t d x id hr ht hid
    refine hr.map _ ?_
    rcases ht with ht | rfl
    · cases t with
      | fz => rfl
      | deep i p => simp only [Tag.ids, Option.some.injEq] at ht; subst ht; simp [TagMap.of, Tag.ids, actIn_bor hn hid, TA.tag]
      | sh i => simp only [Tag.ids, Option.some.injEq] at ht; subst ht; simp [TagMap.of, Tag.ids, actIn_bor hn hid, TA.tag]
    · rfl
  cases c with
  | val y =>
    simp only [shCell] at he
    cases hy : y.oneC with
    | false => simp [hy] at he
    | true => simp only [hy, cond_true, Option.some.injEq, Prod.mk.injEq] at he; obtain ⟨rfl, rfl⟩ := he; rw [show x = y from hc]; exact .v _ _ hy
  | dat d' => simp only [shCell, Option.some.injEq, Prod.mk.injEq] at he; obtain ⟨rfl, rfl⟩ := he; exact Rep.map _ hc rfl
  | fn f caps =>
    cases caps with
    | nil =>
      simp only [shCell, Option.some.injEq, Prod.mk.injEq] at he
      obtain ⟨rfl, rfl⟩ := he
      obtain ⟨vs, rfl, hs, _⟩ := hc
      have : vs = #[] := by rw [← Array.size_eq_zero_iff]; simpa using hs
      subst this
      exact .v _ _ rfl
    | cons => simp [shCell] at he
  | own id =>
    simp only [shCell] at he
    split at he
    · rename_i deep k n row ver ho
      simp only [Option.some.injEq, Prod.mk.injEq] at he
      obtain ⟨rfl, rfl⟩ := he
      rw [hc _ _ _ _ _ ho]
      exact frz (h.objs id _ ho) (.inl (rootTag_ids _ _)) (hb id (by simp))
    · cases he
  | osub id ver k i j =>
    simp only [shCell] at he
    split at he
    · rename_i deep k' n row ver' ho
      cases hv : (ver == ver') with
      | false => simp [hv] at he
      | true =>
        simp only [hv, cond_true] at he
        simp only [beq_iff_eq] at hv
        subst hv
        split at he
        · rename_i k1 n1 row1 hrow
          simp only [Option.some.injEq, Prod.mk.injEq] at he
          obtain ⟨rfl, rfl⟩ := he
          exact frz (osub_rep h hc ho hrow) (by cases deep <;> simp [rootTag, Tag.ext, Tag.ids]) (hb id (by simp))
        · cases he
    · cases he
  | _ => simp [shCell] at he

theorem shCells_rep : ∀ (cs : List C) (ds : List D) (ids : List Id) (g : Nat → Option Value), shCells st.ob cs = some (ds, ids) → (∀ i c, cs[i]? = some c → ∃ x, g i = some x ∧ RC w ow σ st.ob c x) → (∀ id, id ∈ ids → id ∈ bor) →
    ds.length = cs.length ∧ ∀ i d, ds[i]? = some d → ∃ x, g i = some x ∧ Rep w ((TagMap.of (actIn ex bor)).on ow) .fz d x := by
  intro cs
  induction cs with
  | nil => intro ds ids g he _ _; simp [shCells] at he; obtain ⟨rfl, rfl⟩ := he; simp
  | cons c cs ih =>
    intro ds ids g he hg hb
    simp only [shCells] at he
    cases h1 : shCell st.ob c with
    | none => simp [h1] at he
    | some q =>
      cases h2 : shCells st.ob cs with
      | none => simp [h1, h2] at he
      | some q2 =>
        obtain ⟨d, x⟩ := q
        obtain ⟨ds', xs⟩ := q2
        simp only [h1, h2, Option.some.injEq, Prod.mk.injEq] at he
        obtain ⟨rfl, rfl⟩ := he
        obtain ⟨y, hy, hr⟩ := hg 0 c rfl
        obtain ⟨i1, i2⟩ := ih ds' xs (fun i => g (i + 1)) h2 (fun i c hc => hg (i + 1) c hc) (fun id hid => hb id (List.mem_append_right _ hid))
        refine ⟨by simp [i1], fun i d' hd => ?_⟩
        cases i with
        | zero => simp only [List.getElem?_cons_zero, Option.some.injEq] at hd; subst hd; exact ⟨y, hy, shCell_rep h hn hr h1 (fun id hid => hb id (List.mem_append_left _ hid))⟩
        | succ i => exact i2 i d' (by simpa using hd)

theorem toCells_rep {j : Nat} : ∀ (cs : List C) (i0 : Nat) (rs : List RCell) (es : List (Id × Id)) (g : Nat → Option Value), toCells st.ob j i0 cs = some (rs, es) → (∀ i c, cs[i]? = some c → ∃ x, g i = some x ∧ RC w ow σ st.ob c x) →
    (∀ e, e ∈ es → e ∈ ex) → rs.length = cs.length ∧ (∀ i r, rs[i]? = some r → ∃ x, g i = some x ∧ RepCell w ((TagMap.of (actIn ex bor)).on ow) (j, 1 + (i0 + i)) r x) := by
  intro cs
  induction cs with
  | nil => intro i0 rs es g he _ _; simp [toCells] at he; obtain ⟨rfl, rfl⟩ := he; simp
  | cons c cs ih =>
    intro i0 rs es g he hg hb
    simp only [toCells] at he
    cases h1 : toCell st.ob (j, 1 + i0) c with
    | none => simp [h1] at he
    | some q =>
      cases h2 : toCells st.ob j (i0 + 1) cs with
      | none => simp [h1, h2] at he
      | some q2 =>
        obtain ⟨r, e1⟩ := q
        obtain ⟨rs', es'⟩ := q2
        simp only [h1, h2, Option.some.injEq, Prod.mk.injEq] at he
        obtain ⟨rfl, rfl⟩ := he
        obtain ⟨y, hy, hr⟩ := hg 0 c rfl
        obtain ⟨i1, i2⟩ := ih (i0 + 1) rs' es' (fun i => g (i + 1)) h2 (fun i c hc => hg (i + 1) c hc) (fun e he => hb e (List.mem_append_right _ he))
        refine ⟨by simp [i1], fun i r' hd => ?_⟩
        cases i with
        | zero =>
          simp only [List.getElem?_cons_zero, Option.some.injEq] at hd
          subst hd
          refine ⟨y, hy, ?_⟩
          cases c with
          | val z =>
            simp only [toCell] at h1
            cases hz : z.oneC with
            | false => simp [hz] at h1
            | true => simp only [hz, cond_true, Option.some.injEq, Prod.mk.injEq] at h1; obtain ⟨rfl, rfl⟩ := h1; rw [show y = z from hr]; exact .v _ _ hz
          | dat d' => simp only [toCell, Option.some.injEq, Prod.mk.injEq] at h1; obtain ⟨rfl, rfl⟩ := h1; exact Rep.map _ hr rfl
          | own id =>
            simp only [toCell] at h1
            split at h1
            · rename_i deep k n row ver ho
              simp only [Option.some.injEq, Prod.mk.injEq] at h1
              obtain ⟨rfl, rfl⟩ := h1
              rw [hr _ _ _ _ _ ho]
              refine Rep.map _ (h.objs id _ ho) ?_
              have := actIn_ex (bor := bor) hn (hb (id, (j, 1 + i0)) (by simp))
              cases deep <;> simp [TagMap.of, rootTag, Tag.ids, this, TA.tag]
            · cases h1
          | _ => simp [toCell] at h1
        | succ i =>
          obtain ⟨x, hx, hq⟩ := i2 i r' (by simpa using hd)
          exact ⟨x, hx, by rw [show i0 + (i + 1) = i0 + 1 + i by omega]; exact hq⟩

theorem argOf_rep {xl : Bool} {j t : Nat} {v : V} {x : Value} (hx : RV w ow σ st.ob v x) {arg : Arg} {es : List (Id × Id)} {bs : List Id} (he : argOf E.T xl j t st.ob v = some (arg, es, bs))
    (hes : ∀ e, e ∈ es → e ∈ ex) (hbs : ∀ id, id ∈ bs → id ∈ bor) : RepArg w ((TagMap.of (actIn ex bor)).on ow) j arg x := by
  have shc : ∀ {c : C} {d : D} {ids : List Id}, RC w ow σ st.ob c x → shCell st.ob c = some (d, ids) → (∀ id, id ∈ ids → id ∈ bor) → RepArg w ((TagMap.of (actIn ex bor)).on ow) j (.one d) x := by
    intro c d ids h1 h2 h3
    exact shCell_rep h hn h1 h2 h3
  unfold argOf at he
  split at he
  · rename_i cs
    obtain ⟨vs, rfl, hs, hr⟩ := hx
    cases hsh : shCells st.ob cs with
    | none => simp [hsh] at he
    | some q =>
      obtain ⟨ds, ids⟩ := q
      simp only [hsh, Option.some.injEq, Prod.mk.injEq] at he
      obtain ⟨rfl, rfl, rfl⟩ := he
      obtain ⟨h1, h2⟩ := shCells_rep h hn cs ds ids (fun i => vs[i]?) hsh hr hbs
      exact ⟨vs, rfl, by rw [hs, h1], h2⟩
  · rename_i c
    have hc : RC w ow σ st.ob c x := hx
    cases hnil : (isNil c && (E.T.kind t).isSlice) with
    | true =>
      rw [hnil] at he
      simp only [cond_true, Option.some.injEq, Prod.mk.injEq] at he
      obtain ⟨rfl, rfl, rfl⟩ := he
      simp only [Bool.and_eq_true] at hnil
      rw [isNil_val hnil.1] at hc
      rw [show x = .slice none 0 0 from hc]
      exact .nil _ _ _
    | false =>
      rw [hnil] at he
      simp only [cond_false] at he
      split at he
      · rename_i id
        split at he
        · rename_i cs hob
          cases htc : toCells st.ob j 0 cs with
          | none => simp [htc] at he
          | some q =>
            obtain ⟨rs, es'⟩ := q
            simp only [htc, Option.some.injEq, Prod.mk.injEq] at he
            obtain ⟨rfl, rfl, rfl⟩ := he
            obtain ⟨b, hσ, rfl⟩ := hc _ hob
            obtain ⟨b', arr, et, fr, g1, g2, g3, g4, g5⟩ := h.objs id _ hob
            rw [hσ] at g1; cases g1
            obtain ⟨r1, r2⟩ := toCells_rep h hn cs 0 rs es' (fun i => arr[i]?) htc g5.2 (fun e he => hes e (List.mem_cons_of_mem _ he))
            refine ⟨b, arr, et, fr, rfl, ?_, g3, g4, by rw [g5.1, r1], fun i c hc => ?_⟩
            · simp only [TagMap.on, g2, Option.bind_some]
              simp [TagMap.of, Tag.ids, actIn_ex (bor := bor) hn (hes _ List.mem_cons_self), TA.tag]
            · obtain ⟨y, hy, hq⟩ := r2 i c hc
              exact ⟨y, hy, by simpa [argName] using hq⟩
        · cases he
      · rename_i id
        split at he
        · rename_i deep k n row ver hob
          simp only [Option.some.injEq, Prod.mk.injEq] at he
          obtain ⟨rfl, rfl, rfl⟩ := he
          rw [hc _ _ _ _ _ hob]
          refine Rep.map _ (h.objs id _ hob) ?_
          have := actIn_ex (bor := bor) hn (hes (id, (j, 0)) (by simp))
          cases deep <;> simp [TagMap.of, rootTag, Tag.ids, this, TA.tag]
        · rename_i deep k n row ver hob
          simp only [Option.some.injEq, Prod.mk.injEq] at he
          obtain ⟨rfl, rfl, rfl⟩ := he
          exact shc hc (by simp only [shCell, hob]) hbs
        · cases he
      · cases hsh : shCell st.ob c with
        | none => simp [hsh] at he
        | some q =>
          obtain ⟨d, ids⟩ := q
          simp only [hsh, Option.some.injEq, Prod.mk.injEq] at he
          obtain ⟨rfl, rfl, rfl⟩ := he
          exact shc hc hsh hbs
  · cases he

theorem argsOf_rep {f : Nat} : ∀ (vs : List V) (j0 : Nat) (ts : List Nat) (args : List Arg) (es : List (Id × Id)) (bs : List Id) (g : Nat → Option Value), argsOf E.T f st.ob j0 vs ts = some (args, es, bs) →
    (∀ i v, vs[i]? = some v → ∃ x, g i = some x ∧ RV w ow σ st.ob v x) → (∀ e, e ∈ es → e ∈ ex) → (∀ id, id ∈ bs → id ∈ bor) →
    args.length = vs.length ∧ ∀ i arg, args[i]? = some arg → ∃ x, g i = some x ∧ RepArg w ((TagMap.of (actIn ex bor)).on ow) (j0 + i) arg x := by
  intro vs
  induction vs with
  | nil => intro j0 ts args es bs g he _ _ _; simp [argsOf] at he; obtain ⟨rfl, rfl, rfl⟩ := he; simp
  | cons v vs ih =>
    intro j0 ts args es bs g he hg hes hbs
    simp only [argsOf] at he
    cases h1 : argOf E.T (exclOf E.T f j0) j0 (ts.headD 0) st.ob v with
    | none => rw [h1] at he; cases he
    | some q =>
      cases h2 : argsOf E.T f st.ob (j0 + 1) vs ts.tail with
      | none => rw [h1, h2] at he; cases he
      | some q2 =>
        obtain ⟨arg, e1, b1⟩ := q
        obtain ⟨args', es', bs'⟩ := q2
        simp only [h1, h2, Option.some.injEq, Prod.mk.injEq] at he
        obtain ⟨rfl, rfl, rfl⟩ := he
        obtain ⟨x, hx, hr⟩ := hg 0 v rfl
        obtain ⟨i1, i2⟩ := ih (j0 + 1) ts.tail args' es' bs' (fun i => g (i + 1)) h2 (fun i v hv => hg (i + 1) v hv) (fun e he => hes e (List.mem_append_right _ he)) (fun id hid => hbs id (List.mem_append_right _ hid))
        refine ⟨by simp [i1], fun i arg' ha => ?_⟩
        cases i with
        | zero =>
          simp only [List.getElem?_cons_zero, Option.some.injEq] at ha
          subst ha
          exact ⟨x, hx, argOf_rep h hn hr h1 (fun e he => hes e (List.mem_append_left _ he)) (fun id hid => hbs id (List.mem_append_left _ hid))⟩
        | succ i =>
          obtain ⟨y, hy, hq⟩ := i2 i arg' (by simpa using ha)
          exact ⟨y, hy, by rw [show j0 + (i + 1) = j0 + 1 + i by omega]; exact hq⟩

end

theorem argsOf_names {T : Tab} {objs : Id → Option Obj} {f : Nat} : ∀ (vs : List V) (j0 : Nat) (ts : List Nat) (args : List Arg) (es : List (Id × Id)) (bs : List Id), argsOf T f objs j0 vs ts = some (args, es, bs) →
    ∀ e, e ∈ es → e.2.1 < j0 + vs.length ∧ j0 ≤ e.2.1 := by
  have tc : ∀ (cs : List C) (j i0 : Nat) (rs : List RCell) (es : List (Id × Id)), toCells objs j i0 cs = some (rs, es) → ∀ e, e ∈ es → e.2.1 = j := by
    intro cs
    induction cs with
    | nil => intro j i0 rs es he; simp [toCells] at he; obtain ⟨rfl, rfl⟩ := he; simp
    | cons c cs ih =>
      intro j i0 rs es he e hm
      simp only [toCells] at he
      cases h1 : toCell objs (j, 1 + i0) c with
      | none => simp [h1] at he
      | some q =>
        cases h2 : toCells objs j (i0 + 1) cs with
        | none => simp [h1, h2] at he
        | some q2 =>
          simp only [h1, h2, Option.some.injEq, Prod.mk.injEq] at he
          obtain ⟨rfl, rfl⟩ := he
          rcases List.mem_append.1 hm with hm | hm
          · unfold toCell at h1
            split at h1
            · rename_i z
              cases hz : z.oneC <;> simp [hz] at h1; subst h1; simp at hm
            · simp at h1; subst h1; simp at hm
            · split at h1
              · simp at h1; subst h1; simp at hm; subst hm; rfl
              · cases h1
            · cases h1
          · exact ih j (i0 + 1) _ _ h2 e hm
  intro vs
  induction vs with
  | nil => intro j0 ts args es bs he; simp [argsOf] at he; obtain ⟨rfl, rfl, rfl⟩ := he; simp
  | cons v vs ih =>
    intro j0 ts args es bs he e hm
    simp only [argsOf] at he
    cases h1 : argOf T (exclOf T f j0) j0 (ts.headD 0) objs v with
    | none => rw [h1] at he; cases he
    | some q =>
      cases h2 : argsOf T f objs (j0 + 1) vs ts.tail with
      | none => rw [h1, h2] at he; cases he
      | some q2 =>
        obtain ⟨arg, e1, b1⟩ := q
        simp only [h1, h2, Option.some.injEq, Prod.mk.injEq] at he
        obtain ⟨rfl, rfl, rfl⟩ := he
        simp only [List.length_cons]
        rcases List.mem_append.1 hm with hm | hm
        · have : e.2.1 = j0 := by
            unfold argOf at h1
            split at h1
            · rename_i cs
              cases hsh : shCells objs cs <;> simp [hsh] at h1
              obtain ⟨_, rfl, _⟩ := h1; simp at hm
            · rename_i c
              cases hnil : (isNil c && (T.kind (ts.headD 0)).isSlice) with
              | true => rw [hnil] at h1; simp at h1; obtain ⟨_, rfl, _⟩ := h1; simp at hm
              | false =>
                rw [hnil] at h1
                simp only [cond_false] at h1
                split at h1
                · split at h1
                  · rename_i cs _
                    cases htc : toCells objs j0 0 cs with
                    | none => simp [htc] at h1
                    | some q =>
                      simp only [htc, Option.some.injEq, Prod.mk.injEq] at h1
                      obtain ⟨_, rfl, _⟩ := h1
                      rcases List.mem_cons.1 hm with rfl | hm
                      · rfl
                      · exact tc cs j0 0 _ _ htc e hm
                  · cases h1
                · split at h1
                  · simp only [Option.some.injEq, Prod.mk.injEq] at h1; obtain ⟨_, rfl, _⟩ := h1; simp at hm; subst hm; rfl
                  · simp only [Option.some.injEq, Prod.mk.injEq] at h1; obtain ⟨_, rfl, _⟩ := h1; simp at hm
                  · cases h1
                · cases hsh : shCell objs c <;> simp [hsh] at h1
                  obtain ⟨_, rfl, _⟩ := h1; simp at hm
            · cases h1
          omega
        · have := ih (j0 + 1) ts.tail _ _ _ h2 e hm
          omega

end Go.Ax
end

section
namespace Go.Ax
open Go

def exRev : List (Id × Id) → Nat → Option Id
  | [], _ => none
  | (i, n) :: l, j => bif eqId n (j, 0) then some i else exRev l j

theorem exRev_mem : ∀ {l : List (Id × Id)} {id : Id} {j : Nat}, nodupI (l.map (·.2)) = true → (id, (j, 0)) ∈ l → exRev l j = some id := by
  intro l
  induction l with
  | nil => intro id p _ h; simp at h
  | cons q l ih =>
    obtain ⟨i, p'⟩ := q
    intro id p hn hm
    simp only [List.map_cons, nodupI, Bool.and_eq_true, Bool.not_eq_true'] at hn
    simp only [exRev]
    rcases List.mem_cons.1 hm with he | hm
    · cases he; rw [eqId_self]; rfl
    · have hne : eqId p' (p, 0) = false := by
        cases he : eqId p' (p, 0) with
        | false => rfl
        | true =>
          have := hn.1
          rw [List.any_eq_false] at this
          exact absurd he (this (p, 0) (List.mem_map.2 ⟨_, hm, rfl⟩))
      rw [hne]; exact ih hn.2 hm

def actOut (d : Nat) (ex : List (Id × Id)) (nm : Id) : TA :=
  if 1000000 ≤ nm.1 then .into (d, (nm.1 - 1000000) * 64 + nm.2) []
  else match exRev ex nm.1 with
    | some cid => match nm.2 with
      | 0 => .into cid []
      | i + 1 => .into (boxName d nm.1 i) []
    | none => .drop

open Classical in

noncomputable def ownOut (w : World) (ow owIn ow' : Own) (act : Id → TA) : Own := fun b =>
  if b < w.heap.size ∧ (owIn b = none ∨ owIn b = some .fz) then ow b else (TagMap.of act).on ow' b

section
variable {w w' : World} {ow ow' : Own} {ex : List (Id × Id)} {bor : List Id}

theorem ownOut_kept {act : Id → TA} {b : Nat} (h1 : b < w.heap.size) (h2 : (TagMap.of (actIn ex bor)).on ow b = none ∨ (TagMap.of (actIn ex bor)).on ow b = some .fz) :
    ownOut w ow ((TagMap.of (actIn ex bor)).on ow) ow' act b = ow b := by
  unfold ownOut; rw [if_pos ⟨h1, h2⟩]

theorem fz_of_nobor {b : Nat} (hb : bor = []) (h : (TagMap.of (actIn ex bor)).on ow b = some .fz) : ow b = some .fz := by
  subst hb
  simp only [TagMap.on] at h
  cases ho : ow b with
  | none => rw [ho] at h; cases h
  | some t =>
    rw [ho] at h
    simp only [Option.bind_some] at h
    cases t with
    | fz => rfl
    | deep id p =>
      simp only [TagMap.of, Tag.ids, actIn] at h
      cases hx : exLk ex id <;> simp [hx, TA.tag] at h
    | sh id =>
      simp only [TagMap.of, Tag.ids, actIn] at h
      cases hx : exLk ex id <;> simp [hx, TA.tag] at h

theorem outRep {act : Id → TA} (hf : Frame' w ((TagMap.of (actIn ex bor)).on ow) w' ow') {t t' : Tag} {d : D} {v : Value} (r : Rep w' ow' t d v) (ht : (TagMap.of act).f t = some t')
    (hb : bor = [] ∨ ∃ id p, t' = .deep id p) : Rep w' (ownOut w ow ((TagMap.of (actIn ex bor)).on ow) ow' act) t' d v := by
  rcases hb with hb | ⟨id, p, rfl⟩
  · refine (r.map _ ht).mono (S := fun _ => True) (fun _ _ _ _ => trivial) (fun b t1 o h1 _ h2 => ⟨h2, ?_⟩) trivial
    unfold ownOut
    split
    · rename_i hc
      obtain ⟨g1, g2⟩ := hf.old b hc.1 hc.2
      simp only [TagMap.on] at h1
      have g2' : ow' b = (TagMap.of (actIn ex bor)).on ow b := g2
      rw [g2'] at h1
      rcases hc.2 with hn | hz
      · rw [hn] at h1; cases h1
      · rw [hz] at h1
        have : t1 = .fz := by simpa [TagMap.of, Tag.ids] using h1.symm
        rw [this]; exact fz_of_nobor hb hz
    · exact h1
  · refine (r.map _ ht).mono (S := fun t => ∃ id p, t = .deep id p) (fun t i j ⟨id, p, e⟩ => ⟨id, (i, j) :: p, by rw [e]; rfl⟩) (fun b t1 o h1 hS h2 => ⟨h2, ?_⟩) ⟨id, p, rfl⟩
    unfold ownOut
    split
    · rename_i hc
      obtain ⟨g1, g2⟩ := hf.old b hc.1 hc.2
      simp only [TagMap.on] at h1
      have g2' : ow' b = (TagMap.of (actIn ex bor)).on ow b := g2
      rw [g2'] at h1
      obtain ⟨id', p', rfl⟩ := hS
      rcases hc.2 with hn | hz
      · rw [hn] at h1; cases h1
      · rw [hz] at h1
        simp [TagMap.of, Tag.ids] at h1
    · exact h1

theorem outRep_v {act : Id → TA} {t t' : Tag} {x v : Value} {ow2 : Own} (r : Rep w' ow' t (.v x) v) : Rep w' ow2 t' (.v x) v := by
  rw [r.v_inv]; exact .v _ _ r.v_one

end

def valLk : List (Id × Value) → Id → Option Value
  | [], _ => none
  | (i, v) :: l, id => bif eqId i id then some v else valLk l id

theorem valLk_mem : ∀ {l : List (Id × Value)} {id : Id} {p : Value}, nodupI (l.map (·.1)) = true → (id, p) ∈ l → valLk l id = some p := by
  intro l
  induction l with
  | nil => intro id p _ h; simp at h
  | cons q l ih =>
    obtain ⟨i, p'⟩ := q
    intro id p hn hm
    simp only [List.map_cons, nodupI, Bool.and_eq_true, Bool.not_eq_true'] at hn
    simp only [valLk]
    rcases List.mem_cons.1 hm with he | hm
    · cases he; rw [eqId_self]; rfl
    · have hne : eqId i id = false := by
        cases he : eqId i id with
        | false => rfl
        | true =>
          have := hn.1
          rw [List.any_eq_false] at this
          exact absurd he (this id (List.mem_map.2 ⟨_, hm, rfl⟩))
      rw [hne]; exact ih hn.2 hm

theorem valLk_none : ∀ {l : List (Id × Value)} {id : Id}, (∀ v, (id, v) ∉ l) → valLk l id = none := by
  intro l
  induction l with
  | nil => intro id _; rfl
  | cons q l ih =>
    obtain ⟨i, v⟩ := q
    intro id h
    simp only [valLk]
    have hne : eqId i id = false := by
      cases he : eqId i id with
      | false => rfl
      | true => exact absurd (by rw [eqId_iff.1 he]; exact List.mem_cons_self) (h v)
    rw [hne]; exact ih (fun v hv => h v (List.mem_cons_of_mem _ hv))

def NewOk (w' : World) (owN : Own) (vals : List (Id × Value)) (p : Id × Option Obj) : Prop :=
  ∃ deep k n row ver x, p.2 = some (.sl deep k n row ver) ∧ (p.1, x) ∈ vals ∧ Rep w' owN (rootTag deep p.1) (.sl k n row) x

theorem NewOk.mono {w' : World} {owN : Own} {vals vals' : List (Id × Value)} {p : Id × Option Obj} (h : NewOk w' owN vals p) (hs : ∀ q, q ∈ vals → q ∈ vals') : NewOk w' owN vals' p := by
  obtain ⟨deep, k, n, row, ver, x, h1, h2, h3⟩ := h; exact ⟨deep, k, n, row, ver, x, h1, hs _ h2, h3⟩

def CellLink (w' : World) (owN : Own) (vals : List (Id × Value)) (nm : Id) : RCell → Value → Prop
  | .fz (.v y), x => x = y ∧ y.oneC = true
  | .fz d, x => Rep w' owN .fz d x
  | .own .., x => (nm, x) ∈ vals

theorem CellLink.mono {w' : World} {owN : Own} {vals vals' : List (Id × Value)} {nm : Id} {r : RCell} {x : Value} (h : CellLink w' owN vals nm r x) (hs : ∀ q, q ∈ vals → q ∈ vals') : CellLink w' owN vals' nm r x := by
  cases r with
  | fz d => cases d <;> exact h
  | own => exact hs _ h

def Outs (w' : World) (ow' owN : Own) (act : Id → TA) (bor : List Id) : Prop :=
  ∀ t t' d v, Rep w' ow' t d v → (TagMap.of act).f t = some t' → (bor = [] ∨ ∃ id p, t' = .deep id p) → Rep w' owN t' d v

theorem cell_out {w' : World} {ow' owN : Own} {act : Id → TA} {bor : List Id} (hout : Outs w' ow' owN act bor) {nm nm' : Id} (hact : act nm' = .into nm []) {r : RCell} {x : Value}
    (hr : RepCell w' ow' nm' r x) (hfz : bor = [] ∨ r.noFz = true) :
    ∃ vals : List (Id × Value), vals.map (·.1) = (resO nm r).map (·.1) ∧ (∀ p, p ∈ resO nm r → NewOk w' owN vals p) ∧ CellLink w' owN vals nm r x := by
  cases r with
  | fz d =>
    refine ⟨[], rfl, by simp [resO], ?_⟩
    cases d with
    | v y => exact ⟨hr.v_inv, hr.v_one⟩
    | sl k n row =>
      rcases hfz with hb | hb
      · exact hout _ _ _ _ hr rfl (.inl hb)
      · simp [RCell.noFz] at hb
  | own deep k n row =>
    have hm : (TagMap.of act).f (rootTag deep nm') = some (rootTag deep nm) := by
      cases deep <;> simp [TagMap.of, rootTag, Tag.ids, hact, TA.tag]
    have hd : bor = [] ∨ ∃ id p, rootTag deep nm = .deep id p := by
      rcases hfz with hb | hb
      · exact .inl hb
      · simp only [RCell.noFz] at hb; subst hb; exact .inr ⟨nm, [], rfl⟩
    exact ⟨[(nm, x)], rfl, fun p hp => by simp only [resO, List.mem_singleton] at hp; subst hp; exact ⟨deep, k, n, row, 0, x, rfl, by simp, hout _ _ _ _ hr hm hd⟩, by simp [CellLink]⟩

theorem cells_out {w' : World} {ow' owN : Own} {act : Id → TA} {bor : List Id} (hout : Outs w' ow' owN act bor) {nm nm' : Nat → Id} (hact : ∀ i, act (nm' i) = .into (nm i) []) :
    ∀ (rs : List RCell) (i0 : Nat) (g : Nat → Option Value), (∀ i r, rs[i]? = some r → ∃ x, g i = some x ∧ RepCell w' ow' (nm' (i0 + i)) r x) → (bor = [] ∨ rs.all RCell.noFz = true) →
      ∃ vals : List (Id × Value), vals.map (·.1) = (resOs nm i0 rs).map (·.1) ∧ (∀ p, p ∈ resOs nm i0 rs → NewOk w' owN vals p) ∧
        ∀ i r x, rs[i]? = some r → g i = some x → CellLink w' owN vals (nm (i0 + i)) r x := by
  intro rs
  induction rs with
  | nil => intro i0 g _ _; exact ⟨[], rfl, by simp [resOs], by simp⟩
  | cons r rs ih =>
    intro i0 g hg hfz
    obtain ⟨x, hx, hr⟩ := hg 0 r rfl
    have hfz1 : bor = [] ∨ r.noFz = true := hfz.imp id fun h => by simp only [List.all_cons, Bool.and_eq_true] at h; exact h.1
    have hfz2 : bor = [] ∨ rs.all RCell.noFz = true := hfz.imp id fun h => by simp only [List.all_cons, Bool.and_eq_true] at h; exact h.2
    obtain ⟨v1, a1, a2, a3⟩ := cell_out hout (hact i0) hr hfz1
    obtain ⟨v2, b1, b2, b3⟩ := ih (i0 + 1) (fun i => g (i + 1)) (fun i r' hr' => by
      obtain ⟨y, hy, hq⟩ := hg (i + 1) r' (by simpa using hr')
      exact ⟨y, hy, by rw [show i0 + 1 + i = i0 + (i + 1) by omega]; exact hq⟩) hfz2
    refine ⟨v1 ++ v2, by simp [resOs, a1, b1], fun p hp => ?_, fun i r' y hr' hy => ?_⟩
    · simp only [resOs, List.mem_append] at hp
      rcases hp with hp | hp
      · exact (a2 p hp).mono fun q hq => List.mem_append_left _ hq
      · exact (b2 p hp).mono fun q hq => List.mem_append_right _ hq
    · cases i with
      | zero =>
        simp only [List.getElem?_cons_zero, Option.some.injEq] at hr'
        subst hr'
        rw [hx] at hy; cases hy
        exact a3.mono fun q hq => List.mem_append_left _ hq
      | succ i =>
        have := b3 i r' y (by simpa using hr') hy
        rw [show i0 + (i + 1) = i0 + 1 + i by omega]
        exact this.mono fun q hq => List.mem_append_right _ hq

theorem CellLink.rc {w' : World} {owN : Own} {vals : List (Id × Value)} {nm : Id} {r : RCell} {x : Value} (h : CellLink w' owN vals nm r x) {σN : Val} (hσ : ∀ id v, (id, v) ∈ vals → σN id = v) (ob : Id → Option Obj) :
    RC w' owN σN ob (resC nm r) x := by
  cases r with
  | fz d =>
    cases d with
    | v y => exact h.1
    | sl => exact h
  | own deep k n row => intro _ _ _ _ _ _; exact (hσ _ _ h).symm

theorem resCs_get (nm : Nat → Id) : ∀ (rs : List RCell) (i0 i : Nat), (resCs nm i0 rs)[i]? = (rs[i]?).map (resC (nm (i0 + i))) := by
  intro rs
  induction rs with
  | nil => intro i0 i; simp [resCs]
  | cons r rs ih =>
    intro i0 i
    cases i with
    | zero => simp [resCs]
    | succ i => simp only [resCs, List.getElem?_cons_succ, ih]; rw [show i0 + 1 + i = i0 + (i + 1) by omega]

theorem length_resCs (nm : Nat → Id) (rs : List RCell) (i0 : Nat) : (resCs nm i0 rs).length = rs.length := by
  induction rs generalizing i0 with
  | nil => rfl
  | cons r rs ih => simp [resCs, ih]

theorem r1_out {w' : World} {ow' owN : Own} {act : Id → TA} {bor : List Id} (hout : Outs w' ow' owN act bor) {nm nm' : Nat → Id} (hact : ∀ i, act (nm' i) = .into (nm i) []) {r : R1} {x : Value}
    (hr : RepR1 w' ow' nm' r x) (hfz : bor = [] ∨ r.noFz = true) :
    ∃ vals : List (Id × Value), vals.map (·.1) = (resOs nm 0 r.cells).map (·.1) ∧ (∀ p, p ∈ resOs nm 0 r.cells → NewOk w' owN vals p) ∧
      ∀ (vals' : List (Id × Value)) (σN : Val) (ob : Id → Option Obj), (∀ q, q ∈ vals → q ∈ vals') → (∀ id v, (id, v) ∈ vals' → σN id = v) → RV1 w' owN σN ob (resV1 nm r) x := by
  cases r with
  | one c =>
    obtain ⟨vals, a1, a2, a3⟩ := cells_out hout hact [c] 0 (fun i => if i = 0 then some x else none) (fun i r hr' => by
      cases i with
      | zero => simp only [List.getElem?_cons_zero, Option.some.injEq] at hr'; subst hr'; exact ⟨x, rfl, hr⟩
      | succ i => simp at hr') (hfz.imp id fun h => by simpa [R1.noFz] using h)
    refine ⟨vals, a1, a2, fun vals' σN ob h1 h2 => ?_⟩
    exact ((a3 0 c x rfl rfl).mono h1).rc h2 ob
  | agg cs =>
    obtain ⟨vs, rfl, h1, h2⟩ := hr
    obtain ⟨vals, a1, a2, a3⟩ := cells_out hout hact cs 0 (fun i => vs[i]?) (fun i r hr' => by simpa using h2 i r hr') (hfz.imp id fun h => by simpa [R1.noFz] using h)
    refine ⟨vals, a1, a2, fun vals' σN ob e1 e2 => ⟨vs, rfl, by rw [h1, length_resCs], fun i c hc => ?_⟩⟩
    rw [resCs_get] at hc
    simp only [Option.map_eq_some_iff] at hc
    obtain ⟨r, hr', rfl⟩ := hc
    obtain ⟨y, hy, _⟩ := h2 i r hr'
    exact ⟨y, hy, ((a3 i r y hr' hy).mono e1).rc e2 ob⟩

theorem res_out {w' : World} {ow' owN : Own} {act : Id → TA} {bor : List Id} (hout : Outs w' ow' owN act bor) {d : Nat} (hact : ∀ m i, act (resId m i) = .into (resName d m i) []) :
    ∀ (rs : Res) (m0 : Nat) (g : Nat → Option Value), (∀ m r, rs[m]? = some r → ∃ x, g m = some x ∧ RepR1 w' ow' (resId (m0 + m)) r x) → (bor = [] ∨ rs.all R1.noFz = true) →
      ∃ vals : List (Id × Value), vals.map (·.1) = (resAll d m0 rs).map (·.1) ∧ (∀ p, p ∈ resAll d m0 rs → NewOk w' owN vals p) ∧
        ∀ (vals' : List (Id × Value)) (σN : Val) (ob : Id → Option Obj), (∀ q, q ∈ vals → q ∈ vals') → (∀ id v, (id, v) ∈ vals' → σN id = v) → ∀ m y, (resVs d m0 rs)[m]? = some y → ∃ x, g m = some x ∧ RV1 w' owN σN ob y x := by
  intro rs
  induction rs with
  | nil => intro m0 g _ _; exact ⟨[], rfl, by simp [resAll], by simp [resVs]⟩
  | cons r rs ih =>
    intro m0 g hg hfz
    obtain ⟨x, hx, hr⟩ := hg 0 r rfl
    have hfz1 : bor = [] ∨ r.noFz = true := hfz.imp id fun h => by simp only [List.all_cons, Bool.and_eq_true] at h; exact h.1
    have hfz2 : bor = [] ∨ rs.all R1.noFz = true := hfz.imp id fun h => by simp only [List.all_cons, Bool.and_eq_true] at h; exact h.2
    obtain ⟨v1, a1, a2, a3⟩ := r1_out hout (hact m0) hr hfz1
    obtain ⟨v2, b1, b2, b3⟩ := ih (m0 + 1) (fun i => g (i + 1)) (fun m r' hr' => by
      obtain ⟨y, hy, hq⟩ := hg (m + 1) r' (by simpa using hr')
      exact ⟨y, hy, by rw [show m0 + 1 + m = m0 + (m + 1) by omega]; exact hq⟩) hfz2
    refine ⟨v1 ++ v2, by simp [resAll, a1, b1], fun p hp => ?_, fun vals' σN ob e1 e2 m y hy => ?_⟩
    · simp only [resAll, List.mem_append] at hp
      rcases hp with hp | hp
      · exact (a2 p hp).mono fun q hq => List.mem_append_left _ hq
      · exact (b2 p hp).mono fun q hq => List.mem_append_right _ hq
    · cases m with
      | zero =>
        simp only [resVs, List.getElem?_cons_zero, Option.some.injEq] at hy
        subst hy
        exact ⟨x, hx, a3 vals' σN ob (fun q hq => e1 q (List.mem_append_left _ hq)) e2⟩
      | succ m =>
        simp only [resVs, List.getElem?_cons_succ] at hy
        exact b3 vals' σN ob (fun q hq => e1 q (List.mem_append_right _ hq)) e2 m y hy

end Go.Ax
end

section
namespace Go.Ax
open Go

def NewAny (w' : World) (owN : Own) (vals : List (Id × Value)) (p : Id × Option Obj) : Prop :=
  ∃ o x, p.2 = some o ∧ (p.1, x) ∈ vals ∧ ∀ (vals' : List (Id × Value)) (σN : Val) (ob : Id → Option Obj), (∀ q, q ∈ vals → q ∈ vals') → (∀ id v, (id, v) ∈ vals' → σN id = v) → RO w' owN σN ob p.1 o

theorem NewAny.mono {w' : World} {owN : Own} {vals vals1 : List (Id × Value)} {p : Id × Option Obj} (h : NewAny w' owN vals p) (hs : ∀ q, q ∈ vals → q ∈ vals1) : NewAny w' owN vals1 p := by
  obtain ⟨o, x, h1, h2, h3⟩ := h
  exact ⟨o, x, h1, hs _ h2, fun vals' σN ob e1 e2 => h3 vals' σN ob (fun q hq => e1 q (hs q hq)) e2⟩

theorem NewOk.any {w' : World} {owN : Own} {vals : List (Id × Value)} {p : Id × Option Obj} (h : NewOk w' owN vals p) : NewAny w' owN vals p := by
  obtain ⟨deep, k, n, row, ver, x, h1, h2, h3⟩ := h
  exact ⟨_, x, h1, h2, fun vals' σN ob e1 e2 => by
    show Rep w' owN (rootTag deep p.1) (.sl k n row) (σN p.1)
    rw [e2 _ _ (e1 _ h2)]; exact h3⟩

def InPlace (o o' : Obj) : Prop :=
  (∃ cs cs', o = .box cs ∧ o' = .box cs') ∨ ∃ deep k n row ver row' ver', o = .sl deep k n row ver ∧ o' = .sl deep k n row' ver' ∧ ver < ver'

def Lent (w' : World) (ow' : Own) (σ : Val) (up : List Arg) (ob : Id → Option Obj) (cid : Id) (j : Nat) : Prop :=
  ∃ a', up[j]? = some a' ∧ RepArg w' ow' j a' (σ cid) ∧ ∀ o, ob cid = some o → match a', o with
    | .xsl deep k n _, .sl deep0 k0 n0 _ _ => deep = deep0 ∧ k = k0 ∧ n = n0
    | .xbox _, .box _ => True
    | _, _ => False

theorem resC_ids {nm : Id} {r : RCell} {id : Id} (h : id ∈ (resC nm r).ids) : id ∈ (resO nm r).map (·.1) := by
  cases r with
  | fz d => cases d <;> simp [resC, C.ids] at h
  | own deep k n row => simpa [resC, C.ids, resO] using h

theorem resCs_ids {nm : Nat → Id} : ∀ {rs : List RCell} {i0 : Nat} {id : Id}, id ∈ (resCs nm i0 rs).flatMap C.ids → id ∈ (resOs nm i0 rs).map (·.1) := by
  intro rs
  induction rs with
  | nil => intro i0 id h; simp [resCs] at h
  | cons r rs ih =>
    intro i0 id h
    simp only [resCs, List.flatMap_cons, List.mem_append] at h
    simp only [resOs, List.map_append, List.mem_append]
    exact h.imp resC_ids ih

theorem resV1_ids {nm : Nat → Id} {r : R1} {id : Id} (h : id ∈ (resV1 nm r).ids) : id ∈ (resOs nm 0 r.cells).map (·.1) := by
  cases r with
  | one c => simp only [resV1, V1.ids] at h; simp only [R1.cells, resOs, List.append_nil]; exact resC_ids h
  | agg cs => exact resCs_ids h

theorem resVs_ids {d : Nat} : ∀ {rs : Res} {m0 : Nat} {id : Id}, id ∈ (resVs d m0 rs).flatMap V1.ids → id ∈ (resAll d m0 rs).map (·.1) := by
  intro rs
  induction rs with
  | nil => intro i0 id h; simp [resVs] at h
  | cons r rs ih =>
    intro m0 id h
    simp only [resVs, List.flatMap_cons, List.mem_append] at h
    simp only [resAll, List.map_append, List.mem_append]
    exact h.imp resV1_ids ih

theorem resV_ids {d : Nat} {rs : Res} {id : Id} (h : id ∈ (resV d rs).ids) : id ∈ (resAll d 0 rs).map (·.1) := by
  unfold resV at h
  split at h
  · simp only [V.ids] at h
    simp only [resAll, List.append_nil]
    exact resV1_ids h
  · exact resVs_ids h

theorem ex_out {w' : World} {ow' owN : Own} {act : Id → TA} {bor : List Id} (hout : Outs w' ow' owN act bor)
    (hsh : ∀ b id id', ow' b = some (.sh id) → act id = .into id' [] → owN b = some (.sh id')) {d : Nat} {σ : Val} {ob : Id → Option Obj} {up : List Arg} (hfz : bor = [] ∨ up.all Arg.noFz = true) :
    ∀ (l : List (Id × Id)) (u : List (Id × Option Obj)), exUpd d ob l up = some u → (∀ cid j, (cid, (j, 0)) ∈ l → Lent w' ow' σ up ob cid j ∧ act (j, 0) = .into cid [] ∧ ∀ i, act (argName j i) = .into (boxName d j i) []) →
      ∃ vals : List (Id × Value), vals.map (·.1) = u.map (·.1) ∧ (∀ p, p ∈ u → NewAny w' owN vals p) ∧
        (∀ cid j, (cid, (j, 0)) ∈ l → (cid, σ cid) ∈ vals ∧ ∃ o o', ob cid = some o ∧ (cid, some o') ∈ u ∧ InPlace o o') ∧
        (∀ p o, p ∈ u → p.2 = some o → ∀ id, id ∈ o.ids → id ∈ u.map (·.1)) := by
  intro l
  induction l with
  | nil => intro u he _; simp [exUpd] at he; subst he; exact ⟨[], rfl, by simp, by simp, by simp⟩
  | cons q l ih =>
    obtain ⟨cid, nm⟩ := q
    intro u he hl
    simp only [exUpd] at he
    cases hr : exUpd d ob l up with
    | none => simp [hr] at he
    | some rest =>
      simp only [hr] at he
      obtain ⟨vr, r1, r2, r3, r4⟩ := ih rest hr (fun cid j hm => hl cid j (List.mem_cons_of_mem _ hm))
      cases hz : (nm.2 == 0) with
      | false =>
        rw [hz] at he
        simp only [cond_false, Option.some.injEq] at he
        subst he
        refine ⟨vr, r1, r2, fun cid' j hm => ?_, r4⟩
        rcases List.mem_cons.1 hm with he | hm
        · cases he; simp at hz
        · exact r3 cid' j hm
      | true =>
        rw [hz] at he
        simp only [cond_true] at he
        simp only [beq_iff_eq] at hz
        obtain ⟨j, z⟩ := nm
        simp only at hz he
        subst hz
        obtain ⟨⟨a', ha, hra, hal⟩, hact0, hacti⟩ := hl cid j List.mem_cons_self
        rw [ha] at he
        have hnf : bor = [] ∨ a'.noFz = true := hfz.imp id fun h => (List.all_eq_true.1 h) _ (List.mem_of_getElem? ha)
        cases a' with
        | one d => simp at he
        | agg ds => simp at he
        | xsl deep k n row =>
          cases ho : ob cid with
          | none => simp [ho] at he
          | some o0 =>
            cases o0 with
            | box => simp [ho] at he
            | sl deep0 k0 n0 row0 ver =>
              simp only [ho, Option.some.injEq] at he
              subst he
              obtain ⟨rfl, rfl, rfl⟩ := hal _ ho
              have hm : (TagMap.of act).f (rootTag deep (j, 0)) = some (rootTag deep cid) := by
                cases deep <;> simp [TagMap.of, rootTag, Tag.ids, hact0, TA.tag]
              have hd : bor = [] ∨ ∃ id p, rootTag deep cid = .deep id p := by
                rcases hnf with hb | hb
                · exact .inl hb
                · simp only [Arg.noFz] at hb; subst hb; exact .inr ⟨cid, [], rfl⟩
              refine ⟨(cid, σ cid) :: vr, by simp [r1], fun p hp => ?_, fun cid' j' hm' => ?_, fun p o hp ho' id hid => ?_⟩
              · rcases List.mem_cons.1 hp with rfl | hp
                · exact NewOk.any ⟨deep, k, n, row, ver + 1, σ cid, rfl, by simp, hout _ _ _ _ hra hm hd⟩
                · exact (r2 p hp).mono fun q hq => List.mem_cons_of_mem _ hq
              · rcases List.mem_cons.1 hm' with he | hm'
                · cases he
                  exact ⟨List.mem_cons_self, _, _, ho, List.mem_cons_self, .inr ⟨_, _, _, _, _, _, _, rfl, rfl, by omega⟩⟩
                · obtain ⟨g1, o, o', g2, g3, g4⟩ := r3 cid' j' hm'
                  exact ⟨List.mem_cons_of_mem _ g1, o, o', g2, List.mem_cons_of_mem _ g3, g4⟩
              · rcases List.mem_cons.1 hp with rfl | hp
                · cases ho'; simp [Obj.ids] at hid
                · simp only [List.map_cons]; exact List.mem_cons_of_mem _ (r4 p o hp ho' id hid)
        | xbox cs =>
          cases ho : ob cid with
          | none => simp [ho] at he
          | some o0 =>
            cases o0 with
            | sl => simp [ho] at he
            | box cs0 =>
              simp only [ho, Option.some.injEq] at he
              subst he
              obtain ⟨b, arr, et, fr, g1, g2, g3, g4, g5⟩ := hra
              obtain ⟨vc, c1, c2, c3⟩ := cells_out hout hacti cs 0 (fun i => arr[i]?) (fun i r hr' => by simpa using g5.2 i r hr') (hnf.imp id fun h => h)
              refine ⟨(cid, σ cid) :: (vc ++ vr), by simp [r1, c1], fun p hp => ?_, fun cid' j' hm' => ?_, fun p o hp ho' id hid => ?_⟩
              · rcases List.mem_cons.1 hp with rfl | hp
                · refine ⟨_, σ cid, rfl, by simp, fun vals' σN ob' e1 e2 => ?_⟩
                  refine ⟨b, arr, et, fr, by rw [e2 _ _ (e1 _ List.mem_cons_self)]; exact g1, hsh b _ _ g2 hact0, g3, g4, by rw [g5.1, length_resCs], fun i c hc => ?_⟩
                  rw [resCs_get] at hc
                  simp only [Option.map_eq_some_iff] at hc
                  obtain ⟨r, hr', rfl⟩ := hc
                  obtain ⟨y, hy, _⟩ := g5.2 i r hr'
                  exact ⟨y, hy, ((c3 i r y hr' hy).mono (fun q hq => e1 q (List.mem_cons_of_mem _ (List.mem_append_left _ hq)))).rc e2 ob'⟩
                · rcases List.mem_append.1 hp with hp | hp
                  · exact (c2 p hp).any.mono fun q hq => List.mem_cons_of_mem _ (List.mem_append_left _ hq)
                  · exact (r2 p hp).mono fun q hq => List.mem_cons_of_mem _ (List.mem_append_right _ hq)
              · rcases List.mem_cons.1 hm' with he | hm'
                · cases he
                  exact ⟨List.mem_cons_self, _, _, ho, List.mem_cons_self, .inl ⟨_, _, rfl, rfl⟩⟩
                · obtain ⟨g1, o, o', g2, g3, g4⟩ := r3 cid' j' hm'
                  exact ⟨List.mem_cons_of_mem _ (List.mem_append_right _ g1), o, o', g2, List.mem_cons_of_mem _ (List.mem_append_right _ g3), g4⟩
              · rcases List.mem_cons.1 hp with rfl | hp
                · cases ho'
                  have := resCs_ids (show id ∈ (resCs (boxName d j) 0 cs).flatMap C.ids from hid)
                  simp only [List.map_cons, List.map_append]
                  exact List.mem_cons_of_mem _ (List.mem_append_left _ this)
                · simp only [List.map_cons, List.map_append]
                  rcases List.mem_append.1 hp with hp | hp
                  · obtain ⟨_, _, _, _, _, _, e, _⟩ := c2 p hp
                    rw [e] at ho'; cases ho'; simp [Obj.ids] at hid
                  · exact List.mem_cons_of_mem _ (List.mem_append_right _ (r4 p o hp ho' id hid))

theorem argsOf_root {E : Pr} {w : World} {ow : Own} {σ : Val} {ob : Id → Option Obj} {f : Nat} : ∀ (vs : List V) (j0 : Nat) (ts : List Nat) (args : List Arg) (es : List (Id × Id)) (bs : List Id) (g : Nat → Option Value), argsOf E.T f ob j0 vs ts = some (args, es, bs) →
    (∀ i v, vs[i]? = some v → ∃ x, g i = some x ∧ RV w ow σ ob v x) → (∀ id o, ob id = some o → RO w ow σ ob id o) →
    ∀ e, e ∈ es → (e.2.2 = 0 → ∃ i a o, e.2.1 = j0 + i ∧ args[i]? = some a ∧ ob e.1 = some o ∧ g i = some (σ e.1) ∧ match a, o with
      | .xsl deep k n _, .sl deep0 k0 n0 _ _ => deep = deep0 ∧ k = k0 ∧ n = n0
      | .xbox _, .box _ => True
      | _, _ => False) ∧ ∃ e', e' ∈ es ∧ e'.2 = (e.2.1, 0) := by
  have tc : ∀ (cs : List C) (j i0 : Nat) (rs : List RCell) (es : List (Id × Id)), toCells ob j i0 cs = some (rs, es) → ∀ e, e ∈ es → e.2.2 ≠ 0 ∧ e.2.1 = j := by
    intro cs
    induction cs with
    | nil => intro j i0 rs es he; simp [toCells] at he; obtain ⟨rfl, rfl⟩ := he; simp
    | cons c cs ih =>
      intro j i0 rs es he e hm
      simp only [toCells] at he
      cases h1 : toCell ob (j, 1 + i0) c with
      | none => simp [h1] at he
      | some q =>
        cases h2 : toCells ob j (i0 + 1) cs with
        | none => simp [h1, h2] at he
        | some q2 =>
          simp only [h1, h2, Option.some.injEq, Prod.mk.injEq] at he
          obtain ⟨rfl, rfl⟩ := he
          rcases List.mem_append.1 hm with hm | hm
          · unfold toCell at h1
            split at h1
            · rename_i z
              cases hz : z.oneC <;> simp [hz] at h1; subst h1; simp at hm
            · simp at h1; subst h1; simp at hm
            · split at h1
              · simp at h1; subst h1; simp at hm; subst hm; simp
              · cases h1
            · cases h1
          · exact ih j (i0 + 1) _ _ h2 e hm
  intro vs
  induction vs with
  | nil => intro j0 ts args es bs g he; simp [argsOf] at he; obtain ⟨rfl, rfl, rfl⟩ := he; simp
  | cons v vs ih =>
    intro j0 ts args es bs g he hg hobj e hm
    simp only [argsOf] at he
    cases h1 : argOf E.T (exclOf E.T f j0) j0 (ts.headD 0) ob v with
    | none => rw [h1] at he; cases he
    | some q =>
      cases h2 : argsOf E.T f ob (j0 + 1) vs ts.tail with
      | none => rw [h1, h2] at he; cases he
      | some q2 =>
        obtain ⟨arg, e1, b1⟩ := q
        obtain ⟨args', es', bs'⟩ := q2
        simp only [h1, h2, Option.some.injEq, Prod.mk.injEq] at he
        obtain ⟨rfl, rfl, rfl⟩ := he
        rcases List.mem_append.1 hm with hm | hm
        · obtain ⟨x, hx, hr⟩ := hg 0 v rfl
          unfold argOf at h1
          split at h1
          · rename_i cs
            cases hsh : shCells ob cs <;> simp [hsh] at h1
            obtain ⟨_, rfl, _⟩ := h1; simp at hm
          · rename_i c
            cases hnil : (isNil c && (E.T.kind (ts.headD 0)).isSlice) with
            | true => rw [hnil] at h1; simp at h1; obtain ⟨_, rfl, _⟩ := h1; simp at hm
            | false =>
              rw [hnil] at h1
              simp only [cond_false] at h1
              split at h1
              · split at h1
                · rename_i id cs hob
                  cases htc : toCells ob j0 0 cs with
                  | none => simp [htc] at h1
                  | some q =>
                    simp only [htc, Option.some.injEq, Prod.mk.injEq] at h1
                    obtain ⟨rfl, rfl, rfl⟩ := h1
                    rcases List.mem_cons.1 hm with rfl | hm
                    · refine ⟨fun _ => ⟨0, _, _, rfl, rfl, hob, ?_, trivial⟩, _, List.mem_append_left _ List.mem_cons_self, rfl⟩
                      obtain ⟨b, e1, e2⟩ := hr _ hob
                      rw [hx, e1, e2]
                    · obtain ⟨t1, t2⟩ := tc cs j0 0 _ _ htc e hm
                      exact ⟨fun hz => absurd hz t1, _, List.mem_append_left _ List.mem_cons_self, by rw [t2]⟩
                · cases h1
              · split at h1
                · rename_i hob
                  simp only [Option.some.injEq, Prod.mk.injEq] at h1; obtain ⟨rfl, rfl, _⟩ := h1; simp at hm; subst hm
                  refine ⟨fun _ => ⟨0, _, _, rfl, rfl, hob, ?_, rfl, rfl, rfl⟩, _, List.mem_append_left _ List.mem_cons_self, rfl⟩
                  rw [hx, hr _ _ _ _ _ hob]
                · simp only [Option.some.injEq, Prod.mk.injEq] at h1; obtain ⟨_, rfl, _⟩ := h1; simp at hm
                · cases h1
              · cases hsh : shCell ob c <;> simp [hsh] at h1
                obtain ⟨_, rfl, _⟩ := h1; simp at hm
          · cases h1
        · obtain ⟨i1, e', i2, i3⟩ := ih (j0 + 1) ts.tail _ _ _ (fun i => g (i + 1)) h2 (fun i v hv => hg (i + 1) v hv) hobj e hm
          refine ⟨fun hz => ?_, e', List.mem_append_right _ i2, i3⟩
          obtain ⟨i, a, o, k1, k2, k3, k4, k5⟩ := i1 hz
          exact ⟨i + 1, a, o, by omega, by simpa using k2, k3, k4, k5⟩

end Go.Ax
end

section
namespace Go.Ax
open Go

theorem run_enter {P : Program} {a : Act} {o : Oper} {c : Call} {f : Operand} {g : FuncId} {caps : Array Value} {w : World} (ho : o.op = .call c) (hc : c.callee = .value f) (hf : a.eval f = .func (.func g) #[] caps) (hb : HasBody P g) :
    (execOp a.eval o).run P w = .ok (.enter g (c.args.map a.eval ++ caps)) w := by
  obtain ⟨fn, h1, h2, h3⟩ := hb
  have h3' : ¬ fn.name = "runtime.NumGoroutine" := by simpa using h3
  have h2' : ¬ fn.body = none := by cases hx : fn.body <;> simp_all
  unfold execOp
  obtain ⟨callee, args, ats⟩ := c
  simp only at hc
  subst hc
  simp [ho, resolve, hf, Deferred.ofValue, invoke, callFunc, h1, h2', h3']

theorem callFn_inv {T : Tab} {f : Nat} {objs : Id → Option Obj} {vs : List V} {ts : List Nat} {g : FuncId} {args : List Arg} {ex : List (Id × Id)} {bor : List Id} (h : callFn T f objs vs ts = .call g args ex bor) :
    g = f ∧ argsOf T f objs 0 vs ts = some (args, ex, bor) ∧ nodupI (ex.map (·.1)) = true ∧ (∀ e, e ∈ ex → bor.any (eqId e.1) = false) ∧ nodupI (ex.map (·.2)) = true ∧ vs.length < 1000 := by
  unfold callFn at h
  split at h
  · rename_i as es bs he
    cases hb : (nodupI (es.map (·.1)) && es.all (fun e => !(bs.any (eqId e.1))) && nodupI (es.map (·.2)) && decide (vs.length < 1000)) with
    | false => rw [hb] at h; cases h
    | true =>
      rw [hb] at h
      simp only [cond_true, Ev.call.injEq] at h
      obtain ⟨rfl, rfl, rfl, rfl⟩ := h
      simp only [Bool.and_eq_true, decide_eq_true_eq] at hb
      obtain ⟨⟨⟨h1, h2⟩, h3⟩, h4⟩ := hb
      refine ⟨rfl, he, h1, fun e hm => ?_, h3, h4⟩
      have := (List.all_eq_true.1 h2) e hm
      simpa using this
  · cases h

theorem cut_call {f : FuncId} {args : List Arg} {ex : List (Id × Id)} {bor : List Id} : ∀ {b : Bool} {x : Ev}, (bif b then x else .stuck) = Ev.call f args ex bor → x = .call f args ex bor := by
  intro b x hx; cases b
  · cases hx
  · exact hx

theorem bin_call {T : Tab} {op : BinOp} {t : Nat} {x y : V} {f : FuncId} {args : List Arg} {ex : List (Id × Id)} {bor : List Id} : bin T op t x y ≠ .call f args ex bor := by
  intro he
  unfold bin at he
  split at he
  · split at he
    · split at he <;> cases he
    · split at he <;> cases he
    · replace he := cut_call he
      split at he <;> cases he
  · split at he <;> cases he
  · split at he <;> cases he
  · cases he

theorem no_call {T : Tab} {dp : Nat → Bool} {dst : Option Nat} {op : Op} {ev : Operand → V} {ob : Id → Option Obj} {f : FuncId} {args : List Arg} {ex : List (Id × Id)} {bor : List Id} (hn : ∀ c, op ≠ .call c) : eval T dp dst op ev ob ≠ .call f args ex bor := by
  intro he
  cases op with
  | call c => exact hn c rfl
  | move | assign => cases he
  | pick | nilCheck | load | store | extract | box | alloc =>
    simp only [eval] at he
    repeat (first | cases he | (replace he := cut_call he) | split at he)
  | build => simp only [eval, build] at he; repeat (first | cases he | (replace he := cut_call he) | split at he)
  | buildSlice => simp only [eval, buildSlice] at he; repeat (first | cases he | (replace he := cut_call he) | split at he)
  | makeSlice => simp only [eval, makeSlice] at he; repeat (first | cases he | (replace he := cut_call he) | split at he)
  | slice => simp only [eval, slice] at he; repeat (first | cases he | (replace he := cut_call he) | split at he)
  | indexAddr => simp only [eval, indexAddr] at he; repeat (first | cases he | (replace he := cut_call he) | split at he)
  | fieldAddr => simp only [eval, fieldAddr] at he; repeat (first | cases he | (replace he := cut_call he) | split at he)
  | field => simp only [eval, fieldOf] at he; repeat (first | cases he | (replace he := cut_call he) | split at he)
  | index => simp only [eval] at he; repeat (first | cases he | (replace he := cut_call he) | split at he)
  | binOp => simp only [eval] at he; exact bin_call he
  | unOp => simp only [eval] at he; unfold unop at he; repeat (first | cases he | (replace he := cut_call he) | split at he)
  | convert => simp only [eval] at he; unfold conv at he; repeat (first | cases he | (replace he := cut_call he) | split at he)
  | _ => cases he

section
variable {E : Pr} {B : Base} {ow : Own} {σ : Val} {st : St} {a : Act} {w : World} {o : Oper} (h : Inv E B ow σ st a w) (hd : st.dstOk o.dst = true)
include h

theorem call_args {dp : Nat → Bool} {f : FuncId} {args : List Arg} {ex : List (Id × Id)} {bor : List Id} (he : eval E.T dp o.dst o.op (st.ev E.T) st.ob = .call f args ex bor) :
    ∃ vs ts vals, callFn E.T f st.ob vs ts = .call f args ex bor ∧ (HasBody E.P f → (execOp a.eval o).run E.P w = .ok (.enter f vals) w) ∧ vals.size = vs.length ∧
      ∀ (i : Nat) (v : V), vs[i]? = some v → ∃ x, vals[i]? = some x ∧ RV w ow σ st.ob v x := by
  cases ho : o.op with
  | call c =>
    rw [ho] at he
    simp only [eval] at he
    split at he
    · rename_i fo hcal
      have argv : ∀ (i : Nat) (v : V), (c.args.toList.map (st.ev E.T))[i]? = some v → ∃ x, (c.args.map a.eval)[i]? = some x ∧ RV w ow σ st.ob v x := by
        intro i v hv
        simp only [List.getElem?_map, Array.getElem?_toList, Option.map_eq_some_iff] at hv
        obtain ⟨y, hy, rfl⟩ := hv
        exact ⟨a.eval y, by simp [hy], h.ev y⟩
      split at he
      · rename_i g caps hf
        have hfv := h.ev fo
        rw [hf] at hfv
        obtain ⟨vs, h1, h2, h3⟩ := hfv
        have hg := (callFn_inv he).1
        subst hg
        refine ⟨_, _, c.args.map a.eval ++ vs, he, fun hb => run_enter ho hcal h1 hb, by simp [h2], fun i v hv => ?_⟩
        by_cases hi : i < c.args.size
        · rw [List.getElem?_append_left (by simpa using hi)] at hv
          rw [Array.getElem?_append_left (by simpa using hi)]
          exact argv i v hv
        · rw [List.getElem?_append_right (by simpa using hi)] at hv
          rw [Array.getElem?_append_right (by simpa using hi)]
          simp only [List.length_map, Array.length_toList, Array.size_map, List.getElem?_map, Option.map_eq_some_iff] at hv ⊢
          obtain ⟨⟨id, off⟩, hp, rfl⟩ := hv
          obtain ⟨x, hx, hr⟩ := h3 _ id off hp
          exact ⟨x, hx, hr⟩
      · rename_i g fs cs hf
        cases hfc : (fs.isEmpty && cs.isEmpty) with
        | false => rw [hfc] at he; cases he
        | true =>
          rw [hfc] at he
          simp only [cond_true] at he
          simp only [Bool.and_eq_true, Array.isEmpty_iff] at hfc
          obtain ⟨rfl, rfl⟩ := hfc
          have hfv : a.eval fo = .func (.func g) #[] #[] := by have := h.ev fo; rw [hf] at this; exact this
          have hg := (callFn_inv he).1
          subst hg
          exact ⟨_, _, c.args.map a.eval ++ #[], he, fun hb => run_enter ho hcal hfv hb, by simp, fun i v hv => by simpa using argv i v hv⟩
      · cases he
    · exfalso
      split at he
      · rename_i x t _ _
        cases hbl : blen (E.T.kind t) st.ob x with
        | none => simp [hbl] at he
        | some n => simp [hbl] at he
      · cases he
    · exfalso
      split at he
      · rename_i x y t t' _ _
        cases hs : (E.T.kind t').isSlice with
        | false => rw [hs] at he; cases he
        | true =>
          rw [hs] at he
          simp only [cond_true] at he
          unfold append at he
          repeat (first | cases he | (replace he := cut_call he) | split at he)
      · cases he
    · exfalso
      split at he
      · unfold max2I at he
        repeat (first | cases he | split at he)
      · cases he
    · exfalso
      split at he
      · unfold min2I at he
        repeat (first | cases he | split at he)
      · cases he
    · cases he
  | _ => rw [ho] at he; exact absurd he (no_call (by simp))
end

end Go.Ax
end

section
namespace Go.Ax
open Go

theorem nodupI_iff : ∀ {l : List Id}, nodupI l = true ↔ l.Nodup := by
  intro l
  induction l with
  | nil => simp [nodupI]
  | cons a l ih =>
    simp only [nodupI, Bool.and_eq_true, Bool.not_eq_true', List.nodup_cons, ih]
    constructor
    · rintro ⟨h1, h2⟩
      refine ⟨fun hm => ?_, h2⟩
      rw [List.any_eq_false] at h1
      exact h1 a hm (eqId_self a)
    · rintro ⟨h1, h2⟩
      refine ⟨?_, h2⟩
      rw [List.any_eq_false]
      intro x hx he
      exact h1 (eqId_iff.1 he ▸ hx)

theorem updO_append : ∀ (l1 l2 : List (Id × Option Obj)) (o : Id → Option (Option Obj)), updO (l1 ++ l2) o = updO l2 (updO l1 o) := by
  intro l1
  induction l1 with
  | nil => intro l2 o; rfl
  | cons q l1 ih => intro l2 o; obtain ⟨i, x⟩ := q; exact ih l2 _

theorem updO_nodup {l : List (Id × Option Obj)} (hn : (l.map (·.1)).Nodup) {p : Id × Option Obj} (hp : p ∈ l) (o : Id → Option (Option Obj)) : updO l o p.1 = some p.2 := by
  obtain ⟨x, hx, he⟩ := (updO_spec l o p.1).2 ⟨p, hp, rfl⟩
  rw [he]
  have : (p.1, x) = p := by
    clear he
    induction l with
    | nil => cases hp
    | cons q l ih =>
      simp only [List.map_cons, List.nodup_cons] at hn
      rcases List.mem_cons.1 hp with e | hp1
      · rcases List.mem_cons.1 hx with e' | hx1
        · rw [e, ← e']
        · exact absurd (show q.1 ∈ l.map (·.1) from List.mem_map.2 ⟨_, hx1, by rw [e]⟩) hn.1
      · rcases List.mem_cons.1 hx with e' | hx1
        · exact absurd (show q.1 ∈ l.map (·.1) from List.mem_map.2 ⟨p, hp1, by rw [← e']⟩) hn.1
        · exact ih hn.2 hp1 hx1
  rw [← this]

theorem mem_map_fst {α β γ : Type} {l : List (α × β)} {m : List (α × γ)} (h : l.map (·.1) = m.map (·.1)) {a : α} {b : β} (hm : (a, b) ∈ l) : ∃ c, (a, c) ∈ m := by
  have : a ∈ m.map (·.1) := by rw [← h]; exact List.mem_map.2 ⟨_, hm, rfl⟩
  obtain ⟨⟨a', c⟩, h1, h2⟩ := List.mem_map.1 this
  simp only at h2; subst h2; exact ⟨c, h1⟩

section
variable {E : Pr} {B : Base} {ow : Own} {σ : Val} {st : St} {a : Act} {w : World} {o : Oper} (h : Inv E B ow σ st a w) (hd : st.dstOk o.dst = true)
include h

theorem call_entry {f : FuncId} {vs : List V} {ts : List Nat} {vals : Array Value} {args : List Arg} {ex : List (Id × Id)} {bor : List Id} (hargs : argsOf E.T f st.ob 0 vs ts = some (args, ex, bor)) (hn : Names ex bor)
    (hsz : vals.size = vs.length) (hvals : ∀ (i : Nat) (v : V), vs[i]? = some v → ∃ x, vals[i]? = some x ∧ RV w ow σ st.ob v x) : Entry E w ((TagMap.of (actIn ex bor)).on ow) args vals := by
  obtain ⟨h1, h2⟩ := argsOf_rep h hn vs 0 ts args ex bor (fun i => vals[i]?) hargs hvals (fun e he => he) (fun i hi => hi)
  refine ⟨by rw [hsz, h1], fun j arg hj => by simpa using h2 j arg hj, fun b t hb => ?_, ?_⟩
  · simp only [TagMap.on] at hb
    cases ho : ow b with
    | none => simp [ho] at hb
    | some t0 =>
      rw [ho] at hb
      simp only [Option.bind_some] at hb
      have key : ∀ id, t0.ids = some id → t = .fz ∨ ∃ id, t.ids = some id ∧ id.1 < args.length := by
        intro id hid
        cases hx : exLk ex id with
        | some nm =>
          have hlt := argsOf_names vs 0 ts args ex bor hargs _ (exLk_some hx)
          refine .inr ⟨nm, ?_, by rw [h1]; simpa using hlt.1⟩
          cases t0 with
          | fz => simp [Tag.ids] at hid
          | deep i p => simp only [Tag.ids, Option.some.injEq] at hid; subst hid; simp [TagMap.of, Tag.ids, actIn, hx, TA.tag] at hb; subst hb; rfl
          | sh i => simp only [Tag.ids, Option.some.injEq] at hid; subst hid; simp [TagMap.of, Tag.ids, actIn, hx, TA.tag] at hb; subst hb; rfl
        | none =>
          left
          cases hbb : bor.any (eqId id) with
          | true =>
            cases t0 with
            | fz => simp [Tag.ids] at hid
            | deep i p => simp only [Tag.ids, Option.some.injEq] at hid; subst hid; simp [TagMap.of, Tag.ids, actIn, hx, hbb, TA.tag] at hb; exact hb.symm
            | sh i => simp only [Tag.ids, Option.some.injEq] at hid; subst hid; simp [TagMap.of, Tag.ids, actIn, hx, hbb, TA.tag] at hb; exact hb.symm
          | false =>
            cases t0 with
            | fz => simp [Tag.ids] at hid
            | deep i p => simp only [Tag.ids, Option.some.injEq] at hid; subst hid; simp [TagMap.of, Tag.ids, actIn, hx, hbb, TA.tag] at hb
            | sh i => simp only [Tag.ids, Option.some.injEq] at hid; subst hid; simp [TagMap.of, Tag.ids, actIn, hx, hbb, TA.tag] at hb
      cases t0 with
      | fz => simp [TagMap.of, Tag.ids] at hb; exact .inl hb.symm
      | deep i p => exact key i rfl
      | sh i => exact key i rfl
  · intro g cs hg
    obtain ⟨arr, et, fr, g1, g2, g3, gz⟩ := h.globs g cs hg
    exact ⟨arr, et, fr, g1, by simp [TagMap.on, g2, TagMap.of, Tag.ids], fun j d hj => let ⟨x, hx, hr⟩ := g3 j d hj; ⟨x, hx, hr.map _ rfl⟩, gz⟩

theorem call_untouched {ex : List (Id × Id)} {bor : List Id} {w' : World} {ow' : Own} (hf : Frame' w ((TagMap.of (actIn ex bor)).on ow) w' ow') {act : Id → TA} {b : Nat} {t : Tag} {ob : Go.Obj} (hb : ow b = some t)
    (ht : ∀ id nm, t.ids = some id → (id, nm) ∉ ex) (ho : w.heap[b]? = some ob) :
    w'.heap[b]? = some ob ∧ ownOut w ow ((TagMap.of (actIn ex bor)).on ow) ow' act b = some t := by
  have _ := h
  have hlt : b < w.heap.size := (Array.getElem?_eq_some_iff.1 ho).1
  have key : ((TagMap.of (actIn ex bor)).on ow) b = none ∨ ((TagMap.of (actIn ex bor)).on ow) b = some .fz := by
    simp only [TagMap.on, hb, Option.bind_some]
    cases t with
    | fz => right; simp [TagMap.of, Tag.ids]
    | deep i p =>
      have := exLk_none (ht i · rfl)
      cases hbb : bor.any (eqId i) with
      | true => right; simp [TagMap.of, Tag.ids, actIn, this, hbb, TA.tag]
      | false => left; simp [TagMap.of, Tag.ids, actIn, this, hbb, TA.tag]
    | sh i =>
      have := exLk_none (ht i · rfl)
      cases hbb : bor.any (eqId i) with
      | true => right; simp [TagMap.of, Tag.ids, actIn, this, hbb, TA.tag]
      | false => left; simp [TagMap.of, Tag.ids, actIn, this, hbb, TA.tag]
  obtain ⟨g1, _⟩ := hf.old b hlt key
  exact ⟨by rw [g1]; exact ho, by rw [ownOut_kept hlt key]; exact hb⟩

end

theorem resOs_ids {d : Nat} (nm : Nat → Id) (rs : List RCell) (i0 : Nat) (hn : ∀ i, (nm i).1 = d) : ∀ id, id ∈ (resOs nm i0 rs).map (·.1) → id.1 = d := by
  induction rs generalizing i0 with
  | nil => intro id h; simp [resOs] at h
  | cons r rs ih =>
    intro id h
    simp only [resOs, List.map_append, List.mem_append] at h
    rcases h with h | h
    · cases r with
      | fz => simp [resO] at h
      | own => simp only [resO, List.map_cons, List.map_nil, List.mem_singleton] at h; rw [h]; exact hn i0
    · exact ih (i0 + 1) id h

theorem resAll_ids {d : Nat} : ∀ (rs : Res) (m0 : Nat), ∀ id, id ∈ (resAll d m0 rs).map (·.1) → id.1 = d := by
  intro rs
  induction rs with
  | nil => intro m0 id h; simp [resAll] at h
  | cons r rs ih =>
    intro m0 id h
    simp only [resAll, List.map_append, List.mem_append] at h
    rcases h with h | h
    · exact resOs_ids (resName d m0) _ 0 (fun i => rfl) id h
    · exact ih (m0 + 1) id h

theorem exUpd_root {d : Nat} {ob : Id → Option Obj} {up : List Arg} : ∀ {l : List (Id × Id)} {u : List (Id × Option Obj)}, exUpd d ob l up = some u → ∀ id, id ∈ u.map (·.1) → (∃ j, (id, (j, 0)) ∈ l) ∨ id.1 = d := by
  intro l
  induction l with
  | nil => intro u h id hid; simp [exUpd] at h; subst h; simp at hid
  | cons q l ih =>
    obtain ⟨cid, nm⟩ := q
    intro u h id hid
    simp only [exUpd] at h
    cases hr : exUpd d ob l up with
    | none => simp [hr] at h
    | some rest =>
      simp only [hr] at h
      have tail : id ∈ rest.map (·.1) → (∃ j, (id, (j, 0)) ∈ (cid, nm) :: l) ∨ id.1 = d := fun hm => (ih hr id hm).imp (fun ⟨j, h⟩ => ⟨j, List.mem_cons_of_mem _ h⟩) _root_.id
      cases hz : (nm.2 == 0) with
      | false => rw [hz] at h; simp only [cond_false, Option.some.injEq] at h; subst h; exact tail hid
      | true =>
        rw [hz] at h
        simp only [cond_true] at h
        have hroot : (cid, (nm.1, 0)) ∈ (cid, nm) :: l := by
          simp only [beq_iff_eq] at hz
          obtain ⟨n1, n2⟩ := nm
          simp only at hz; subst hz
          exact List.mem_cons_self
        split at h
        · simp only [Option.some.injEq] at h
          subst h
          rcases List.mem_cons.1 hid with rfl | hid
          · exact .inl ⟨_, hroot⟩
          · exact tail hid
        · rename_i cs _ _ _
          simp only [Option.some.injEq] at h
          subst h
          rcases List.mem_cons.1 hid with rfl | hid
          · exact .inl ⟨_, hroot⟩
          · simp only [List.map_append, List.mem_append] at hid
            rcases hid with hid | hid
            · exact .inr (resOs_ids (boxName d nm.1) cs 0 (fun i => rfl) id hid)
            · exact tail hid
        · cases h

theorem ret_inv {st : St} {dst : Option Nat} {ex : List (Id × Id)} {bor : List Id} {res : Res} {up : List Arg} {v : V} {upd : List (Id × Option Obj)} (h : ret st dst ex bor res up = some (v, upd)) :
    ∃ d u, dst = some d ∧ exUpd d st.ob ex up = some u ∧ v = resV d res ∧ upd = kills (ex.map (·.1)) ++ (u ++ resAll d 0 res) ∧ (bor = [] ∨ (res.all R1.noFz = true ∧ up.all Arg.noFz = true)) ∧
      ((u ++ resAll d 0 res).map (·.1)).Nodup ∧ (∀ p, p ∈ u → (∃ e, e ∈ ex ∧ e.1 = p.1 ∧ e.2.2 = 0) ∨ st.objs p.1 = none) ∧ (∀ p, p ∈ resAll d 0 res → st.objs p.1 = none) := by
  unfold ret at h
  split at h
  · rename_i d
    split at h
    · rename_i u hu
      revert h
      generalize hb : ((bor.isEmpty || (res.all R1.noFz && up.all Arg.noFz)) && nodupI ((u ++ resAll d 0 res).map (·.1)) &&
          u.all (fun p => (ex.any fun e => eqId e.1 p.1 && (e.2.2 == 0)) || (st.objs p.1).isNone) && (resAll d 0 res).all (fun p => (st.objs p.1).isNone)) = bb
      intro h
      cases bb with
      | false => cases h
      | true =>
        simp only [cond_true, Option.some.injEq, Prod.mk.injEq] at h
        obtain ⟨rfl, rfl⟩ := h
        simp only [Bool.and_eq_true, Bool.or_eq_true, List.isEmpty_iff, List.all_eq_true, Option.isNone_iff_eq_none] at hb
        obtain ⟨⟨⟨h1, h2⟩, h3⟩, h4⟩ := hb
        refine ⟨d, u, rfl, hu, rfl, rfl, h1.imp id (fun h => ⟨List.all_eq_true.2 h.1, List.all_eq_true.2 h.2⟩), nodupI_iff.1 h2, fun p hp => ?_, h4⟩
        refine (h3 p hp).imp (fun hh => ?_) id
        obtain ⟨e, he, hk⟩ := List.any_eq_true.1 hh
        simp only [Bool.and_eq_true, beq_iff_eq] at hk
        exact ⟨e, he, eqId_iff.1 hk.1, hk.2⟩
    · cases h
  · cases h

end Go.Ax
end

section
namespace Go.Ax
open Go

section
variable {E : Pr} {B : Base} {ow : Own} {σ : Val} {st : St} {a : Act} {w : World} {o : Oper} (h : Inv E B ow σ st a w) (hd : st.dstOk o.dst = true)
include h hd

theorem call_back {f : FuncId} {vs : List V} {ts : List Nat} {vals : Array Value} {args : List Arg} {ex : List (Id × Id)} {bor : List Id} (hcf : callFn E.T f st.ob vs ts = .call f args ex bor)
    (hsz : vals.size = vs.length) (hvals : ∀ (i : Nat) (v : V), vs[i]? = some v → ∃ x, vals[i]? = some x ∧ RV w ow σ st.ob v x)
    {w' : World} {ow' : Own} {res : Res} {up : List Arg} {x : Value} (hrep : RepRes w' ow' res x) (hf : Frame' w ((TagMap.of (actIn ex bor)).on ow) w' ow')
    (hup : ∀ j a, args[j]? = some a → a.isX = true → ∃ a', up[j]? = some a' ∧ a.alike a' ∧ ∃ x, vals[j]? = some x ∧ RepArg w' ow' j a' x)
    {v : V} {upd : List (Id × Option Obj)} (hret : ret st o.dst ex bor res up = some (v, upd)) :
    ∃ ow2 σ2, Inv E B ow2 σ2 (st.app o.dst v upd) (a.put o.dst x) w' := by
  obtain ⟨_, hargs, hn1, hn2, hn3, hlt⟩ := callFn_inv hcf
  have hn : Names ex bor := ⟨hn1, hn2⟩
  obtain ⟨d, u, hdst, hu, rfl, rfl, hbor, hnd, hfresh, hfreshR⟩ := ret_inv hret
  have hroots := argsOf_root (E := E) vs 0 ts args ex bor (fun i => vals[i]?) hargs hvals h.objs
  have hlen : args.length = vs.length := (argsOf_rep h hn vs 0 ts args ex bor (fun i => vals[i]?) hargs hvals (fun e he => he) (fun i hi => hi)).1
  have hnames := argsOf_names vs 0 ts args ex bor hargs

  have hex0 : ∀ cid j, (cid, (j, 0)) ∈ ex → exRev ex j = some cid ∧ j < 1000 := fun cid j hm => ⟨exRev_mem hn3 hm, by have := (hnames _ hm).1; simp only at this; omega⟩
  have hact0 : ∀ cid j, (cid, (j, 0)) ∈ ex → actOut d ex (j, 0) = .into cid [] ∧ ∀ i, actOut d ex (argName j i) = .into (boxName d j i) [] := fun cid j hm => by
    obtain ⟨h1, h2⟩ := hex0 cid j hm
    have hj : ¬ 1000000 ≤ j := by omega
    refine ⟨by simp [actOut, h1, hj], fun i => ?_⟩
    have : argName j i = (j, i + 1) := by simp [argName]; omega
    simp [this, actOut, h1, hj]
  have hactR : ∀ m i, actOut d ex (resId m i) = .into (resName d m i) [] := fun m i => by
    simp [actOut, resId, resName]
  generalize hact : actOut d ex = act at hact0 hactR
  have hout : Outs w' ow' (ownOut w ow ((TagMap.of (actIn ex bor)).on ow) ow' act) act bor := fun t t' dd vv r ht hb => outRep hf r ht hb
  have hsh : ∀ b id id', ow' b = some (.sh id) → act id = .into id' [] → ownOut w ow ((TagMap.of (actIn ex bor)).on ow) ow' act b = some (.sh id') := by
    intro b id id' hb ha
    unfold ownOut
    rw [if_neg]
    · simp [TagMap.on, hb, TagMap.of, Tag.ids, ha, TA.tag]
    · rintro ⟨h1, h2⟩
      obtain ⟨_, g⟩ := hf.old b h1 h2
      rw [g] at hb
      rcases h2 with h2 | h2 <;> rw [h2] at hb <;> cases hb
  generalize hOw : ownOut w ow ((TagMap.of (actIn ex bor)).on ow) ow' act = owN at hout hsh

  have hlent : ∀ cid j, (cid, (j, 0)) ∈ ex → Lent w' ow' σ up st.ob cid j := fun cid j hm => by
    obtain ⟨i, aa, o1, e1, e2, e3, e4, e5⟩ := (hroots _ hm).1 rfl
    simp only [Nat.zero_add] at e1
    subst e1
    have hX : aa.isX = true := by cases aa <;> simp_all [Arg.isX]
    obtain ⟨a', g1, g2, y, g3, g4⟩ := hup _ aa e2 hX
    rw [e4] at g3
    cases g3
    refine ⟨a', g1, g4, fun o2 ho2 => ?_⟩
    rw [e3] at ho2; cases ho2
    cases aa with
    | xsl =>
      cases o1 with
      | sl => cases a' with
        | xsl => simp only [Arg.alike] at g2; obtain ⟨rfl, rfl, rfl⟩ := g2; exact e5
        | _ => simp [Arg.alike] at g2
      | box => simp at e5
    | xbox =>
      cases o1 with
      | box => cases a' with
        | xbox => trivial
        | _ => simp [Arg.alike] at g2
      | sl => simp at e5
    | _ => simp [Arg.isX] at hX
  obtain ⟨v1, a1, a2, a3, a4⟩ := ex_out hout hsh (d := d) (σ := σ) (ob := st.ob) (up := up) (hbor.imp id (·.2)) ex u hu fun cid j hm => ⟨hlent cid j hm, hact0 cid j hm⟩

  have hg : ∃ g : Nat → Option Value, (∀ m r, res[m]? = some r → ∃ y, g m = some y ∧ RepR1 w' ow' (resId (0 + m)) r y) ∧
      ∀ (σN : Val) (ob : Id → Option Obj), (∀ m y, (resVs d 0 res)[m]? = some y → ∃ z, g m = some z ∧ RV1 w' owN σN ob y z) → RV w' owN σN ob (resV d res) x := by
    have many : (∃ vs : Array Value, x = .tuple vs ∧ vs.size = res.length ∧ ∀ m r, res[m]? = some r → ∃ y, vs[m]? = some y ∧ RepR1 w' ow' (resId m) r y) → resV d res = .tup (resVs d 0 res) → ∃ g : Nat → Option Value, (∀ m r, res[m]? = some r → ∃ y, g m = some y ∧ RepR1 w' ow' (resId (0 + m)) r y) ∧
        ∀ (σN : Val) (ob : Id → Option Obj), (∀ m y, (resVs d 0 res)[m]? = some y → ∃ z, g m = some z ∧ RV1 w' owN σN ob y z) → RV w' owN σN ob (resV d res) x := by
      rintro ⟨vs', rfl, h2, h3⟩ hv
      refine ⟨fun m => vs'[m]?, fun m r hm => by simpa using h3 m r hm, fun σN ob hh => ?_⟩
      rw [hv]
      have hl : ∀ (rs : Res) (m0 : Nat), (resVs d m0 rs).length = rs.length := by
        intro rs; induction rs with
        | nil => intro m0; rfl
        | cons r rs ih => intro m0; simp [resVs, ih]
      exact ⟨vs', rfl, by rw [h2, hl], hh⟩
    match res, hrep, many with
    | [r], hrep, _ =>
      refine ⟨fun m => if m = 0 then some x else none, fun m r' hm => ?_, fun σN ob hh => ?_⟩
      · cases m with
        | zero => simp only [List.getElem?_cons_zero, Option.some.injEq] at hm; subst hm; exact ⟨x, rfl, hrep⟩
        | succ m => simp at hm
      · obtain ⟨z, hz, hr⟩ := hh 0 (resV1 (resName d 0) r) rfl
        simp only [if_true, Option.some.injEq] at hz
        subst hz
        exact hr
    | [], hrep, many => exact many hrep rfl
    | _ :: _ :: _, hrep, many => exact many hrep rfl
  obtain ⟨g, hg1, hg2⟩ := hg
  obtain ⟨v2, b1, b2, b3⟩ := res_out hout (d := d) hactR res 0 g hg1 (hbor.imp id (·.1))

  let vals' := v1 ++ v2
  have hvn : vals'.map (·.1) = (u ++ resAll d 0 res).map (·.1) := by simp [vals', a1, b1]
  let σN : Val := fun id => (valLk vals' id).getD (σ id)
  have hσ : ∀ id y, (id, y) ∈ vals' → σN id = y := fun id y hm => by
    have := valLk_mem (nodupI_iff.2 (by rw [hvn]; exact hnd)) hm
    simp [σN, this]
  have hall : ∀ p, p ∈ u ++ resAll d 0 res → NewAny w' owN vals' p := fun p hp => by
    rcases List.mem_append.1 hp with hp | hp
    · exact (a2 p hp).mono fun q hq => List.mem_append_left _ hq
    · exact (b2 p hp).any.mono fun q hq => List.mem_append_right _ hq
  have hobjs : (st.app o.dst (resV d res) (kills (ex.map (·.1)) ++ (u ++ resAll d 0 res))).objs = updO (u ++ resAll d 0 res) (updO (kills (ex.map (·.1))) st.objs) := updO_append _ _ _
  generalize hst' : st.app o.dst (resV d res) (kills (ex.map (·.1)) ++ (u ++ resAll d 0 res)) = st' at hobjs
  have hnew : ∀ p, p ∈ u ++ resAll d 0 res → st'.objs p.1 = some p.2 := fun p hp => by rw [hobjs]; exact updO_nodup hnd hp _
  have hcase : ∀ id, updIds (kills (ex.map (·.1)) ++ (u ++ resAll d 0 res)) id → (∃ p, p ∈ u ++ resAll d 0 res ∧ p.1 = id) ∨ (id ∈ ex.map (·.1) ∧ st'.ob id = none) := fun id hid => by
    by_cases hp : updIds (u ++ resAll d 0 res) id
    · exact .inl hp
    · right
      rcases (updIds_kills _ _ _).1 hid with hk | hk
      · refine ⟨hk, ?_⟩
        have h1 : st'.objs id = updO (kills (ex.map (·.1))) st.objs id := by rw [hobjs]; exact (updO_spec _ _ _).1 hp
        obtain ⟨y, hy, hz⟩ := (updO_spec (kills (ex.map (·.1))) st.objs id).2 ⟨(id, none), List.mem_map.2 ⟨id, hk, rfl⟩, rfl⟩
        have : y = none := by simp only [kills, List.mem_map] at hy; obtain ⟨_, _, he⟩ := hy; cases he; rfl
        subst this
        simp [St.ob, h1, hz]
      · exact absurd hk hp
  have hu' : Upd (updIds (kills (ex.map (·.1)) ++ (u ++ resAll d 0 res))) st st' o.dst (resV d res) := hst' ▸ Upd.of_app
  have hXex : ∀ id nm, (id, nm) ∈ ex → updIds (kills (ex.map (·.1)) ++ (u ++ resAll d 0 res)) id := fun id nm hm =>
    (updIds_kills _ _ _).2 (.inl (List.mem_map.2 ⟨_, hm, rfl⟩))
  have hstep : Step (updIds (kills (ex.map (·.1)) ++ (u ++ resAll d 0 res))) w ow σ w' owN σN := by
    refine ⟨fun b t ob hb ht ho => ?_, fun id hid => ?_⟩
    · rw [← hOw]
      exact call_untouched h hf hb (fun id nm hid hm => ht id hid (hXex id nm hm)) ho
    · have : valLk vals' id = none := valLk_none fun y hy => hid ((updIds_kills _ _ _).2 (.inr (by
        obtain ⟨c, hc⟩ := mem_map_fst hvn hy
        exact ⟨_, hc, rfl⟩)))
      simp [σN, this]
  have hframe : Frame' B.w B.ow w' owN := by
    have hF := h.frame
    refine ⟨by rw [hf.os, hF.os], by rw [hf.tape, hF.tape], by rw [hf.output, hF.output], Nat.le_trans hF.size hf.size, fun b hb1 hb2 => ?_⟩
    obtain ⟨g1, g2⟩ := hF.old b hb1 hb2
    have hlt : b < w.heap.size := Nat.lt_of_lt_of_le hb1 hF.size
    have key : ((TagMap.of (actIn ex bor)).on ow) b = none ∨ ((TagMap.of (actIn ex bor)).on ow) b = some .fz := by
      simp only [TagMap.on, g2]
      rcases hb2 with e | e <;> simp [e, TagMap.of, Tag.ids]
    obtain ⟨k1, _⟩ := hf.old b hlt key
    refine ⟨by rw [k1, g1], ?_⟩
    rw [← hOw, ownOut_kept hlt key, g2]
  have hidsLaid : ∀ id, id ∈ (u ++ resAll d 0 res).map (·.1) → st'.objs id ≠ none := fun id hid => by
    obtain ⟨p, hp, rfl⟩ := List.mem_map.1 hid
    rw [hnew p hp]; simp
  refine ⟨owN, σN, h.upd hstep hu' hd ?_ ?_ ?_ ?_ ?_ hframe ?_⟩
  · intro id hX hlive
    rcases hcase id hX with ⟨p, hp, rfl⟩ | ⟨_, hdead⟩
    · rcases List.mem_append.1 hp with hp' | hp'
      · rcases hfresh p hp' with ⟨⟨cid, nm⟩, he, e1, e2⟩ | hnone
        · obtain ⟨j, z⟩ := nm
          simp only at e1 e2
          subst e2
          obtain ⟨g1, o1, o2, g2, g3, g4⟩ := a3 cid j he
          have hob2 : st'.ob cid = some o2 := by
            have := hnew (cid, some o2) (List.mem_append_left _ g3)
            simp only at this
            simp [St.ob, this]
          rw [← e1]
          refine .inr (.inr ⟨hσ _ _ (List.mem_append_left _ g1), ?_⟩)
          rcases g4 with ⟨cs, cs', rfl, rfl⟩ | ⟨deep, k, n, row, ver, row', ver', rfl, rfl, hv⟩
          · exact .inl ⟨cs, cs', g2, hob2⟩
          · exact .inr ⟨deep, k, n, row, ver, row', ver', g2, hob2, hv⟩
        · exact absurd hnone hlive
      · exact absurd (hfreshR p hp') hlive
    · exact .inr (.inl hdead)
  · intro id ob hX hob
    rcases hcase id hX with ⟨p, hp, rfl⟩ | ⟨_, hdead⟩
    · obtain ⟨o1, y, e1, e2, e3⟩ := hall p hp
      have := hnew p hp
      rw [e1] at this
      have hob' : st'.ob p.1 = some o1 := by simp [St.ob, this]
      rw [hob'] at hob; cases hob
      exact e3 vals' σN _ (fun q hq => hq) hσ
    · rw [hdead] at hob; cases hob
  · intro _
    exact hg2 σN _ fun m y hy => b3 vals' σN _ (fun q hq => List.mem_append_right _ hq) hσ m y hy
  · intro id hid
    exact hidsLaid id (by rw [List.map_append]; exact List.mem_append_right _ (resV_ids hid))
  · intro id ob hX hob id' hid'
    rcases hcase id hX with ⟨p, hp, rfl⟩ | ⟨_, hdead⟩
    · obtain ⟨o1, y, e1, e2, e3⟩ := hall p hp
      have := hnew p hp
      rw [e1] at this
      have hob' : st'.ob p.1 = some o1 := by simp [St.ob, this]
      rw [hob'] at hob; cases hob
      rcases List.mem_append.1 hp with hp' | hp'
      · exact hidsLaid id' (by rw [List.map_append]; exact List.mem_append_left _ (a4 p _ hp' e1 id' hid'))
      · obtain ⟨_, _, _, _, _, _, e, _⟩ := b2 p hp'
        rw [e1] at e; cases e; simp [Obj.ids] at hid'
    · rw [hdead] at hob; cases hob
  · intro id ob hX hge hob
    have hdlt : d < 2000000 := by
      rw [hdst] at hd
      have h1 : d < st.nt := by simpa [St.dstOk] using hd
      have h2 := h.small
      omega
    rcases hcase id hX with ⟨p, hp, rfl⟩ | ⟨_, hdead⟩
    · rcases List.mem_append.1 hp with hp' | hp'
      · rcases exUpd_root hu p.1 (List.mem_map.2 ⟨p, hp', rfl⟩) with ⟨j, he⟩ | h1
        · obtain ⟨g1, o1, o2, g2, g3, g4⟩ := a3 p.1 j he
          exact ⟨hσ _ _ (List.mem_append_left _ g1), by rw [g2]; simp⟩
        · omega
      · have := resAll_ids res 0 p.1 (List.mem_map.2 ⟨p, hp', rfl⟩)
        omega
    · rw [hdead] at hob; cases hob

theorem call_good {dp : Nat → Bool} {f : FuncId} {args : List Arg} {ex : List (Id × Id)} {bor : List Id} (he : eval E.T dp o.dst o.op (st.ev E.T) st.ob = .call f args ex bor)
    {next : Act → World → Prop} {Q : Exit → Act → World → Prop} {R : St → Prop}
    (hc : ACall E f args fun res up => match ret st o.dst ex bor res up with | some (v, upd) => R (st.app o.dst v upd) | none => False)
    (hnext : ∀ ow2 σ2 v upd x w', R (st.app o.dst v upd) → Inv E B ow2 σ2 (st.app o.dst v upd) (a.put o.dst x) w' → next (a.put o.dst x) w') : o.wp E.P a w next Q := by
  obtain ⟨vs, ts, vals, hcf, hrun, hsz, hvals⟩ := call_args h he
  obtain ⟨_, hargs, hn1, hn2, hn3, hlt⟩ := callFn_inv hcf
  unfold Oper.wp
  rw [hrun hc.1, Oper.upon_enter]
  refine (hc.2.2 w _ vals (call_entry h hargs ⟨hn1, hn2⟩ hsz hvals)).mono ?_
  rintro e w' ⟨v, ow', res, up, rfl, hq, hrep, ⟨hul, hup⟩, hfr⟩
  simp only
  split at hq
  · rename_i v2 upd hret
    obtain ⟨ow2, σ2, hinv⟩ := call_back h hd hcf hsz hvals hrep hfr hup hret
    exact hnext ow2 σ2 v2 upd v w' hq hinv
  · exact hq.elim

end

end Go.Ax
end

section
namespace Go.Ax
open Go

def run1 (E : Pr) (e : Ev) (o : Oper) (K : St → Prop) (st : St) : Prop :=
  match e with
  | .stuck => False
  | .det side v upd => (st.newOk o.op o.dst = true ∧ st.dstOk o.dst = true) ∧ side ∧ K (st.app o.dst v upd)
  | .nd f => st.dstOk o.dst = true ∧ ∀ b, K (st.app o.dst (f b) [])
  | .call f args ex bor => st.dstOk o.dst = true ∧ ACall E f args fun res up => match ret st o.dst ex bor res up with
    | some (v, upd) => K (st.app o.dst v upd)
    | none => False

def boolV : V → Option Bool
  | .s (.one (.val (.bool b))) => some b
  | _ => none

theorem boolV_some {v : V} {b : Bool} (h : boolV v = some b) : v = .s (.one (.val (.bool b))) := by
  unfold boolV at h
  split at h
  · cases h; rfl
  · cases h

def evG (E : Pr) (dp : Nat → Bool) (ops : Array Oper) (o : Oper) (st : St) : Option Ev :=
  match guardOf ops o with
  | .free => some (eval E.T dp o.dst o.op (st.ev E.T) st.ob)
  | .bad => some .stuck
  | .slot g want => match gV want (st.env g) with
    | some b => if b = want then some (eval E.T dp o.dst o.op (st.ev E.T) st.ob) else none
    | none => some .stuck

def execE (E : Pr) (dp : Nat → Bool) (ops : Array Oper) (o : Oper) (K : St → Prop) (st : St) : Prop :=
  match evG E dp ops o st with
  | none => st.dstOk o.dst = true ∧ K (st.app o.dst .undef [])
  | some e => run1 E e o K st

theorem exec1_run1 {E : Pr} {dp : Nat → Bool} {o : Oper} {K : St → Prop} {st : St} (h : exec1 E dp o K st) : run1 E (eval E.T dp o.dst o.op (st.ev E.T) st.ob) o K st := by
  unfold exec1 at h
  generalize eval E.T dp o.dst o.op (st.ev E.T) st.ob = e at h
  cases e with
  | stuck => exact h
  | det side v upd =>
    simp only at h
    cases hb : (st.newOk o.op o.dst && st.dstOk o.dst) with
    | false => rw [hb] at h; exact h.elim
    | true => rw [hb] at h; simp only [Bool.and_eq_true] at hb; exact ⟨hb, h⟩
  | nd f =>
    simp only at h
    cases hb : st.dstOk o.dst with
    | false => rw [hb] at h; exact h.elim
    | true => rw [hb] at h; exact ⟨hb, h⟩
  | call f args ex bor =>
    simp only at h
    cases hb : st.dstOk o.dst with
    | false => rw [hb] at h; exact h.elim
    | true => rw [hb] at h; exact ⟨hb, h⟩

theorem app_same {st : St} {g : Nat} {v : V} (h : st.env g = v) : st.app (some g) v [] = st := by
  cases st with
  | mk nt env objs =>
    simp only [St.app, updO]
    congr 1
    funext s
    cases hs : (g == s) with
    | false => rfl
    | true => simp only [beq_iff_eq] at hs; subst hs; exact h.symm

theorem execG_E {E : Pr} {dp : Nat → Bool} {ops : Array Oper} {o : Oper} {K : St → Prop} {st : St} (h : execG E dp ops o K st) : execE E dp ops o K st := by
  unfold execG at h
  unfold execE evG
  cases hg : guardOf ops o with
  | free => rw [hg] at h; exact exec1_run1 h
  | bad => rw [hg] at h; exact h.elim
  | slot g want =>
    rw [hg] at h
    simp only at h ⊢
    split at h
    · rename_i b hb
      have hbv : gV want (st.env g) = some b := by rw [hb]; rfl
      simp only [hbv]
      by_cases hbw : b = want
      · subst hbw
        simp only [if_true]
        have := h.1 rfl
        rw [app_same hb] at this
        exact exec1_run1 this
      · have hb' : b = !want := by cases b <;> cases want <;> simp_all
        simp only [hbw, if_false]
        have := h.2 hb'
        subst hb'
        rw [app_same hb] at this
        cases hd : st.dstOk o.dst with
        | false => rw [hd] at this; exact this.elim
        | true => rw [hd] at this; exact ⟨rfl, this⟩
    · rename_i hb
      have hbv : gV want (st.env g) = some (!want) := by rw [hb]; rfl
      simp only [hbv]
      rw [if_neg (by cases want <;> simp)]
      cases hd : st.dstOk o.dst with
      | false => rw [hd] at h; exact h.elim
      | true => rw [hd] at h; exact ⟨rfl, h⟩
    · exact h.elim

theorem run1_mono {E : Pr} {e : Ev} {o : Oper} {K K' : St → Prop} {st : St} (hk : ∀ s, K s → K' s) (h : run1 E e o K st) : run1 E e o K' st := by
  unfold run1 at h ⊢
  cases e with
  | stuck => exact h
  | det => exact ⟨h.1, h.2.1, hk _ h.2.2⟩
  | nd => exact ⟨h.1, fun b => hk _ (h.2 b)⟩
  | call =>
    refine ⟨h.1, h.2.mono fun r u hq => ?_⟩
    split at hq
    · exact hk _ hq
    · exact hq

theorem execE_mono {E : Pr} {dp : Nat → Bool} {ops : Array Oper} {o : Oper} {K K' : St → Prop} {st : St} (hk : ∀ s, K s → K' s) (h : execE E dp ops o K st) : execE E dp ops o K' st := by
  unfold execE at h ⊢
  cases he : evG E dp ops o st with
  | none => rw [he] at h; exact ⟨h.1, hk _ h.2⟩
  | some e => rw [he] at h; exact run1_mono hk h

theorem nd_none {dp : Nat → Bool} {T : Tab} {dst : Option Nat} {op : Op} {ev : Operand → V} {ob : Id → Option Obj} {f : Bool → V} : eval T dp dst op ev ob ≠ .nd f := by
  intro he
  have cut : ∀ {b : Bool} {x : Ev}, (bif b then x else .stuck) = Ev.nd f → x = .nd f := by
    intro b x hx; cases b
    · cases hx
    · exact hx
  cases op with
  | call c =>
    simp only [eval] at he
    split at he
    · split at he
      · unfold callFn at he; repeat (first | cases he | (replace he := cut he) | split at he)
      · replace he := cut he
        unfold callFn at he; repeat (first | cases he | (replace he := cut he) | split at he)
      · cases he
    · repeat (first | cases he | (replace he := cut he) | split at he)
    · split at he
      · replace he := cut he; unfold append at he; repeat (first | cases he | (replace he := cut he) | split at he)
      · cases he
    · split at he
      · unfold max2I at he; repeat (first | cases he | (replace he := cut he) | split at he)
      · cases he
    · split at he
      · unfold min2I at he; repeat (first | cases he | (replace he := cut he) | split at he)
      · cases he
    · cases he
  | move | assign => cases he
  | pick | nilCheck | load | store | extract | box | alloc =>
    simp only [eval] at he
    repeat (first | cases he | (replace he := cut he) | split at he)
  | build => simp only [eval, build] at he; repeat (first | cases he | (replace he := cut he) | split at he)
  | buildSlice => simp only [eval, buildSlice] at he; repeat (first | cases he | (replace he := cut he) | split at he)
  | makeSlice => simp only [eval, makeSlice] at he; repeat (first | cases he | (replace he := cut he) | split at he)
  | slice => simp only [eval, slice] at he; repeat (first | cases he | (replace he := cut he) | split at he)
  | indexAddr => simp only [eval, indexAddr] at he; repeat (first | cases he | (replace he := cut he) | split at he)
  | fieldAddr => simp only [eval, fieldAddr] at he; repeat (first | cases he | (replace he := cut he) | split at he)
  | field => simp only [eval, fieldOf] at he; repeat (first | cases he | (replace he := cut he) | split at he)
  | index => simp only [eval] at he; repeat (first | cases he | (replace he := cut he) | split at he)
  | binOp =>
    simp only [eval] at he; unfold bin at he
    split at he
    · split at he
      · split at he <;> cases he
      · split at he <;> cases he
      · replace he := cut he
        split at he <;> cases he
    · split at he <;> cases he
    · split at he <;> cases he
    · cases he
  | unOp => simp only [eval] at he; unfold unop at he; repeat (first | cases he | (replace he := cut he) | split at he)
  | convert => simp only [eval] at he; unfold conv at he; repeat (first | cases he | (replace he := cut he) | split at he)
  | _ => cases he

section
variable {E : Pr} {B : Base} {ow : Own} {σ : Val} {st : St} {a : Act} {w : World} {o : Oper} (h : Inv E B ow σ st a w) (hT : TabOk E.P E.T)
include h hT

theorem run1_sound {dp : Nat → Bool} {K : St → Prop} (hr : run1 E (eval E.T dp o.dst o.op (st.ev E.T) st.ob) o K st) {next : Act → World → Prop} {Q : Exit → Act → World → Prop}
    (hnext : ∀ ow2 σ2 st2 a2 w2, K st2 → Inv E B ow2 σ2 st2 a2 w2 → next a2 w2) : o.wp E.P a w next Q := by
  unfold run1 at hr
  cases he : eval E.T dp o.dst o.op (st.ev E.T) st.ob with
  | stuck => rw [he] at hr; exact hr.elim
  | det side v upd =>
    rw [he] at hr
    obtain ⟨⟨h1, h2⟩, h3, h4⟩ := hr
    obtain ⟨x, w', ow', σ', hrun, hinv⟩ := det_good h hT h2 he h3 h1
    unfold Oper.wp
    rcases hrun with hrun | ⟨hrun, rfl⟩
    · rw [hrun, Oper.upon_value]; exact hnext _ _ _ _ _ h4 hinv
    · rw [hrun, Oper.upon_skip]; exact hnext _ _ _ _ _ h4 hinv
  | nd f => exact absurd he nd_none
  | call f args ex bor =>
    rw [he] at hr
    exact call_good (R := K) h hr.1 he hr.2 fun ow2 σ2 v upd x w' hR hinv => hnext _ _ _ _ _ hR hinv

theorem Inv.skipped (dst : Option Nat) (hd : st.dstOk dst = true) : Inv E B ow σ (st.app dst .undef []) (a.put dst undef) w :=
  have _ := hT;
  h.put hd (fun _ => rfl) (by simp [V.ids, V1.ids, C.ids])

theorem execE_sound {dp : Nat → Bool} {ops : Array Oper} {i : Nat} (ho : ops[i]? = some o) {K : St → Prop} (hr : execE E dp ops o K st) {next : Act → World → Prop} {Q : Exit → Act → World → Prop}
    (hnext : ∀ ow2 σ2 st2 a2 w2, K st2 → Inv E B ow2 σ2 st2 a2 w2 → next a2 w2) : wpOp E.P ops Q i next a w := by
  unfold wpOp
  simp only [ho]
  unfold execE evG at hr
  cases hg : o.guard with
  | none =>
    have hgo : guardOf ops o = .free := by simp [guardOf, hg]
    rw [hgo] at hr
    have hw : Region.wanted o (yielded ops a.tmps) = true := by simp [Region.wanted, hg]
    rw [if_pos hw]
    exact .inl (run1_sound h hT hr hnext)
  | some jw =>
    obtain ⟨j, want⟩ := jw
    cases hj : ops[j]? with
    | none =>
      have hgo : guardOf ops o = .bad := by simp [guardOf, hg, hj]
      rw [hgo] at hr; exact hr.elim
    | some o' =>
      cases hd' : o'.dst with
      | none =>
        have hgo : guardOf ops o = .bad := by simp [guardOf, hg, hj, hd']
        rw [hgo] at hr; exact hr.elim
      | some g =>
        have hgo : guardOf ops o = .slot g want := by simp [guardOf, hg, hj, hd']
        rw [hgo] at hr
        simp only at hr
        have hsl := h.env g
        cases hb : gV want (st.env g) with
        | some b =>
          rw [hb] at hr
          simp only at hr
          have hcase : (st.env g = .s (.one (.val (.bool b)))) ∨ (st.env g = .undef ∧ b = !want) := by
            unfold gV at hb
            split at hb
            · rename_i he; cases hb; exact .inl he
            · rename_i he; cases hb; exact .inr ⟨he, rfl⟩
            · cases hb
          have hy : (yielded ops a.tmps j = some b) ∨ (yielded ops a.tmps j = none ∧ b = !want) := by
            rcases hcase with he | ⟨he, hbw⟩
            · left
              rw [he] at hsl
              have hsl' : a.tmps.getD g undef = .bool b := hsl
              have hin : a.tmps[g]? = some (.bool b) := by
                cases ht : a.tmps[g]? with
                | none => simp [Array.getD_eq_getD_getElem?, ht, undef] at hsl'
                | some x => simp [Array.getD_eq_getD_getElem?, ht] at hsl'; rw [hsl']
              simp [yielded, hj, hd', hin]
            · right
              refine ⟨?_, hbw⟩
              rw [he] at hsl
              have hsl' : a.tmps.getD g undef = .tuple #[] := hsl
              cases ht : a.tmps[g]? with
              | none => simp [yielded, hj, hd', ht]
              | some x => simp [Array.getD_eq_getD_getElem?, ht] at hsl'; subst hsl'; simp [yielded, hj, hd', ht]
          by_cases hbw : b = want
          · subst hbw
            have hw : Region.wanted o (yielded ops a.tmps) = true := by
              rcases hy with hy | ⟨_, hne⟩
              · simp [Region.wanted, hg, hy]
              · cases b <;> simp at hne
            rw [if_pos hw]
            simp only [if_true] at hr
            exact .inl (run1_sound h hT hr hnext)
          · have hw : ¬ Region.wanted o (yielded ops a.tmps) = true := by
              rcases hy with hy | ⟨hy, _⟩ <;> simp [Region.wanted, hg, hy, hbw]
            rw [if_neg hw]
            simp only [hbw, if_false] at hr
            exact hnext _ _ _ _ _ hr.2 (Inv.skipped h hT o.dst hr.1)
        | none => rw [hb] at hr; exact hr.elim

end

theorem execL_sound {E : Pr} (hT : TabOk E.P E.T) {B : Base} {dp : Nat → Bool} {ops : Array Oper} {K : St → Prop} {Q : Exit → Act → World → Prop} (hQ : ∀ ow2 σ2 st2 a2 w2, K st2 → Inv E B ow2 σ2 st2 a2 w2 → Q .normal a2 w2) :
    ∀ (l : List Oper) (k : Nat) {ow : Own} {σ : Val} {st : St} {a : Act} {w : World}, (∀ i o, l[i]? = some o → ops[k + i]? = some o) → Inv E B ow σ st a w → execL E dp ops l K st → wpOps E.P ops Q (List.range' k l.length) a w := by
  intro l
  induction l with
  | nil => intro k ow σ st a w _ h hr; exact hQ _ _ _ _ _ hr h
  | cons o l ih =>
    intro k ow σ st a w hl h hr
    simp only [List.length_cons, List.range'_succ]
    rw [wpOps_cons]
    refine execE_sound h hT (by simpa using hl 0 o rfl) (execG_E hr) fun ow2 σ2 st2 a2 w2 hk h2 => ?_
    exact ih (k + 1) (fun i o' hi => by rw [show k + 1 + i = k + (i + 1) by omega]; exact hl (i + 1) o' (by simpa using hi)) h2 hk

theorem region_text {E : Pr} (hT : TabOk E.P E.T) {B : Base} {dp : Nat → Bool} {ops : Array Oper} {K : St → Prop} {Q : Exit → Act → World → Prop} {id : Nat} {ow : Own} {σ : Val} {st : St} {a : Act} {w : World}
    (h : Inv E B ow σ st a w) (hr : execL E dp ops ops.toList K st) (hQ : ∀ ow2 σ2 st2 a2 w2, K st2 → Inv E B ow2 σ2 st2 a2 w2 → Q .normal a2 w2) : (Code.region id ops false).wp E.P Q a w := by
  refine wp_region ?_
  have := execL_sound hT hQ ops.toList 0 (ops := ops) (fun i o hi => by simpa using hi) h hr
  rw [List.range_eq_range']
  simpa using this

end Go.Ax
end
