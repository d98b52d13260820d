/- The executor is sound: regions whose order is open. -/
import Derived.Test.YtgjkcoifgdmmbaaDoorXC
set_option linter.unusedSimpArgs false
set_option linter.unusedVariables false
section
namespace Go.Ax
open Go

def obIds : Option Obj → List Id
  | some (.box cs) => cs.flatMap C.ids
  | _ => []

def deepIds (ob : Id → Option Obj) (v : V) : List Id := v.ids.flatMap fun id => id :: obIds (ob id)

def lookO : Op → List Operand
  | .box _ x | .load _ x | .nilCheck x | .fieldAddr _ x _ => [x]
  | .build _ ps | .buildSlice _ _ ps => ps.toList.map (·.2)
  | .store _ a x | .indexAddr _ a x => [a, x]
  | .call c => (match c.callee with | .value f => [f] | _ => []) ++ c.args.toList
  | _ => []

def isGo : Op → Bool
  | .call c => match c.callee with
    | .value _ => true
    | _ => false
  | _ => false

def lkV (op : Op) (ob : Id → Option Obj) (v : V) : List Id := bif isGo op then deepIds ob v else v.ids

def look (T : Tab) (st : St) (op : Op) : List Id := (lookO op).flatMap fun x => lkV op st.ob (st.ev T x)

def Agree (ob ob' : Id → Option Obj) (l : List Id) : Prop := ∀ id, id ∈ l → ob' id = ob id

theorem Agree.sub {ob ob' : Id → Option Obj} {l m : List Id} (h : Agree ob ob' l) (hs : ∀ id, id ∈ m → id ∈ l) : Agree ob ob' m := fun id hid => h id (hs id hid)

theorem Agree.self {ob ob' : Id → Option Obj} {v : V} (h : Agree ob ob' (deepIds ob v)) : Agree ob ob' v.ids := h.sub fun id hid => List.mem_flatMap.2 ⟨id, hid, List.mem_cons_self⟩

theorem Agree.lk {ob ob' : Id → Option Obj} {op : Op} {v : V} (h : Agree ob ob' (lkV op ob v)) : Agree ob ob' v.ids := by
  unfold lkV at h
  cases hg : isGo op with
  | true => rw [hg] at h; exact h.self
  | false => rw [hg] at h; exact h

section
variable {T : Tab} {ob ob' : Id → Option Obj}

theorem ok_congr {c : C} (h : Agree ob ob' c.ids) : C.ok ob' c = C.ok ob c := by
  cases c with
  | own id | ptr id _ | eptr id _ _ _ | osub id _ _ _ _ => simp only [C.ok, h id (by simp [C.ids])]
  | _ => rfl

theorem oks_congr {cs : List C} (h : Agree ob ob' (cs.flatMap C.ids)) : cs.all (C.ok ob') = cs.all (C.ok ob) := by
  induction cs with
  | nil => rfl
  | cons c cs ih =>
    simp only [List.all_cons, List.flatMap_cons] at h ⊢
    rw [ok_congr (h.sub fun id hid => List.mem_append_left _ hid), ih (h.sub fun id hid => List.mem_append_right _ hid)]

theorem load_congr {t : Nat} {c : C} (h : Agree ob ob' c.ids) : load T t ob' c = load T t ob c := by
  cases c with
  | ptr id _ | eptr id _ _ _ => simp only [load, h id (by simp [C.ids])]
  | _ => rfl

theorem intoRow_congr {deep : Bool} {c : C} (h : Agree ob ob' c.ids) : intoRow deep ob' c = intoRow deep ob c := by
  cases c with
  | own id => simp only [intoRow, h id (by simp [C.ids])]
  | _ => rfl

theorem intoRows_congr {deep : Bool} {i : Nat} : ∀ {cs : List C} {j : Nat}, Agree ob ob' (cs.flatMap C.ids) → intoRows deep ob' i j cs = intoRows deep ob i j cs := by
  intro cs
  induction cs with
  | nil => intro j _; rfl
  | cons c cs ih =>
    intro j h
    simp only [List.flatMap_cons] at h
    simp only [intoRows, intoRow_congr (deep := deep) (h.sub fun id hid => List.mem_append_left _ hid), ih (h.sub fun id hid => List.mem_append_right _ hid)]

theorem cells_ids (x : V1) : x.cells.flatMap C.ids = x.ids := by cases x <;> simp [V1.cells, V1.ids]

theorem store_congr {t : Nat} {p : C} {cs : List C} (h1 : Agree ob ob' p.ids) (h2 : Agree ob ob' (cs.flatMap C.ids)) : store T t ob' p cs = store T t ob p cs := by
  unfold store
  rw [oks_congr h2]
  cases p with
  | ptr id _ => simp only [h1 id (by simp [C.ids])]
  | eptr id _ _ _ => simp only [h1 id (by simp [C.ids]), intoRows_congr h2]
  | _ => rfl

theorem slD_congr {c : C} (h : Agree ob ob' c.ids) : slD ob' c = slD ob c := by
  cases c with
  | own id | osub id _ _ _ _ => simp only [slD, h id (by simp [C.ids])]
  | dat d => cases d <;> rfl
  | _ => rfl

theorem blen_congr {k : TK} {v : V} (h : Agree ob ob' v.ids) : blen k ob' v = blen k ob v := by
  cases v with
  | tup => cases k <;> rfl
  | s x =>
    cases x with
    | agg => cases k <;> rfl
    | one c =>
      have := slD_congr (c := c) h
      cases c with
      | val x => unfold blen; split <;> first | rfl | (rename_i h1 h2; cases h2; rfl)
      | _ => cases k <;> simp only [blen, this]

theorem appBase_congr {dp : Nat → Bool} {e : Nat} {c : C} (h : Agree ob ob' c.ids) : appBase T dp e ob' c = appBase T dp e ob c := by
  unfold appBase
  cases c with
  | own id => simp only [h id (by simp [C.ids])]
  | _ => rfl

theorem appMore_congr {deep : Bool} {e : Nat} {c : C} (h : Agree ob ob' c.ids) : appMore T deep e ob' c = appMore T deep e ob c := by
  unfold appMore
  cases c with
  | own id => simp only [h id (by simp [C.ids])]
  | dat d => cases d <;> rfl
  | _ => rfl

theorem append_congr {dp : Nat → Bool} {dst : Option Nat} {t : Nat} {x y : V} (hx : Agree ob ob' x.ids) (hy : Agree ob ob' y.ids) : append T dp dst t ob' x y = append T dp dst t ob x y := by
  unfold append
  split
  · rename_i d0 d e c hk
    rw [appBase_congr (c := e) hx]
    split
    · rw [appMore_congr (c := c) hy]
    · rfl
  · rfl

theorem partOf_congr {t : Nat} {fs : List (Nat × Nat)} {p : Nat × V} (h : Agree ob ob' p.2.ids) : partOf T t fs ob' p = partOf T t fs ob p := by
  unfold partOf
  split
  · rename_i off ft x _ hx
    rw [hx] at h
    rw [oks_congr (cs := x.cells) (by rw [cells_ids]; exact h)]
  · rfl

theorem partsOf_congr {t : Nat} {fs : List (Nat × Nat)} : ∀ {ps : List (Nat × V)}, (∀ p, p ∈ ps → Agree ob ob' p.2.ids) → partsOf T t fs ob' ps = partsOf T t fs ob ps := by
  intro ps
  induction ps with
  | nil => intro _; rfl
  | cons p ps ih => intro h; simp only [partsOf, partOf_congr (h p List.mem_cons_self), ih fun q hq => h q (List.mem_cons_of_mem _ hq)]

theorem build_congr {t : Nat} {ps : List (Nat × V)} (h : ∀ p, p ∈ ps → Agree ob ob' p.2.ids) : build T t ob' ps = build T t ob ps := by
  unfold build
  split
  · rw [partsOf_congr h]
  · rfl

theorem rowsOf_congr {deep : Bool} {e len : Nat} : ∀ {ps : List (Nat × V)} {row : Nat → List D} {use : List (Id × (Nat × Nat))}, (∀ p, p ∈ ps → Agree ob ob' p.2.ids) → rowsOf T deep e len ob' ps row use = rowsOf T deep e len ob ps row use := by
  intro ps
  induction ps with
  | nil => intro _ _ _; rfl
  | cons p ps ih =>
    intro row use h
    obtain ⟨i, v⟩ := p
    cases v with
    | tup => rfl
    | s x =>
      have hx : Agree ob ob' (x.cells.flatMap C.ids) := by rw [cells_ids]; exact h (i, .s x) List.mem_cons_self
      simp only [rowsOf, intoRows_congr hx, oks_congr hx]
      split
      · rw [ih fun q hq => h q (List.mem_cons_of_mem _ hq)]
      · rfl

theorem buildSlice_congr {dp : Nat → Bool} {dst : Option Nat} {t len : Nat} {ps : List (Nat × V)} (h : ∀ p, p ∈ ps → Agree ob ob' p.2.ids) : buildSlice T dp dst t len ob' ps = buildSlice T dp dst t len ob ps := by
  unfold buildSlice
  split
  · rw [rowsOf_congr h]
  · rfl

theorem indexAddr_congr {t : Nat} {x i : V} (h : Agree ob ob' x.ids) : indexAddr T t ob' x i = indexAddr T t ob x i := by
  unfold indexAddr
  split
  · rename_i e c n hk _
    cases c with
    | own id => simp only [h id (by simp [V.ids, V1.ids, C.ids])]
    | dat d => cases d <;> rfl
    | _ => rfl
  · rfl
  · rfl

theorem fieldAddr_congr {t : Nat} {x : V} {f : Nat} (h : Agree ob ob' x.ids) : fieldAddr T t ob' x f = fieldAddr T t ob x f := by
  unfold fieldAddr
  split
  · rename_i id o _; simp only [h id (by simp [V.ids, V1.ids, C.ids])]
  · rename_i id k i o _; simp only [h id (by simp [V.ids, V1.ids, C.ids])]
  · rfl
  · rfl

theorem toCell_congr {nm : Id} {c : C} (h : Agree ob ob' c.ids) : toCell ob' nm c = toCell ob nm c := by
  cases c with
  | own id => simp only [toCell, h id (by simp [C.ids])]
  | _ => rfl

theorem toCells_congr {j : Nat} : ∀ {cs : List C} {i : Nat}, Agree ob ob' (cs.flatMap C.ids) → toCells ob' j i cs = toCells ob j i cs := by
  intro cs
  induction cs with
  | nil => intro i _; rfl
  | cons c cs ih =>
    intro i h
    simp only [List.flatMap_cons] at h
    simp only [toCells, toCell_congr (c := c) (h.sub fun id hid => List.mem_append_left _ hid), ih (h.sub fun id hid => List.mem_append_right _ hid)]

theorem shCell_congr {c : C} (h : Agree ob ob' c.ids) : shCell ob' c = shCell ob c := by
  cases c with
  | own id | osub id _ _ _ _ => simp only [shCell, h id (by simp [C.ids])]
  | fn f caps => cases caps <;> rfl
  | _ => rfl

theorem shCells_congr : ∀ {cs : List C}, Agree ob ob' (cs.flatMap C.ids) → shCells ob' cs = shCells ob cs := by
  intro cs
  induction cs with
  | nil => intro _; rfl
  | cons c cs ih =>
    intro h
    simp only [List.flatMap_cons] at h
    simp only [shCells, shCell_congr (c := c) (h.sub fun id hid => List.mem_append_left _ hid), ih (h.sub fun id hid => List.mem_append_right _ hid)]

theorem argOf_congr {ex : Bool} {j t : Nat} {v : V} (h : Agree ob ob' (deepIds ob v)) : argOf T ex j t ob' v = argOf T ex j t ob v := by
  cases v with
  | tup => rfl
  | s x =>
    cases x with
    | agg cs => simp only [argOf, shCells_congr (cs := cs) h.self]
    | one c =>
      have hs : Agree ob ob' c.ids := h.self
      simp only [argOf]
      congr 1
      cases c with
      | ptr id off =>
        cases off with
        | zero =>
          have h1 := hs id (by simp [C.ids])
          simp only [h1]
          cases ho : ob id with
          | none => rfl
          | some o =>
            cases o with
            | sl => rfl
            | box cs =>
              have : Agree ob ob' (cs.flatMap C.ids) := h.sub fun id' hid' => List.mem_flatMap.2 ⟨id, by simp [V.ids, V1.ids, C.ids], List.mem_cons_of_mem _ (by rw [ho]; exact hid')⟩
              simp only [toCells_congr this]
        | succ n => simp only [shCell_congr (c := .ptr id (n + 1)) hs]
      | own id =>
        simp only [hs id (by simp [C.ids])]
      | _ => first | rfl | simp only [shCell_congr hs]

theorem argsOf_congr {f : Nat} : ∀ {vs : List V} {j : Nat} {ts : List Nat}, (∀ v, v ∈ vs → Agree ob ob' (deepIds ob v)) → argsOf T f ob' j vs ts = argsOf T f ob j vs ts := by
  intro vs
  induction vs with
  | nil => intro _ _ _; rfl
  | cons v vs ih => intro j ts h; simp only [argsOf, argOf_congr (h v List.mem_cons_self), ih fun q hq => h q (List.mem_cons_of_mem _ hq)]

theorem callFn_congr {f : Nat} {vs : List V} {ts : List Nat} (h : ∀ v, v ∈ vs → Agree ob ob' (deepIds ob v)) : callFn T f ob' vs ts = callFn T f ob vs ts := by
  simp only [callFn, argsOf_congr h]

theorem eval_congr {dp : Nat → Bool} {dst : Option Nat} {op : Op} {ev : Operand → V} (h : ∀ x, x ∈ lookO op → Agree ob ob' (lkV op ob (ev x))) : eval T dp dst op ev ob' = eval T dp dst op ev ob := by
  cases op with
  | box e x =>
    have hx := (h x (by simp [lookO])).lk
    simp only [eval]
    cases hd : dst with
    | none => rfl
    | some d =>
      cases he : ev x with
      | tup => rfl
      | s y =>
        rw [he] at hx
        simp only
        rw [oks_congr (cs := y.cells) (by rw [cells_ids]; exact hx)]
  | load t x =>
    have hx := (h x (by simp [lookO])).lk
    simp only [eval]
    cases he : ev x with
    | tup => rfl
    | s y =>
      rw [he] at hx
      cases y with
      | agg => rfl
      | one c => simp only [load_congr (c := c) hx]
  | nilCheck x =>
    have hx := (h x (by simp [lookO])).lk
    simp only [eval]
    cases he : ev x with
    | tup => rfl
    | s y =>
      rw [he] at hx
      cases y with
      | agg => rfl
      | one c =>
        cases c with
        | ptr id _ => simp only [hx id (by simp [V.ids, V1.ids, C.ids])]
        | eptr id _ _ _ => simp only [hx id (by simp [V.ids, V1.ids, C.ids])]
        | _ => rfl
  | fieldAddr t x f => exact fieldAddr_congr (h x (by simp [lookO])).lk
  | build t ps =>
    refine build_congr fun p hp => ?_
    obtain ⟨q, hq, rfl⟩ := List.mem_map.1 hp
    exact (h q.2 (List.mem_map.2 ⟨q, hq, rfl⟩)).lk
  | buildSlice t n ps =>
    refine buildSlice_congr fun p hp => ?_
    obtain ⟨q, hq, rfl⟩ := List.mem_map.1 hp
    exact (h q.2 (List.mem_map.2 ⟨q, hq, rfl⟩)).lk
  | store t p x =>
    have h1 := (h p (by simp [lookO])).lk
    have h2 := (h x (by simp [lookO])).lk
    simp only [eval]
    cases he : ev p with
    | tup => rfl
    | s y =>
      cases y with
      | agg => rfl
      | one c =>
        cases hx : ev x with
        | tup => rfl
        | s z =>
          rw [he] at h1; rw [hx] at h2
          simp only
          rw [store_congr (p := c) (cs := z.cells) h1 (by rw [cells_ids]; exact h2)]
  | indexAddr t x i => exact indexAddr_congr (h x (by simp [lookO])).lk
  | call c =>
    have ha0 : ∀ v, v ∈ c.args.toList.map ev → Agree ob ob' (lkV (.call c) ob v) := fun v hv => by
      obtain ⟨x, hx, rfl⟩ := List.mem_map.1 hv
      exact h x (by simp only [lookO]; exact List.mem_append_right _ hx)
    simp only [eval]
    split
    · rename_i fo hcal
      have hgo : isGo (.call c) = true := by simp [isGo, hcal]
      have ha : ∀ v, v ∈ c.args.toList.map ev → Agree ob ob' (deepIds ob v) := fun v hv => by
        have := ha0 v hv; unfold lkV at this; rw [hgo] at this; exact this
      have hf := h fo (by simp [lookO, hcal])
      unfold lkV at hf
      rw [hgo] at hf
      simp only [cond_true] at hf
      split
      · rename_i g caps hfv
        refine callFn_congr fun v hv => ?_
        rcases List.mem_append.1 hv with hv | hv
        · exact ha v hv
        · obtain ⟨p, hp, rfl⟩ := List.mem_map.1 hv
          rw [hfv] at hf
          refine hf.sub fun id hid => ?_
          simp only [deepIds, V.ids, V1.ids, C.ids, List.flatMap_cons, List.flatMap_nil, List.append_nil] at hid
          exact List.mem_flatMap.2 ⟨p.1, List.mem_map.2 ⟨p, hp, rfl⟩, hid⟩
      · rw [callFn_congr ha]
      · rfl
    · split
      · rename_i x t hx _
        rw [blen_congr (ha0 x (by rw [hx]; simp)).lk]
      · rfl
    · split
      · rename_i x y t t' hx _
        rw [append_congr (ha0 x (by rw [hx]; simp)).lk (ha0 y (by rw [hx]; simp)).lk]
      · rfl
    · rfl
    · rfl
    · rfl
  | _ => rfl

end

end Go.Ax
end

section
namespace Go.Ax
open Go

structure Foot where
  look : List Id
  ids : List Id
  pre : Option Nat
  call : Bool

def Foot.wr (f : Foot) (id : Id) : Bool := f.ids.any (fun i => eqId i id) || (match f.pre with | some d => id.1 == d | none => false)

def Foot.apart (x y : Foot) : Bool :=
  x.look.all (fun i => !y.wr i) && y.look.all (fun i => !x.wr i) && x.ids.all (fun i => !y.wr i) && y.ids.all (fun i => !x.wr i) && !(x.call && y.call)

def newIds (op : Op) (dst : Option Nat) : List Id :=
  match op, dst with
  | .alloc _, some d | .box .., some d | .buildSlice .., some d | .makeSlice .., some d => [(d, 0)]
  | .call c, some d => match c.callee with
    | .builtin .append => [(d, 0)]
    | _ => []
  | _, _ => []

def footE (T : Tab) (st : St) (o : Oper) : Option Ev → Foot
  | none => ⟨[], [], none, false⟩
  | some (.det _ _ upd) => ⟨look T st o.op, newIds o.op o.dst ++ upd.map (·.1), none, false⟩
  | some (.call _ _ ex _) => ⟨look T st o.op, ex.map (·.1), o.dst, true⟩
  | some _ => ⟨[], [], none, true⟩

def footOf (E : Pr) (dp : Nat → Bool) (ops : Array Oper) (o : Oper) (st : St) : Foot := footE E.T st o (evG E dp ops o st)

theorem newOk_of {st st' : St} {op : Op} {dst : Option Nat} (h : ∀ id, id ∈ newIds op dst → st.objs id = none → st'.objs id = none) (hn : st.newOk op dst = true) : st'.newOk op dst = true := by
  unfold St.newOk at hn ⊢
  cases op with
  | alloc | box | buildSlice | makeSlice =>
    cases dst with
    | none => rfl
    | some d => simp only [Option.isNone_iff_eq_none] at hn ⊢; exact h _ (by simp [newIds]) hn
  | call c =>
    simp only at hn ⊢
    split
    · rename_i hc
      rw [hc] at hn
      simp only at hn
      cases dst with
      | none => rfl
      | some d => simp only [Option.isNone_iff_eq_none] at hn ⊢; exact h _ (by simp [newIds, hc]) hn
    · rfl
  | _ => rfl

def gdv (ops : Array Oper) (o : Oper) (st : St) : Option Bool :=
  match guardOf ops o with
  | .free => some true
  | .bad => none
  | .slot g want => match gV want (st.env g) with
    | some b => some (decide (b = want))
    | none => none

theorem evG_gdv {E : Pr} {dp : Nat → Bool} {ops : Array Oper} {o : Oper} {st : St} : evG E dp ops o st = match gdv ops o st with
    | none => some .stuck
    | some true => some (eval E.T dp o.dst o.op (st.ev E.T) st.ob)
    | some false => none := by
  unfold evG gdv
  cases guardOf ops o with
  | free => rfl
  | bad => rfl
  | slot g want =>
    simp only
    cases gV want (st.env g) with
    | none => rfl
    | some b => by_cases h : b = want <;> simp [h]

theorem gdv_congr {ops : Array Oper} {o : Oper} {st st' : St} (h : ∀ t, t ∈ o.looksAt ops → st'.env t = st.env t) : gdv ops o st' = gdv ops o st := by
  unfold gdv guardOf
  cases hg : o.guard with
  | none => rfl
  | some jw =>
    obtain ⟨j, want⟩ := jw
    simp only
    cases hj : ops[j]? with
    | none => rfl
    | some o' =>
      cases hd : o'.dst with
      | none => simp [hd]
      | some d =>
        have : d ∈ o.looksAt ops := by unfold Oper.looksAt; rw [hg]; simp [hj, hd]
        simp only [hd, h d this]

theorem ev_congr {T : Tab} {ops : Array Oper} {o : Oper} {st st' : St} (h : ∀ t, t ∈ o.looksAt ops → st'.env t = st.env t) : ∀ x, x ∈ o.op.operands → st'.ev T x = st.ev T x := by
  intro x hx
  cases x with
  | tmp t =>
    refine h t ?_
    unfold Oper.looksAt
    refine List.mem_append_left _ (List.mem_filterMap.2 ⟨.tmp t, by simpa using hx, rfl⟩)
  | const v => cases v <;> rfl
  | global g => rfl
  | func f => rfl

theorem lookO_sub {op : Op} {x : Operand} (h : x ∈ lookO op) : x ∈ op.operands := by
  cases op with
  | call c =>
    simp only [lookO, List.mem_append] at h
    simp only [Op.operands, Call.operands, Array.mem_append]
    refine h.imp (fun h => ?_) (fun h => by simpa using h)
    split at h
    · rename_i f hc; rw [hc]; simpa using h
    · cases h
  | box | load | nilCheck | fieldAddr | build | buildSlice | store | indexAddr => simpa [lookO, Op.operands] using h
  | _ => simp [lookO] at h

theorem eval_ev {T : Tab} {dp : Nat → Bool} {dst : Option Nat} {op : Op} {ev ev' : Operand → V} {ob : Id → Option Obj} (h : ∀ x, x ∈ op.operands → ev' x = ev x) : eval T dp dst op ev' ob = eval T dp dst op ev ob := by
  cases op with
  | call c =>
    have ha : c.args.toList.map ev' = c.args.toList.map ev := List.map_congr_left fun x hx => h x (by simp only [Op.operands, Call.operands, Array.mem_append]; exact .inr (by simpa using hx))
    simp only [eval, ha]
    split
    · rename_i f hc
      rw [h f (by simp [Op.operands, Call.operands, hc])]
    all_goals rfl
  | build t ps =>
    have : ps.toList.map (fun p => (p.1, ev' p.2)) = ps.toList.map (fun p => (p.1, ev p.2)) := List.map_congr_left fun p hp => by rw [h p.2 (by simp only [Op.operands]; simpa using ⟨p.1, by simpa using hp⟩)]
    simp only [eval, this]
  | buildSlice t n ps =>
    have : ps.toList.map (fun p => (p.1, ev' p.2)) = ps.toList.map (fun p => (p.1, ev p.2)) := List.map_congr_left fun p hp => by rw [h p.2 (by simp only [Op.operands]; simpa using ⟨p.1, by simpa using hp⟩)]
    simp only [eval, this]
  | slice t x lo hi mx =>
    have h0 := h x (by simp [Op.operands])
    have h1 : lo.map ev' = lo.map ev := by cases lo with | none => rfl | some y => simp [h y (by simp [Op.operands])]
    have h2 : hi.map ev' = hi.map ev := by cases hi with | none => rfl | some y => simp [h y (by simp [Op.operands])]
    have h3 : mx.map ev' = mx.map ev := by cases mx with | none => rfl | some y => simp [h y (by simp [Op.operands])]
    simp only [eval, h0, h1, h2, h3]
  | pick c a b => simp only [eval, h c (by simp [Op.operands]), h a (by simp [Op.operands]), h b (by simp [Op.operands])]
  | store t a b | binOp _ _ a b _ | makeSlice _ a b | indexAddr _ a b | index _ a b => simp only [eval, h a (by simp [Op.operands]), h b (by simp [Op.operands])]
  | move x | assign x | box _ x | load _ x | nilCheck x | unOp _ _ x | convert _ _ x | fieldAddr _ x _ | field _ x _ | extract x _ => simp only [eval, h x (by simp [Op.operands])]
  | _ => rfl

theorem evG_congr {E : Pr} {dp : Nat → Bool} {ops : Array Oper} {o : Oper} {st st' : St} (h : ∀ t, t ∈ o.looksAt ops → st'.env t = st.env t)
    (ha : gdv ops o st = some true → Agree st.ob st'.ob (look E.T st o.op)) : evG E dp ops o st' = evG E dp ops o st ∧ (gdv ops o st = some true → look E.T st' o.op = look E.T st o.op) := by
  have hev := ev_congr (T := E.T) h
  rw [evG_gdv, evG_gdv, gdv_congr h]
  cases hg : gdv ops o st with
  | none => exact ⟨rfl, fun h => by cases h⟩
  | some b =>
    cases b with
    | false => exact ⟨rfl, fun h => by cases h⟩
    | true =>
      have hag := ha hg
      have hper : ∀ x, x ∈ lookO o.op → Agree st.ob st'.ob (lkV o.op st.ob (st.ev E.T x)) := fun x hx => hag.sub fun id hid => List.mem_flatMap.2 ⟨x, hx, hid⟩
      refine ⟨?_, fun _ => ?_⟩
      · simp only [Option.some.injEq]
        rw [eval_ev hev, eval_congr hper]
      · unfold look
        have : ∀ (l : List Operand), (∀ x, x ∈ l → x ∈ lookO o.op) → l.flatMap (fun x => lkV o.op st'.ob (st'.ev E.T x)) = l.flatMap (fun x => lkV o.op st.ob (st.ev E.T x)) := by
          intro l
          induction l with
          | nil => intro _; rfl
          | cons x l ih =>
            intro hl
            simp only [List.flatMap_cons]
            rw [ih fun y hy => hl y (List.mem_cons_of_mem _ hy)]
            congr 1
            rw [hev x (lookO_sub (hl x List.mem_cons_self))]
            have hx := hper x (hl x List.mem_cons_self)
            unfold lkV
            cases hgo : isGo o.op with
            | false => rfl
            | true =>
            simp only [cond_true]
            unfold deepIds
            have : ∀ (m : List Id), (∀ id, id ∈ m → id ∈ (st.ev E.T x).ids) → m.flatMap (fun id => id :: obIds (st'.ob id)) = m.flatMap (fun id => id :: obIds (st.ob id)) := by
              intro m
              induction m with
              | nil => intro _; rfl
              | cons id m ih2 =>
                intro hm
                simp only [List.flatMap_cons]
                rw [ih2 fun y hy => hm y (List.mem_cons_of_mem _ hy), hx.lk id (hm id List.mem_cons_self)]
            exact this _ fun _ h => h
        exact this _ fun _ h => h

theorem updO_congr : ∀ (l : List (Id × Option Obj)) {o o' : Id → Option (Option Obj)} {id : Id}, o id = o' id → updO l o id = updO l o' id := by
  intro l
  induction l with
  | nil => intro o o' id h; exact h
  | cons q l ih =>
    obtain ⟨i, x⟩ := q
    intro o o' id h
    simp only [updO]
    refine ih ?_
    cases eqId i id <;> simp [h]

theorem updO_notin {l : List (Id × Option Obj)} {o : Id → Option (Option Obj)} {id : Id} (h : id ∉ l.map (·.1)) : updO l o id = o id :=
  (updO_spec l o id).1 fun ⟨p, hp, he⟩ => h (List.mem_map.2 ⟨p, hp, he⟩)

theorem updO_none {l : List (Id × Option Obj)} {o : Id → Option (Option Obj)} {id : Id} (h : updO l o id = none) : o id = none := by
  by_cases hu : updIds l id
  · obtain ⟨x, _, hx⟩ := (updO_spec l o id).2 hu
    rw [hx] at h; cases h
  · rw [(updO_spec l o id).1 hu] at h; exact h

theorem updO_comm {l m : List (Id × Option Obj)} (h : ∀ id, id ∈ l.map (·.1) → id ∉ m.map (·.1)) (o : Id → Option (Option Obj)) : updO l (updO m o) = updO m (updO l o) := by
  funext id
  by_cases h1 : id ∈ l.map (·.1)
  · rw [updO_notin (h id h1)]
    exact updO_congr l (updO_notin (h id h1))
  · rw [updO_notin h1]
    exact (updO_congr m (updO_notin h1)).symm

theorem app_comm {st : St} {d d' : Option Nat} {v v' : V} {u u' : List (Id × Option Obj)} (hd : ∀ x, d = some x → d' ≠ some x) (h : ∀ id, id ∈ u.map (·.1) → id ∉ u'.map (·.1)) :
    (st.app d v u).app d' v' u' = (st.app d' v' u').app d v u := by
  cases st with
  | mk nt env objs =>
    simp only [St.app, St.mk.injEq, true_and]
    refine ⟨?_, (updO_comm h objs).symm⟩
    cases d with
    | none => cases d' <;> rfl
    | some x =>
      cases d' with
      | none => rfl
      | some y =>
        have hxy : x ≠ y := fun e => hd x rfl (by rw [e])
        funext s
        by_cases h1 : x = s
        · subst h1
          have : (y == x) = false := by simpa using Ne.symm hxy
          simp [this]
        · have : (x == s) = false := by simpa using h1
          simp [this]

theorem app_env {st : St} {d : Option Nat} {v : V} {u : List (Id × Option Obj)} {t : Nat} (h : d ≠ some t) : (st.app d v u).env t = st.env t := by
  cases d with
  | none => rfl
  | some x =>
    have : (x == t) = false := by simpa using fun e => h (by rw [e])
    simp [St.app, this]

theorem app_ob {st : St} {d : Option Nat} {v : V} {u : List (Id × Option Obj)} {id : Id} (h : id ∉ u.map (·.1)) : (st.app d v u).ob id = st.ob id := St.ob_congr (updO_notin h)

end Go.Ax
end

section
namespace Go.Ax
open Go

theorem exUpd_ids {d : Nat} {ob : Id → Option Obj} {up : List Arg} : ∀ {l : List (Id × Id)} {u : List (Id × Option Obj)}, exUpd d ob l up = some u → ∀ id, id ∈ u.map (·.1) → id ∈ l.map (·.1) ∨ id.1 = d := by
  have res : ∀ (nm : Nat → Id) (rs : List RCell) (i0 : Nat), (∀ i, (nm i).1 = d) → ∀ id, id ∈ (resOs nm i0 rs).map (·.1) → id.1 = d := by
    intro nm rs
    induction rs with
    | nil => intro i0 _ id h; simp [resOs] at h
    | cons r rs ih =>
      intro i0 hn id h
      simp only [resOs, List.map_append, List.mem_append] at h
      rcases h with h | h
      · cases r with
        | fz => simp [resO] at h
        | own => simp only [resO, List.map_cons, List.map_nil, List.mem_singleton] at h; rw [h]; exact hn i0
      · exact ih (i0 + 1) hn id h
  intro l
  induction l with
  | nil => intro u h id hid; simp [exUpd] at h; subst h; simp at hid
  | cons q l ih =>
    obtain ⟨cid, nm⟩ := q
    intro u h id hid
    simp only [exUpd] at h
    cases hr : exUpd d ob l up with
    | none => simp [hr] at h
    | some rest =>
      simp only [hr] at h
      have tail : id ∈ rest.map (·.1) → id ∈ ((cid, nm) :: l).map (·.1) ∨ id.1 = d := fun hm => (ih hr id hm).imp (fun h => List.mem_cons_of_mem _ h) _root_.id
      cases hz : (nm.2 == 0) with
      | false => rw [hz] at h; simp only [cond_false, Option.some.injEq] at h; subst h; exact tail hid
      | true =>
        rw [hz] at h
        simp only [cond_true] at h
        split at h
        · simp only [Option.some.injEq] at h
          subst h
          rcases List.mem_cons.1 hid with rfl | hid
          · exact .inl List.mem_cons_self
          · exact tail hid
        · rename_i cs _ _ _
          simp only [Option.some.injEq] at h
          subst h
          rcases List.mem_cons.1 hid with rfl | hid
          · exact .inl List.mem_cons_self
          · simp only [List.map_append, List.mem_append] at hid
            rcases hid with hid | hid
            · exact .inr (res (boxName d nm.1) cs 0 (fun i => rfl) id hid)
            · exact tail hid
        · cases h

theorem ret_ids {st : St} {dst : Option Nat} {ex : List (Id × Id)} {bor : List Id} {res : Res} {up : List Arg} {v : V} {upd : List (Id × Option Obj)} (h : ret st dst ex bor res up = some (v, upd)) :
    ∀ id, id ∈ upd.map (·.1) → id ∈ ex.map (·.1) ∨ ∃ d, dst = some d ∧ id.1 = d := by
  obtain ⟨d, u, rfl, hu, rfl, rfl, _⟩ := ret_inv h
  have resA : ∀ (rs : Res) (m0 : Nat), ∀ id, id ∈ (resAll d m0 rs).map (·.1) → id.1 = d := by
    have res : ∀ (nm : Nat → Id) (rs : List RCell) (i0 : Nat), (∀ i, (nm i).1 = d) → ∀ id, id ∈ (resOs nm i0 rs).map (·.1) → id.1 = d := by
      intro nm rs
      induction rs with
      | nil => intro i0 _ id h; simp [resOs] at h
      | cons r rs ih =>
        intro i0 hn id h
        simp only [resOs, List.map_append, List.mem_append] at h
        rcases h with h | h
        · cases r with
          | fz => simp [resO] at h
          | own => simp only [resO, List.map_cons, List.map_nil, List.mem_singleton] at h; rw [h]; exact hn i0
        · exact ih (i0 + 1) hn id h
    intro rs
    induction rs with
    | nil => intro m0 id h; simp [resAll] at h
    | cons r rs ih =>
      intro m0 id h
      simp only [resAll, List.map_append, List.mem_append] at h
      rcases h with h | h
      · exact res (resName d m0) _ 0 (fun i => rfl) id h
      · exact ih (m0 + 1) id h
  intro id hid
  simp only [List.map_append, List.mem_append] at hid
  rcases hid with hid | hid | hid
  · left
    obtain ⟨p, hp, rfl⟩ := List.mem_map.1 hid
    simp only [kills, List.mem_map] at hp
    obtain ⟨q, hq, rfl⟩ := hp
    exact List.mem_map.2 hq
  · exact (exUpd_ids hu id hid).imp _root_.id (fun h => ⟨d, rfl, h⟩)
  · exact .inr ⟨d, rfl, resA res 0 id hid⟩

theorem wr_ids {f : Foot} {id : Id} (h : id ∈ f.ids) : f.wr id = true := by
  have h1 : f.ids.any (fun i => eqId i id) = true := List.any_eq_true.2 ⟨id, h, eqId_self id⟩
  unfold Foot.wr
  rw [h1]; rfl

theorem wr_call {f : Foot} {ex : List (Id × Id)} {dst : Option Nat} (hi : f.ids = ex.map (·.1)) (hp : f.pre = dst) {id : Id} (h : id ∈ ex.map (·.1) ∨ ∃ d, dst = some d ∧ id.1 = d) : f.wr id = true := by
  rcases h with h | ⟨d, h1, h2⟩
  · exact wr_ids (hi ▸ h)
  · unfold Foot.wr
    rw [hp, h1]
    simp [h2]

section
variable {E : Pr} {dp : Nat → Bool} {ops : Array Oper}

theorem exec_sat {o : Oper} {R : St → Prop} {st : St} (h : execE E dp ops o R st) :
    ∃ v upd, (∀ id, id ∈ upd.map (·.1) → (footOf E dp ops o st).wr id = true) ∧ R (st.app o.dst v upd) := by
  unfold execE at h
  unfold footOf
  cases he : evG E dp ops o st with
  | none =>
    rw [he] at h
    exact ⟨.undef, [], by simp, h.2⟩
  | some e =>
    rw [he] at h
    cases e with
    | stuck => exact h.elim
    | nd f => exact ⟨f true, [], by simp, h.2 true⟩
    | det side v upd =>
      obtain ⟨⟨h1, h2⟩, h3, h4⟩ := h
      exact ⟨v, upd, fun id hid => wr_ids (List.mem_append_right _ hid), h4⟩
    | call f args ex bor =>
      obtain ⟨hd, _, ⟨res, up, hq⟩, _⟩ := h
      split at hq
      · rename_i v2 upd hret
        exact ⟨v2, upd, fun id hid => wr_call rfl rfl (ret_ids hret id hid), hq⟩
      · exact hq.elim

end

theorem apart_iff {x y : Foot} (h : x.apart y = true) : (∀ id, id ∈ x.look → y.wr id = false) ∧ (∀ id, id ∈ y.look → x.wr id = false) ∧ (∀ id, id ∈ x.ids → y.wr id = false) ∧ (∀ id, id ∈ y.ids → x.wr id = false) ∧ (x.call && y.call) = false := by
  simp only [Foot.apart, Bool.and_eq_true, List.all_eq_true, Bool.not_eq_true'] at h
  obtain ⟨⟨⟨⟨h1, h2⟩, h3⟩, h4⟩, h5⟩ := h
  exact ⟨h1, h2, h3, h4, h5⟩

theorem exec_simple {E : Pr} {dp : Nat → Bool} {ops : Array Oper} {o : Oper} {st : St} (hc : (footOf E dp ops o st).call = false) :
    ∃ side v upd, (∀ id, id ∈ upd.map (·.1) → id ∈ (footOf E dp ops o st).ids) ∧ ∀ (st' : St), evG E dp ops o st' = evG E dp ops o st → st'.nt = st.nt →
      ∀ K, execE E dp ops o K st' ↔ ((evG E dp ops o st = none ∨ st'.newOk o.op o.dst = true) ∧ st'.dstOk o.dst = true) ∧ side ∧ K (st'.app o.dst v upd) := by
  unfold footOf at hc ⊢
  unfold execE
  cases he : evG E dp ops o st with
  | none => exact ⟨True, .undef, [], by simp, fun st' h1 _ K => by rw [h1]; simp⟩
  | some e =>
    rw [he] at hc
    cases e with
    | stuck => simp [footE] at hc
    | nd => simp [footE] at hc
    | call => simp [footE] at hc
    | det side v upd =>
      exact ⟨side, v, upd, fun id hid => List.mem_append_right _ hid, fun st' h1 _ K => by rw [h1]; simp [run1]⟩

theorem ret_congr {st st' : St} {dst : Option Nat} {ex : List (Id × Id)} {bor : List Id} {res : Res} {up : List Arg} (h : ∀ id, (id ∈ ex.map (·.1) ∨ ∃ d, dst = some d ∧ id.1 = d) → st'.objs id = st.objs id) : ret st' dst ex bor res up = ret st dst ex bor res up := by
  cases dst with
  | none => rfl
  | some d =>
    unfold ret
    simp only
    have hx : ∀ (l : List (Id × Id)), (∀ e, e ∈ l → e ∈ ex) → exUpd d st'.ob l up = exUpd d st.ob l up := by
      intro l
      induction l with
      | nil => intro _; rfl
      | cons q l ih =>
        obtain ⟨cid, nm⟩ := q
        intro hl
        simp only [exUpd]
        rw [ih fun e he => hl e (List.mem_cons_of_mem _ he), St.ob_congr (h cid (.inl (List.mem_map.2 ⟨_, hl _ List.mem_cons_self, rfl⟩)))]
    rw [hx ex fun _ h => h]
    cases hu : exUpd d st.ob ex up with
    | none => rfl
    | some u =>
      simp only
      have h1 : u.all (fun p => (ex.any fun e => eqId e.1 p.1 && (e.2.2 == 0)) || (st'.objs p.1).isNone) = u.all (fun p => (ex.any fun e => eqId e.1 p.1 && (e.2.2 == 0)) || (st.objs p.1).isNone) := by
        rw [Bool.eq_iff_iff, List.all_eq_true, List.all_eq_true]
        refine forall_congr' fun p => forall_congr' fun hp => ?_
        rw [h p.1 ((exUpd_ids hu p.1 (List.mem_map.2 ⟨p, hp, rfl⟩)).imp _root_.id fun h => ⟨d, rfl, h⟩)]
      have h2 : (resAll d 0 res).all (fun p => (st'.objs p.1).isNone) = (resAll d 0 res).all (fun p => (st.objs p.1).isNone) := by
        have resA : ∀ (rs : Res) (m0 : Nat), ∀ id, id ∈ (resAll d m0 rs).map (·.1) → id.1 = d := by
          have res : ∀ (nm : Nat → Id) (rs : List RCell) (i0 : Nat), (∀ i, (nm i).1 = d) → ∀ id, id ∈ (resOs nm i0 rs).map (·.1) → id.1 = d := by
            intro nm rs
            induction rs with
            | nil => intro i0 _ id h; simp [resOs] at h
            | cons r rs ih =>
              intro i0 hn id h
              simp only [resOs, List.map_append, List.mem_append] at h
              rcases h with h | h
              · cases r with
                | fz => simp [resO] at h
                | own => simp only [resO, List.map_cons, List.map_nil, List.mem_singleton] at h; rw [h]; exact hn i0
              · exact ih (i0 + 1) hn id h
          intro rs
          induction rs with
          | nil => intro m0 id h; simp [resAll] at h
          | cons r rs ih =>
            intro m0 id h
            simp only [resAll, List.map_append, List.mem_append] at h
            rcases h with h | h
            · exact res (resName d m0) _ 0 (fun i => rfl) id h
            · exact ih (m0 + 1) id h
        rw [Bool.eq_iff_iff, List.all_eq_true, List.all_eq_true]
        refine forall_congr' fun p => forall_congr' fun hp => ?_
        rw [h p.1 (.inr ⟨d, rfl, resA res 0 p.1 (List.mem_map.2 ⟨p, hp, rfl⟩)⟩)]
      rw [h1, h2]

section
variable {E : Pr} (hT : TabOk E.P E.T) {dp : Nat → Bool} {ops : Array Oper}
include hT

theorem foot_back {oi oj : Oper} (hap : oj.apart ops oi = true) {st : St} {v : V} {upd : List (Id × Option Obj)} (hu : ∀ id, id ∈ upd.map (·.1) → (footOf E dp ops oj st).wr id = true)
    {K : St → Prop} (hk : execE E dp ops oi K (st.app oj.dst v upd)) (hf : (footOf E dp ops oi (st.app oj.dst v upd)).apart (footOf E dp ops oj st) = true) :
    evG E dp ops oi st = evG E dp ops oi (st.app oj.dst v upd) ∧ footOf E dp ops oi st = footOf E dp ops oi (st.app oj.dst v upd) := by
  have _ := hT
  obtain ⟨p1, p2, p3⟩ := Oper.apart_spec hap
  obtain ⟨f1, f2, f3, f4, f5⟩ := apart_iff hf
  have hslot : ∀ t, t ∈ oi.looksAt ops → st.env t = (st.app oj.dst v upd).env t := fun t ht => (app_env fun e => p1 t e ht).symm
  have hag : gdv ops oi (st.app oj.dst v upd) = some true → Agree (st.app oj.dst v upd).ob st.ob (look E.T (st.app oj.dst v upd) oi.op) := by
    intro hg id hid
    have hlk : id ∈ (footOf E dp ops oi (st.app oj.dst v upd)).look := by
      unfold footOf
      unfold execE at hk
      rw [evG_gdv, hg] at hk ⊢
      simp only at hk ⊢
      cases he : eval E.T dp oi.dst oi.op ((st.app oj.dst v upd).ev E.T) (st.app oj.dst v upd).ob with
      | stuck => rw [he] at hk; exact hk.elim
      | nd => exact absurd he nd_none
      | det => exact hid
      | call => exact hid
    refine (app_ob fun hm => ?_).symm
    have := f1 id hlk
    rw [hu id hm] at this; cases this
  obtain ⟨e1, e2⟩ := evG_congr (E := E) (dp := dp) hslot hag
  refine ⟨e1, ?_⟩
  unfold footOf
  rw [e1]
  cases hg : gdv ops oi (st.app oj.dst v upd) with
  | none => rw [evG_gdv, hg]; rfl
  | some b =>
    cases b with
    | false => rw [evG_gdv, hg]; rfl
    | true =>
      cases evG E dp ops oi (st.app oj.dst v upd) with
      | none => rfl
      | some e => cases e <;> simp only [footE, e2 hg]

theorem foot_fwd {oi oj : Oper} (hap : oj.apart ops oi = true) {st : St} {v : V} {upd : List (Id × Option Obj)} (hu : ∀ id, id ∈ upd.map (·.1) → (footOf E dp ops oi st).wr id = true)
    {K : St → Prop} (hk : execE E dp ops oj K st) (hf : (footOf E dp ops oi st).apart (footOf E dp ops oj st) = true) :
    evG E dp ops oj (st.app oi.dst v upd) = evG E dp ops oj st ∧ footOf E dp ops oj (st.app oi.dst v upd) = footOf E dp ops oj st := by
  have _ := hT
  obtain ⟨p1, p2, p3⟩ := Oper.apart_spec hap
  obtain ⟨f1, f2, f3, f4, f5⟩ := apart_iff hf
  have hslot : ∀ t, t ∈ oj.looksAt ops → (st.app oi.dst v upd).env t = st.env t := fun t ht => app_env fun e => p3 t e ht
  have hag : gdv ops oj st = some true → Agree st.ob (st.app oi.dst v upd).ob (look E.T st oj.op) := by
    intro hg id hid
    have hlk : id ∈ (footOf E dp ops oj st).look := by
      unfold footOf
      unfold execE at hk
      rw [evG_gdv, hg] at hk ⊢
      simp only at hk ⊢
      cases he : eval E.T dp oj.dst oj.op (st.ev E.T) st.ob with
      | stuck => rw [he] at hk; exact hk.elim
      | nd => exact absurd he nd_none
      | det => exact hid
      | call => exact hid
    refine app_ob fun hm => ?_
    have := f2 id hlk
    rw [hu id hm] at this; cases this
  obtain ⟨e1, e2⟩ := evG_congr (E := E) (dp := dp) hslot hag
  refine ⟨e1, ?_⟩
  unfold footOf
  rw [e1]
  cases hg : gdv ops oj st with
  | none => rw [evG_gdv, hg]; rfl
  | some b =>
    cases b with
    | false => rw [evG_gdv, hg]; rfl
    | true =>
      cases evG E dp ops oj st with
      | none => rfl
      | some e => cases e <;> simp only [footE, e2 hg]

theorem newOk_back {st : St} {d : Option Nat} {v : V} {upd : List (Id × Option Obj)} {op : Op} {dst : Option Nat} (h : (st.app d v upd).newOk op dst = true) : st.newOk op dst = true :=
  have _ := hT;
  newOk_of (fun id _ hn => updO_none hn) h

theorem newOk_fwd {o : Oper} {st : St} {d : Option Nat} {v : V} {upd : List (Id × Option Obj)} (hn : st.newOk o.op o.dst = true) (h : ∀ id, id ∈ newIds o.op o.dst → id ∉ upd.map (·.1)) : (st.app d v upd).newOk o.op o.dst = true :=
  have _ := hT;
  newOk_of (fun id hid he => by rw [show (st.app d v upd).objs id = st.objs id from updO_notin (h id hid)]; exact he) hn

omit hT in
theorem execE_some {o : Oper} {st : St} {e : Ev} (he : evG E dp ops o st = some e) {K : St → Prop} : execE E dp ops o K st = run1 E e o K st := by
  unfold execE; rw [he]

theorem swap {oi oj : Oper} (hap : oj.apart ops oi = true) {st : St} {K : St → Prop} {R : Foot → Prop}
    (h : execE E dp ops oj (fun s => execE E dp ops oi K s ∧ R (footOf E dp ops oi s) ∧ (footOf E dp ops oi s).apart (footOf E dp ops oj st) = true) st) :
    execE E dp ops oi (fun s => execE E dp ops oj K s ∧ footOf E dp ops oj s = footOf E dp ops oj st) st ∧ R (footOf E dp ops oi st) := by
  obtain ⟨v0, u0, hu0, hk0, hR0, hf0⟩ := exec_sat h
  obtain ⟨ei0, fi0⟩ := foot_back hT hap hu0 hk0 hf0
  refine ⟨?_, by rw [fi0]; exact hR0⟩
  have hf : (footOf E dp ops oi st).apart (footOf E dp ops oj st) = true := by rw [fi0]; exact hf0
  obtain ⟨p1, p2, p3⟩ := Oper.apart_spec hap
  obtain ⟨f1, f2, f3, f4, f5⟩ := apart_iff hf
  have hdst : ∀ x, oj.dst = some x → oi.dst ≠ some x := p2
  have hdst' : ∀ x, oi.dst = some x → oj.dst ≠ some x := fun x h1 h2 => p2 x h2 h1
  have hdisj : ∀ {ui uj : List (Id × Option Obj)}, (∀ id, id ∈ ui.map (·.1) → id ∈ (footOf E dp ops oi st).ids) → (∀ id, id ∈ uj.map (·.1) → (footOf E dp ops oj st).wr id = true) → ∀ id, id ∈ uj.map (·.1) → id ∉ ui.map (·.1) := by
    intro ui uj h1 h2 id hj hi
    have := f3 id (h1 id hi)
    rw [h2 id hj] at this; cases this
  have hdisj2 : ∀ {ui uj : List (Id × Option Obj)}, (∀ id, id ∈ ui.map (·.1) → (footOf E dp ops oi st).wr id = true) → (∀ id, id ∈ uj.map (·.1) → id ∈ (footOf E dp ops oj st).ids) → ∀ id, id ∈ uj.map (·.1) → id ∉ ui.map (·.1) := by
    intro ui uj h1 h2 id hj hi
    have := f4 id (h2 id hj)
    rw [h1 id hi] at this; cases this
  have newj : ∀ id, id ∈ newIds oj.op oj.dst → (footOf E dp ops oj st).call = false → evG E dp ops oj st ≠ none → id ∈ (footOf E dp ops oj st).ids := by
    intro id hid hc hne
    unfold footOf at hc ⊢
    cases he : evG E dp ops oj st with
    | none => exact absurd he hne
    | some e =>
      rw [he] at hc
      cases e with
      | det => exact List.mem_append_left _ hid
      | _ => simp [footE] at hc
  cases hci : (footOf E dp ops oi st).call with
  | false =>
    obtain ⟨side, vi, ui, hui, hI⟩ := exec_simple hci

    have hIs : ∀ (d : Option Nat) (v : V) (u : List (Id × Option Obj)), evG E dp ops oi (st.app d v u) = evG E dp ops oi st → ∀ K, execE E dp ops oi K (st.app d v u) ↔ ((evG E dp ops oi st = none ∨ (st.app d v u).newOk oi.op oi.dst = true) ∧ (st.app d v u).dstOk oi.dst = true) ∧ side ∧ K ((st.app d v u).app oi.dst vi ui) := fun d v u h2 K => hI _ h2 rfl K

    have hask := (hIs _ _ _ ei0.symm K).1 hk0
    rw [hI st rfl rfl]
    refine ⟨⟨hask.1.1.imp id (fun h => newOk_back hT h), hask.1.2⟩, hask.2.1, ?_⟩
    have huiw : ∀ id, id ∈ ui.map (·.1) → (footOf E dp ops oi st).wr id = true := fun id hid => wr_ids (hui id hid)
    obtain ⟨ej, fj⟩ := foot_fwd hT hap (v := vi) huiw h hf
    refine ⟨?_, fj⟩

    unfold execE at h ⊢
    rw [ej]
    cases hej : evG E dp ops oj st with
    | none =>
      rw [hej] at h
      simp only at h ⊢
      obtain ⟨hd, hk, _, hf1⟩ := h
      refine ⟨hd, ?_⟩
      have e1 := (foot_back hT hap (v := .undef) (upd := []) (by simp) hk hf1).1
      have := ((hIs _ _ _ e1.symm K).1 hk).2.2
      rwa [app_comm hdst (fun id hid => by simp at hid)] at this
    | some e =>
      rw [hej] at h
      simp only at h ⊢
      cases e with
      | stuck => exact h.elim
      | nd f =>
        obtain ⟨hd, hk⟩ := h
        refine ⟨hd, fun b => ?_⟩
        obtain ⟨hk, _, hf1⟩ := hk b
        have e1 := (foot_back hT hap (v := f b) (upd := []) (by simp) hk hf1).1
        have := ((hIs _ _ _ e1.symm K).1 hk).2.2
        rwa [app_comm hdst (fun id hid => by simp at hid)] at this
      | det sj vj uj =>
        obtain ⟨⟨hn, hd⟩, hsj, hk, _, hf1⟩ := h
        have huj : ∀ id, id ∈ uj.map (·.1) → (footOf E dp ops oj st).wr id = true := fun id hid => by
          unfold footOf; rw [hej]; exact wr_ids (List.mem_append_right _ hid)
        have hcj : (footOf E dp ops oj st).call = false := by unfold footOf; rw [hej]; rfl
        refine ⟨⟨newOk_fwd hT hn fun id hid hm => ?_, hd⟩, hsj, ?_⟩
        · have := f4 id (newj id hid hcj (by rw [hej]; simp))
          rw [huiw id hm] at this; cases this
        · have e1 := (foot_back hT hap huj hk hf1).1
          have := ((hIs _ _ _ e1.symm K).1 hk).2.2
          rwa [app_comm hdst (hdisj hui huj)] at this
      | call f args ex bor =>
        obtain ⟨hd, hc⟩ := h
        refine ⟨hd, hc.mono fun res up hq => ?_⟩
        have hrc : ret (st.app oi.dst vi ui) oj.dst ex bor res up = ret st oj.dst ex bor res up := ret_congr fun id hid => by
          refine updO_notin fun hm => ?_
          have hw : (footOf E dp ops oj st).wr id = true := wr_call (by unfold footOf; rw [hej]; rfl) (by unfold footOf; rw [hej]; rfl) hid
          have := f3 id (hui id hm)
          rw [hw] at this; cases this
        rw [hrc]
        split at hq
        · rename_i vj uj hret
          obtain ⟨hk, _, hf1⟩ := hq
          have huj : ∀ id, id ∈ uj.map (·.1) → (footOf E dp ops oj st).wr id = true := fun id hid =>
            wr_call (by unfold footOf; rw [hej]; rfl) (by unfold footOf; rw [hej]; rfl) (ret_ids hret id hid)
          have e1 := (foot_back hT hap huj hk hf1).1
          have := ((hIs _ _ _ e1.symm K).1 hk).2.2
          rwa [app_comm hdst (hdisj hui huj)] at this
        · exact hq
  | true =>

    have hcj : (footOf E dp ops oj st).call = false := by rw [hci] at f5; simpa using f5
    obtain ⟨side, vj, uj, huj, hJ⟩ := exec_simple hcj
    have hujw : ∀ id, id ∈ uj.map (·.1) → (footOf E dp ops oj st).wr id = true := fun id hid => wr_ids (huj id hid)
    obtain ⟨⟨hn, hd⟩, hsj, hk, _, hf1⟩ := (hJ st rfl rfl _).1 h
    obtain ⟨e1, e2⟩ := foot_back hT hap hujw hk hf1
    cases hei : evG E dp ops oi st with
    | none => unfold footOf at hci; rw [hei] at hci; simp [footE] at hci
    | some e =>
      have hei' := e1.symm.trans hei
      rw [execE_some hei'] at hk
      rw [execE_some hei]
      cases e with
      | stuck => exact hk.elim
      | det => unfold footOf at hci; rw [hei] at hci; simp [footE] at hci
      | nd f =>
        exfalso
        rw [evG_gdv] at hei
        cases hg : gdv ops oi st with
        | none => rw [hg] at hei; cases hei
        | some b =>
          rw [hg] at hei
          cases b with
          | false => cases hei
          | true => simp only [Option.some.injEq] at hei; exact absurd hei nd_none
      | call f args ex bor =>
        obtain ⟨hdi, hc⟩ := hk
        refine ⟨hdi, hc.mono fun res up hq => ?_⟩
        have hrc : ret (st.app oj.dst vj uj) oi.dst ex bor res up = ret st oi.dst ex bor res up := ret_congr fun id hid => by
          refine updO_notin fun hm => ?_
          have hw : (footOf E dp ops oi st).wr id = true := wr_call (by unfold footOf; rw [hei]; rfl) (by unfold footOf; rw [hei]; rfl) hid
          have := f4 id (huj id hm)
          rw [hw] at this; cases this
        rw [hrc] at hq
        split at hq
        · rename_i vi ui hret
          have huiw : ∀ id, id ∈ ui.map (·.1) → (footOf E dp ops oi st).wr id = true := fun id hid =>
            wr_call (by unfold footOf; rw [hei]; rfl) (by unfold footOf; rw [hei]; rfl) (ret_ids hret id hid)
          obtain ⟨g1, g2⟩ := foot_fwd hT hap (v := vi) huiw h hf
          refine ⟨?_, g2⟩
          rw [hJ (st.app oi.dst vi ui) g1 rfl]
          refine ⟨⟨?_, hd⟩, hsj, ?_⟩
          · by_cases hne : evG E dp ops oj st = none
            · exact .inl hne
            · refine .inr (newOk_fwd hT (hn.resolve_left hne) fun id hid hm => ?_)
              have := f4 id (newj id hid hcj hne)
              rw [huiw id hm] at this; cases this
          · rwa [app_comm hdst (hdisj2 huiw huj)] at hq
        · exact hq

end

end Go.Ax
end

section
namespace Go.Ax
open Go

abbrev Log := List (Nat × Foot)

def execF (E : Pr) (dp : Nat → Bool) (ops : Array Oper) (cl : Nat → Nat → Bool) : List Nat → Log → (St → Prop) → St → Prop
  | [], _, K, st => K st
  | i :: l, log, K, st => match ops[i]? with
    | none => False
    | some o => (∀ k f, (k, f) ∈ log → cl k i = true ∨ (footOf E dp ops o st).apart f = true) ∧ execE E dp ops o (execF E dp ops cl l ((i, footOf E dp ops o st) :: log) K) st

section
variable {E : Pr} (hT : TabOk E.P E.T) {dp : Nat → Bool} {ops : Array Oper} {cl : Nat → Nat → Bool} {K : St → Prop}
include hT

theorem bring {i : Nat} {oi : Oper} (hi : ops[i]? = some oi) : ∀ (l1 : List Nat) {l2 : List Nat} {log : Log} {st : St}, (∀ j, j ∈ l1 → cl j i = false ∧ ∀ oj, ops[j]? = some oj → oj.apart ops oi = true) →
    execF E dp ops cl (l1 ++ i :: l2) log K st → execE E dp ops oi (execF E dp ops cl (l1 ++ l2) log K) st ∧ ∀ k f, (k, f) ∈ log → cl k i = true ∨ (footOf E dp ops oi st).apart f = true := by
  intro l1
  induction l1 with
  | nil =>
    intro l2 log st _ h
    simp only [List.nil_append, execF, hi] at h ⊢
    refine ⟨?_, h.1⟩
    refine execE_mono (fun s hs => ?_) h.2

    have weak : ∀ (l : List Nat) (log log' : Log) (s : St), (∀ p, p ∈ log → p ∈ log') → execF E dp ops cl l log' K s → execF E dp ops cl l log K s := by
      intro l
      induction l with
      | nil => intro _ _ _ _ h; exact h
      | cons x l ih =>
        intro log log' s hsub hx
        simp only [execF] at hx ⊢
        cases ho : ops[x]? with
        | none => rw [ho] at hx; exact hx
        | some o =>
          rw [ho] at hx
          exact ⟨fun k f hm => hx.1 k f (hsub _ hm), execE_mono (fun s' hs' => ih _ _ s' (fun p hp => by
            rcases List.mem_cons.1 hp with rfl | hp
            · exact List.mem_cons_self
            · exact List.mem_cons_of_mem _ (hsub _ hp)) hs') hx.2⟩
    exact weak _ _ _ s (fun p hp => List.mem_cons_of_mem _ hp) hs
  | cons j l1 ih =>
    intro l2 log st hl h
    simp only [List.cons_append, execF] at h ⊢
    cases hj : ops[j]? with
    | none => rw [hj] at h; exact h.elim
    | some oj =>
      rw [hj] at h
      obtain ⟨hcl, hap⟩ := hl j List.mem_cons_self
      obtain ⟨hchk, hex⟩ := h
      have key := swap hT (hap oj hj) (st := st) (oi := oi) (oj := oj) (dp := dp) (K := execF E dp ops cl (l1 ++ l2) ((j, footOf E dp ops oj st) :: log) K) (R := fun ft => ∀ k f, (k, f) ∈ log → cl k i = true ∨ ft.apart f = true)
        (execE_mono (fun s hs => by
          obtain ⟨g1, g2⟩ := ih (fun j' hj' => hl j' (List.mem_cons_of_mem _ hj')) hs
          refine ⟨g1, fun k f hm => g2 k f (List.mem_cons_of_mem _ hm), ?_⟩
          rcases g2 j _ List.mem_cons_self with h | h
          · rw [hcl] at h; cases h
          · exact h) hex)
      refine ⟨execE_mono (fun s ⟨hs, hft⟩ => ?_) key.1, key.2⟩
      dsimp only
      rw [hft]
      exact ⟨hchk, hs⟩

end

structure Fine (ops : Array Oper) (cl : Nat → Nat → Bool) : Prop where
  back : ∀ i o e, ops[i]? = some o → e ∈ o.after → Region.binds .any e = true → e.on < i
  clos : ∀ k i o, ops[i]? = some o → cl k i = true → ∃ e, e ∈ o.after ∧ Region.binds .any e = true ∧ (e.on = k ∨ cl k e.on = true)
  apart : ∀ j i oj oi, j < i → ops[j]? = some oj → ops[i]? = some oi → cl j i = true ∨ oj.apart ops oi = true

theorem pending {ops : Array Oper} {listed : Array Bool} {l : List Nat} (hl : ∀ i, i ∈ l ↔ i < ops.size ∧ listed.getD i true = false) {i : Nat} (hi : i ∈ l) : listed.getD i false = false := by
  have := ((hl i).1 hi).2
  cases h : listed[i]? with
  | none => simp [Array.getD_eq_getD_getElem?, h] at this
  | some b => simp [Array.getD_eq_getD_getElem?, h] at this ⊢; exact this

theorem any_sound {E : Pr} (hT : TabOk E.P E.T) {B : Base} {dp : Nat → Bool} {ops : Array Oper} {cl : Nat → Nat → Bool} (hf : Fine ops cl) {K : St → Prop} {Q : Exit → Act → World → Prop}
    (hQ : ∀ ow2 σ2 st2 a2 w2, K st2 → Inv E B ow2 σ2 st2 a2 w2 → Q .normal a2 w2) :
    ∀ (fuel : Nat) (l : List Nat) (listed : Array Bool) {ow : Own} {σ : Val} {st : St} {a : Act} {w : World}, l.length = fuel → l.Pairwise (· < ·) → listed.size = ops.size → (∀ i, i ∈ l ↔ i < ops.size ∧ listed.getD i true = false) →
      (∀ k i, listed.getD i false = true → cl k i = true → listed.getD k false = true) →
      Inv E B ow σ st a w → execF E dp ops cl l [] K st → wpAny E.P .any ops Q fuel listed a w := by
  intro fuel
  induction fuel with
  | zero =>
    intro l listed ow σ st a w hlen _ hsz hl _ h hx
    have : l = [] := List.length_eq_zero_iff.1 hlen
    subst this
    refine ⟨?_, hQ _ _ _ _ _ hx h⟩
    cases hr : Region.ready .any ops listed with
    | nil => rfl
    | cons i rs =>
      have hm : i ∈ Region.ready .any ops listed := by rw [hr]; exact List.mem_cons_self
      obtain ⟨h1, o, h2, _⟩ := mem_ready.1 hm
      have := (hl i).2 ⟨(Array.getElem?_eq_some_iff.1 h2).1, h1⟩
      cases this
  | succ fuel ih =>
    intro l listed ow σ st a w hlen hpw hsz hl hcl h hx
    refine ⟨fun hr => ?_, fun i hi => ?_⟩
    ·
      exfalso
      cases l with
      | nil => simp at hlen
      | cons i l =>
        obtain ⟨hlt, hun⟩ := (hl i).1 List.mem_cons_self
        have hoi : ops[i]? = some ops[i] := by simp [hlt]
        have : i ∈ Region.ready .any ops listed := by
          refine mem_ready.2 ⟨hun, ops[i], hoi, fun e he hb => ?_⟩
          have hlt' := hf.back i _ e hoi he hb
          cases hle : listed.getD e.on false with
          | true => rfl
          | false =>
            exfalso
            have hu : listed.getD e.on true = false := by
              have hb : e.on < listed.size := by omega
              simp [hb] at hle ⊢; exact hle
            have hm := (hl e.on).2 ⟨by omega, hu⟩
            rcases List.mem_cons.1 hm with he' | hm
            · omega
            · have := (List.pairwise_cons.1 hpw).1 _ hm; omega
        rw [hr] at this; cases this
    · obtain ⟨hun, oi, hoi, hpre⟩ := mem_ready.1 hi
      have hil : i ∈ l := (hl i).2 ⟨(Array.getElem?_eq_some_iff.1 hoi).1, hun⟩
      obtain ⟨l1, l2, rfl⟩ := List.append_of_mem hil
      have hclF : ∀ j, j ∈ l1 → cl j i = false := fun j hj => by
        cases hc : cl j i with
        | false => rfl
        | true =>
          exfalso
          obtain ⟨e, he, hb, hk⟩ := hf.clos j i oi hoi hc
          have hle := hpre e he hb
          have hjl : listed.getD j false = true := by
            rcases hk with rfl | hk
            · exact hle
            · exact hcl j e.on hle hk
          rw [pending hl (List.mem_append_left _ hj)] at hjl; cases hjl
      have hlt : ∀ j, j ∈ l1 → j < i := fun j hj => (List.pairwise_append.1 hpw).2.2 j hj i List.mem_cons_self
      have hb := bring hT hoi l1 (l2 := l2) (fun j hj => ⟨hclF j hj, fun oj hoj => (hf.apart j i oj oi (hlt j hj) hoj hoi).resolve_left (by rw [hclF j hj]; simp)⟩) hx
      refine execE_sound h hT hoi hb.1 fun ow2 σ2 st2 a2 w2 hk h2 => ?_
      have hilt : i < listed.size := by rw [hsz]; exact (Array.getElem?_eq_some_iff.1 hoi).1
      have hnd : i ∉ l1 ++ l2 := by
        intro hm
        rcases List.mem_append.1 hm with hm | hm
        · have := hlt i hm; omega
        · have := (List.pairwise_cons.1 (List.pairwise_append.1 hpw).2.1).1 i hm; omega
      refine ih (l1 ++ l2) (listed.setIfInBounds i true) (by simp at hlen ⊢; omega) ?_ (by simp [hsz]) ?_ ?_ h2 hk
      · refine List.Pairwise.sublist ?_ hpw
        exact List.Sublist.append_left (List.sublist_cons_self i l2) l1
      · intro j
        by_cases hji : j = i
        · subst hji
          simp only [hnd, false_iff, not_and]
          intro _
          simp [hilt]
        · rw [getD_set_ne true (Ne.symm hji), ← hl j]
          simp only [List.mem_append, List.mem_cons]
          constructor
          · rintro (h | h)
            · exact .inl h
            · exact .inr (.inr h)
          · rintro (h | h | h)
            · exact .inl h
            · exact absurd h hji
            · exact .inr h
      · intro k j hj hc
        by_cases hji : j = i
        · subst hji
          obtain ⟨e, he, hb, hk⟩ := hf.clos k j oi hoi hc
          have hle := hpre e he hb
          refine getD_set_true ?_
          rcases hk with rfl | hk
          · exact hle
          · exact hcl k e.on hle hk
        · rw [getD_set_ne false (Ne.symm hji)] at hj
          exact getD_set_true (hcl k j hj hc)

end Go.Ax
end

section
namespace Go.Ax
open Go

def Foot.nil : Foot := ⟨[], [], none, false⟩

def chk (pairs : List (Nat × Nat)) (i : Nat) (f : Foot) : Log → Bool
  | [] => true
  | (k, g) :: log => (!(pairs.any fun p => (p.1 == k) && (p.2 == i)) || f.apart g) && chk pairs i f log

def involved (pairs : List (Nat × Nat)) (i : Nat) : Bool := pairs.any fun p => (p.1 == i) || (p.2 == i)

def stepT (E : Pr) (dp : Nat → Bool) (ops : Array Oper) (o : Oper) (C : Foot → Bool) (K : Foot → St → Prop) (st : St) : Prop :=
  match guardOf ops o with
  | .free => C (footE E.T st o (some (eval E.T dp o.dst o.op (st.ev E.T) st.ob))) = true ∧ exec1 E dp o (K (footE E.T st o (some (eval E.T dp o.dst o.op (st.ev E.T) st.ob)))) st
  | .bad => False
  | .slot g want => match st.env g with
    | .s (.one (.val (.bool b))) => gsplit b want (C (footE E.T (st.app (some g) (.bool want) []) o (some (eval E.T dp o.dst o.op ((st.app (some g) (.bool want) []).ev E.T) (st.app (some g) (.bool want) []).ob))) = true ∧
          exec1 E dp o (K (footE E.T (st.app (some g) (.bool want) []) o (some (eval E.T dp o.dst o.op ((st.app (some g) (.bool want) []).ev E.T) (st.app (some g) (.bool want) []).ob)))) (st.app (some g) (.bool want) []))
        (bif st.dstOk o.dst then K ⟨[], [], none, false⟩ ((st.app (some g) (.bool (!want)) []).app o.dst .undef []) else False)
    | .s (.one (.val (.tuple ⟨[]⟩))) => bif st.dstOk o.dst then K ⟨[], [], none, false⟩ (st.app o.dst .undef []) else False
    | _ => False

def execT (E : Pr) (dp : Nat → Bool) (ops : Array Oper) (pairs : List (Nat × Nat)) : Nat → List Oper → Log → (St → Prop) → St → Prop
  | _, [], _, K, st => K st
  | i, o :: l, log, K, st => bif involved pairs i then stepT E dp ops o (fun f => chk pairs i f log) (fun f => execT E dp ops pairs (i + 1) l ((i, f) :: log) K) st
    else execG E dp ops o (execT E dp ops pairs (i + 1) l log K) st

def quiet (op : Op) : Bool :=
  match op with
  | .move _ | .assign _ | .pick .. | .binOp .. | .unOp .. | .convert .. | .field .. | .extract .. | .index .. => true
  | _ => false

theorem apart_nil_l (f : Foot) : Foot.nil.apart f = true := by simp [Foot.apart, Foot.nil, Foot.wr]
theorem apart_nil_r (f : Foot) : f.apart Foot.nil = true := by simp [Foot.apart, Foot.nil, Foot.wr]

theorem bin_upd {T : Tab} {op : BinOp} {t : Nat} {x y : V} {s : Prop} {v : V} {u : List (Id × Option Obj)} (he : bin T op t x y = .det s v u) : u = [] := by
  have cut : ∀ {b : Bool} {x : Ev}, (bif b then x else .stuck) = Ev.det s v u → x = .det s v u := by
    intro b x hx; cases b
    · cases hx
    · exact hx
  unfold bin at he
  split at he
  · split at he
    · split at he
      · cases he; rfl
      · cases he
    · split at he
      · cases he; rfl
      · cases he
    · replace he := cut he
      split at he
      · cases he; rfl
      · cases he
  · split at he
    · cases he; rfl
    · cases he; rfl
    · cases he
  · split at he
    · cases he; rfl
    · cases he
  · cases he

theorem quiet_foot {E : Pr} {dp : Nat → Bool} {ops : Array Oper} {o : Oper} {K : St → Prop} {st : St} (hq : quiet o.op = true) (h : execE E dp ops o K st) : footOf E dp ops o st = Foot.nil := by
  unfold execE at h
  unfold footOf
  rw [evG_gdv] at h ⊢
  cases hg : gdv ops o st with
  | none => rw [hg] at h; exact h.elim
  | some b =>
    rw [hg] at h
    cases b with
    | false => rfl
    | true =>
      simp only at h ⊢
      have key : ∀ e, eval E.T dp o.dst o.op (st.ev E.T) st.ob = e → run1 E e o K st → (∃ s v, e = .det s v []) := by
        intro e he hr
        cases e with
        | stuck => exact hr.elim
        | nd => exact absurd he nd_none
        | call =>
          cases hop : o.op with
          | call c => rw [hop] at hq; cases hq
          | _ => rw [hop] at he; exact absurd he (no_call (by simp))
        | det s v u =>
          refine ⟨s, v, ?_⟩
          have cut : ∀ {b : Bool} {x : Ev}, (bif b then x else .stuck) = Ev.det s v u → x = .det s v u := by
            intro b x hx; cases b
            · cases hx
            · exact hx
          have : u = [] := by
            cases hop : o.op with
            | move | assign => rw [hop] at he; simp only [eval, Ev.det.injEq] at he; exact he.2.2.symm
            | pick | extract | index => rw [hop] at he; simp only [eval] at he; repeat (first | (simp only [Ev.det.injEq] at he; exact he.2.2.symm) | cases he | split at he)
            | field => rw [hop] at he; simp only [eval, fieldOf] at he; repeat (first | (simp only [Ev.det.injEq] at he; exact he.2.2.symm) | cases he | split at he)
            | unOp => rw [hop] at he; simp only [eval, unop] at he; repeat (first | (simp only [Ev.det.injEq] at he; exact he.2.2.symm) | cases he | split at he)
            | convert => rw [hop] at he; simp only [eval, conv] at he; repeat (first | (simp only [Ev.det.injEq] at he; exact he.2.2.symm) | cases he | split at he)
            | binOp =>
              rw [hop] at he; exact bin_upd he
            | _ => rw [hop] at hq; cases hq
          rw [this]
      obtain ⟨s, v, he⟩ := key _ rfl h
      rw [he]
      have hl : lookO o.op = [] := by
        cases hop : o.op <;> first | rfl | (rw [hop] at hq; cases hq)
      have hn : newIds o.op o.dst = [] := by
        cases hop : o.op <;> first | (cases o.dst <;> rfl) | (rw [hop] at hq; cases hq)
      simp [footE, look, hl, hn, Foot.nil]

def reader (op : Op) : Bool :=
  match op with
  | .load .. | .nilCheck _ | .fieldAddr .. | .indexAddr .. | .slice .. | .build .. => true
  | .call c => match c.callee with
    | .builtin .len => true
    | _ => false
  | _ => false

structure Foot.noWr (f : Foot) : Prop where
  ids : f.ids = []
  pre : f.pre = none
  call : f.call = false

theorem Foot.noWr.apart {f g : Foot} (hf : f.noWr) (hg : g.noWr) : f.apart g = true := by
  have w1 : ∀ i, f.wr i = false := fun i => by simp [Foot.wr, hf.ids, hf.pre]
  have w2 : ∀ i, g.wr i = false := fun i => by simp [Foot.wr, hg.ids, hg.pre]
  simp [Foot.apart, w1, w2, hf.ids, hg.ids, hf.call]

theorem reader_foot {E : Pr} {dp : Nat → Bool} {ops : Array Oper} {o : Oper} {K : St → Prop} {st : St} (hq : reader o.op = true) (h : execE E dp ops o K st) : (footOf E dp ops o st).noWr := by
  unfold execE at h
  unfold footOf
  rw [evG_gdv] at h ⊢
  cases hg : gdv ops o st with
  | none => rw [hg] at h; exact h.elim
  | some b =>
    rw [hg] at h
    cases b with
    | false => exact ⟨rfl, rfl, rfl⟩
    | true =>
      simp only at h ⊢
      have cut : ∀ {s : Prop} {v : V} {u : List (Id × Option Obj)} {b : Bool} {x : Ev}, (bif b then x else .stuck) = Ev.det s v u → x = .det s v u := by
        intro s v u b x hx; cases b
        · cases hx
        · exact hx
      have cutc : ∀ {f : FuncId} {as : List Arg} {ex : List (Id × Id)} {bo : List Id} {b : Bool} {x : Ev}, (bif b then x else .stuck) = Ev.call f as ex bo → x = .call f as ex bo := by
        intro f as ex bo b x hx; cases b
        · cases hx
        · exact hx
      have hn : newIds o.op o.dst = [] := by
        cases hop : o.op with
        | call c =>
          rw [hop] at hq
          simp only [reader] at hq
          split at hq
          · rename_i hc; cases o.dst <;> simp [newIds, hc]
          · cases hq
        | load | nilCheck | fieldAddr | indexAddr | slice | build => cases o.dst <;> rfl
        | _ => rw [hop] at hq; cases hq
      have key : ∀ e, eval E.T dp o.dst o.op (st.ev E.T) st.ob = e → run1 E e o K st → (∃ s v, e = .det s v []) := by
        intro e he hr
        cases e with
        | stuck => exact hr.elim
        | nd => exact absurd he nd_none
        | call =>
          cases hop : o.op with
          | call c =>
            rw [hop] at hq he
            simp only [reader] at hq
            split at hq
            · rename_i hc
              simp only [eval, hc] at he
              repeat (first | cases he | (replace he := cutc he) | split at he)
            · cases hq
          | _ => rw [hop] at he; exact absurd he (no_call (by simp))
        | det s v u =>
          refine ⟨s, v, ?_⟩
          have : u = [] := by
            cases hop : o.op with
            | load | nilCheck => rw [hop] at he; simp only [eval] at he; repeat (first | (simp only [Ev.det.injEq] at he; exact he.2.2.symm) | cases he | (replace he := cut he) | split at he)
            | fieldAddr => rw [hop] at he; simp only [eval, fieldAddr] at he; repeat (first | (simp only [Ev.det.injEq] at he; exact he.2.2.symm) | cases he | (replace he := cut he) | split at he)
            | indexAddr => rw [hop] at he; simp only [eval, indexAddr] at he; repeat (first | (simp only [Ev.det.injEq] at he; exact he.2.2.symm) | cases he | (replace he := cut he) | split at he)
            | slice => rw [hop] at he; simp only [eval, slice] at he; repeat (first | (simp only [Ev.det.injEq] at he; exact he.2.2.symm) | cases he | (replace he := cut he) | split at he)
            | build => rw [hop] at he; simp only [eval, build] at he; repeat (first | (simp only [Ev.det.injEq] at he; exact he.2.2.symm) | cases he | (replace he := cut he) | split at he)
            | call c =>
              rw [hop] at hq he
              simp only [reader] at hq
              split at hq
              · rename_i hc
                simp only [eval, hc] at he
                repeat (first | (simp only [Ev.det.injEq] at he; exact he.2.2.symm) | cases he | (replace he := cut he) | split at he)
              · cases hq
            | _ => rw [hop] at hq; cases hq
          rw [this]
      obtain ⟨s, v, he⟩ := key _ rfl h
      rw [he]
      exact ⟨by simp [footE, hn], rfl, rfl⟩

def Lig (o : Oper) (f : Foot) : Prop := (quiet o.op = true → f = Foot.nil) ∧ (reader o.op = true → f.noWr)

theorem lig_foot {E : Pr} {dp : Nat → Bool} {ops : Array Oper} {o : Oper} {K : St → Prop} {st : St} (h : execE E dp ops o K st) : Lig o (footOf E dp ops o st) := ⟨fun hq => quiet_foot hq h, fun hq => reader_foot hq h⟩

def cloOf (ops : List Oper) : List (List Nat) :=
  ops.foldl (fun acc o => acc ++ [o.after.toList.foldl (fun l e => bif Region.binds .any e then (e.on :: acc.getD e.on []).foldl (fun l k => bif l.contains k then l else k :: l) l else l) []]) []

def fineB (ops : Array Oper) (clo : List (List Nat)) (pairs : List (Nat × Nat)) : Bool :=
  (List.range ops.size).all fun i => match ops[i]? with
    | none => true
    | some oi => (oi.after.all fun e => !Region.binds .any e || decide (e.on < i)) &&
      ((clo.getD i []).all fun k => oi.after.any fun e => Region.binds .any e && (e.on == k || (clo.getD e.on []).contains k)) &&
      ((List.range i).all fun j => match ops[j]? with
        | none => true
        | some oj => (clo.getD i []).contains j || (oj.apart ops oi && (quiet oj.op || quiet oi.op || (reader oj.op && reader oi.op) || pairs.contains (j, i))))

theorem stepT_E {E : Pr} {dp : Nat → Bool} {ops : Array Oper} {o : Oper} {C : Foot → Bool} (hC : C Foot.nil = true) {K : Foot → St → Prop} {st : St} (h : stepT E dp ops o C K st) :
    C (footOf E dp ops o st) = true ∧ execE E dp ops o (K (footOf E dp ops o st)) st := by
  unfold stepT at h
  unfold footOf execE
  unfold evG
  cases hg : guardOf ops o with
  | free => rw [hg] at h; exact ⟨h.1, exec1_run1 h.2⟩
  | bad => rw [hg] at h; exact h.elim
  | slot g want =>
    rw [hg] at h
    simp only at h ⊢
    split at h
    · rename_i b hb
      have hbv : gV want (st.env g) = some b := by rw [hb]; rfl
      simp only [hbv]
      by_cases hbw : b = want
      · subst hbw
        simp only [if_true]
        have := h.1 rfl
        rw [app_same hb] at this
        exact ⟨this.1, exec1_run1 this.2⟩
      · have hb' : b = !want := by cases b <;> cases want <;> simp_all
        simp only [hbw, if_false]
        have := h.2 hb'
        subst hb'
        rw [app_same hb] at this
        cases hd : st.dstOk o.dst with
        | false => rw [hd] at this; exact this.elim
        | true => rw [hd] at this; exact ⟨hC, rfl, this⟩
    · rename_i hb
      have hbv : gV want (st.env g) = some (!want) := by rw [hb]; rfl
      simp only [hbv]
      rw [if_neg (by cases want <;> simp)]
      cases hd : st.dstOk o.dst with
      | false => rw [hd] at h; exact h.elim
      | true => rw [hd] at h; exact ⟨hC, rfl, h⟩
    · exact h.elim

theorem chk_nil (pairs : List (Nat × Nat)) (i : Nat) : ∀ (log : Log), chk pairs i Foot.nil log = true := by
  intro log
  induction log with
  | nil => rfl
  | cons q log ih => obtain ⟨k, g⟩ := q; simp only [chk, ih, apart_nil_l]; simp

theorem chk_mem {pairs : List (Nat × Nat)} {i : Nat} {f : Foot} : ∀ {log : Log} {k : Nat} {g : Foot}, chk pairs i f log = true → (k, g) ∈ log → (k, i) ∈ pairs → f.apart g = true := by
  intro log
  induction log with
  | nil => intro k g _ h; cases h
  | cons q log ih =>
    obtain ⟨k', g'⟩ := q
    intro k g h hm hp
    simp only [chk, Bool.and_eq_true] at h
    rcases List.mem_cons.1 hm with he | hm
    · cases he
      have : (pairs.any fun p => (p.1 == k') && (p.2 == i)) = true := List.any_eq_true.2 ⟨_, hp, by simp⟩
      rw [this] at h
      simpa using h.1
    · exact ih h.2 hm hp

section
variable {E : Pr} {dp : Nat → Bool} {ops : Array Oper} {clo : List (List Nat)} {pairs : List (Nat × Nat)} (hfine : fineB ops clo pairs = true) {K : St → Prop}
include hfine

theorem fine_spec {i : Nat} {oi : Oper} (hi : ops[i]? = some oi) : (∀ e, e ∈ oi.after → Region.binds .any e = true → e.on < i) ∧
    (∀ k, (clo.getD i []).contains k = true → ∃ e, e ∈ oi.after ∧ Region.binds .any e = true ∧ (e.on = k ∨ (clo.getD e.on []).contains k = true)) ∧
    ∀ j oj, j < i → ops[j]? = some oj → (clo.getD i []).contains j = true ∨ (oj.apart ops oi = true ∧ (quiet oj.op = true ∨ quiet oi.op = true ∨ (reader oj.op = true ∧ reader oi.op = true) ∨ (j, i) ∈ pairs)) := by
  unfold fineB at hfine
  have h := (List.all_eq_true.1 hfine) i (List.mem_range.2 (Array.getElem?_eq_some_iff.1 hi).1)
  rw [hi] at h
  simp only [Bool.and_eq_true] at h
  obtain ⟨⟨h1, h2⟩, h3⟩ := h
  refine ⟨fun e he hb => ?_, fun k hk => ?_, fun j oj hj hoj => ?_⟩
  · have := (Array.all_eq_true_iff_forall_mem.1 h1) e he
    simpa [hb] using this
  · have hk' : k ∈ clo.getD i [] := by simpa using hk
    have := (List.all_eq_true.1 h2) k hk'
    obtain ⟨e, he, hq⟩ := Array.any_eq_true'.1 this
    simp only [Bool.and_eq_true, Bool.or_eq_true, beq_iff_eq] at hq
    exact ⟨e, he, hq.1, hq.2⟩
  · have := (List.all_eq_true.1 h3) j (List.mem_range.2 hj)
    rw [hoj] at this
    simp only [Bool.or_eq_true, Bool.and_eq_true] at this
    refine this.imp _root_.id fun ⟨a, b⟩ => ⟨a, ?_⟩
    rcases b with ((b | b) | b) | b
    · exact .inl b
    · exact .inr (.inl b)
    · exact .inr (.inr (.inl (by simpa using b)))
    · exact .inr (.inr (.inr (by simpa using b)))

theorem fine_fine : Fine ops (fun k i => (clo.getD i []).contains k) where
  back := fun i o e hi he hb => (fine_spec hfine hi).1 e he hb
  clos := fun k i o hi hc => (fine_spec hfine hi).2.1 k hc
  apart := fun j i oj oi hlt hj hi => ((fine_spec hfine hi).2.2 j oj hlt hj).imp _root_.id fun h => h.1

theorem execT_F : ∀ (l : List Oper) (i : Nat) (log log' : Log) (st : St), (∀ m o, l[m]? = some o → ops[i + m]? = some o) →
    (∀ k f, (k, f) ∈ log' → k < i ∧ ∃ o, ops[k]? = some o ∧ Lig o f ∧ (involved pairs k = true → (k, f) ∈ log)) →
    execT E dp ops pairs i l log K st → execF E dp ops (fun k i => (clo.getD i []).contains k) (List.range' i l.length) log' K st := by
  intro l
  induction l with
  | nil => intro i log log' st _ _ h; exact h
  | cons o l ih =>
    intro i log log' st hl hlog h
    have hoi : ops[i]? = some o := by simpa using hl 0 o rfl
    have hl' : ∀ m o', l[m]? = some o' → ops[i + 1 + m]? = some o' := fun m o' hm => by rw [show i + 1 + m = i + (m + 1) by omega]; exact hl (m + 1) o' (by simpa using hm)
    simp only [List.length_cons, List.range'_succ, execF, hoi]
    simp only [execT] at h
    have grow : ∀ (log1 : Log) (s : St), (involved pairs i = true → (i, footOf E dp ops o st) ∈ log1) → (∀ p, p ∈ log → p ∈ log1) → Lig o (footOf E dp ops o st) →
        ∀ k f, (k, f) ∈ ((i, footOf E dp ops o st) :: log') → k < i + 1 ∧ ∃ o, ops[k]? = some o ∧ Lig o f ∧ (involved pairs k = true → (k, f) ∈ log1) := by
      intro log1 s h1 h2 h3 k f hm
      rcases List.mem_cons.1 hm with he | hm
      · cases he; exact ⟨by omega, o, hoi, h3, h1⟩
      · obtain ⟨g1, o', g2, g3, g4⟩ := hlog k f hm
        exact ⟨by omega, o', g2, g3, fun hi => h2 _ (g4 hi)⟩
    have checks : ∀ (hq : Lig o (footOf E dp ops o st)), (involved pairs i = true → chk pairs i (footOf E dp ops o st) log = true) →
        ∀ k f, (k, f) ∈ log' → (clo.getD i []).contains k = true ∨ (footOf E dp ops o st).apart f = true := by
      intro hq hc k f hm
      obtain ⟨hlt, ok, hok, hkq, hki⟩ := hlog k f hm
      rcases (fine_spec hfine hoi).2.2 k ok hlt hok with h | ⟨_, h | h | h | h⟩
      · exact .inl h
      · right; rw [hkq.1 h]; exact apart_nil_r _
      · right; rw [hq.1 h]; exact apart_nil_l _
      · right; exact (hq.2 h.2).apart (hkq.2 h.1)
      · right
        have hik : involved pairs k = true := List.any_eq_true.2 ⟨_, h, by simp⟩
        have hii : involved pairs i = true := List.any_eq_true.2 ⟨_, h, by simp⟩
        exact chk_mem (hc hii) (hki hik) h
    cases hinv : involved pairs i with
    | true =>
      rw [hinv] at h
      simp only [cond_true] at h
      obtain ⟨h1, h2⟩ := stepT_E (C := fun f => chk pairs i f log) (chk_nil pairs i log) (K := fun f => execT E dp ops pairs (i + 1) l ((i, f) :: log) K) h
      have hq : Lig o (footOf E dp ops o st) := lig_foot h2
      refine ⟨checks hq fun _ => h1, execE_mono (fun s hs => ?_) h2⟩
      exact ih (i + 1) _ _ s hl' (grow _ s (fun _ => List.mem_cons_self) (fun p hp => List.mem_cons_of_mem _ hp) hq) hs
    | false =>
      rw [hinv] at h
      have h2 := execG_E h
      have hq : Lig o (footOf E dp ops o st) := lig_foot h2
      refine ⟨checks hq (fun hi => by rw [hinv] at hi; cases hi), execE_mono (fun s hs => ?_) h2⟩
      exact ih (i + 1) _ _ s hl' (grow _ s (fun hi => by rw [hinv] at hi; cases hi) (fun p hp => hp) hq) hs

end

theorem region_drawn {E : Pr} (hT : TabOk E.P E.T) (hm : E.P.follows .mixedOrders = true) {B : Base} {dp : Nat → Bool} {ops : Array Oper} {clo : List (List Nat)} {pairs : List (Nat × Nat)} (hfine : fineB ops clo pairs = true)
    {K : St → Prop} {Q : Exit → Act → World → Prop} {id : Nat} {ow : Own} {σ : Val} {st : St} {a : Act} {w : World}
    (h : Inv E B ow σ st a w) (hr : execT E dp ops pairs 0 ops.toList [] K st) (hQ : ∀ ow2 σ2 st2 a2 w2, K st2 → Inv E B ow2 σ2 st2 a2 w2 → Q .normal a2 w2) : (Code.region id ops true).wp E.P Q a w := by
  refine wp_region_any hm ?_
  have hF := execT_F hfine ops.toList 0 [] [] st (fun m o hm => by simpa using hm) (fun k f hm => by cases hm) hr
  have h' : Inv E B ow σ st a { w with drawn := w.drawn + 1 } := by
    refine ⟨h.defers, h.size, fun s => ?_, fun id o ho => ?_, h.closed, h.closedO, h.frame.drawn _, ?_, h.small, h.pin⟩
    · exact (h.env s).step (Step.refl w ow σ (w.drawn + 1)) fun id _ => .inl ⟨fun h => h, rfl⟩
    · have := h.objs id o ho
      cases o with
      | sl => exact (Step.refl w ow σ (w.drawn + 1)).rep (fun _ _ h => h) this
      | box cs =>
        obtain ⟨b, arr, et, fr, g1, g2, g3, g4, g5⟩ := this
        exact ⟨b, arr, et, fr, g1, g2, g3, g4, g5.step (Step.refl w ow σ (w.drawn + 1)) fun id _ => .inl ⟨fun h => h, rfl⟩⟩
    · exact h.globs.step (Step.refl w ow σ (w.drawn + 1))
  refine any_sound hT (fine_fine hfine) hQ ops.size (List.range' 0 ops.toList.length) (Array.replicate ops.size false) (by simp) (List.pairwise_lt_range') (by simp) (fun i => ?_) (fun k i hi _ => ?_) h' hF
  · simp only [Array.length_toList, List.mem_range'_1]
    constructor
    · rintro ⟨_, h⟩
      have : i < ops.size := by omega
      exact ⟨this, by simp [this]⟩
    · rintro ⟨h, _⟩; omega
  · exfalso
    rcases Nat.lt_or_ge i ops.size with h | h <;> simp [h] at hi

end Go.Ax
end
