/- The executor is sound: a call that is lent a slice within a slice. -/
import Derived.Test.YtgjkcoifgdmmbaaDoorXE
set_option linter.unusedSimpArgs false
set_option linter.unusedVariables false
section
set_option maxRecDepth 10000
namespace Go.Ax
open Go

noncomputable def subF (id : Id) (q : Nat × Nat) : Tag → Option Tag
  | .fz => some .fz
  | .deep id' p => if id' = id ∧ p.getLast? = some q then some (.deep (0, 0) p.dropLast) else none
  | .sh _ => none
noncomputable def subIn (id : Id) (q : Nat × Nat) : TagMap where
  f := subF id q
  fz := rfl
  ext := fun t t' i j h => by
    cases t with
    | fz => simp only [subF, Option.some.injEq] at h; subst h; rfl
    | sh _ => simp [subF] at h
    | deep id' p =>
      simp only [subF] at h
      split at h
      · rename_i hc
        cases h
        obtain ⟨rfl, hp⟩ := hc
        cases p with
        | nil => simp at hp
        | cons x p =>
          simp only [Tag.ext, subF]
          rw [if_pos (by simp only [List.getLast?_cons_cons, hp, and_self])]
          rfl
      · cases h
  own := fun t t' h ht => by
    rintro rfl
    simp only [subF, Option.some.injEq] at h
    exact ht h.symm

def subG (id : Id) (q : Nat × Nat) : Tag → Option Tag
  | .fz => some .fz
  | .deep _ p => some (.deep id (p ++ [q]))
  | .sh _ => none
def subOut (id : Id) (q : Nat × Nat) : TagMap where
  f := subG id q
  fz := rfl
  ext := fun t t' i j h => by
    cases t with
    | fz => simp only [subG, Option.some.injEq] at h; subst h; rfl
    | sh _ => simp [subG] at h
    | deep id' p => simp only [subG, Option.some.injEq] at h; subst h; rfl
  own := fun t t' h ht => by
    rintro rfl
    simp only [subG, Option.some.injEq] at h
    exact ht h.symm

open Classical in
noncomputable def subOw (w : World) (ow ow2 : Own) (id : Id) (q : Nat × Nat) : Own := fun b => if (subIn id q).on ow b = none ∧ b < w.heap.size then ow b else (subOut id q).on ow2 b

section
variable {w w' : World} {ow ow2 : Own} {id : Id} {q : Nat × Nat} (hf : Frame' w ((subIn id q).on ow) w' ow2)
include hf

theorem sub_stays {b : Nat} {t : Tag} {o : Go.Obj} (hb : ow b = some t) (ht : t = .fz ∨ (subIn id q).f t = none) (ho : w.heap[b]? = some o) : w'.heap[b]? = some o ∧ subOw w ow ow2 id q b = some t := by
  have hlt : b < w.heap.size := (Array.getElem?_eq_some_iff.1 ho).1
  rcases ht with rfl | ht
  · have hon : (subIn id q).on ow b = some .fz := by simp [TagMap.on, hb, (subIn id q).fz]
    obtain ⟨h1, h2⟩ := hf.old b hlt (.inr hon)
    refine ⟨by rw [h1, ho], ?_⟩
    unfold subOw
    rw [if_neg (by simp [hon])]
    show (ow2 b).bind (subOut id q).f = _
    rw [h2, hon]; rfl
  · have hon : (subIn id q).on ow b = none := by simp [TagMap.on, hb, ht]
    obtain ⟨h1, h2⟩ := hf.old b hlt (.inl hon)
    refine ⟨by rw [h1, ho], ?_⟩
    unfold subOw
    rw [if_pos ⟨hon, hlt⟩, hb]

theorem sub_rep {t : Tag} {d : D} {v : Value} (r : Rep w ow t d v) (S : Tag → Prop) (hS : ∀ t i j, S t → S (t.ext i j)) (hS2 : ∀ t, S t → t = .fz ∨ (subIn id q).f t = none) (ht : S t) : Rep w' (subOw w ow ow2 id q) t d v :=
  r.mono S hS (fun b t o h1 h2 h3 => sub_stays hf h1 (hS2 t h2) h3) ht

theorem sub_back {t t' : Tag} {d : D} {v : Value} (r : Rep w' ow2 t d v) (h : (subOut id q).f t = some t') : Rep w' (subOw w ow ow2 id q) t' d v := by
  refine (r.map (subOut id q) h).mono (fun _ => True) (fun _ _ _ _ => trivial) (fun b t o h1 _ h3 => ⟨h3, ?_⟩) trivial
  unfold subOw
  by_cases hc : (subIn id q).on ow b = none ∧ b < w.heap.size
  · have := (hf.old b hc.2 (.inl hc.1)).2
    rw [hc.1] at this
    simp [TagMap.on, this] at h1
  · rw [if_neg hc]; exact h1

theorem sub_step {σ : Val} : Step (· = id) w ow σ w' (subOw w ow ow2 id q) σ where
  heap := fun b t o hb ht ho => sub_stays hf hb (by
    cases t with
    | fz => exact .inl rfl
    | sh _ => exact .inr rfl
    | deep id' p =>
      right
      show (if id' = id ∧ p.getLast? = some q then some (Tag.deep (0, 0) p.dropLast) else none) = none
      rw [if_neg]
      rintro ⟨rfl, _⟩
      exact ht id' rfl rfl) ho
  val := fun _ _ => rfl

theorem sub_frame {B : Base} (h : Frame' B.w B.ow w ow) : Frame' B.w B.ow w' (subOw w ow ow2 id q) where
  os := by rw [hf.os, h.os]
  tape := by rw [hf.tape, h.tape]
  output := by rw [hf.output, h.output]
  size := Nat.le_trans h.size hf.size
  old := fun b hb hc => by
    obtain ⟨h1, h2⟩ := h.old b hb hc
    have hlt : b < w.heap.size := Nat.lt_of_lt_of_le hb h.size
    rcases hc with hc | hc
    · have hon : (subIn id q).on ow b = none := by simp [TagMap.on, h2, hc]
      obtain ⟨g1, g2⟩ := hf.old b hlt (.inl hon)
      refine ⟨by rw [g1, h1], ?_⟩
      unfold subOw
      rw [if_pos ⟨hon, hlt⟩, h2]
    · have hon : (subIn id q).on ow b = some .fz := by simp [TagMap.on, h2, hc, (subIn id q).fz]
      obtain ⟨g1, g2⟩ := hf.old b hlt (.inr hon)
      refine ⟨by rw [g1, h1], ?_⟩
      unfold subOw
      rw [if_neg (by simp [hon])]
      show (ow2 b).bind (subOut id q).f = _
      rw [g2, hon, hc]; rfl
end

def subRow (row : Nat → List D) (i j k n : Nat) (r : Nat → List D) : Nat → List D := setRow row i (setAt (row i) j [.sl k n r])

theorem setAt_get {α : Type} {l : List α} {j : Nat} {x : α} (h : j < l.length) (m : Nat) : (setAt l j [x])[m]? = if m = j then some x else l[m]? := by
  unfold setAt
  by_cases hm : m < j
  · rw [List.append_assoc, List.getElem?_append_left (by simp; omega), if_neg (by omega), List.getElem?_take_of_lt hm]
  · by_cases he : m = j
    · subst he
      rw [if_pos rfl, List.append_assoc, List.getElem?_append_right (by simp; omega), List.length_take, Nat.min_eq_left (by omega), Nat.sub_self]; rfl
    · rw [if_neg he, List.getElem?_append_right (by simp; omega)]
      simp only [List.length_append, List.length_take, List.length_cons, List.length_nil, List.getElem?_drop]
      congr 1; omega

theorem last_deep {id : Id} {p : List (Nat × Nat)} {q q' : Nat × Nat} (h : q' ≠ q) : (subIn id q).f (.deep id (p ++ [q'])) = none := by
  show (if id = id ∧ (p ++ [q']).getLast? = some q then some (Tag.deep (0, 0) (p ++ [q']).dropLast) else none) = none
  rw [if_neg]
  rintro ⟨_, hq⟩
  rw [List.getLast?_append] at hq
  simp at hq
  exact h hq

theorem root_deep {id : Id} {q : Nat × Nat} : (subIn id q).f (.deep id []) = none := by
  show (if id = id ∧ ([] : List (Nat × Nat)).getLast? = some q then some (Tag.deep (0, 0) []) else none) = none
  rw [if_neg]
  rintro ⟨_, hq⟩
  simp at hq

section
variable {E : Pr} {B : Base} {ow : Own} {σ : Val} {st : St} {a : Act} {w : World} {o : Oper} (h : Inv E B ow σ st a w) (hd : st.dstOk o.dst = true)
include h hd

theorem sub_good {c : Call} {fo x y : Operand} {f : FuncId} {id : Id} {ver k i j n kk nn : Nat} {row : Nat → List D} {r r' : Nat → List D} {yv rv : Value} (ho : o.op = .call c) (hcal : c.callee = .value fo) (hargs : c.args = #[x, y])
    (hfo : st.ev E.T fo = .s (.one (.fn f []))) (hx : st.ev E.T x = .s (.one (.osub id ver k i j))) (hy : st.ev E.T y = .s (.one (.val yv))) (hyo : yv.oneC = true)
    (hob : st.ob id = some (.sl true k n row ver)) (hin : (row i)[j]? = some (.sl kk nn r))
    (hc : ACall E f [.xsl true kk nn r, .one (.v yv)] fun res up => res = [.one (.fz (.v rv))] ∧ up = [.xsl true kk nn r', .one (.v yv)])
    {next : Act → World → Prop} {Q : Exit → Act → World → Prop}
    (hnext : ∀ ow2 σ2 a2 w2, Inv E B ow2 σ2 (st.app o.dst (.s (.one (.val rv))) [(id, some (.sl true k n (subRow row i j kk nn r') (ver + 1)))]) a2 w2 → next a2 w2) : o.wp E.P a w next Q := by
  have vfo : a.eval fo = .func (.func f) #[] #[] := by
    have := h.ev fo
    rw [hfo] at this
    obtain ⟨vs, h1, h2, _⟩ := this
    have : vs = #[] := Array.eq_empty_of_size_eq_zero h2
    rw [h1, this]
  have vy : a.eval y = yv := by have := h.ev y; rw [hy] at this; exact this
  have vx := h.ev x
  rw [hx] at vx
  obtain ⟨_, vx⟩ := vx true k n row ver hob
  obtain ⟨_, b, off, cap, t, hσ, hlt, hbt, hti, hcell⟩ := vx rfl
  generalize hxv : a.eval x = xv at hcell
  have hR : Rep w ow (.deep id []) (.sl k n row) (σ id) := h.objs id _ hob
  have hinv := hR.inv
  obtain ⟨b', off', cap', cells, et, fr, cv, hs, sb⟩ : ∃ b off cap cells et fr cv, σ id = .slice (some ⟨b, off, none⟩) n cap ∧ SlBlock w ow (.deep id []) k n row b off cap cells et fr cv := by
    rcases hinv with ⟨h0, _⟩ | h1
    · omega
    · exact h1
  rw [hσ] at hs
  simp only [Value.slice.injEq, Option.some.injEq, Addr.mk.injEq, and_true, true_and] at hs
  obtain ⟨⟨rfl, rfl⟩, rfl⟩ := hs
  have hj : j < (row i).length := by
    rcases Nat.lt_or_ge j (row i).length with h1 | h1
    · exact h1
    · rw [List.getElem?_eq_none h1] at hin; cases hin
  have hxc : cv i j = xv := by
    have h1 := sb.hc i j _ hlt hin
    simp only [World.cell?, sb.hb] at hcell
    have h2 : cells[off + i * k + j]? = some xv := by simpa using hcell
    rw [h1] at h2
    exact Option.some.inj h2
  have hxr : Rep w ow (.deep id [(i, j)]) (.sl kk nn r) xv := by rw [← hxc]; exact sb.hr i j _ hlt hin
  have hen : Entry E w ((subIn id (i, j)).on ow) [.xsl true kk nn r, .one (.v yv)] #[xv, yv] := by
    refine ⟨rfl, fun m ar hm => ?_, fun b t hb => ?_, fun g cs hg => ?_⟩
    · rcases m with _ | _ | m
      · simp only [List.getElem?_cons_zero, Option.some.injEq] at hm; subst hm
        exact ⟨xv, rfl, hxr.map (subIn id (i, j)) (by
          show (if id = id ∧ [(i, j)].getLast? = some (i, j) then some (Tag.deep (0, 0) [(i, j)].dropLast) else none) = _
          rw [if_pos ⟨rfl, rfl⟩]; rfl)⟩
      · simp only [List.getElem?_cons_succ, List.getElem?_cons_zero, Option.some.injEq] at hm; subst hm
        exact ⟨yv, rfl, .v _ _ hyo⟩
      · simp at hm
    · simp only [TagMap.on, Option.bind_eq_some_iff] at hb
      obtain ⟨t', _, ht⟩ := hb
      cases t' with
      | fz => left; have : some Tag.fz = some t := ht; exact (Option.some.inj this).symm
      | sh _ => have : (none : Option Tag) = some t := ht; cases this
      | deep id' p =>
        have ht2 : (if id' = id ∧ p.getLast? = some (i, j) then some (Tag.deep (0, 0) p.dropLast) else none) = some t := ht
        split at ht2
        · cases ht2; right; exact ⟨(0, 0), rfl, by simp⟩
        · cases ht2
    · obtain ⟨arr, et, fr, g1, g2, g3, gz⟩ := h.globs g cs hg
      exact ⟨arr, et, fr, g1, by simp only [TagMap.on, g2, Option.bind_some]; rfl, fun m d hm => let ⟨z, hz, hr⟩ := g3 m d hm; ⟨z, hz, hr.map _ rfl⟩, gz⟩
  have hrun := run_enter (P := E.P) (a := a) (w := w) ho hcal vfo hc.1
  unfold Oper.wp
  rw [hrun, Oper.upon_enter]
  have hav : c.args.map a.eval ++ #[] = #[xv, yv] := by rw [hargs]; simp [hxv, vy]
  rw [hav]
  refine (hc.2.2 w _ _ hen).mono ?_
  rintro e w' ⟨v, ow2, res, up, rfl, ⟨rfl, rfl⟩, hrep, ⟨_, hup⟩, hfr⟩
  simp only
  have hv : v = rv := Rep.v_inv hrep
  subst hv
  obtain ⟨a', ha', _, x', hx', hrx⟩ := hup 0 _ rfl rfl
  simp only [List.getElem?_cons_zero, Option.some.injEq] at ha'
  subst ha'
  obtain rfl : xv = x' := by simpa using hx'
  have hrx : Rep w' ow2 (.deep (0, 0) []) (.sl kk nn r') xv := hrx
  have hrx2 : Rep w' (subOw w ow ow2 id (i, j)) (.deep id [(i, j)]) (.sl kk nn r') xv := sub_back hfr hrx rfl
  have hst := sub_step (σ := σ) hfr
  have hobj : Rep w' (subOw w ow ow2 id (i, j)) (.deep id []) (.sl k n (subRow row i j kk nn r')) (σ id) := by
    rw [hσ]
    obtain ⟨g1, g2⟩ := sub_stays hfr sb.ho (.inr root_deep) sb.hb
    refine .sl _ k n _ b off cap cells et fr cv g1 g2 sb.hcap sb.hsz sb.hfr (fun m hm => ?_) (fun m jm d hm hjd => ?_) (fun m jm d hm hjd => ?_)
    · have := sb.hk m hm
      unfold subRow setRow
      by_cases e : m = i
      · subst e; simp only [beq_self_eq_true, cond_true]; rw [length_setAt (by simp; omega)]; exact this
      · have : (m == i) = false := by simpa using e
        simp only [this, cond_false]; assumption
    · unfold subRow setRow at hjd
      by_cases e : m = i
      · subst e
        simp only [beq_self_eq_true, cond_true] at hjd
        rw [setAt_get hj] at hjd
        split at hjd
        · rename_i e2; subst e2; exact sb.hc m jm _ hm hin
        · exact sb.hc m jm d hm hjd
      · have e' : (m == i) = false := by simpa using e
        simp only [e', cond_false] at hjd
        exact sb.hc m jm d hm hjd
    · have other : ∀ d, (row m)[jm]? = some d → (m, jm) ≠ (i, j) → Rep w' (subOw w ow ow2 id (i, j)) (Tag.ext (.deep id []) m jm) d (cv m jm) := fun d hd2 hne =>
        sub_rep hfr (sb.hr m jm d hm hd2) (fun t => t = .fz ∨ ∃ p, t = .deep id (p ++ [(m, jm)])) (fun t i' j' ht => by
          rcases ht with rfl | ⟨p, rfl⟩
          · exact .inl rfl
          · exact .inr ⟨(i', j') :: p, rfl⟩) (fun t ht => by
          rcases ht with rfl | ⟨p, rfl⟩
          · exact .inl rfl
          · exact .inr (last_deep hne)) (.inr ⟨[], rfl⟩)
      unfold subRow setRow at hjd
      by_cases e : m = i
      · subst e
        simp only [beq_self_eq_true, cond_true] at hjd
        rw [setAt_get hj] at hjd
        split at hjd
        · rename_i e2
          subst e2
          cases hjd
          rw [hxc]; exact hrx2
        · rename_i e2
          exact other d hjd (by simp [e2])
      · have e' : (m == i) = false := by simpa using e
        simp only [e', cond_false] at hjd
        exact other d hjd (by simp [e])
  refine hnext (subOw w ow ow2 id (i, j)) σ (a.put o.dst v) w' (Inv.upd h (X := (· = id)) hst (v := .s (.one (.val v))) (x := v) ⟨rfl, fun s => ?_, fun id' hid => ?_, fun id' hid => ?_⟩ hd ?_ ?_ ?_ ?_ ?_ (sub_frame hfr h.frame) ?_)
  · simp only [St.app]; cases o.dst with
    | none => simp
    | some d =>
      by_cases e : d = s
      · subst e; simp
      · have e2 : (d == s) = false := by simpa using e
        simp only [e2, cond_false]
        rw [if_neg (fun e3 => e (Option.some.inj e3))]
  · simp only [St.app, updO]
    have : eqId id id' = false := by cases he : eqId id id' with
      | false => rfl
      | true => exact absurd (eqId_iff.1 he).symm hid
    simp [this]
  · subst hid; simp [St.app, updO, eqId_self]
  · rintro id' rfl _
    right; right
    refine ⟨rfl, .inr ⟨true, k, n, row, ver, subRow row i j kk nn r', ver + 1, hob, ?_, by omega⟩⟩
    simp [St.ob, St.app, updO, eqId_self]
  · rintro id' ob rfl hob'
    simp only [St.ob, St.app, updO, eqId_self, cond_true, Option.some.injEq] at hob'
    subst hob'
    exact hobj
  · intro _; rfl
  · intro id' hid; simp [V.ids, V1.ids, C.ids] at hid
  · rintro id' ob rfl hob' id2 hid2
    simp only [St.ob, St.app, updO, eqId_self, cond_true, Option.some.injEq] at hob'
    subst hob'
    simp [Obj.ids] at hid2
  · rintro id' ob rfl _ _
    exact ⟨rfl, by rw [hob]; simp⟩
end

theorem execL_then {E : Pr} (hT : TabOk E.P E.T) {B : Base} {dp : Nat → Bool} {ops : Array Oper} {K : St → Prop} {Q : Exit → Act → World → Prop} {rest : List Nat} (hQ : ∀ ow2 σ2 st2 a2 w2, K st2 → Inv E B ow2 σ2 st2 a2 w2 → wpOps E.P ops Q rest a2 w2) :
    ∀ (l : List Oper) (k : Nat) {ow : Own} {σ : Val} {st : St} {a : Act} {w : World}, (∀ i o, l[i]? = some o → ops[k + i]? = some o) → Inv E B ow σ st a w → execL E dp ops l K st → wpOps E.P ops Q (List.range' k l.length ++ rest) a w := by
  intro l
  induction l with
  | nil => intro k ow σ st a w _ h hr; exact hQ _ _ _ _ _ hr h
  | cons o l ih =>
    intro k ow σ st a w hl h hr
    simp only [List.length_cons, List.range'_succ, List.cons_append]
    rw [wpOps_cons]
    refine execE_sound h hT (by simpa using hl 0 o rfl) (execG_E hr) fun ow2 σ2 st2 a2 w2 hk h2 => ?_
    exact ih (k + 1) (fun i o' hi => by rw [show k + 1 + i = k + (i + 1) by omega]; exact hl (i + 1) o' (by simpa using hi)) h2 hk

def SubK (E : Pr) (dst : Option Nat) (fo x y : Operand) (f : FuncId) (id : Id) (ver k i j n : Nat) (row : Nat → List D) (kk nn : Nat) (r' : Nat → List D) (yv rv : Value) (K : St → Prop) (s : St) : Prop :=
  s.ev E.T fo = .s (.one (.fn f [])) ∧ s.ev E.T x = .s (.one (.osub id ver k i j)) ∧ s.ev E.T y = .s (.one (.val yv)) ∧ s.ob id = some (.sl true k n row ver) ∧ s.dstOk dst = true ∧
    K (s.app dst (.s (.one (.val rv))) [(id, some (.sl true k n (subRow row i j kk nn r') (ver + 1)))])

section
variable {E : Pr} (hT : TabOk E.P E.T) (dp : Nat → Bool) {Q : Exit → St → Prop} {st : St}
include hT

theorem gsub1 (ren : List (Id × Id)) (keep : List Nat) {id0 : Nat} (l1 : List Oper) (o : Oper) (l3 : List Oper) (h1 : renFine ren = true) (hg : o.guard = none) {c : Call} {fo x y : Operand} (ho : o.op = .call c) (hcal : c.callee = .value fo) (hargs : c.args = #[x, y])
    {f : FuncId} (id : Id) (ver k i j n : Nat) (row : Nat → List D) {kk nn : Nat} {r r' : Nat → List D} {yv rv : Value} (hc : ACall E f [.xsl true kk nn r, .one (.v yv)] fun res up => res = [.one (.fz (.v rv))] ∧ up = [.xsl true kk nn r', .one (.v yv)])
    (hyo : yv.oneC = true) (hin : (row i)[j]? = some (.sl kk nn r))
    (h : GoodO E (SubK E o.dst fo x y f id ver k i j n row kk nn r' yv rv fun s => GoodO E (EndN Q ren keep) (runL E.T dp (slimL (dstL (l1 ++ o :: l3)) l3) s)) (runL E.T dp (slimL (dstL (l1 ++ o :: l3)) l1) st)) :
    Awp E (.region id0 (l1 ++ o :: l3).toArray false) Q st := fun B ow σ a w hi => by
  refine wp_region ?_
  have e : List.range (l1 ++ o :: l3).toArray.size = List.range' 0 l1.length ++ (l1.length :: List.range' (l1.length + 1) l3.length) := by
    rw [List.range_eq_range', List.size_toArray, List.length_append, List.length_cons, show l1.length + (l3.length + 1) = l1.length + (l3.length + 1) from rfl, ← List.range'_append_1, Nat.zero_add, List.range'_succ]
  rw [e]
  refine execL_then hT (K := SubK E o.dst fo x y f id ver k i j n row kk nn r' yv rv fun s => GoodO E (EndN Q ren keep) (runL E.T dp (slimL (dstL (l1 ++ o :: l3)) l3) s)) (dp := dp) (fun ow2 σ2 st2 a2 w2 hk h2 => ?_) l1 0 (fun i o' hi' => ?_) hi (runL_good (ops := l1 ++ o :: l3) l1 st h)
  · obtain ⟨k1, k2, k3, k4, k5, k6⟩ := hk
    rw [wpOps_cons]
    have hat : (l1 ++ o :: l3).toArray[l1.length]? = some o := by simp
    unfold wpOp
    simp only [hat]
    have hw : Region.wanted o (yielded (l1 ++ o :: l3).toArray a2.tmps) = true := by simp [Region.wanted, hg]
    rw [if_pos hw]
    refine .inl (sub_good h2 k5 ho hcal hargs k1 k2 k3 hyo k4 hin hc fun ow3 σ3 a3 w3 h3 => ?_)
    have := runL_good (ops := l1 ++ o :: l3) l3 _ k6
    refine execL_sound hT (K := EndN Q ren keep) (fun ow4 σ4 st4 a4 w4 hk4 h4 => ?_) l3 (l1.length + 1) (fun i o' hi' => ?_) h3 this
    · obtain ⟨ow5, σ5, h5⟩ := sub_fine h1 B ow4 σ4 a4 w4 h4
      exact ⟨ow5, σ5, _, hk4, h5⟩
    · simp only [List.getElem?_toArray]
      rw [List.getElem?_append_right (by omega), show l1.length + 1 + i - l1.length = i + 1 by omega, List.getElem?_cons_succ]; exact hi'
  · simp only [List.getElem?_toArray, Nat.zero_add]
    have := (List.getElem?_eq_some_iff.1 hi').1
    rw [List.getElem?_append_left this]; exact hi'

omit hT in
theorem split_at {l : List Oper} {m : Nat} {o : Oper} (h : l[m]? = some o) : l.take m ++ o :: l.drop (m + 1) = l := by
  obtain ⟨hlt, rfl⟩ := List.getElem?_eq_some_iff.1 h
  rw [← List.drop_eq_getElem_cons hlt, List.take_append_drop]

theorem gsub (m : Nat) (ren : List (Id × Id)) (keep : List Nat) {id0 : Nat} {l : List Oper} {o : Oper} (hm : l[m]? = some o) (h1 : renFine ren = true) (hg : o.guard = none) {c : Call} {fo x y : Operand} (ho : o.op = .call c) (hcal : c.callee = .value fo) (hargs : c.args = #[x, y])
    {f : FuncId} (id : Id) (ver k i j n : Nat) (row : Nat → List D) {kk nn : Nat} {r r' : Nat → List D} {yv rv : Value} (hc : ACall E f [.xsl true kk nn r, .one (.v yv)] fun res up => res = [.one (.fz (.v rv))] ∧ up = [.xsl true kk nn r', .one (.v yv)])
    (hyo : yv.oneC = true) (hin : (row i)[j]? = some (.sl kk nn r)) {sl1 sl3 : List SOp}
    (h : GoodO E (SubK E o.dst fo x y f id ver k i j n row kk nn r' yv rv fun s => GoodO E (EndN Q ren keep) (runL E.T dp sl3 s)) (runL E.T dp sl1 st))
    (hl1 : slimL (dstL l) (l.take m) = sl1 := by conv => lhs; simp only [List.take_succ_cons, List.take_zero, dstL, slimL, slimG, atL, cond_true, cond_false, beq_self_eq_true, Nat.reduceBEq, Nat.reduceSub])
    (hl3 : slimL (dstL l) (l.drop (m + 1)) = sl3 := by conv => lhs; simp only [List.drop_succ_cons, List.drop_zero, dstL, slimL, slimG, atL, cond_true, cond_false, beq_self_eq_true, Nat.reduceBEq, Nat.reduceSub]) :
    Awp E (.region id0 l.toArray false) Q st := by
  have := gsub1 hT dp (Q := Q) (st := st) ren keep (id0 := id0) (l.take m) o (l.drop (m + 1)) h1 hg ho hcal hargs id ver k i j n row hc hyo hin (by rw [split_at hm, hl1, hl3]; exact h)
  rwa [split_at hm] at this

omit hT in
@[go_sem] theorem subK_m {dst : Option Nat} {fo x y : Operand} {f : FuncId} {id : Id} {ver k i j n : Nat} {row : Nat → List D} {kk nn : Nat} {r' : Nat → List D} {yv rv : Value} {K : St → Prop} {nt : Nat} {e : List (Nat × V)} {ob : List (Id × Option Obj)} :
    SubK E dst fo x y f id ver k i j n row kk nn r' yv rv K (St.m nt e ob) = ((St.m nt e ob).ev E.T fo = .s (.one (.fn f [])) ∧ (St.m nt e ob).ev E.T x = .s (.one (.osub id ver k i j)) ∧ (St.m nt e ob).ev E.T y = .s (.one (.val yv)) ∧ (St.m nt e ob).ob id = some (.sl true k n row ver) ∧ (St.m nt e ob).dstOk dst = true ∧
    K ((St.m nt e ob).app dst (.s (.one (.val rv))) [(id, some (.sl true k n (subRow row i j kk nn r') (ver + 1)))])) := rfl
end
end Go.Ax
end
