/- Both parsers answer the same, and so do both forms of FitsWindow. -/
import Derived.Test.YtgjkcoifgdmmbaaDoorPE
set_option linter.unusedSimpArgs false
set_option linter.unusedVariables false
section
set_option maxRecDepth 4000
namespace Go.Ax
open Go Go.Proofs

def toP (q : SS) : PS := ⟨q.pos, q.ways, q.way, decide (0 < (q.way.length : Int))⟩

theorem bool_dec {b c : Bool} (h : b = true ↔ c = true) : b = c := by cases b <;> cases c <;> simp at h <;> rfl

theorem memK (w : ByteArray) : memB w k8 = anyK w k8s := by
  refine bool_dec ?_
  unfold memB anyK
  rw [decide_eq_true_eq, bidx_mem w k8 0, List.any_eq_true]
  simp only [k8, k8s, List.mem_cons, List.not_mem_nil, or_false, decide_eq_true_eq]
  constructor
  · rintro (h | h | h | h | h | h | h | h) <;> exact ⟨w, by subst h; simp, rfl⟩
  · rintro ⟨x, h, rfl⟩
    rcases h with h | h | h | h | h | h | h | h <;> simp [h]

theorem fault_eq (w : ByteArray) (q : SS) : faultP w (toP q) = codeS w q := by
  unfold faultP codeS toP
  rw [memK]
  cases anyK w k8s with
  | false => rfl
  | true =>
    simp only [Bool.not_true, cond_false]
    have e : (decide (w = ⟨#[77]⟩) == decide (0 < (q.way.length : Int))) = (decide (0 < (q.way.length : Int)) == decide (w = ⟨#[77]⟩)) := by
      cases decide (w = ⟨#[77]⟩) <;> cases decide (0 < (q.way.length : Int)) <;> rfl
    rw [e]
    cases hm : (decide (0 < (q.way.length : Int)) == decide (w = ⟨#[77]⟩)) with
    | true => rfl
    | false =>
      simp only [cond_false]
      congr 1
      refine bool_dec ?_
      unfold manyB manyS
      simp only [Bool.or_eq_true, Bool.and_eq_true, decide_eq_true_eq, ne_eq]
      constructor
      · rintro (h | h | h)
        · exact .inl h
        · exact .inr (.inl h)
        · exact .inr (.inr ⟨h.1.2, h.2⟩)
      · rintro (h | h | h)
        · exact .inl h
        · exact .inr (.inl h)
        · refine .inr (.inr ⟨⟨fun e => ?_, h.1⟩, h.2⟩)
          simp [e, h.2] at hm

theorem rd1 (ws : List ByteArray) (i : Nat) : rdN ws 1 i [] = bif (pnum ws i).2 then (true, i + 1, [(pnum ws i).1]) else (false, i, []) := by
  unfold rdN; cases (pnum ws i).2 with
  | true => unfold rdN; rfl
  | false => rfl
theorem rd2 (ws : List ByteArray) (i : Nat) : rdN ws 2 i [] = bif (pnum ws i).2 then (bif (pnum ws (i + 1)).2 then (true, i + 2, [(pnum ws i).1, (pnum ws (i + 1)).1]) else (false, i + 1, [(pnum ws i).1])) else (false, i, []) := by
  unfold rdN; cases (pnum ws i).2 with
  | true =>
    simp only [cond_true, List.nil_append]
    unfold rdN; cases (pnum ws (i + 1)).2 with
    | true => unfold rdN; rfl
    | false => rfl
  | false => rfl

theorem numS_0 (ws : List ByteArray) {q : SS} (h0 : q.code = 0) : numS ws q = bif (pnum ws q.pos).2 then ((pnum ws q.pos).1, { q with pos := q.pos + 1 }) else (0, { q with code := 3 }) := by
  unfold numS; rw [show decide (q.code ≠ 0) = false by simp [h0]]; rfl
theorem numS_3 (ws : List ByteArray) {q : SS} (h0 : q.code = 3) : numS ws q = (0, q) := by
  unfold numS; rw [show decide (q.code ≠ 0) = true by simp [h0]]; rfl
theorem ptS_0 {q : SS} (h0 : q.code = 0) (a : P2) : ptS q a = bif goodPt a.1 a.2 then { q with way := q.way ++ [a] } else { q with code := 6, pos := q.pos - 1 } := by
  unfold ptS; rw [show decide (q.code ≠ 0) = false by simp [h0]]; rfl
theorem ptS_3 {q : SS} (h0 : q.code = 3) (a : P2) : ptS q a = q := by
  unfold ptS; rw [show decide (q.code ≠ 0) = true by simp [h0]]; rfl
theorem cmdQ_ok (ws : List ByteArray) (p0 : PS) (q : SS) (h0 : q.code = 0) (t : P2) (hp : p0.ways = q.ways ∧ p0.way = q.way) (hpos : 0 < q.pos) :
    (ptS q t).code = (cmdQ ws p0 t q.pos).1 ∧ ((cmdQ ws p0 t q.pos).1 = 0 → (cmdQ ws p0 t q.pos).2.2 = toP (ptS q t)) ∧ ((cmdQ ws p0 t q.pos).1 ≠ 0 → (cmdQ ws p0 t q.pos).2.1 = (ptS q t).pos) := by
  obtain ⟨hp1, hp2⟩ := hp
  rw [ptS_0 h0]
  unfold cmdQ
  cases goodPt t.1 t.2 with
  | true =>
    simp only [cond_true]
    refine ⟨h0, fun _ => ?_, fun h => absurd rfl h⟩
    unfold toP
    rw [hp1, hp2]
    simp only [PS.mk.injEq, true_and]
    symm; rw [decide_eq_true_eq]; simp only [List.length_append, List.length_cons, List.length_nil]; omega
  | false =>
    simp only [cond_false]
    exact ⟨trivial, fun h => by simp at h, fun _ => by omega⟩

theorem one_eq (ws : List ByteArray) (p0 : PS) (q : SS) (h0 : q.code = 0) (a : Int → P2) (hp : p0.ways = q.ways ∧ p0.way = q.way) :
    let r : Int × Int × PS := match rdN ws 1 q.pos [] with
      | (false, i, _) => (3, i, { p0 with pos := i })
      | (true, i, ns) => cmdQ ws p0 (a (ns.getD 0 0)) i
    let t := ptS (numS ws q).2 (a (numS ws q).1)
    t.code = r.1 ∧ (r.1 = 0 → r.2.2 = toP t) ∧ (r.1 ≠ 0 → r.2.1 = t.pos) := by
  rw [rd1, numS_0 ws h0]
  cases (pnum ws q.pos).2 with
  | false =>
    simp only [cond_false]
    rw [ptS_3 rfl]
    exact ⟨by first | rfl | trivial, fun h => by simp at h, fun _ => by first | rfl | trivial⟩
  | true =>
    simp only [cond_true, List.getD_cons_zero]
    exact cmdQ_ok ws p0 { q with pos := q.pos + 1 } h0 _ hp (by simp only; omega)

theorem two_eq (ws : List ByteArray) (p0 : PS) (q : SS) (h0 : q.code = 0) (l : P2) (hp : p0.ways = q.ways ∧ p0.way = q.way) :
    let r : Int × Int × PS := match rdN ws 2 q.pos [] with
      | (false, i, _) => (3, i, { p0 with pos := i })
      | (true, i, ns) => cmdQ ws p0 (l.1 + ns.getD 0 0, l.2 + ns.getD 1 0) i
    let t := two2 ws q l
    t.code = r.1 ∧ (r.1 = 0 → r.2.2 = toP t) ∧ (r.1 ≠ 0 → r.2.1 = t.pos) := by
  rw [rd2]
  unfold two2
  rw [numS_0 ws h0]
  cases (pnum ws q.pos).2 with
  | false =>
    simp only [cond_false]
    rw [numS_3 ws rfl]
    simp only
    rw [ptS_3 rfl]
    exact ⟨by first | rfl | trivial, fun h => by simp at h, fun _ => by first | rfl | trivial⟩
  | true =>
    simp only [cond_true]
    rw [numS_0 ws (q := { q with pos := q.pos + 1 }) h0]
    simp only
    cases (pnum ws (q.pos + 1)).2 with
    | false =>
      simp only [cond_false]
      rw [ptS_3 rfl]
      exact ⟨by first | rfl | trivial, fun h => by simp at h, fun _ => by first | rfl | trivial⟩
    | true =>
      simp only [cond_true, List.getD_cons_zero, List.getD_cons_succ]
      exact cmdQ_ok ws p0 { q with pos := q.pos + 2 } h0 _ hp (by simp only; omega)

theorem toPw (q : SS) : (toP q).way = q.way := rfl
theorem toPs (q : SS) : (toP q).ways = q.ways := rfl

theorem cmd_eq (ws : List ByteArray) (q : SS) (h0 : q.code = 0) :
    (cmdS ws q).code = (cmdP ws (toP q)).1 ∧ ((cmdP ws (toP q)).1 = 0 → (cmdP ws (toP q)).2.2 = toP (cmdS ws q)) ∧ ((cmdP ws (toP q)).1 ≠ 0 → (cmdP ws (toP q)).2.1 = (cmdS ws q).pos) := by
  unfold cmdS cmdP
  rw [show (toP q).pos = q.pos from rfl, show (toP q).way = q.way from rfl, show (toP q).ways = q.ways from rfl, fault_eq]
  cases hc : decide (codeS (wAt ws q.pos) q ≠ 0) with
  | true =>
    simp only [cond_true]
    simp only [decide_eq_true_eq] at hc
    exact ⟨by first | rfl | trivial, fun h => absurd h hc, fun _ => by first | rfl | trivial⟩
  | false =>
    simp only [cond_false]
    have hk : codeS (wAt ws q.pos) q = 0 := by simpa using hc
    have hz0 := fault_eq (wAt ws q.pos) q
    rw [hk] at hz0
    have hkn := fault_known hz0
    generalize wAt ws q.pos = w at *
    have hm : w ∈ k8 := by
      rw [← bidx_mem w k8 0]; unfold memB at hkn; simpa using hkn
    have e1 := one_eq ws (toP q) { q with pos := q.pos + 1 } h0
    have e2 := two_eq ws (toP q) { q with pos := q.pos + 1 } h0
    simp only [k8, List.mem_cons, List.not_mem_nil, or_false] at hm
    unfold armS one1 nextP
    rcases hm with rfl | rfl | rfl | rfl | rfl | rfl | rfl | rfl
    · have e := e2 (0, 0) ⟨rfl, rfl⟩; simp [toPw, toPs] at e ⊢; exact e
    · have e := e2 (0, 0) ⟨rfl, rfl⟩; simp [toPw, toPs] at e ⊢; exact e
    · have e := e2 (lastP q.way) ⟨rfl, rfl⟩; simp [toPw, toPs] at e ⊢; exact e
    · have e := e1 (fun n => (n, (lastP q.way).2)) ⟨rfl, rfl⟩; simp [toPw, toPs] at e ⊢; exact e
    · have e := e1 (fun n => ((lastP q.way).1, n)) ⟨rfl, rfl⟩; simp [toPw, toPs] at e ⊢; exact e
    · have e := e1 (fun n => ((lastP q.way).1 + n, (lastP q.way).2)) ⟨rfl, rfl⟩; simp [toPw, toPs] at e ⊢; exact e
    · have e := e1 (fun n => ((lastP q.way).1, (lastP q.way).2 + n)) ⟨rfl, rfl⟩; simp [toPw, toPs] at e ⊢; exact e
    · simp [toP, h0]

theorem run_eq (ws : List ByteArray) : ∀ (f : Nat) (q : SS), q.code = 0 → SsIn ws q → ws.length - q.pos < f → runP ws f (toP q) = finS (runS ws (f + 1) q) := by
  intro f
  induction f with
  | zero => intro q _ _ h; omega
  | succ f ih =>
    intro q h0 hin hf
    have hpos := hin.pos
    unfold runP
    rw [runS_succ]
    rw [show (toP q).pos = q.pos from rfl, show (toP q).ways = q.ways from rfl]
    cases hlt : decide (q.pos < ws.length) with
    | true =>
      have hlt' : q.pos < ws.length := by simpa using hlt
      rw [show decide (q.code = 0) = true by simpa using h0]
      simp only [Bool.and_self, cond_true]
      obtain ⟨e1, e2, e3⟩ := cmd_eq ws q h0
      obtain ⟨i1, i2⟩ := cmdS_in hin hlt' h0
      cases hc : decide ((cmdP ws (toP q)).1 ≠ 0) with
      | true =>
        have hc' : (cmdP ws (toP q)).1 ≠ 0 := by simpa using hc
        rw [e3 hc']
        rw [runS_succ, show decide ((cmdS ws q).code = 0) = false by rw [e1]; simpa using hc', Bool.and_false]
        simp only [cond_true, cond_false]
        unfold finS finC
        rw [show decide ((cmdS ws q).code = 0) = false by rw [e1]; simpa using hc', Bool.false_and]
        simp only [cond_false]
        rw [e1, hc]; rfl
      | false =>
        have hc' : (cmdP ws (toP q)).1 = 0 := by simpa using hc
        simp only [cond_false]
        rw [e2 hc']
        have hcode : (cmdS ws q).code = 0 := by rw [e1, hc']
        have := i2 hcode
        exact ih (cmdS ws q) hcode i1 (by omega)
    | false =>
      have hge : q.pos = ws.length := by simp only [decide_eq_false_iff_not] at hlt; omega
      simp only [Bool.false_and, cond_false]
      unfold finS finC
      rw [show decide (q.code = 0) = true by simpa using h0, Bool.true_and, h0, show (toP q).op = decide (0 < (q.way.length : Int)) from rfl, ← hge]
      cases decide (0 < (q.way.length : Int)) <;> rfl

theorem parse_eq (s : ByteArray) : parseI s = parseS s := by
  unfold parseI parseS
  have e : (decide ((s.size : Int) = 0) || decide (400 < (s.size : Int))) = !(inB s.size 1 400) := by
    refine bool_dec ?_
    unfold inB
    simp only [Bool.or_eq_true, decide_eq_true_eq, Bool.not_eq_true', Bool.and_eq_false_iff, decide_eq_false_iff_not]
    omega
  rw [e]
  cases inB s.size 1 400 with
  | false => rfl
  | true =>
    simp only [Bool.not_true, cond_true, cond_false]
    exact run_eq (words s) ((words s).length + 1) ⟨0, [], [], 0⟩ rfl ⟨by simp, by simp⟩ (by simp)
end Go.Ax
end

section
set_option maxRecDepth 4000
namespace Go.Ax
open Go Go.Proofs
variable {gl : Gl}

abbrev rnB : List (Id × Id) := [((2, 0), (2, 0)), ((3, 0), (3, 0)), ((4, 0), (4, 0)), ((5, 0), (5, 0))]
abbrev bxS (n : Nat) (row : Nat → List D) (i : Nat) (q : P2 × P2) : St := St.m 55 [(2, .c (.ptr (2, 0) 0)), (3, .c (.ptr (3, 0) 0)), (4, .c (.ptr (4, 0) 0)), (5, .c (.ptr (5, 0) 0)), (14, .c (.dat (.sl 2 n row))), (15, .int n), (16, .int i)]
  [((2, 0), some (.box [.val (.int .i64 0), .val (.int .i64 0)])), ((3, 0), some (.box [.val (.int .i64 0), .val (.int .i64 0)])), ((4, 0), some (.box [.val (.int .i64 q.1.1), .val (.int .i64 q.1.2)])), ((5, 0), some (.box [.val (.int .i64 q.2.1), .val (.int .i64 q.2.2)]))]
abbrev bxT (n : Nat) (row : Nat → List D) (i : Nat) (q : P2 × P2) (a : P2) : St := St.m 55 [(2, .c (.ptr (2, 0) 0)), (3, .c (.ptr (3, 0) 0)), (4, .c (.ptr (4, 0) 0)), (5, .c (.ptr (5, 0) 0)), (7, .c (.ptr (7, 0) 0)), (14, .c (.dat (.sl 2 n row))), (15, .int n), (16, .int i)]
  [((2, 0), some (.box [.val (.int .i64 0), .val (.int .i64 0)])), ((3, 0), some (.box [.val (.int .i64 0), .val (.int .i64 0)])), ((4, 0), some (.box [.val (.int .i64 q.1.1), .val (.int .i64 q.1.2)])), ((5, 0), some (.box [.val (.int .i64 q.2.1), .val (.int .i64 q.2.2)])), ((7, 0), some (.box [.val (.int .i64 a.1), .val (.int .i64 a.2)]))]
abbrev rnB7 : List (Id × Id) := [((2, 0), (2, 0)), ((3, 0), (3, 0)), ((4, 0), (4, 0)), ((5, 0), (5, 0)), ((7, 0), (7, 0))]

def loI (a b : Int) : Int := bif decide (a < b) then a else b
def hiI (a b : Int) : Int := bif decide (b < a) then a else b
def bx1 (a : P2) (q : P2 × P2) : P2 × P2 := ((loI a.1 q.1.1, loI a.2 q.1.2), (hiI a.1 q.2.1, hiI a.2 q.2.2))
def bxF (l : List P2) (q : P2 × P2) : P2 × P2 := l.foldl (fun q a => bx1 a q) q
def bxW (w : List P2) : P2 × P2 := bxF w (w.getD 0 (0, 0), w.getD 0 (0, 0))

theorem c18 (w : List P2) (hw : 0 < w.length) (hlen : w.length < 1000000000) : Det gl 18 [.one (.sl 2 w.length (rowsF encP w))] [.agg [.fz (vI (bxW w).1.1), .fz (vI (bxW w).1.2)], .agg [.fz (vI (bxW w).2.1), .fz (vI (bxW w).2.2)]] [.one (.sl 2 w.length (rowsF encP w))] := by
  refine acallD (c := bodyOf Tryd.f18) (nt := 55) (rvs := [.cell 2 39, .cell 3 39]) tabOk ⟨Tryd.f18, Tryd.func18, rfl, rfl, rfl, rfl⟩ rfl ?_
  unfold bodyOf Tryd.f18
  dsimp only
  obtain ⟨b, hb⟩ : ∃ b, w[0]? = some b := ⟨w[0], by simp⟩
  have hr0 := rowsF_some (enc := encP) hb
  have hbx : bxW w = bxF w (b, b) := by
    unfold bxW; rw [List.getD_eq_getElem?_getD, hb]; rfl
  have hrow : ∀ i a, w[i]? = some a → rowsF encP w i = encP a := fun i a h => rowsF_some h
  rw [hbx]
  generalize hx : bxF w (b, b) = x
  simp only [go_sem, seval]
  refine gt tabOk dp0 [((2, 0), (2, 0)), ((3, 0), (3, 0))] [0, 2, 3] rfl ?_; simp only [go_sem, seval]
  refine gt tabOk dp0 [((2, 0), (2, 0)), ((3, 0), (3, 0)), ((4, 0), (4, 0))] [0, 2, 3, 4] rfl ?_; simp only [go_sem, seval, Int.toNat_zero, hr0, encP]
  refine ⟨by omega, ?_⟩
  refine gt tabOk dp0 rnB [0, 2, 3, 4, 5] rfl ?_; simp only [go_sem, seval, Int.toNat_zero, hr0, encP]
  refine ⟨by omega, ?_⟩
  refine awp_seq ?_
  refine gt tabOk dp0 rnB [2, 3, 4, 5, 14, 15, 16] rfl ?_; simp only [go_sem, seval]
  generalize rowsF encP w = row at hrow
  refine gloop1 (fun i : Nat × (P2 × P2) => bxS w.length row i.1 i.2) (fun i => i.1 ≤ w.length ∧ x = bxF (w.drop i.1) i.2) (fun i => w.length - i.1) (0, (b, b)) (sub_eq rfl) ⟨by simp, by simp [hx]⟩ ?_
  rintro ⟨i, q⟩ ⟨h1, h2⟩
  simp only at h1 h2
  simp only [go_sem, seval]
  refine gt tabOk dp0 rnB [2, 3, 4, 5, 14, 15, 16, 17] rfl ?_; simp only [go_sem, seval]
  refine gif2 rfl (fun hc => ?_) (fun hc => ?_)
  rotate_left
  ·
    have hi : i = w.length := by simp only [decide_eq_false_iff_not] at hc; omega
    subst hi
    rw [List.drop_length] at h2
    have h2' : x = q := h2
    subst h2'
    simp only [go_sem, seval]
    refine gd tabOk dp0 mixed [((2, 0), (2, 0)), ((3, 0), (3, 0))] [2, 3] [(1, 2)] rfl (by kernel_rfl) ?_; simp only [go_sem, seval]
    refine awp_ret ?_; simp only [go_sem, seval]
  have hlt : i < w.length := by simp only [decide_eq_true_eq] at hc; omega
  obtain ⟨a, ha⟩ : ∃ a, w[i]? = some a := ⟨w[i], by simp [hlt]⟩
  have hri := hrow i a ha
  have hdr : w.drop i = a :: w.drop (i + 1) := by
    obtain ⟨hlt, rfl⟩ := List.getElem?_eq_some_iff.1 ha
    exact List.drop_eq_getElem_cons hlt
  rw [hdr] at h2
  have h3 : x = bxF (w.drop (i + 1)) (bx1 a q) := h2
  generalize w.length = n at *
  refine gblk ?_
  refine gt tabOk dp0 rnB7 [2, 3, 4, 5, 7, 14, 15, 16] rfl ?_; simp only [go_sem, seval, Int.toNat_natCast, hri, encP]
  refine ⟨by omega, ?_⟩
  refine gcut0 (bxT n row i ((loI a.1 q.1.1, q.1.2), q.2) a) ?_ ?_
  · refine gt tabOk dp0 rnB7 [2, 3, 4, 5, 7, 14, 15, 16, 24] rfl ?_; simp only [go_sem, seval]
    refine awp_cond rfl (fun hc => ?_) (fun hc => ?_)
    · refine gt1 tabOk dp0 rnB7 [2, 3, 4, 5, 7, 14, 15, 16] rfl ?_; simp only [go_sem, seval]
      exact sub_eq (by simp only [loI, hc, cond_true])
    · refine awp_skip ?_; simp only [go_sem, seval]
      exact sub_norm' rnB7 [2, 3, 4, 5, 7, 14, 15, 16] rfl (by simp only [go_sem, seval, loI, hc])
  refine gcut0 (bxT n row i ((loI a.1 q.1.1, loI a.2 q.1.2), q.2) a) ?_ ?_
  · refine gt tabOk dp0 rnB7 [2, 3, 4, 5, 7, 14, 15, 16, 32] rfl ?_; simp only [go_sem, seval]
    refine awp_cond rfl (fun hc => ?_) (fun hc => ?_)
    · refine gt1 tabOk dp0 rnB7 [2, 3, 4, 5, 7, 14, 15, 16] rfl ?_; simp only [go_sem, seval]
      exact sub_eq (by simp only [loI, hc, cond_true])
    · refine awp_skip ?_; simp only [go_sem, seval]
      exact sub_norm' rnB7 [2, 3, 4, 5, 7, 14, 15, 16] rfl (by simp only [go_sem, seval, loI, hc])
  refine gcut0 (bxT n row i ((loI a.1 q.1.1, loI a.2 q.1.2), (hiI a.1 q.2.1, q.2.2)) a) ?_ ?_
  · refine gt tabOk dp0 rnB7 [2, 3, 4, 5, 7, 14, 15, 16, 40] rfl ?_; simp only [go_sem, seval]
    refine awp_cond rfl (fun hc => ?_) (fun hc => ?_)
    · refine gt1 tabOk dp0 rnB7 [2, 3, 4, 5, 7, 14, 15, 16] rfl ?_; simp only [go_sem, seval]
      exact sub_eq (by simp only [hiI, hc, cond_true])
    · refine awp_skip ?_; simp only [go_sem, seval]
      exact sub_norm' rnB7 [2, 3, 4, 5, 7, 14, 15, 16] rfl (by simp only [go_sem, seval, hiI, hc])
  refine gt tabOk dp0 rnB7 [2, 3, 4, 5, 7, 14, 15, 16, 48] rfl ?_; simp only [go_sem, seval]
  refine awp_cond rfl (fun hc => ?_) (fun hc => ?_)
  · refine gt1 tabOk dp0 rnB [2, 3, 4, 5, 14, 15, 16] rfl ?_; simp only [go_sem, seval]
    refine gt1 tabOk dp0 rnB [2, 3, 4, 5, 14, 15, 16] rfl ?_; simp only [go_sem, seval]
    rw [wrapN (n := i) (by omega)]
    exact ⟨(i + 1, bx1 a q), ⟨by simp only; omega, h3⟩, by simp only; omega, sub_eq (by simp only [bx1, hiI, hc, cond_true])⟩
  · refine awp_skip ?_; simp only [go_sem, seval]
    refine gt1 tabOk dp0 rnB [2, 3, 4, 5, 14, 15, 16] rfl ?_; simp only [go_sem, seval]
    rw [wrapN (n := i) (by omega)]
    exact ⟨(i + 1, bx1 a q), ⟨by simp only; omega, h3⟩, by simp only; omega, sub_eq (by simp only [bx1, hiI, hc, cond_false])⟩
end Go.Ax
end

section
set_option maxRecDepth 4000
namespace Go.Ax
open Go Go.Proofs
variable {gl : Gl}

def fitP (x y w h : Int) (a : P2) : Bool := inB a.1 x (x + w) && inB a.2 y (y + h)
def fitW (x y w h : Int) (l : List (List P2)) : Bool := l.all fun way => way.all (fitP x y w h)
def fitsI (s : ByteArray) (x y w h : Int) : Bool × Bool := bif (parseI s).2.2.2 && goodWin x y w h then (fitW x y w h (parseI s).1, true) else (false, false)

theorem drop_cons {α : Type} {l : List α} {i : Nat} {a : α} (h : l[i]? = some a) : l.drop i = a :: l.drop (i + 1) := by
  obtain ⟨hlt, rfl⟩ := List.getElem?_eq_some_iff.1 h
  exact List.drop_eq_getElem_cons hlt

theorem goodWin_b {x y w h : Int} (hg : goodWin x y w h = true) : (-20 ≤ x ∧ x ≤ 20) ∧ (-20 ≤ y ∧ y ≤ 20) ∧ (1 ≤ w ∧ w ≤ 8) ∧ (1 ≤ h ∧ h ≤ 8) := by
  unfold goodWin inB at hg
  simp only [Bool.and_eq_true, decide_eq_true_eq] at hg
  omega

theorem numS_ways (ws : List ByteArray) (p : SS) : (numS ws p).2.ways = p.ways := by
  unfold numS; cases decide (p.code ≠ 0) with
  | true => rfl
  | false => cases (pnum ws p.pos).2 <;> rfl
theorem ptS_ways (p : SS) (a : P2) : (ptS p a).ways = p.ways := by
  unfold ptS; cases decide (p.code ≠ 0) with
  | true => rfl
  | false => cases goodPt a.1 a.2 <;> rfl
theorem two_ways (ws : List ByteArray) (p : SS) (a : P2) : (two2 ws p a).ways = p.ways := by
  unfold two2; rw [ptS_ways, numS_ways, numS_ways]

def WaysOk (b : Nat) (l : List (List P2)) : Prop := ∀ w, w ∈ l → 3 ≤ w.length ∧ w.length ≤ b

theorem cmdS_ways {ws : List ByteArray} {p : SS} (h : SsIn ws p) (h0 : p.code = 0) (hw : WaysOk ws.length p.ways) : WaysOk ws.length (cmdS ws p).ways := by
  obtain ⟨z1, z2, z3⟩ := h.zero h0
  have hpos := h.pos
  unfold cmdS
  cases hf : decide (codeS (wAt ws p.pos) p ≠ 0) with
  | true => exact hw
  | false =>
    simp only [cond_false]
    have hk : codeS (wAt ws p.pos) p = 0 := by simpa using hf
    generalize wAt ws p.pos = w at hk
    unfold armS
    cases h1 : (decide (w = ⟨#[77]⟩) || decide (w = ⟨#[76]⟩)) with
    | true => simp only [cond_true]; rw [two_ways]; exact hw
    | false =>
    cases h2 : decide (w = ⟨#[108]⟩) with
    | true => simp only [cond_true, cond_false]; rw [two_ways]; exact hw
    | false =>
    cases h3 : decide (w = ⟨#[72]⟩) with
    | true => simp only [cond_true, cond_false]; rw [ptS_ways, numS_ways]; exact hw
    | false =>
    cases h4 : decide (w = ⟨#[104]⟩) with
    | true => simp only [cond_true, cond_false]; rw [ptS_ways, numS_ways]; exact hw
    | false =>
    cases h5 : decide (w = ⟨#[86]⟩) with
    | true => simp only [cond_true, cond_false]; rw [ptS_ways, numS_ways]; exact hw
    | false =>
    cases h6 : decide (w = ⟨#[118]⟩) with
    | true => simp only [cond_true, cond_false]; rw [ptS_ways, numS_ways]; exact hw
    | false =>
      simp only [cond_false]
      intro v hv
      simp only [List.mem_append, List.mem_singleton] at hv
      rcases hv with hv | rfl
      · exact hw v hv
      have hz := fault_eq w p
      rw [hk] at hz
      have hkn := fault_known hz
      have hm : w ∈ k8 := by
        rw [← bidx_mem w k8 0]; unfold memB at hkn; simpa using hkn
      have hwz : w = ⟨#[90]⟩ := by
        simp only [k8, List.mem_cons, List.not_mem_nil, or_false] at hm
        simp only [Bool.or_eq_false_iff, decide_eq_false_iff_not] at h1 h2 h3 h4 h5 h6
        rcases hm with h | h | h | h | h | h | h | h
        · exact absurd h h1.1
        · exact absurd h h1.2
        · exact absurd h h2
        · exact absurd h h3
        · exact absurd h h5
        · exact absurd h h4
        · exact absurd h h6
        · exact h
      subst hwz
      refine ⟨?_, by omega⟩
      unfold codeS at hk
      rw [← memK, hkn] at hk
      simp only [Bool.not_true, cond_false] at hk
      cases he : (decide (0 < (p.way.length : Int)) == decide ((⟨#[90]⟩ : ByteArray) = ⟨#[77]⟩)) with
      | true => rw [he] at hk; simp at hk
      | false =>
        rw [he] at hk
        simp only [cond_false] at hk
        cases hmn : manyS ⟨#[90]⟩ p with
        | true => rw [hmn] at hk; simp at hk
        | false =>
          unfold manyS at hmn
          simp only [Bool.or_eq_false_iff, Bool.and_eq_false_iff, decide_eq_false_iff_not] at hmn
          have := hmn.2.1
          rcases this with h | h
          · exact absurd (by trivial) h
          · omega

theorem runS_ways {ws : List ByteArray} : ∀ (f : Nat) (q : SS), SsIn ws q → WaysOk ws.length q.ways → (q.code = 0 → q.ways.length ≤ ws.length) → WaysOk ws.length (runS ws f q).ways ∧ ((runS ws f q).code = 0 → (runS ws f q).ways.length ≤ ws.length) := by
  intro f
  induction f with
  | zero => intro q _ hw hl; rw [runS_zero]; exact ⟨hw, hl⟩
  | succ f ih =>
    intro q hin hw hl
    rw [runS_succ]
    cases hc : decide (q.pos < ws.length) && decide (q.code = 0) with
    | false => exact ⟨hw, hl⟩
    | true =>
      simp only [Bool.and_eq_true, decide_eq_true_eq] at hc
      obtain ⟨i1, i2⟩ := cmdS_in hin hc.1 hc.2
      refine ih (cmdS ws q) i1 (cmdS_ways hin hc.2 hw) fun h => ?_
      have := (i1.zero h).1
      have := i1.pos
      omega

theorem parseS_ways (s : ByteArray) : WaysOk 401 (parseS s).1 ∧ (parseS s).1.length ≤ 401 := by
  unfold parseS
  cases hc : (decide ((s.size : Int) = 0) || decide (400 < (s.size : Int))) with
  | true => exact ⟨fun w h => by simp at h, by simp⟩
  | false =>
    simp only [Bool.or_eq_false_iff, decide_eq_false_iff_not] at hc
    have hwl := words_len s
    obtain ⟨k1, k2⟩ := runS_ways ((words s).length + 2) ⟨0, [], [], 0⟩ (ws := words s) ⟨by simp, by simp⟩ (fun w h => by simp at h) (fun _ => by simp)
    generalize runS (words s) ((words s).length + 2) ⟨0, [], [], 0⟩ = q at k1 k2
    simp only [cond_false]
    unfold finS
    cases hf : decide (finC q ≠ 0) with
    | true => exact ⟨fun w h => by simp at h, by simp⟩
    | false =>
      have hq : q.code = 0 := by
        have : finC q = 0 := by simpa using hf
        unfold finC at this
        cases h7 : decide (q.code = 0) with
        | true => simpa using h7
        | false => rw [h7] at this; simpa using this
      simp only [cond_false]
      exact ⟨fun w h => by have := k1 w h; omega, by have := k2 hq; omega⟩

theorem fitW_take {x y w h : Int} {l : List (List P2)} {i : Nat} {a : List P2} (ha : l[i]? = some a) : fitW x y w h (l.take (i + 1)) = (fitW x y w h (l.take i) && a.all (fitP x y w h)) := by
  unfold fitW; rw [List.take_add_one, ha]; simp

abbrev fwS (n : Nat) (row : Nat → List D) (x y w h : Int) (i : Nat) : St := St.m 66 [(3, .c (.ptr (3, 0) 0)), (28, .c (.dat (.sl 1 n row))), (29, .int n), (30, .int i)] [((3, 0), some (.box [.val (.int .i64 x), .val (.int .i64 y), .val (.int .i64 w), .val (.int .i64 h)]))]

theorem c8 (s : ByteArray) (x y w h : Int) (hs : s.size < 1000000000000) : Det gl 8 [sA s, .agg [vI x, vI y, vI w, vI h]] [bR (fitsI s x y w h).1, bR (fitsI s x y w h).2] [sA s, .agg [vI x, vI y, vI w, vI h]] := by
  refine acallD (c := bodyOf Tryd.f8) (nt := 66) (rvs := [.tmp 4, .tmp 5]) tabOk ⟨Tryd.f8, Tryd.func8, rfl, rfl, rfl, rfl⟩ rfl ?_
  unfold bodyOf Tryd.f8
  dsimp only
  have hfit : fitsI s x y w h = bif (parseI s).2.2.2 && goodWin x y w h then (fitW x y w h (parseI s).1, true) else (false, false) := rfl
  generalize fitsI s x y w h = R at hfit ⊢
  have c := c10 (gl := gl) s hs
  have hways := parseS_ways s
  rw [← parse_eq] at hways
  generalize parseI s = r at hfit c hways
  obtain ⟨ways, code, ix, ok⟩ := r
  simp only at hfit c hways
  simp only [go_sem, seval]
  refine gt tabOk dpW [((3, 0), (3, 0))] [0, 3] rfl ?_; simp only [go_sem, seval]
  refine gt tabOk dpW [((3, 0), (3, 0))] [3, 6, 9] rfl ?_; simp only [go_sem, seval]
  refine good_call c ?_; simp only [go_sem, seval]
  refine awp_seq ?_
  refine gtc0 tabOk dpW (St.m 66 [(3, .c (.ptr (3, 0) 0)), (6, .c (.dat (.sl 1 ways.length (rowsF encW ways)))), (27, .bool (!(ok && goodWin x y w h)))] [((3, 0), some (.box [.val (.int .i64 x), .val (.int .i64 y), .val (.int .i64 w), .val (.int .i64 h)]))]) [((3, 0), (3, 0))] [3, 6, 27] rfl ?_ ?_
  · simp only [go_sem, seval]
    refine ⟨fun h1 => ?_, fun h1 => ?_⟩
    · have hok : ok = true := by simpa using h1
      subst hok
      refine good_call (c19 ..) ?_; simp only [go_sem, seval]

    · have hok : ok = false := by simpa using h1
      subst hok
      rfl
  refine awp_cond rfl (fun hc => ?_) (fun hc => ?_)
  · have hR : R = (false, false) := by rw [hfit, show (ok && goodWin x y w h) = false by revert hc; cases ok <;> cases goodWin x y w h <;> simp]; rfl
    subst hR
    refine gt tabOk dpW [] [4, 5] rfl ?_; simp only [go_sem, seval]
    refine awp_ret ?_; simp only [go_sem, seval]
  have hok : (ok && goodWin x y w h) = true := by simpa using hc
  rw [hok, cond_true] at hfit
  have hgw : goodWin x y w h = true := by simp only [Bool.and_eq_true] at hok; exact hok.2
  have hb := goodWin_b hgw
  clear hc hok c
  refine awp_skip ?_; simp only [go_sem, seval]
  refine awp_seq ?_
  refine gt tabOk dpW [((3, 0), (3, 0))] [3, 28, 29, 30] rfl ?_; simp only [go_sem, seval]
  have hrow : ∀ i a, ways[i]? = some a → rowsF encW ways i = encW a := fun i a h => rowsF_some h
  have hwl := hways.2
  generalize rowsF encW ways = row at hrow
  refine gloop1 (fun i : Nat => fwS ways.length row x y w h i) (fun i => i ≤ ways.length ∧ fitW x y w h (ways.take i) = true) (fun i => ways.length - i) 0 (sub_eq rfl) ⟨by simp, by simp [fitW]⟩ ?_
  rintro i ⟨h1, h2⟩

  refine gt tabOk dpW [((3, 0), (3, 0))] [3, 28, 29, 30, 31] rfl ?_; simp only [go_sem, seval]
  refine gif2 rfl (fun hc => ?_) (fun hc => ?_)
  rotate_left
  ·
    have hi : i = ways.length := by simp only [decide_eq_false_iff_not] at hc; omega
    subst hi
    rw [List.take_length] at h2
    rw [h2] at hfit
    subst hfit
    simp only [go_sem, seval]
    refine gt tabOk dpW [] [4, 5] rfl ?_; simp only [go_sem, seval]
    refine awp_ret ?_; simp only [go_sem, seval]
  have hlt : i < ways.length := by simp only [decide_eq_true_eq] at hc; omega
  obtain ⟨way, hway⟩ : ∃ a, ways[i]? = some a := ⟨ways[i], by simp [hlt]⟩
  have hri := hrow i way hway
  have hwy := hways.1 way (List.mem_of_getElem? hway)
  have hft := fitW_take (x := x) (y := y) (w := w) (h := h) hway
  rw [h2, Bool.true_and] at hft
  have hall : fitW x y w h ways = true → way.all (fitP x y w h) = true := fun hh => by
    unfold fitW at hh; rw [List.all_eq_true] at hh; exact hh way (List.mem_of_getElem? hway)
  refine gblk ?_
  refine gt tabOk dpW [((3, 0), (3, 0))] [3, 11, 28, 29, 30] rfl ?_; simp only [go_sem, seval, Int.toNat_natCast, hri, encW]
  refine ⟨by omega, ?_⟩
  refine gt tabOk dpW [((3, 0), (3, 0))] [3, 28, 29, 30, 34, 35, 36] rfl ?_; simp only [go_sem, seval]
  have hrow2 : ∀ i a, way[i]? = some a → rowsF encP way i = encP a := fun i a h => rowsF_some h
  generalize rowsF encP way = row2 at hrow2
  refine gloop1 (fun j : Nat => St.m 66 [(3, .c (.ptr (3, 0) 0)), (28, .c (.dat (.sl 1 ways.length row))), (29, .int ways.length), (30, .int i), (34, .c (.dat (.sl 2 way.length row2))), (35, .int way.length), (36, .int j)] [((3, 0), some (.box [.val (.int .i64 x), .val (.int .i64 y), .val (.int .i64 w), .val (.int .i64 h)]))])
    (fun j => j ≤ way.length ∧ (way.take j).all (fitP x y w h) = true) (fun j => way.length - j) 0 (sub_eq rfl) ⟨by simp, by simp⟩ ?_
  rintro j ⟨g1, g2⟩
  simp only [go_sem, seval]
  refine gt tabOk dpW [((3, 0), (3, 0))] [3, 28, 29, 30, 34, 35, 36, 37] rfl ?_; simp only [go_sem, seval]
  refine gif2 rfl (fun hc => ?_) (fun hc => ?_)
  rotate_left
  ·
    have hj : j = way.length := by simp only [decide_eq_false_iff_not] at hc; omega
    subst hj
    rw [List.take_length] at g2
    simp only [go_sem, seval]
    refine gt1 tabOk dpW [((3, 0), (3, 0))] [3, 28, 29, 30] rfl ?_; simp only [go_sem, seval]
    rw [wrapN (n := i) (by omega)]
    exact ⟨i + 1, ⟨by omega, by rw [hft, g2]⟩, by omega, sub_eq rfl⟩
  have hlt2 : j < way.length := by simp only [decide_eq_true_eq] at hc; omega
  obtain ⟨a, ha⟩ : ∃ a, way[j]? = some a := ⟨way[j], by simp [hlt2]⟩
  have hrj := hrow2 j a ha
  have hst : (way.take (j + 1)).all (fitP x y w h) = fitP x y w h a := by rw [List.take_add_one, ha]; simp [g2]
  refine gblk ?_
  refine gt tabOk dpW [((3, 0), (3, 0)), ((13, 0), (13, 0))] [3, 13, 28, 29, 30, 34, 35, 36] rfl ?_; simp only [go_sem, seval, Int.toNat_natCast, hrj, encP]
  refine ⟨by omega, ?_⟩
  refine gtc0 tabOk dpW (St.m 66 [(3, .c (.ptr (3, 0) 0)), (28, .c (.dat (.sl 1 ways.length row))), (29, .int ways.length), (30, .int i), (34, .c (.dat (.sl 2 way.length row2))), (35, .int way.length), (36, .int j), (63, .bool (!(fitP x y w h a)))] [((3, 0), some (.box [.val (.int .i64 x), .val (.int .i64 y), .val (.int .i64 w), .val (.int .i64 h)]))]) [((3, 0), (3, 0))] [3, 28, 29, 30, 34, 35, 36, 63] rfl ?_ ?_
  · simp only [go_sem, seval]
    rw [wrapI (x := x + w) (by omega) (by omega)]
    refine good_call (c20 ..) ?_; simp only [go_sem, seval]
    refine ⟨fun k1 => ?_, fun k1 => ?_⟩
    · rw [wrapI (x := y + h) (by omega) (by omega)]
      refine good_call (c20 ..) ?_; simp only [go_sem, seval]
      unfold fitP
      rw [show inB a.1 x (x + w) = true by simpa using k1]
      rfl
    · unfold fitP
      rw [show inB a.1 x (x + w) = false by simpa using k1]
      rfl
  refine awp_cond rfl (fun hc => ?_) (fun hc => ?_)
  ·
    have hf : fitW x y w h ways = false := by
      cases hh : fitW x y w h ways with
      | false => rfl
      | true =>
        have := hall hh
        rw [List.all_eq_true] at this
        have := this a (List.mem_of_getElem? ha)
        rw [this] at hc; simp at hc
    rw [hf] at hfit
    subst hfit
    refine gt tabOk dpW [] [4, 5] rfl ?_; simp only [go_sem, seval]
    refine awp_ret ?_; simp only [go_sem, seval]
  ·
    have hf : fitP x y w h a = true := by simpa using hc
    refine awp_skip ?_; simp only [go_sem, seval]
    refine gt1 tabOk dpW [((3, 0), (3, 0))] [3, 28, 29, 30, 34, 35, 36] rfl ?_; simp only [go_sem, seval]
    rw [wrapN (n := j) (by omega)]
    exact ⟨j + 1, ⟨by omega, by rw [hst, hf]⟩, by omega, sub_eq rfl⟩
attribute [irreducible] fitsI fitW
end Go.Ax
end

section
set_option maxRecDepth 4000
namespace Go.Ax
open Go Go.Proofs
variable {gl : Gl}

def outB' (x y w h : Int) (q : P2 × P2) : Bool := ((decide (q.1.1 < x) || decide (q.1.2 < y)) || decide (x + w < q.2.1)) || decide (y + h < q.2.2)
def fitX (x y w h : Int) (l : List (List P2)) : Bool := l.all fun way => !(outB' x y w h (bxW way))
def fitsS (s : ByteArray) (x y w h : Int) : Bool × Bool := bif (parseS s).2.2.2 && goodWin x y w h then (fitX x y w h (parseS s).1, true) else (false, false)

theorem fitX_take {x y w h : Int} {l : List (List P2)} {i : Nat} {a : List P2} (ha : l[i]? = some a) : fitX x y w h (l.take (i + 1)) = (fitX x y w h (l.take i) && !(outB' x y w h (bxW a))) := by
  unfold fitX; rw [List.take_add_one, ha]; simp

abbrev fxS (n : Nat) (row : Nat → List D) (x y w h : Int) (i : Nat) : St := St.m 72 [(3, .c (.ptr (3, 0) 0)), (28, .c (.dat (.sl 1 n row))), (29, .int n), (30, .int i)] [((3, 0), some (.box [.val (.int .i64 x), .val (.int .i64 y), .val (.int .i64 w), .val (.int .i64 h)]))]

theorem c6 (s : ByteArray) (x y w h : Int) (hs : s.size < 1000000000000) : Det gl 6 [sA s, .agg [vI x, vI y, vI w, vI h]] [bR (fitsS s x y w h).1, bR (fitsS s x y w h).2] [sA s, .agg [vI x, vI y, vI w, vI h]] := by
  refine acallD (c := bodyOf Tryd.f6) (nt := 72) (rvs := [.tmp 4, .tmp 5]) tabOk ⟨Tryd.f6, Tryd.func6, rfl, rfl, rfl, rfl⟩ rfl ?_
  unfold bodyOf Tryd.f6
  dsimp only
  have hfit : fitsS s x y w h = bif (parseS s).2.2.2 && goodWin x y w h then (fitX x y w h (parseS s).1, true) else (false, false) := rfl
  generalize fitsS s x y w h = R at hfit ⊢
  have c := c9 (gl := gl) s hs
  have hways := parseS_ways s
  generalize parseS s = r at hfit c hways
  obtain ⟨ways, code, ix, ok⟩ := r
  simp only at hfit c hways
  simp only [go_sem, seval]
  refine gt tabOk dpW [((3, 0), (3, 0))] [0, 3] rfl ?_; simp only [go_sem, seval]
  refine gt tabOk dpW [((3, 0), (3, 0))] [3, 6, 9] rfl ?_; simp only [go_sem, seval]
  refine good_call c ?_; simp only [go_sem, seval]
  refine awp_seq ?_
  refine gtc0 tabOk dpW (St.m 72 [(3, .c (.ptr (3, 0) 0)), (6, .c (.dat (.sl 1 ways.length (rowsF encW ways)))), (27, .bool (!(ok && goodWin x y w h)))] [((3, 0), some (.box [.val (.int .i64 x), .val (.int .i64 y), .val (.int .i64 w), .val (.int .i64 h)]))]) [((3, 0), (3, 0))] [3, 6, 27] rfl ?_ ?_
  · simp only [go_sem, seval]
    refine ⟨fun h1 => ?_, fun h1 => ?_⟩
    · have hok : ok = true := by simpa using h1
      subst hok
      refine good_call (c17 ..) ?_; simp only [go_sem, seval]
    · have hok : ok = false := by simpa using h1
      subst hok
      rfl
  refine awp_cond rfl (fun hc => ?_) (fun hc => ?_)
  · have hR : R = (false, false) := by rw [hfit, show (ok && goodWin x y w h) = false by revert hc; cases ok <;> cases goodWin x y w h <;> simp]; rfl
    subst hR
    refine gt tabOk dpW [] [4, 5] rfl ?_; simp only [go_sem, seval]
    refine awp_ret ?_; simp only [go_sem, seval]
  have hok : (ok && goodWin x y w h) = true := by simpa using hc
  rw [hok, cond_true] at hfit
  have hgw : goodWin x y w h = true := by simp only [Bool.and_eq_true] at hok; exact hok.2
  have hb := goodWin_b hgw
  clear hc hok c
  refine awp_skip ?_; simp only [go_sem, seval]
  refine awp_seq ?_
  refine gt tabOk dpW [((3, 0), (3, 0))] [3, 28, 29, 30] rfl ?_; simp only [go_sem, seval]
  have hrow : ∀ i a, ways[i]? = some a → rowsF encW ways i = encW a := fun i a h => rowsF_some h
  have hwl := hways.2
  generalize rowsF encW ways = row at hrow
  refine gloop1 (fun i : Nat => fxS ways.length row x y w h i) (fun i => i ≤ ways.length ∧ fitX x y w h (ways.take i) = true) (fun i => ways.length - i) 0 (sub_eq rfl) ⟨by simp, by simp [fitX]⟩ ?_
  rintro i ⟨h1, h2⟩
  refine gt tabOk dpW [((3, 0), (3, 0))] [3, 28, 29, 30, 31] rfl ?_; simp only [go_sem, seval]
  refine gif2 rfl (fun hc => ?_) (fun hc => ?_)
  rotate_left
  ·
    have hi : i = ways.length := by simp only [decide_eq_false_iff_not] at hc; omega
    subst hi
    rw [List.take_length] at h2
    rw [h2] at hfit
    subst hfit
    simp only [go_sem, seval]
    refine gt tabOk dpW [] [4, 5] rfl ?_; simp only [go_sem, seval]
    refine awp_ret ?_; simp only [go_sem, seval]
  have hlt : i < ways.length := by simp only [decide_eq_true_eq] at hc; omega
  obtain ⟨way, hway⟩ : ∃ a, ways[i]? = some a := ⟨ways[i], by simp [hlt]⟩
  have hri := hrow i way hway
  have hwy := hways.1 way (List.mem_of_getElem? hway)
  have hft := fitX_take (x := x) (y := y) (w := w) (h := h) hway
  rw [h2, Bool.true_and] at hft
  have hall : fitX x y w h ways = true → outB' x y w h (bxW way) = false := fun hh => by
    unfold fitX at hh; rw [List.all_eq_true] at hh; simpa using hh way (List.mem_of_getElem? hway)
  have cb := c18 (gl := gl) way (by omega) (by omega)
  generalize bxW way = q at hft hall cb
  refine gblk ?_
  refine gt tabOk dpW [((3, 0), (3, 0))] [3, 11, 28, 29, 30] rfl ?_; simp only [go_sem, seval, Int.toNat_natCast, hri, encW]
  refine ⟨by omega, ?_⟩
  refine gt tabOk dpW [((3, 0), (3, 0)), ((12, 0), (12, 0)), ((13, 0), (13, 0))] [3, 12, 13, 28, 29, 30] rfl ?_; simp only [go_sem, seval]
  refine good_call cb ?_; simp only [go_sem, seval]
  refine gtc0 tabOk dpW (St.m 72 [(3, .c (.ptr (3, 0) 0)), (28, .c (.dat (.sl 1 ways.length row))), (29, .int ways.length), (30, .int i), (70, .bool (outB' x y w h q))] [((3, 0), some (.box [.val (.int .i64 x), .val (.int .i64 y), .val (.int .i64 w), .val (.int .i64 h)]))]) [((3, 0), (3, 0))] [3, 28, 29, 30, 70] rfl ?_ ?_
  · simp only [go_sem, seval]
    rw [wrapI (x := x + w) (by omega) (by omega), wrapI (x := y + h) (by omega) (by omega)]
    refine ⟨fun k1 => ⟨fun k2 => ⟨fun k3 => ?_, fun k3 => ?_⟩, fun k2 => ?_⟩, fun k1 => ?_⟩
    · simp only [outB', k1, k2, k3, Bool.false_or]
    · simp only [outB', k1, k2, k3, Bool.false_or, Bool.true_or]
    · simp only [outB', k1, k2, Bool.false_or, Bool.true_or]
    · simp only [outB', k1, Bool.true_or]
  refine awp_cond rfl (fun hc => ?_) (fun hc => ?_)
  ·
    have hf : fitX x y w h ways = false := by
      cases hh : fitX x y w h ways with
      | false => rfl
      | true => rw [hall hh] at hc; simp at hc
    rw [hf] at hfit
    subst hfit
    refine gt tabOk dpW [] [4, 5] rfl ?_; simp only [go_sem, seval]
    refine awp_ret ?_; simp only [go_sem, seval]
  ·
    refine awp_skip ?_; simp only [go_sem, seval]
    refine gt1 tabOk dpW [((3, 0), (3, 0))] [3, 28, 29, 30] rfl ?_; simp only [go_sem, seval]
    rw [wrapN (n := i) (by omega)]
    exact ⟨i + 1, ⟨by omega, by rw [hft, hc]; rfl⟩, by omega, sub_eq rfl⟩

theorem lo_lt {a b x : Int} : (loI a b < x) ↔ (a < x ∨ b < x) := by
  unfold loI
  cases hd : decide (a < b) with
  | true => simp only [decide_eq_true_eq] at hd; simp only [cond_true]; omega
  | false => simp only [decide_eq_false_iff_not] at hd; simp only [cond_false]; omega
theorem hi_lt {a b x : Int} : (x < hiI a b) ↔ (x < a ∨ x < b) := by
  unfold hiI
  cases hd : decide (b < a) with
  | true => simp only [decide_eq_true_eq] at hd; simp only [cond_true]; omega
  | false => simp only [decide_eq_false_iff_not] at hd; simp only [cond_false]; omega

theorem out_iff {x y w h : Int} {q : P2 × P2} : outB' x y w h q = true ↔ q.1.1 < x ∨ q.1.2 < y ∨ x + w < q.2.1 ∨ y + h < q.2.2 := by
  unfold outB'
  simp only [Bool.or_eq_true, decide_eq_true_eq]
  constructor
  · rintro (((h | h) | h) | h)
    · exact .inl h
    · exact .inr (.inl h)
    · exact .inr (.inr (.inl h))
    · exact .inr (.inr (.inr h))
  · rintro (h | h | h | h)
    · exact .inl (.inl (.inl h))
    · exact .inl (.inl (.inr h))
    · exact .inl (.inr h)
    · exact .inr h

theorem out_bx1 {x y w h : Int} {q : P2 × P2} {a : P2} : outB' x y w h (bx1 a q) = true ↔ fitP x y w h a = false ∨ outB' x y w h q = true := by
  rw [out_iff, out_iff]
  unfold bx1 fitP inB
  simp only [lo_lt, hi_lt, Bool.and_eq_false_iff, decide_eq_false_iff_not]
  omega

theorem out_bxF {x y w h : Int} : ∀ (l : List P2) (q : P2 × P2), outB' x y w h (bxF l q) = true ↔ l.all (fitP x y w h) = false ∨ outB' x y w h q = true := by
  intro l
  induction l with
  | nil => intro q; simp [bxF]
  | cons a l ih =>
    intro q
    have e : bxF (a :: l) q = bxF l (bx1 a q) := by unfold bxF; rfl
    rw [e, ih, out_bx1, List.all_cons, Bool.and_eq_false_iff]
    constructor
    · rintro (h | h | h)
      · exact .inl (.inr h)
      · exact .inl (.inl h)
      · exact .inr h
    · rintro ((h | h) | h)
      · exact .inr (.inl h)
      · exact .inl h
      · exact .inr (.inr h)

theorem out_way {x y w h : Int} {way : List P2} (hw : 3 ≤ way.length) : (!(outB' x y w h (bxW way))) = way.all (fitP x y w h) := by
  obtain ⟨a, l, rfl⟩ : ∃ a l, way = a :: l := by cases way with
    | nil => simp at hw
    | cons a l => exact ⟨a, l, rfl⟩
  refine bool_dec ?_
  have := out_bxF (x := x) (y := y) (w := w) (h := h) (a :: l) (a, a)
  have e : bxW (a :: l) = bxF (a :: l) (a, a) := by unfold bxW; rfl
  rw [← e] at this
  have e2 : outB' x y w h (a, a) = true ↔ fitP x y w h a = false := by
    rw [out_iff]; unfold fitP inB
    simp only [Bool.and_eq_false_iff, decide_eq_false_iff_not]; omega
  rw [e2] at this
  have e3 : fitP x y w h a = false → (a :: l).all (fitP x y w h) = false := fun h => by rw [List.all_cons, h]; rfl
  cases h1 : outB' x y w h (bxW (a :: l)) with
  | true =>
    rcases this.1 h1 with k | k
    · rw [k]; simp
    · rw [e3 k]; simp
  | false =>
    cases h2 : (a :: l).all (fitP x y w h) with
    | true => simp
    | false => rw [this.2 (.inl h2)] at h1; simp at h1

theorem fit_eq (x y w h : Int) : ∀ (l : List (List P2)), WaysOk 401 l → fitX x y w h l = fitW x y w h l := by
  intro l
  induction l with
  | nil => intro _; unfold fitX fitW; rfl
  | cons a l ih =>
    intro hl
    have := ih fun v hv => hl v (List.mem_cons_of_mem _ hv)
    unfold fitX fitW at this ⊢
    rw [List.all_cons, List.all_cons, this, out_way (hl a (by simp)).1]

theorem fits_eq (s : ByteArray) (x y w h : Int) : fitsS s x y w h = fitsI s x y w h := by
  unfold fitsS fitsI
  rw [parse_eq]
  have := (parseS_ways s).1
  generalize parseS s = r at this
  rw [fit_eq x y w h _ this]
attribute [irreducible] fitsS fitX outB'

theorem c3 (s : ByteArray) (x y w h : Int) : Det gl 3 [sA s, .agg [vI x, vI y, vI w, vI h]] [bR true] [sA s, .agg [vI x, vI y, vI w, vI h]] := by
  refine acallD (c := bodyOf Tryd.f3) (nt := 34) (rvs := [.tmp 4]) tabOk ⟨Tryd.f3, Tryd.func3, rfl, rfl, rfl, rfl⟩ rfl ?_
  unfold bodyOf Tryd.f3
  dsimp only
  simp only [go_sem, seval]
  refine gt tabOk dpW [((3, 0), (3, 0))] [0, 3] rfl ?_; simp only [go_sem, seval]
  refine awp_seq ?_
  refine gt tabOk dpW [((3, 0), (3, 0))] [0, 3, 11] rfl ?_; simp only [go_sem, seval]
  refine awp_cond rfl (fun hc => ?_) (fun hc => ?_)
  ·
    refine gt tabOk dpW [] [4] rfl ?_; simp only [go_sem, seval]
    refine awp_ret ?_; simp only [go_sem, seval]
  ·
    have hs : s.size ≤ 1048576 := by simp only [decide_eq_false_iff_not] at hc; omega
    have e1 := c6 (gl := gl) s x y w h (by omega)
    have e2 := c8 (gl := gl) s x y w h (by omega)
    rw [fits_eq] at e1
    generalize fitsI s x y w h = r at e1 e2
    refine awp_skip ?_; simp only [go_sem, seval]
    refine gt tabOk dpW [((3, 0), (3, 0))] [0, 3, 5, 6] rfl ?_; simp only [go_sem, seval]
    refine good_call (c7 ..) ?_; simp only [go_sem, seval]
    refine good_call e1 ?_; simp only [go_sem, seval]
    refine gt tabOk dpW [] [5, 6, 7, 8] rfl ?_; simp only [go_sem, seval]
    refine good_call (c7 ..) ?_; simp only [go_sem, seval]
    refine good_call e2 ?_; simp only [go_sem, seval]
    refine awp_seq ?_
    refine gt tabOk dpW [] [33] rfl ?_; simp only [go_sem, seval]
    refine awp_cond rfl (fun hc => ?_) (fun hc => ?_)
    · simp at hc
    refine awp_skip ?_; simp only [go_sem, seval]
    refine gt tabOk dpW [] [4] rfl ?_; simp only [go_sem, seval]
    refine awp_ret ?_; simp only [go_sem, seval]
end Go.Ax
end
