/- The parser of the reference, each function once. -/
import Derived.Test.YtgjkcoifgdmmbaaDoorPD
set_option linter.unusedSimpArgs false
set_option linter.unusedVariables false
section
set_option maxRecDepth 4000
namespace Go.Ax
open Go Go.Proofs
variable {gl : Gl}

structure SS where
  pos : Nat
  ways : List (List P2)
  way : List P2
  code : Int

abbrev spA (ws : List ByteArray) (p : SS) : Arg := .xbox [.own true 1 ws.length (rowsF encS ws), .fz (vI p.pos), .own true 1 p.ways.length (rowsF encW p.ways), .own true 2 p.way.length (rowsF encP p.way), .fz (vI p.code)]
abbrev spO (ws : List ByteArray) (p : SS) : List (Id × Option Obj) := [((2000000, 0), some (.box [.own (2000000, 1), .val (.int .i64 p.pos), .own (2000000, 3), .own (2000000, 4), .val (.int .i64 p.code)])), ((2000000, 1), some (.sl true 1 ws.length (rowsF encS ws) 0)), ((2000000, 3), some (.sl true 1 p.ways.length (rowsF encW p.ways) 0)), ((2000000, 4), some (.sl true 2 p.way.length (rowsF encP p.way) 0))]

def numS (ws : List ByteArray) (p : SS) : Int × SS :=
  bif decide (p.code ≠ 0) then (0, p) else bif (pnum ws p.pos).2 then ((pnum ws p.pos).1, { p with pos := p.pos + 1 }) else (0, { p with code := 3 })

def ptS (p : SS) (a : P2) : SS :=
  bif decide (p.code ≠ 0) then p else bif goodPt a.1 a.2 then { p with way := p.way ++ [a] } else { p with code := 6, pos := p.pos - 1 }

theorem pnum_len {ws : List ByteArray} {i : Nat} (h : i = ws.length) : pnum ws i = (0, false) := by unfold pnum; simp [h]
theorem pnum_read {ws : List ByteArray} {i : Nat} (h : i < ws.length) : pnum ws i = readNum (wAt ws i) := by unfold pnum; simp [show ¬ i = ws.length by omega]

theorem c34 {ws : List ByteArray} (hw : WsOk ws) (p : SS) (hp : p.pos ≤ ws.length) : Det gl 34 [spA ws p] [iR (numS ws p).1] [spA ws (numS ws p).2] := by
  refine acallD (c := bodyOf Tryd.f34) (nt := 50) (rvs := [.tmp 2]) tabOk ⟨Tryd.f34, Tryd.func34, rfl, rfl, rfl, rfl⟩ rfl ?_
  unfold bodyOf Tryd.f34
  dsimp only
  obtain ⟨pos, ways, way, code⟩ := p
  simp only at hp
  have h1 := hw.len
  simp only [go_sem, seval]
  refine gt tabOk dpW psR [0] rfl ?_; simp only [go_sem, seval]
  refine awp_seq ?_
  refine gt tabOk dpW psR [0, 9] rfl ?_; simp only [go_sem, seval]
  refine awp_cond rfl (fun hc => ?_) (fun hc => ?_)
  ·
    have hn : numS ws ⟨pos, ways, way, code⟩ = (0, ⟨pos, ways, way, code⟩) := by simp only [numS, ne_eq, hc, cond_true]
    refine gt tabOk dpW psR [2] rfl ?_; simp only [go_sem, seval]
    refine awp_ret ?_; simp only [go_sem, seval, sameRow, hn]
  ·
    have hn : numS ws ⟨pos, ways, way, code⟩ = bif (pnum ws pos).2 then ((pnum ws pos).1, ⟨pos + 1, ways, way, code⟩) else (0, ⟨pos, ways, way, 3⟩) := by simp only [numS, ne_eq, hc, cond_false]
    refine awp_skip ?_; simp only [go_sem, seval]
    refine awp_seq ?_
    refine ge tabOk dpW mixed psR [0, 19] rfl (by kernel_rfl) ?_; simp only [go_sem, seval]
    refine awp_cond rfl (fun hl => ?_) (fun hl => ?_)
    ·
      rw [pnum_len (show pos = ws.length by simp only [decide_eq_true_eq] at hl; omega)] at hn
      refine gt tabOk dpW psR [] rfl ?_; simp only [go_sem, seval]
      refine gt tabOk dpW psR [2] rfl ?_; simp only [go_sem, seval]
      refine awp_ret ?_; simp only [go_sem, seval, sameRow, hn]
    ·
      have hlt : pos < ws.length := by simp only [decide_eq_false_iff_not] at hl; omega
      have hr := row_ws hlt
      have c := c52 (gl := gl) (wAt ws pos) (by have := hw.at hlt; omega)
      rw [← pnum_read hlt] at c
      generalize pnum ws pos = r at hn c
      obtain ⟨n, b⟩ := r
      refine awp_skip ?_; simp only [go_sem, seval]
      refine ge tabOk dpW mixed psR [0, 3, 4] rfl (by kernel_rfl) ?_; simp only [go_sem, seval, Int.toNat_natCast, hr]
      refine ⟨by omega, ?_⟩
      refine good_call c ?_; simp only [go_sem, seval]
      refine awp_seq ?_
      refine gt tabOk dpW psR [0, 3, 38] rfl ?_; simp only [go_sem, seval]
      refine awp_cond rfl (fun hb => ?_) (fun hb => ?_)
      ·
        have hb' : b = false := by simpa using hb
        subst hb'
        refine gt tabOk dpW psR [] rfl ?_; simp only [go_sem, seval]
        refine gt tabOk dpW psR [2] rfl ?_; simp only [go_sem, seval]
        refine awp_ret ?_; simp only [go_sem, seval, sameRow, hn]
      ·
        have hb' : b = true := by simpa using hb
        subst hb'
        refine awp_skip ?_; simp only [go_sem, seval]
        refine gt tabOk dpW psR [3] rfl ?_; simp only [go_sem, seval]
        rw [wrapN (n := pos) (by omega)]
        refine gt tabOk dpW psR [2] rfl ?_; simp only [go_sem, seval]
        refine awp_ret ?_; simp only [go_sem, seval, sameRow, hn]

theorem c35 (ws : List ByteArray) (p : SS) (a : P2) (hp : 0 < p.pos) (hp2 : p.pos < 1000000) (hw : p.way.length < 1000) : Det gl 35 [spA ws p, .agg [vI a.1, vI a.2]] [] [spA ws (ptS p a), .agg [vI a.1, vI a.2]] := by
  refine acallD (c := bodyOf Tryd.f35) (nt := 32) (rvs := []) tabOk ⟨Tryd.f35, Tryd.func35, rfl, rfl, rfl, rfl⟩ rfl ?_
  unfold bodyOf Tryd.f35
  dsimp only
  obtain ⟨pos, ways, way, code⟩ := p
  simp only at hp hp2 hw
  simp only [go_sem, seval]
  refine gt tabOk dpW (((3, 0), (3, 0)) :: psR) [0, 3] rfl ?_; simp only [go_sem, seval]
  refine awp_seq ?_
  refine gt tabOk dpW (((3, 0), (3, 0)) :: psR) [0, 3, 8] rfl ?_; simp only [go_sem, seval]
  refine awp_cond rfl (fun hc => ?_) (fun hc => ?_)
  ·
    have hn : ptS ⟨pos, ways, way, code⟩ a = ⟨pos, ways, way, code⟩ := by simp only [ptS, ne_eq, hc, cond_true]
    refine awp_ret ?_; simp only [go_sem, seval, sameRow, hn]
  ·
    refine awp_skip ?_; simp only [go_sem, seval]
    refine awp_seq ?_
    refine gt tabOk dpW (((3, 0), (3, 0)) :: psR) [0, 3, 11] rfl ?_; simp only [go_sem, seval]
    refine good_call (c43 a.1 a.2) ?_; simp only [go_sem, seval]
    refine awp_cond rfl (fun hg => ?_) (fun hg => ?_)
    ·
      have hn : ptS ⟨pos, ways, way, code⟩ a = ⟨pos - 1, ways, way, 6⟩ := by simp only [ptS, ne_eq, hc, cond_false, show goodPt a.1 a.2 = false by simpa using hg]
      refine gt tabOk dpW psR [0] rfl ?_; simp only [go_sem, seval]
      refine gt tabOk dpW psR [] rfl ?_; simp only [go_sem, seval]
      rw [wrapL hp (by omega)]
      refine awp_ret ?_; simp only [go_sem, seval, sameRow, hn]
    ·
      have hn : ptS ⟨pos, ways, way, code⟩ a = ⟨pos, ways, way ++ [a], code⟩ := by simp only [ptS, ne_eq, hc, cond_false, show goodPt a.1 a.2 = true by simpa using hg, cond_true]
      have hrow : IsRow encP (way ++ [a]) (way.length + 1) (catRow way.length (rowsF encP way) (setRow (fun x => [D.v (Value.int IntKind.i64 0), D.v (Value.int IntKind.i64 0)]) 0 [D.v (Value.int IntKind.i64 a.1), D.v (Value.int IntKind.i64 a.2)])) :=
        IsRow.app (isRow_F encP way) a rfl
      have hlen := hrow.1
      refine awp_skip ?_; simp only [go_sem, seval]
      refine gd1 tabOk dpW mixed [((2000000, 0), (2000000, 0)), ((2000000, 1), (2000000, 1)), ((2000000, 3), (2000000, 3)), ((29, 0), (600000, 4))] [] [(2, 6), (3, 6), (4, 6)] rfl (by kernel_rfl) ?_; simp only [go_sem, seval, sameRow, hn, ← hlen]
      exact ⟨by simp only [small]; omega, hrow.same⟩
attribute [irreducible] numS ptS
end Go.Ax
end

section
set_option maxRecDepth 4000
namespace Go.Ax
open Go Go.Proofs
variable {gl : Gl}

def k8s : List ByteArray := [⟨#[77]⟩, ⟨#[76]⟩, ⟨#[108]⟩, ⟨#[72]⟩, ⟨#[104]⟩, ⟨#[86]⟩, ⟨#[118]⟩, ⟨#[90]⟩]
def anyK (w : ByteArray) (l : List ByteArray) : Bool := l.any fun k => decide (k = w)

theorem anyK_succ {w x : ByteArray} {l : List ByteArray} {i : Nat} (h : l[i]? = some x) : anyK w (l.take (i + 1)) = (anyK w (l.take i) || decide (x = w)) := by
  unfold anyK
  rw [List.take_add_one, h]; simp

def manyS (w : ByteArray) (p : SS) : Bool :=
  (decide (w = ⟨#[77]⟩) && decide ((p.ways.length : Int) = 4)) || ((decide (w = ⟨#[90]⟩) && decide ((p.way.length : Int) < 3)) || (decide (w ≠ ⟨#[90]⟩) && decide ((p.way.length : Int) = 12)))

def codeS (w : ByteArray) (p : SS) : Int :=
  bif !(anyK w k8s) then 2 else bif (decide (0 < (p.way.length : Int)) == decide (w = ⟨#[77]⟩)) then 4 else bif manyS w p then 5 else 0

def two2 (ws : List ByteArray) (p : SS) (l : P2) : SS :=
  ptS (numS ws (numS ws p).2).2 (l.1 + (numS ws p).1, l.2 + (numS ws (numS ws p).2).1)

def armS (ws : List ByteArray) (w : ByteArray) (l : P2) (p : SS) : SS :=
  bif decide (w = ⟨#[77]⟩) || decide (w = ⟨#[76]⟩) then two2 ws p (0, 0) else
  bif decide (w = ⟨#[108]⟩) then two2 ws p l else
  bif decide (w = ⟨#[72]⟩) then ptS (numS ws p).2 ((numS ws p).1, l.2) else
  bif decide (w = ⟨#[104]⟩) then ptS (numS ws p).2 (l.1 + (numS ws p).1, l.2) else
  bif decide (w = ⟨#[86]⟩) then ptS (numS ws p).2 (l.1, (numS ws p).1) else
  bif decide (w = ⟨#[118]⟩) then ptS (numS ws p).2 (l.1, l.2 + (numS ws p).1) else
  ⟨p.pos, p.ways ++ [p.way], [], p.code⟩

def cmdS (ws : List ByteArray) (p : SS) : SS :=
  bif decide (codeS (wAt ws p.pos) p ≠ 0) then { p with code := codeS (wAt ws p.pos) p } else armS ws (wAt ws p.pos) (lastP p.way) { p with pos := p.pos + 1 }

theorem numS_keep (ws : List ByteArray) (p : SS) (hp : p.pos ≤ ws.length) : (numS ws p).2.ways = p.ways ∧ (numS ws p).2.way = p.way ∧ p.pos ≤ (numS ws p).2.pos ∧ (numS ws p).2.pos ≤ ws.length ∧ -10000 ≤ (numS ws p).1 ∧ (numS ws p).1 ≤ 10000 := by
  unfold numS
  cases decide (p.code ≠ 0) with
  | true => simp; omega
  | false =>
    simp only [cond_false]
    cases hb : (pnum ws p.pos).2 with
    | true =>
      have := pnum_lt hb hp
      have := pnum_bound ws p.pos
      simp; omega
    | false => simp; omega

abbrev spQ (ws : List ByteArray) (p : SS) : List (Id × Option Obj) := [((2000000, 0), some (.box [.own (600000, 1), .val (.int .i64 p.pos), .own (600000, 3), .own (600000, 4), .val (.int .i64 p.code)])), ((600000, 1), some (.sl true 1 ws.length (rowsF encS ws) 0)), ((600000, 3), some (.sl true 1 p.ways.length (rowsF encW p.ways) 0)), ((600000, 4), some (.sl true 2 p.way.length (rowsF encP p.way) 0))]

theorem c22 {ws : List ByteArray} (hw : WsOk ws) (p : SS) (hp : p.pos < ws.length) (h0 : p.code = 0) (h2 : p.ways.length ≤ 1000) (h3 : p.way.length ≤ 500) (h4 : ∀ q, q ∈ p.way → SmallP 1000 q) : Det gl 22 [spA ws p] [] [spA ws (cmdS ws p)] := by
  refine acallD (c := bodyOf Tryd.f22) (nt := 203) (rvs := []) tabOk ⟨Tryd.f22, Tryd.func22, rfl, rfl, rfl, rfl⟩ rfl ?_
  unfold bodyOf Tryd.f22
  dsimp only
  obtain ⟨pos, ways, way, code⟩ := p
  simp only at hp h0 h2 h3 h4
  subst h0
  have h1 := hw.len
  have hr := row_ws hp
  simp only [go_sem, seval]
  refine ge tabOk dpW mixed rnA [0, 2] rfl (by kernel_rfl) ?_; simp only [go_sem, seval, Int.toNat_natCast, hr]
  refine ⟨by omega, ?_⟩
  generalize hwd : wAt ws pos = w
  refine gt tabOk dpW rnI [0, 2, 3] rfl ?_; simp only [go_sem, seval]
  refine gt tabOk dpW rnI [0, 2, 3, 4] rfl ?_; simp only [go_sem, seval]
  refine gcut0 (St.m 203 [(0, .c (.ptr (2000000, 0) 0)), (2, .val (.string w)), (3, .bool (decide (0 < (way.length : Int)))), (4, .bool (anyK w k8s))] (spQ ws ⟨pos, ways, way, 0⟩)) ?_ ?_
  · refine gt tabOk dpW rnI [0, 2, 3, 4, 28, 29, 30] rfl ?_; simp only [go_sem, seval]
    have hrow : ∀ i x, k8s[i]? = some x → (setRow (setRow (setRow (setRow (setRow (setRow (setRow (setRow (fun x => [D.v (Value.string ⟨#[]⟩)]) 0 [D.v (Value.string ⟨#[77]⟩)]) 1 [D.v (Value.string ⟨#[76]⟩)]) 2 [D.v (Value.string ⟨#[108]⟩)]) 3 [D.v (Value.string ⟨#[72]⟩)]) 4 [D.v (Value.string ⟨#[104]⟩)]) 5 [D.v (Value.string ⟨#[86]⟩)]) 6 [D.v (Value.string ⟨#[118]⟩)]) 7 [D.v (Value.string ⟨#[90]⟩)]) i = [D.v (.string x)] := fun i x h => by
      rcases i with _ | _ | _ | _ | _ | _ | _ | _ | i <;> simp only [k8s, List.getElem?_cons_zero, List.getElem?_cons_succ, Option.some.injEq, List.getElem?_nil, reduceCtorEq] at h <;> subst h <;> rfl
    generalize (setRow _ 7 _ : Nat → List D) = row0 at hrow ⊢
    refine gloop1 (fun i : Nat => St.m 203 [(0, .c (.ptr (2000000, 0) 0)), (2, .val (.string w)), (3, .bool (decide (0 < (way.length : Int)))), (4, .bool (anyK w (k8s.take i))), (28, .c (.dat (.sl 1 8 row0))), (29, .int 8), (30, .int i)] (spQ ws ⟨pos, ways, way, 0⟩)) (fun i => i ≤ 8) (fun i => 8 - i) 0 (sub_eq rfl) (by decide) ?_
    intro i hi
    simp only [go_sem, seval]
    refine gt tabOk dpW rnI [0, 2, 3, 4, 28, 29, 30, 31] rfl ?_; simp only [go_sem, seval]
    refine gif2 rfl (fun hc => ?_) (fun hc => ?_)
    rotate_left
    ·
      have : i = 8 := by simp only [decide_eq_false_iff_not] at hc; omega
      subst this
      simp only [go_sem, seval]
      exact sub_norm' rnI [0, 2, 3, 4] rfl (by simp only [go_sem, seval]; rfl)
    have hlt : i < 8 := by simp only [decide_eq_true_eq] at hc; omega
    obtain ⟨x, hx⟩ : ∃ x, k8s[i]? = some x := ⟨k8s[i]'(by simpa [k8s] using hlt), by simp⟩
    have hri := hrow i x hx
    have hst := anyK_succ (w := w) hx
    refine gblk ?_
    refine gt tabOk dpW rnI [0, 2, 3, 4, 6, 28, 29, 30] rfl ?_; simp only [go_sem, seval, Int.toNat_natCast, hri]
    refine ⟨by omega, ?_⟩
    refine gtc01 tabOk dpW (St.m 203 [(0, .c (.ptr (2000000, 0) 0)), (2, .val (.string w)), (3, .bool (decide (0 < (way.length : Int)))), (4, .bool (anyK w (k8s.take (i + 1)))), (28, .c (.dat (.sl 1 8 row0))), (29, .int 8), (30, .int i)] (spQ ws ⟨pos, ways, way, 0⟩)) rnI [0, 2, 3, 4, 28, 29, 30] rfl ?_ ?_
    · simp only [go_sem, seval]
      exact ⟨fun h => by rw [hst, h]; rfl, fun h => by rw [hst, h]; rfl⟩
    simp only [go_sem, seval]
    refine gt1 tabOk dpW rnI [0, 2, 3, 4, 28, 29, 30] rfl ?_; simp only [go_sem, seval]
    rw [wrapN (n := i) (by omega)]
    exact ⟨i + 1, by omega, by omega, sub_eq rfl⟩
  generalize hQ : (FnD (EE gl) [] [spA ws ⟨pos, ways, way, 0⟩] [] [spA ws (cmdS ws ⟨pos, ways, way, 0⟩)]) = QQ
  refine gcut0 (St.m 203 [(0, .c (.ptr (2000000, 0) 0)), (2, .val (.string w)), (3, .bool (decide (0 < (way.length : Int))))] (spQ ws ⟨pos, ways, way, codeS w ⟨pos, ways, way, 0⟩⟩)) ?_ ?_
  · refine awp_block ?_
    refine gt tabOk dpW rnI [0, 2, 3, 41] rfl ?_; simp only [go_sem, seval]
    refine awp_cond rfl (fun hc => ?_) (fun hc => ?_)
    · refine gt1 tabOk dpW rnI [0, 2, 3] rfl ?_; simp only [go_sem, seval]
      exact sub_eq (by simp only [codeS, hc, cond_true])
    · refine gt tabOk dpW rnI [0, 2, 3, 47] rfl ?_; simp only [go_sem, seval]
      refine awp_cond rfl (fun hc2 => ?_) (fun hc2 => ?_)
      · refine gt1 tabOk dpW rnI [0, 2, 3] rfl ?_; simp only [go_sem, seval]
        exact sub_eq (by simp only [codeS, hc, hc2, cond_true, cond_false])
      · refine gcut0 (St.m 203 [(0, .c (.ptr (2000000, 0) 0)), (2, .val (.string w)), (3, .bool (decide (0 < (way.length : Int)))), (55, .bool (manyS w ⟨pos, ways, way, 0⟩))] (spQ ws ⟨pos, ways, way, 0⟩)) ?_ ?_
        · refine gtc0 tabOk dpW (St.m 203 [(0, .c (.ptr (2000000, 0) 0)), (2, .val (.string w)), (3, .bool (decide (0 < (way.length : Int)))), (55, .bool (decide (w = ⟨#[77]⟩) && decide ((ways.length : Int) = 4)))] (spQ ws ⟨pos, ways, way, 0⟩)) rnI [0, 2, 3, 55] rfl ?_ ?_
          · simp only [go_sem, seval]
            exact ⟨fun h => by rw [h]; rfl, fun h => by rw [h]; rfl⟩
          refine awp_cond rfl (fun hc3 => ?_) (fun hc3 => ?_)
          · refine awp_skip ?_; simp only [go_sem, seval]
            exact sub_eq (by simp only [manyS, hc3, Bool.true_or])
          · refine gtc0 tabOk dpW (St.m 203 [(0, .c (.ptr (2000000, 0) 0)), (2, .val (.string w)), (3, .bool (decide (0 < (way.length : Int)))), (55, .bool (decide (w = ⟨#[90]⟩) && decide ((way.length : Int) < 3)))] (spQ ws ⟨pos, ways, way, 0⟩)) rnI [0, 2, 3, 55] rfl ?_ ?_
            · simp only [go_sem, seval]
              exact ⟨fun h => by rw [h]; rfl, fun h => by rw [h]; rfl⟩
            refine awp_cond rfl (fun hc4 => ?_) (fun hc4 => ?_)
            · refine awp_skip ?_; simp only [go_sem, seval]
              exact sub_eq (by simp only [manyS, hc3, hc4, Bool.true_or, Bool.false_or])
            · refine gt1 tabOk dpW rnI [0, 2, 3, 55] rfl ?_; simp only [go_sem, seval]
              refine ⟨fun h1 => sub_eq ?_, fun h1 => sub_eq ?_⟩
              · simp only [manyS, ne_eq, hc3, hc4, h1, Bool.false_or, Bool.true_and]
              · simp only [manyS, ne_eq, hc3, hc4, h1, Bool.false_or, Bool.false_and]
        · refine awp_cond rfl (fun hc3 => ?_) (fun hc3 => ?_)
          · refine gt1 tabOk dpW rnI [0, 2, 3] rfl ?_; simp only [go_sem, seval]
            exact sub_eq (by simp only [codeS, hc, hc2, hc3, cond_true, cond_false])
          · refine awp_skip ?_; simp only [go_sem, seval]
            exact sub_norm' rnI [0, 2, 3] rfl (by simp only [go_sem, seval, codeS, hc, hc2, hc3])
  have hcmd : cmdS ws ⟨pos, ways, way, 0⟩ = bif decide (¬ codeS w ⟨pos, ways, way, 0⟩ = 0) then ⟨pos, ways, way, codeS w ⟨pos, ways, way, 0⟩⟩ else armS ws w (lastP way) ⟨pos + 1, ways, way, 0⟩ := by simp only [cmdS, hwd, ne_eq]
  generalize codeS w ⟨pos, ways, way, 0⟩ = cd at hcmd
  refine awp_seq ?_
  refine gt tabOk dpW rnI [0, 2, 3, 93] rfl ?_; simp only [go_sem, seval]
  refine awp_cond rfl (fun hc => ?_) (fun hc => ?_)
  · rw [hc, cond_true] at hcmd
    refine awp_ret ?_; simp only [go_sem, seval, ← hQ, sameRow, hcmd]
  rw [hc, cond_false] at hcmd
  have hcd : cd = 0 := by simpa using hc
  subst hcd
  clear hc
  refine awp_skip ?_; simp only [go_sem, seval]
  refine gt tabOk dpW rnI [0, 2, 3] rfl ?_; simp only [go_sem, seval]
  rw [wrapN (n := pos) (by omega)]
  refine gt tabOk dpW (((7, 0), (7, 0)) :: rnI) [0, 2, 3, 7] rfl ?_; simp only [go_sem, seval]
  have hls := lastP_small (b := 1000) (by decide) h4
  have hrl := fun h => row_last (way := way) h
  have hl0 : way.length = 0 → lastP way = (0, 0) := fun h => by
    have : way = [] := List.length_eq_zero_iff.1 h
    subst this; unfold lastP; rfl
  generalize lastP way = l at hls hrl hl0 hcmd
  obtain ⟨lx, ly⟩ := l
  simp only [SmallP] at hls hrl
  refine gcut0 (St.m 203 [(0, .c (.ptr (2000000, 0) 0)), (2, .val (.string w)), (7, .c (.ptr (7, 0) 0))] (((7, 0), some (.box [.val (.int .i64 lx), .val (.int .i64 ly)])) :: spQ ws ⟨pos + 1, ways, way, 0⟩)) ?_ ?_
  · refine gt tabOk dpW (((7, 0), (7, 0)) :: rnI) [0, 2, 7, 102] rfl ?_; simp only [go_sem, seval]
    refine awp_cond rfl (fun hc => ?_) (fun hc => ?_)
    · have hpos : 0 < way.length := by simp only [decide_eq_true_eq] at hc; omega
      have hr := hrl hpos
      refine ge1 tabOk dpW mixed (((7, 0), (7, 0)) :: rnI) [0, 2, 7] rfl (by kernel_rfl) ?_; simp only [go_sem, seval, wrapL hpos (show way.length < 4611686018427387904 by omega), Int.toNat_natCast, hr]
      exact ⟨by omega, sub_refl⟩
    · have hz : way.length = 0 := by simp only [decide_eq_false_iff_not] at hc; omega
      have := hl0 hz
      simp only [Prod.mk.injEq] at this
      obtain ⟨rfl, rfl⟩ := this
      refine awp_skip ?_; simp only [go_sem, seval]
      exact sub_norm' (((7, 0), (7, 0)) :: rnI) [0, 2, 7] rfl (by simp only [go_sem, seval])
  refine gt tabOk dpW (((7, 0), (7, 0)) :: rnI) [0, 7, 115] rfl ?_; simp only [go_sem, seval]
  have k1 := numS_keep ws ⟨pos + 1, ways, way, 0⟩ (by simp only; omega)
  have c1 := c34 (gl := gl) hw ⟨pos + 1, ways, way, 0⟩ (by simp only; omega)
  simp only at k1 c1
  have htwo : ∀ l : P2, two2 ws ⟨pos + 1, ways, way, 0⟩ l = ptS (numS ws (numS ws ⟨pos + 1, ways, way, 0⟩).2).2 (l.1 + (numS ws ⟨pos + 1, ways, way, 0⟩).1, l.2 + (numS ws (numS ws ⟨pos + 1, ways, way, 0⟩).2).1) := fun l => rfl
  have harm := hcmd
  unfold armS at harm
  generalize numS ws ⟨pos + 1, ways, way, 0⟩ = r1 at k1 c1 htwo harm
  obtain ⟨x, q⟩ := r1
  simp only at k1 c1 htwo harm
  obtain ⟨ka, kb, kc, kd, ke, kf⟩ := k1
  have k2 := numS_keep ws q kd
  have c2 := c34 (gl := gl) hw q kd
  generalize numS ws q = r2 at k2 c2 htwo
  obtain ⟨y, q2⟩ := r2
  simp only at k2 c2 htwo
  obtain ⟨la, lb, lc, ld, le, lf⟩ := k2
  have hwq : q.way.length < 1000 := by rw [kb]; omega
  have hwq2 : q2.way.length < 1000 := by rw [lb, kb]; omega
  clear hcmd
  refine awp_block ?_
  refine gcut0 (St.m 203 [(0, .c (.ptr (2000000, 0) 0)), (7, .c (.ptr (7, 0) 0)), (115, .val (.string w)), (132, .bool (decide (w = ⟨#[77]⟩) || decide (w = ⟨#[76]⟩)))] (((7, 0), some (.box [.val (.int .i64 lx), .val (.int .i64 ly)])) :: spQ ws ⟨pos + 1, ways, way, 0⟩)) ?_ ?_
  · refine gt tabOk dpW (((7, 0), (7, 0)) :: rnI) [0, 7, 115, 132] rfl ?_; simp only [go_sem, seval]
    refine awp_cond rfl (fun hc => ?_) (fun hc => ?_)
    · refine awp_skip ?_; simp only [go_sem, seval]
      exact sub_eq (by simp only [hc, Bool.true_or])
    · refine gt1 tabOk dpW (((7, 0), (7, 0)) :: rnI) [0, 7, 115, 132] rfl ?_; simp only [go_sem, seval]
      exact sub_eq (by simp only [hc, Bool.false_or])
  refine awp_cond rfl (fun h0 => ?_) (fun h0 => ?_)
  ·
    have hf : cmdS ws ⟨pos, ways, way, 0⟩ = ptS q2 (x, y) := by rw [harm, h0]; simp only [cond_true, htwo, Int.zero_add]
    refine gt tabOk dpW (rnC 136) [0, 8] rfl ?_; simp only [go_sem, seval]
    refine good_call c1 ?_; simp only [go_sem, seval]
    refine gt tabOk dpW (rnC 138) [0, 8, 9] rfl ?_; simp only [go_sem, seval]
    refine good_call c2 ?_; simp only [go_sem, seval]
    refine gt1 tabOk dpW (rnC 143) [] rfl ?_; simp only [go_sem, seval]
    refine good_call (c35 ws q2 (x, y) (by omega) (by omega) hwq2) ?_; simp only [go_sem, seval, ← hQ, sameRow, hf]
  rw [h0, cond_false] at harm
  refine gt tabOk dpW (((7, 0), (7, 0)) :: rnI) [0, 7, 115, 144] rfl ?_; simp only [go_sem, seval]
  refine awp_cond rfl (fun h1 => ?_) (fun h1 => ?_)
  ·
    have hf : cmdS ws ⟨pos, ways, way, 0⟩ = ptS q2 (lx + x, ly + y) := by rw [harm, h1, cond_true, htwo]
    refine gt tabOk dpW (((7, 0), (7, 0)) :: rnC 147) [0, 7, 10] rfl ?_; simp only [go_sem, seval]
    refine good_call c1 ?_; simp only [go_sem, seval]
    refine gt tabOk dpW (((7, 0), (7, 0)) :: rnC 149) [0, 7, 10, 11] rfl ?_; simp only [go_sem, seval]
    refine good_call c2 ?_; simp only [go_sem, seval]
    have w1 : IntKind.i64.wrap (lx + x) = lx + x := wrapI (by omega) (by omega)
    have w2 : IntKind.i64.wrap (ly + y) = ly + y := wrapI (by omega) (by omega)
    refine gt1 tabOk dpW (rnC 160) [] rfl ?_; simp only [go_sem, seval, w1, w2]
    refine good_call (c35 ws q2 (lx + x, ly + y) (by omega) (by omega) hwq2) ?_; simp only [go_sem, seval, ← hQ, sameRow, hf]
  rw [h1, cond_false] at harm
  refine gt tabOk dpW (((7, 0), (7, 0)) :: rnI) [0, 7, 115, 161] rfl ?_; simp only [go_sem, seval]
  refine awp_cond rfl (fun h2 => ?_) (fun h2 => ?_)
  ·
    have hf : cmdS ws ⟨pos, ways, way, 0⟩ = ptS q (x, ly) := by rw [harm, h2, cond_true]
    refine gd1 tabOk dpW mixed (rnC 169) [] [(2, 3), (2, 4)] rfl (by kernel_rfl) ?_; simp only [go_sem, seval]
    refine good_call c1 ?_; simp only [go_sem, seval]
    refine good_call (c35 ws q (x, ly) (by omega) (by omega) hwq) ?_; simp only [go_sem, seval, ← hQ, sameRow, hf]
  rw [h2, cond_false] at harm
  refine gt tabOk dpW (((7, 0), (7, 0)) :: rnI) [0, 7, 115, 170] rfl ?_; simp only [go_sem, seval]
  refine awp_cond rfl (fun h3 => ?_) (fun h3 => ?_)
  ·
    have hf : cmdS ws ⟨pos, ways, way, 0⟩ = ptS q (lx + x, ly) := by rw [harm, h3, cond_true]
    have w1 : IntKind.i64.wrap (lx + x) = lx + x := wrapI (by omega) (by omega)
    refine gd1 tabOk dpW mixed (rnC 181) [] [(1, 4), (2, 4), (4, 6), (4, 7)] rfl (by kernel_rfl) ?_; simp only [go_sem, seval]
    refine good_call c1 ?_; simp only [go_sem, seval, w1]
    refine good_call (c35 ws q (lx + x, ly) (by omega) (by omega) hwq) ?_; simp only [go_sem, seval, ← hQ, sameRow, hf]
  rw [h3, cond_false] at harm
  refine gt tabOk dpW (((7, 0), (7, 0)) :: rnI) [0, 7, 115, 182] rfl ?_; simp only [go_sem, seval]
  refine awp_cond rfl (fun h4 => ?_) (fun h4 => ?_)
  ·
    have hf : cmdS ws ⟨pos, ways, way, 0⟩ = ptS q (lx, x) := by rw [harm, h4, cond_true]
    refine gd1 tabOk dpW mixed (rnC 190) [] [(1, 4), (2, 4)] rfl (by kernel_rfl) ?_; simp only [go_sem, seval]
    refine good_call c1 ?_; simp only [go_sem, seval]
    refine good_call (c35 ws q (lx, x) (by omega) (by omega) hwq) ?_; simp only [go_sem, seval, ← hQ, sameRow, hf]
  rw [h4, cond_false] at harm
  refine gt tabOk dpW (((7, 0), (7, 0)) :: rnI) [0, 7, 191] rfl ?_; simp only [go_sem, seval]
  refine awp_cond rfl (fun h5 => ?_) (fun h5 => ?_)
  ·
    have hf : cmdS ws ⟨pos, ways, way, 0⟩ = ptS q (lx, ly + x) := by rw [harm, h5, cond_true]
    have w1 : IntKind.i64.wrap (ly + x) = ly + x := wrapI (by omega) (by omega)
    refine gd1 tabOk dpW mixed (rnC 202) [] [(1, 6), (2, 6), (3, 6), (4, 6)] rfl (by kernel_rfl) ?_; simp only [go_sem, seval]
    refine good_call c1 ?_; simp only [go_sem, seval, w1]
    refine good_call (c35 ws q (lx, ly + x) (by omega) (by omega) hwq) ?_; simp only [go_sem, seval, ← hQ, sameRow, hf]
  rw [h5, cond_false] at harm
  refine gd tabOk dpW mixed [((2000000, 0), (2000000, 0)), ((600000, 1), (600000, 1)), ((126, 0), (600000, 3))] [0] [(2, 9), (3, 9), (4, 9)] rfl (by kernel_rfl) ?_; simp only [go_sem, seval]
  have hrow : IsRow encW (ways ++ [way]) (ways.length + 1) (catRow ways.length (rowsF encW ways) (setRow (fun x => [D.v (Value.slice none 0 0)]) 0 [D.sl 2 way.length (rowsF encP way)])) :=
    IsRow.app (isRow_F encW ways) way rfl
  have hlen := hrow.1
  refine ⟨by simp only [small]; omega, ?_⟩
  refine gt1 tabOk dpW [((2000000, 0), (2000000, 0)), ((600000, 1), (600000, 1)), ((600000, 3), (600000, 3))] [] rfl ?_; simp only [go_sem, seval, ← hQ, sameRow, harm, ← hlen]
  exact hrow.same
attribute [irreducible] cmdS armS codeS manyS anyK two2
end Go.Ax
end

section
set_option maxRecDepth 4000
namespace Go.Ax
open Go Go.Proofs
variable {gl : Gl}

theorem c21 (s : ByteArray) (hs : s.size < 1000000) : Det gl 21 [sA s] [.one (.own true 1 (words s).length (rowsF encS (words s)))] [sA s] := by
  refine acallD (c := bodyOf Tryd.f21) (nt := 31) (rvs := [.tmp 2]) tabOk ⟨Tryd.f21, Tryd.func21, rfl, rfl, rfl, rfl⟩ rfl ?_
  unfold bodyOf Tryd.f21
  dsimp only
  simp only [go_sem, seval]
  refine gt tabOk dpW [] [0] rfl ?_; simp only [go_sem, seval]
  refine gt tabOk dpW [] [0, 3] rfl ?_; simp only [go_sem, seval]
  refine gt tabOk dpW [] [0, 3, 4] rfl ?_; simp only [go_sem, seval]
  refine awp_seq ?_
  refine gt tabOk dpW [] [0, 3, 4, 5] rfl ?_; simp only [go_sem, seval]
  refine gloop1 (fun x : Nat × Nat × List ByteArray × Nat × (Nat → List D) => St.m 31 [(0, .val (.string s)), (3, .c (.own (600000, 1))), (4, .int x.2.1), (5, .int x.1)] [((600000, 1), some (.sl true 1 x.2.2.2.1 x.2.2.2.2 0))])
    (fun x => x.1 ≤ s.size ∧ x.2.1 ≤ x.1 ∧ IsRow encS x.2.2.1 x.2.2.2.1 x.2.2.2.2 ∧ x.2.2.1.length ≤ x.1 ∧ words s = sw s (s.size - x.1) x.1 x.2.1 x.2.2.1) (fun x => s.size - x.1) (0, 0, [], 0, fun _ => [])
    (sub_trans (sub_adopt 3 (600000, 1) true 1 rfl rfl rfl) (sub_norm' [((600000, 1), (600000, 1))] [0, 3, 4, 5] rfl (by simp only [go_sem, seval])))
    ⟨by simp, by simp, isRow_nil _ _, by simp, by unfold words; rfl⟩ ?_
  rintro ⟨i, a, acc, m, row⟩ ⟨h1, h2, h3, h4, h5⟩
  simp only at h1 h2 h3 h4 h5
  have hm := h3.1
  simp only [go_sem, seval]
  refine awp_seq ?_
  refine gt tabOk dpW [((600000, 1), (600000, 1))] [0, 3, 4, 5, 9] rfl ?_; simp only [go_sem, seval]
  refine awp_cond rfl (fun hc => ?_) (fun hc => ?_)
  ·
    have hlt : i < s.size := by simp only [decide_eq_true_eq] at hc; omega
    rw [show s.size - i = (s.size - (i + 1)) + 1 by omega] at h5
    unfold sw at h5
    have hbt : ((s.data.getD i 0).toNat : Int) = bt s i := (bt_def s i).symm
    refine awp_skip ?_; simp only [go_sem, seval]
    refine gblk ?_
    refine gt tabOk dpW [((600000, 1), (600000, 1))] [0, 3, 4, 5, 15] rfl ?_; simp only [go_sem, seval, Int.toNat_natCast, hbt]
    refine ⟨by omega, ?_⟩
    refine awp_cond rfl (fun hb => ?_) (fun hb => ?_)
    ·
      rw [hb, cond_true] at h5
      refine gt tabOk dpW [((22, 0), (600000, 1))] [0, 3, 5] rfl ?_; simp only [go_sem, seval, Int.toNat_natCast]
      refine ⟨by omega, by simp only [small]; omega, ?_⟩
      refine gt1 tabOk dpW [((600000, 1), (600000, 1))] [0, 3, 4, 5] rfl ?_; simp only [go_sem, seval]
      rw [wrapN (n := i) (by omega)]
      refine gt1 tabOk dpW [((600000, 1), (600000, 1))] [0, 3, 4, 5] rfl ?_; simp only [go_sem, seval]
      rw [wrapN (n := i) (by omega)]
      exact ⟨(i + 1, i + 1, acc ++ [s.extract a i], m + 1, catRow m row (setRow (fun _ => [.v (.string ⟨#[]⟩)]) 0 [.v (.string (s.extract a i))])), ⟨by simp only; omega, by simp only; omega, h3.app (s.extract a i) rfl, by simp only [List.length_append, List.length_cons, List.length_nil]; omega, h5⟩, by simp only; omega, sub_eq rfl⟩
    ·
      rw [hb, cond_false] at h5
      refine awp_skip ?_; simp only [go_sem, seval]
      refine gt1 tabOk dpW [((600000, 1), (600000, 1))] [0, 3, 4, 5] rfl ?_; simp only [go_sem, seval]
      rw [wrapN (n := i) (by omega)]
      exact ⟨(i + 1, a, acc, m, row), ⟨by simp only; omega, by simp only; omega, h3, by simp only; omega, h5⟩, by simp only; omega, sub_eq rfl⟩
  ·
    have hi : i = s.size := by simp only [decide_eq_false_iff_not] at hc; omega
    subst hi
    rw [Nat.sub_self] at h5
    unfold sw at h5
    have hrow := h3.app (s.extract a s.size) (row' := setRow (fun _ => [D.v (.string ⟨#[]⟩)]) 0 [.v (.string (s.extract a s.size))]) rfl
    rw [← h5] at hrow
    have hlen := hrow.1
    refine awp_exit ?_; simp only [go_sem, seval]
    refine gt tabOk dpW [((30, 0), (30, 0))] [2] rfl ?_; simp only [go_sem, seval, Int.toNat_natCast]
    refine ⟨by omega, by simp only [small]; omega, ?_⟩
    refine awp_ret ?_; simp only [go_sem, seval, sameRow, ← hlen]
    exact hrow.same

def runS (ws : List ByteArray) : Nat → SS → SS
  | 0, q => q
  | f + 1, q => bif decide (q.pos < ws.length) && decide (q.code = 0) then runS ws f (cmdS ws q) else q

theorem runS_succ (ws : List ByteArray) (f : Nat) (q : SS) : runS ws (f + 1) q = bif decide (q.pos < ws.length) && decide (q.code = 0) then runS ws f (cmdS ws q) else q := rfl
theorem runS_zero (ws : List ByteArray) (q : SS) : runS ws 0 q = q := rfl

def finC (q : SS) : Int := bif decide (q.code = 0) && decide (0 < (q.way.length : Int)) then 7 else q.code
def finS (q : SS) : PR := bif decide (finC q ≠ 0) then ([], finC q, q.pos, false) else (q.ways, 0, 0, true)
def parseS (s : ByteArray) : PR := bif decide ((s.size : Int) = 0) || decide (400 < (s.size : Int)) then ([], 1, 0, false) else finS (runS (words s) ((words s).length + 2) ⟨0, [], [], 0⟩)

structure SsIn (ws : List ByteArray) (p : SS) : Prop where
  pos : p.pos ≤ ws.length
  zero : p.code = 0 → p.ways.length ≤ p.pos ∧ p.way.length ≤ p.pos ∧ ∀ q, q ∈ p.way → SmallP 1000 q

theorem ptS_in {p : SS} {a : P2} : ((ptS p a).pos ≤ p.pos) ∧ ((ptS p a).code = 0 → p.code = 0 ∧ goodPt a.1 a.2 = true ∧ ptS p a = { p with way := p.way ++ [a] }) := by
  unfold ptS
  cases hc : decide (p.code ≠ 0) with
  | true => simp only [cond_true]; exact ⟨Nat.le_refl _, fun h => by simp [h] at hc⟩
  | false =>
    simp only [cond_false]
    cases hg : goodPt a.1 a.2 with
    | true => simp only [cond_true]; exact ⟨Nat.le_refl _, fun h => ⟨h, trivial, trivial⟩⟩
    | false => simp only [cond_false]; exact ⟨by first | omega | (simp only; omega), fun h => by simp at h⟩

theorem numS_code {ws : List ByteArray} {p : SS} (h : (numS ws p).2.code = 0) : p.code = 0 ∧ (pnum ws p.pos).2 = true ∧ numS ws p = ((pnum ws p.pos).1, { p with pos := p.pos + 1 }) := by
  unfold numS at h ⊢
  cases hc : decide (p.code ≠ 0) with
  | true => rw [hc] at h; simp only [cond_true] at h; simp [h] at hc
  | false =>
    rw [hc] at h
    simp only [cond_false] at h ⊢
    cases hb : (pnum ws p.pos).2 with
    | true => simp only [cond_true]; exact ⟨by simpa using hc, trivial, trivial⟩
    | false => rw [hb] at h; simp at h

theorem pt_in {ws : List ByteArray} {p : SS} (h : SsIn ws p) (a : P2) (n : Nat) (hn : p.code = 0 → n < p.pos ∧ p.ways.length ≤ n ∧ p.way.length ≤ n) : SsIn ws (ptS p a) ∧ ((ptS p a).code = 0 → n < (ptS p a).pos) := by
  have hp := ptS_in (p := p) (a := a)
  have h1 := h.pos
  refine ⟨⟨by omega, fun hc => ?_⟩, fun hc => ?_⟩
  · obtain ⟨e1, e2, e3⟩ := hp.2 hc
    obtain ⟨f1, f2, f3⟩ := h.zero e1
    obtain ⟨g1, g2, g3⟩ := hn e1
    rw [e3]
    refine ⟨f1, by simp only [List.length_append, List.length_cons, List.length_nil]; omega, fun q hq => ?_⟩
    simp only [List.mem_append, List.mem_singleton] at hq
    rcases hq with hq | rfl
    · exact f3 q hq
    · exact goodPt_small e2
  · obtain ⟨e1, e2, e3⟩ := hp.2 hc
    rw [e3]; exact (hn e1).1

theorem num_in {ws : List ByteArray} {p : SS} (h : SsIn ws p) : SsIn ws (numS ws p).2 ∧ ((numS ws p).2.code = 0 → p.code = 0 ∧ (numS ws p).2.pos = p.pos + 1 ∧ (numS ws p).2.ways = p.ways ∧ (numS ws p).2.way = p.way) := by
  obtain ⟨k1, k2, k3, k4, _⟩ := numS_keep ws p h.pos
  refine ⟨⟨k4, fun hc => ?_⟩, fun hc => ?_⟩
  · obtain ⟨e1, e2, e3⟩ := numS_code hc
    obtain ⟨f1, f2, f3⟩ := h.zero e1
    rw [k1, k2]; exact ⟨by omega, by omega, f3⟩
  · obtain ⟨e1, e2, e3⟩ := numS_code hc
    rw [e3]; exact ⟨e1, rfl, rfl, rfl⟩

theorem two_in {ws : List ByteArray} {p : SS} (h : SsIn ws p) (l : P2) (n : Nat) (hn : p.code = 0 → n < p.pos ∧ p.ways.length ≤ n ∧ p.way.length ≤ n) : SsIn ws (two2 ws p l) ∧ ((two2 ws p l).code = 0 → n < (two2 ws p l).pos) := by
  obtain ⟨a1, a2⟩ := num_in h
  obtain ⟨b1, b2⟩ := num_in a1
  unfold two2
  refine pt_in b1 _ n fun hc => ?_
  obtain ⟨e1, e2, e3, e4⟩ := b2 hc
  obtain ⟨f1, f2, f3, f4⟩ := a2 e1
  obtain ⟨g1, g2, g3⟩ := hn f1
  rw [e2, e3, e4, f2, f3, f4]; omega

theorem one_in {ws : List ByteArray} {p : SS} (h : SsIn ws p) (a : P2) (n : Nat) (hn : p.code = 0 → n < p.pos ∧ p.ways.length ≤ n ∧ p.way.length ≤ n) : SsIn ws (ptS (numS ws p).2 a) ∧ ((ptS (numS ws p).2 a).code = 0 → n < (ptS (numS ws p).2 a).pos) := by
  obtain ⟨a1, a2⟩ := num_in h
  refine pt_in a1 _ n fun hc => ?_
  obtain ⟨f1, f2, f3, f4⟩ := a2 hc
  obtain ⟨g1, g2, g3⟩ := hn f1
  rw [f2, f3, f4]; omega

theorem cmdS_in {ws : List ByteArray} {p : SS} (h : SsIn ws p) (hlt : p.pos < ws.length) (h0 : p.code = 0) : SsIn ws (cmdS ws p) ∧ ((cmdS ws p).code = 0 → p.pos < (cmdS ws p).pos) := by
  obtain ⟨z1, z2, z3⟩ := h.zero h0
  unfold cmdS
  cases hf : decide (codeS (wAt ws p.pos) p ≠ 0) with
  | true =>
    simp only [cond_true]
    exact ⟨⟨h.pos, fun e => by first | (simp [e] at hf; done) | (exfalso; revert hf; simp; exact e)⟩, fun e => by first | (simp [e] at hf; done) | (exfalso; revert hf; simp; exact e)⟩
  | false =>
    simp only [cond_false]
    have hb : SsIn ws { p with pos := p.pos + 1 } := ⟨by simp only; omega, fun _ => ⟨by simp only; omega, by simp only; omega, z3⟩⟩
    have hn : ({ p with pos := p.pos + 1 } : SS).code = 0 → p.pos < ({ p with pos := p.pos + 1 } : SS).pos ∧ ({ p with pos := p.pos + 1 } : SS).ways.length ≤ p.pos ∧ ({ p with pos := p.pos + 1 } : SS).way.length ≤ p.pos := fun _ => ⟨by simp only; omega, z1, z2⟩
    unfold armS
    cases (decide (wAt ws p.pos = ⟨#[77]⟩) || decide (wAt ws p.pos = ⟨#[76]⟩)) with
    | true => exact two_in hb _ _ hn
    | false =>
    cases decide (wAt ws p.pos = ⟨#[108]⟩) with
    | true => exact two_in hb _ _ hn
    | false =>
    cases decide (wAt ws p.pos = ⟨#[72]⟩) with
    | true => exact one_in hb _ _ hn
    | false =>
    cases decide (wAt ws p.pos = ⟨#[104]⟩) with
    | true => exact one_in hb _ _ hn
    | false =>
    cases decide (wAt ws p.pos = ⟨#[86]⟩) with
    | true => exact one_in hb _ _ hn
    | false =>
    cases decide (wAt ws p.pos = ⟨#[118]⟩) with
    | true => exact one_in hb _ _ hn
    | false =>
      simp only [cond_false]
      exact ⟨⟨by first | omega | (simp only; omega), fun _ => ⟨by simp only [List.length_append, List.length_cons, List.length_nil]; omega, by simp, by simp⟩⟩, fun _ => by first | omega | (simp only; omega)⟩
attribute [irreducible] runS finS finC parseS
end Go.Ax
end

section
set_option maxRecDepth 4000
namespace Go.Ax
open Go Go.Proofs
variable {gl : Gl}

abbrev ssQ0 (b : Id) (ws : List ByteArray) (p : SS) : List (Id × Option Obj) := [(b, some (.box [.own (600000, 1), .val (.int .i64 p.pos), .own (600000, 3), .own (600000, 4), .val (.int .i64 p.code)])), ((600000, 1), some (.sl true 1 ws.length (rowsF encS ws) 0)), ((600000, 3), some (.sl true 1 p.ways.length (rowsF encW p.ways) 0)), ((600000, 4), some (.sl true 2 p.way.length (rowsF encP p.way) 0))]

theorem nlt {a b : Nat} : decide ((a : Int) < (b : Int)) = decide (a < b) := by simp only [Int.ofNat_lt]

theorem c9 (s : ByteArray) (hs : s.size < 1000000000000) : Det gl 9 [sA s] [.one (.own true 1 (parseS s).1.length (rowsF encW (parseS s).1)), iR (parseS s).2.1, iR (parseS s).2.2.1, bR (parseS s).2.2.2] [sA s] := by
  refine acallD (c := bodyOf Tryd.f9) (nt := 71) (rvs := [.tmp 2, .tmp 3, .tmp 4, .tmp 5]) tabOk ⟨Tryd.f9, Tryd.func9, rfl, rfl, rfl, rfl⟩ rfl ?_
  unfold bodyOf Tryd.f9
  dsimp only
  simp only [go_sem, seval]
  refine gt tabOk dpW [] [0] rfl ?_; simp only [go_sem, seval]
  refine awp_seq ?_
  refine gtc0 tabOk dpW (St.m 71 [(0, .val (.string s)), (14, .bool (decide ((s.size : Int) = 0) || decide (400 < (s.size : Int))))] []) [] [0, 14] rfl ?_ ?_
  · simp only [go_sem, seval]
    exact ⟨fun h => by rw [h]; rfl, fun h => by rw [h]; rfl⟩
  refine awp_cond rfl (fun hc => ?_) (fun hc => ?_)
  ·
    have hr : parseS s = ([], 1, 0, false) := by simp only [parseS, hc, cond_true]
    refine gt tabOk dpW [] [2, 3, 4, 5] rfl ?_; simp only [go_sem, seval]
    refine awp_ret ?_; simp only [go_sem, seval, hr]
  ·
    have hsz : s.size ≤ 400 := by simp only [Bool.or_eq_false_iff, decide_eq_false_iff_not] at hc; omega
    have hr : parseS s = finS (runS (words s) ((words s).length + 2) ⟨0, [], [], 0⟩) := by simp only [parseS, hc, cond_false]
    have hwl := words_len s
    have hwo := words_ok (s := s) (by omega)
    have c := c21 (gl := gl) s (by omega)
    generalize words s = ws at hr hwl hwo c
    refine awp_skip ?_; simp only [go_sem, seval]
    refine gt tabOk dpW [((18, 0), (18, 0)), ((16, 0), (600000, 1))] [6] rfl ?_; simp only [go_sem, seval]
    refine good_call c ?_; simp only [go_sem, seval]
    refine gloop (fun p : SS => St.m 71 [(6, .c (.ptr (18, 0) 0))] (ssQ0 (18, 0) ws p)) (fun p => SsIn ws p ∧ ∃ f, (if p.code = 0 then ws.length - p.pos + 1 else 0) < f ∧ parseS s = finS (runS ws f p)) (fun p => if p.code = 0 then ws.length - p.pos + 1 else 0) ⟨0, [], [], 0⟩
      (sub_trans (sub_adoptB (18, 0) 2 (600000, 3) true 1 rfl rfl rfl rfl) (sub_trans (sub_adoptB (18, 0) 3 (600000, 4) true 2 rfl rfl rfl rfl) (sub_norm' (rnI0 (18, 0)) [6] rfl (by simp only [go_sem, seval, rows_nil, List.set_cons_succ, List.set_cons_zero]; rfl))))
      ⟨⟨by simp, by simp⟩, ws.length + 2, by simp, hr⟩ ?_
    rintro p ⟨hp, f, hf, hrun⟩
    obtain ⟨f, rfl⟩ : ∃ g, f = g + 1 := ⟨f - 1, by omega⟩
    have h1 := hp.pos
    rw [runS_succ] at hrun
    simp only [go_sem, seval]
    refine awp_seq ?_
    refine gec0 tabOk dpW (St.m 71 [(6, .c (.ptr (18, 0) 0)), (35, .bool (decide (p.pos < ws.length) && decide (p.code = 0)))] (ssQ0 (18, 0) ws p)) mixed (rnI0 (18, 0)) [6, 35] rfl (by kernel_rfl) ?_ ?_
    · simp only [go_sem, seval, nlt]
      exact ⟨fun h => by rw [h]; rfl, fun h => by rw [h]; rfl⟩
    refine awp_cond rfl (fun hc => ?_) (fun hc => ?_)
    ·
      rw [hc, cond_true] at hrun
      simp only [Bool.and_eq_true, decide_eq_true_eq] at hc
      obtain ⟨hlt, h0⟩ := hc
      obtain ⟨z1, z2, z3⟩ := hp.zero h0
      have c := c22 (gl := gl) hwo p hlt h0 (by omega) (by omega) z3
      have hin := cmdS_in hp hlt h0
      rw [if_pos h0] at hf
      generalize cmdS ws p = p' at hrun c hin
      obtain ⟨k1, k2⟩ := hin
      have hms : (if p'.code = 0 then ws.length - p'.pos + 1 else 0) < ws.length - p.pos + 1 := by
        split
        · next h => have := k2 h; have := k1.pos; omega
        · omega
      refine awp_skip ?_; simp only [go_sem, seval]
      refine awp_block ?_
      refine gt1 tabOk dpW (rnC0 (18, 0) 37) [6] rfl ?_; simp only [go_sem, seval]
      refine good_call c ?_; simp only [go_sem, seval]
      exact ⟨p', ⟨k1, f, by omega, hrun⟩, by rw [if_pos h0]; exact hms, sub_eq rfl⟩
    ·
      rw [hc, cond_false] at hrun
      refine awp_exit ?_; simp only [go_sem, seval]
      generalize hQ : (FnD (EE gl) _ _ _ _) = QQ
      refine gcut0 (St.m 71 [(6, .c (.ptr (18, 0) 0))] (ssQ0 (18, 0) ws { p with code := finC p })) ?_ ?_
      · refine gtc0 tabOk dpW (St.m 71 [(6, .c (.ptr (18, 0) 0)), (50, .bool (decide (p.code = 0) && decide (0 < (p.way.length : Int))))] (ssQ0 (18, 0) ws p)) (rnI0 (18, 0)) [6, 50] rfl ?_ ?_
        · simp only [go_sem, seval]
          exact ⟨fun h => by rw [h]; rfl, fun h => by rw [h]; rfl⟩
        refine awp_cond rfl (fun h7 => ?_) (fun h7 => ?_)
        · refine gt1 tabOk dpW (rnI0 (18, 0)) [6] rfl ?_; simp only [go_sem, seval]
          exact sub_eq (by simp only [finC, h7, cond_true])
        · refine awp_skip ?_; simp only [go_sem, seval]
          exact sub_norm' (rnI0 (18, 0)) [6] rfl (by simp only [go_sem, seval, finC, h7])
      have hfin : finS p = bif decide (¬ finC p = 0) then (([], finC p, (p.pos : Int), false) : PR) else (p.ways, 0, 0, true) := by simp only [finS, ne_eq]
      rw [hfin] at hrun
      generalize finC p = fc at hrun
      refine awp_seq ?_
      refine gt tabOk dpW (rnI0 (18, 0)) [6, 58] rfl ?_; simp only [go_sem, seval]
      refine awp_cond rfl (fun ho => ?_) (fun ho => ?_)
      ·
        rw [ho, cond_true] at hrun
        refine ge tabOk dpW mixed [] [2, 3, 4, 5] rfl (by kernel_rfl) ?_; simp only [go_sem, seval]
        refine awp_ret ?_; simp only [go_sem, seval, ← hQ, hrun]
      ·
        rw [ho, cond_false] at hrun
        refine awp_skip ?_; simp only [go_sem, seval]
        refine gt tabOk dpW [((600000, 3), (600000, 3))] [2, 3, 4, 5] rfl ?_; simp only [go_sem, seval]
        refine awp_ret ?_; simp only [go_sem, seval, ← hQ, hrun, sameRow]
end Go.Ax
end
