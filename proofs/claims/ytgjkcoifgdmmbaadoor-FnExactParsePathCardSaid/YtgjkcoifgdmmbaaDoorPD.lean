/- The parser of the program, each function once. -/
import Derived.Test.YtgjkcoifgdmmbaaDoorPC
set_option linter.unusedSimpArgs false
set_option linter.unusedVariables false
section
set_option maxRecDepth 4000
namespace Go.Ax
open Go Go.Proofs
variable {gl : Gl}

abbrev P2 := Int × Int
def encP (p : P2) : List D := [vI p.1, vI p.2]
def encW (w : List P2) : List D := [.sl 2 w.length (rowsF encP w)]

structure PS where
  pos : Nat
  ways : List (List P2)
  way : List P2
  op : Bool

abbrev wsD (ws : List ByteArray) : D := .sl 1 ws.length (rowsF encS ws)
abbrev psA (ws : List ByteArray) (p : PS) : Arg := .xbox [.own true 1 ws.length (rowsF encS ws), .fz (vI p.pos), .own true 1 p.ways.length (rowsF encW p.ways), .own true 2 p.way.length (rowsF encP p.way), .fz (vB p.op)]

abbrev psO (ws : List ByteArray) (p : PS) : List (Id × Option Obj) := [((2000000, 0), some (.box [.own (2000000, 1), .val (.int .i64 p.pos), .own (2000000, 3), .own (2000000, 4), .val (.bool p.op)])), ((2000000, 1), some (.sl true 1 ws.length (rowsF encS ws) 0)), ((2000000, 3), some (.sl true 1 p.ways.length (rowsF encW p.ways) 0)), ((2000000, 4), some (.sl true 2 p.way.length (rowsF encP p.way) 0))]
abbrev psR : List (Id × Id) := [((2000000, 0), (2000000, 0)), ((2000000, 1), (2000000, 1)), ((2000000, 3), (2000000, 3)), ((2000000, 4), (2000000, 4))]

def wAt (ws : List ByteArray) (i : Nat) : ByteArray := ws.getD i ⟨#[]⟩

theorem row_ws {ws : List ByteArray} {i : Nat} (h : i < ws.length) : rowsF encS ws i = [vS (wAt ws i)] := by
  rw [rowsF_some (x := wAt ws i) (by simp [wAt, h])]; rfl

def pnum (ws : List ByteArray) (i : Nat) : Int × Bool := bif decide (i = ws.length) then (0, false) else readNum (wAt ws i)
def pnumPos (ws : List ByteArray) (i : Nat) : Nat := bif (pnum ws i).2 then i + 1 else i

theorem pnum_bound (ws : List ByteArray) (i : Nat) : -10000 ≤ (pnum ws i).1 ∧ (pnum ws i).1 ≤ 10000 := by
  unfold pnum
  cases decide (i = ws.length) with
  | true => simp
  | false => exact readNum_bound _

theorem pnum_lt {ws : List ByteArray} {i : Nat} (h : (pnum ws i).2 = true) (hi : i ≤ ws.length) : i < ws.length := by
  unfold pnum at h
  by_cases e : i = ws.length
  · simp [e] at h
  · omega

theorem pnumPos_t {ws : List ByteArray} {i : Nat} (h : (pnum ws i).2 = true) : pnumPos ws i = i + 1 := by simp only [pnumPos, h, cond_true]
theorem pnumPos_f {ws : List ByteArray} {i : Nat} (h : (pnum ws i).2 = false) : pnumPos ws i = i := by simp only [pnumPos, h, cond_false]

attribute [irreducible] pnum pnumPos wAt

structure WsOk (ws : List ByteArray) : Prop where
  len : ws.length < 1000000
  size : ∀ w, w ∈ ws → w.size < 1000000000

theorem WsOk.at {ws : List ByteArray} (h : WsOk ws) {i : Nat} (hi : i < ws.length) : (wAt ws i).size < 1000000000 := by
  refine h.size _ ?_
  simp only [wAt, List.getD_eq_getElem?_getD, List.getElem?_eq_getElem hi, Option.getD_some]; exact List.getElem_mem hi

theorem c39 {ws : List ByteArray} (hw : WsOk ws) (p : PS) (hp : p.pos ≤ ws.length) : Det gl 39 [psA ws p] [iR (pnum ws p.pos).1, bR (pnum ws p.pos).2] [psA ws { p with pos := pnumPos ws p.pos }] := by
  refine acallD (c := bodyOf Tryd.f39) (nt := 40) (rvs := [.tmp 2, .tmp 3]) tabOk ⟨Tryd.f39, Tryd.func39, rfl, rfl, rfl, rfl⟩ rfl ?_
  unfold bodyOf Tryd.f39
  dsimp only
  simp only [go_sem, seval]
  obtain ⟨pos, ways, way, op⟩ := p
  simp only at hp
  have h1 := hw.len
  refine gt tabOk dp0 psR [0] rfl ?_; simp only [go_sem, seval]
  refine awp_seq ?_
  refine ge tabOk dp0 mixed psR [0, 15] rfl (by kernel_rfl) ?_; simp only [go_sem, seval]
  refine awp_cond rfl (fun hc => ?_) (fun hc => ?_)
  ·
    have hc' : pnum ws pos = (0, false) := by simp only [decide_eq_true_eq] at hc; simp only [pnum, show pos = ws.length by omega, decide_true, cond_true]
    refine gt tabOk dp0 psR [2, 3] rfl ?_; simp only [go_sem, seval]
    refine awp_ret ?_; simp only [go_sem, seval, hc', pnumPos, sameRow]
  ·
    have hlt : pos < ws.length := by simp only [decide_eq_false_iff_not] at hc; omega
    have hn : pnum ws pos = readNum (wAt ws pos) := by simp only [pnum, show ¬ pos = ws.length by omega, decide_false, cond_false]
    refine awp_skip ?_; simp only [go_sem, seval]
    have hr := row_ws hlt
    have h57 := c57 (gl := gl) (wAt ws pos) (by have := hw.at hlt; omega)
    rw [← hn] at h57
    refine ge tabOk dp0 mixed psR [0, 4, 5] rfl (by kernel_rfl) ?_; simp only [go_sem, seval, Int.toNat_natCast, hr]
    refine ⟨by omega, ?_⟩
    refine good_call h57 ?_; simp only [go_sem, seval]
    refine gcut0 (St.m 40 [(4, .int (pnum ws pos).1), (5, .bool (pnum ws pos).2)] (psO ws ⟨pnumPos ws pos, ways, way, op⟩)) ?_ ?_
    · refine gt tabOk dp0 psR [0, 4, 5, 30] rfl ?_; simp only [go_sem, seval]
      refine awp_cond rfl (fun hc => ?_) (fun hc => ?_)
      ·
        refine gt1 tabOk dp0 psR [4, 5] rfl ?_; simp only [go_sem, seval]
        rw [wrapN (by omega)]
        exact sub_eq (by simp only [pnumPos, hc, cond_true])
      ·
        refine awp_skip ?_; simp only [go_sem, seval]
        exact sub_norm' psR [4, 5] rfl (by simp only [go_sem, seval, pnumPos, hc])
    · refine gt tabOk dp0 psR [2, 3] rfl ?_; simp only [go_sem, seval]
      refine awp_ret ?_; simp only [go_sem, seval, sameRow]
end Go.Ax
end

section
set_option maxRecDepth 4000
namespace Go.Ax
open Go Go.Proofs
variable {gl : Gl}

def k8 : List ByteArray := [⟨#[77]⟩, ⟨#[76]⟩, ⟨#[108]⟩, ⟨#[72]⟩, ⟨#[86]⟩, ⟨#[104]⟩, ⟨#[118]⟩, ⟨#[90]⟩]

def manyB (w : ByteArray) (p : PS) : Bool :=
  (decide (w = ⟨#[77]⟩) && decide ((p.ways.length : Int) = 4)) || ((decide (w = ⟨#[90]⟩) && decide ((p.way.length : Int) < 3)) || ((decide (w ≠ ⟨#[77]⟩) && decide (w ≠ ⟨#[90]⟩)) && decide ((p.way.length : Int) = 12)))

def faultP (w : ByteArray) (p : PS) : Int :=
  bif !(memB w k8) then 2 else bif (decide (w = ⟨#[77]⟩) == p.op) then 4 else bif manyB w p then 5 else 0

theorem c37 (ws : List ByteArray) (p : PS) (w : ByteArray) : Det gl 37 [psA ws p, sA w] [iR (faultP w p)] [psA ws p, sA w] := by
  refine acallD (c := bodyOf Tryd.f37) (nt := 53) (rvs := [.tmp 4]) tabOk ⟨Tryd.f37, Tryd.func37, rfl, rfl, rfl, rfl⟩ rfl ?_
  unfold bodyOf Tryd.f37
  dsimp only
  obtain ⟨pos, ways, way, op⟩ := p
  simp only [go_sem, seval]
  refine gt tabOk dp0 psR [0, 1] rfl ?_; simp only [go_sem, seval]
  refine gblk ?_
  refine gt tabOk dp0 psR [0, 1, 5] rfl ?_; simp only [go_sem, seval]
  refine good_call (c56 (l := k8) ⟨rfl, fun i x h => ?_⟩ (by decide) w) ?_
  · rcases i with _ | _ | _ | _ | _ | _ | _ | _ | i <;> simp only [k8, List.getElem?_cons_zero, List.getElem?_cons_succ, Option.some.injEq, List.getElem?_nil, reduceCtorEq] at h <;> subst h <;> rfl
  simp only [go_sem, seval]
  refine awp_cond rfl (fun hc => ?_) (fun hc => ?_)
  ·
    refine gt tabOk dp0 psR [4] rfl ?_; simp only [go_sem, seval]
    refine awp_ret ?_; simp only [go_sem, seval, sameRow, faultP, hc]
  ·
    refine gt tabOk dp0 psR [0, 1, 10] rfl ?_; simp only [go_sem, seval]
    refine awp_cond rfl (fun hc2 => ?_) (fun hc2 => ?_)
    ·
      refine gt tabOk dp0 psR [4] rfl ?_; simp only [go_sem, seval]
      refine awp_ret ?_; simp only [go_sem, seval, sameRow, faultP, hc, hc2]
    ·
      refine gcut0 (St.m 53 [(18, .bool (manyB w ⟨pos, ways, way, op⟩))] (psO ws ⟨pos, ways, way, op⟩)) ?_ ?_
      · refine gtc0 tabOk dp0 (St.m 53 [(0, .c (.ptr (2000000, 0) 0)), (1, .val (.string w)), (18, .bool (decide (w = ⟨#[77]⟩) && decide ((ways.length : Int) = 4)))] (psO ws ⟨pos, ways, way, op⟩)) psR [0, 1, 18] rfl ?_ ?_
        · simp only [go_sem, seval]
          exact ⟨fun h => by rw [h]; rfl, fun h => by rw [h]; rfl⟩
        refine awp_cond rfl (fun hc3 => ?_) (fun hc3 => ?_)
        · refine awp_skip ?_; simp only [go_sem, seval]
          exact sub_norm' psR [18] rfl (by simp only [go_sem, seval, manyB, hc3])
        · refine gtc0 tabOk dp0 (St.m 53 [(0, .c (.ptr (2000000, 0) 0)), (1, .val (.string w)), (18, .bool (decide (w = ⟨#[90]⟩) && decide ((way.length : Int) < 3)))] (psO ws ⟨pos, ways, way, op⟩)) psR [0, 1, 18] rfl ?_ ?_
          · simp only [go_sem, seval]
            exact ⟨fun h => by rw [h]; rfl, fun h => by rw [h]; rfl⟩
          refine awp_cond rfl (fun hc4 => ?_) (fun hc4 => ?_)
          · refine awp_skip ?_; simp only [go_sem, seval]
            exact sub_norm' psR [18] rfl (by simp only [go_sem, seval, manyB, hc3, hc4])
          · refine gt1 tabOk dp0 psR [18] rfl ?_; simp only [go_sem, seval]
            refine ⟨fun h1 => ⟨fun h2 => sub_eq ?_, fun h2 => sub_eq ?_⟩, fun h1 => sub_eq ?_⟩
            · simp only [manyB, hc3, hc4, h1, h2, Bool.false_or, Bool.true_and]
            · simp only [manyB, hc3, hc4, h1, h2, Bool.false_or, Bool.true_and, Bool.false_and]
            · simp only [manyB, hc3, hc4, h1, Bool.false_or, Bool.false_and]
      · refine awp_cond rfl (fun hc3 => ?_) (fun hc3 => ?_)
        · refine gt tabOk dp0 psR [4] rfl ?_; simp only [go_sem, seval]
          refine awp_ret ?_; simp only [go_sem, seval, sameRow, faultP, hc, hc2, hc3]
        · refine awp_skip ?_; simp only [go_sem, seval]
          refine gt tabOk dp0 psR [4] rfl ?_; simp only [go_sem, seval]
          refine awp_ret ?_; simp only [go_sem, seval, sameRow, faultP, hc, hc2, hc3]
attribute [irreducible] faultP manyB
end Go.Ax
end

section
set_option maxRecDepth 4000
namespace Go.Ax
open Go Go.Proofs
variable {gl : Gl}

def lastP (way : List P2) : P2 := way.getLastD (0, 0)
def encI (x : Int) : List D := [vI x]

def one1 (w : ByteArray) : Bool := decide (w = ⟨#[72]⟩) || (decide (w = ⟨#[86]⟩) || (decide (w = ⟨#[104]⟩) || decide (w = ⟨#[118]⟩)))

def nextP (w : ByteArray) (l : P2) (ns : List Int) : P2 :=
  bif decide (w = ⟨#[108]⟩) then (l.1 + ns.getD 0 0, l.2 + ns.getD 1 0) else
  bif decide (w = ⟨#[72]⟩) then (ns.getD 0 0, l.2) else
  bif decide (w = ⟨#[86]⟩) then (l.1, ns.getD 0 0) else
  bif decide (w = ⟨#[104]⟩) then (l.1 + ns.getD 0 0, l.2) else
  bif decide (w = ⟨#[118]⟩) then (l.1, l.2 + ns.getD 0 0) else
  (ns.getD 0 0, ns.getD 1 0)

def SmallP (b : Int) (p : P2) : Prop := (-b ≤ p.1 ∧ p.1 ≤ b) ∧ -b ≤ p.2 ∧ p.2 ≤ b

theorem lastP_small {b : Int} (hb : 0 ≤ b) {way : List P2} (h : ∀ p, p ∈ way → SmallP b p) : SmallP b (lastP way) := by
  unfold lastP
  cases hw : way.getLast? with
  | none => simp [List.getLastD_eq_getLast?, hw, SmallP, hb]
  | some p => simp [List.getLastD_eq_getLast?, hw]; exact h p (List.mem_of_getLast? hw)

theorem row_last {way : List P2} (h : 0 < way.length) : rowsF encP way (way.length - 1) = [vI (lastP way).1, vI (lastP way).2] := by
  rw [rowsF_some (x := lastP way)]
  · rfl
  · unfold lastP
    rw [List.getLastD_eq_getLast?, List.getLast?_eq_getElem?]
    cases hx : way[way.length - 1]? with
    | none => rw [List.getElem?_eq_none_iff] at hx; omega
    | some x => rfl

theorem wrapL {n : Nat} (h : 0 < n) (h2 : n < 4611686018427387904) : IntKind.i64.wrap ((n : Int) - 1) = ((n - 1 : Nat) : Int) := by
  rw [wrapI (by omega) (by omega)]; omega

abbrev psQ1 : List (Id × Id) := ((6, 0), (6, 0)) :: psR
abbrev psQ2 : List (Id × Id) := ((6, 0), (6, 0)) :: ((7, 0), (7, 0)) :: psR

theorem c40 (ws : List ByteArray) (p : PS) (w : ByteArray) {ns : List Int} {m : Nat} {row : Nat → List D} (hns : IsRow encI ns m row) (hl : ns.length = bif one1 w then 1 else 2)
    (hb : ∀ n, n ∈ ns → -10000 ≤ n ∧ n ≤ 10000) (hway : ∀ q, q ∈ p.way → SmallP 1000 q) (hwl : p.way.length < 1000) :
    Det gl 40 [psA ws p, sA w, .one (.sl 1 m row)] [.agg [.fz (vI (nextP w (lastP p.way) ns).1), .fz (vI (nextP w (lastP p.way) ns).2)]] [psA ws p, sA w, .one (.sl 1 m row)] := by
  refine acallD (c := bodyOf Tryd.f40) (nt := 88) (rvs := [.cell 6 39]) tabOk ⟨Tryd.f40, Tryd.func40, rfl, rfl, rfl, rfl⟩ rfl ?_
  unfold bodyOf Tryd.f40
  dsimp only
  obtain ⟨pos, ways, way, op⟩ := p
  simp only at hway hwl
  have hls := lastP_small (by decide) hway
  have hrl := fun h => row_last (way := way) h
  have hl0 : way.length = 0 → lastP way = (0, 0) := fun h => by
    have : way = [] := List.length_eq_zero_iff.1 h
    subst this; rfl
  generalize lastP way = l at hls hrl hl0 ⊢
  obtain ⟨lx, ly⟩ := l
  simp only [SmallP] at hls hrl
  simp only [go_sem, seval]
  refine gt tabOk dp0 (((6, 0), (6, 0)) :: psR) [0, 1, 2, 6] rfl ?_; simp only [go_sem, seval]
  refine gt tabOk dp0 (((6, 0), (6, 0)) :: ((7, 0), (7, 0)) :: psR) [0, 1, 2, 6, 7] rfl ?_; simp only [go_sem, seval]
  have h0m : 0 < m := by have := hns.1; rw [hl] at this; cases h : one1 w <;> rw [h] at this <;> simp only [cond_true, cond_false] at this <;> omega
  have r0 : row 0 = [vI (ns.getD 0 0)] := by
    rw [hns.2 0 (ns.getD 0 0) (by have := hns.1; simp [List.getD_eq_getElem?_getD, List.getElem?_eq_getElem (show 0 < ns.length by omega)])]; rfl
  have b0 : -10000 ≤ ns.getD 0 0 ∧ ns.getD 0 0 ≤ 10000 := hb _ (by have := hns.1; simp only [List.getD_eq_getElem?_getD, List.getElem?_eq_getElem (show 0 < ns.length by omega), Option.getD_some]; exact List.getElem_mem _)
  have two : one1 w = false → 1 < m ∧ row 1 = [vI (ns.getD 1 0)] ∧ -10000 ≤ ns.getD 1 0 ∧ ns.getD 1 0 ≤ 10000 := fun h => by
    rw [h] at hl
    have h1 := hns.1
    have hlt : 1 < ns.length := by rw [hl]; decide
    refine ⟨by omega, ?_, hb _ ?_⟩
    · rw [hns.2 1 (ns.getD 1 0) (by simp [List.getD_eq_getElem?_getD, List.getElem?_eq_getElem hlt])]; rfl
    · simp only [List.getD_eq_getElem?_getD, List.getElem?_eq_getElem hlt, Option.getD_some]; exact List.getElem_mem _
  generalize hn0 : ns.getD 0 0 = n0 at r0 b0
  generalize hn1 : ns.getD 1 0 = n1 at two
  refine gcut0 (St.m 88 [(1, .val (.string w)), (2, .c (.dat (.sl 1 m row))), (6, .c (.ptr (6, 0) 0)), (7, .c (.ptr (7, 0) 0))] (((6, 0), some (.box [.val (.int .i64 0), .val (.int .i64 0)])) :: ((7, 0), some (.box [.val (.int .i64 lx), .val (.int .i64 ly)])) :: psO ws ⟨pos, ways, way, op⟩)) ?_ ?_
  · refine gt tabOk dp0 (((6, 0), (6, 0)) :: ((7, 0), (7, 0)) :: psR) [0, 1, 2, 6, 7, 14] rfl ?_; simp only [go_sem, seval]
    refine awp_cond rfl (fun hc => ?_) (fun hc => ?_)
    ·
      have hpos : 0 < way.length := by simp only [decide_eq_true_eq] at hc; omega
      have hr := hrl hpos
      refine ge1 tabOk dp0 mixed (((6, 0), (6, 0)) :: ((7, 0), (7, 0)) :: psR) [1, 2, 6, 7] rfl (by kernel_rfl) ?_; simp only [go_sem, seval, wrapL hpos (show way.length < 4611686018427387904 by omega), Int.toNat_natCast, hr]
      exact ⟨by omega, sub_refl⟩
    ·
      have hz : way.length = 0 := by simp only [decide_eq_false_iff_not] at hc; omega
      have := hl0 hz
      simp only [Prod.mk.injEq] at this
      obtain ⟨rfl, rfl⟩ := this
      refine awp_skip ?_; simp only [go_sem, seval]
      exact sub_norm' (((6, 0), (6, 0)) :: ((7, 0), (7, 0)) :: psR) [1, 2, 6, 7] rfl (by simp only [go_sem, seval])
  refine gcutP (decide (w = ⟨#[108]⟩) = false ∧ decide (w = ⟨#[72]⟩) = false ∧ decide (w = ⟨#[86]⟩) = false ∧ decide (w = ⟨#[104]⟩) = false ∧ decide (w = ⟨#[118]⟩) = false) (St.m 88 [(2, .c (.dat (.sl 1 m row))), (6, .c (.ptr (6, 0) 0))] (((6, 0), some (.box [.val (.int .i64 0), .val (.int .i64 0)])) :: psO ws ⟨pos, ways, way, op⟩)) ?_ ?_
  · refine gt tabOk dp0 psQ2 [2, 6, 7, 27] rfl ?_; simp only [go_sem, seval]
    refine awp_block ?_
    refine gt tabOk dp0 psQ2 [2, 6, 7, 27, 28] rfl ?_; simp only [go_sem, seval]
    refine awp_cond rfl (fun h0 => ?_) (fun h0 => ?_)
    ·
      obtain ⟨t1, t2, t3⟩ := two (by simp only [decide_eq_true_eq] at h0; rw [h0]; rfl)
      refine ge tabOk dp0 mixed psQ1 [6] rfl (by kernel_rfl) ?_; simp only [go_sem, seval, Int.toNat_zero, Int.reduceToNat, Int.toNat_one, r0, t2]
      rw [wrapI (x := lx + n0) (by omega) (by omega), wrapI (x := ly + n1) (by omega) (by omega)]
      refine ⟨by omega, by omega, awp_ret ?_⟩; simp only [go_sem, seval, sameRow, nextP, h0, hn0, hn1]
    ·
      refine gt tabOk dp0 psQ2 [2, 6, 7, 27, 43] rfl ?_; simp only [go_sem, seval]
      refine awp_cond rfl (fun h1 => ?_) (fun h1 => ?_)
      ·
        refine ge tabOk dp0 mixed psQ1 [6] rfl (by kernel_rfl) ?_; simp only [go_sem, seval, Int.toNat_zero, Int.reduceToNat, r0]
        refine ⟨by omega, awp_ret ?_⟩; simp only [go_sem, seval, sameRow, nextP, h0, h1, hn0]
      ·
        refine gt tabOk dp0 psQ2 [2, 6, 7, 27, 51] rfl ?_; simp only [go_sem, seval]
        refine awp_cond rfl (fun h2 => ?_) (fun h2 => ?_)
        ·
          refine ge tabOk dp0 mixed psQ1 [6] rfl (by kernel_rfl) ?_; simp only [go_sem, seval, Int.toNat_zero, Int.reduceToNat, r0]
          refine ⟨by omega, awp_ret ?_⟩; simp only [go_sem, seval, sameRow, nextP, h0, h1, h2, hn0]
        ·
          refine gt tabOk dp0 psQ2 [2, 6, 7, 27, 59] rfl ?_; simp only [go_sem, seval]
          refine awp_cond rfl (fun h3 => ?_) (fun h3 => ?_)
          ·
            refine ge tabOk dp0 mixed psQ1 [6] rfl (by kernel_rfl) ?_; simp only [go_sem, seval, Int.toNat_zero, Int.reduceToNat, r0]
            rw [wrapI (x := lx + n0) (by omega) (by omega)]
            refine ⟨by omega, awp_ret ?_⟩; simp only [go_sem, seval, sameRow, nextP, h0, h1, h2, h3, hn0]
          ·
            refine gt tabOk dp0 psQ2 [2, 6, 7, 70] rfl ?_; simp only [go_sem, seval]
            refine awp_cond rfl (fun h4 => ?_) (fun h4 => ?_)
            ·
              refine ge tabOk dp0 mixed psQ1 [6] rfl (by kernel_rfl) ?_; simp only [go_sem, seval, Int.toNat_zero, Int.reduceToNat, r0]
              rw [wrapI (x := ly + n0) (by omega) (by omega)]
              refine ⟨by omega, awp_ret ?_⟩; simp only [go_sem, seval, sameRow, nextP, h0, h1, h2, h3, h4, hn0]
            ·
              refine awp_skip ?_; simp only [go_sem, seval]
              refine ⟨⟨h0, h1, h2, h3, h4⟩, sub_norm' psQ1 [2, 6] rfl (by simp only [go_sem, seval])⟩
  rintro ⟨h0, h1, h2, h3, h4⟩
  obtain ⟨t1, t2, t3⟩ := two (by simp only [one1, h1, h2, h3, h4, Bool.false_or])
  refine ge tabOk dp0 mixed psQ1 [6] rfl (by kernel_rfl) ?_; simp only [go_sem, seval, Int.toNat_zero, Int.reduceToNat, Int.toNat_one, r0, t2]
  refine ⟨by omega, by omega, awp_ret ?_⟩
  simp only [go_sem, seval, sameRow, nextP, h0, h1, h2, h3, h4, hn0, hn1]
attribute [irreducible] nextP lastP one1
end Go.Ax
end

section
set_option maxRecDepth 4000
namespace Go.Ax
open Go Go.Proofs
variable {gl : Gl}

def rdN (ws : List ByteArray) : Nat → Nat → List Int → Bool × Nat × List Int
  | 0, i, ns => (true, i, ns)
  | k + 1, i, ns => bif (pnum ws i).2 then rdN ws k (i + 1) (ns ++ [(pnum ws i).1]) else (false, i, ns)

def cmdQ (ws : List ByteArray) (p : PS) (t : P2) (i : Nat) : Int × Int × PS :=
  bif goodPt t.1 t.2 then (0, 0, ⟨i, p.ways, p.way ++ [t], true⟩) else (6, (i : Int) - 1, { p with pos := i })

def cmdP (ws : List ByteArray) (p : PS) : Int × Int × PS :=
  bif decide (faultP (wAt ws p.pos) p ≠ 0) then (faultP (wAt ws p.pos) p, p.pos, p) else
  bif decide (wAt ws p.pos = ⟨#[90]⟩) then (0, 0, ⟨p.pos + 1, p.ways ++ [p.way], [], false⟩) else
  match rdN ws (bif one1 (wAt ws p.pos) then 1 else 2) (p.pos + 1) [] with
  | (false, i, _) => (3, i, { p with pos := i })
  | (true, i, ns) => cmdQ ws p (nextP (wAt ws p.pos) (lastP p.way) ns) i

structure PsOk (p : PS) : Prop where
  ways : p.ways.length ≤ 1000
  way : p.way.length ≤ 500
  small : ∀ q, q ∈ p.way → SmallP 1000 q

theorem k8_one {w : ByteArray} (h : memB w k8 = true) (hz : decide (w = ⟨#[90]⟩) = false) : ∃ c : UInt8, w = ⟨#[c]⟩ ∧ decide (c ∈ (⟨#[72, 86, 104, 118]⟩ : ByteArray).data.toList) = one1 w := by
  have hm : w ∈ k8 := by
    rw [← bidx_mem w k8 0]; unfold memB at h; simpa using h
  simp only [k8, List.mem_cons, List.not_mem_nil, or_false] at hm
  rcases hm with rfl | rfl | rfl | rfl | rfl | rfl | rfl | rfl
  all_goals first | (exact ⟨_, rfl, by unfold one1; decide⟩) | (simp at hz)

abbrev psQ (ws : List ByteArray) (p : PS) : List (Id × Option Obj) := [((2000000, 0), some (.box [.own (600000, 1), .val (.int .i64 p.pos), .own (600000, 3), .own (600000, 4), .val (.bool p.op)])), ((600000, 1), some (.sl true 1 ws.length (rowsF encS ws) 0)), ((600000, 3), some (.sl true 1 p.ways.length (rowsF encW p.ways) 0)), ((600000, 4), some (.sl true 2 p.way.length (rowsF encP p.way) 0))]
abbrev rnA : List (Id × Id) := [((2000000, 0), (2000000, 0)), ((2000000, 1), (600000, 1)), ((2000000, 3), (600000, 3)), ((2000000, 4), (600000, 4))]
abbrev rnI : List (Id × Id) := [((2000000, 0), (2000000, 0)), ((600000, 1), (600000, 1)), ((600000, 3), (600000, 3)), ((600000, 4), (600000, 4))]
abbrev rnC (d : Nat) : List (Id × Id) := [((2000000, 0), (2000000, 0)), ((d, 10000), (600000, 1)), ((d, 10002), (600000, 3)), ((d, 10003), (600000, 4))]
def dpW : Nat → Bool := fun t => t == 43
@[go_sem] theorem dpW_eq (t : Nat) : dpW t = (t == 43) := rfl

theorem fault_known {w : ByteArray} {p : PS} (h : faultP w p = 0) : memB w k8 = true := by
  unfold faultP at h
  cases hm : memB w k8 with
  | true => rfl
  | false => rw [hm] at h; simp at h

theorem c24 {ws : List ByteArray} (hw : WsOk ws) (p : PS) (hp : p.pos < ws.length) (hok : PsOk p) : Det gl 24 [psA ws p] [iR (cmdP ws p).1, iR (cmdP ws p).2.1] [psA ws (cmdP ws p).2.2] := by
  refine acallD (c := bodyOf Tryd.f24) (nt := 106) (rvs := [.tmp 2, .tmp 3]) tabOk ⟨Tryd.f24, Tryd.func24, rfl, rfl, rfl, rfl⟩ rfl ?_
  unfold bodyOf Tryd.f24
  dsimp only
  have h1 := hw.len
  have h2 := hok.ways
  have h3 := hok.way
  have h4 := hok.small
  have hr := row_ws hp
  simp only [go_sem, seval]
  refine gt tabOk dpW rnA [0] rfl ?_; simp only [go_sem, seval]
  refine ge tabOk dpW mixed rnI [0, 4] rfl (by kernel_rfl) ?_; simp only [go_sem, seval, Int.toNat_natCast, hr]
  refine ⟨by omega, ?_⟩
  generalize hwd : wAt ws p.pos = w
  refine awp_seq ?_
  refine gt tabOk dpW (rnC 23) [0, 4, 5] rfl ?_; simp only [go_sem, seval]
  refine good_call (c37 ws p w) ?_; simp only [go_sem, seval]
  refine gt tabOk dpW rnI [0, 4, 5, 25] rfl ?_; simp only [go_sem, seval]
  refine awp_cond rfl (fun hc => ?_) (fun hc => ?_)
  ·
    have hcmd : cmdP ws p = (faultP w p, ((p.pos : Nat) : Int), p) := by simp only [cmdP, hwd, hc, cond_true]
    refine ge tabOk dpW mixed rnI [2, 3] rfl (by kernel_rfl) ?_; simp only [go_sem, seval]
    refine awp_ret ?_; simp only [go_sem, seval, sameRow, hcmd]
  ·
    have hf0 : faultP w p = 0 := by simpa using hc
    have hkn := fault_known hf0
    refine awp_skip ?_; simp only [go_sem, seval]
    refine gt tabOk dpW rnI [0, 4] rfl ?_; simp only [go_sem, seval]
    rw [wrapN (n := p.pos) (by omega)]
    refine awp_seq ?_
    refine gt tabOk dpW rnI [0, 4, 39] rfl ?_; simp only [go_sem, seval]
    refine awp_cond rfl (fun hz => ?_) (fun hz => ?_)
    ·
      have hcmd : cmdP ws p = (0, 0, ⟨p.pos + 1, p.ways ++ [p.way], [], false⟩) := by simp only [cmdP, hwd, hc, hz, cond_true, cond_false]
      refine gd tabOk dpW mixed [((2000000, 0), (2000000, 0)), ((600000, 1), (600000, 1)), ((52, 0), (600000, 3))] [] [(4, 11), (5, 11), (6, 11)] rfl (by kernel_rfl) ?_; simp only [go_sem, seval]
      have hrow : IsRow encW (p.ways ++ [p.way]) (p.ways.length + 1) (catRow p.ways.length (rowsF encW p.ways) (setRow (fun x => [D.v (Value.slice none 0 0)]) 0 [D.sl 2 p.way.length (rowsF encP p.way)])) :=
        IsRow.app (isRow_F encW p.ways) p.way rfl
      have hlen := hrow.1
      refine ⟨by simp only [small]; omega, ?_⟩
      refine gt tabOk dpW [((2000000, 0), (2000000, 0)), ((600000, 1), (600000, 1)), ((600000, 3), (600000, 3))] [2, 3] rfl ?_; simp only [go_sem, seval]
      refine awp_ret ?_; simp only [go_sem, seval, sameRow, hcmd, ← hlen]
      exact hrow.same
    ·
      obtain ⟨c, hcw, hc1⟩ := k8_one hkn hz
      have hone := c38 (gl := gl) ⟨#[72, 86, 104, 118]⟩ c
      rw [hc1, ← hcw] at hone
      refine awp_skip ?_; simp only [go_sem, seval]
      refine gt tabOk dpW rnI [0, 4, 6] rfl ?_; simp only [go_sem, seval]
      refine gcut0 (St.m 106 [(0, .c (.ptr (2000000, 0) 0)), (4, .val (.string w)), (6, .int (((bif one1 w then 1 else 2 : Nat)) : Int))] (psQ ws { p with pos := p.pos + 1 })) ?_ ?_
      · refine gt tabOk dpW rnI [0, 4, 6, 60] rfl ?_; simp only [go_sem, seval]
        refine good_call hone ?_; simp only [go_sem, seval]
        refine awp_cond rfl (fun ho => ?_) (fun ho => ?_)
        · refine gt1 tabOk dpW rnI [0, 4, 6] rfl ?_; simp only [go_sem, seval]
          exact sub_eq (by rw [ho]; rfl)
        · refine awp_skip ?_; simp only [go_sem, seval]
          exact sub_norm' rnI [0, 4, 6] rfl (by simp only [go_sem, seval, ho])
      have hcmd : cmdP ws p = match rdN ws (bif one1 w then 1 else 2) (p.pos + 1) [] with
          | (false, i, _) => (3, i, { p with pos := i })
          | (true, i, ns) => cmdQ ws p (nextP w (lastP p.way) ns) i := by simp only [cmdP, hwd, hc, hz, cond_false]
      generalize hcnt : (bif one1 w then 1 else 2 : Nat) = cnt at hcmd
      have hcnt2 : cnt ≤ 2 := by rw [← hcnt]; cases one1 w <;> simp
      generalize hf : (FnD (EE gl) [ResultVar.tmp 2, ResultVar.tmp 3] [psA ws p] [iR (cmdP ws p).1, iR (cmdP ws p).2.1] [psA ws (cmdP ws p).2.2]) = QQ
      refine gt tabOk dpW (((61, 0), (500000, 0)) :: rnI) [0, 4, 6, 7] rfl ?_; simp only [go_sem, seval]
      refine awp_seq ?_
      refine gt tabOk dpW (((500000, 0), (500000, 0)) :: rnI) [0, 4, 7, 62, 63] rfl ?_; simp only [go_sem, seval]
      refine gloop1 (fun i : Nat × List Int × (Nat → List D) => St.m 106 [(0, .c (.ptr (2000000, 0) 0)), (4, .val (.string w)), (7, .c (.own (500000, 0))), (62, .int cnt), (63, .int i.1)] (((500000, 0), some (.sl true 1 i.1 i.2.2 0)) :: psQ ws { p with pos := p.pos + 1 + i.1 }))
        (fun i => i.1 ≤ cnt ∧ p.pos + 1 + i.1 ≤ ws.length ∧ IsRow encI i.2.1 i.1 i.2.2 ∧ (∀ n, n ∈ i.2.1 → -10000 ≤ n ∧ n ≤ 10000) ∧ rdN ws cnt (p.pos + 1) [] = rdN ws (cnt - i.1) (p.pos + 1 + i.1) i.2.1) (fun i => cnt - i.1) (0, [], fun _ => [.v (.int .i64 0)]) (sub_eq rfl)
        ⟨by simp, by simp; omega, isRow_nil _ _, by simp, by simp⟩ ?_
      rintro ⟨i, ns, row⟩ ⟨g1, g2, g3, g4, g5⟩
      simp only at g1 g2 g3 g4 g5
      simp only [go_sem, seval]
      refine gt tabOk dpW (((500000, 0), (500000, 0)) :: rnI) [0, 4, 7, 62, 63, 64] rfl ?_; simp only [go_sem, seval]
      refine gif2 rfl (fun hc => ?_) (fun hc => ?_)
      rotate_left
      ·
        have hic : i = cnt := by simp only [decide_eq_false_iff_not] at hc; omega
        subst hic
        have hrd : rdN ws i (p.pos + 1) [] = (true, p.pos + 1 + i, ns) := by rw [g5, Nat.sub_self, rdN]
        rw [hrd] at hcmd
        simp only at hcmd
        have hnl : ns.length = bif one1 w then 1 else 2 := by rw [hcnt]; exact g3.1.symm
        have c := c40 (gl := gl) ws { p with pos := p.pos + 1 + i } w g3 hnl g4 h4 (by simp only; omega)
        simp only at c
        generalize nextP w (lastP p.way) ns = t at c hcmd
        simp only [go_sem, seval]
        refine gt tabOk dpW (((10, 0), (10, 0)) :: rnC 84) [0, 10] rfl ?_; simp only [go_sem, seval]
        refine good_call c ?_; simp only [go_sem, seval]
        refine awp_seq ?_
        refine gt tabOk dpW (((10, 0), (10, 0)) :: rnI) [0, 10, 87] rfl ?_; simp only [go_sem, seval]
        refine good_call (c30 t.1 t.2) ?_; simp only [go_sem, seval]
        refine awp_cond rfl (fun hg => ?_) (fun hg => ?_)
        ·
          have hgp : goodPt t.1 t.2 = false := by simpa using hg
          refine ge tabOk dpW mixed rnI [2, 3] rfl (by kernel_rfl) ?_; simp only [go_sem, seval]
          have wr : IntKind.i64.wrap (((p.pos + 1 + i : Nat) : Int) - 1) = ((p.pos + 1 + i : Nat) : Int) - 1 := wrapI (by omega) (by omega)
          refine awp_ret ?_; simp only [go_sem, seval, ← hf, sameRow, hcmd, cmdQ, hgp, wr]
        ·
          have hgp : goodPt t.1 t.2 = true := by simpa using hg
          refine awp_skip ?_; simp only [go_sem, seval]
          refine gd tabOk dpW mixed [((2000000, 0), (2000000, 0)), ((600000, 1), (600000, 1)), ((600000, 3), (600000, 3)), ((101, 0), (600000, 4))] [] [(3, 7), (4, 7), (5, 7)] rfl (by kernel_rfl) ?_; simp only [go_sem, seval]
          have hrow : IsRow encP (p.way ++ [t]) (p.way.length + 1) (catRow p.way.length (rowsF encP p.way) (setRow (fun x => [D.v (Value.int IntKind.i64 0), D.v (Value.int IntKind.i64 0)]) 0 [D.v (Value.int IntKind.i64 t.1), D.v (Value.int IntKind.i64 t.2)])) :=
            IsRow.app (isRow_F encP p.way) t rfl
          have hlen := hrow.1
          refine ⟨by simp only [small]; omega, ?_⟩
          refine gt tabOk dpW rnI [2, 3] rfl ?_; simp only [go_sem, seval]
          refine awp_ret ?_; simp only [go_sem, seval, ← hf, sameRow, hcmd, cmdQ, hgp, ← hlen]
          exact hrow.same
      have hlt : i < cnt := by simp only [decide_eq_true_eq] at hc; omega
      have c := c39 (gl := gl) hw { p with pos := p.pos + 1 + i } (by simp only; omega)
      simp only at c
      refine gblk ?_
      refine gt tabOk dpW (((500000, 0), (500000, 0)) :: rnC 67) [0, 4, 7, 8, 9, 62, 63] rfl ?_; simp only [go_sem, seval]
      refine good_call c ?_; simp only [go_sem, seval]
      refine awp_seq ?_
      refine gt tabOk dpW (((500000, 0), (500000, 0)) :: rnI) [0, 4, 7, 8, 62, 63, 71] rfl ?_; simp only [go_sem, seval]
      refine awp_cond rfl (fun hn => ?_) (fun hn => ?_)
      ·
        have hn' : (pnum ws (p.pos + 1 + i)).2 = false := by simpa using hn
        have hrd : rdN ws cnt (p.pos + 1) [] = (false, p.pos + 1 + i, ns) := by rw [g5, show cnt - i = (cnt - i - 1) + 1 by omega, rdN, hn']; rfl
        rw [hrd] at hcmd
        simp only at hcmd
        rw [pnumPos_f hn']
        refine ge tabOk dpW mixed rnI [2, 3] rfl (by kernel_rfl) ?_; simp only [go_sem, seval]
        refine awp_ret ?_; simp only [go_sem, seval, ← hf, sameRow, hcmd]
      ·
        have hn' : (pnum ws (p.pos + 1 + i)).2 = true := by simpa using hn
        have hlt2 := pnum_lt hn' g2
        have hpb := pnum_bound ws (p.pos + 1 + i)
        have hrd : rdN ws (cnt - i) (p.pos + 1 + i) ns = rdN ws (cnt - (i + 1)) (p.pos + 1 + (i + 1)) (ns ++ [(pnum ws (p.pos + 1 + i)).1]) := by
          rw [show cnt - i = (cnt - (i + 1)) + 1 by omega, rdN, hn']; rfl
        rw [pnumPos_t hn']
        generalize (pnum ws (p.pos + 1 + i)).1 = v at hpb hrd
        refine awp_skip ?_; simp only [go_sem, seval]
        refine gt1 tabOk dpW (((79, 0), (500000, 0)) :: rnI) [0, 4, 7, 62, 63] rfl ?_; simp only [go_sem, seval]
        refine ⟨by simp only [small]; omega, ?_⟩
        refine gt1 tabOk dpW (((500000, 0), (500000, 0)) :: rnI) [0, 4, 7, 62, 63] rfl ?_; simp only [go_sem, seval]
        rw [wrapN (n := i) (by omega)]
        refine ⟨(i + 1, ns ++ [v], catRow i row (setRow (fun _ => [.v (.int .i64 0)]) 0 [.v (.int .i64 v)])), ⟨by simp only; omega, by simp only; omega, g3.app v rfl, ?_, by simp only; rw [g5, hrd]⟩, by simp only; omega, sub_eq rfl⟩
        intro n hn3
        simp only [List.mem_append, List.mem_singleton] at hn3
        rcases hn3 with hn3 | rfl
        · exact g4 n hn3
        · exact hpb
attribute [irreducible] cmdP cmdQ rdN
end Go.Ax
end

section
set_option maxRecDepth 4000
namespace Go.Ax
open Go Go.Proofs
variable {gl : Gl}

abbrev PR := List (List P2) × Int × Int × Bool

def runP (ws : List ByteArray) : Nat → PS → PR
  | 0, _ => ([], 0, 0, false)
  | f + 1, p => bif decide (p.pos < ws.length) then (bif decide ((cmdP ws p).1 ≠ 0) then ([], (cmdP ws p).1, (cmdP ws p).2.1, false) else runP ws f (cmdP ws p).2.2) else bif p.op then ([], 7, ws.length, false) else (p.ways, 0, 0, true)

def parseI (s : ByteArray) : PR := bif inB s.size 1 400 then runP (words s) ((words s).length + 1) ⟨0, [], [], false⟩ else ([], 1, 0, false)

theorem rdN_true {ws : List ByteArray} : ∀ {k i j : Nat} {ns ns' : List Int}, rdN ws k i ns = (true, j, ns') → i ≤ ws.length → j = i + k ∧ j ≤ ws.length := by
  intro k
  induction k with
  | zero => intro i j ns ns' h hi; unfold rdN at h; simp only [Prod.mk.injEq, true_and] at h; omega
  | succ k ih =>
    intro i j ns ns' h hi
    unfold rdN at h
    cases hp : (pnum ws i).2 with
    | true =>
      rw [hp] at h
      have := ih h (pnum_lt hp hi)
      omega
    | false => rw [hp] at h; simp at h

theorem goodPt_small {x y : Int} (h : goodPt x y = true) : SmallP 1000 (x, y) := by
  unfold goodPt inB at h
  simp only [Bool.and_eq_true, decide_eq_true_eq] at h
  exact h

structure PsIn (ws : List ByteArray) (p : PS) : Prop where
  pos : p.pos ≤ ws.length
  ways : p.ways.length ≤ p.pos
  way : p.way.length ≤ p.pos
  small : ∀ q, q ∈ p.way → SmallP 1000 q

theorem cmdP_in {ws : List ByteArray} {p : PS} (h : PsIn ws p) (hlt : p.pos < ws.length) (h0 : (cmdP ws p).1 = 0) : PsIn ws (cmdP ws p).2.2 ∧ p.pos < (cmdP ws p).2.2.pos := by
  obtain ⟨g1, g2, g3, g4⟩ := h
  unfold cmdP at h0 ⊢
  cases hf : decide (faultP (wAt ws p.pos) p ≠ 0) with
  | true => rw [hf] at h0; simp only [cond_true] at h0; simp [h0] at hf
  | false =>
    rw [hf] at h0
    simp only [cond_false] at h0 ⊢
    cases hz : decide (wAt ws p.pos = ⟨#[90]⟩) with
    | true =>
      simp only [cond_true]
      refine ⟨⟨by simp only; omega, by simp only [List.length_append, List.length_cons, List.length_nil]; omega, by simp, by simp⟩, by first | omega | (dsimp only; omega)⟩
    | false =>
      rw [hz] at h0
      simp only [cond_false] at h0 ⊢
      rcases hr : rdN ws (bif one1 (wAt ws p.pos) then 1 else 2) (p.pos + 1) [] with ⟨b, j, ns⟩
      rw [hr] at h0
      cases b with
      | false => simp at h0
      | true =>
        simp only at h0 ⊢
        obtain ⟨e1, e2⟩ := rdN_true hr (by omega)
        have e3 : p.pos + 1 ≤ j := by omega
        unfold cmdQ at h0 ⊢
        cases hg : goodPt (nextP (wAt ws p.pos) (lastP p.way) ns).1 (nextP (wAt ws p.pos) (lastP p.way) ns).2 with
        | false => rw [hg] at h0; simp at h0
        | true =>
          simp only [cond_true]
          refine ⟨⟨e2, by simp only; omega, by simp only [List.length_append, List.length_cons, List.length_nil]; omega, fun q hq => ?_⟩, by first | omega | (dsimp only; omega)⟩
          simp only [List.mem_append, List.mem_singleton] at hq
          rcases hq with hq | rfl
          · exact g4 q hq
          · exact goodPt_small hg

theorem rows_nil {α : Type} (enc : α → List D) : rowsF enc ([] : List α) = fun _ => [] := by funext i; simp [rowsF]

abbrev psQ0 (b : Id) (ws : List ByteArray) (p : PS) : List (Id × Option Obj) := [(b, some (.box [.own (600000, 1), .val (.int .i64 p.pos), .own (600000, 3), .own (600000, 4), .val (.bool p.op)])), ((600000, 1), some (.sl true 1 ws.length (rowsF encS ws) 0)), ((600000, 3), some (.sl true 1 p.ways.length (rowsF encW p.ways) 0)), ((600000, 4), some (.sl true 2 p.way.length (rowsF encP p.way) 0))]
abbrev rnI0 (b : Id) : List (Id × Id) := [(b, b), ((600000, 1), (600000, 1)), ((600000, 3), (600000, 3)), ((600000, 4), (600000, 4))]
abbrev rnC0 (b : Id) (d : Nat) : List (Id × Id) := [(b, b), ((d, 10000), (600000, 1)), ((d, 10002), (600000, 3)), ((d, 10003), (600000, 4))]

theorem inB_t {x lo hi : Int} (h : inB x lo hi = true) : lo ≤ x ∧ x ≤ hi := by unfold inB at h; simpa using h

theorem words_ok {s : ByteArray} (h : s.size ≤ 1000) : WsOk (words s) := ⟨by have := words_len s; omega, fun w hw => by have := words_size s w hw; omega⟩

theorem c10 (s : ByteArray) (hs : s.size < 1000000000000) : Det gl 10 [sA s] [.one (.own true 1 (parseI s).1.length (rowsF encW (parseI s).1)), iR (parseI s).2.1, iR (parseI s).2.2.1, bR (parseI s).2.2.2] [sA s] := by
  refine acallD (c := bodyOf Tryd.f10) (nt := 49) (rvs := [.tmp 2, .tmp 3, .tmp 4, .tmp 5]) tabOk ⟨Tryd.f10, Tryd.func10, rfl, rfl, rfl, rfl⟩ rfl ?_
  unfold bodyOf Tryd.f10
  dsimp only
  simp only [go_sem, seval]
  refine gt tabOk dpW [] [0] rfl ?_; simp only [go_sem, seval]
  refine awp_seq ?_
  refine gt tabOk dpW [] [0, 12] rfl ?_; simp only [go_sem, seval]
  refine good_call (c20 (s.size : Int) 1 400) ?_; simp only [go_sem, seval]
  refine awp_cond rfl (fun hc => ?_) (fun hc => ?_)
  ·
    have hc' : inB s.size 1 400 = false := by simpa using hc
    have hr : parseI s = ([], 1, 0, false) := by simp only [parseI, hc', cond_false]
    refine gt tabOk dpW [] [2, 3, 4, 5] rfl ?_; simp only [go_sem, seval]
    refine awp_ret ?_; simp only [go_sem, seval, hr]
  ·
    have hc' : inB s.size 1 400 = true := by simpa using hc
    have hsz := inB_t hc'
    have hr : parseI s = runP (words s) ((words s).length + 1) ⟨0, [], [], false⟩ := by simp only [parseI, hc', cond_true]
    have hwl := words_len s
    have hwo := words_ok (s := s) (by omega)
    have c := c23 (gl := gl) s (by omega)
    generalize words s = ws at hr hwl hwo c
    refine awp_skip ?_; simp only [go_sem, seval]
    refine gt tabOk dpW [((16, 0), (16, 0)), ((14, 0), (600000, 1))] [6] rfl ?_; simp only [go_sem, seval]
    refine good_call c ?_; simp only [go_sem, seval]
    refine gloop (fun p : PS => St.m 49 [(6, .c (.ptr (16, 0) 0))] (psQ0 (16, 0) ws p)) (fun p => PsIn ws p ∧ ∃ f, ws.length - p.pos < f ∧ parseI s = runP ws f p) (fun p => ws.length - p.pos) ⟨0, [], [], false⟩
      (sub_trans (sub_adoptB (16, 0) 2 (600000, 3) true 1 rfl rfl rfl rfl) (sub_trans (sub_adoptB (16, 0) 3 (600000, 4) true 2 rfl rfl rfl rfl) (sub_norm' (rnI0 (16, 0)) [6] rfl (by simp only [go_sem, seval, rows_nil, List.set_cons_succ, List.set_cons_zero]; rfl))))
      ⟨⟨by simp, by simp, by simp, by simp⟩, ws.length + 1, by simp, hr⟩ ?_
    rintro p ⟨hp, f, hf, hrun⟩
    obtain ⟨f, rfl⟩ : ∃ g, f = g + 1 := ⟨f - 1, by omega⟩
    have h1 := hp.pos
    have h2 := hp.ways
    have h3 := hp.way
    unfold runP at hrun
    simp only [go_sem, seval]
    refine awp_seq ?_
    refine ge tabOk dpW mixed (rnI0 (16, 0)) [6, 26] rfl (by kernel_rfl) ?_; simp only [go_sem, seval]
    refine awp_cond rfl (fun hc => ?_) (fun hc => ?_)
    ·
      have hlt : p.pos < ws.length := by simp only [decide_eq_true_eq] at hc; omega
      rw [show decide (p.pos < ws.length) = true by simpa using hlt, cond_true] at hrun
      have c := c24 (gl := gl) hwo p hlt ⟨by omega, by omega, hp.small⟩
      have hin := cmdP_in hp hlt
      generalize cmdP ws p = r at hrun c hin
      obtain ⟨code, ix, p'⟩ := r
      simp only at hrun c hin
      refine awp_skip ?_; simp only [go_sem, seval]
      refine awp_block ?_
      refine gt tabOk dpW (rnC0 (16, 0) 29) [6, 7, 8] rfl ?_; simp only [go_sem, seval]
      refine good_call c ?_; simp only [go_sem, seval]
      refine gt tabOk dpW (rnI0 (16, 0)) [6, 7, 8, 33] rfl ?_; simp only [go_sem, seval]
      refine awp_cond rfl (fun h0 => ?_) (fun h0 => ?_)
      ·
        rw [show decide (code ≠ 0) = true by simpa using h0, cond_true] at hrun
        refine gt tabOk dpW [] [2, 3, 4, 5] rfl ?_; simp only [go_sem, seval]
        refine awp_ret ?_; simp only [go_sem, seval, hrun]
      ·
        rw [show decide (code ≠ 0) = false by simpa using h0, cond_false] at hrun
        obtain ⟨k1, k2⟩ := hin (by simpa using h0)
        refine awp_skip ?_; simp only [go_sem, seval]
        exact ⟨p', ⟨k1, f, by omega, hrun⟩, by have := k1.pos; omega, sub_norm' (rnI0 (16, 0)) [6] rfl (by simp only [go_sem, seval])⟩
    ·
      have hge : ¬ p.pos < ws.length := by simp only [decide_eq_false_iff_not] at hc; omega
      rw [show decide (p.pos < ws.length) = false by simpa using hge, cond_false] at hrun
      refine awp_exit ?_; simp only [go_sem, seval]
      refine awp_seq ?_
      refine gt tabOk dpW (rnI0 (16, 0)) [6, 39] rfl ?_; simp only [go_sem, seval]
      refine awp_cond rfl (fun ho => ?_) (fun ho => ?_)
      ·
        rw [ho, cond_true] at hrun
        refine ge tabOk dpW mixed [] [2, 3, 4, 5] rfl (by kernel_rfl) ?_; simp only [go_sem, seval]
        refine awp_ret ?_; simp only [go_sem, seval, hrun]
      ·
        rw [ho, cond_false] at hrun
        refine awp_skip ?_; simp only [go_sem, seval]
        refine gt tabOk dpW [((600000, 3), (600000, 3))] [2, 3, 4, 5] rfl ?_; simp only [go_sem, seval]
        refine awp_ret ?_; simp only [go_sem, seval, hrun, sameRow]
attribute [irreducible] runP parseI
end Go.Ax
end
