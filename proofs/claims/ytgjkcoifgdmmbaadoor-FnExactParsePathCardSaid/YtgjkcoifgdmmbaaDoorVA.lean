/- What comes in, and what the listed variables hold. -/
import Derived.Test.YtgjkcoifgdmmbaaDoorPC
import Derived.Test.YtgjkcoifgdmmbaaDoorCards
import Derived.Test.YtgjkcoifgdmmbaaDoorTie
import Derived.ProofKit
import Derived.OpenShut
import Derived.LaidMore
import Derived.Lay
import Derived.LaidLaws
import Derived.SevenTiedAt
import Derived.Stop.Joined
import Derived.Lib.LaidTab
set_option linter.unusedSimpArgs false
set_option linter.unusedVariables false
section
namespace Go.Proofs.YtgjkcoifgdmmbaaDoor
open Go.ChangeShapes Go.WideShapes Go.ChangeAt Go.RowKit
set_option maxRecDepth 100000

theorem own : ownKnob Tryd.prog.godebug = none := by kernel_rfl
theorem cells23 : Tryd.prog.cellsOf 23 = 4 := by kernel_rfl
theorem cells3 : Tryd.prog.cellsOf 3 = 1 := by kernel_rfl

section
variable {H : Type} {enc : TypeId × Value → H} {W : World} {base : Nat} {sp : Nat → Bool} {held : Bool}

theorem open_win {r : Reach} {b0 : Nat} {v : Value} {d : DataW H} {ps : List MemPlace} (hval : Value.okWide Tryd.prog W r b0 23 v) (hd : DataW.Trod enc Tryd.prog W base sp held 23 v d ps) :
    ∃ x y w h : Int, v = .agg #[.int .i64 x, .int .i64 y, .int .i64 w, .int .i64 h] ∧ d = .agg [.lit (.int .i64 x), .lit (.int .i64 y), .lit (.int .i64 w), .lit (.int .i64 h)] ∧ ps = [] ∧
      ((Lit.int .i64 x).wf = true ∧ (Lit.int .i64 y).wf = true ∧ (Lit.int .i64 w).wf = true ∧ (Lit.int .i64 h).wf = true) := by
  obtain ⟨cs, rfl, hz⟩ := okWide_struct Tryd.underlying23 hval
  rw [cells23] at hz
  obtain ⟨fuel, hf⟩ := hd
  obtain ⟨xs, n, _, hx, _, hlen, hel⟩ := DataW.trod_struct Tryd.underlying23 hf
  have hcs : (Value.agg cs).cells.toList = cs.toList := rfl
  rw [hcs] at hel
  obtain ⟨c0, c1, c2, c3, hc⟩ : ∃ c0 c1 c2 c3, cs = #[c0, c1, c2, c3] := by
    match cs, hz with
    | ⟨[c0, c1, c2, c3]⟩, _ => exact ⟨c0, c1, c2, c3, rfl⟩
  subst hc
  match xs, hlen, hx, hel with
  | [y0, y1, y2, y3], _, hx, hel =>
    have e0 : DataW.trod enc Tryd.prog W base sp held n 3 [c0] = some y0 := by have := hel 0 _ rfl; simpa [cells3] using this
    have e1 : DataW.trod enc Tryd.prog W base sp held n 3 [c1] = some y1 := by have := hel 1 _ rfl; simpa [cells3] using this
    have e2 : DataW.trod enc Tryd.prog W base sp held n 3 [c2] = some y2 := by have := hel 2 _ rfl; simpa [cells3] using this
    have e3 : DataW.trod enc Tryd.prog W base sp held n 3 [c3] = some y3 := by have := hel 3 _ rfl; simpa [cells3] using this
    obtain ⟨x, f0, g0, w0⟩ := DataW.trod_int Tryd.underlying3 e0
    obtain ⟨y, f1, g1, w1⟩ := DataW.trod_int Tryd.underlying3 e1
    obtain ⟨w, f2, g2, w2⟩ := DataW.trod_int Tryd.underlying3 e2
    obtain ⟨h, f3, g3, w3⟩ := DataW.trod_int Tryd.underlying3 e3
    simp only [List.cons.injEq, and_true] at f0 f1 f2 f3
    subst f0; subst f1; subst f2; subst f3; subst g0; subst g1; subst g2; subst g3
    refine ⟨x, y, w, h, rfl, (Prod.mk.inj hx).1, ?_, w0, w1, w2, w3⟩
    have := (Prod.mk.inj hx).2
    simpa using this

theorem shut_win {x y w h : Int} (w0 : (Lit.int .i64 x).wf = true) (w1 : (Lit.int .i64 y).wf = true) (w2 : (Lit.int .i64 w).wf = true) (w3 : (Lit.int .i64 h).wf = true) :
    DataW.Trod enc Tryd.prog W base sp held 23 (.agg #[.int .i64 x, .int .i64 y, .int .i64 w, .int .i64 h]) (.agg [.lit (.int .i64 x), .lit (.int .i64 y), .lit (.int .i64 w), .lit (.int .i64 h)]) [] := by
  have t : ∀ z : Int, (Lit.int .i64 z).wf = true → DataW.trod enc Tryd.prog W base sp held 1 3 [.int .i64 z] = some (.lit (.int .i64 z), []) := fun z hz => trod_int_mk 0 Tryd.underlying3 hz
  refine ⟨2, ?_⟩
  refine trod_struct_mk (xs := [(.lit (.int .i64 x), []), (.lit (.int .i64 y), []), (.lit (.int .i64 w), []), (.lit (.int .i64 h), [])]) Tryd.underlying23 (by rw [cells23]; rfl) ?_
  have hc : (Value.agg #[Value.int .i64 x, .int .i64 y, .int .i64 w, .int .i64 h]).cells.toList = [.int .i64 x, .int .i64 y, .int .i64 w, .int .i64 h] := rfl
  rw [hc]
  simp [cells3, t, w0, w1, w2, w3]
end

theorem laid_at {W : World} {name : String} {d : DataW Unit} : ∀ {l : List (String × DataW Unit)} {ps : List MemPlace}, DataW.LaidVars Tryd.prog W l ps → (name, d) ∈ l →
    ∃ g t cs fuel p, Tryd.prog.globalNamed name = some g ∧ (Tryd.prog.globals[g]?).map (·.type) = some t ∧ W.var? Tryd.prog name = some cs ∧ DataW.trod (fun _ => ()) Tryd.prog W 0 (fun _ => true) false fuel t cs.toList = some (d, p) := by
  intro l
  induction l with
  | nil => intro ps _ h; simp at h
  | cons x l ih =>
    intro ps h hm
    obtain ⟨n, d'⟩ := x
    obtain ⟨g, t, cs, fuel, p, q, h1, h2, h3, h4, h5, _⟩ := h
    simp only [List.mem_cons] at hm
    rcases hm with hm | hm
    · obtain ⟨rfl, rfl⟩ := Prod.mk.inj hm
      exact ⟨g, t, cs, fuel, p, h1, h2, h3, h4⟩
    · exact ih h5 hm

theorem gPow : Tryd.prog.globalNamed "internal/strconv.uint64pow10" = some 3 := by kernel_rfl
theorem tPow : (Tryd.prog.globals[3]?).map (·.type) = some 132 := by kernel_rfl
theorem gSyn : Tryd.prog.globalNamed "strconv.ErrSyntax" = some 4 := by kernel_rfl
theorem gRan : Tryd.prog.globalNamed "strconv.ErrRange" = some 5 := by kernel_rfl
theorem tSyn : (Tryd.prog.globals[4]?).map (·.type) = some 92 := by kernel_rfl
theorem tRan : (Tryd.prog.globals[5]?).map (·.type) = some 92 := by kernel_rfl
theorem cells132 : Tryd.prog.cellsOf 132 = 20 := by kernel_rfl
theorem cells110 : Tryd.prog.cellsOf 110 = 1 := by kernel_rfl

theorem heap_of_var {W : World} {name : String} {g : Nat} {cs : Array Value} (hg : Tryd.prog.globalNamed name = some g) (h : W.var? Tryd.prog name = some cs) : ∃ et fr, W.heap[g]? = some (.cells cs et fr) := by
  unfold World.var? at h
  rw [hg] at h
  simp only [Option.bind_some] at h
  split at h
  · next c et fr hb => simp only [Option.some.injEq] at h; subst h; exact ⟨et, fr, hb⟩
  · cases h

theorem tab_of {W : World} {l : List (String × DataW Unit)} (h : laidMet Tryd.prog l W) (hm : ("internal/strconv.uint64pow10", Lib.tabData .u64 Go.Ax.pow10L) ∈ l) :
    ∃ et fr, W.heap[3]? = some (.cells (Go.Ax.pow10L.map fun z => Value.int .u64 z).toArray et fr) := by
  obtain ⟨ps, hl, _, _⟩ := h
  obtain ⟨g, t, cs, fuel, p, h1, h2, h3, h4⟩ := laid_at hl hm
  obtain rfl := Option.some.inj (gPow.symm.trans h1)
  obtain rfl := Option.some.inj (tPow.symm.trans h2)
  have e := Lib.cells_of_tab Tryd.underlying132 Tryd.underlying110 cells110 cells132 h4
  have ec : cs = (Go.Ax.pow10L.map fun z => Value.int .u64 z).toArray := by cases cs; simpa using e
  subst ec
  exact heap_of_var gPow h3

theorem iface_of {W : World} {l : List (String × DataW Unit)} {name nm : String} {d : DataW Unit} (h : laidMet Tryd.prog l W) (hm : (name, .iface nm d) ∈ l) {g : Nat} (hg : Tryd.prog.globalNamed name = some g) (ht : (Tryd.prog.globals[g]?).map (·.type) = some 92) :
    ∃ u v et fr, W.heap[g]? = some (.cells #[.iface u v] et fr) := by
  obtain ⟨ps, hl, _, _⟩ := h
  obtain ⟨g', t, cs, fuel, p, h1, h2, h3, h4⟩ := laid_at hl hm
  obtain rfl := Option.some.inj (hg.symm.trans h1)
  obtain rfl := Option.some.inj (ht.symm.trans h2)
  obtain ⟨_, u, v, e, _, _⟩ := iface_of_trod Tryd.underlying92 h4
  have ec : cs = #[.iface u v] := by cases cs; simpa using e
  subst ec
  obtain ⟨et, fr, h5⟩ := heap_of_var hg h3
  exact ⟨u, v, et, fr, h5⟩

open Go.Ax in
def owG : Own := fun b => if b = 3 ∨ b = 4 ∨ b = 5 then some .fz else none

open Go.Ax in
theorem owG_free (b : Nat) : owG b = none ∨ owG b = some .fz := by unfold owG; split <;> simp

open Go.Ax in

theorem entry_of {W : World} {args : List Arg} {vs : Array Value} (h : laidMet Tryd.prog Rows.fnExactFitsWindowRow.laid W) (hz : vs.size = args.length) (hr : ∀ j a, args[j]? = some a → ∃ v, vs[j]? = some v ∧ RepArg W owG j a v) :
    ∃ gl : Gl, Entry (EE gl) W owG args vs := by
  obtain ⟨t3, f3, h3⟩ := tab_of h (by simp only [Rows.fnExactFitsWindowRow, List.mem_cons]; right; right; left; rfl)
  obtain ⟨u4, v4, t4, f4, h4⟩ := iface_of (name := "strconv.ErrSyntax") h (by simp only [Rows.fnExactFitsWindowRow, List.mem_cons]; right; right; right; right; right; left; rfl) gSyn tSyn
  obtain ⟨u5, v5, t5, f5, h5⟩ := iface_of (name := "strconv.ErrRange") h (by simp only [Rows.fnExactFitsWindowRow, List.mem_cons]; right; right; right; right; left; rfl) gRan tRan
  refine ⟨⟨.iface u4 v4, .iface u5 v5, .inr ⟨_, _, rfl⟩, .inr ⟨_, _, rfl⟩⟩, hz, hr, fun b t hb => ?_, fun g cs hg => ?_⟩
  · rcases owG_free b with e | e
    · rw [e] at hb; cases hb
    · rw [e] at hb; left; exact (Option.some.inj hb).symm
  · have hg' : lk (glGlobs ⟨.iface u4 v4, .iface u5 v5, .inr ⟨_, _, rfl⟩, .inr ⟨_, _, rfl⟩⟩) g = some cs := hg
    by_cases e3 : g = 3
    · subst e3
      obtain rfl : pow10L.map (fun x => D.v (.int .u64 x)) = cs := Option.some.inj hg'
      refine ⟨_, t3, f3, h3, rfl, fun j d hj => ?_, by simp⟩
      rw [List.getElem?_map, Option.map_eq_some_iff] at hj
      obtain ⟨x, hx, rfl⟩ := hj
      exact ⟨.int .u64 x, by rw [List.getElem?_toArray, List.getElem?_map, hx]; rfl, .v _ _ rfl⟩
    by_cases e4 : g = 4
    · subst e4
      obtain rfl : [D.v (.iface u4 v4)] = cs := Option.some.inj hg'
      refine ⟨_, t4, f4, h4, rfl, fun j d hj => ?_, rfl⟩
      rcases j with _ | j
      · simp only [List.getElem?_cons_zero, Option.some.injEq] at hj; subst hj; exact ⟨_, rfl, .v _ _ rfl⟩
      · simp at hj
    by_cases e5 : g = 5
    · subst e5
      obtain rfl : [D.v (.iface u5 v5)] = cs := Option.some.inj hg'
      refine ⟨_, t5, f5, h5, rfl, fun j d hj => ?_, rfl⟩
      rcases j with _ | j
      · simp only [List.getElem?_cons_zero, Option.some.injEq] at hj; subst hj; exact ⟨_, rfl, .v _ _ rfl⟩
      · simp at hj
    · have n3 : (3 == g) = false := by simp; omega
      have n4 : (4 == g) = false := by simp; omega
      have n5 : (5 == g) = false := by simp; omega
      simp only [glGlobs, lk, n3, n4, n5, cond_false] at hg'
      cases hg'
end Go.Proofs.YtgjkcoifgdmmbaaDoor
end
