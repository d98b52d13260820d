/- For every text and every window the law on FitsWindow returns true and leaves its arguments alone, where the listed variables hold what the program lays. -/
import Derived.Test.YtgjkcoifgdmmbaaDoorPF
import Derived.Test.YtgjkcoifgdmmbaaDoorVA
import Derived.ChangeMaps5
set_option linter.unusedSimpArgs false
set_option linter.unusedVariables false
section
namespace Go.Proofs.YtgjkcoifgdmmbaaDoor
open Go.ChangeShapes Go.WideShapes Go.ChangeAt Go.RowKit Go.ChangeMaps
set_option maxRecDepth 100000

open Go.Ax in

theorem calls_of {gl : Gl} {f : FuncId} {args : List Arg} {b : Bool} {W : World} {vs : Array Value} (h : Det gl f args [bR b] args) (he : Entry (EE gl) W owG args vs) :
    Calls Tryd.prog f vs W fun e W' => e = .returned (.bool b) ∧ Below W.heap.size W W' :=
  (h.2.2 W owG vs he).mono fun e W' ⟨v, ow', r, u, h1, ⟨h2, _⟩, h3, _, h5⟩ => by
    subst h2
    have hv : v = .bool b := Rep.v_inv h3
    subst hv
    exact ⟨h1, h5.os, h5.tape, h5.output, h5.size, fun k hk => (h5.old k hk (owG_free k)).1⟩

open Go.Ax in
theorem law (s : ByteArray) (x y w h : Int) (W : World) (hL : laidMet Tryd.prog Rows.fnExactFitsWindowRow.laid W) :
    Calls Tryd.prog 3 #[.string s, .agg #[.int .i64 x, .int .i64 y, .int .i64 w, .int .i64 h]] W fun e W' => e = .returned (.bool true) ∧ Below W.heap.size W W' := by
  obtain ⟨gl, he⟩ := entry_of (args := [sA s, .agg [vI x, vI y, vI w, vI h]]) (vs := #[.string s, .agg #[.int .i64 x, .int .i64 y, .int .i64 w, .int .i64 h]]) hL rfl (fun j a ha => by
    rcases j with _ | _ | j
    · simp only [List.getElem?_cons_zero, Option.some.injEq] at ha; subst ha
      exact ⟨_, rfl, .v _ _ rfl⟩
    · simp only [List.getElem?_cons_succ, List.getElem?_cons_zero, Option.some.injEq] at ha; subst ha
      refine ⟨_, rfl, _, rfl, rfl, fun i d hd => ?_⟩
      rcases i with _ | _ | _ | _ | i
      · simp at hd; subst hd; exact ⟨_, rfl, .v _ _ rfl⟩
      · simp at hd; subst hd; exact ⟨_, rfl, .v _ _ rfl⟩
      · simp at hd; subst hd; exact ⟨_, rfl, .v _ _ rfl⟩
      · simp at hd; subst hd; exact ⟨_, rfl, .v _ _ rfl⟩
      · simp at hd
    · simp at ha)
  exact calls_of (c3 s x y w h) he

theorem lifted (os : Os) (started : os.Started) (H : Type) (enc : TypeId × Value → H) :
    ReturnsInHanded {} Tryd.checked os 3 .any (fun w args => (Rows.fnExactFitsWindowSpec.pre enc Tryd.prog Tryd.f3 Rows.fnExactFitsWindowRow.domain false w args ∧ laidMetH Tryd.prog Rows.fnExactFitsWindowRow.laid w) ∧ sizedMet enc Tryd.prog Tryd.f3 (OpenSpec.ofChange Rows.fnExactFitsWindowSpec) false w args)
      (Rows.fnExactFitsWindowSpec.post enc Tryd.prog Tryd.f3 false true false false) := by
  refine returnsInHanded_of_change_and (C := Tryd.checked) (X := fun w _ => laidMetH Tryd.prog Rows.fnExactFitsWindowRow.laid w) (fun _ _ _ hh h => h.of_heap hh) own started (by kernel_rfl) Tryd.func3
    (ChangeSpec.witness_shaped (enc := enc) (C := Tryd.checked) (os := os) (X := fun w _ => laidMetH Tryd.prog Rows.fnExactFitsWindowRow.laid w) false (World.laidAll Tryd.prog os Rows.fnExactFitsWindowRow.laid) #[.string ByteArray.empty, .agg #[.int .i64 0, .int .i64 0, .int .i64 0, .int .i64 0]] 8 (World.laidAll_os _ _ _)
      (World.shaped_of_ZipB (by kernel_rfl) (by kernel_rfl)) (by kernel_rfl) (by kernel_rfl) (by kernel_rfl)
      (by rw [MakeChecks.laidMetH_plain _ _ _ (by kernel_rfl)]; exact laidMet_laidAll _ (by kernel_rfl) (by kernel_rfl))) ?_
  intro W base args ds gs before hval0 hW hc _ hL _
  have hval : ∀ (j : Nat) t v, Tryd.f3.params[j]? = some t → args[j]? = some v → Value.okWide Tryd.prog W .any base t v := hval0
  have hW' := hW
  obtain ⟨p, q, hA0, hV, rfl, _, _⟩ := hW
  have hA : DataW.TrodAll enc Tryd.prog W 0 (fun _ => true) true Tryd.f3.params.toList args.toList ds p := hA0
  rw [Tryd.params3] at hA hval
  obtain ⟨v0, v1, d0, d1, p0, p1, rfl, rfl, rfl, h0, h1⟩ := trodAll_two hA
  obtain ⟨rfl, rfl⟩ := trodVars_none hV
  obtain ⟨s, rfl, rfl, rfl, ws⟩ := open_string Tryd.underlying9 (hval 0 9 v0 rfl rfl) h0
  obtain ⟨x, y, w, h, rfl, rfl, rfl, w0, w1, w2, w3⟩ := open_win (hval 1 23 v1 rfl rfl) h1
  rw [MakeChecks.laidMetH_plain _ _ _ (by kernel_rfl)] at hL
  refine (law s x y w h W hL).mono fun e W' ⟨he, hb⟩ => ?_
  subst he
  exact ⟨_, rfl, _, _, _, [], [], [], hW', trodAll_mk1 (shut_bool Tryd.underlying4 true), trodAll_mk2 (shut_string Tryd.underlying9 ws) (shut_win w0 w1 w2 w3), rfl, hb.frame _, fun h => by cases h⟩

theorem holds : Rows.FnExactFitsWindowSaid :=
  OpenClaim.holds_of_wide 3 Tryd.f3 rfl rfl rfl rfl rfl rfl rfl ⟨rfl, rfl, rfl, rfl, rfl⟩ rfl rfl rfl rfl rfl (by kernel_rfl) Tryd.func3 (by kernel_rfl)
    (of_decide_eq_true (by kernel_rfl)) (by unfold Func.isWrapper; first | (rw [if_pos (by decide +kernel)]; kernel_rfl) | (rw [if_neg (by decide +kernel)]; exact ⟨rfl, rfl⟩))
    (fun os started H enc _ => lifted os started H enc)

theorem fitsWindow_card : Rows.FnExactFitsWindowCardSaid :=
  Claim7.holds_tied_plain_at .later [] _ _ _ _ holds (fun _ h => by cases h) (by kernel_rfl) (fun _ h => by cases h) fnExactFitsWindow_row_tie rfl ⟨rfl, rfl⟩ (by kernel_rfl) rfl
    (fun f fn hf hfn => by
      obtain rfl : f = 3 := Option.some.inj ((show Tryd.prog.funcNamed "loop.example/g00409/laws.FnExactFitsWindow" = some 3 by kernel_rfl).symm.trans hf) |>.symm
      obtain rfl : fn = Tryd.f3 := (Option.some.inj (Tryd.func3.symm.trans hfn)).symm
      exact ⟨by kernel_rfl, fun j t ht => by
        rw [Tryd.params3] at ht
        have hm : t ∈ [9, 23] := by simpa using Array.mem_of_getElem? ht
        have hall : ([9, 23].all fun u => !Tryd.prog.wantsStandIn u) = true := by kernel_rfl
        exact (show Tryd.prog.wantsStandIn t = false by simpa using List.all_eq_true.1 hall t hm)⟩)
    (by kernel_rfl)
end Go.Proofs.YtgjkcoifgdmmbaaDoor
end
