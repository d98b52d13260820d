/- Ways compared and marked, and the law on ParsePath. -/
import Derived.Test.YtgjkcoifgdmmbaaDoorPF
import Derived.Test.YtgjkcoifgdmmbaaDoorXF
set_option linter.unusedSimpArgs false
set_option linter.unusedVariables false
section
set_option maxRecDepth 4000
namespace Go.Ax
open Go Go.Proofs
variable {gl : Gl}

def mkL : Int → List P2 → List P2
  | _, [] => []
  | k, _ :: l => (k, k + 1) :: mkL (k + 2) l

theorem mkL_len : ∀ (l : List P2) (k : Int), (mkL k l).length = l.length := by
  intro l
  induction l with
  | nil => intro k; rfl
  | cons a l ih => intro k; simp [mkL, ih]

theorem mkL_get : ∀ (l : List P2) (k : Int) (i : Nat), i < l.length → (mkL k l)[i]? = some (k + 2 * i, k + 2 * i + 1) := by
  intro l
  induction l with
  | nil => intro k i h; simp at h
  | cons a l ih =>
    intro k i h
    cases i with
    | zero => simp [mkL]
    | succ i =>
      simp only [mkL, List.getElem?_cons_succ]
      rw [ih (k + 2) i (by simpa using h)]
      congr 2 <;> omega

theorem c26 (l : List P2) (k : Int) (h1 : 0 ≤ k) (h2 : k ≤ 1000000000) (hl : l.length ≤ 1000000000) : Det gl 26 [.xsl true 2 l.length (rowsF encP l), iA k] [iR (k + 2 * l.length)] [.xsl true 2 l.length (rowsF encP (mkL k l)), iA k] := by
  refine acallD (c := bodyOf Tryd.f26) (nt := 27) (rvs := [.tmp 4]) tabOk ⟨Tryd.f26, Tryd.func26, rfl, rfl, rfl, rfl⟩ rfl ?_
  unfold bodyOf Tryd.f26
  dsimp only
  simp only [go_sem, seval]
  have hlen : ∀ i, i < l.length → ∃ a, rowsF encP l i = [vI (Prod.fst a), vI (Prod.snd a)] := fun i hi => ⟨l[i], by rw [rowsF_some (x := l[i]) (by simp [hi])]; rfl⟩
  refine gt tabOk dp0 [((2000000, 0), (2000000, 0))] [0, 1] rfl ?_; simp only [go_sem, seval]
  refine awp_seq ?_
  refine gt tabOk dp0 [((2000000, 0), (2000000, 0))] [0, 1, 5] rfl ?_; simp only [go_sem, seval]
  refine gloop1 (fun i : Nat × (Nat → List D) => St.m 27 [(0, .c (.own (2000000, 0))), (1, .int (k + 2 * (i.1 : Int))), (5, .int i.1)] [((2000000, 0), some (.sl true 2 l.length i.2 0))])
    (fun i => i.1 ≤ l.length ∧ (∀ m, m < i.1 → i.2 m = [vI (k + 2 * (m : Int)), vI (k + 2 * (m : Int) + 1)]) ∧ (∀ m, i.1 ≤ m → m < l.length → ∃ a : P2, i.2 m = [vI a.1, vI a.2])) (fun i => l.length - i.1) (0, rowsF encP l) (sub_eq (by simp only [Int.natCast_zero, Int.mul_zero, Int.add_zero])) ⟨by simp, by simp, fun m _ hm => hlen m hm⟩ ?_
  rintro ⟨i, row⟩ ⟨g1, g2, g3⟩
  simp only at g1 g2 g3
  simp only [go_sem, seval]
  refine awp_seq ?_
  refine gt tabOk dp0 [((2000000, 0), (2000000, 0))] [0, 1, 5, 9] rfl ?_; simp only [go_sem, seval]
  refine awp_cond rfl (fun hc => ?_) (fun hc => ?_)
  ·
    have hlt : i < l.length := by simp only [decide_eq_true_eq] at hc; omega
    obtain ⟨a, ha⟩ := g3 i (Nat.le_refl _) hlt
    refine awp_skip ?_; simp only [go_sem, seval]
    refine gblk ?_
    refine gt tabOk dp0 [((2000000, 0), (2000000, 0))] [0, 1, 5] rfl ?_; simp only [go_sem, seval, Int.toNat_natCast, ha]
    refine ⟨by omega, ?_⟩
    refine gt tabOk dp0 [((2000000, 0), (2000000, 0))] [0, 1, 5] rfl ?_; simp only [go_sem, seval]
    rw [wrapI (x := k + 2 * (i : Int) + 1) (by omega) (by omega)]
    refine gt tabOk dp0 [((2000000, 0), (2000000, 0))] [0, 1, 5] rfl ?_; simp only [go_sem, seval, Int.toNat_natCast]
    refine ⟨by omega, ?_⟩
    refine gt1 tabOk dp0 [((2000000, 0), (2000000, 0))] [0, 1, 5] rfl ?_; simp only [go_sem, seval]
    rw [wrapI (x := k + 2 * (i : Int) + 1 + 1) (by omega) (by omega)]
    refine gt1 tabOk dp0 [((2000000, 0), (2000000, 0))] [0, 1, 5] rfl ?_; simp only [go_sem, seval]
    rw [wrapN (n := i) (by omega)]
    have hr : ∀ m, setRow (setRow row i [D.v (Value.int IntKind.i64 (k + 2 * (i : Int))), vI a.snd]) i [D.v (Value.int IntKind.i64 (k + 2 * (i : Int))), D.v (Value.int IntKind.i64 (k + 2 * (i : Int) + 1))] m = if m = i then [vI (k + 2 * (i : Int)), vI (k + 2 * (i : Int) + 1)] else row m := fun m => by
      unfold setRow
      by_cases e : m = i
      · subst e; simp
      · have : (m == i) = false := by simpa using e
        simp [this, e]
    refine ⟨(i + 1, _), ⟨by simp only; omega, fun m hm => ?_, fun m h3 h4 => ?_⟩, by simp only; omega, sub_eq (by simp only [show k + 2 * (i : Int) + 1 + 1 = k + 2 * ((i + 1 : Nat) : Int) by omega]; rfl)⟩
    · simp only at hm ⊢
      rw [hr m]
      by_cases e : m = i
      · subst e; rw [if_pos rfl]
      · rw [if_neg e]; exact g2 m (by omega)
    · simp only at h3 ⊢
      rw [hr m, if_neg (by omega)]; exact g3 m (by omega) h4
  ·
    have hi : i = l.length := by simp only [decide_eq_false_iff_not] at hc; omega
    subst hi
    refine awp_exit ?_; simp only [go_sem, seval]
    refine gt tabOk dp0 [((2000000, 0), (2000000, 0))] [4] rfl ?_; simp only [go_sem, seval]
    refine awp_ret ?_; simp only [go_sem, seval, sameRow]
    intro m hm
    rw [g2 m hm, rowsF_some (mkL_get l k m hm)]; rfl

def mkWs : Int → List (List P2) → List (List P2)
  | _, [] => []
  | k, a :: l => mkL k a :: mkWs (k + 2 * a.length) l

def kAt (k : Int) (l : List (List P2)) (i : Nat) : Int := k + 2 * ((l.take i).map List.length).sum

theorem kAt_succ {k : Int} {l : List (List P2)} {i : Nat} {a : List P2} (h : l[i]? = some a) : kAt k l (i + 1) = kAt k l i + 2 * a.length := by
  unfold kAt
  rw [List.take_add_one, h]
  simp only [Option.toList_some, List.map_append, List.map_cons, List.map_nil, List.sum_append, List.sum_cons, List.sum_nil]
  omega

theorem mkWs_get : ∀ (l : List (List P2)) (k : Int) (i : Nat) (a : List P2), l[i]? = some a → (mkWs k l)[i]? = some (mkL (kAt k l i) a) := by
  intro l
  induction l with
  | nil => intro k i a h; simp at h
  | cons b l ih =>
    intro k i a h
    cases i with
    | zero =>
      simp only [List.getElem?_cons_zero, Option.some.injEq] at h
      subst h
      simp [mkWs, kAt]
    | succ i =>
      simp only [List.getElem?_cons_succ] at h
      simp only [mkWs, List.getElem?_cons_succ]
      rw [ih _ i a h]
      unfold kAt
      simp only [List.take_succ_cons, List.map_cons, List.sum_cons]
      congr 2; omega
theorem mkWs_len : ∀ (l : List (List P2)) (k : Int), (mkWs k l).length = l.length := by
  intro l
  induction l with
  | nil => intro k; rfl
  | cons a l ih => intro k; simp [mkWs, ih]

theorem c12 (l : List (List P2)) (k : Int) (h1 : 0 ≤ k) (h2 : ∀ i, i ≤ l.length → kAt k l i ≤ 1000000000) (hl : l.length ≤ 1000000000) (hw : ∀ w, w ∈ l → w.length ≤ 1000000) : Det gl 12 [.xsl true 1 l.length (rowsF encW l), iA k] [iR (kAt k l l.length)] [.xsl true 1 l.length (rowsF encW (mkWs k l)), iA k] := by
  refine acallD (c := bodyOf Tryd.f12) (nt := 19) (rvs := [.tmp 4]) tabOk ⟨Tryd.f12, Tryd.func12, rfl, rfl, rfl, rfl⟩ rfl ?_
  unfold bodyOf Tryd.f12
  dsimp only
  simp only [go_sem, seval]
  refine gt tabOk dp0 [((2000000, 0), (2000000, 0))] [0, 1] rfl ?_; simp only [go_sem, seval]
  refine awp_seq ?_
  refine gt tabOk dp0 [((2000000, 0), (2000000, 0))] [0, 1, 5] rfl ?_; simp only [go_sem, seval]
  refine gloop1 (fun i : Nat × (Nat → List D) => St.m 19 [(0, .c (.own (2000000, 0))), (1, .int (kAt k l i.1)), (5, .int i.1)] [((2000000, 0), some (.sl true 1 l.length i.2 0))])
    (fun i => i.1 ≤ l.length ∧ (∀ m a, m < i.1 → l[m]? = some a → i.2 m = encW (mkL (kAt k l m) a)) ∧ (∀ m a, i.1 ≤ m → l[m]? = some a → i.2 m = encW a)) (fun i => l.length - i.1) (0, rowsF encW l) (sub_eq (by simp only [kAt, List.take_zero, List.map_nil, List.sum_nil, Int.natCast_zero, Int.mul_zero, Int.add_zero])) ⟨by simp, by simp, fun m a _ hm => rowsF_some hm⟩ ?_
  rintro ⟨i, row⟩ ⟨g1, g2, g3⟩
  simp only at g1 g2 g3
  simp only [go_sem, seval]
  refine awp_seq ?_
  refine gt tabOk dp0 [((2000000, 0), (2000000, 0))] [0, 1, 5, 9] rfl ?_; simp only [go_sem, seval]
  refine awp_cond rfl (fun hc => ?_) (fun hc => ?_)
  ·
    have hlt : i < l.length := by simp only [decide_eq_true_eq] at hc; omega
    obtain ⟨a, ha⟩ : ∃ a, l[i]? = some a := ⟨l[i], by simp [hlt]⟩
    have hri := g3 i a (Nat.le_refl _) ha
    have hk := h2 i (by omega)
    have hk0 : 0 ≤ kAt k l i := by unfold kAt; omega
    have c := c26 (gl := gl) a (kAt k l i) hk0 hk (by have := hw a (List.mem_of_getElem? ha); omega)
    refine awp_skip ?_; simp only [go_sem, seval]
    refine gblk ?_
    refine gsub tabOk dp0 5 [((2000000, 0), (2000000, 0))] [0, 1, 5] rfl rfl rfl rfl rfl rfl (2000000, 0) 0 1 i 0 l.length row c rfl (by rw [hri]; rfl) ?_
    simp only [go_sem, seval, Int.toNat_natCast, hri, encW]
    refine ⟨by omega, ?_⟩
    refine gt1 tabOk dp0 [((2000000, 0), (2000000, 0))] [0, 1, 5] rfl ?_; simp only [go_sem, seval]
    rw [wrapN (n := i) (by omega)]
    have hr : ∀ m, subRow row i 0 2 a.length (rowsF encP (mkL (kAt k l i) a)) m = if m = i then [.sl 2 a.length (rowsF encP (mkL (kAt k l i) a))] else row m := fun m => by
      unfold subRow setRow
      by_cases e : m = i
      · subst e; rw [hri]; simp [encW, setAt]
      · have : (m == i) = false := by simpa using e
        simp [this, e]
    refine ⟨(i + 1, _), ⟨by simp only; omega, fun m b hm hb => ?_, fun m b h3 hb => ?_⟩, by simp only; omega, sub_eq (by simp only [kAt_succ ha]; rfl)⟩
    · simp only at hm ⊢
      rw [hr m]
      by_cases e : m = i
      · subst e
        rw [ha] at hb
        cases hb
        rw [if_pos rfl, mkL_len]
      · rw [if_neg e]; exact g2 m b (by omega) hb
    · simp only at h3 ⊢
      rw [hr m, if_neg (by omega)]; exact g3 m b (by omega) hb
  ·
    have hi : i = l.length := by simp only [decide_eq_false_iff_not] at hc; omega
    subst hi
    refine awp_exit ?_; simp only [go_sem, seval]
    refine gt tabOk dp0 [((2000000, 0), (2000000, 0))] [4] rfl ?_; simp only [go_sem, seval]
    refine awp_ret ?_; simp only [go_sem, seval, sameRow]
    intro m hm
    have hg : l[m]? = some l[m] := by simp [hm]
    rw [g2 m _ hm hg, rowsF_some (mkWs_get l k m _ hg)]
end Go.Ax
end

section
set_option maxRecDepth 4000
namespace Go.Ax
open Go Go.Proofs
variable {gl : Gl}

theorem c27 (l : List P2) (k : Int) (h1 : 0 ≤ k) (h2 : k ≤ 1000000000) (hl : l.length ≤ 1000000000) : Det gl 27 [.one (.sl 2 l.length (rowsF encP (mkL k l))), iA k] [iR (k + 2 * l.length)] [.one (.sl 2 l.length (rowsF encP (mkL k l))), iA k] := by
  refine acallD (c := bodyOf Tryd.f27) (nt := 31) (rvs := [.tmp 4]) tabOk ⟨Tryd.f27, Tryd.func27, rfl, rfl, rfl, rfl⟩ rfl ?_
  unfold bodyOf Tryd.f27
  dsimp only
  simp only [go_sem, seval]
  have hrow : ∀ i, i < l.length → rowsF encP (mkL k l) i = [vI (k + 2 * (i : Int)), vI (k + 2 * (i : Int) + 1)] := fun i hi => by rw [rowsF_some (mkL_get l k i hi)]; rfl
  generalize rowsF encP (mkL k l) = row at hrow
  refine gt tabOk dp0 [] [0, 1] rfl ?_; simp only [go_sem, seval]
  refine awp_seq ?_
  refine gt tabOk dp0 [] [0, 1, 5] rfl ?_; simp only [go_sem, seval]
  refine gloop1 (fun i : Nat => St.m 31 [(0, .c (.dat (.sl 2 l.length row))), (1, .int (k + 2 * (i : Int))), (5, .int i)] []) (fun i => i ≤ l.length) (fun i => l.length - i) 0 (sub_eq (by simp only [Int.natCast_zero, Int.mul_zero, Int.add_zero])) (by omega) ?_
  intro i hi
  simp only [go_sem, seval]
  refine awp_seq ?_
  refine gt tabOk dp0 [] [0, 1, 5, 9] rfl ?_; simp only [go_sem, seval]
  refine awp_cond rfl (fun hc => ?_) (fun hc => ?_)
  ·
    have hlt : i < l.length := by simp only [decide_eq_true_eq] at hc; omega
    have hri := hrow i hlt
    refine awp_skip ?_; simp only [go_sem, seval]
    refine gblk ?_
    refine awp_seq ?_
    refine gt tabOk dp0 [] [0, 1, 5, 18] rfl ?_; simp only [go_sem, seval, Int.toNat_natCast, hri]
    refine ⟨by omega, ?_⟩
    refine awp_cond rfl (fun hb => ?_) (fun hb => ?_)
    · simp at hb
    refine awp_skip ?_; simp only [go_sem, seval]
    refine gt tabOk dp0 [] [0, 1, 5] rfl ?_; simp only [go_sem, seval]
    rw [wrapI (x := k + 2 * (i : Int) + 1) (by omega) (by omega)]
    refine awp_seq ?_
    refine gt tabOk dp0 [] [0, 1, 5, 27] rfl ?_; simp only [go_sem, seval, Int.toNat_natCast, hri]
    refine ⟨by omega, ?_⟩
    refine awp_cond rfl (fun hb => ?_) (fun hb => ?_)
    · simp at hb
    refine awp_skip ?_; simp only [go_sem, seval]
    refine gt1 tabOk dp0 [] [0, 1, 5] rfl ?_; simp only [go_sem, seval]
    rw [wrapI (x := k + 2 * (i : Int) + 1 + 1) (by omega) (by omega)]
    refine gt1 tabOk dp0 [] [0, 1, 5] rfl ?_; simp only [go_sem, seval]
    rw [wrapN (n := i) (by omega)]
    exact ⟨i + 1, by omega, by omega, sub_eq (by simp only [show k + 2 * (i : Int) + 1 + 1 = k + 2 * ((i + 1 : Nat) : Int) by omega])⟩
  ·
    have hi : i = l.length := by simp only [decide_eq_false_iff_not] at hc; omega
    subst hi
    refine awp_exit ?_; simp only [go_sem, seval]
    refine gt tabOk dp0 [] [4] rfl ?_; simp only [go_sem, seval]
    refine awp_ret ?_; simp only [go_sem, seval]

theorem c13 (l : List (List P2)) (k : Int) (h1 : 0 ≤ k) (h2 : ∀ i, i ≤ l.length → kAt k l i ≤ 1000000000) (hl : l.length ≤ 1000000000) (hw : ∀ w, w ∈ l → w.length ≤ 1000000) : Det gl 13 [.one (.sl 1 l.length (rowsF encW (mkWs k l))), iA k] [iR (kAt k l l.length)] [.one (.sl 1 l.length (rowsF encW (mkWs k l))), iA k] := by
  refine acallD (c := bodyOf Tryd.f13) (nt := 21) (rvs := [.tmp 4]) tabOk ⟨Tryd.f13, Tryd.func13, rfl, rfl, rfl, rfl⟩ rfl ?_
  unfold bodyOf Tryd.f13
  dsimp only
  simp only [go_sem, seval]
  have hrow : ∀ i a, l[i]? = some a → rowsF encW (mkWs k l) i = encW (mkL (kAt k l i) a) := fun i a hi => rowsF_some (mkWs_get l k i a hi)
  generalize rowsF encW (mkWs k l) = row at hrow
  refine gt tabOk dp0 [] [0, 1] rfl ?_; simp only [go_sem, seval]
  refine awp_seq ?_
  refine gt tabOk dp0 [] [0, 1, 5] rfl ?_; simp only [go_sem, seval]
  refine gloop1 (fun i : Nat => St.m 21 [(0, .c (.dat (.sl 1 l.length row))), (1, .int (kAt k l i)), (5, .int i)] []) (fun i => i ≤ l.length) (fun i => l.length - i) 0 (sub_eq (by simp only [kAt, List.take_zero, List.map_nil, List.sum_nil, Int.natCast_zero, Int.mul_zero, Int.add_zero])) (by omega) ?_
  intro i hi
  simp only [go_sem, seval]
  refine awp_seq ?_
  refine gt tabOk dp0 [] [0, 1, 5, 9] rfl ?_; simp only [go_sem, seval]
  refine awp_cond rfl (fun hc => ?_) (fun hc => ?_)
  ·
    have hlt : i < l.length := by simp only [decide_eq_true_eq] at hc; omega
    obtain ⟨a, ha⟩ : ∃ a, l[i]? = some a := ⟨l[i], by simp [hlt]⟩
    have hri := hrow i a ha
    have hk := h2 i (by omega)
    have hk0 : 0 ≤ kAt k l i := by unfold kAt; omega
    have c := c27 (gl := gl) a (kAt k l i) hk0 hk (by have := hw a (List.mem_of_getElem? ha); omega)
    have hml := mkL_len a (kAt k l i)
    refine awp_skip ?_; simp only [go_sem, seval]
    refine gblk ?_
    refine gt tabOk dp0 [] [0, 1, 5] rfl ?_; simp only [go_sem, seval, Int.toNat_natCast, hri, encW, hml]
    refine ⟨by omega, ?_⟩
    refine good_call c ?_; simp only [go_sem, seval]
    refine gt tabOk dp0 [] [0, 1, 5, 19] rfl ?_; simp only [go_sem, seval]
    refine awp_cond rfl (fun hb => ?_) (fun hb => ?_)
    · simp only [decide_eq_true_eq] at hb; omega
    refine awp_skip ?_; simp only [go_sem, seval]
    refine gt1 tabOk dp0 [] [0, 1, 5] rfl ?_; simp only [go_sem, seval]
    rw [wrapN (n := i) (by omega)]
    exact ⟨i + 1, by omega, by omega, sub_eq (by simp only [kAt_succ ha])⟩
  ·
    have hi : i = l.length := by simp only [decide_eq_false_iff_not] at hc; omega
    subst hi
    refine awp_exit ?_; simp only [go_sem, seval]
    refine gt tabOk dp0 [] [4] rfl ?_; simp only [go_sem, seval]
    refine awp_ret ?_; simp only [go_sem, seval]

theorem c41 (a : P2) : Det gl 41 [.agg [vI a.1, vI a.2], .agg [vI a.1, vI a.2]] [bR true] [.agg [vI a.1, vI a.2], .agg [vI a.1, vI a.2]] := by
  refine acallD (c := bodyOf Tryd.f41) (nt := 15) (rvs := [.tmp 4]) tabOk ⟨Tryd.f41, Tryd.func41, rfl, rfl, rfl, rfl⟩ rfl ?_
  unfold bodyOf Tryd.f41
  dsimp only
  simp only [go_sem, seval]
  refine gt tabOk dp0 [((2, 0), (2, 0)), ((3, 0), (3, 0))] [2, 3] rfl ?_; simp only [go_sem, seval]
  refine awp_seq ?_
  refine gt tabOk dp0 [((2, 0), (2, 0)), ((3, 0), (3, 0))] [2, 3, 9] rfl ?_; simp only [go_sem, seval]
  refine awp_cond rfl (fun hc => ?_) (fun hc => ?_)
  · simp at hc
  refine awp_skip ?_; simp only [go_sem, seval]
  refine awp_seq ?_
  refine gt tabOk dp0 [] [14] rfl ?_; simp only [go_sem, seval]
  refine awp_cond rfl (fun hc => ?_) (fun hc => ?_)
  · simp at hc
  refine awp_skip ?_; simp only [go_sem, seval]
  refine gt tabOk dp0 [] [4] rfl ?_; simp only [go_sem, seval]
  refine awp_ret ?_; simp only [go_sem, seval]

theorem c25 (l : List P2) (hl : l.length ≤ 1000000000) : Det gl 25 [.one (.sl 2 l.length (rowsF encP l)), .one (.sl 2 l.length (rowsF encP l))] [bR true] [.one (.sl 2 l.length (rowsF encP l)), .one (.sl 2 l.length (rowsF encP l))] := by
  refine acallD (c := bodyOf Tryd.f25) (nt := 27) (rvs := [.tmp 4]) tabOk ⟨Tryd.f25, Tryd.func25, rfl, rfl, rfl, rfl⟩ rfl ?_
  unfold bodyOf Tryd.f25
  dsimp only
  simp only [go_sem, seval]
  have hrow : ∀ i a, l[i]? = some a → rowsF encP l i = [vI a.1, vI a.2] := fun i a hi => rowsF_some hi
  generalize rowsF encP l = row at hrow
  refine gt tabOk dp0 [] [0, 1] rfl ?_; simp only [go_sem, seval]
  refine awp_seq ?_
  refine gt tabOk dp0 [] [0, 1, 10] rfl ?_; simp only [go_sem, seval]
  refine awp_cond rfl (fun hc => ?_) (fun hc => ?_)
  · simp at hc
  refine awp_skip ?_; simp only [go_sem, seval]
  refine awp_seq ?_
  refine gt tabOk dp0 [] [0, 1, 5] rfl ?_; simp only [go_sem, seval]
  refine gloop1 (fun i : Nat => St.m 27 [(0, .c (.dat (.sl 2 l.length row))), (1, .c (.dat (.sl 2 l.length row))), (5, .int i)] []) (fun i => i ≤ l.length) (fun i => l.length - i) 0 (sub_eq rfl) (by omega) ?_
  intro i hi
  simp only [go_sem, seval]
  refine awp_seq ?_
  refine gt tabOk dp0 [] [0, 1, 5, 14] rfl ?_; simp only [go_sem, seval]
  refine awp_cond rfl (fun hc => ?_) (fun hc => ?_)
  ·
    have hlt : i < l.length := by simp only [decide_eq_true_eq] at hc; omega
    obtain ⟨a, ha⟩ : ∃ a, l[i]? = some a := ⟨l[i], by simp [hlt]⟩
    have hri := hrow i a ha
    refine awp_skip ?_; simp only [go_sem, seval]
    refine gblk ?_
    refine ge tabOk dp0 mixed [] [0, 1, 5, 26] rfl (by kernel_rfl) ?_; simp only [go_sem, seval, Int.toNat_natCast, hri]
    refine ⟨by omega, by omega, ?_⟩
    refine good_call (c41 a) ?_; simp only [go_sem, seval]
    refine awp_cond rfl (fun hb => ?_) (fun hb => ?_)
    · simp at hb
    refine awp_skip ?_; simp only [go_sem, seval]
    refine gt1 tabOk dp0 [] [0, 1, 5] rfl ?_; simp only [go_sem, seval]
    rw [wrapN (n := i) (by omega)]
    exact ⟨i + 1, by omega, by omega, sub_eq rfl⟩
  ·
    have hi : i = l.length := by simp only [decide_eq_false_iff_not] at hc; omega
    subst hi
    refine awp_exit ?_; simp only [go_sem, seval]
    refine gt tabOk dp0 [] [4] rfl ?_; simp only [go_sem, seval]
    refine awp_ret ?_; simp only [go_sem, seval]

theorem c11 (l : List (List P2)) (hl : l.length ≤ 1000000000) (hw : ∀ w, w ∈ l → w.length ≤ 1000000) : Det gl 11 [.one (.sl 1 l.length (rowsF encW l)), .one (.sl 1 l.length (rowsF encW l))] [bR true] [.one (.sl 1 l.length (rowsF encW l)), .one (.sl 1 l.length (rowsF encW l))] := by
  refine acallD (c := bodyOf Tryd.f11) (nt := 27) (rvs := [.tmp 4]) tabOk ⟨Tryd.f11, Tryd.func11, rfl, rfl, rfl, rfl⟩ rfl ?_
  unfold bodyOf Tryd.f11
  dsimp only
  simp only [go_sem, seval]
  have hrow : ∀ i a, l[i]? = some a → rowsF encW l i = encW a := fun i a hi => rowsF_some hi
  generalize rowsF encW l = row at hrow
  refine gt tabOk dp0 [] [0, 1] rfl ?_; simp only [go_sem, seval]
  refine awp_seq ?_
  refine gt tabOk dp0 [] [0, 1, 10] rfl ?_; simp only [go_sem, seval]
  refine awp_cond rfl (fun hc => ?_) (fun hc => ?_)
  · simp at hc
  refine awp_skip ?_; simp only [go_sem, seval]
  refine awp_seq ?_
  refine gt tabOk dp0 [] [0, 1, 5] rfl ?_; simp only [go_sem, seval]
  refine gloop1 (fun i : Nat => St.m 27 [(0, .c (.dat (.sl 1 l.length row))), (1, .c (.dat (.sl 1 l.length row))), (5, .int i)] []) (fun i => i ≤ l.length) (fun i => l.length - i) 0 (sub_eq rfl) (by omega) ?_
  intro i hi
  simp only [go_sem, seval]
  refine awp_seq ?_
  refine gt tabOk dp0 [] [0, 1, 5, 14] rfl ?_; simp only [go_sem, seval]
  refine awp_cond rfl (fun hc => ?_) (fun hc => ?_)
  ·
    have hlt : i < l.length := by simp only [decide_eq_true_eq] at hc; omega
    obtain ⟨a, ha⟩ : ∃ a, l[i]? = some a := ⟨l[i], by simp [hlt]⟩
    have hri := hrow i a ha
    have c := c25 (gl := gl) a (by have := hw a (List.mem_of_getElem? ha); omega)
    refine awp_skip ?_; simp only [go_sem, seval]
    refine gblk ?_
    refine ge tabOk dp0 mixed [] [0, 1, 5, 26] rfl (by kernel_rfl) ?_; simp only [go_sem, seval, Int.toNat_natCast, hri, encW]
    refine ⟨by omega, by omega, ?_⟩
    refine good_call c ?_; simp only [go_sem, seval]
    refine awp_cond rfl (fun hb => ?_) (fun hb => ?_)
    · simp at hb
    refine awp_skip ?_; simp only [go_sem, seval]
    refine gt1 tabOk dp0 [] [0, 1, 5] rfl ?_; simp only [go_sem, seval]
    rw [wrapN (n := i) (by omega)]
    exact ⟨i + 1, by omega, by omega, sub_eq rfl⟩
  ·
    have hi : i = l.length := by simp only [decide_eq_false_iff_not] at hc; omega
    subst hi
    refine awp_exit ?_; simp only [go_sem, seval]
    refine gt tabOk dp0 [] [4] rfl ?_; simp only [go_sem, seval]
    refine awp_ret ?_; simp only [go_sem, seval]

theorem sum_le {b : Nat} : ∀ (l : List (List P2)), (∀ w, w ∈ l → w.length ≤ b) → (l.map List.length).sum ≤ b * l.length := by
  intro l
  induction l with
  | nil => intro _; simp
  | cons a l ih =>
    intro h
    have h1 := h a (by simp)
    have h2 := ih fun w hw => h w (by simp [hw])
    simp only [List.map_cons, List.sum_cons, List.length_cons, Nat.mul_succ]
    omega

theorem kAt_le {k : Int} {b : Nat} {l : List (List P2)} (h : ∀ w, w ∈ l → w.length ≤ b) (i : Nat) : kAt k l i ≤ k + 2 * ((b * l.length : Nat) : Int) := by
  unfold kAt
  have h1 := sum_le (b := b) (l.take i) fun w hw => h w (List.mem_of_mem_take hw)
  have h2 : b * (l.take i).length ≤ b * l.length := Nat.mul_le_mul_left b (by simp; omega)
  omega

theorem c4 (s : ByteArray) : Det gl 4 [sA s] [bR true] [sA s] := by
  refine acallD (c := bodyOf Tryd.f4) (nt := 98) (rvs := [.tmp 2]) tabOk ⟨Tryd.f4, Tryd.func4, rfl, rfl, rfl, rfl⟩ rfl ?_
  unfold bodyOf Tryd.f4
  dsimp only
  simp only [go_sem, seval]
  refine gt tabOk dpW [] [0] rfl ?_; simp only [go_sem, seval]
  refine awp_seq ?_
  refine gt tabOk dpW [] [0, 19] rfl ?_; simp only [go_sem, seval]
  refine awp_cond rfl (fun hc => ?_) (fun hc => ?_)
  ·
    refine gt tabOk dpW [] [2] rfl ?_; simp only [go_sem, seval]
    refine awp_ret ?_; simp only [go_sem, seval]
  have hs : s.size ≤ 1048576 := by simp only [decide_eq_false_iff_not] at hc; omega
  have e1 := c9 (gl := gl) s (by omega)
  have e2 := c10 (gl := gl) s (by omega)
  have hways := parseS_ways s
  rw [parse_eq] at e2
  generalize parseS s = r at e1 e2 hways
  obtain ⟨ways, code, ix, ok⟩ := r
  simp only at e1 e2 hways
  have hwl : ∀ w, w ∈ ways → w.length ≤ 1000000 := fun w hw => by have := hways.1 w hw; omega
  have hl : ways.length ≤ 1000000000 := by have := hways.2; omega
  have cq := c11 (gl := gl) ways hl hwl
  refine awp_skip ?_; simp only [go_sem, seval]
  refine gt tabOk dpW [] [0, 3, 4, 5, 6] rfl ?_; simp only [go_sem, seval]
  refine good_call e1 ?_; simp only [go_sem, seval]
  have hk : ∀ i, i ≤ ways.length → kAt 1 ways i ≤ 1000000000 := fun i _ => by
    have h1 := kAt_le (k := 1) (b := 401) (fun w hw => (hways.1 w hw).2) i
    have h2 : 401 * ways.length ≤ 401 * 401 := Nat.mul_le_mul_left 401 hways.2
    omega
  have cm := c12 (gl := gl) ways 1 (by omega) hk hl hwl
  have ch := c13 (gl := gl) ways 1 (by omega) hk hl hwl
  have hml := mkWs_len ways 1
  have hk0 : 0 ≤ kAt 1 ways ways.length := by unfold kAt; omega
  refine gt tabOk dpW [((29, 0), (600000, 1))] [0, 3, 4, 5, 6, 7, 8, 9, 10] rfl ?_; simp only [go_sem, seval]
  refine good_call e2 ?_; simp only [go_sem, seval]
  refine awp_seq ?_
  refine gt tabOk dpW [((600000, 1), (600000, 1))] [0, 3, 4, 5, 6, 7, 52] rfl ?_; simp only [go_sem, seval]
  refine good_call cq ?_; simp only [go_sem, seval]
  refine awp_cond rfl (fun hb => ?_) (fun hb => ?_)
  · simp at hb
  refine awp_skip ?_; simp only [go_sem, seval]
  refine gt tabOk dpW [((600000, 1), (600000, 1))] [0, 3, 4, 5, 6, 7, 11] rfl ?_; simp only [go_sem, seval]
  refine gt tabOk dpW [((600000, 1), (600000, 1))] [0, 3, 4, 5, 6, 7, 11] rfl ?_; simp only [go_sem, seval]
  refine good_call cm ?_; simp only [go_sem, seval]
  refine gt tabOk dpW [((600000, 1), (600000, 1))] [0, 3, 4, 5, 6, 7, 11, 12] rfl ?_; simp only [go_sem, seval]
  refine gt tabOk dpW [((600000, 1), (600000, 1))] [0, 3, 4, 5, 6, 7, 11, 12] rfl ?_; simp only [go_sem, seval]
  refine good_call ch ?_; simp only [go_sem, seval]
  refine awp_seq ?_
  refine gt tabOk dpW [((600000, 1), (600000, 1))] [0, 3, 4, 5, 6, 7, 11, 12, 60] rfl ?_; simp only [go_sem, seval]
  refine awp_cond rfl (fun hb => ?_) (fun hb => ?_)
  · simp only [decide_eq_true_eq] at hb; omega
  refine awp_skip ?_; simp only [go_sem, seval]
  refine awp_seq ?_
  refine gt tabOk dpW [((600000, 1), (600000, 1))] [0, 3, 4, 5, 6, 7, 11, 63] rfl ?_; simp only [go_sem, seval]
  refine awp_cond rfl (fun hb => ?_) (fun hb => ?_)
  · simp at hb
  refine awp_skip ?_; simp only [go_sem, seval]
  refine gt tabOk dpW [((600000, 1), (600000, 1))] [3, 4, 5, 6, 7, 11, 13, 14, 15, 16] rfl ?_; simp only [go_sem, seval]
  refine good_call e2 ?_; simp only [go_sem, seval]
  refine awp_seq ?_
  refine gt tabOk dpW [((600000, 1), (600000, 1))] [7, 11, 89] rfl ?_; simp only [go_sem, seval]
  refine good_call cq ?_; simp only [go_sem, seval]
  refine awp_cond rfl (fun hb => ?_) (fun hb => ?_)
  · simp at hb
  refine awp_skip ?_; simp only [go_sem, seval]
  refine gt tabOk dpW [((600000, 1), (600000, 1))] [7, 11, 12] rfl ?_; simp only [go_sem, seval]
  refine gt tabOk dpW [] [11, 12] rfl ?_; simp only [go_sem, seval]
  refine good_call ch ?_; simp only [go_sem, seval]
  refine awp_seq ?_
  refine gt tabOk dpW [] [11, 12, 94] rfl ?_; simp only [go_sem, seval]
  refine awp_cond rfl (fun hb => ?_) (fun hb => ?_)
  · simp only [decide_eq_true_eq] at hb; omega
  refine awp_skip ?_; simp only [go_sem, seval]
  refine awp_seq ?_
  refine gt tabOk dpW [] [97] rfl ?_; simp only [go_sem, seval]
  refine awp_cond rfl (fun hb => ?_) (fun hb => ?_)
  · simp at hb
  refine awp_skip ?_; simp only [go_sem, seval]
  refine gt tabOk dpW [] [2] rfl ?_; simp only [go_sem, seval]
  refine awp_ret ?_; simp only [go_sem, seval]
end Go.Ax
end
