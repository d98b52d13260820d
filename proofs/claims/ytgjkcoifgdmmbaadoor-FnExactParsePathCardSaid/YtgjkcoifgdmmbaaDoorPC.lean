/- What the library functions come to: numbers and words. -/
import Derived.Test.YtgjkcoifgdmmbaaDoorPB
import Derived.Test.YtgjkcoifgdmmbaaDoorRows
import Derived.WalkKit
import Derived.WalkSpells
import Derived.WalkLawsBesides
import Derived.Test.YtgjkcoifgdmmbaaDoorPA
import Derived.Lib.ItoaMem
import Derived.Lib.AtoiAllCases
import Derived.Lib.Split
import Derived.Lib.SplitLaws
import Derived.Lib.IndexBytes
set_option linter.unusedSimpArgs false
set_option linter.unusedVariables false
section
namespace Go.Proofs.YtgjkcoifgdmmbaaDoor
open Go.RowKit

set_option maxHeartbeats 1000000 in
theorem k20 (x lo hi : Int) (w : World) :
    Calls Tryd.prog 20 #[.int .i64 x, .int .i64 lo, .int .i64 hi] w fun e w' => e = .returned (.bool (decide (lo ≤ x) && decide (x ≤ hi))) ∧ w' = w := by
  go_enter Tryd.func20, Tryd.ntmps20
  go_wp2
  all_goals go_ret
  all_goals refine ⟨?_, rfl⟩
  all_goals simp_all
  all_goals omega

set_option maxHeartbeats 1000000 in
theorem k74 (x : Int) (w : World) :
    Calls Tryd.prog 74 #[.int .i64 x] w fun e w' => e = .returned (.bool (decide (-9999 ≤ x) && decide (x ≤ 9999))) ∧ w' = w := by
  go_enter Tryd.func74, Tryd.ntmps74
  go_wp2_with (go_at_call 20; refine (k20 _ _ _ _).mono ?_; rintro e w' ⟨rfl, rfl⟩)
  go_ret
  exact ⟨rfl, rfl⟩

set_option maxHeartbeats 1000000 in
theorem k57_err (s : ByteArray) (w : World) (hA : Calls Tryd.prog 73 #[.string s] w fun e w' => (∃ n t p, e = .returned (.tuple #[.int .i64 n, .iface t p])) ∧ Below w.heap.size w w') :
    Calls Tryd.prog 57 #[.string s] w fun e w' => e = .returned (.tuple #[.int .i64 0, .bool false]) ∧ Below w.heap.size w w' := by
  go_enter Tryd.func57, Tryd.ntmps57
  go_wp2_with (go_at_call 73; refine hA.mono ?_; rintro e w' ⟨⟨n, t, p, rfl⟩, hb⟩)
  go_ret2
  exact ⟨rfl, hb⟩

theorem toList_ne {t s : ByteArray} (h : (!t.toList == s.toList) = true) : t ≠ s := fun e => by subst e; simp at h
theorem toList_eqB {t s : ByteArray} (h : (!t.toList == s.toList) = false) : t = s := by
  have : t.toList = s.toList := by simpa using h
  rw [ByteArray.toList_eq, ByteArray.toList_eq] at this
  cases t; cases s; simp at this; rw [this]

set_option maxHeartbeats 1000000 in
theorem k57_ok (s : ByteArray) (v : Int) (t : ByteArray) (w : World) (hA : Calls Tryd.prog 73 #[.string s] w fun e w' => e = .returned (.tuple #[.int .i64 v, .nilIface]) ∧ Below w.heap.size w w')
    (hI : ∀ w', Below w.heap.size w w' → Calls Tryd.prog 50 #[.int .i64 v] w' fun e w'' => e = .returned (.string t) ∧ Below w.heap.size w w'') :
    Calls Tryd.prog 57 #[.string s] w fun e w' => (∃ b : Bool, b = ((decide (-9999 ≤ v) && decide (v ≤ 9999)) && decide (t = s)) ∧ e = .returned (.tuple #[.int .i64 (bif b then v else 0), .bool b])) ∧ Below w.heap.size w w' := by
  go_enter Tryd.func57, Tryd.ntmps57
  go_wp2_with (first
    | (go_at_call 73; refine hA.mono ?_; rintro e w' ⟨rfl, hb⟩)
    | (go_at_call 74; refine (k74 _ _).mono ?_; rintro e w' ⟨rfl, rfl⟩)
    | (go_at_call 50; refine (hI _ (by assumption)).mono ?_; rintro e w' ⟨rfl, hb2⟩))
  · have h := toList_ne (by assumption)
    go_ret2
    exact ⟨⟨false, by simp [h], rfl⟩, hb2⟩
  · have h := toList_eqB (by assumption)
    have hr : -9999 ≤ v ∧ v ≤ 9999 := by assumption
    go_ret2
    exact ⟨⟨true, by simp [h, hr], rfl⟩, hb2⟩
  · have hr : ¬ (-9999 ≤ v ∧ v ≤ 9999) := by first | assumption | (simp_all; omega)
    go_ret2
    exact ⟨⟨false, by simp; omega, rfl⟩, hb⟩

set_option maxHeartbeats 1000000 in
theorem k23 (s : ByteArray) (w : World) (n N : Nat) (t : TypeId) (c : Array Value) (h : Calls Tryd.prog 36 #[.string s, .string ⟨#[32]⟩, .int .i64 0, .int .i64 (-1)] w fun e w' => e = .returned (.slice (some ⟨w.heap.size, 0, none⟩) n N) ∧ w' = w.alloc (.cells c t)) :
    Calls Tryd.prog 23 #[.string s, .string ⟨#[32]⟩] w fun e w' => e = .returned (.slice (some ⟨w.heap.size, 0, none⟩) n N) ∧ w' = w.alloc (.cells c t) := by
  go_enter Tryd.func23, Tryd.ntmps23
  go_wp2_with (go_at_call 36; refine h.mono ?_; rintro e w' ⟨rfl, rfl⟩)
  go_ret
  exact ⟨rfl, rfl⟩
end Go.Proofs.YtgjkcoifgdmmbaaDoor
end

section
namespace Go.Ax
open Go Go.Proofs

def decF : Int → List UInt8 → Int
  | n, [] => n
  | n, c :: r => decF (10 * n + ((c.toNat : Int) - 48)) r
def digL (l : List UInt8) : Prop := ∀ c, c ∈ l → 48 ≤ c.toNat ∧ c.toNat ≤ 57

theorem size_list (s : ByteArray) : s.data.toList.length = s.size := Array.length_toList

theorem bt_list {s : ByteArray} {k : Nat} {c : UInt8} {r : List UInt8} (h : s.data.toList.drop k = c :: r) : bt s k = (c.toNat : Int) ∧ k < s.size ∧ s.data.toList.drop (k + 1) = r := by
  have hk : k < s.data.toList.length := by
    rcases Nat.lt_or_ge k s.data.toList.length with h1 | h1
    · exact h1
    · rw [List.drop_eq_nil_of_le h1] at h; cases h
  rw [List.drop_eq_getElem_cons hk] at h
  injection h with h1 h2
  refine ⟨?_, by simpa using hk, h2⟩
  have hs : k < s.data.size := by simpa using hk
  simp only [bt, Array.getD, hs, dif_pos]
  rw [← h1]; simp

theorem rd_all (s : ByteArray) : ∀ (j k : Nat) (n : Int) (r : List UInt8), s.data.toList.drop k = r → k ≤ s.size → digL r → r.length ≤ j → rd s j k n = (decF n r, s.size) := by
  intro j
  induction j with
  | zero =>
    intro k n r hr hk hd hl
    have : r = [] := List.length_eq_zero_iff.1 (by omega)
    subst this
    have : s.data.toList.length ≤ k := by
      have := congrArg List.length hr; simp only [List.length_drop, List.length_nil] at this; omega
    simp only [rd, decF, Prod.mk.injEq, true_and]
    have h2 := size_list s
    omega
  | succ j ih =>
    intro k n r hr hk hd hl
    cases r with
    | nil =>
      have : s.data.toList.length ≤ k := by
        have := congrArg List.length hr; simp only [List.length_drop, List.length_nil] at this; omega
      have h2 := size_list s
      have hnd : isDig s k = false := by unfold isDig; rw [show decide (k < s.size) = false by simp; omega]; rfl
      simp only [rd, hnd, cond_false, decF, Prod.mk.injEq, true_and]
      omega
    | cons c r =>
      obtain ⟨h1, h2, h3⟩ := bt_list hr
      have hc := hd c (by simp)
      have hdg : isDig s k = true := by
        unfold isDig; rw [h1]
        simp only [Bool.and_eq_true, decide_eq_true_eq]; omega
      simp only [rd, hdg, cond_true, decF, h1]
      exact ih (k + 1) _ r h3 (by omega) (fun x hx => hd x (by simp [hx])) (by simp only [List.length_cons] at hl; omega)

theorem rd_full (s : ByteArray) : ∀ (j k : Nat) (n : Int) (r : List UInt8), s.data.toList.drop k = r → k ≤ s.size → s.size ≤ (rd s j k n).2 → digL r ∧ r.length ≤ j := by
  intro j
  have hnil : ∀ k, s.data.toList.drop k = [] ∨ k < s.size := fun k => by
    rcases Nat.lt_or_ge k s.size with h | h
    · exact .inr h
    · exact .inl (List.drop_eq_nil_of_le (by simpa using h))
  induction j with
  | zero =>
    intro k n r hr hk h
    simp only [rd] at h
    rcases hnil k with h1 | h1
    · rw [h1] at hr; subst hr; exact ⟨fun _ h => by simp at h, by simp⟩
    · omega
  | succ j ih =>
    intro k n r hr hk h
    cases r with
    | nil => exact ⟨fun _ h => by simp at h, by simp⟩
    | cons c r =>
      obtain ⟨h1, h2, h3⟩ := bt_list hr
      simp only [rd] at h
      cases hd : isDig s k with
      | false => rw [hd] at h; simp only [cond_false] at h; omega
      | true =>
        rw [hd] at h; simp only [cond_true] at h
        obtain ⟨g1, g2⟩ := ih (k + 1) _ r h3 (by omega) h
        unfold isDig at hd
        simp only [Bool.and_eq_true, decide_eq_true_eq] at hd
        refine ⟨fun x hx => ?_, by simp only [List.length_cons]; omega⟩
        simp only [List.mem_cons] at hx
        rcases hx with rfl | hx
        · rw [h1] at hd; omega
        · exact g1 x hx

def good4 (l : List UInt8) : Prop := l ≠ [] ∧ l.length ≤ 4 ∧ digL l ∧ (∀ c r, l = c :: r → c.toNat = 48 → r = [])

theorem decF_nonneg : ∀ (l : List UInt8) (n : Int), 0 ≤ n → digL l → 0 ≤ decF n l := by
  intro l
  induction l with
  | nil => intro n h _; exact h
  | cons c l ih =>
    intro n h hd
    have := hd c (by simp)
    exact ih _ (by omega) fun x hx => hd x (by simp [hx])

theorem l15_iff (s : ByteArray) : (0 ≤ (l15 s 0).1 ∧ s.size ≤ (l15 s 0).2) ↔ good4 s.data.toList ∧ l15 s 0 = (decF 0 s.data.toList, s.size) := by
  have hsz := size_list s
  constructor
  · rintro ⟨h1, h2⟩
    unfold l15 at h1 h2 ⊢
    simp only at h1 h2 ⊢
    cases hb : (decide ((rd s 4 0 0).2 = 0) || (decide (bt s 0 = 48) && decide (0 + 1 < (rd s 4 0 0).2))) with
    | true => rw [hb] at h1; simp at h1
    | false =>
      rw [hb] at h2
      simp only [cond_false] at h2 ⊢
      obtain ⟨g1, g2⟩ := rd_full s 4 0 0 s.data.toList (by simp) (by omega) h2
      have e := rd_all s 4 0 0 s.data.toList (by simp) (by omega) g1 g2
      rw [e] at hb ⊢
      simp only [Bool.or_eq_false_iff, Bool.and_eq_false_iff, decide_eq_false_iff_not] at hb
      refine ⟨⟨fun hn => ?_, g2, g1, fun c r hcr h48 => ?_⟩, rfl⟩
      · rw [hn] at hsz; simp at hsz; omega
      · obtain ⟨k1, k2, k3⟩ := bt_list (s := s) (k := 0) (by simpa using hcr)
        rw [k1] at hb
        rw [hcr] at hsz
        simp only [List.length_cons] at hsz
        have : r.length = 0 := by omega
        exact List.length_eq_zero_iff.1 this
  · rintro ⟨⟨h1, h2, h3, h4⟩, e⟩
    rw [e]
    exact ⟨decF_nonneg _ _ (by omega) h3, Nat.le_refl _⟩

theorem good4_l15 (s : ByteArray) (h : good4 s.data.toList) : l15 s 0 = (decF 0 s.data.toList, s.size) := by
  have hsz := size_list s
  obtain ⟨h1, h2, h3, h4⟩ := h
  have e := rd_all s 4 0 0 s.data.toList (by simp) (by omega) h3 h2
  unfold l15
  simp only
  rw [e]
  have hb : (decide (s.size = 0) || (decide (bt s 0 = 48) && decide (0 + 1 < s.size))) = false := by
    cases hl : s.data.toList with
    | nil => exact absurd hl h1
    | cons c r =>
      obtain ⟨k1, k2, k3⟩ := bt_list (s := s) (k := 0) (by simpa using hl)
      simp only [Bool.or_eq_false_iff, Bool.and_eq_false_iff, decide_eq_false_iff_not]
      refine ⟨by omega, ?_⟩
      rw [k1]
      by_cases h48 : c.toNat = 48
      · have := h4 c r hl h48
        rw [hl, this] at hsz
        simp only [List.length_cons, List.length_nil] at hsz
        right; omega
      · left; omega
  rw [hb]; rfl

theorem u8_of {c : UInt8} {n : Nat} (h : c.toNat = n) : UInt8.ofNat n = c := by
  subst h; exact UInt8.ofNat_toNat

theorem good4_dec {l : List UInt8} (h : good4 l) : ∃ u : Nat, u < 10000 ∧ decF 0 l = (u : Int) ∧ Lib.decDigits u = l := by
  obtain ⟨h1, h2, h3, h4⟩ := h
  match l, h1, h2, h3, h4 with
  | [a], _, _, h3, _ =>
    have ha := h3 a (by simp)
    refine ⟨a.toNat - 48, by omega, by simp only [decF]; omega, ?_⟩
    rw [Lib.decDigits_one (by omega), u8_of (c := a) (by omega)]
  | [a, b], _, _, h3, h4 =>
    have ha := h3 a (by simp)
    have hb := h3 b (by simp)
    have hz : a.toNat ≠ 48 := fun e => by have := h4 a [b] rfl e; simp at this
    refine ⟨10 * (a.toNat - 48) + (b.toNat - 48), by omega, by simp only [decF]; omega, ?_⟩
    rw [Lib.decDigits_two (by omega) (by omega), u8_of (c := a) (by omega), u8_of (c := b) (by omega)]
  | [a, b, c], _, _, h3, h4 =>
    have ha := h3 a (by simp)
    have hb := h3 b (by simp)
    have hc := h3 c (by simp)
    have hz : a.toNat ≠ 48 := fun e => by have := h4 a [b, c] rfl e; simp at this
    refine ⟨10 * (10 * (a.toNat - 48) + (b.toNat - 48)) + (c.toNat - 48), by omega, by simp only [decF]; omega, ?_⟩
    rw [Lib.decDigits, dif_neg (by omega), Lib.decDigits_two (by omega) (by omega), u8_of (c := a) (by omega), u8_of (c := b) (by omega), u8_of (c := c) (by omega)]; rfl
  | [a, b, c, d], _, _, h3, h4 =>
    have ha := h3 a (by simp)
    have hb := h3 b (by simp)
    have hc := h3 c (by simp)
    have hd := h3 d (by simp)
    have hz : a.toNat ≠ 48 := fun e => by have := h4 a [b, c, d] rfl e; simp at this
    refine ⟨10 * (10 * (10 * (a.toNat - 48) + (b.toNat - 48)) + (c.toNat - 48)) + (d.toNat - 48), by omega, by simp only [decF]; omega, ?_⟩
    rw [Lib.decDigits, dif_neg (by omega), Lib.decDigits, dif_neg (by omega), Lib.decDigits_two (by omega) (by omega), u8_of (c := a) (by omega), u8_of (c := b) (by omega), u8_of (c := c) (by omega), u8_of (c := d) (by omega)]; rfl
  | _ :: _ :: _ :: _ :: _ :: _, _, h2, _, _ => simp at h2

theorem u8_nat {n : Nat} (h : n < 256) : (UInt8.ofNat n).toNat = n := by
  simp [UInt8.toNat_ofNat']; omega

theorem dec_good4 {u : Nat} (h : u < 10000) : good4 (Lib.decDigits u) ∧ decF 0 (Lib.decDigits u) = (u : Int) := by
  have q : ∀ x, x < 10 → (UInt8.ofNat (48 + x)).toNat = 48 + x := fun x hx => u8_nat (by omega)
  have dg : ∀ (l : List Nat), (∀ x, x ∈ l → x < 10) → digL (l.map fun x => UInt8.ofNat (48 + x)) := fun l hl c hc => by
    simp only [List.mem_map] at hc
    obtain ⟨x, hx, rfl⟩ := hc
    have := hl x hx
    rw [q x this]; omega
  by_cases h1 : u < 10
  · rw [Lib.decDigits_one h1]
    refine ⟨⟨by simp, by simp, dg [u] (by simp [h1]), fun c r e _ => by simp at e; exact e.2⟩, ?_⟩
    simp only [decF]; rw [q u h1]; omega
  by_cases h2 : u < 100
  · rw [Lib.decDigits_two h1 h2]
    have a1 := q (u / 10) (by omega)
    have a2 := q (u % 10) (by omega)
    refine ⟨⟨by simp, by simp, dg [u / 10, u % 10] (by simp; omega), fun c r e hc => ?_⟩, ?_⟩
    · simp only [List.cons.injEq] at e; rw [← e.1, a1] at hc; omega
    · simp only [decF]; rw [a1, a2]; omega
  by_cases h3 : u < 1000
  · rw [Lib.decDigits, dif_neg h1, Lib.decDigits_two (by omega) (by omega)]
    have a1 := q (u / 10 / 10) (by omega)
    have a2 := q (u / 10 % 10) (by omega)
    have a3 := q (u % 10) (by omega)
    refine ⟨⟨by simp, by simp, dg [u / 10 / 10, u / 10 % 10, u % 10] (by simp; omega), fun c r e hc => ?_⟩, ?_⟩
    · simp only [List.cons_append, List.nil_append, List.cons.injEq] at e; rw [← e.1, a1] at hc; omega
    · simp only [List.cons_append, List.nil_append, decF]; rw [a1, a2, a3]; omega
  · rw [Lib.decDigits, dif_neg h1, Lib.decDigits, dif_neg (by omega), Lib.decDigits_two (by omega) (by omega)]
    have a1 := q (u / 10 / 10 / 10) (by omega)
    have a2 := q (u / 10 / 10 % 10) (by omega)
    have a3 := q (u / 10 % 10) (by omega)
    have a4 := q (u % 10) (by omega)
    refine ⟨⟨by simp, by simp, dg [u / 10 / 10 / 10, u / 10 / 10 % 10, u / 10 % 10, u % 10] (by simp; omega), fun c r e hc => ?_⟩, ?_⟩
    · simp only [List.cons_append, List.nil_append, List.cons.injEq] at e; rw [← e.1, a1] at hc; omega
    · simp only [List.cons_append, List.nil_append, decF]; rw [a1, a2, a3, a4]; omega

theorem parse10 : ∀ (l : List UInt8) (a k : Nat), digL l → a < 10 ^ k → l.length + k ≤ 18 → Lib.parseUint10 a l = .ok (decF a l).toNat ∧ (a : Int) ≤ decF a l ∧ decF a l < 10 ^ (l.length + k) := by
  intro l
  induction l with
  | nil => intro a k _ h _; simp only [Lib.parseUint10, decF, List.length_nil, Nat.zero_add, Int.toNat_natCast, true_and]; exact ⟨Int.le_refl _, by exact_mod_cast h⟩
  | cons c l ih =>
    intro a k hd h hl
    have hc := hd c (by simp)
    simp only [List.length_cons] at hl
    have e : (10 * (a : Int) + ((c.toNat : Int) - 48)) = ((a * 10 + (c.toNat - 48) : Nat) : Int) := by omega
    have hp : 10 ^ k ≤ 10 ^ 17 := Nat.pow_le_pow_right (by decide) (by omega)
    obtain ⟨g1, g2, g3⟩ := ih (a * 10 + (c.toNat - 48)) (k + 1) (fun x hx => hd x (by simp [hx])) (by rw [Nat.pow_succ]; omega) (by omega)
    simp only [Lib.parseUint10, decF]
    rw [if_pos hc, if_neg (by omega), if_neg (by omega), e]
    refine ⟨g1, by omega, ?_⟩
    rw [List.length_cons, show l.length + 1 + k = l.length + (k + 1) by omega]; exact g3

theorem parseMag_good {l : List UInt8} (h : good4 l) : Lib.parseMag l = .ok (decF 0 l).toNat := by
  obtain ⟨h1, h2, h3, _⟩ := h
  unfold Lib.parseMag
  rw [if_neg h1]
  exact (parse10 l 0 0 h3 (by simp) (by omega)).1

theorem neg_list {s : ByteArray} : (negB s = true ↔ ∃ t, s.data.toList = 45 :: t) := by
  unfold negB
  simp only [Bool.and_eq_true, decide_eq_true_eq]
  have hsz := size_list s
  constructor
  · rintro ⟨h1, h2⟩
    cases hl : s.data.toList with
    | nil => rw [hl] at hsz; simp at hsz; omega
    | cons c t =>
      obtain ⟨k1, _, _⟩ := bt_list (s := s) (k := 0) (by simpa using hl)
      rw [k1] at h2
      exact ⟨t, by rw [show c = 45 from UInt8.toNat_inj.1 (by simpa using (by exact_mod_cast h2 : c.toNat = 45))]⟩
  · rintro ⟨t, hl⟩
    obtain ⟨k1, k2, _⟩ := bt_list (s := s) (k := 0) (by simpa using hl)
    exact ⟨by omega, by rw [k1]; rfl⟩

theorem tail_list {s : ByteArray} {t : List UInt8} (h : s.data.toList = 45 :: t) : (s.extract 1 s.size).data.toList = t := by
  rw [ByteArray.data_extract, Array.toList_extract]
  have hsz := size_list s
  simp only [List.extract, h, List.drop_succ_cons, List.drop_zero]
  rw [h] at hsz
  simp only [List.length_cons] at hsz
  exact List.take_of_length_le (by omega)

def readLib (l : List UInt8) : Int × Bool :=
  match Lib.atoiAll l with
  | .ok v => bif (decide (-9999 ≤ v) && decide (v ≤ 9999)) && decide (Lib.itoa v = l) then (v, true) else (0, false)
  | _ => (0, false)

theorem readLib_ok {l : List UInt8} {v : Int} (h1 : Lib.atoiAll l = .ok v) (h2 : -9999 ≤ v ∧ v ≤ 9999) (h3 : Lib.itoa v = l) : readLib l = (v, true) := by
  unfold readLib; rw [h1]; simp [h2, h3]
theorem readLib_no {l : List UInt8} (h : ∀ v : Int, -9999 ≤ v ∧ v ≤ 9999 → Lib.itoa v ≠ l) : readLib l = (0, false) := by
  unfold readLib
  cases Lib.atoiAll l with
  | ok v =>
    simp only
    cases hb : (decide (-9999 ≤ v) && decide (v ≤ 9999)) && decide (Lib.itoa v = l) with
    | false => rfl
    | true =>
      simp only [Bool.and_eq_true, decide_eq_true_eq] at hb
      exact absurd hb.2 (h v hb.1)
  | range => rfl
  | _ => rfl

theorem good4_head {l : List UInt8} (h : good4 l) : ∃ c r, l = c :: r ∧ 48 ≤ c.toNat ∧ c.toNat ≤ 57 := by
  obtain ⟨h1, _, h3, _⟩ := h
  cases l with
  | nil => exact absurd rfl h1
  | cons c r => exact ⟨c, r, rfl, h3 c (by simp)⟩

theorem itoa_form {v : Int} (h : -9999 ≤ v ∧ v ≤ 9999) : ∃ u : Nat, u < 10000 ∧ ((v = u ∧ Lib.itoa v = Lib.decDigits u) ∨ (1 ≤ u ∧ v = -(u : Int) ∧ Lib.itoa v = 45 :: Lib.decDigits u)) := by
  by_cases hv : 0 ≤ v
  · refine ⟨v.toNat, by omega, .inl ⟨by omega, ?_⟩⟩
    conv => lhs; rw [show v = ((v.toNat : Nat) : Int) by omega]
    exact Lib.itoa_nonneg _
  · refine ⟨(-v).toNat, by omega, .inr ⟨by omega, by omega, ?_⟩⟩
    conv => lhs; rw [show v = -(((-v).toNat : Nat) : Int) by omega]
    exact Lib.itoa_neg _ (by omega)

theorem readNum_eq (s : ByteArray) : readNum s = readLib s.data.toList := by
  unfold readNum
  cases hn : negB s with
  | true =>
    obtain ⟨t, ht⟩ := neg_list.1 hn
    have hT : (tailB s).data.toList = t := by unfold tailB; rw [hn]; exact tail_list ht
    have hi := l15_iff (tailB s)
    rw [hT] at hi
    unfold badB
    rw [hn]
    cases hb : (decide ((l15 (tailB s) 0).1 < 0) || (decide ((l15 (tailB s) 0).2 < (tailB s).size) || (true && decide ((l15 (tailB s) 0).1 = 0)))) with
    | false =>
      simp only [Bool.or_eq_false_iff, decide_eq_false_iff_not, Bool.true_and] at hb
      obtain ⟨g1, g2⟩ := hi.1 ⟨by omega, by omega⟩
      obtain ⟨u, u1, u2, u3⟩ := good4_dec g1
      simp only [cond_false, cond_true]
      rw [g2, u2] at hb ⊢
      have hu : 1 ≤ u := by have := hb.2.2; omega
      rw [readLib_ok (v := -(u : Int)) ?_ (by omega) (by rw [Lib.itoa_neg u hu, u3, ht])]
      rw [ht, Lib.atoiAll_minus, parseMag_good g1, u2]
      simp only [Lib.signed, Int.toNat_natCast]
      rw [if_neg (by omega)]
    | true =>
      simp only [cond_true]
      rw [readLib_no]
      intro v hv e
      obtain ⟨u, hu, ⟨_, h2⟩ | ⟨h1, _, h2⟩⟩ := itoa_form hv
      · obtain ⟨c, r, k1, k2, k3⟩ := good4_head (dec_good4 hu).1
        rw [e, ht, k1] at h2
        injection h2 with h2 _
        rw [← h2] at k2 k3; simp at k2
      · rw [e, ht] at h2
        injection h2 with _ h2
        obtain ⟨g1, g2⟩ := dec_good4 hu
        rw [← h2] at g1 g2
        have hl := good4_l15 (tailB s) (by rw [hT]; exact g1)
        rw [hT, g2] at hl
        rw [hl] at hb
        simp only [Bool.or_eq_true, Bool.true_and, decide_eq_true_eq] at hb
        omega
  | false =>
    have hT : tailB s = s := by unfold tailB; rw [hn]; rfl
    have hi := l15_iff s
    unfold badB
    rw [hn, hT]
    have hne : ∀ t, s.data.toList ≠ 45 :: t := fun t e => by rw [neg_list.2 ⟨t, e⟩] at hn; cases hn
    cases hb : (decide ((l15 s 0).1 < 0) || (decide ((l15 s 0).2 < s.size) || (false && decide ((l15 s 0).1 = 0)))) with
    | false =>
      simp only [Bool.or_eq_false_iff, decide_eq_false_iff_not, Bool.false_and] at hb
      obtain ⟨g1, g2⟩ := hi.1 ⟨by omega, by omega⟩
      obtain ⟨u, u1, u2, u3⟩ := good4_dec g1
      simp only [cond_false, cond_true]
      rw [g2, u2]
      rw [readLib_ok (v := (u : Int)) ?_ (by omega) (by rw [Lib.itoa_nonneg, u3])]
      obtain ⟨c, r, k1, k2, k3⟩ := good4_head g1
      rw [k1, Lib.atoiAll_plain c r (by omega) (by omega), ← k1, parseMag_good g1, u2]
      simp only [Lib.signless, Int.toNat_natCast]
      rw [if_neg (by omega)]
    | true =>
      simp only [cond_true]
      rw [readLib_no]
      intro v hv e
      obtain ⟨u, hu, ⟨_, h2⟩ | ⟨h1, _, h2⟩⟩ := itoa_form hv
      · rw [e] at h2
        obtain ⟨g1, g2⟩ := dec_good4 hu
        rw [← h2] at g1 g2
        have hl := good4_l15 s g1
        rw [g2] at hl
        rw [hl] at hb
        simp only [Bool.or_eq_true, Bool.false_and, decide_eq_true_eq, Bool.false_eq_true, or_false] at hb
        rcases hb with hb | hb <;> omega
      · rw [e] at h2; exact hne _ h2
end Go.Ax
end

section
namespace Go.Ax
open Go Go.Proofs

def pre1 (c : UInt8) : List (List UInt8) → List (List UInt8)
  | [] => []
  | w :: ws => (c :: w) :: ws
def spl : List UInt8 → List (List UInt8)
  | [] => [[]]
  | c :: r => if c = 32 then [] :: spl r else pre1 c (spl r)
def preL (p : List UInt8) : List (List UInt8) → List (List UInt8)
  | [] => []
  | w :: ws => (p ++ w) :: ws

theorem spl_ne (l : List UInt8) : spl l ≠ [] := by
  induction l with
  | nil => simp [spl]
  | cons c r ih =>
    unfold spl
    split
    · simp
    · cases h : spl r with
      | nil => exact absurd h ih
      | cons => simp [pre1]

theorem preL_nil (l : List (List UInt8)) : preL [] l = l := by cases l <;> rfl
theorem preL_pre1 (p : List UInt8) (c : UInt8) (l : List (List UInt8)) : preL p (pre1 c l) = preL (p ++ [c]) l := by
  cases l with
  | nil => rfl
  | cons w ws => simp [preL, pre1]

theorem index_cons (c : UInt8) (r : List UInt8) (h : c ≠ 32) : Lib.index (c :: r) [32] = if Lib.index r [32] == -1 then -1 else Lib.index r [32] + 1 := by
  rw [Lib.index]
  have : List.isPrefixOf [32] (c :: r) = false := by
    simp only [List.isPrefixOf, Bool.and_eq_false_iff, beq_eq_false_iff_ne]
    exact .inl fun e => h e.symm
  rw [this]; rfl

theorem splitK_spl : ∀ (l : List UInt8) (n : Nat), l.count 32 ≤ n → Lib.splitK [32] 0 n l = spl l := by
  intro l
  induction l with
  | nil =>
    intro n _
    cases n with
    | zero => rfl
    | succ n => rfl
  | cons c r ih =>
    intro n hn
    by_cases hc : c = 32
    · subst hc
      rw [List.count_cons_self] at hn
      obtain ⟨n, rfl⟩ : ∃ m, n = m + 1 := ⟨n - 1, by omega⟩
      have hi : Lib.index (32 :: r) [32] = 0 := by rw [Lib.index]; simp [List.isPrefixOf]
      unfold Lib.splitK spl
      rw [hi]
      simp only [if_true]
      rw [← ih n (by omega)]
      rfl
    · rw [List.count_cons_of_ne (by first | exact hc | exact fun e => hc e.symm | simpa using hc)] at hn
      have key : Lib.splitK [32] 0 n (c :: r) = pre1 c (Lib.splitK [32] 0 n r) := by
        cases n with
        | zero => rfl
        | succ n =>
          have hge := Lib.index_ge r [32]
          unfold Lib.splitK
          rw [index_cons c r hc]
          by_cases hm : Lib.index r [32] = -1
          · rw [hm]; rfl
          · obtain ⟨j, hj⟩ : ∃ j : Nat, Lib.index r [32] = j := ⟨(Lib.index r [32]).toNat, by omega⟩
            rw [hj]
            have e1 : ((j : Int) == -1) = false := by simp
            have e2 : ((j : Int) + 1 == -1) = false := by simp; omega
            simp only [e1, e2, Bool.false_eq_true, if_false]
            have e3 : ((j : Int) + 1).toNat = j + 1 := by omega
            rw [e3, Int.toNat_natCast]
            rfl
      rw [key, ih n hn]
      conv => rhs; unfold spl
      rw [if_neg hc]

theorem ext_list (s : ByteArray) (a b : Nat) : (s.extract a b).data.toList = (s.data.toList.take b).drop a := by
  rw [Lib.extract_data, List.drop_take]

theorem sw_spl (s : ByteArray) : ∀ (k i a : Nat) (acc : List ByteArray), i + k = s.size → a ≤ i → (sw s k i a acc).map (·.data.toList) = acc.map (·.data.toList) ++ preL ((s.data.toList.take i).drop a) (spl (s.data.toList.drop i)) := by
  intro k
  have hsz := size_list s
  induction k with
  | zero =>
    intro i a acc h ha
    unfold sw
    rw [List.map_append, List.drop_eq_nil_of_le (i := i) (by omega)]
    simp only [List.map_cons, List.map_nil, spl, preL, List.append_nil, ext_list, show i = s.size by omega]
  | succ k ih =>
    intro i a acc h ha
    have hlt : i < s.data.toList.length := by omega
    have hdr := List.drop_eq_getElem_cons hlt
    obtain ⟨k1, k2, k3⟩ := bt_list hdr
    generalize hc : s.data.toList[i] = c at hdr k1
    unfold sw
    rw [hdr]
    unfold spl
    rw [k1]
    by_cases h32 : c = 32
    · subst h32
      rw [show decide (((32 : UInt8).toNat : Int) = 32) = true by decide]
      simp only [cond_true, if_true]
      rw [ih (i + 1) (i + 1) _ (by omega) (by omega), List.map_append]
      have e1 : (s.data.toList.take (i + 1)).drop (i + 1) = [] := List.drop_eq_nil_of_le (by simp; omega)
      rw [e1, preL_nil]
      simp only [List.map_cons, List.map_nil, ext_list, preL, List.append_nil, List.append_assoc, List.singleton_append]
    · have : ¬ ((c.toNat : Int) = 32) := fun e => h32 (UInt8.toNat_inj.1 (by simpa using (by exact_mod_cast e : c.toNat = 32)))
      rw [show decide ((c.toNat : Int) = 32) = false by simpa using this]
      simp only [cond_false, if_neg h32]
      rw [ih (i + 1) a acc (by omega) (by omega), preL_pre1]
      congr 2
      rw [List.take_add_one, List.drop_append_of_le_length (by simp; omega)]
      have e2 : s.data.toList[i]? = some c := by rw [List.getElem?_eq_getElem hlt, hc]
      rw [e2]; rfl

theorem map_inj : ∀ {l m : List ByteArray}, l.map (·.data.toList) = m.map (·.data.toList) → l = m := by
  intro l
  induction l with
  | nil => intro m h; cases m with
    | nil => rfl
    | cons => simp at h
  | cons a l ih =>
    intro m h
    cases m with
    | nil => simp at h
    | cons b m =>
      simp only [List.map_cons, List.cons.injEq] at h
      rw [ih h.2]
      obtain ⟨h1, _⟩ := h
      cases a; cases b
      simp at h1
      rw [h1]

theorem words_split (s : ByteArray) (n : Nat) (hn : s.data.toList.count 32 ≤ n) : Lib.splitB ⟨#[32]⟩ 0 n s = words s := by
  apply map_inj
  rw [Lib.splitB_data, splitK_spl _ _ hn]
  unfold words
  rw [sw_spl s s.size 0 0 [] (by omega) (by omega)]
  simp [preL_nil]
end Go.Ax
end

section
set_option maxRecDepth 4000
namespace Go.Ax
open Go Go.Proofs
variable {gl : Gl}

theorem frame_below {w w' : World} {ow : Own} (h : RowKit.Below w.heap.size w w') : Frame' w ow w' ow := ⟨h.os, h.tape, h.output, h.size, fun b hb _ => ⟨h.block b hb, rfl⟩⟩

theorem calls_det {f : FuncId} {args : List Arg} {r : Res} (hb : HasBody Tryd.prog f) (hx : ∀ (j : Nat) a, args[j]? = some a → a.isX = false)
    (h : ∀ w ow vs, Entry (EE gl) w ow args vs → Calls Tryd.prog f vs w fun e w' => ∃ v ow', e = .returned v ∧ RepRes w' ow' r v ∧ Frame' w ow w' ow') : Det gl f args r args :=
  ⟨hb, ⟨r, args, rfl, rfl⟩, fun w ow vs he => (h w ow vs he).mono fun _ _ ⟨v, ow', h1, h2, h3⟩ => ⟨v, ow', r, args, h1, ⟨rfl, rfl⟩, h2, ⟨rfl, fun j a ha hX => by rw [hx j a ha] at hX; cases hX⟩, h3⟩⟩

theorem entry_v {w : World} {ow : Own} {args : List Arg} {vs : Array Value} (he : Entry (EE gl) w ow args vs) {j : Nat} {x : Value} (h : args[j]? = some (.one (.v x))) : vs[j]? = some x := by
  obtain ⟨v, h1, h2⟩ := he.rep j _ h
  have : v = x := Rep.v_inv h2
  rw [h1, this]

theorem entry1 {w : World} {ow : Own} {x : Value} {vs : Array Value} (he : Entry (EE gl) w ow [.one (.v x)] vs) : vs = #[x] := by
  have h0 := entry_v he (j := 0) rfl
  have hz := he.size
  apply Array.ext
  · simpa using hz
  · intro i h1 h2
    have : i = 0 := by simp at h2; omega
    subst this
    rw [Array.getElem?_eq_getElem h1] at h0
    simpa using h0

theorem entry2 {w : World} {ow : Own} {x y : Value} {vs : Array Value} (he : Entry (EE gl) w ow [.one (.v x), .one (.v y)] vs) : vs = #[x, y] := by
  have h0 := entry_v he (j := 0) rfl
  have h1' := entry_v he (j := 1) rfl
  have hz := he.size
  apply Array.ext
  · simpa using hz
  · intro i h1 h2
    have : i = 0 ∨ i = 1 := by simp at h2; omega
    rcases this with rfl | rfl
    · rw [Array.getElem?_eq_getElem h1] at h0; simpa using h0
    · rw [Array.getElem?_eq_getElem h1] at h1'; simpa using h1'

theorem globs_cells {w : World} {ow : Own} (h : Globs (tab gl) w ow) : (∃ et fr, w.heap[3]? = some (.cells (pow10L.map fun x => Value.int .u64 x).toArray et fr)) ∧ w.cell? ⟨4, 0, none⟩ = some gl.e1 ∧ w.cell? ⟨5, 0, none⟩ = some gl.e2 := by
  obtain ⟨a3, t3, f3, h3, _, c3, z3⟩ := h 3 _ rfl
  obtain ⟨a4, t4, f4, h4, _, c4, z4⟩ := h 4 _ rfl
  obtain ⟨a5, t5, f5, h5, _, c5, z5⟩ := h 5 _ rfl
  refine ⟨⟨t3, f3, ?_⟩, ?_, ?_⟩
  · have e : a3 = (pow10L.map fun x => Value.int .u64 x).toArray := by
      apply Array.ext
      · rw [z3]; simp
      · intro i h1 h2
        have hi : i < pow10L.length := by simpa using h2
        obtain ⟨x, k1, k2⟩ := c3 i (.v (.int .u64 pow10L[i])) (by simp [hi])
        have := Rep.v_inv k2
        subst this
        rw [Array.getElem?_eq_getElem h1] at k1
        simp only [Option.some.injEq] at k1
        rw [k1]; simp
    rw [← e]; exact h3
  · obtain ⟨x, k1, k2⟩ := c4 0 (.v gl.e1) rfl
    have := Rep.v_inv k2
    subst this
    simp only [World.cell?, h4]; exact k1
  · obtain ⟨x, k1, k2⟩ := c5 0 (.v gl.e2) rfl
    have := Rep.v_inv k2
    subst this
    simp only [World.cell?, h5]; exact k1

theorem pow10_eq : Lib.pow10Tab = pow10L := by decide

theorem globs_tab {w w' : World} {ow : Own} (h : Globs (tab gl) w ow) (hb : RowKit.Below w.heap.size w w') : Lib.TabIs Tryd.prog w' "internal/strconv.uint64pow10" .u64 Lib.pow10Tab := by
  obtain ⟨⟨et, fr, h3⟩, _⟩ := globs_cells h
  have hlt : 3 < w.heap.size := (Array.getElem?_eq_some_iff.1 h3).1
  unfold Lib.TabIs World.var?
  rw [show Tryd.prog.globalNamed "internal/strconv.uint64pow10" = some 3 by kernel_rfl]
  simp only [Option.bind_some]
  rw [hb.block 3 hlt, h3, pow10_eq]

theorem mem_index (l : List UInt8) (c : UInt8) : decide (0 ≤ Lib.indexByte l c) = decide (c ∈ l) := by
  rw [decide_eq_decide]
  have hge := Lib.indexByte_ge l c
  constructor
  · intro h
    obtain ⟨o, ho⟩ : ∃ o : Nat, Lib.indexByte l c = o := ⟨(Lib.indexByte l c).toNat, by omega⟩
    exact List.mem_of_getElem? (Lib.indexByte_some ho).1
  · intro h
    by_cases hm : Lib.indexByte l c = -1
    · obtain ⟨k, hk, rfl⟩ := List.mem_iff_getElem.1 h
      exact absurd (List.getElem?_eq_getElem hk) (Lib.indexByte_none hm k)
    · omega

theorem c38 (s : ByteArray) (c : UInt8) : Det gl 38 [sA s, sA ⟨#[c]⟩] [bR (decide (c ∈ s.data.toList))] [sA s, sA ⟨#[c]⟩] := by
  refine calls_det ⟨Tryd.f38, Tryd.func38, rfl, rfl⟩ (fun j a h => by rcases j with _ | _ | j <;> simp at h <;> subst h <;> rfl) fun w ow vs he => ?_
  obtain rfl := entry2 he
  have := Any.strings_Contains_one Tryd.lays144 s c w
  refine Calls.mono (P := Tryd.prog) (f := 38) this fun e w' ⟨h1, h2⟩ => ⟨_, ow, h1, ?_, h2 ▸ frame_below (RowKit.Below.refl _ _)⟩
  rw [mem_index]
  exact Rep.v _ _ rfl

theorem below_grow {w w1 : World} {k : Nat} {os : Array Go.Obj} (h : RowKit.Below w.heap.size w w1) : RowKit.Below w.heap.size w (Sort.grow (w1.drewN k) os) :=
  ⟨h.os, h.tape, h.output, by rw [Sort.size_grow]; have := h.size; show w.heap.size ≤ w1.heap.size + os.size; omega, fun b hb => by
    have h1 : b < w1.heap.size := Nat.lt_of_lt_of_le hb h.size
    show ((w1.heap ++ os)[b]?) = _
    rw [Array.getElem?_append_left h1]; exact h.block b hb⟩

theorem ba_eq {l : List UInt8} {s : ByteArray} : decide ((⟨l.toArray⟩ : ByteArray) = s) = decide (l = s.data.toList) := by
  rw [decide_eq_decide]
  constructor
  · intro h; subst h; rfl
  · intro h; subst h; cases s; rfl

theorem rep2 {w : World} {ow : Own} {n : Int} {b : Bool} : RepRes w ow [iR n, bR b] (.tuple #[.int .i64 n, .bool b]) := by
  refine ⟨_, rfl, rfl, fun m r h => ?_⟩
  rcases m with _ | _ | m
  · simp at h; subst h; exact ⟨_, rfl, Rep.v _ _ rfl⟩
  · simp at h; subst h; exact ⟨_, rfl, Rep.v _ _ rfl⟩
  · simp at h

theorem c57 (s : ByteArray) (hs : s.size < 1000000000000) : Det gl 57 [sA s] [iR (readNum s).1, bR (readNum s).2] [sA s] := by
  refine calls_det ⟨Tryd.f57, Tryd.func57, rfl, rfl⟩ (fun j a h => by rcases j with _ | j <;> simp at h <;> subst h <;> rfl) fun w ow vs he => ?_
  obtain rfl := entry1 he
  obtain ⟨_, g1, g2⟩ := globs_cells he.globs
  rw [readNum_eq]
  unfold readLib
  cases hA : Lib.atoiAll s.data.toList with
  | ok v =>
    have hb := Lib.atoiAll_bounds hA
    have a1 : Calls Tryd.prog 73 #[.string s] w fun e w' => e = .returned (.tuple #[.int .i64 v, .nilIface]) ∧ RowKit.Below w.heap.size w w' :=
      Calls.mono (P := Tryd.prog) (f := 73) (Any.strconv_Atoi_ok Tryd.laysC172 s (by omega) v hA w) fun e w' ⟨h1, h2⟩ => ⟨h1, by
        rcases h2 with rfl | ⟨t, rfl⟩
        · exact RowKit.Below.refl _ _
        · exact Lib.bytesWorld_below _ _ _⟩
    have a2 : ∀ w', RowKit.Below w.heap.size w w' → Calls Tryd.prog 50 #[.int .i64 v] w' fun e w'' => e = .returned (.string ⟨(Lib.itoa v).toArray⟩) ∧ RowKit.Below w.heap.size w w'' := fun w' hw =>
      Calls.mono (P := Tryd.prog) (f := 50) (Any.strconv_Itoa Tryd.laysM171 v hb.1 hb.2 w' (globs_tab he.globs hw)) fun e w'' ⟨h1, k, os, h2⟩ => ⟨h1, h2 ▸ below_grow hw⟩
    refine (Go.Proofs.YtgjkcoifgdmmbaaDoor.k57_ok s v _ w a1 a2).mono fun e w' ⟨⟨b, h1, h2⟩, h3⟩ => ⟨_, ow, h2, ?_, frame_below h3⟩
    rw [ba_eq] at h1
    simp only
    rw [← h1]
    cases b <;> exact rep2
  | range =>
    have a1 : Calls Tryd.prog 73 #[.string s] w fun e w' => (∃ n t p, e = .returned (.tuple #[.int .i64 n, .iface t p])) ∧ RowKit.Below w.heap.size w w' :=
      Calls.mono (P := Tryd.prog) (f := 73) (Any.strconv_Atoi_range Tryd.laysC172 s (by omega) hA gl.e2 w g2 gl.h2) fun e w' ⟨N, h1, _, _, h4⟩ => ⟨⟨_, _, _, h1⟩, h4⟩
    exact (Go.Proofs.YtgjkcoifgdmmbaaDoor.k57_err s w a1).mono fun e w' ⟨h2, h3⟩ => ⟨_, ow, h2, rep2, frame_below h3⟩
  | _ =>
    have a1 : Calls Tryd.prog 73 #[.string s] w fun e w' => (∃ n t p, e = .returned (.tuple #[.int .i64 n, .iface t p])) ∧ RowKit.Below w.heap.size w w' :=
      Calls.mono (P := Tryd.prog) (f := 73) (Any.strconv_Atoi_syntax Tryd.laysC172 s (by omega) hA gl.e1 w g1 gl.h1) fun e w' ⟨N, h1, _, _, h4⟩ => ⟨⟨_, _, _, h1⟩, h4⟩
    exact (Go.Proofs.YtgjkcoifgdmmbaaDoor.k57_err s w a1).mono fun e w' ⟨h2, h3⟩ => ⟨_, ow, h2, rep2, frame_below h3⟩

theorem c23 (s : ByteArray) (hs : s.size < 4000000) : Det gl 23 [sA s, sA ⟨#[32]⟩] [.one (.own true 1 (words s).length (rowsF encS (words s)))] [sA s, sA ⟨#[32]⟩] := by
  refine calls_det ⟨Tryd.f23, Tryd.func23, rfl, rfl⟩ (fun j a h => by rcases j with _ | _ | j <;> simp at h <;> subst h <;> rfl) fun w ow vs he => ?_
  obtain rfl := entry2 he
  have hcnt : Lib.countB s ⟨#[32]⟩ = s.data.toList.count 32 := Lib.count_one 32 _
  have hcl : Lib.countB s ⟨#[32]⟩ ≤ s.size := Lib.countB_le ⟨#[32]⟩ (by decide) s.size s (Nat.le_refl _)
  have hix : ∀ x : ByteArray, Lib.indexB x ⟨#[32]⟩ = Lib.indexByte x.data.toList 32 := fun x => Lib.index_one _ _
  have a1 : Calls Tryd.prog 36 #[.string s, .string ⟨#[32]⟩, .int .i64 0, .int .i64 (-1)] w fun e w' => e = .returned (.slice (some ⟨w.heap.size, 0, none⟩) (Lib.splitB ⟨#[32]⟩ 0 (Lib.countB s ⟨#[32]⟩ + 1 - 1) s).length (Lib.countB s ⟨#[32]⟩ + 1)) ∧ w' = w.alloc (.cells (Lib.cellsOf (Lib.splitB ⟨#[32]⟩ 0 (Lib.countB s ⟨#[32]⟩ + 1 - 1) s) (Lib.countB s ⟨#[32]⟩ + 1)) 9) :=
    Any.strings_genSplit_core Tryd.lays221 (by kernel_rfl) s ⟨#[32]⟩ 0 (-1) (Lib.countB s ⟨#[32]⟩ + 1) w (by omega) (by decide) (by decide)
      (fun x c _ => by rw [hix]; exact Any.strings_Index_one Tryd.lays143 x 32 _)
      (by rw [hcnt]; exact Any.strings_Count_one Tryd.lays138 s 32 w) (by decide) (by decide) (by rw [if_pos (by decide)]; omega)
  rw [Nat.add_sub_cancel, words_split s _ (by omega)] at a1
  have hwl := words_len s
  have hlen : (words s).length ≤ Lib.countB s ⟨#[32]⟩ + 1 := by
    rw [← words_split s (Lib.countB s ⟨#[32]⟩) (by omega)]; exact Lib.splitB_length_le _ _ _ _
  generalize Lib.countB s ⟨#[32]⟩ + 1 = N at a1 hlen
  generalize words s = ws at a1 hlen
  refine (Go.Proofs.YtgjkcoifgdmmbaaDoor.k23 s w _ _ _ _ a1).mono fun e w' ⟨h1, h2⟩ => ⟨_, fun b => if b = w.heap.size then some (.deep (1000000, 0) []) else ow b, h1, ?_, ?_⟩
  · subst h2
    have hz := Lib.cellsOf_size hlen
    refine Rep.sl _ 1 ws.length (rowsF encS ws) w.heap.size 0 N (Lib.cellsOf ws N) 9 (0, 0) (fun i j => .string (ws.getD i ⟨#[]⟩)) ?_ ?_ hlen ?_ (fun _ => .inl (Nat.le_refl _)) ?_ ?_ ?_
    · rw [Sort.alloc_eq_grow]; show (w.heap ++ _)[w.heap.size]? = _; rw [Array.getElem?_append_right (Nat.le_refl _), Nat.sub_self]; rfl
    · simp only [if_true]; rfl
    · rw [hz]; split <;> omega
    · intro i hi
      rw [rowsF_some (x := ws[i]) (by simp [hi])]; rfl
    · intro i j d hi hd
      rw [rowsF_some (x := ws[i]) (by simp [hi])] at hd
      have hj : j = 0 := by
        rcases j with _ | j
        · rfl
        · simp [encS] at hd
      subst hj
      simp only [Nat.zero_add, Nat.mul_one, Nat.add_zero]
      unfold Lib.cellsOf
      rw [List.getElem?_toArray, List.getElem?_append_left (by simpa using hi)]
      simp [hi]
    · intro i j d hi hd
      rw [rowsF_some (x := ws[i]) (by simp [hi])] at hd
      have hj : j = 0 := by
        rcases j with _ | j
        · rfl
        · simp [encS] at hd
      subst hj
      simp only [encS, List.getElem?_cons_zero, Option.some.injEq] at hd
      subst hd
      have : ws.getD i ⟨#[]⟩ = ws[i] := by simp [hi]
      rw [this]
      exact Rep.v _ _ rfl
  · subst h2
    rw [Sort.alloc_eq_grow]
    refine ⟨rfl, rfl, rfl, by rw [Sort.size_grow]; omega, fun b hb _ => ⟨?_, ?_⟩⟩
    · show (w.heap ++ _)[b]? = _; rw [Array.getElem?_append_left hb]
    · simp only [if_neg (Nat.ne_of_lt hb)]
end Go.Ax
end
