/- An executor for abstract values, the parts: what a datum stands for, what an operation comes to. -/
import Derived.Calls
import Derived.Orders
import Derived.Below
import Derived.Laws.Strings
set_option linter.unusedSimpArgs false
set_option linter.unusedVariables false
section
namespace Go.Ax
open Go

inductive D where
  | v (x : Value)
  | sl (k n : Nat) (row : Nat → List D)

def _root_.Go.Value.oneC : Value → Bool
  | .agg _ | .tuple _ => false
  | _ => true

abbrev Id := Nat × Nat

inductive Tag where
  | fz
  | deep (id : Id) (p : List (Nat × Nat))
  | sh (id : Id)
  deriving DecidableEq

def Tag.ext : Tag → Nat → Nat → Tag
  | .deep id p, i, j => .deep id ((i, j) :: p)
  | _, _, _ => .fz

def Tag.ids : Tag → Option Id
  | .fz => none
  | .deep id _ => some id
  | .sh id => some id

abbrev Own := Nat → Option Tag

inductive Rep (w : World) (ow : Own) : Tag → D → Value → Prop
  | v (t : Tag) (x : Value) (h : x.oneC = true) : Rep w ow t (.v x) x
  | nil (t : Tag) (k : Nat) (row : Nat → List D) : Rep w ow t (.sl k 0 row) (.slice none 0 0)
  | zero (k : Nat) (row : Nat → List D) (a : Option Addr) (cap : Nat) : Rep w ow .fz (.sl k 0 row) (.slice a 0 cap)
  | sl (t : Tag) (k n : Nat) (row : Nat → List D) (b off cap : Nat) (cells : Array Value) (et : TypeId) (fr : Nat × Nat) (cv : Nat → Nat → Value)
      (hb : w.heap[b]? = some (.cells cells et fr)) (ho : ow b = some t)
      (hcap : n ≤ cap) (hsz : off + (if t = .fz then n else cap) * k ≤ cells.size) (hfr : t ≠ .fz → fr.2 ≤ fr.1 ∨ cells.size ≤ fr.1)
      (hk : ∀ i, i < n → (row i).length = k)
      (hc : ∀ i j d, i < n → (row i)[j]? = some d → cells[off + i * k + j]? = some (cv i j))
      (hr : ∀ i j d, i < n → (row i)[j]? = some d → Rep w ow (t.ext i j) d (cv i j)) :
      Rep w ow t (.sl k n row) (.slice (some ⟨b, off, none⟩) n cap)

theorem Rep.v_inv {w : World} {ow : Own} {t : Tag} {x y : Value} (h : Rep w ow t (.v x) y) : y = x := by cases h; rfl

theorem Rep.v_one {w : World} {ow : Own} {t : Tag} {x y : Value} (h : Rep w ow t (.v x) y) : x.oneC = true := by cases h; assumption

structure SlBlock (w : World) (ow : Own) (t : Tag) (k n : Nat) (row : Nat → List D) (b off cap : Nat) (cells : Array Value) (et : TypeId) (fr : Nat × Nat) (cv : Nat → Nat → Value) : Prop where
  hb : w.heap[b]? = some (.cells cells et fr)
  ho : ow b = some t
  hcap : n ≤ cap
  hsz : off + (if t = .fz then n else cap) * k ≤ cells.size
  hfr : t ≠ .fz → fr.2 ≤ fr.1 ∨ cells.size ≤ fr.1
  hk : ∀ i, i < n → (row i).length = k
  hc : ∀ i j d, i < n → (row i)[j]? = some d → cells[off + i * k + j]? = some (cv i j)
  hr : ∀ i j d, i < n → (row i)[j]? = some d → Rep w ow (t.ext i j) d (cv i j)

theorem Rep.inv {w : World} {ow : Own} {t : Tag} {k n : Nat} {row : Nat → List D} {v : Value} (h : Rep w ow t (.sl k n row) v) :
    (n = 0 ∧ (v = .slice none 0 0 ∨ (t = .fz ∧ ∃ a cap, v = .slice a 0 cap))) ∨
    ∃ b off cap cells et fr cv, v = .slice (some ⟨b, off, none⟩) n cap ∧ SlBlock w ow t k n row b off cap cells et fr cv := by
  cases h with
  | nil => exact .inl ⟨rfl, .inl rfl⟩
  | zero k row a cap => exact .inl ⟨rfl, .inr ⟨rfl, a, cap, rfl⟩⟩
  | sl t k n row b off cap cells et fr cv hb ho hcap hsz hfr hk hc hr => exact .inr ⟨b, off, cap, cells, et, fr, cv, rfl, hb, ho, hcap, hsz, hfr, hk, hc, hr⟩

theorem SlBlock.rep {w : World} {ow : Own} {t : Tag} {k n : Nat} {row : Nat → List D} {b off cap : Nat} {cells : Array Value} {et : TypeId} {fr : Nat × Nat} {cv : Nat → Nat → Value}
    (s : SlBlock w ow t k n row b off cap cells et fr cv) : Rep w ow t (.sl k n row) (.slice (some ⟨b, off, none⟩) n cap) :=
  .sl t k n row b off cap cells et fr cv s.hb s.ho s.hcap s.hsz s.hfr s.hk s.hc s.hr

theorem Rep.mono {w w' : World} {ow ow' : Own} (S : Tag → Prop) (hS : ∀ t i j, S t → S (t.ext i j))
    (h : ∀ b t o, ow b = some t → S t → w.heap[b]? = some o → w'.heap[b]? = some o ∧ ow' b = some t) {t : Tag} {d : D} {v : Value}
    (r : Rep w ow t d v) (ht : S t) : Rep w' ow' t d v := by
  induction r with
  | v t x hx => exact .v t x hx
  | nil t k row => exact .nil t k row
  | zero k row a cap => exact .zero k row a cap
  | sl t k n row b off cap cells et fr cv hb ho hcap hsz hfr hk hc hr ih =>
    obtain ⟨hb', ho'⟩ := h b t _ ho ht hb
    exact .sl t k n row b off cap cells et fr cv hb' ho' hcap hsz hfr hk hc fun i j d hi hj => ih i j d hi hj (hS _ _ _ ht)

def Tag.avoids (X : Id → Prop) (t : Tag) : Prop := ∀ id, t.ids = some id → ¬ X id

theorem Tag.avoids_ext {X : Id → Prop} {t : Tag} (h : t.avoids X) (i j : Nat) : (t.ext i j).avoids X := by
  intro id hid
  cases t with
  | fz => simp [Tag.ext, Tag.ids] at hid
  | deep id' p => simp only [Tag.ext, Tag.ids, Option.some.injEq] at hid; exact h id (by simp [Tag.ids, hid])
  | sh id' => simp [Tag.ext, Tag.ids] at hid

structure TagMap where
  f : Tag → Option Tag
  fz : f .fz = some .fz
  ext : ∀ t t' i j, f t = some t' → f (t.ext i j) = some (t'.ext i j)
  own : ∀ t t', f t = some t' → t' ≠ .fz → t ≠ .fz

def TagMap.on (m : TagMap) (ow : Own) : Own := fun b => (ow b).bind m.f

theorem Rep.map {w : World} {ow : Own} (m : TagMap) {t t' : Tag} {d : D} {v : Value} (r : Rep w ow t d v) (h : m.f t = some t') :
    Rep w (m.on ow) t' d v := by
  induction r generalizing t' with
  | v t x hx => exact .v t' x hx
  | nil t k row => exact .nil t' k row
  | zero k row a cap => rw [m.fz] at h; cases h; exact .zero k row a cap
  | sl t k n row b off cap cells et fr cv hb ho hcap hsz hfr hk hc hr ih =>
    refine .sl t' k n row b off cap cells et fr cv hb (by simp [TagMap.on, ho, h]) hcap ?_ (fun ht => hfr (m.own _ _ h ht)) hk hc
      fun i j d hi hj => ih i j d hi hj (m.ext _ _ _ _ h)
    by_cases ht : t = .fz
    · subst ht; rw [m.fz] at h; cases h; simpa using hsz
    · rw [if_neg ht] at hsz
      by_cases ht' : t' = .fz
      · rw [if_pos ht']
        have := Nat.mul_le_mul_right k hcap
        omega
      · rw [if_neg ht']; exact hsz

def D.eqv : D → D → Prop
  | .v x, .v y => x = y
  | .sl k n f, .sl k' n' g => k = k' ∧ n = n' ∧ ∀ i, i < n → f i = g i
  | _, _ => False

theorem D.eqv_refl (d : D) : d.eqv d := by cases d <;> simp [D.eqv]

theorem Rep.eqv {w : World} {ow : Own} {t : Tag} {d d' : D} {v : Value} (r : Rep w ow t d v) (h : d.eqv d') : Rep w ow t d' v := by
  cases r with
  | v t x hx => cases d' <;> simp [D.eqv] at h; subst h; exact .v _ _ hx
  | nil t k row => cases d' <;> simp [D.eqv] at h; obtain ⟨rfl, rfl⟩ := h; exact .nil _ _ _
  | zero k row a cap => cases d' <;> simp [D.eqv] at h; obtain ⟨rfl, rfl⟩ := h; exact .zero _ _ _ _
  | sl t k n row b off cap cells et fr cv hb ho hcap hsz hfr hk hc hr =>
    cases d' <;> simp [D.eqv] at h
    rename_i k' n' g
    obtain ⟨rfl, rfl, hfg⟩ := h
    exact .sl t k n g b off cap cells et fr cv hb ho hcap hsz hfr (fun i hi => by rw [← hfg i hi]; exact hk i hi)
      (fun i j d hi hj => hc i j d hi (by rw [hfg i hi]; exact hj)) (fun i j d hi hj => hr i j d hi (by rw [hfg i hi]; exact hj))

end Go.Ax
end

section
namespace Go.Ax
open Go

inductive C where
  | val (x : Value)
  | dat (d : D)
  | own (id : Id)
  | osub (id : Id) (ver k i j : Nat)
  | ptr (id : Id) (off : Nat)
  | eptr (id : Id) (k i off : Nat)
  | fptr (cells : List D)
  | fn (f : FuncId) (caps : List (Id × Nat))
  | any

inductive V1 where
  | one (c : C)
  | agg (cs : List C)

inductive V where
  | s (x : V1)
  | tup (xs : List V1)

inductive Obj where
  | box (cs : List C)
  | sl (deep : Bool) (k n : Nat) (row : Nat → List D) (ver : Nat)

structure St where
  nt : Nat
  env : Nat → V
  objs : Id → Option (Option Obj)

def St.ob (st : St) (id : Id) : Option Obj := match st.objs id with | some (some o) => some o | _ => none

abbrev V.c (c : C) : V := .s (.one c)
abbrev V.any : V := .c .any
abbrev V.val (x : Value) : V := .c (.val x)
abbrev V.int (n : Int) : V := .c (.val (.int .i64 n))
abbrev V.bool (b : Bool) : V := .c (.val (.bool b))

def getE : List (Nat × V) → Nat → V
  | [], _ => .any
  | (d, v) :: l, s => bif (d == s) then v else getE l s

def eqId (a b : Id) : Bool := (a.1 == b.1) && (a.2 == b.2)

def getO : List (Id × Obj) → Id → Option (Option Obj)
  | [], _ => none
  | (d, o) :: l, id => bif eqId d id then some (some o) else getO l id

def St.mk' (nt : Nat) (e : List (Nat × V)) (o : List (Id × Obj)) : St := ⟨nt, getE e, getO o⟩

inductive TK where
  | bool | int (k : IntKind) | str
  | slice (elem : Nat)
  | struct (fields : List (Nat × Nat))
  | arr (len elem : Nat)
  | ptr (elem : Nat)
  | iface
  | other

structure TI where
  kind : TK
  size : Nat
  bytes : Nat
  zero : List Value
  flat : Bool

structure Tab where
  types : List (Nat × TI)
  globs : List (Nat × List D)
  excl : List (Nat × List Nat)

def lk {α : Type} : List (Nat × α) → Nat → Option α
  | [], _ => none
  | (d, v) :: l, s => bif (d == s) then some v else lk l s

def Tab.ti (T : Tab) (t : Nat) : Option TI := lk T.types t
def Tab.kind (T : Tab) (t : Nat) : TK := match T.ti t with | some i => i.kind | none => .other
def Tab.size (T : Tab) (t : Nat) : Nat := match T.ti t with | some i => i.size | none => 0
def TK.isAgg : TK → Bool
  | .struct _ | .arr _ _ => true
  | _ => false

inductive RCell where
  | fz (d : D)
  | own (deep : Bool) (k n : Nat) (row : Nat → List D)
inductive R1 where
  | one (c : RCell)
  | agg (cs : List RCell)
abbrev Res := List R1

inductive Arg where
  | one (d : D)
  | agg (ds : List D)
  | xsl (deep : Bool) (k n : Nat) (row : Nat → List D)
  | xbox (cs : List RCell)

inductive Ev where
  | stuck
  | det (side : Prop) (v : V) (upd : List (Id × Option Obj))
  | nd (v : Bool → V)
  | call (f : FuncId) (args : List Arg) (ex : List (Id × Id)) (bor : List Id)

def St.ev (T : Tab) (st : St) : Operand → V
  | .tmp t => st.env t
  | .const (.agg cs) => .s (.agg (cs.toList.map .val))
  | .const v => .val v
  | .global g => match lk T.globs g with | some cs => .c (.fptr cs) | none => .any
  | .func f => .c (.fn f [])

def V1.cells : V1 → List C
  | .one c => [c]
  | .agg cs => cs

def oneCellD : D → Bool
  | .v x => x.oneC
  | .sl .. => true

def C.ok (objs : Id → Option Obj) : C → Bool
  | .val x => x.oneC
  | .dat d => oneCellD d
  | .own id => match objs id with | some (.sl ..) => true | _ => false
  | .ptr id _ => match objs id with | some (.box _) => true | _ => false
  | .eptr id .. => match objs id with | some (.sl ..) => true | _ => false
  | .fptr _ | .fn .. => true
  | .osub id ver _ i j => match objs id with
    | some (.sl _ _ _ row ver') => (ver == ver') && (match (row i)[j]? with | some (.sl ..) => true | _ => false)
    | _ => false
  | .any => false

def ofD : D → C
  | .v x => .val x
  | d => .dat d

def ofRow (deep : Bool) (id : Id) (ver k i j : Nat) : D → C
  | .v x => .val x
  | d => bif deep then .osub id ver k i j else .dat d

def ofRows (deep : Bool) (id : Id) (ver k i : Nat) : Nat → List D → List C
  | _, [] => []
  | j, d :: ds => ofRow deep id ver k i j d :: ofRows deep id ver k i (j + 1) ds

def intoRow (deep : Bool) (objs : Id → Option Obj) : C → Option (D × Option Id)
  | .val x => bif x.oneC then some (.v x, none) else none
  | .dat d => bif deep || !(oneCellD d) then none else some (d, none)
  | .own id => match objs id with
    | some (.sl dp k n row _) => bif dp || !deep then some (.sl k n row, some id) else none
    | _ => none
  | _ => none

def intoRows (deep : Bool) (objs : Id → Option Obj) (i : Nat) : Nat → List C → Option (List D × List (Id × (Nat × Nat)))
  | _, [] => some ([], [])
  | j, c :: cs => match intoRow deep objs c, intoRows deep objs i (j + 1) cs with
    | some (d, some id), some (ds, xs) => some (d :: ds, (id, (i, j)) :: xs)
    | some (d, none), some (ds, xs) => some (d :: ds, xs)
    | _, _ => none

def kills (ids : List Id) : List (Id × Option Obj) := ids.map fun i => (i, none)

def nodupI : List Id → Bool
  | [] => true
  | a :: l => !(l.any (eqId a)) && nodupI l

def setRow (row : Nat → List D) (i : Nat) (r : List D) : Nat → List D := fun m => bif (m == i) then r else row m

def setAt {α : Type} (l : List α) (off : Nat) (new : List α) : List α := l.take off ++ new ++ l.drop (off + new.length)

def catRow (n : Nat) (row row' : Nat → List D) : Nat → List D := fun m => bif decide (m < n) then row m else row' (m - n)

def unflat (d : D) : Option Value := match d with | .v x => some x | _ => none

def room : Nat := 140737488355328

def load (T : Tab) (t : Nat) (objs : Id → Option Obj) (c : C) : Option (List C) :=
  match c with
  | .ptr id off => match objs id with
    | some (.box cs) => some ((cs.drop off).take (T.size t))
    | _ => none
  | .eptr id k i off => match objs id with
    | some (.sl deep k' _ row ver) => bif k == k' then some (((ofRows deep id ver k i 0 (row i)).drop off).take (T.size t)) else none
    | _ => none
  | .fptr cells => some ((cells.take (T.size t)).map ofD)
  | _ => none

def pack (T : Tab) (t : Nat) (cs : List C) : Option V1 :=
  match (T.kind t).isAgg, cs with
  | true, cs => bif (cs.length == (T.size t)) && decide (0 < T.size t) then some (.agg cs) else none
  | false, [c] => some (.one c)
  | _, _ => none

def store (T : Tab) (t : Nat) (objs : Id → Option Obj) (p : C) (cs : List C) : Option (List (Id × Option Obj)) :=
  bif (cs.length == (T.size t)) && cs.all (C.ok objs) && decide (0 < T.size t) then
    match p with
    | .ptr id off => match objs id with
      | some (.box old) => bif decide ((off + cs.length) ≤ old.length) then some [(id, some (.box (setAt old off cs)))] else none
      | _ => none
    | .eptr id k i off => match objs id with
      | some (.sl deep k' n row ver) => match intoRows deep objs i off cs with
        | some (ds, xs) => bif (k == k') && nodupI (id :: xs.map (·.1)) && decide ((off + ds.length) ≤ k) then some (kills (xs.map (·.1)) ++ [(id, some (.sl deep k n (setRow row i (setAt (row i) off ds)) (ver + 1)))]) else none
        | none => none
      | _ => none
    | _ => none
  else none

def binI (op : BinOp) (k : IntKind) (a b : Int) : Option (Prop × Value) :=
  match op with
  | .add => some (True, .int k (k.wrap (a + b)))
  | .sub => some (True, .int k (k.wrap (a - b)))
  | .mul => some (True, .int k (k.wrap (a * b)))
  | .quo => some (b ≠ 0, .int k (k.wrap (a.tdiv b)))
  | .rem => some (b ≠ 0, .int k (a.tmod b))
  | .eql => some (True, .bool (decide (a = b)))
  | .neq => some (True, .bool (decide (a ≠ b)))
  | .lss => some (True, .bool (decide (a < b)))
  | .leq => some (True, .bool (decide (a ≤ b)))
  | .gtr => some (True, .bool (decide (b < a)))
  | .geq => some (True, .bool (decide (b ≤ a)))
  | .and => some (True, .int k (k.wrap (BitVec.ofInt k.bits a &&& BitVec.ofInt k.bits b).toNat))
  | .or => some (True, .int k (k.wrap (BitVec.ofInt k.bits a ||| BitVec.ofInt k.bits b).toNat))
  | .shl => some (0 ≤ b, .int k (k.wrap (a * 2 ^ (min b.toNat k.bits))))
  | .shr => some (0 ≤ b, .int k (a.fdiv (2 ^ (min b.toNat k.bits))))
  | _ => none

def binS (op : BinOp) (a b : ByteArray) : Option (Prop × Value) :=
  match op with
  | .add => some (((a.size + b.size : Nat) : Int) ≤ 9223372036854775807, .string (a ++ b))
  | .eql => some (True, .bool (decide (a = b)))
  | .neq => some (True, .bool (decide (a ≠ b)))
  | _ => none

def isNil : C → Bool
  | .val (.slice none 0 0) => true
  | _ => false

def eqInts : List C → List C → Option Bool
  | [], [] => some true
  | .val (.int _ a) :: l, .val (.int _ b) :: m => match eqInts l m with | some r => some (decide (a = b) && r) | none => none
  | _, _ => none

def bin (T : Tab) (op : BinOp) (t : Nat) (x y : V) : Ev :=
  match x, y with
  | .s (.one (.val (.int k a))), .s (.one (.val (.int k' b))) =>
    match op with
    | .shl | .shr => match binI op k a b with | some (p, v) => .det p (.val v) [] | none => .stuck
    | _ => bif decide (k = k') then match binI op k a b with | some (p, v) => .det p (.val v) [] | none => .stuck else .stuck
  | .s (.one (.val (.bool a))), .s (.one (.val (.bool b))) =>
    match T.kind t, op with
    | .bool, .eql => .det True (.bool (a == b)) []
    | .bool, .neq => .det True (.bool (!(a == b))) []
    | _, _ => .stuck
  | .s (.one (.val (.string a))), .s (.one (.val (.string b))) => match binS op a b with | some (p, v) => .det p (.val v) [] | none => .stuck
  | _, _ => .stuck

def unop (op : UnOp) (x : V) : Ev :=
  match op, x with
  | .neg, .s (.one (.val (.int k a))) => .det True (.val (.int k (k.wrap (0 - a)))) []
  | .not, .s (.one (.val (.bool b))) => .det True (.bool (!b)) []
  | _, _ => .stuck

def conv (T : Tab) (src dst : Nat) (x : V) : Ev :=
  match T.kind src, T.kind dst, x with
  | .int _, .int k, .s (.one (.val (.int _ n))) => .det True (.val (.int k (k.wrap n))) []
  | _, _, _ => .stuck

def slD (objs : Id → Option Obj) : C → Option (Nat × Nat × (Nat → List D))
  | .dat (.sl k n row) => some (k, n, row)
  | .own id => match objs id with
    | some (.sl _ k n row _) => some (k, n, row)
    | _ => none
  | .osub id ver _ i j => match objs id with
    | some (.sl _ _ _ row ver') => bif ver == ver' then match (row i)[j]? with
      | some (.sl k n row) => some (k, n, row)
      | _ => none
      else none
    | _ => none
  | _ => none

def blen (k : TK) (objs : Id → Option Obj) (x : V) : Option Int :=
  match k, x with
  | .str, .s (.one (.val (.string s))) => some s.size
  | .slice _, .s (.one (.val (.slice _ n _))) => some n
  | .slice _, .s (.one c) => match slD objs c with | some (_, n, _) => some n | none => none
  | _, _ => none

def max2I (x y : V) : Ev :=
  match x, y with
  | .s (.one (.val (.int .i64 a))), .s (.one (.val (.int .i64 b))) => .det True (.int (if b > a then b else a)) []
  | _, _ => .stuck
def min2I (x y : V) : Ev :=
  match x, y with
  | .s (.one (.val (.int .i64 a))), .s (.one (.val (.int .i64 b))) => .det True (.int (if b < a then b else a)) []
  | _, _ => .stuck

def Tab.elem (T : Tab) (t : Nat) : Nat := match T.kind t with | .slice e => e | .arr _ e => e | _ => 0
def Tab.bytes (T : Tab) (t : Nat) : Nat := match T.ti t with | some i => i.bytes | none => 1000
def Tab.flat (T : Tab) (t : Nat) : Bool := match T.ti t with | some i => i.flat | none => false
def Tab.zero (T : Tab) (t : Nat) : List Value := match T.ti t with | some i => i.zero | none => []
def TK.isSlice : TK → Bool
  | .slice _ => true
  | _ => false

def small : Nat := 1099511627776

def appBase (T : Tab) (dp : Nat → Bool) (e : Nat) (objs : Id → Option Obj) (c : C) : Option (List Id × Bool × Nat × (Nat → List D)) :=
  bif isNil c then some ([], T.flat e || dp e, 0, fun _ => []) else
  match c with
  | .own id => match objs id with
    | some (.sl deep k n row _) => bif (k == (T.size e)) then some ([id], deep, n, row) else none
    | _ => none
  | _ => none

def flatRows (n : Nat) (row : Nat → List D) : Prop := ∀ i, i < n → ∀ d, d ∈ row i → ∃ x, d = .v x

def appMore (T : Tab) (deep : Bool) (e : Nat) (objs : Id → Option Obj) (c : C) : Option (Prop × List Id × Nat × (Nat → List D)) :=
  bif isNil c then some (True, [], 0, fun _ => []) else
  match c with
  | .own id => match objs id with
    | some (.sl deep' k n row _) => bif (k == (T.size e)) && (deep' || !deep) then some (True, [id], n, row) else none
    | _ => none
  | .dat (.sl k n row) => bif (k == (T.size e)) then some (match deep with | true => flatRows n row | false => True, [], n, row) else none
  | _ => none

def append (T : Tab) (dp : Nat → Bool) (dst : Option Nat) (t : Nat) (objs : Id → Option Obj) (x y : V) : Ev :=
  match dst, T.kind t, x, y with
  | some d, .slice e, .s (.one c), .s (.one c') =>
    match appBase T dp e objs c with
    | some (k1, deep, n, row) => match appMore T deep e objs c' with
      | some (p, k2, n', row') => bif nodupI (k1 ++ k2) && decide (0 < T.size e) && decide (T.bytes e < 1000) && decide (0 < T.bytes e) && ((T.zero e).length == T.size e) && (T.zero e).all Value.oneC then
          .det (p ∧ (n + n') * T.bytes e ≤ small) (.c (.own (d, 0))) (kills (k1 ++ k2) ++ [((d, 0), some (.sl deep (T.size e) (n + n') (catRow n row row') 0))])
        else .stuck
      | none => .stuck
    | none => .stuck
  | _, _, _, _ => .stuck

def fillC (zero : List C) : List (Nat × List C) → List C
  | [] => zero
  | (off, cs) :: l => fillC (setAt zero off cs) l

def partOf (T : Tab) (t : Nat) (fs : List (Nat × Nat)) (objs : Id → Option Obj) (p : Nat × V) : Option (Nat × List C) :=
  match fs[p.1]?, p.2 with
  | some (off, ft), .s x => bif (x.cells.length == T.size ft) && decide (off + x.cells.length ≤ T.size t) && x.cells.all (C.ok objs) && decide (0 < T.size ft) then some (off, x.cells) else none
  | _, _ => none

def partsOf (T : Tab) (t : Nat) (fs : List (Nat × Nat)) (objs : Id → Option Obj) : List (Nat × V) → Option (List (Nat × List C))
  | [] => some []
  | p :: l => match partOf T t fs objs p, partsOf T t fs objs l with
    | some a, some b => some (a :: b)
    | _, _ => none

def build (T : Tab) (t : Nat) (objs : Id → Option Obj) (parts : List (Nat × V)) : Ev :=
  match T.kind t with
  | .struct fs => bif ((T.zero t).length == T.size t) && fs.all (fun q => decide (0 < T.size q.2)) then
      match partsOf T t fs objs parts with
      | some l => .det True (.s (.agg (fillC ((T.zero t).map .val) l))) []
      | none => .stuck
      else .stuck
  | _ => .stuck

def zrow (T : Tab) (e : Nat) : List D := (T.zero e).map .v

def rowsOf (T : Tab) (deep : Bool) (e len : Nat) (objs : Id → Option Obj) : List (Nat × V) → (Nat → List D) → List (Id × (Nat × Nat)) → Option ((Nat → List D) × List (Id × (Nat × Nat)))
  | [], row, use => some (row, use)
  | (i, .s x) :: l, row, use => match intoRows deep objs i 0 x.cells with
    | some (ds, xs) => bif (x.cells.length == T.size e) && decide (i < len) && x.cells.all (C.ok objs) then rowsOf T deep e len objs l (setRow row i ds) (use ++ xs) else none
    | none => none
  | _, _, _ => none

def buildSlice (T : Tab) (dp : Nat → Bool) (dst : Option Nat) (t len : Nat) (objs : Id → Option Obj) (parts : List (Nat × V)) : Ev :=
  match dst, T.kind t with
  | some d, .slice e =>
    match rowsOf T (T.flat e || dp e) e len objs parts (fun _ => zrow T e) [] with
    | some (row, use) => bif nodupI (use.map (·.1)) && decide (0 < T.size e) && decide (len * T.size e ≤ 10000) && ((T.zero e).length == T.size e) && (T.zero e).all Value.oneC then
        .det True (.c (.own (d, 0))) (kills (use.map (·.1)) ++ [((d, 0), some (.sl (T.flat e || dp e) (T.size e) len row 0))]) else .stuck
    | none => .stuck
  | _, _ => .stuck

def intV : V → Option Int
  | .s (.one (.val (.int .i64 n))) => some n
  | _ => none
def anyIntV : V → Option Int
  | .s (.one (.val (.int _ n))) => some n
  | _ => none

def makeSlice (T : Tab) (dp : Nat → Bool) (dst : Option Nat) (t : Nat) (l c : V) : Ev :=
  match dst, T.kind t, intV l, intV c with
  | some d, .slice e, some n, some m => bif decide (0 < T.size e) && decide (T.bytes e < 1000) && decide (0 < T.bytes e) && ((T.zero e).length == T.size e) && (T.zero e).all Value.oneC then
      .det (n = m ∧ 0 ≤ n ∧ n.toNat * T.bytes e ≤ small) (.c (.own (d, 0))) [((d, 0), some (.sl (T.flat e || dp e) (T.size e) n.toNat (fun _ => zrow T e) 0))] else .stuck
  | _, _, _, _ => .stuck

def optI (d : Int) : Option V → Option Int
  | none => some d
  | some x => anyIntV x

def slice (T : Tab) (t : Nat) (x : V) (lo hi mx : Option V) : Ev :=
  match T.kind t, x with
  | .str, .s (.one (.val (.string s))) =>
    match mx, optI 0 lo, optI s.size hi with
    | none, some l, some h => .det (0 ≤ l ∧ l ≤ h ∧ h ≤ s.size) (.val (.string (s.extract l.toNat h.toNat))) []
    | _, _, _ => .stuck
  | .slice e, .s (.one c) =>
    match c with
    | .val (.slice none 0 0) => match optI 0 lo, optI 0 hi, optI 0 mx with
      | some l, some h, some m => bif decide (0 < T.size e) then .det (l = 0 ∧ h = 0 ∧ m = 0) (.val (.slice none 0 0)) [] else .stuck
      | _, _, _ => .stuck
    | .dat (.sl k n row) => match optI 0 lo, optI n hi, optI n mx with
      | some l, some h, some m => bif (k == (T.size e)) && decide (0 < T.size e) then .det (0 ≤ l ∧ l ≤ h ∧ h ≤ m ∧ m ≤ n) (.c (.dat (.sl k (h.toNat - l.toNat) (fun i => row (l.toNat + i))))) [] else .stuck
      | _, _, _ => .stuck
    | _ => .stuck
  | _, _ => .stuck

def indexAddr (T : Tab) (t : Nat) (objs : Id → Option Obj) (x i : V) : Ev :=
  match T.kind t, x, anyIntV i with
  | .slice e, .s (.one c), some n =>
    match c with
    | .own id => match objs id with
      | some (.sl _ k m _ _) => bif (k == (T.size e)) && decide (0 < T.size e) then .det (0 ≤ n ∧ n < m) (.c (.eptr id k n.toNat 0)) [] else .stuck
      | _ => .stuck
    | .dat (.sl k m row) => bif (k == (T.size e)) && decide (0 < T.size e) then .det (0 ≤ n ∧ n < m) (.c (.fptr (row n.toNat))) [] else .stuck
    | .osub .. => .stuck
    | _ => .stuck
  | .arr len e, .s (.one (.fptr cs)), some n => bif decide (0 < T.size e) then .det (0 ≤ n ∧ n < len) (.c (.fptr (cs.drop (n.toNat * T.size e)))) [] else .stuck
  | _, _, _ => .stuck

def fieldOff (T : Tab) (t f : Nat) : Option Nat :=
  match T.kind t with
  | .struct fs => match fs[f]? with
    | some (off, ft) => bif decide (0 < (T.size ft)) then some off else none
    | none => none
  | _ => none

def fieldAddr (T : Tab) (t : Nat) (objs : Id → Option Obj) (x : V) (f : Nat) : Ev :=
  match fieldOff T t f, x with
  | some off, .s (.one (.ptr id o)) => match objs id with
    | some (.box _) => .det True (.c (.ptr id (o + off))) []
    | _ => .stuck
  | some off, .s (.one (.eptr id k i o)) => match objs id with
    | some (.sl ..) => .det True (.c (.eptr id k i (o + off))) []
    | _ => .stuck
  | some off, .s (.one (.fptr cs)) => .det True (.c (.fptr (cs.drop off))) []
  | _, _ => .stuck

def fieldOf (T : Tab) (t : Nat) (x : V) (f : Nat) : Ev :=
  match T.kind t, x with
  | .struct fs, .s (.agg cs) => match fs[f]? with
    | some (off, ft) => match pack T ft ((cs.drop off).take (T.size ft)) with
      | some v => .det True (.s v) []
      | none => .stuck
    | none => .stuck
  | _, _ => .stuck

def toCell (objs : Id → Option Obj) (nm : Id) : C → Option (RCell × List (Id × Id))
  | .val x => bif x.oneC then some (.fz (.v x), []) else none
  | .dat d => some (.fz d, [])
  | .own id => match objs id with
    | some (.sl deep k n row _) => some (.own deep k n row, [(id, nm)])
    | _ => none
  | _ => none

def toCells (objs : Id → Option Obj) (j : Nat) : Nat → List C → Option (List RCell × List (Id × Id))
  | _, [] => some ([], [])
  | i, c :: cs => match toCell objs (j, 1 + i) c, toCells objs j (i + 1) cs with
    | some (r, e), some (rs, es) => some (r :: rs, e ++ es)
    | _, _ => none

def shCell (objs : Id → Option Obj) : C → Option (D × List Id)
  | .val x => bif x.oneC then some (.v x, []) else none
  | .dat d => some (d, [])
  | .fn f [] => some (.v (.func (.func f) #[] #[]), [])
  | .own id => match objs id with
    | some (.sl _ k n row _) => some (.sl k n row, [id])
    | _ => none
  | .osub id ver _ i j => match objs id with
    | some (.sl _ _ _ row ver') => bif ver == ver' then match (row i)[j]? with
      | some (.sl k n row) => some (.sl k n row, [id])
      | _ => none
      else none
    | _ => none
  | _ => none

def shCells (objs : Id → Option Obj) : List C → Option (List D × List Id)
  | [] => some ([], [])
  | c :: cs => match shCell objs c, shCells objs cs with
    | some (d, x), some (ds, xs) => some (d :: ds, x ++ xs)
    | _, _ => none

def argOf (T : Tab) (ex : Bool) (j t : Nat) (objs : Id → Option Obj) : V → Option (Arg × List (Id × Id) × List Id)
  | .s (.agg cs) => match shCells objs cs with
    | some (ds, ids) => some (.agg ds, [], ids)
    | none => none
  | .s (.one c) =>
    bif isNil c && (T.kind t).isSlice then some (.one (.sl (T.size (T.elem t)) 0 (fun _ => [])), [], []) else
    match c with
    | .ptr id 0 => match objs id with
      | some (.box cs) => match toCells objs j 0 cs with
        | some (rs, es) => some (.xbox rs, (id, (j, 0)) :: es, [])
        | none => none
      | _ => none
    | .own id => match ex, objs id with
      | true, some (.sl deep k n row _) => some (.xsl deep k n row, [(id, (j, 0))], [])
      | false, some (.sl _ k n row _) => some (.one (.sl k n row), [], [id])
      | _, _ => none
    | c => match shCell objs c with
      | some (d, ids) => some (.one d, [], ids)
      | none => none
  | .tup _ => none

def exclOf (T : Tab) (f j : Nat) : Bool := match lk T.excl f with | some l => l.any (fun i => j == i) | none => false

def argsOf (T : Tab) (f : Nat) (objs : Id → Option Obj) : Nat → List V → List Nat → Option (List Arg × List (Id × Id) × List Id)
  | _, [], _ => some ([], [], [])
  | j, v :: vs, ts => match argOf T (exclOf T f j) j (ts.headD 0) objs v, argsOf T f objs (j + 1) vs ts.tail with
    | some (a, e, b), some (as, es, bs) => some (a :: as, e ++ es, b ++ bs)
    | _, _ => none

def callFn (T : Tab) (f : Nat) (objs : Id → Option Obj) (vs : List V) (ts : List Nat) : Ev :=
  match argsOf T f objs 0 vs ts with
  | some (as, es, bs) => bif nodupI (es.map (·.1)) && es.all (fun e => !(bs.any (eqId e.1))) && nodupI (es.map (·.2)) && decide (vs.length < 1000) then .call f as es bs else .stuck
  | none => .stuck

def eval (T : Tab) (dp : Nat → Bool) (dst : Option Nat) (op : Op) (ev : Operand → V) (objs : Id → Option Obj) : Ev :=
  match op with
  | .move x | .assign x => .det True (ev x) []
  | .pick c a b => match ev c, ev a, ev b with
    | .s (.one (.val (.bool t))), .s (.one (.val (.bool x))), .s (.one (.val (.bool y))) => .det True (.bool (match t with | true => x | false => y)) []
    | .s (.one (.val (.bool t))), x, y => .det True (match t with | true => x | false => y) []
    | _, _, _ => .stuck
  | .alloc e => match dst with
    | some d => bif ((T.zero e).length == T.size e) && decide (0 < T.size e) then .det True (.c (.ptr (d, 0) 0)) [((d, 0), some (.box ((T.zero e).map .val)))] else .stuck
    | none => .stuck
  | .box e x => match dst, ev x with
    | some d, .s x => bif (x.cells.length == (T.size e)) && x.cells.all (C.ok objs) then .det True (.c (.ptr (d, 0) 0)) [((d, 0), some (.box x.cells))] else .stuck
    | _, _ => .stuck
  | .build t ps => build T t objs (ps.toList.map fun p => (p.1, ev p.2))
  | .buildSlice t n ps => buildSlice T dp dst t n objs (ps.toList.map fun p => (p.1, ev p.2))
  | .load t a => match ev a with
    | .s (.one c) => match load T t objs c with
      | some cs => match pack T t cs with
        | some v => .det True (.s v) []
        | none => .stuck
      | none => .stuck
    | _ => .stuck
  | .store t a x => match ev a, ev x with
    | .s (.one c), .s x => match store T t objs c x.cells with
      | some u => .det True .any u
      | none => .stuck
    | _, _ => .stuck
  | .nilCheck x => match ev x with
    | .s (.one (.ptr id o)) => match objs id with
      | some (.box _) => .det True (.c (.ptr id o)) []
      | _ => .stuck
    | .s (.one (.eptr id k i o)) => match objs id with
      | some (.sl ..) => .det True (.c (.eptr id k i o)) []
      | _ => .stuck
    | .s (.one (.fptr cs)) => .det True (.c (.fptr cs)) []
    | _ => .stuck
  | .binOp op t x y _ => bin T op t (ev x) (ev y)
  | .unOp op _ x => unop op (ev x)
  | .convert s d x => conv T s d (ev x)
  | .makeSlice t l c => makeSlice T dp dst t (ev l) (ev c)
  | .slice t x lo hi mx => bif mx.isNone || hi.isSome then slice T t (ev x) (lo.map ev) (hi.map ev) (mx.map ev) else .stuck
  | .fieldAddr t x f => fieldAddr T t objs (ev x) f
  | .field t x f => fieldOf T t (ev x) f
  | .indexAddr t x i => indexAddr T t objs (ev x) (ev i)
  | .index t x i => match T.kind t, ev x, anyIntV (ev i) with
    | .str, .s (.one (.val (.string s))), some n => .det (0 ≤ n ∧ n < s.size) (.val (.int .u8 (s.data.getD n.toNat 0).toNat)) []
    | _, _, _ => .stuck
  | .extract x i => match ev x with
    | .tup xs => match xs[i]? with
      | some v => .det True (.s v) []
      | none => .stuck
    | _ => .stuck
  | .call c => match c.callee with
    | .value f => match ev f with
      | .s (.one (.fn g caps)) => callFn T g objs (c.args.toList.map ev ++ caps.map (fun p => V.c (.ptr p.1 p.2))) c.argTypes.toList
      | .s (.one (.val (.func (.func g) fs cs))) => bif fs.isEmpty && cs.isEmpty then callFn T g objs (c.args.toList.map ev) c.argTypes.toList else .stuck
      | _ => .stuck
    | .builtin .len => match c.args.toList.map ev, c.argTypes.toList with
      | [x], [t] => match blen (T.kind t) objs x with
        | some n => .det True (.int n) []
        | none => .stuck
      | _, _ => .stuck
    | .builtin .append => match c.args.toList.map ev, c.argTypes.toList with
      | [x, y], [t, t'] => bif (T.kind t').isSlice then append T dp dst t objs x y else .stuck
      | _, _ => .stuck
    | .builtin .max => match c.args.toList.map ev with
      | [x, y] => max2I x y
      | _ => .stuck
    | .builtin .min => match c.args.toList.map ev with
      | [x, y] => min2I x y
      | _ => .stuck
    | _ => .stuck
  | _ => .stuck

end Go.Ax
end

section
namespace Go.Ax
open Go

def updO : List (Id × Option Obj) → (Id → Option (Option Obj)) → (Id → Option (Option Obj))
  | [], o => o
  | (i, x) :: l, o => updO l (fun j => bif eqId i j then some x else o j)

def St.app (st : St) (dst : Option Nat) (v : V) (upd : List (Id × Option Obj)) : St :=
  { nt := st.nt
    env := match dst with | some d => fun s => bif (d == s) then v else st.env s | none => st.env
    objs := updO upd st.objs }

def V.isAny : V → Bool
  | .s (.one .any) => true
  | _ => false

def St.layable (st : St) (id : Id) : Bool := match st.objs id with | some none => false | _ => true

def RCell.noFz : RCell → Bool
  | .fz (.v _) => true
  | .fz _ => false
  | .own deep .. => deep
def R1.noFz : R1 → Bool
  | .one c => c.noFz
  | .agg cs => cs.all RCell.noFz
def Arg.noFz : Arg → Bool
  | .xsl deep .. => deep
  | .xbox cs => cs.all RCell.noFz
  | _ => true

def resC (nm : Id) : RCell → C
  | .fz (.v x) => .val x
  | .fz d => .dat d
  | .own .. => .own nm
def resO (nm : Id) : RCell → List (Id × Option Obj)
  | .own deep k n row => [(nm, some (.sl deep k n row 0))]
  | _ => []

def resCs (nm : Nat → Id) : Nat → List RCell → List C
  | _, [] => []
  | i, r :: rs => resC (nm i) r :: resCs nm (i + 1) rs
def resOs (nm : Nat → Id) : Nat → List RCell → List (Id × Option Obj)
  | _, [] => []
  | i, r :: rs => resO (nm i) r ++ resOs nm (i + 1) rs

def R1.cells : R1 → List RCell
  | .one c => [c]
  | .agg cs => cs

def resV1 (nm : Nat → Id) : R1 → V1
  | .one c => .one (resC (nm 0) c)
  | .agg cs => .agg (resCs nm 0 cs)

def resName (d m : Nat) : Nat → Id := fun i => (d, m * 64 + i)

def resVs (d : Nat) : Nat → Res → List V1
  | _, [] => []
  | m, r :: rs => resV1 (resName d m) r :: resVs d (m + 1) rs
def resAll (d : Nat) : Nat → Res → List (Id × Option Obj)
  | _, [] => []
  | m, r :: rs => resOs (resName d m) 0 r.cells ++ resAll d (m + 1) rs

def resV (d : Nat) : Res → V
  | [r] => .s (resV1 (resName d 0) r)
  | rs => .tup (resVs d 0 rs)

def boxName (d j : Nat) : Nat → Id := fun i => (d, 10000 + j * 100 + i)

def exUpd (d : Nat) (objs : Id → Option Obj) : List (Id × Id) → List Arg → Option (List (Id × Option Obj))
  | [], _ => some []
  | (cid, nm) :: l, up => match exUpd d objs l up with
    | some rest =>
      bif nm.2 == 0 then
        match up[nm.1]?, objs cid with
        | some (.xsl deep k n row), some (.sl _ _ _ _ ver) => some ((cid, some (.sl deep k n row (ver + 1))) :: rest)
        | some (.xbox cs), some (.box _) => some ((cid, some (.box (resCs (boxName d nm.1) 0 cs))) :: (resOs (boxName d nm.1) 0 cs ++ rest))
        | _, _ => none
      else some rest
    | none => none

def ret (st : St) (dst : Option Nat) (ex : List (Id × Id)) (bor : List Id) (res : Res) (up : List Arg) : Option (V × List (Id × Option Obj)) :=
  match dst with
  | some d => match exUpd d st.ob ex up with
    | some u =>
      bif (bor.isEmpty || (res.all R1.noFz && up.all Arg.noFz)) && nodupI ((u ++ resAll d 0 res).map (·.1)) &&
          u.all (fun p => (ex.any fun e => eqId e.1 p.1 && (e.2.2 == 0)) || (st.objs p.1).isNone) && (resAll d 0 res).all (fun p => (st.objs p.1).isNone) then
        some (resV d res, kills (ex.map (·.1)) ++ (u ++ resAll d 0 res))
      else none
    | none => none
  | none => none

structure Pr where
  P : Program
  T : Tab

def rootTag (deep : Bool) (id : Id) : Tag := bif deep then .deep id [] else .sh id

def freeFr (fr : Nat × Nat) (n : Nat) : Prop := fr.2 ≤ fr.1 ∨ n ≤ fr.1

def RepCell (w : World) (ow : Own) (id : Id) : RCell → Value → Prop
  | .fz d, v => Rep w ow .fz d v
  | .own deep k n row, v => Rep w ow (rootTag deep id) (.sl k n row) v

def RepCells (w : World) (ow : Own) (nm : Nat → Id) (cs : List RCell) (vs : Array Value) : Prop :=
  vs.size = cs.length ∧ ∀ i c, cs[i]? = some c → ∃ v, vs[i]? = some v ∧ RepCell w ow (nm i) c v

def RepR1 (w : World) (ow : Own) (nm : Nat → Id) : R1 → Value → Prop
  | .one c, v => RepCell w ow (nm 0) c v
  | .agg cs, v => ∃ vs, v = .agg vs ∧ RepCells w ow nm cs vs

def argName (j : Nat) : Nat → Id := fun i => (j, 1 + i)

def RepArg (w : World) (ow : Own) (j : Nat) : Arg → Value → Prop
  | .one d, v => Rep w ow .fz d v
  | .agg ds, v => ∃ vs : Array Value, v = .agg vs ∧ vs.size = ds.length ∧ ∀ (i : Nat) (d : D), ds[i]? = some d → ∃ x, vs[i]? = some x ∧ Rep w ow .fz d x
  | .xsl deep k n row, v => Rep w ow (rootTag deep (j, 0)) (.sl k n row) v
  | .xbox cs, v => ∃ b arr et fr, v = .pointer (some ⟨b, 0, none⟩) ∧ ow b = some (.sh (j, 0)) ∧ w.heap[b]? = some (.cells arr et fr) ∧ freeFr fr arr.size ∧
      RepCells w ow (argName j) cs arr

def resId (m : Nat) : Nat → Id := fun i => (1000000 + m, i)

def RepRes (w : World) (ow : Own) : Res → Value → Prop
  | [r], v => RepR1 w ow (resId 0) r v
  | rs, v => ∃ vs : Array Value, v = .tuple vs ∧ vs.size = rs.length ∧ ∀ m r, rs[m]? = some r → ∃ x, vs[m]? = some x ∧ RepR1 w ow (resId m) r x

def Arg.isX : Arg → Bool
  | .xsl .. | .xbox _ => true
  | _ => false

def Arg.alike : Arg → Arg → Prop
  | .xsl deep k n _, .xsl deep' k' n' _ => deep = deep' ∧ k = k' ∧ n = n'
  | .xbox cs, .xbox cs' => cs.length = cs'.length
  | _, _ => False

structure Frame' (w : World) (ow : Own) (w' : World) (ow' : Own) : Prop where
  os : w'.os = w.os
  tape : w'.tape = w.tape
  output : w'.output = w.output
  size : w.heap.size ≤ w'.heap.size
  old : ∀ b, b < w.heap.size → (ow b = none ∨ ow b = some .fz) → w'.heap[b]? = w.heap[b]? ∧ ow' b = ow b

def Globs (T : Tab) (w : World) (ow : Own) : Prop :=
  ∀ (g : Nat) (cs : List D), lk T.globs g = some cs → ∃ arr et fr, w.heap[g]? = some (.cells arr et fr) ∧ ow g = some .fz ∧ (∀ (j : Nat) (d : D), cs[j]? = some d → ∃ x, arr[j]? = some x ∧ Rep w ow .fz d x) ∧ arr.size = cs.length

structure Entry (E : Pr) (w : World) (ow : Own) (args : List Arg) (vs : Array Value) : Prop where
  size : vs.size = args.length
  rep : ∀ j a, args[j]? = some a → ∃ v, vs[j]? = some v ∧ RepArg w ow j a v
  tags : ∀ b t, ow b = some t → t = .fz ∨ ∃ id, t.ids = some id ∧ id.1 < args.length
  globs : Globs E.T w ow

def HasBody (P : Program) (f : FuncId) : Prop := ∃ fn, P.funcs[f]? = some fn ∧ fn.body.isNone = false ∧ (fn.name == "runtime.NumGoroutine") = false

def ACall (E : Pr) (f : FuncId) (args : List Arg) (Q : Res → List Arg → Prop) : Prop :=
  HasBody E.P f ∧ (∃ res up, Q res up) ∧ ∀ w ow vs, Entry E w ow args vs → Calls E.P f vs w fun e w' => ∃ v ow' res up, e = .returned v ∧ Q res up ∧ RepRes w' ow' res v ∧
    (up.length = args.length ∧ ∀ j a, args[j]? = some a → a.isX = true → ∃ a', up[j]? = some a' ∧ a.alike a' ∧ ∃ x, vs[j]? = some x ∧ RepArg w' ow' j a' x) ∧
    Frame' w ow w' ow'

theorem ACall.mono {E : Pr} {f : FuncId} {args : List Arg} {Q Q' : Res → List Arg → Prop} (h : ACall E f args Q) (hq : ∀ r u, Q r u → Q' r u) : ACall E f args Q' :=
  ⟨h.1, h.2.1.imp fun _ h => h.imp fun _ h => hq _ _ h, fun w ow vs he => (h.2.2 w ow vs he).mono fun _ _ ⟨v, ow', r, u, h1, h2, h3⟩ => ⟨v, ow', r, u, h1, hq _ _ h2, h3⟩⟩

theorem ACall.det {E : Pr} {f : FuncId} {args : List Arg} {r : Res} {u : List Arg} {Q : Res → List Arg → Prop} (h : ACall E f args fun r' u' => r' = r ∧ u' = u) (hq : Q r u) : ACall E f args Q :=
  h.mono fun _ _ ⟨h1, h2⟩ => by subst h1; subst h2; exact hq

def St.dstOk (st : St) : Option Nat → Bool
  | some d => decide (d < st.nt)
  | none => true

def St.newOk (st : St) (op : Op) (dst : Option Nat) : Bool :=
  match op with
  | .alloc _ | .box .. | .buildSlice .. | .makeSlice .. => match dst with | some d => (st.objs (d, 0)).isNone | none => true
  | .call c => match c.callee with
    | .builtin .append => match dst with | some d => (st.objs (d, 0)).isNone | none => true
    | _ => true
  | _ => true

def exec1 (E : Pr) (dp : Nat → Bool) (o : Oper) (K : St → Prop) (st : St) : Prop :=
  match eval E.T dp o.dst o.op (st.ev E.T) st.ob with
  | .stuck => False
  | .det side v upd => bif st.newOk o.op o.dst && st.dstOk o.dst then side ∧ K (st.app o.dst v upd) else False
  | .nd f => bif st.dstOk o.dst then ∀ b, K (st.app o.dst (f b) []) else False
  | .call f args ex bor => bif st.dstOk o.dst then ACall E f args fun res up => match ret st o.dst ex bor res up with
    | some (v, upd) => K (st.app o.dst v upd)
    | none => False
    else False

inductive Gd where
  | free
  | bad
  | slot (g : Nat) (want : Bool)

def guardOf (ops : Array Oper) (o : Oper) : Gd :=
  match o.guard with
  | none => .free
  | some (j, want) => match ops[j]? with
    | some o' => match o'.dst with
      | some d => .slot d want
      | none => .bad
    | none => .bad

abbrev V.undef : V := .s (.one (.val (.tuple ⟨[]⟩)))

def gV (want : Bool) : V → Option Bool
  | .s (.one (.val (.bool b))) => some b
  | .s (.one (.val (.tuple ⟨[]⟩))) => some (!want)
  | _ => none

def gsplit (b want : Bool) (p q : Prop) : Prop := (b = want → p) ∧ (b = !want → q)

def execG (E : Pr) (dp : Nat → Bool) (ops : Array Oper) (o : Oper) (K : St → Prop) (st : St) : Prop :=
  match guardOf ops o with
  | .free => exec1 E dp o K st
  | .bad => False
  | .slot g want => match st.env g with
    | .s (.one (.val (.bool b))) => gsplit b want (exec1 E dp o K (st.app (some g) (.bool want) []))
        (bif st.dstOk o.dst then K ((st.app (some g) (.bool (!want)) []).app o.dst .undef []) else False)
    | .s (.one (.val (.tuple ⟨[]⟩))) => bif st.dstOk o.dst then K (st.app o.dst .undef []) else False
    | _ => False

def execL (E : Pr) (dp : Nat → Bool) (ops : Array Oper) : List Oper → (St → Prop) → St → Prop
  | [], K, st => K st
  | o :: l, K, st => execG E dp ops o (execL E dp ops l K) st

end Go.Ax
end

section
namespace Go.Ax
open Go

def C.ids : C → List Id
  | .own id | .osub id .. | .ptr id _ | .eptr id .. => [id]
  | .fn _ caps => caps.map (·.1)
  | _ => []
def V1.ids : V1 → List Id
  | .one c => c.ids
  | .agg cs => cs.flatMap C.ids
def V.ids : V → List Id
  | .s x => x.ids
  | .tup xs => xs.flatMap V1.ids

abbrev Val := Id → Value

def RC (w : World) (ow : Own) (σ : Val) (ob : Id → Option Obj) : C → Value → Prop
  | .val x, v => v = x
  | .dat d, v => Rep w ow .fz d v
  | .own id, v => ∀ deep k n row ver, ob id = some (.sl deep k n row ver) → v = σ id
  | .osub id ver k i j, v => ∀ deep k' n row ver', ob id = some (.sl deep k' n row ver') → ver ≤ ver' ∧ (ver = ver' → k = k' ∧ ∃ b off cap t, σ id = .slice (some ⟨b, off, none⟩) n cap ∧ i < n ∧ ow b = some t ∧ t.ids = some id ∧
      w.cell? ⟨b, off + i * k + j, none⟩ = some v)
  | .ptr id off, v => ∀ cs, ob id = some (.box cs) → ∃ b, σ id = .pointer (some ⟨b, 0, none⟩) ∧ v = .pointer (some ⟨b, off, none⟩)
  | .eptr id k i off, v => ∀ deep k' n row ver, ob id = some (.sl deep k' n row ver) → ∃ b o cap, σ id = .slice (some ⟨b, o, none⟩) n cap ∧ i < n ∧ v = .pointer (some ⟨b, o + i * k + off, none⟩)
  | .fptr cells, v => ∃ b off arr et fr, v = .pointer (some ⟨b, off, none⟩) ∧ w.heap[b]? = some (.cells arr et fr) ∧ ow b = some .fz ∧
      ∀ (j : Nat) (d : D), cells[j]? = some d → ∃ x, arr[off + j]? = some x ∧ Rep w ow .fz d x
  | .fn f caps, v => ∃ vs : Array Value, v = .func (.func f) #[] vs ∧ vs.size = caps.length ∧
      ∀ (i : Nat) (id : Id) (off : Nat), caps[i]? = some (id, off) → ∃ x, vs[i]? = some x ∧ ∀ cs, ob id = some (.box cs) → ∃ b, σ id = .pointer (some ⟨b, 0, none⟩) ∧ x = .pointer (some ⟨b, off, none⟩)
  | .any, _ => True

def RCs (w : World) (ow : Own) (σ : Val) (ob : Id → Option Obj) (cs : List C) (vs : Array Value) : Prop :=
  vs.size = cs.length ∧ ∀ (i : Nat) (c : C), cs[i]? = some c → ∃ v, vs[i]? = some v ∧ RC w ow σ ob c v

def RV1 (w : World) (ow : Own) (σ : Val) (ob : Id → Option Obj) : V1 → Value → Prop
  | .one c, v => RC w ow σ ob c v
  | .agg cs, v => ∃ vs, v = .agg vs ∧ RCs w ow σ ob cs vs

def RV (w : World) (ow : Own) (σ : Val) (ob : Id → Option Obj) : V → Value → Prop
  | .s x, v => RV1 w ow σ ob x v
  | .tup xs, v => ∃ vs : Array Value, v = .tuple vs ∧ vs.size = xs.length ∧ ∀ (i : Nat) (x : V1), xs[i]? = some x → ∃ y, vs[i]? = some y ∧ RV1 w ow σ ob x y

def RO (w : World) (ow : Own) (σ : Val) (ob : Id → Option Obj) (id : Id) : Obj → Prop
  | .sl deep k n row _ => Rep w ow (rootTag deep id) (.sl k n row) (σ id)
  | .box cs => ∃ b arr et fr, σ id = .pointer (some ⟨b, 0, none⟩) ∧ ow b = some (.sh id) ∧ w.heap[b]? = some (.cells arr et fr) ∧ freeFr fr arr.size ∧ RCs w ow σ ob cs arr

def Obj.ids : Obj → List Id
  | .box cs => cs.flatMap C.ids
  | .sl .. => []

structure Base where
  w : World
  ow : Own
  vs : Array Value

structure Inv (E : Pr) (B : Base) (ow : Own) (σ : Val) (st : St) (a : Act) (w : World) : Prop where
  defers : a.defers = []
  size : a.tmps.size = st.nt
  env : ∀ s, RV w ow σ st.ob (st.env s) (a.tmps.getD s undef)
  objs : ∀ id o, st.ob id = some o → RO w ow σ st.ob id o
  closed : ∀ s id, id ∈ (st.env s).ids → st.objs id ≠ none
  closedO : ∀ id o, st.ob id = some o → ∀ id', id' ∈ o.ids → st.objs id' ≠ none
  frame : Frame' B.w B.ow w ow
  globs : Globs E.T w ow
  small : st.nt ≤ 1000000
  pin : ∀ j v, B.vs[j]? = some v → ∀ o, st.ob (2000000 + j, 0) = some o → σ (2000000 + j, 0) = v

structure Step (X : Id → Prop) (w : World) (ow : Own) (σ : Val) (w' : World) (ow' : Own) (σ' : Val) : Prop where
  heap : ∀ b t o, ow b = some t → t.avoids X → w.heap[b]? = some o → w'.heap[b]? = some o ∧ ow' b = some t
  val : ∀ id, ¬ X id → σ' id = σ id

theorem avoids_fz (X : Id → Prop) : Tag.fz.avoids X := fun _ h => by simp [Tag.ids] at h

theorem Step.rep {X : Id → Prop} {w w' : World} {ow ow' : Own} {σ σ' : Val} (s : Step X w ow σ w' ow' σ') {t : Tag} {d : D} {v : Value} (ht : t.avoids X)
    (r : Rep w ow t d v) : Rep w' ow' t d v :=
  r.mono (S := fun t => t.avoids X) (fun _ i j h => Tag.avoids_ext h i j) (fun b t o h1 h2 h3 => s.heap b t o h1 h2 h3) ht

def Kept (X : Id → Prop) (σ σ' : Val) (ob ob' : Id → Option Obj) (id : Id) : Prop :=
  (¬ X id ∧ ob' id = ob id) ∨ ob' id = none ∨
  (σ' id = σ id ∧ ((∃ cs cs', ob id = some (.box cs) ∧ ob' id = some (.box cs')) ∨
    ∃ deep k n row ver row' ver', ob id = some (.sl deep k n row ver) ∧ ob' id = some (.sl deep k n row' ver') ∧ ver < ver'))

theorem RC.step {X : Id → Prop} {w w' : World} {ow ow' : Own} {σ σ' : Val} {ob ob' : Id → Option Obj} (s : Step X w ow σ w' ow' σ') {c : C} {v : Value}
    (h : RC w ow σ ob c v) (hk : ∀ id, id ∈ c.ids → Kept X σ σ' ob ob' id) : RC w' ow' σ' ob' c v := by
  cases c with
  | val x => exact h
  | dat d => exact s.rep (avoids_fz X) h
  | own id =>
    intro deep k n row ver ho
    rcases hk id (by simp [C.ids]) with ⟨hx, he⟩ | he | ⟨hσ, ⟨cs, cs', _, h2⟩ | ⟨deep', k', n', row', ver', row'', ver'', h1, h2, _⟩⟩
    · rw [s.val id hx]; exact h deep k n row ver (he ▸ ho)
    · rw [he] at ho; cases ho
    · rw [h2] at ho; cases ho
    · rw [hσ]; exact h _ _ _ _ _ h1
  | osub id ver k i j =>
    intro deep k' n row ver1 ho
    rcases hk id (by simp [C.ids]) with ⟨hx, he⟩ | he | ⟨hσ, ⟨cs, cs', _, h2⟩ | ⟨deep', k'', n', row', ver', row'', ver'', h1, h2, hlt⟩⟩
    · obtain ⟨h0, h⟩ := h deep k' n row ver1 (he ▸ ho)
      refine ⟨h0, fun e => ?_⟩
      obtain ⟨hkk, b, off, cap, t, h1, h2, h3, h4, h5⟩ := h e
      refine ⟨hkk, ?_⟩
      have hav : t.avoids X := fun id' hid => by rw [h4] at hid; cases hid; exact hx
      unfold World.cell? at h5 ⊢
      cases hb : w.heap[b]? with
      | none => simp [hb] at h5
      | some o =>
        obtain ⟨g1, g2⟩ := s.heap b t o h3 hav hb
        refine ⟨b, off, cap, t, by rw [s.val id hx]; exact h1, h2, g2, h4, ?_⟩
        simp only [hb] at h5; simp only [g1]; exact h5
    · rw [he] at ho; cases ho
    · rw [h2] at ho; cases ho
    · rw [h2] at ho; cases ho
      have := (h _ _ _ _ _ h1).1
      exact ⟨by omega, fun e => by omega⟩
  | ptr id off =>
    intro cs ho
    rcases hk id (by simp [C.ids]) with ⟨hx, he⟩ | he | ⟨hσ, ⟨cs1, cs', h1, _⟩ | ⟨deep', k'', n', row', ver', row'', ver'', h1, h2, hlt⟩⟩
    · rw [s.val id hx]; exact h cs (he ▸ ho)
    · rw [he] at ho; cases ho
    · rw [hσ]; exact h _ h1
    · rw [h2] at ho; cases ho
  | eptr id k i off =>
    intro deep k' n row ver ho
    rcases hk id (by simp [C.ids]) with ⟨hx, he⟩ | he | ⟨hσ, ⟨cs, cs', _, h2⟩ | ⟨deep', k'', n', row', ver', row'', ver'', h1, h2, hlt⟩⟩
    · rw [s.val id hx]; exact h deep k' n row ver (he ▸ ho)
    · rw [he] at ho; cases ho
    · rw [h2] at ho; cases ho
    · rw [h2] at ho; cases ho; rw [hσ]; exact h _ _ _ _ _ h1
  | fptr cells =>
    obtain ⟨b, off, arr, et, fr, h1, h2, h3, h4⟩ := h
    obtain ⟨g1, g2⟩ := s.heap b .fz _ h3 (avoids_fz X) h2
    exact ⟨b, off, arr, et, fr, h1, g1, g2, fun j d hj => let ⟨x, hx, hr⟩ := h4 j d hj; ⟨x, hx, s.rep (avoids_fz X) hr⟩⟩
  | fn f caps =>
    obtain ⟨vs, h1, h2, h3⟩ := h
    refine ⟨vs, h1, h2, fun i id off hi => ?_⟩
    obtain ⟨x, hx, hp⟩ := h3 i id off hi
    refine ⟨x, hx, fun cs ho => ?_⟩
    rcases hk id (by simp [C.ids]; exact ⟨off, List.mem_of_getElem? hi⟩) with ⟨hxx, he⟩ | he | ⟨hσ, ⟨cs1, cs', h1, _⟩ | ⟨deep', k'', n', row', ver', row'', ver'', h1, h2, hlt⟩⟩
    · rw [s.val id hxx]; exact hp cs (he ▸ ho)
    · rw [he] at ho; cases ho
    · rw [hσ]; exact hp _ h1
    · rw [h2] at ho; cases ho
  | any => trivial

theorem RCs.step {X : Id → Prop} {w w' : World} {ow ow' : Own} {σ σ' : Val} {ob ob' : Id → Option Obj} (s : Step X w ow σ w' ow' σ') {cs : List C} {vs : Array Value}
    (h : RCs w ow σ ob cs vs) (hk : ∀ id, id ∈ cs.flatMap C.ids → Kept X σ σ' ob ob' id) : RCs w' ow' σ' ob' cs vs :=
  ⟨h.1, fun i c hc => let ⟨v, hv, hr⟩ := h.2 i c hc; ⟨v, hv, hr.step s fun id hid => hk id (List.mem_flatMap.2 ⟨c, List.mem_of_getElem? hc, hid⟩)⟩⟩

theorem RV1.step {X : Id → Prop} {w w' : World} {ow ow' : Own} {σ σ' : Val} {ob ob' : Id → Option Obj} (s : Step X w ow σ w' ow' σ') {x : V1} {v : Value}
    (h : RV1 w ow σ ob x v) (hk : ∀ id, id ∈ x.ids → Kept X σ σ' ob ob' id) : RV1 w' ow' σ' ob' x v := by
  cases x with
  | one c => exact RC.step s h hk
  | agg cs => obtain ⟨vs, h1, h2⟩ := h; exact ⟨vs, h1, h2.step s hk⟩

theorem RV.step {X : Id → Prop} {w w' : World} {ow ow' : Own} {σ σ' : Val} {ob ob' : Id → Option Obj} (s : Step X w ow σ w' ow' σ') {x : V} {v : Value}
    (h : RV w ow σ ob x v) (hk : ∀ id, id ∈ x.ids → Kept X σ σ' ob ob' id) : RV w' ow' σ' ob' x v := by
  cases x with
  | s x => exact RV1.step s h hk
  | tup xs =>
    obtain ⟨vs, h1, h2, h3⟩ := h
    exact ⟨vs, h1, h2, fun i x hx => let ⟨y, hy, hr⟩ := h3 i x hx; ⟨y, hy, hr.step s fun id hid => hk id (List.mem_flatMap.2 ⟨x, List.mem_of_getElem? hx, hid⟩)⟩⟩

theorem Globs.step {X : Id → Prop} {w w' : World} {ow ow' : Own} {σ σ' : Val} {T : Tab} (s : Step X w ow σ w' ow' σ') (h : Globs T w ow) : Globs T w' ow' := by
  intro g cs hg
  obtain ⟨arr, et, fr, h1, h2, h3, hz⟩ := h g cs hg
  obtain ⟨g1, g2⟩ := s.heap g .fz _ h2 (avoids_fz X) h1
  exact ⟨arr, et, fr, g1, g2, fun j d hj => let ⟨x, hx, hr⟩ := h3 j d hj; ⟨x, hx, s.rep (avoids_fz X) hr⟩, hz⟩

theorem eqId_iff {a b : Id} : eqId a b = true ↔ a = b := by
  obtain ⟨a1, a2⟩ := a; obtain ⟨b1, b2⟩ := b
  simp [eqId]

theorem eqId_self (a : Id) : eqId a a = true := eqId_iff.2 rfl

theorem rootTag_ids (deep : Bool) (id : Id) : (rootTag deep id).ids = some id := by cases deep <;> rfl

theorem rootTag_avoids {X : Id → Prop} {deep : Bool} {id : Id} (h : ¬ X id) : (rootTag deep id).avoids X := fun id' hid => by
  rw [rootTag_ids] at hid; cases hid; exact h

theorem sh_avoids {X : Id → Prop} {id : Id} (h : ¬ X id) : (Tag.sh id).avoids X := fun id' hid => by cases hid; exact h

theorem St.ob_none {st : St} {id : Id} (h : st.objs id = none) : st.ob id = none := by simp [St.ob, h]
theorem St.ob_live {st : St} {id : Id} {o : Obj} (h : st.ob id = some o) : st.objs id = some (some o) := by
  unfold St.ob at h
  split at h
  · rename_i o' ho; cases h; exact ho
  · cases h
theorem St.ob_congr {st st' : St} {id : Id} (h : st'.objs id = st.objs id) : st'.ob id = st.ob id := by simp [St.ob, h]

structure Upd (X : Id → Prop) (st st' : St) (dst : Option Nat) (v : V) : Prop where
  nt : st'.nt = st.nt
  env : ∀ s, st'.env s = if dst = some s then v else st.env s
  objs : ∀ id, ¬ X id → st'.objs id = st.objs id
  laid : ∀ id, X id → st'.objs id ≠ none

theorem Act.getD_put (a : Act) (dst : Option Nat) (x : Value) (s : Nat) (h : ∀ d, dst = some d → d < a.tmps.size) :
    (a.put dst x).tmps.getD s undef = if dst = some s then x else a.tmps.getD s undef := by
  cases dst with
  | none => simp [Act.put]
  | some d =>
    have hd := h d rfl
    by_cases e : d = s
    · subst e; simp [Act.put, hd]
    · simp [Act.put, e, Array.getElem?_setIfInBounds_ne e]

theorem Act.size_put (a : Act) (dst : Option Nat) (x : Value) : (a.put dst x).tmps.size = a.tmps.size := by
  cases dst <;> simp [Act.put]

theorem Inv.upd {E : Pr} {B : Base} {ow ow' : Own} {σ σ' : Val} {st st' : St} {a : Act} {w w' : World} (h : Inv E B ow σ st a w) {X : Id → Prop}
    (s : Step X w ow σ w' ow' σ') {dst : Option Nat} {v : V} {x : Value} (u : Upd X st st' dst v) (hd : st.dstOk dst = true)
    (hin : ∀ id, X id → st.objs id ≠ none → Kept X σ σ' st.ob st'.ob id)
    (hobj : ∀ id o, X id → st'.ob id = some o → RO w' ow' σ' st'.ob id o)
    (hv : dst ≠ none → RV w' ow' σ' st'.ob v x) (hvid : ∀ id, id ∈ v.ids → st'.objs id ≠ none)
    (hoid : ∀ id o, X id → st'.ob id = some o → ∀ id', id' ∈ o.ids → st'.objs id' ≠ none)
    (hf : Frame' B.w B.ow w' ow') (hpin : ∀ id o, X id → 2000000 ≤ id.1 → st'.ob id = some o → σ' id = σ id ∧ st.ob id ≠ none) : Inv E B ow' σ' st' (a.put dst x) w' := by
  have keep : ∀ id, st.objs id ≠ none → Kept X σ σ' st.ob st'.ob id := fun id hid => by
    by_cases hx : X id
    · exact hin id hx hid
    · exact .inl ⟨hx, St.ob_congr (u.objs id hx)⟩
  have nf : ∀ id, st.objs id ≠ none → st'.objs id ≠ none := fun id hid => by
    by_cases hx : X id
    · exact u.laid id hx
    · rw [u.objs id hx]; exact hid
  have hsz : ∀ d, dst = some d → d < a.tmps.size := fun d e => by subst e; simpa [St.dstOk, h.size] using hd
  refine ⟨?_, ?_, ?_, ?_, ?_, ?_, hf, h.globs.step s, by rw [u.nt]; exact h.small, fun j v hj o ho => ?_⟩
  · cases dst <;> exact h.defers
  · rw [Act.size_put, h.size, u.nt]
  · intro t
    rw [u.env, Act.getD_put a dst x t hsz]
    split
    · rename_i e; exact hv (by rw [e]; simp)
    · exact (h.env t).step s fun id hid => keep id (h.closed t id hid)
  · intro id o ho
    by_cases hx : X id
    · exact hobj id o hx ho
    · have ho' : st.ob id = some o := by rw [← St.ob_congr (u.objs id hx)]; exact ho
      have := h.objs id o ho'
      cases o with
      | sl deep k n row ver =>
        simp only [RO] at this ⊢
        rw [s.val id hx]
        exact s.rep (rootTag_avoids hx) this
      | box cs =>
        obtain ⟨b, arr, et, fr, h1, h2, h3, h4, h5⟩ := this
        obtain ⟨g1, g2⟩ := s.heap b _ _ h2 (sh_avoids hx) h3
        exact ⟨b, arr, et, fr, by rw [s.val id hx]; exact h1, g2, g1, h4, h5.step s fun id' hid' => keep id' (h.closedO id _ ho' id' hid')⟩
  · intro t id hid
    rw [u.env] at hid
    split at hid
    · exact hvid id hid
    · exact nf id (h.closed t id hid)
  · intro id o ho id' hid'
    by_cases hx : X id
    · exact hoid id o hx ho id' hid'
    · have ho' : st.ob id = some o := by rw [← St.ob_congr (u.objs id hx)]; exact ho
      exact nf id' (h.closedO id o ho' id' hid')
  · by_cases hx : X (2000000 + j, 0)
    · obtain ⟨g1, g2⟩ := hpin _ o hx (by simp) ho
      cases ho2 : st.ob (2000000 + j, 0) with
      | none => exact absurd ho2 g2
      | some o2 => rw [g1]; exact h.pin j v hj o2 ho2
    · rw [s.val _ hx]
      exact h.pin j v hj o (by rw [← St.ob_congr (u.objs _ hx)]; exact ho)

theorem Step.refl (w : World) (ow : Own) (σ : Val) (n : Nat) : Step (fun _ => False) w ow σ { w with drawn := n } ow σ :=
  ⟨fun _ _ _ h1 _ h2 => ⟨h2, h1⟩, fun _ _ => rfl⟩

theorem Frame'.drawn {w w' : World} {ow ow' : Own} (h : Frame' w ow w' ow') (n : Nat) : Frame' w ow { w' with drawn := n } ow' :=
  ⟨h.os, h.tape, h.output, h.size, h.old⟩

theorem Inv.put' {E : Pr} {B : Base} {ow : Own} {σ : Val} {st : St} {a : Act} {w : World} (h : Inv E B ow σ st a w) {dst : Option Nat} {v : V} {x : Value}
    (hd : st.dstOk dst = true) (hv : dst ≠ none → RV w ow σ st.ob v x) (hvid : ∀ id, id ∈ v.ids → st.objs id ≠ none) (n : Nat) :
    Inv E B ow σ (st.app dst v []) (a.put dst x) { w with drawn := n } := by
  have hob : (st.app dst v []).ob = st.ob := rfl
  refine h.upd (X := fun _ => False) (Step.refl w ow σ n) (v := v) ⟨rfl, fun s => ?_, fun _ _ => rfl, fun _ h => h.elim⟩ hd (fun _ h => h.elim) (fun _ _ h => h.elim)
    (fun hne => ?_) hvid (fun _ _ h => h.elim) (h.frame.drawn n) (fun _ _ h => h.elim)
  · cases dst with
    | none => simp [St.app]
    | some d =>
      by_cases e : d = s
      · simp [St.app, e]
      · have e' : (d == s) = false := by simpa using e
        simp [St.app, e, e']
  · exact (hv hne).step (Step.refl w ow σ n) fun id hid => .inl ⟨fun h => h, rfl⟩

theorem Inv.put {E : Pr} {B : Base} {ow : Own} {σ : Val} {st : St} {a : Act} {w : World} (h : Inv E B ow σ st a w) {dst : Option Nat} {v : V} {x : Value}
    (hd : st.dstOk dst = true) (hv : dst ≠ none → RV w ow σ st.ob v x) (hvid : ∀ id, id ∈ v.ids → st.objs id ≠ none) :
    Inv E B ow σ (st.app dst v []) (a.put dst x) w := h.put' hd hv hvid w.drawn

theorem Inv.ev {E : Pr} {B : Base} {ow : Own} {σ : Val} {st : St} {a : Act} {w : World} (h : Inv E B ow σ st a w) (x : Operand) : RV w ow σ st.ob (st.ev E.T x) (a.eval x) := by
  cases x with
  | tmp t => exact h.env t
  | const v =>
    cases v with
    | agg cs =>
      refine ⟨cs, rfl, by simp, fun i c hc => ?_⟩
      simp only [List.getElem?_map, Array.getElem?_toList, Option.map_eq_some_iff] at hc
      obtain ⟨v, hv, rfl⟩ := hc
      exact ⟨v, hv, rfl⟩
    | _ => exact rfl
  | global g =>
    cases hg : lk E.T.globs g with
    | none => simp only [St.ev, hg]; trivial
    | some cs =>
      simp only [St.ev, hg]
      obtain ⟨arr, et, fr, h1, h2, h3, _⟩ := h.globs g cs hg
      exact ⟨g, 0, arr, et, fr, rfl, h1, h2, fun j d hj => let ⟨x, hx, hr⟩ := h3 j d hj; ⟨x, by simpa using hx, hr⟩⟩
  | func f => exact ⟨#[], rfl, rfl, fun i id off hi => by simp at hi⟩

theorem Inv.evid {E : Pr} {B : Base} {ow : Own} {σ : Val} {st : St} {a : Act} {w : World} (h : Inv E B ow σ st a w) (x : Operand) :
    ∀ id, id ∈ (st.ev E.T x).ids → st.objs id ≠ none := by
  intro id hid
  cases x with
  | tmp t => exact h.closed t id hid
  | const v =>
    cases v with
    | agg cs =>
      simp only [St.ev, V.ids, V1.ids, List.mem_flatMap, List.mem_map] at hid
      obtain ⟨_, ⟨v, _, rfl⟩, h2⟩ := hid
      simp [C.ids] at h2
    | _ => simp [St.ev, V.ids, V1.ids, C.ids] at hid
  | global g =>
    cases hg : lk E.T.globs g <;> simp [St.ev, hg, V.ids, V1.ids, C.ids] at hid
  | func f => simp [St.ev, V.ids, V1.ids, C.ids] at hid

end Go.Ax
end

section
namespace Go.Ax
open Go

theorem run_bind {α β : Type} (P : Program) (s : Sem α) (f : α → Sem β) (w : World) :
    (s >>= f).run P w = match s.run P w with | .ok a w' => (f a).run P w' | .halt h w' => .halt h w' := by
  show (s.bind f).run P w = _
  induction s generalizing w with
  | pure a => rfl
  | load m a k ih =>
    simp only [Sem.bind, Sem.run]
    split
    · exact ih _ _
    · split
      · exact ih _ _
      · rfl
  | store m a v k ih =>
    cases v <;> simp only [Sem.bind, Sem.run] <;> first | rfl | (split <;> first | (split <;> first | rfl | exact ih _) | (split <;> first | rfl | exact ih _))
  | new o k ih => simp only [Sem.bind, Sem.run]; exact ih _ _
  | shape r k ih => simp only [Sem.bind, Sem.run]; exact ih _ _
  | freeze a n k ih => simp only [Sem.bind, Sem.run]; exact ih _
  | frozen a k ih => simp only [Sem.bind, Sem.run]; exact ih _ _
  | getObj r k ih => simp only [Sem.bind, Sem.run]; split <;> first | rfl | exact ih _ _
  | setObj r o k ih => simp only [Sem.bind, Sem.run]; split <;> first | rfl | exact ih _
  | choose q k ih => simp only [Sem.bind, Sem.run]; split <;> exact ih _ _
  | sys c k ih => simp only [Sem.bind, Sem.run]; exact ih _ _
  | program k ih => simp only [Sem.bind, Sem.run]; exact ih _ _
  | mark m k ih => simp only [Sem.bind, Sem.run]; exact ih _
  | halt h => rfl

theorem run_pure {α : Type} (P : Program) (a : α) (w : World) : (pure a : Sem α).run P w = .ok a w := rfl

def kindOk : TK → TypeDesc → Prop
  | .bool, .bool => True
  | .int k, .int k' => k = k'
  | .str, .string => True
  | .slice e, .slice e' => e = e'
  | .struct fs, .struct fields => fields.toList.map (fun f => (f.offset, f.type)) = fs
  | .arr n e, .array n' e' => n = n' ∧ e = e'
  | .ptr e, .pointer e' => e = e'
  | .iface, .interface _ => True
  | .other, .struct _ => False
  | .other, .array _ _ => False
  | .other, _ => True
  | _, _ => False

structure TiOk (P : Program) (t : Nat) (i : TI) : Prop where
  info : ∃ info, P.info? t = some info ∧ info.size = i.size ∧ info.bytes = i.bytes ∧ ∃ z, info.zero = some z ∧ z.cells.toList = i.zero
  kind : ∃ d, P.underlying t = some d ∧ kindOk i.kind d

def TabOk (P : Program) (T : Tab) : Prop := ∀ t i, T.ti t = some i → TiOk P t i

theorem run_program {α : Type} (P : Program) (f : Program → Sem α) (w : World) : (program >>= f).run P w = (f P).run P w := by
  rw [run_bind]; rfl

section
variable {P : Program} {T : Tab} (hT : TabOk P T)

theorem run_underlying {t : Nat} {d : TypeDesc} (h : P.underlying t = some d) (w : World) : (underlying t).run P w = .ok d w := by
  unfold underlying; rw [run_program]; simp only [h]; rfl

theorem run_typeInfo {t : Nat} {i : TypeInfo} (h : P.info? t = some i) (w : World) : (typeInfo t).run P w = .ok i w := by
  unfold typeInfo; rw [run_program]; simp only [h]; rfl

theorem run_sizeOf {t : Nat} {i : TypeInfo} (h : P.info? t = some i) (w : World) : (sizeOf t).run P w = .ok i.size w := by
  unfold sizeOf; rw [run_bind, run_typeInfo h]; rfl

theorem run_zeroValue {t : Nat} {i : TypeInfo} {z : Value} (h : P.info? t = some i) (hz : i.zero = some z) (w : World) : (zeroValue t).run P w = .ok z w := by
  unfold zeroValue; rw [run_bind, run_typeInfo h]; simp only [hz]; rfl

include hT in
theorem run_sizeOf' {t : Nat} {i : TI} (h : T.ti t = some i) (w : World) : (sizeOf t).run P w = .ok i.size w := by
  obtain ⟨info, h1, h2, _⟩ := (hT t i h).info
  rw [run_sizeOf h1, h2]

include hT in
theorem run_isAgg {t : Nat} {i : TI} (h : T.ti t = some i) (w : World) : (isAgg t).run P w = .ok i.kind.isAgg w := by
  obtain ⟨d, h1, h2⟩ := (hT t i h).kind
  unfold isAgg
  rw [run_bind, run_underlying h1]
  cases hk : i.kind <;> cases d <;> simp [hk, kindOk] at h2 <;> rfl

end

theorem heap_setCell (w : World) (a : Addr) (v : Value) (b : Nat) (h : b ≠ a.block) : (w.setCell a v).heap[b]? = w.heap[b]? := by
  simp [World.setCell, Array.getElem?_modify, Ne.symm h]

theorem heap_setCell_self (w : World) (b off : Nat) (v : Value) {arr : Array Value} {et : TypeId} {fr : Nat × Nat} (h : w.heap[b]? = some (.cells arr et fr)) :
    (w.setCell ⟨b, off, none⟩ v).heap[b]? = some (.cells (arr.setIfInBounds off v) et fr) := by
  simp [World.setCell, Array.getElem?_modify, h]

theorem cell_of {w : World} {b off : Nat} {arr : Array Value} {et : TypeId} {fr : Nat × Nat} (h : w.heap[b]? = some (.cells arr et fr)) :
    w.cell? ⟨b, off, none⟩ = arr[off]? := by
  simp [World.cell?, h]

theorem frozen_of {w : World} {b off : Nat} {arr : Array Value} {et : TypeId} {fr : Nat × Nat} (h : w.heap[b]? = some (.cells arr et fr))
    (hf : freeFr fr arr.size) (ho : off < arr.size) : w.frozen? ⟨b, off, none⟩ = false := by
  obtain ⟨lo, hi⟩ := fr
  simp only [World.frozen?, h]
  simp only [freeFr] at hf
  simp
  omega

theorem add_none (b off n : Nat) : (Addr.mk b off none).add n = ⟨b, off + n, none⟩ := by
  unfold Addr.add
  split
  · rename_i h; subst h; rfl
  · rfl

theorem run_load {w : World} {a : Addr} {v : Value} (P : Program) (h : w.cell? a = some v) (m : Mode) : (Go.load a m).run P w = .ok v w := by
  unfold Go.load; simp only [Sem.run, h]

theorem run_loadCellsFrom {w : World} {P : Program} {b off : Nat} {arr : Array Value} {et : TypeId} {fr : Nat × Nat} (h : w.heap[b]? = some (.cells arr et fr)) :
    ∀ (n i : Nat) (acc : Array Value), off + i + n ≤ arr.size → (loadCellsFrom ⟨b, off, none⟩ i n acc).run P w = .ok (acc ++ arr.extract (off + i) (off + i + n)) w := by
  intro n
  induction n with
  | zero => intro i acc hle; simp [loadCellsFrom, pure]; omega
  | succ n ih =>
    intro i acc hle
    unfold loadCellsFrom
    have hc : w.cell? ((Addr.mk b off none).add i) = some arr[off + i] := by rw [add_none, cell_of h]; simp [show off + i < arr.size by omega]
    rw [run_bind, run_load P hc]
    simp only
    rw [ih (i + 1) _ (by omega)]
    congr 1
    rw [Array.push_eq_append, Array.append_assoc]
    congr 1
    apply Array.ext'
    simp only [Array.toList_append, List.cons_append, List.nil_append, Array.toList_extract, List.extract_eq_take_drop]
    rw [show off + i + (n + 1) - (off + i) = n + 1 by omega, show off + (i + 1) + n - (off + (i + 1)) = n by omega]
    rw [List.drop_eq_getElem_cons (i := off + i) (by simp; omega)]
    simp [List.take_succ_cons, Nat.add_assoc]

theorem run_storeCells {P : Program} {b : Nat} {et : TypeId} {fr : Nat × Nat} :
    ∀ (vs : List Value) (i off : Nat) (w : World) (arr : Array Value), w.heap[b]? = some (.cells arr et fr) → freeFr fr arr.size → off + i + vs.length ≤ arr.size → vs.all Value.oneC = true →
      ∃ w', (storeCells ⟨b, off, none⟩ vs i).run P w = .ok () w' ∧ (∀ b', b' ≠ b → w'.heap[b']? = w.heap[b']?) ∧
        w'.heap[b]? = some (.cells ((arr.toList.take (off + i) ++ vs ++ arr.toList.drop (off + i + vs.length)).toArray) et fr) ∧
        w'.heap.size = w.heap.size ∧ w'.os = w.os ∧ w'.tape = w.tape ∧ w'.output = w.output := by
  intro vs
  induction vs with
  | nil =>
    intro i off w arr h _ _ _
    refine ⟨w, rfl, fun _ _ => rfl, ?_, rfl, rfl, rfl, rfl⟩
    simp [h]
  | cons v vs ih =>
    intro i off w arr h hf hle hall
    simp only [List.all_cons, Bool.and_eq_true] at hall
    simp only [List.length_cons] at hle
    have hc : w.cell? ((Addr.mk b off none).add i) = some arr[off + i] := by rw [add_none, cell_of h]; simp [show off + i < arr.size by omega]
    have hz : w.frozen? ((Addr.mk b off none).add i) = false := by rw [add_none]; exact frozen_of h hf (by omega)
    have hset := heap_setCell_self w b (off + i) v h
    obtain ⟨w', h1, h2, h3, h4, h5, h6, h7⟩ := ih (i + 1) off (w.setCell ⟨b, off + i, none⟩ v) _ hset (by simpa using hf) (by simp; omega) hall.2
    refine ⟨w', ?_, fun b' hb' => ?_, ?_, ?_, h5, h6, h7⟩
    · unfold storeCells
      rw [run_bind]
      have : (Go.store ((Addr.mk b off none).add i) v).run P w = .ok () (w.setCell ⟨b, off + i, none⟩ v) := by
        unfold Go.store
        rw [add_none] at hc hz ⊢
        cases v <;> simp [Value.oneC] at hall <;> simp [Sem.run, hc, hz]
      rw [this]
      exact h1
    · rw [h2 b' hb', heap_setCell _ _ _ _ (by exact hb')]
    · rw [h3]
      congr 3
      simp only [Array.toList_setIfInBounds, List.length_cons]
      rw [List.drop_set_of_lt (by omega), show off + (i + 1) = off + i + 1 by omega, List.take_succ_eq_append_getElem (by simp; omega), List.take_set_of_le (by omega)]
      simp [show off + i + 1 + vs.length = off + i + (vs.length + 1) by omega]
    · rw [h4]; simp [World.setCell]

end Go.Ax
end

section
namespace Go.Ax
open Go

def Good (E : Pr) (B : Base) (st : St) (a : Act) (w : World) (o : Oper) (v : V) (upd : List (Id × Option Obj)) : Prop :=
  ∃ x w' ow' σ', ((execOp a.eval o).run E.P w = .ok (.value x) w' ∨ ((execOp a.eval o).run E.P w = .ok .skip w' ∧ x = undef)) ∧ Inv E B ow' σ' (st.app o.dst v upd) (a.put o.dst x) w'

section
variable {E : Pr} {B : Base} {ow : Own} {σ : Val} {st : St} {a : Act} {w : World} {o : Oper} (h : Inv E B ow σ st a w) (hd : st.dstOk o.dst = true)
include h hd

theorem Good.pure {v : V} {x : Value} (hr : (execOp a.eval o).run E.P w = .ok (.value x) w) (hv : RV w ow σ st.ob v x) (hid : ∀ id, id ∈ v.ids → st.objs id ≠ none) : Good E B st a w o v [] :=
  ⟨x, w, ow, σ, .inl hr, h.put hd (fun _ => hv) hid⟩

end

theorem run_v {P : Program} {s : Sem Value} {w w' : World} {x : Value} (h : s.run P w = .ok x w') : (do let y ← s; Pure.pure (Next.value y) : Sem Next).run P w = .ok (.value x) w' := by
  rw [run_bind, h]; rfl

def View (w : World) (ow : Own) (σ : Val) (ob : Id → Option Obj) (v : Value) (l : List C) : Prop :=
  ∃ b o arr et fr, v = .pointer (some ⟨b, o, none⟩) ∧ w.heap[b]? = some (.cells arr et fr) ∧ ∀ (j : Nat) (c : C), l[j]? = some c → ∃ x, arr[o + j]? = some x ∧ RC w ow σ ob c x

theorem View.drop {w : World} {ow : Own} {σ : Val} {ob : Id → Option Obj} {b o : Nat} {l : List C} (h : View w ow σ ob (.pointer (some ⟨b, o, none⟩)) l) (n : Nat) :
    View w ow σ ob (.pointer (some ⟨b, o + n, none⟩)) (l.drop n) := by
  obtain ⟨b', o', arr, et, fr, h1, h2, h3⟩ := h
  cases h1
  refine ⟨b, o + n, arr, et, fr, rfl, h2, fun j c hj => ?_⟩
  rw [List.getElem?_drop] at hj
  obtain ⟨x, hx, hr⟩ := h3 _ c hj
  exact ⟨x, by rw [← hx]; congr 1; omega, hr⟩

theorem ofRows_get (deep : Bool) (id : Id) (ver k i : Nat) (ds : List D) : ∀ (j m : Nat), (ofRows deep id ver k i j ds)[m]? = (ds[m]?).map (ofRow deep id ver k i (j + m)) := by
  induction ds with
  | nil => intro j m; simp [ofRows]
  | cons d ds ih =>
    intro j m
    cases m with
    | zero => simp [ofRows]
    | succ m => simp only [ofRows, List.getElem?_cons_succ, ih]; congr 2; omega

theorem rep_view {w : World} {ow : Own} {σ : Val} {ob : Id → Option Obj} {id : Id} {deep : Bool} {k n : Nat} {row : Nat → List D} {ver : Nat} {i : Nat} {b o cap : Nat}
    (ho : ob id = some (.sl deep k n row ver)) (hσ : σ id = .slice (some ⟨b, o, none⟩) n cap) (hr : Rep w ow (rootTag deep id) (.sl k n row) (σ id)) (hi : i < n) :
    View w ow σ ob (.pointer (some ⟨b, o + i * k, none⟩)) (ofRows deep id ver k i 0 (row i)) := by
  rw [hσ] at hr
  rcases hr.inv with ⟨h0, _⟩ | ⟨b', off, cap', cells, et, fr, cv, he, sb⟩
  · omega
  · cases he
    refine ⟨b, o + i * k, cells, et, fr, rfl, sb.hb, fun j c hj => ?_⟩
    rw [ofRows_get] at hj
    simp only [Option.map_eq_some_iff, Nat.zero_add] at hj
    obtain ⟨d, hd, rfl⟩ := hj
    refine ⟨cv i j, sb.hc i j d hi hd, ?_⟩
    have hrd := sb.hr i j d hi hd
    cases d with
    | v x => simp only [ofRow]; exact hrd.v_inv
    | sl k' n' row' =>
      cases deep with
      | true =>
        simp only [ofRow, cond_true]
        intro deep' k'' n'' row'' ver' ho2
        rw [ho] at ho2; cases ho2
        refine ⟨Nat.le_refl _, fun _ => ⟨rfl, b, o, cap, .deep id [], hσ, hi, sb.ho, rfl, ?_⟩⟩
        rw [cell_of sb.hb]; exact sb.hc i j _ hi hd
      | false => simp only [ofRow, cond_false]; exact hrd

theorem load_view {E : Pr} {B : Base} {ow : Own} {σ : Val} {st : St} {a : Act} {w : World} (h : Inv E B ow σ st a w) {c : C} {v : Value} (hc : RC w ow σ st.ob c v)
    {T : Tab} {t : Nat} {cs : List C} (hl : load T t st.ob c = some cs) (hcid : ∀ id, id ∈ c.ids → st.objs id ≠ none) :
    ∃ l, View w ow σ st.ob v l ∧ cs = l.take (T.size t) ∧ ∀ id, id ∈ cs.flatMap C.ids → st.objs id ≠ none := by
  cases c with
  | ptr id off =>
    simp only [load] at hl
    split at hl
    · rename_i l ho
      cases hl
      obtain ⟨b, hσ, rfl⟩ := hc _ ho
      obtain ⟨b', arr, et, fr, g1, g2, g3, g4, g5⟩ := h.objs id _ ho
      rw [hσ] at g1; cases g1
      have hv : View w ow σ st.ob (.pointer (some ⟨b, 0, none⟩)) l := ⟨b, 0, arr, et, fr, rfl, g3, fun j c hj => let ⟨x, hx, hr⟩ := g5.2 j c hj; ⟨x, by simpa using hx, hr⟩⟩
      refine ⟨l.drop off, by simpa using hv.drop off, rfl, fun id' hid' => ?_⟩
      refine h.closedO id _ ho id' ?_
      simp only [List.mem_flatMap] at hid' ⊢
      simp only [Obj.ids, List.mem_flatMap]
      obtain ⟨c, hc1, hc2⟩ := hid'
      exact ⟨c, List.mem_of_mem_drop (List.mem_of_mem_take hc1), hc2⟩
    · cases hl
  | eptr id k i off =>
    simp only [load] at hl
    split at hl
    · rename_i deep k' n row ver ho
      by_cases hk : (k == k') = true
      · simp only [hk, cond_true, Option.some.injEq] at hl
        have hk' : k = k' := by simpa using hk
        subst hk'
        subst hl
        obtain ⟨b, o, cap, hσ, hi, rfl⟩ := hc _ _ _ _ _ ho
        have hv := rep_view ho hσ (h.objs id _ ho) hi
        refine ⟨_, hv.drop off, rfl, fun id' hid' => ?_⟩
        simp only [List.mem_flatMap] at hid'
        obtain ⟨c, hc1, hc2⟩ := hid'
        have hm := List.mem_of_mem_drop (List.mem_of_mem_take hc1)
        obtain ⟨m, hm⟩ := List.getElem?_of_mem hm
        rw [ofRows_get] at hm
        simp only [Option.map_eq_some_iff] at hm
        obtain ⟨d, _, rfl⟩ := hm
        cases d with
        | v x => simp [ofRow, C.ids] at hc2
        | sl => cases deep <;> simp [ofRow, C.ids] at hc2; subst hc2; exact hcid _ (by simp [C.ids])
      · simp only [Bool.not_eq_true] at hk; simp only [hk, cond_false] at hl; cases hl
    · cases hl
  | fptr cells =>
    simp only [load, Option.some.injEq] at hl
    subst hl
    obtain ⟨b, off, arr, et, fr, h1, h2, h3, h4⟩ := hc
    subst h1
    refine ⟨cells.map ofD, ⟨b, off, arr, et, fr, rfl, h2, fun j c hj => ?_⟩, by simp [List.map_take], fun id' hid' => ?_⟩
    · simp only [List.getElem?_map, Option.map_eq_some_iff] at hj
      obtain ⟨d, hd, rfl⟩ := hj
      obtain ⟨x, hx, hr⟩ := h4 j d hd
      refine ⟨x, hx, ?_⟩
      cases d with
      | v y => exact hr.v_inv
      | sl => exact hr
    · simp only [List.mem_flatMap, List.mem_map] at hid'
      obtain ⟨c, ⟨d, _, rfl⟩, hc2⟩ := hid'
      cases d <;> simp [ofD, C.ids] at hc2
  | _ => simp [load] at hl

theorem size_pos {T : Tab} {t : Nat} (h : 0 < T.size t) : ∃ i, T.ti t = some i ∧ i.size = T.size t := by
  unfold Tab.size at h ⊢
  cases hi : T.ti t with
  | none => simp [hi] at h
  | some i => exact ⟨i, rfl, rfl⟩

theorem kind_ti {T : Tab} {t : Nat} {i : TI} (h : T.ti t = some i) : T.kind t = i.kind := by simp [Tab.kind, h]
theorem size_ti {T : Tab} {t : Nat} {i : TI} (h : T.ti t = some i) : T.size t = i.size := by simp [Tab.size, h]

theorem run_loadVar {P : Program} {T : Tab} (hT : TabOk P T) {t : Nat} {i : TI} (ht : T.ti t = some i) {w : World} {ow : Own} {σ : Val} {ob : Id → Option Obj} {v : Value} {l : List C}
    (hv : View w ow σ ob v l) {x : V1} (hp : pack T t (l.take (T.size t)) = some x) : ∃ y, (Instr.loadAt t v).run P w = .ok y w ∧ RV1 w ow σ ob x y := by
  obtain ⟨b, o, arr, et, fr, rfl, h2, h3⟩ := hv
  unfold Instr.loadAt Instr.sureAddr
  rw [run_bind]; simp only [run_pure]
  unfold loadVar
  rw [run_bind, run_isAgg hT ht]
  unfold pack at hp
  rw [kind_ti ht] at hp
  cases hk : i.kind.isAgg with
  | true =>
    simp only [hk] at hp ⊢
    simp only [if_true]
    by_cases hl : (((l.take (T.size t)).length == T.size t) && decide (0 < T.size t)) = true
    · simp only [hl, cond_true, Option.some.injEq] at hp
      subst hp
      simp only [Bool.and_eq_true, beq_iff_eq, List.length_take, decide_eq_true_eq] at hl
      have hl' : T.size t ≤ l.length := by omega
      have hpos : T.size t ≠ 0 := by omega
      rw [run_bind, run_sizeOf' hT ht]
      simp only
      rw [run_bind]
      unfold loadCells
      have hsz : o + 0 + i.size ≤ arr.size := by
        rw [← size_ti ht]
        by_cases h0 : T.size t = 0
        · exact absurd h0 hpos
        · obtain ⟨x, hx, _⟩ := h3 (T.size t - 1) (l[T.size t - 1]'(by omega)) (by simp)
          have := (Array.getElem?_eq_some_iff.1 hx).1
          omega
      rw [run_loadCellsFrom h2 i.size 0 #[] hsz]
      refine ⟨_, rfl, _, rfl, ?_, fun j c hj => ?_⟩
      · simp [size_ti ht]; rw [size_ti ht] at hl'; omega
      · rw [List.getElem?_take] at hj
        split at hj
        · rename_i hlt
          obtain ⟨x, hx, hr⟩ := h3 j c hj
          refine ⟨x, ?_, hr⟩
          rw [size_ti ht] at hlt
          simp only [Array.empty_append, Nat.add_zero]
          rw [Array.getElem?_extract, if_pos (by omega)]; exact hx
        · cases hj
    · simp only [Bool.not_eq_true] at hl; simp only [hl, cond_false] at hp; cases hp
  | false =>
    simp only [hk] at hp ⊢
    simp only [Bool.false_eq_true, if_false]
    cases heq : l.take (T.size t) with
    | nil => simp [heq] at hp
    | cons c tl =>
      cases tl with
      | cons c' tl => simp [heq] at hp
      | nil =>
        simp only [heq, Option.some.injEq] at hp
        subst hp
        have h0 : (l.take (T.size t))[0]? = some c := by rw [heq]; rfl
        rw [List.getElem?_take] at h0
        split at h0
        · obtain ⟨x, hx, hr⟩ := h3 0 c h0
          exact ⟨x, run_load P (by rw [cell_of h2]; simpa using hx) _, hr⟩
        · cases h0

theorem pack_ti {T : Tab} {t : Nat} {l : List C} {x : V1} (h : pack T t (l.take (T.size t)) = some x) : ∃ i, T.ti t = some i := by
  cases ht : T.ti t with
  | some i => exact ⟨i, rfl⟩
  | none =>
    have h0 : T.size t = 0 := by simp [Tab.size, ht]
    simp [pack, Tab.kind, ht, TK.isAgg, h0] at h

theorem pack_inv {T : Tab} {t : Nat} {l : List C} {x : V1} (h : pack T t l = some x) :
    ((T.kind t).isAgg = true ∧ l.length = T.size t ∧ 0 < T.size t ∧ x = .agg l) ∨ ((T.kind t).isAgg = false ∧ ∃ c, l = [c] ∧ x = .one c) := by
  unfold pack at h
  cases hk : (T.kind t).isAgg with
  | true =>
    simp only [hk] at h
    by_cases hl : ((l.length == T.size t) && decide (0 < T.size t)) = true
    · rw [hl] at h; simp only [cond_true, Option.some.injEq] at h; subst h
      simp at hl
      exact .inl ⟨rfl, hl.1, hl.2, rfl⟩
    · simp only [Bool.not_eq_true] at hl; rw [hl] at h; cases h
  | false =>
    simp only [hk] at h
    cases l with
    | nil => simp at h
    | cons c l =>
      cases l with
      | nil => simp only [Option.some.injEq] at h; subst h; exact .inr ⟨rfl, c, rfl, rfl⟩
      | cons => simp at h

theorem pack_ids {T : Tab} {t : Nat} {l : List C} {x : V1} (h : pack T t l = some x) : x.ids = l.flatMap C.ids := by
  rcases pack_inv h with ⟨_, _, _, rfl⟩ | ⟨_, c, rfl, rfl⟩
  · rfl
  · simp [V1.ids]

section
variable {E : Pr} {B : Base} {ow : Own} {σ : Val} {st : St} {a : Act} {w : World} {o : Oper} (hT : TabOk E.P E.T) (h : Inv E B ow σ st a w) (hd : st.dstOk o.dst = true)
include h hd

theorem good_move {x : Operand} (ho : o.op = .move x ∨ o.op = .assign x) : Good E B st a w o (st.ev E.T x) [] :=
  Good.pure h hd (by rcases ho with ho | ho <;> (unfold execOp; rw [ho]; rfl)) (h.ev x) (h.evid x)

include hT in
theorem good_load {t : Nat} {x : Operand} {c : C} {cs : List C} {v : V1} (ho : o.op = .load t x) (hx : st.ev E.T x = .s (.one c)) (hl : load E.T t st.ob c = some cs) (hp : pack E.T t cs = some v) :
    Good E B st a w o (.s v) [] := by
  have hr := h.ev x
  have hid := h.evid x
  rw [hx] at hr hid
  obtain ⟨l, hv, rfl, hids⟩ := load_view h hr hl (by simpa [V.ids, V1.ids] using hid)
  obtain ⟨i, ht⟩ := pack_ti hp
  obtain ⟨y, hy, hry⟩ := run_loadVar hT ht hv hp
  refine Good.pure h hd (x := y) (by unfold execOp; rw [ho]; exact run_v hy) hry ?_
  intro id hid'
  rw [show V.ids (.s v) = v.ids from rfl, pack_ids hp] at hid'
  exact hids id hid'

end

theorem run_asBool {P : Program} {b : Bool} {w : World} : (asBool (.bool b)).run P w = .ok b w := rfl

theorem good_pick {E : Pr} {B : Base} {ow : Own} {σ : Val} {st : St} {a : Act} {w : World} {o : Oper} (h : Inv E B ow σ st a w) (hd : st.dstOk o.dst = true) {c x y : Operand} {t : Bool}
    (ho : o.op = .pick c x y) (hc : st.ev E.T c = .bool t) {v : V} (hv : v = match t with | true => st.ev E.T x | false => st.ev E.T y) : Good E B st a w o v [] := by
  have hb := h.ev c
  rw [hc] at hb
  have hb' : a.eval c = .bool t := hb
  refine Good.pure h hd (x := if t then a.eval x else a.eval y) ?_ ?_ ?_
  · unfold execOp; rw [ho]; simp only [hb']; rw [run_bind, run_asBool]; rfl
  · subst hv; cases t <;> exact h.ev _
  · subst hv; cases t <;> exact h.evid _

end Go.Ax
end

section
namespace Go.Ax
open Go

theorem run_eqGuard (P : Program) (op : BinOp) (t : TypeId) (x y : Operand) (a b : Value) (w : World) (h1 : ∀ cs, a ≠ .agg cs) (h2 : a ≠ .nilIface) :
    (eqGuard op t x y a b).run P w = .ok () w := by
  cases a <;> first
    | exact absurd rfl (h1 _)
    | exact absurd rfl h2
    | (cases op <;> rfl)

theorem run_binI {P : Program} {op : BinOp} {t : TypeId} {k k' : IntKind} {a b : Int} {p : Prop} {v : Value} (w : World) (h : binI op k a b = some (p, v)) (hp : p)
    (hk : (op = .shl ∨ op = .shr) ∨ k = k') : (Go.binOp op t (.int k a) (.int k' b)).run P w = .ok v w := by
  cases op <;> simp only [binI, Option.some.injEq, Prod.mk.injEq, reduceCtorEq] at h <;>
    (try (obtain ⟨rfl, rfl⟩ := h)) <;>
    first
    | (rcases hk with hk | rfl
       · simp at hk
       · first
         | (simp [Go.binOp, Op.intArith, pure, Sem.run]; done)
         | (simp [Go.binOp, Op.intDiv, pure, Sem.run, hp]; done)
         | (simp [Go.binOp, Op.intBits, pure, Sem.run]; done)
         | (simp [Go.binOp, Op.intCmp, pure, Sem.run, bne]; done)
         | (simp [Go.binOp, Op.intCmp, pure, Sem.run]; rfl))
    | (simp [Go.binOp, Op.shift, pure, Sem.run, show ¬ b < 0 by omega]; done)

theorem toList_inj {x y : ByteArray} : (x.toList == y.toList) = decide (x = y) := by
  rw [ByteArray.toList_eq, ByteArray.toList_eq, Bool.eq_iff_iff]
  simp only [beq_iff_eq, decide_eq_true_eq]
  constructor
  · intro h; cases x; cases y; simp at h; rw [h]
  · intro h; rw [h]

theorem run_binS {P : Program} {op : BinOp} {t : TypeId} {a b : ByteArray} {p : Prop} {v : Value} (w : World) (h : binS op a b = some (p, v)) (hp : p) :
    (Go.binOp op t (.string a) (.string b)).run P w = .ok v w := by
  cases op <;> simp only [binS, Option.some.injEq, Prod.mk.injEq, reduceCtorEq] at h <;>
    (try (obtain ⟨rfl, rfl⟩ := h))
  · simp only [Go.binOp, Op.stringOp]
    rw [if_neg (by simp [IntKind.max, IntKind.signed, IntKind.bits]; omega)]; rfl
  · simp [Go.binOp, Op.stringOp, toList_inj, pure, Sem.run]
  · simp [Go.binOp, Op.stringOp, toList_inj, pure, Sem.run]

theorem bin_good {E : Pr} {B : Base} {ow : Own} {σ : Val} {st : St} {a : Act} {w : World} {o : Oper} (h : Inv E B ow σ st a w) (hT : TabOk E.P E.T) (hd : st.dstOk o.dst = true)
    {op : BinOp} {t t' : TypeId} {x y : Operand} (ho : o.op = .binOp op t x y t') {side : Prop} {v : V} {upd : List (Id × Option Obj)}
    (he : bin E.T op t (st.ev E.T x) (st.ev E.T y) = .det side v upd) (hs : side) : Good E B st a w o v upd := by
  have hx := h.ev x
  have hy := h.ev y
  unfold bin at he
  split at he
  · rename_i k p k' q ex ey
    rw [ex] at hx; rw [ey] at hy
    have hx' : a.eval x = .int k p := hx
    have hy' : a.eval y = .int k' q := hy
    have fin : ∀ pr u, binI op k p q = some (pr, u) → pr → ((op = .shl ∨ op = .shr) ∨ k = k') → v = .val u → upd = [] → Good E B st a w o v upd := by
      intro pr u h1 h2 h3 h4 h5
      subst h4; subst h5
      refine Good.pure h hd (x := u) ?_ rfl (by simp [V.ids, V1.ids, C.ids])
      unfold execOp; rw [ho]; simp only [hx', hy']
      refine run_v ?_
      rw [run_bind, run_eqGuard _ _ _ _ _ _ _ _ (by simp) (by simp)]
      exact run_binI w h1 h2 h3
    split at he
    · cases hb : binI .shl k p q with
      | none => simp [hb] at he
      | some r => obtain ⟨pr, u⟩ := r; simp only [hb, Ev.det.injEq] at he; obtain ⟨rfl, rfl, rfl⟩ := he; exact fin _ _ hb hs (.inl (.inl rfl)) rfl rfl
    · cases hb : binI .shr k p q with
      | none => simp [hb] at he
      | some r => obtain ⟨pr, u⟩ := r; simp only [hb, Ev.det.injEq] at he; obtain ⟨rfl, rfl, rfl⟩ := he; exact fin _ _ hb hs (.inl (.inr rfl)) rfl rfl
    · by_cases hk : k = k'
      · simp only [hk, decide_true, cond_true] at he
        subst hk
        cases hb : binI op k p q with
        | none => simp [hb] at he
        | some r => obtain ⟨pr, u⟩ := r; simp only [hb, Ev.det.injEq] at he; obtain ⟨rfl, rfl, rfl⟩ := he; exact fin _ _ hb hs (.inr rfl) rfl rfl
      · simp [hk] at he
  · rename_i p q ex ey
    rw [ex] at hx; rw [ey] at hy
    have hx' : a.eval x = .bool p := hx
    have hy' : a.eval y = .bool q := hy
    have run : ∀ (d : TypeDesc), E.P.underlying t = some d → kindOk .bool d → (Op.equal t (.bool p) (.bool q)).run E.P w = .ok (p == q) w := by
      intro d h1 h2
      cases d <;> simp [kindOk] at h2
      unfold Op.equal Op.maxDepth Op.equalIn
      rw [run_bind, run_underlying h1]
      rfl
    have und : ∀ k, E.T.kind t = k → k = .bool → ∃ d, E.P.underlying t = some d ∧ kindOk .bool d := by
      intro k h1 h2
      subst h2
      unfold Tab.kind at h1
      cases ht : E.T.ti t with
      | none => simp [ht] at h1
      | some i => simp only [ht] at h1; have := (hT t i ht).kind; rw [h1] at this; exact this
    split at he
    · rename_i hk
      simp only [Ev.det.injEq] at he
      obtain ⟨rfl, rfl, rfl⟩ := he
      obtain ⟨d, h1, h2⟩ := und _ hk rfl
      refine Good.pure h hd (x := .bool (p == q)) ?_ rfl (by simp [V.ids, V1.ids, C.ids])
      unfold execOp; rw [ho]; simp only [hx', hy']
      refine run_v ?_
      rw [run_bind, run_eqGuard _ _ _ _ _ _ _ _ (by simp) (by simp)]
      simp only [Go.binOp]
      rw [run_bind, run d h1 h2]; rfl
    · rename_i hk
      simp only [Ev.det.injEq] at he
      obtain ⟨rfl, rfl, rfl⟩ := he
      obtain ⟨d, h1, h2⟩ := und _ hk rfl
      refine Good.pure h hd (x := .bool (!(p == q))) ?_ rfl (by simp [V.ids, V1.ids, C.ids])
      unfold execOp; rw [ho]; simp only [hx', hy']
      refine run_v ?_
      rw [run_bind, run_eqGuard _ _ _ _ _ _ _ _ (by simp) (by simp)]
      simp only [Go.binOp]
      rw [run_bind, run d h1 h2]; rfl
    · cases he
  · rename_i p q ex ey
    rw [ex] at hx; rw [ey] at hy
    have hx' : a.eval x = .string p := hx
    have hy' : a.eval y = .string q := hy
    cases hb : binS op p q with
    | none => simp [hb] at he
    | some r =>
      obtain ⟨pr, u⟩ := r
      simp only [hb, Ev.det.injEq] at he
      obtain ⟨rfl, rfl, rfl⟩ := he
      refine Good.pure h hd (x := u) ?_ rfl (by simp [V.ids, V1.ids, C.ids])
      unfold execOp; rw [ho]; simp only [hx', hy']
      refine run_v ?_
      rw [run_bind, run_eqGuard _ _ _ _ _ _ _ _ (by simp) (by simp)]
      exact run_binS w hb hs
  · cases he

section
variable {E : Pr} {B : Base} {ow : Own} {σ : Val} {st : St} {a : Act} {w : World} {o : Oper} (h : Inv E B ow σ st a w) (hT : TabOk E.P E.T) (hd : st.dstOk o.dst = true)
  {side : Prop} {v : V} {upd : List (Id × Option Obj)} (hs : side)
include h hd

theorem unop_good {op : UnOp} {t : TypeId} {x : Operand} (ho : o.op = .unOp op t x) (he : unop op (st.ev E.T x) = .det side v upd) : Good E B st a w o v upd := by
  have hx := h.ev x
  unfold unop at he
  split at he
  · rename_i k p ex
    rw [ex] at hx
    have hx' : a.eval x = .int k p := hx
    simp only [Ev.det.injEq] at he
    obtain ⟨rfl, rfl, rfl⟩ := he
    refine Good.pure h hd (x := .int k (k.wrap (0 - p))) ?_ rfl (by simp [V.ids, V1.ids, C.ids])
    unfold execOp; rw [ho]; simp only [hx']
    exact run_v rfl
  · rename_i b ex
    rw [ex] at hx
    have hx' : a.eval x = .bool b := hx
    simp only [Ev.det.injEq] at he
    obtain ⟨rfl, rfl, rfl⟩ := he
    refine Good.pure h hd (x := .bool (!b)) ?_ rfl (by simp [V.ids, V1.ids, C.ids])
    unfold execOp; rw [ho]; simp only [hx']
    exact run_v rfl
  · cases he

omit h hd in
include hT in
theorem kind_und {t : Nat} {k : TK} (hk : E.T.kind t = k) (hne : k ≠ .other) : ∃ i d, E.T.ti t = some i ∧ i.kind = k ∧ E.P.underlying t = some d ∧ kindOk k d := by
  unfold Tab.kind at hk
  cases ht : E.T.ti t with
  | none => simp only [ht] at hk; exact absurd hk.symm hne
  | some i =>
    simp only [ht] at hk
    obtain ⟨d, h1, h2⟩ := (hT t i ht).kind
    exact ⟨i, d, rfl, hk, h1, hk ▸ h2⟩

include hT in
theorem conv_good {s d : TypeId} {x : Operand} (ho : o.op = .convert s d x) (he : conv E.T s d (st.ev E.T x) = .det side v upd) : Good E B st a w o v upd := by
  have hx := h.ev x
  unfold conv at he
  split at he
  · rename_i k1 k p n h1 h2 ex
    rw [ex] at hx
    have hx' : a.eval x = .int p n := hx
    simp only [Ev.det.injEq] at he
    obtain ⟨rfl, rfl, rfl⟩ := he
    obtain ⟨_, d1, _, _, u1, q1⟩ := kind_und hT h1 (by simp)
    obtain ⟨_, d2, _, _, u2, q2⟩ := kind_und hT h2 (by simp)
    refine Good.pure h hd (x := .int k (k.wrap n)) ?_ rfl (by simp [V.ids, V1.ids, C.ids])
    unfold execOp; rw [ho]; simp only [hx']
    refine run_v ?_
    unfold Go.convert
    rw [run_bind, run_underlying u1]
    simp only
    rw [run_bind, run_underlying u2]
    cases d1 <;> simp [kindOk] at q1
    cases d2 <;> simp [kindOk] at q2
    subst q2
    rfl
  · cases he

end

end Go.Ax
end

section
namespace Go.Ax
open Go

theorem view_ne {w : World} {ow : Own} {σ : Val} {ob : Id → Option Obj} {v : Value} {l : List C} (h : View w ow σ ob v l) : ∃ b o, v = .pointer (some ⟨b, o, none⟩) := by
  obtain ⟨b, o, _, _, _, h, _⟩ := h; exact ⟨b, o, h⟩

section
variable {E : Pr} {B : Base} {ow : Own} {σ : Val} {st : St} {a : Act} {w : World} {o : Oper} (h : Inv E B ow σ st a w) (hT : TabOk E.P E.T) (hd : st.dstOk o.dst = true)
  {side : Prop} {v : V} {upd : List (Id × Option Obj)} (hs : side)
include h

theorem ptr_form {id : Id} {off : Nat} {cs : List C} {x : Value} (hx : RC w ow σ st.ob (.ptr id off) x) (ho : st.ob id = some (.box cs)) :
    ∃ b, x = .pointer (some ⟨b, off, none⟩) ∧ ∀ off', RC w ow σ st.ob (.ptr id off') (.pointer (some ⟨b, off', none⟩)) := by
  have _ := h
  obtain ⟨b, h1, h2⟩ := hx _ ho
  exact ⟨b, h2, fun off' cs' h3 => ⟨b, h1, rfl⟩⟩

theorem eptr_form {id : Id} {k i off : Nat} {deep : Bool} {k' n : Nat} {row : Nat → List D} {ver : Nat} {x : Value} (hx : RC w ow σ st.ob (.eptr id k i off) x) (ho : st.ob id = some (.sl deep k' n row ver)) :
    ∃ b o, x = .pointer (some ⟨b, o + off, none⟩) ∧ ∀ off', RC w ow σ st.ob (.eptr id k i off') (.pointer (some ⟨b, o + off', none⟩)) := by
  have _ := h
  obtain ⟨b, o, cap, h1, h2, h3⟩ := hx _ _ _ _ _ ho
  refine ⟨b, o + i * k, h3, fun off' deep' k'' n' row' ver' h4 => ?_⟩
  rw [ho] at h4; cases h4
  exact ⟨b, o, cap, h1, h2, rfl⟩

include hd

theorem nilCheck_good {x : Operand} (ho : o.op = .nilCheck x) (he : eval E.T (fun _ => false) o.dst (.nilCheck x) (st.ev E.T) st.ob = .det side v upd) : Good E B st a w o v upd := by
  have hx := h.ev x
  have hid := h.evid x
  simp only [eval] at he
  have fin : ∀ c b off, st.ev E.T x = .c c → a.eval x = .pointer (some ⟨b, off, none⟩) → v = .c c → upd = [] → Good E B st a w o v upd := by
    intro c b off h1 h2 h3 h4
    subst h3; subst h4
    refine Good.pure h hd (x := a.eval x) ?_ (h1 ▸ hx) (h1 ▸ hid)
    unfold execOp; rw [ho]; simp only [h2]; rfl
  split at he
  · rename_i id off ex
    split at he
    · rename_i cs hb
      simp only [Ev.det.injEq] at he
      obtain ⟨_, rfl, rfl⟩ := he
      rw [ex] at hx
      obtain ⟨b, h1, _⟩ := ptr_form h hx hb
      exact fin _ _ _ ex h1 rfl rfl
    · cases he
  · rename_i id k i off ex
    split at he
    · rename_i hb
      simp only [Ev.det.injEq] at he
      obtain ⟨_, rfl, rfl⟩ := he
      rw [ex] at hx
      obtain ⟨b, p, h1, _⟩ := eptr_form h hx hb
      exact fin _ _ _ ex h1 rfl rfl
    · cases he
  · rename_i cs ex
    simp only [Ev.det.injEq] at he
    obtain ⟨_, rfl, rfl⟩ := he
    rw [ex] at hx
    obtain ⟨b, off, _, _, _, h1, _⟩ := hx
    exact fin _ _ _ ex h1 rfl rfl
  · cases he

omit h hd in
theorem fieldOff_run {t f : Nat} {off : Nat} (hT : TabOk E.P E.T) (hf : fieldOff E.T t f = some off) (b p : Nat) (w : World) :
    (Instr.fieldAt t (.pointer (some ⟨b, p, none⟩)) f).run E.P w = .ok (.pointer (some ⟨b, p + off, none⟩)) w := by
  unfold fieldOff at hf
  split at hf
  · rename_i fs hk
    obtain ⟨i, d, ht, _, hu, hko⟩ := kind_und hT hk (by simp)
    cases d <;> simp [kindOk] at hko
    rename_i fields
    cases hfs : fs[f]? with
    | none => simp [hfs] at hf
    | some q =>
      obtain ⟨off', ft⟩ := q
      simp only [hfs] at hf
      by_cases hp : 0 < E.T.size ft
      · simp only [hp, decide_true, cond_true, Option.some.injEq] at hf
        subst hf
        have hfl : ∃ fl, fields[f]? = some fl ∧ fl.offset = off' ∧ fl.type = ft := by
          rw [← hko] at hfs
          simp only [List.getElem?_map, Array.getElem?_toList, Option.map_eq_some_iff, Prod.mk.injEq] at hfs
          obtain ⟨fl, h1, h2, h3⟩ := hfs
          exact ⟨fl, h1, h2, h3⟩
        obtain ⟨fl, h1, rfl, rfl⟩ := hfl
        obtain ⟨i', ht', hsz⟩ := size_pos hp
        unfold Instr.fieldAt
        rw [run_bind, run_underlying hu]
        simp only [h1]
        unfold Instr.sureAddr
        rw [run_bind, run_pure]
        simp only
        rw [run_bind]
        unfold fieldPlace
        rw [run_bind, run_sizeOf' hT ht']
        simp only
        rw [if_neg (by omega), run_pure, add_none]
        rfl
      · simp [hp] at hf
  · cases hf

include hT in
theorem fieldAddr_good {t f : Nat} {x : Operand} (ho : o.op = .fieldAddr t x f) (he : fieldAddr E.T t st.ob (st.ev E.T x) f = .det side v upd) : Good E B st a w o v upd := by
  have hx := h.ev x
  have hid := h.evid x
  unfold fieldAddr at he
  split at he
  · rename_i off id p hf ex
    split at he
    · rename_i cs hb
      simp only [Ev.det.injEq] at he
      obtain ⟨_, rfl, rfl⟩ := he
      rw [ex] at hx hid
      obtain ⟨b, h1, h2⟩ := ptr_form h hx hb
      refine Good.pure h hd (x := .pointer (some ⟨b, p + off, none⟩)) ?_ (h2 _) (fun id' hid' => hid id' (by simpa [V.ids, V1.ids, C.ids] using hid'))
      unfold execOp; rw [ho]; simp only [h1]
      exact run_v (fieldOff_run hT hf b p w)
    · cases he
  · rename_i off id k i p hf ex
    split at he
    · rename_i hb
      simp only [Ev.det.injEq] at he
      obtain ⟨_, rfl, rfl⟩ := he
      rw [ex] at hx hid
      obtain ⟨b, q, h1, h2⟩ := eptr_form h hx hb
      refine Good.pure h hd (x := .pointer (some ⟨b, q + p + off, none⟩)) ?_ (by rw [Nat.add_assoc]; exact h2 _) (fun id' hid' => hid id' (by simpa [V.ids, V1.ids, C.ids] using hid'))
      unfold execOp; rw [ho]; simp only [h1]
      exact run_v (fieldOff_run hT hf b _ w)
    · cases he
  · rename_i off cs hf ex
    simp only [Ev.det.injEq] at he
    obtain ⟨_, rfl, rfl⟩ := he
    rw [ex] at hx
    obtain ⟨b, p, arr, et, fr, h1, h2, h3, h4⟩ := hx
    refine Good.pure h hd (x := .pointer (some ⟨b, p + off, none⟩)) ?_ ⟨b, p + off, arr, et, fr, rfl, h2, h3, fun j d hj => ?_⟩ (by simp [V.ids, V1.ids, C.ids])
    · unfold execOp; rw [ho]; simp only [h1]
      exact run_v (fieldOff_run hT hf b _ w)
    · rw [List.getElem?_drop] at hj
      obtain ⟨y, hy, hr⟩ := h4 _ d hj
      exact ⟨y, by rw [← hy]; congr 1; omega, hr⟩
  · cases he

include hT in
theorem field_good {t f : Nat} {x : Operand} (ho : o.op = .field t x f) (he : fieldOf E.T t (st.ev E.T x) f = .det side v upd) : Good E B st a w o v upd := by
  have hx := h.ev x
  have hid := h.evid x
  unfold fieldOf at he
  split at he
  · rename_i fs cs hk ex
    rw [ex] at hx hid
    obtain ⟨vs, h1, h2, h3⟩ := hx
    obtain ⟨i, d, ht, _, hu, hko⟩ := kind_und hT hk (by simp)
    cases d <;> simp [kindOk] at hko
    rename_i fields
    cases hfs : fs[f]? with
    | none => simp [hfs] at he
    | some q =>
      obtain ⟨off, ft⟩ := q
      simp only [hfs] at he
      cases hp : pack E.T ft ((cs.drop off).take (E.T.size ft)) with
      | none => simp [hp] at he
      | some x1 =>
        simp only [hp, Ev.det.injEq] at he
        obtain ⟨_, rfl, rfl⟩ := he
        have hfl : ∃ fl, fields[f]? = some fl ∧ fl.offset = off ∧ fl.type = ft := by
          rw [← hko] at hfs
          simp only [List.getElem?_map, Array.getElem?_toList, Option.map_eq_some_iff, Prod.mk.injEq] at hfs
          obtain ⟨fl, h1, h2, h3⟩ := hfs
          exact ⟨fl, h1, h2, h3⟩
        obtain ⟨fl, hf1, rfl, rfl⟩ := hfl
        obtain ⟨i', ht'⟩ := pack_ti hp
        have hidv : ∀ id, id ∈ x1.ids → st.objs id ≠ none := by
          rw [pack_ids hp]
          intro id hid'
          refine hid id ?_
          simp only [V.ids, V1.ids, List.mem_flatMap] at hid' ⊢
          obtain ⟨c, hc1, hc2⟩ := hid'
          exact ⟨c, List.mem_of_mem_drop (List.mem_of_mem_take hc1), hc2⟩
        rcases pack_inv hp with ⟨hag, hlen, hpos, rfl⟩ | ⟨hag, c, hl, rfl⟩
        · rw [kind_ti ht'] at hag
          simp only [List.length_take, List.length_drop] at hlen
          refine Good.pure h hd (x := .agg (vs.extract fl.offset (fl.offset + E.T.size fl.type))) ?_ ⟨_, rfl, ?_, fun j c hj => ?_⟩ hidv
          · unfold execOp; rw [ho]; simp only [h1]
            refine run_v ?_
            unfold Instr.field
            rw [run_bind, run_underlying hu]
            simp only [hf1]
            unfold asAgg
            rw [run_bind, run_pure]
            simp only
            unfold part
            rw [run_bind, run_isAgg hT ht', hag]
            simp only [if_true]
            rw [run_bind, run_sizeOf' hT ht', size_ti ht']; rfl
          · simp; omega
          · rw [List.getElem?_take] at hj
            split at hj
            · rename_i hlt
              rw [List.getElem?_drop] at hj
              obtain ⟨y, hy, hr⟩ := h3 _ c hj
              refine ⟨y, ?_, hr⟩
              rw [Array.getElem?_extract, if_pos (by omega)]; exact hy
            · cases hj
        · rw [kind_ti ht'] at hag
          have h0 : ((cs.drop fl.offset).take (E.T.size fl.type))[0]? = some c := by rw [hl]; rfl
          rw [List.getElem?_take] at h0
          split at h0
          · rw [List.getElem?_drop] at h0
            obtain ⟨y, hy, hr⟩ := h3 _ c h0
            refine Good.pure h hd (x := y) ?_ hr hidv
            unfold execOp; rw [ho]; simp only [h1]
            refine run_v ?_
            unfold Instr.field
            rw [run_bind, run_underlying hu]
            simp only [hf1]
            unfold asAgg
            rw [run_bind, run_pure]
            simp only
            unfold part
            rw [run_bind, run_isAgg hT ht', hag]
            simp only [Bool.false_eq_true, if_false]
            simp only [Nat.add_zero] at hy
            rw [hy]; rfl
          · cases h0
  · cases he

theorem extract_good {x : Operand} {i : Nat} {xs : List V1} {x1 : V1} (ho : o.op = .extract x i) (hx1 : st.ev E.T x = .tup xs) (hx2 : xs[i]? = some x1) : Good E B st a w o (.s x1) [] := by
  have hx := h.ev x
  have hid := h.evid x
  rw [hx1] at hx hid
  obtain ⟨vs, h1, h2, h3⟩ := hx
  obtain ⟨y, hy, hr⟩ := h3 i x1 hx2
  refine Good.pure h hd (x := y) ?_ hr (fun id hid' => hid id (List.mem_flatMap.2 ⟨x1, List.mem_of_getElem? hx2, hid'⟩))
  unfold execOp; rw [ho]; simp only [h1]
  refine run_v ?_
  unfold Instr.extract
  simp only [hy]; rfl

end

end Go.Ax
end

section
namespace Go.Ax
open Go

theorem run_sliceBound (P : Program) (k : IntKind) (i : Int) (y : Nat) (code : BoundsCode) (w : World) (h0 : 0 ≤ i) (h1 : i ≤ y) :
    (Instr.sliceBound (.int k i) y code).run P w = .ok i.toNat w := by
  unfold Instr.sliceBound asIntOf
  rw [run_bind, run_pure]
  simp only
  rw [if_pos ⟨h0, h1⟩]; rfl

theorem optI_inv {E : Pr} {B : Base} {ow : Own} {σ : Val} {st : St} {a : Act} {w : World} (h : Inv E B ow σ st a w) {d : Int} {x : Option Operand} {l : Int}
    (ho : optI d (x.map (st.ev E.T)) = some l) : (x = none ∧ l = d) ∨ ∃ y k, x = some y ∧ a.eval y = .int k l := by
  cases x with
  | none => simp [optI] at ho; exact .inl ⟨rfl, ho.symm⟩
  | some y =>
    right
    simp only [Option.map_some, optI] at ho
    have hy := h.ev y
    unfold anyIntV at ho
    split at ho
    · rename_i k n ey
      rw [ey] at hy
      cases ho
      exact ⟨y, k, rfl, hy⟩
    · cases ho

theorem anyInt_inv {E : Pr} {B : Base} {ow : Own} {σ : Val} {st : St} {a : Act} {w : World} (h : Inv E B ow σ st a w) {x : Operand} {n : Int} (ho : anyIntV (st.ev E.T x) = some n) :
    ∃ k, a.eval x = .int k n := by
  have hy := h.ev x
  unfold anyIntV at ho
  split at ho
  · rename_i k n ey
    rw [ey] at hy; cases ho
    exact ⟨k, hy⟩
  · cases ho

theorem run_bounds {E : Pr} {B : Base} {ow : Own} {σ : Val} {st : St} {a : Act} {w : World} (h : Inv E B ow σ st a w) (isS : Bool) (len cap : Nat) {lo hi mx : Option Operand} {l hh m : Int}
    (h1 : optI 0 (lo.map (st.ev E.T)) = some l) (h2 : optI len (hi.map (st.ev E.T)) = some hh) (h3 : optI len (mx.map (st.ev E.T)) = some m)
    (hb : 0 ≤ l ∧ l ≤ hh ∧ hh ≤ m ∧ m ≤ len) (hc : len ≤ cap) (hmx : mx ≠ none → hi ≠ none) :
    ∃ m', (Instr.sliceBounds isS len cap (lo.map a.eval) (hi.map a.eval) (mx.map a.eval)).run E.P w = .ok (l.toNat, hh.toNat, m') w ∧ hh.toNat ≤ m' ∧ m' ≤ cap := by
  obtain ⟨b1, b2, b3, b4⟩ := hb
  unfold Instr.sliceBounds
  rcases optI_inv h h3 with ⟨rfl, rfl⟩ | ⟨y3, k3, rfl, e3⟩
  · refine ⟨cap, ?_, by omega, Nat.le_refl _⟩
    simp only [Option.map_none]
    rw [run_bind, run_pure]
    simp only
    rcases optI_inv h h2 with ⟨rfl, rfl⟩ | ⟨y2, k2, rfl, e2⟩
    · simp only [Option.map_none]
      rw [run_bind, run_pure]
      simp only
      rcases optI_inv h h1 with ⟨rfl, rfl⟩ | ⟨y1, k1, rfl, e1⟩
      · simp only [Option.map_none]; rw [run_bind, run_pure]; simp [run_pure]
      · simp only [Option.map_some, e1]
        rw [run_bind, run_sliceBound _ _ _ _ _ _ b1 (by omega)]
        simp [run_pure]
    · simp only [Option.map_some, e2]
      rw [run_bind, run_sliceBound _ _ _ _ _ _ (by omega) (by omega)]
      simp only
      rcases optI_inv h h1 with ⟨rfl, rfl⟩ | ⟨y1, k1, rfl, e1⟩
      · simp only [Option.map_none]; rw [run_bind, run_pure]; simp [run_pure]
      · simp only [Option.map_some, e1]
        rw [run_bind, run_sliceBound _ _ _ _ _ _ b1 (by omega)]
        simp [run_pure]
  · refine ⟨m.toNat, ?_, by omega, by omega⟩
    simp only [Option.map_some, e3]
    rw [run_bind, run_sliceBound _ _ _ _ _ _ (by omega) (by omega)]
    simp only
    rcases optI_inv h h2 with ⟨rfl, rfl⟩ | ⟨y2, k2, rfl, e2⟩
    · exact absurd rfl (hmx (by simp))
    · simp only [Option.map_some, e2]
      rw [run_bind, run_sliceBound _ _ _ _ _ _ (by omega) (by omega)]
      simp only
      rcases optI_inv h h1 with ⟨rfl, rfl⟩ | ⟨y1, k1, rfl, e1⟩
      · simp only [Option.map_none]; rw [run_bind, run_pure]; simp [run_pure]
      · simp only [Option.map_some, e1]
        rw [run_bind, run_sliceBound _ _ _ _ _ _ b1 (by omega)]
        simp [run_pure]

section
variable {E : Pr} {B : Base} {ow : Own} {σ : Val} {st : St} {a : Act} {w : World} {o : Oper} (h : Inv E B ow σ st a w) (hT : TabOk E.P E.T) (hd : st.dstOk o.dst = true)
  {side : Prop} {v : V} {upd : List (Id × Option Obj)}
include h hd hT

theorem slice_good {t : Nat} {x : Operand} {lo hi mx : Option Operand} (ho : o.op = .slice t x lo hi mx)
    (he : slice E.T t (st.ev E.T x) (lo.map (st.ev E.T)) (hi.map (st.ev E.T)) (mx.map (st.ev E.T)) = .det side v upd) (hs : side) (hmx : mx ≠ none → hi ≠ none) : Good E B st a w o v upd := by
  have hx := h.ev x
  unfold slice at he
  split at he
  · rename_i s hk ex
    rw [ex] at hx
    have hx' : a.eval x = .string s := hx
    obtain ⟨i, d, ht, _, hu, hko⟩ := kind_und hT hk (by simp)
    cases d <;> simp [kindOk] at hko
    split at he
    · rename_i l hh e3 e1 e2
      simp only [Ev.det.injEq] at he
      obtain ⟨rfl, rfl, rfl⟩ := he
      have hmn : mx = none := by cases mx <;> simp_all
      subst hmn
      obtain ⟨m', hm, _, _⟩ := run_bounds h false s.size s.size e1 e2 (mx := none) (m := s.size) rfl ⟨hs.1, hs.2.1, hs.2.2, Int.le_refl _⟩ (Nat.le_refl _) (by simp)
      refine Good.pure h hd (x := .string (s.extract l.toNat hh.toNat)) ?_ rfl (by simp [V.ids, V1.ids, C.ids])
      unfold execOp; rw [ho]; simp only [hx']
      refine run_v ?_
      unfold Instr.sliceAt
      rw [run_bind, run_underlying hu]
      simp only
      unfold Instr.slice
      rw [run_bind, run_underlying hu]
      simp only [Option.map_none, Option.isSome_none, Bool.false_eq_true, if_false]
      rw [run_bind]
      have hm' := hm
      simp only [Option.map_none] at hm'
      rw [hm']; rfl
    · cases he
  · rename_i e c hk ex
    obtain ⟨i, d, ht, _, hu, hko⟩ := kind_und hT hk (by simp)
    cases d <;> simp [kindOk] at hko
    subst hko
    have run : ∀ (A : Option Addr) (n cap : Nat) (l hh m : Int) (q : Nat), a.eval x = .slice A n cap → optI 0 (lo.map (st.ev E.T)) = some l → optI n (hi.map (st.ev E.T)) = some hh → optI n (mx.map (st.ev E.T)) = some m →
        (0 ≤ l ∧ l ≤ hh ∧ hh ≤ m ∧ m ≤ n) → n ≤ cap → (∀ w, (sizeOf e).run E.P w = .ok q w) → ∃ m', hh.toNat ≤ m' ∧ m' ≤ cap ∧
        (execOp a.eval o).run E.P w = .ok (.value (.slice (if m' = l.toNat then A else A.map (·.add (l.toNat * q))) (hh.toNat - l.toNat) (m' - l.toNat))) w := by
      intro A n cap l hh m q hx' e1 e2 e3 hb hc hq
      obtain ⟨m', hm, hm1, hm2⟩ := run_bounds h true n cap e1 e2 e3 hb hc hmx
      refine ⟨m', hm1, hm2, ?_⟩
      unfold execOp; rw [ho]; simp only [hx']
      refine run_v ?_
      unfold Instr.sliceAt
      rw [run_bind, run_underlying hu]
      simp only
      unfold Instr.slice
      rw [run_bind, run_underlying hu]
      simp only
      rw [run_bind, hm]
      simp only
      rw [run_bind, hq]; rfl
    split at he
    · rw [ex] at hx
      have hx' : a.eval x = .slice none 0 0 := hx
      split at he
      · rename_i l hh m e1 e2 e3
        by_cases hsz : 0 < E.T.size e
        · simp only [hsz, decide_true, cond_true, Ev.det.injEq] at he
          obtain ⟨rfl, rfl, rfl⟩ := he
          obtain ⟨rfl, rfl, rfl⟩ := hs
          obtain ⟨i', hi', _⟩ := size_pos hsz
          obtain ⟨m', h1, h2, h3⟩ := run none 0 0 0 0 0 i'.size hx' e1 e2 e3 (by simp) (Nat.le_refl _) (fun w => run_sizeOf' hT hi' w)
          have hm0 : m' = 0 := by omega
          subst hm0
          exact Good.pure h hd (x := .slice none 0 0) h3 rfl (by simp [V.ids, V1.ids, C.ids])
        · simp [hsz] at he
      · cases he
    · rename_i k n row
      split at he
      · rename_i l hh m e1 e2 e3
        by_cases hk' : ((k == E.T.size e) && decide (0 < E.T.size e)) = true
        · simp only [hk', cond_true, Ev.det.injEq] at he
          obtain ⟨rfl, rfl, rfl⟩ := he
          simp only [Bool.and_eq_true, beq_iff_eq, decide_eq_true_eq] at hk'
          obtain ⟨hk1, hk2⟩ := hk'
          obtain ⟨i', hi', hsz⟩ := size_pos hk2
          rw [ex] at hx
          have hr : Rep w ow .fz (.sl k n row) (a.eval x) := hx
          obtain ⟨hs1, hs2, hs3, hs4⟩ := hs
          have shape : ∃ A cap, a.eval x = .slice A n cap ∧ n ≤ cap := by
            rcases hr.inv with ⟨rfl, h1 | ⟨_, A, cap, h1⟩⟩ | ⟨b, off, cap, cells, et, fr, cv, h1, sb⟩
            · exact ⟨_, _, h1, Nat.le_refl _⟩
            · exact ⟨_, _, h1, Nat.zero_le _⟩
            · exact ⟨_, _, h1, sb.hcap⟩
          obtain ⟨A, cap, hA, hcap⟩ := shape
          obtain ⟨m', h1, h2, h3⟩ := run A n cap l hh m i'.size hA e1 e2 e3 ⟨hs1, hs2, hs3, hs4⟩ hcap (fun w => run_sizeOf' hT hi' w)
          refine Good.pure h hd h3 ?_ (by simp [V.ids, V1.ids, C.ids])
          show Rep w ow .fz _ _
          by_cases h0 : hh.toNat - l.toNat = 0
          · rw [h0]; exact .zero _ _ _ _
          · have hne : m' ≠ l.toNat := by omega
            rw [if_neg hne]
            rcases hr.inv with ⟨rfl, _⟩ | ⟨b, off, cap', cells, et, fr, cv, h1', sb⟩
            · omega
            · rw [hA] at h1'; cases h1'
              simp only [Option.map_some, add_none]
              have hsz' : i'.size = k := by omega
              rw [hsz']
              have hsb := sb.hsz
              simp only [if_true] at hsb
              refine .sl .fz k _ _ b _ _ cells et fr (fun i j => cv (l.toNat + i) j) sb.hb sb.ho (by omega) ?_ (by simp) (fun i hi => sb.hk _ (by omega)) (fun i j d hi hj => ?_) (fun i j d hi hj => sb.hr _ j d (by omega) hj)
              · simp only [if_true]
                have : (l.toNat + (hh.toNat - l.toNat)) * k ≤ n * k := Nat.mul_le_mul_right k (by omega)
                rw [Nat.add_mul] at this
                omega
              · rw [← sb.hc (l.toNat + i) j d (by omega) hj]
                congr 1
                rw [Nat.add_mul]; omega
        · simp only [Bool.not_eq_true] at hk'; simp only [hk', cond_false] at he; cases he
      · cases he
    · cases he
  · cases he

theorem index_good {t : Nat} {x i : Operand} {s : ByteArray} {n : Int} (ho : o.op = .index t x i) (hk : E.T.kind t = .str) (ex : st.ev E.T x = .val (.string s)) (ei : anyIntV (st.ev E.T i) = some n)
    (hs : 0 ≤ n ∧ n < s.size) : Good E B st a w o (.val (.int .u8 (s.data.getD n.toNat 0).toNat)) [] := by
  have hx := h.ev x
  rw [ex] at hx
  have hx' : a.eval x = .string s := hx
  obtain ⟨k, hi⟩ := anyInt_inv h ei
  obtain ⟨_, d, ht, _, hu, hko⟩ := kind_und hT hk (by simp)
  cases d <;> simp [kindOk] at hko
  refine Good.pure h hd (x := .int .u8 (s.data.getD n.toNat 0).toNat) ?_ rfl (by simp [V.ids, V1.ids, C.ids])
  unfold execOp; rw [ho]; simp only [hx', hi]
  refine run_v ?_
  unfold Instr.index asIntOf
  rw [run_bind, run_pure]
  simp only
  rw [run_bind, run_underlying hu]
  simp only
  rw [if_pos hs.1]
  have hlt : n.toNat < s.size := by omega
  have : s[n.toNat]? = some (s.data.getD n.toNat 0) := by
    rw [getElem?_pos s n.toNat hlt]
    congr 1
    have hlt' : n.toNat < s.data.size := hlt
    unfold Array.getD
    rw [dif_pos hlt']
    rfl
  rw [this]; rfl

theorem indexAddr_good {t : Nat} {x i : Operand} (ho : o.op = .indexAddr t x i) (he : indexAddr E.T t st.ob (st.ev E.T x) (st.ev E.T i) = .det side v upd) (hs : side) : Good E B st a w o v upd := by
  have hx := h.ev x
  have hid := h.evid x
  unfold indexAddr at he
  split at he
  · rename_i e c n hk ex ei
    obtain ⟨k, hi⟩ := anyInt_inv h ei
    obtain ⟨_, d, ht, _, hu, hko⟩ := kind_und hT hk (by simp)
    cases d <;> simp [kindOk] at hko
    subst hko
    have run : ∀ (b off m cap q : Nat), a.eval x = .slice (some ⟨b, off, none⟩) m cap → 0 ≤ n → n < m → (∀ w, (sizeOf e).run E.P w = .ok q w) →
        (execOp a.eval o).run E.P w = .ok (.value (.pointer (some ⟨b, off + n.toNat * q, none⟩))) w := by
      intro b off m cap q hx' h0 h1 hq
      unfold execOp; rw [ho]; simp only [hx', hi]
      refine run_v ?_
      unfold Instr.indexAt asIntOf
      rw [run_bind, run_pure]
      simp only
      rw [run_bind, run_underlying hu]
      simp only
      rw [run_bind, run_pure]
      simp only
      rw [run_bind, run_underlying hu]
      simp only
      rw [if_pos ⟨h0, h1⟩, run_bind, hq]
      simp only [add_none]; rfl
    have szk : ∀ k : Nat, ((k == E.T.size e) && decide (0 < E.T.size e)) = true → ∀ w, (sizeOf e).run E.P w = .ok k w := by
      intro k hk' w
      simp only [Bool.and_eq_true, beq_iff_eq, decide_eq_true_eq] at hk'
      obtain ⟨hk', hp⟩ := hk'
      obtain ⟨i', hi', hsz⟩ := size_pos hp
      rw [run_sizeOf' hT hi', hsz, hk']
    split at he
    · rename_i id
      split at he
      · rename_i deep k' m row ver hob
        by_cases hk' : ((k' == E.T.size e) && decide (0 < E.T.size e)) = true
        · simp only [hk', cond_true, Ev.det.injEq] at he
          obtain ⟨rfl, rfl, rfl⟩ := he
          rw [ex] at hx hid
          have hv : a.eval x = σ id := hx _ _ _ _ _ hob
          have hr : Rep w ow (rootTag deep id) (.sl k' m row) (σ id) := h.objs id _ hob
          have hq := szk _ hk'
          rcases hr.inv with ⟨rfl, _⟩ | ⟨b, off, cap, cells, et, fr, cv, h1, sb⟩
          · omega
          · refine Good.pure h hd (run b off m cap k' (hv.trans h1) hs.1 hs.2 hq) ?_ (fun id' hid' => hid id' (by simpa [V.ids, V1.ids, C.ids] using hid'))
            intro deep' k'' n' row' ver' ho'
            rw [hob] at ho'; cases ho'
            exact ⟨b, off, cap, h1, by omega, rfl⟩
        · simp only [Bool.not_eq_true] at hk'; simp only [hk', cond_false] at he; cases he
      · cases he
    · rename_i k' m row
      by_cases hk' : ((k' == E.T.size e) && decide (0 < E.T.size e)) = true
      · simp only [hk', cond_true, Ev.det.injEq] at he
        obtain ⟨rfl, rfl, rfl⟩ := he
        rw [ex] at hx
        have hr : Rep w ow .fz (.sl k' m row) (a.eval x) := hx
        have hq := szk _ hk'
        rcases hr.inv with ⟨rfl, _⟩ | ⟨b, off, cap, cells, et, fr, cv, h1, sb⟩
        · omega
        · refine Good.pure h hd (run b off m cap k' h1 hs.1 hs.2 hq) ?_ (by simp [V.ids, V1.ids, C.ids])
          exact ⟨b, off + n.toNat * k', cells, et, fr, rfl, sb.hb, sb.ho, fun j d hj => ⟨_, sb.hc n.toNat j d (by omega) hj, sb.hr n.toNat j d (by omega) hj⟩⟩
      · simp only [Bool.not_eq_true] at hk'; simp only [hk', cond_false] at he; cases he
    · cases he
    · cases he
  · rename_i len e cs n hk ex ei
    obtain ⟨k, hi⟩ := anyInt_inv h ei
    obtain ⟨_, d, ht, _, hu, hko⟩ := kind_und hT hk (by simp)
    cases d <;> simp [kindOk] at hko
    obtain ⟨rfl, rfl⟩ := hko
    by_cases hp : 0 < E.T.size e
    · simp only [hp, decide_true, cond_true, Ev.det.injEq] at he
      obtain ⟨rfl, rfl, rfl⟩ := he
      rw [ex] at hx
      obtain ⟨b, off, arr, et, fr, h1, h2, h3, h4⟩ := hx
      obtain ⟨i', hi', hsz⟩ := size_pos hp
      refine Good.pure h hd (x := .pointer (some ⟨b, off + n.toNat * E.T.size e, none⟩)) ?_ ⟨b, _, arr, et, fr, rfl, h2, h3, fun j d hj => ?_⟩ (by simp [V.ids, V1.ids, C.ids])
      · unfold execOp; rw [ho]; simp only [h1, hi]
        refine run_v ?_
        unfold Instr.indexAt asIntOf Instr.sureAddr
        rw [run_bind, run_pure]
        simp only
        rw [run_bind, run_underlying hu]
        simp only
        rw [run_bind, run_pure]
        simp only
        rw [run_bind, run_pure]
        simp only
        rw [run_bind, run_underlying hu]
        simp only
        rw [if_pos hs, run_bind, run_sizeOf' hT hi', hsz]
        simp only [add_none]; rfl
      · rw [List.getElem?_drop] at hj
        obtain ⟨y, hy, hr⟩ := h4 _ d hj
        exact ⟨y, by rw [← hy]; congr 1; omega, hr⟩
    · simp [hp] at he
  · cases he

end
end Go.Ax
end

section
namespace Go.Ax
open Go

theorem osub_rep {E : Pr} {B : Base} {ow : Own} {σ : Val} {st : St} {a : Act} {w : World} (h : Inv E B ow σ st a w) {id : Id} {ver k i j : Nat} {v : Value} (hc : RC w ow σ st.ob (.osub id ver k i j) v)
    {deep : Bool} {k' n : Nat} {row : Nat → List D} (ho : st.ob id = some (.sl deep k' n row ver)) {d : D} (hd : (row i)[j]? = some d) : Rep w ow ((rootTag deep id).ext i j) d v := by
  obtain ⟨rfl, b, off, cap, t, h1, h2, h3, h4, h5⟩ := (hc _ _ _ _ _ ho).2 rfl
  have hr : Rep w ow (rootTag deep id) (.sl k n row) (σ id) := h.objs id _ ho
  rcases hr.inv with ⟨rfl, _⟩ | ⟨b', off', cap', cells, et, fr, cv, g1, sb⟩
  · omega
  · rw [h1] at g1; cases g1
    rw [cell_of sb.hb, sb.hc i j d h2 hd] at h5
    cases h5
    exact sb.hr i j d h2 hd

theorem slD_len {E : Pr} {B : Base} {ow : Own} {σ : Val} {st : St} {a : Act} {w : World} (h : Inv E B ow σ st a w) {c : C} {v : Value} (hc : RC w ow σ st.ob c v)
    {k n : Nat} {row : Nat → List D} (he : slD st.ob c = some (k, n, row)) : ∃ A cap, v = .slice A n cap := by
  have rep : ∀ (t : Tag) (v : Value), Rep w ow t (.sl k n row) v → ∃ A cap, v = .slice A n cap := by
    intro t v hr
    rcases hr.inv with ⟨rfl, h1 | ⟨_, A, cap, h1⟩⟩ | ⟨b, off, cap, cells, et, fr, cv, h1, sb⟩
    · exact ⟨_, _, h1⟩
    · exact ⟨_, _, h1⟩
    · exact ⟨_, _, h1⟩
  cases c with
  | dat d =>
    cases d with
    | v x => simp [slD] at he
    | sl k' n' row' => simp only [slD, Option.some.injEq, Prod.mk.injEq] at he; obtain ⟨rfl, rfl, rfl⟩ := he; exact rep _ _ hc
  | own id =>
    simp only [slD] at he
    split at he
    · rename_i deep k' n' row' ver ho
      simp only [Option.some.injEq, Prod.mk.injEq] at he
      obtain ⟨rfl, rfl, rfl⟩ := he
      rw [hc _ _ _ _ _ ho]
      exact rep _ _ (h.objs id _ ho)
    · cases he
  | osub id ver k0 i j =>
    simp only [slD] at he
    split at he
    · rename_i deep k' n' row' ver' ho
      by_cases hv : (ver == ver') = true
      · simp only [hv, cond_true] at he
        simp only [beq_iff_eq] at hv
        subst hv
        split at he
        · rename_i k1 n1 row1 hrow
          simp only [Option.some.injEq, Prod.mk.injEq] at he
          obtain ⟨rfl, rfl, rfl⟩ := he
          exact rep _ _ (osub_rep h hc ho hrow)
        · cases he
      · simp only [Bool.not_eq_true] at hv; simp only [hv, cond_false] at he; cases he
    · cases he
  | _ => simp [slD] at he

section
variable {E : Pr} {B : Base} {ow : Own} {σ : Val} {st : St} {a : Act} {w : World} {o : Oper} (h : Inv E B ow σ st a w) (hT : TabOk E.P E.T) (hd : st.dstOk o.dst = true)
  {side : Prop} {v : V} {upd : List (Id × Option Obj)}
include h hd

theorem run_len {P : Program} {at_ : Array TypeId} {t : TypeId} {x : Value} {w : World} {d : TypeDesc} (ht : at_[0]? = some t) (hu : P.underlying t = some d) {n : Nat}
    (hx : (∃ s, d = .string ∧ x = .string s ∧ s.size = n) ∨ ∃ e A cap, d = .slice e ∧ x = .slice A n cap) (ty : TypeId) :
    (Builtin.len_ at_ ty #[x]).run P w = .ok (goInt n) w := by
  have _ := h; have _ := hd
  unfold Builtin.len_
  simp only [ht, List.getElem?_toArray, List.getElem?_cons_zero]
  rw [run_bind, run_underlying hu]
  rcases hx with ⟨s, rfl, rfl, rfl⟩ | ⟨e, A, cap, rfl, rfl⟩ <;> rfl

include hT in
theorem len_good {c : Call} {x : Operand} {t : TypeId} {n : Int} (ho : o.op = .call c) (hc : c.callee = .builtin .len) (ha : c.args = #[x]) (hat : c.argTypes[0]? = some t)
    (he : blen (E.T.kind t) st.ob (st.ev E.T x) = some n) : Good E B st a w o (.int n) [] := by
  have hx := h.ev x
  have key : ∃ m : Nat, n = m ∧ ((∃ s, E.T.kind t = .str ∧ a.eval x = .string s ∧ s.size = m) ∨ ∃ e A cap, E.T.kind t = .slice e ∧ a.eval x = .slice A m cap) := by
    unfold blen at he
    split at he
    · rename_i s hk ex
      cases he
      rw [ex] at hx
      exact ⟨s.size, rfl, .inl ⟨s, hk, hx, rfl⟩⟩
    · rename_i e A m cap hk ex
      cases he
      rw [ex] at hx
      exact ⟨m, rfl, .inr ⟨e, A, cap, hk, hx⟩⟩
    · rename_i e c h1 hk ex
      cases hsl : slD st.ob c with
      | none => simp [hsl] at he
      | some q =>
        obtain ⟨k, m, row⟩ := q
        simp only [hsl, Option.some.injEq] at he
        subst he
        rw [ex] at hx
        obtain ⟨A, cap, hA⟩ := slD_len h hx hsl
        exact ⟨m, rfl, .inr ⟨e, A, cap, hk, hA⟩⟩
    · cases he
  obtain ⟨m, rfl, hkey⟩ := key
  refine Good.pure h hd (x := goInt m) ?_ rfl (by simp [V.ids, V1.ids, C.ids])
  unfold execOp; rw [ho]
  simp only
  unfold resolve
  simp only [hc, ha]
  rw [run_bind, run_pure]
  simp only
  unfold invoke builtin
  simp only
  rw [run_bind]
  have hargs : (#[x].map a.eval) = #[a.eval x] := by simp
  rw [hargs]
  rcases hkey with ⟨s, hk, h1, h2⟩ | ⟨e, A, cap, hk, h1⟩
  · obtain ⟨_, d, ht, _, hu, hko⟩ := kind_und hT hk (by simp)
    cases d <;> simp [kindOk] at hko
    rw [run_len h hd hat hu (.inl ⟨s, rfl, h1, h2⟩)]; rfl
  · obtain ⟨_, d, ht, _, hu, hko⟩ := kind_und hT hk (by simp)
    cases d <;> simp [kindOk] at hko
    rw [run_len h hd hat hu (.inr ⟨_, A, cap, rfl, h1⟩)]; rfl

theorem maxmin_good {c : Call} {x y : Operand} {p q : Int} (mx : Bool) (ho : o.op = .call c) (hc : c.callee = .builtin (if mx then .max else .min)) (ha : c.args = #[x, y])
    (ex : st.ev E.T x = .int p) (ey : st.ev E.T y = .int q) : Good E B st a w o (.int (if mx then (if q > p then q else p) else (if q < p then q else p))) [] := by
  have hx := h.ev x
  have hy := h.ev y
  rw [ex] at hx; rw [ey] at hy
  have hx' : a.eval x = .int .i64 p := hx
  have hy' : a.eval y = .int .i64 q := hy
  refine Good.pure h hd (x := .int .i64 (if mx then (if q > p then q else p) else (if q < p then q else p))) ?_ rfl (by simp [V.ids, V1.ids, C.ids])
  unfold execOp; rw [ho]
  simp only
  unfold resolve
  simp only [hc, ha]
  rw [run_bind]
  cases mx
  · simp only [Bool.false_eq_true, if_false]
    rw [run_pure]
    simp only
    unfold invoke builtin
    simp only [List.map_toArray, List.map_cons, List.map_nil, hx', hy']
    rfl
  · simp only [if_true]
    rw [run_pure]
    simp only
    unfold invoke builtin
    simp only [List.map_toArray, List.map_cons, List.map_nil, hx', hy']
    rfl

end

theorem foldl_set (new : List Value) : ∀ (off : Nat) (k : Nat) (cs : Array Value), off + k + new.length ≤ cs.size →
    ((new.zipIdx k).foldl (fun cs (x : Value × Nat) => cs.setIfInBounds (off + x.2) x.1) cs).toList = cs.toList.take (off + k) ++ new ++ cs.toList.drop (off + k + new.length) := by
  induction new with
  | nil => intro off k cs _; simp
  | cons v new ih =>
    intro off k cs hle
    simp only [List.length_cons] at hle
    simp only [List.zipIdx_cons, List.foldl_cons]
    rw [ih off (k + 1) _ (by simp; omega)]
    simp only [Array.toList_setIfInBounds, List.length_cons]
    rw [List.drop_set_of_lt (by omega), show off + (k + 1) = off + k + 1 by omega, List.take_succ_eq_append_getElem (by simp; omega), List.take_set_of_le (by omega)]
    simp [show off + k + 1 + new.length = off + k + (new.length + 1) by omega]

theorem fill_one (v : Value) (off : Nat) (cs : Array Value) (hle : off + v.cells.size ≤ cs.size) :
    (v.cells.zipIdx.foldl (fun cs (x : Value × Nat) => cs.setIfInBounds (off + x.2) x.1) cs).toList = setAt cs.toList off v.cells.toList := by
  rw [← Array.foldl_toList, Array.toList_zipIdx, foldl_set _ _ _ _ (by simpa using hle)]
  simp [setAt]

theorem Rep.one {w : World} {ow : Own} {t : Tag} {d : D} {v : Value} (h : Rep w ow t d v) : v.oneC = true := by
  cases d with
  | v x => rw [h.v_inv]; exact h.v_one
  | sl k n row => rcases h.inv with ⟨_, rfl | ⟨_, A, cap, rfl⟩⟩ | ⟨b, off, cap, cells, et, fr, cv, rfl, _⟩ <;> rfl

theorem Rep.oneC {w : World} {ow : Own} {t : Tag} {k n : Nat} {row : Nat → List D} {v : Value} (h : Rep w ow t (.sl k n row) v) : v.oneC = true := by
  rcases h.inv with ⟨_, rfl | ⟨_, A, cap, rfl⟩⟩ | ⟨b, off, cap, cells, et, fr, cv, rfl, _⟩ <;> rfl

theorem RC.oneC {E : Pr} {B : Base} {ow : Own} {σ : Val} {st : St} {a : Act} {w : World} (h : Inv E B ow σ st a w) {c : C} {v : Value} (hc : RC w ow σ st.ob c v) (hok : c.ok st.ob = true) : v.oneC = true := by
  cases c with
  | val x => rw [show v = x from hc]; exact hok
  | dat d =>
    cases d with
    | v x => rw [Rep.v_inv hc]; exact hok
    | sl => exact Rep.oneC hc
  | own id =>
    simp only [C.ok] at hok
    split at hok
    · rename_i ho; rw [hc _ _ _ _ _ ho]; exact Rep.oneC (h.objs id _ ho)
    · cases hok
  | osub id ver k i j =>
    simp only [C.ok] at hok
    split at hok
    · rename_i ho
      simp only [Bool.and_eq_true, beq_iff_eq] at hok
      obtain ⟨rfl, h2⟩ := hok
      split at h2
      · rename_i hr; exact Rep.oneC (osub_rep h hc ho hr)
      · cases h2
    · cases hok
  | ptr id off =>
    simp only [C.ok] at hok
    split at hok
    · rename_i ho; obtain ⟨b, _, rfl⟩ := hc _ ho; rfl
    · cases hok
  | eptr id k i off =>
    simp only [C.ok] at hok
    split at hok
    · rename_i ho; obtain ⟨b, o, cap, _, _, rfl⟩ := hc _ _ _ _ _ ho; rfl
    · cases hok
  | fptr cells => obtain ⟨b, off, _, _, _, rfl, _⟩ := hc; rfl
  | fn f caps => obtain ⟨vs, rfl, _⟩ := hc; rfl
  | any => cases hok

theorem RCs.oneC {E : Pr} {B : Base} {ow : Own} {σ : Val} {st : St} {a : Act} {w : World} (h : Inv E B ow σ st a w) {cs : List C} {vs : Array Value} (hc : RCs w ow σ st.ob cs vs) (hok : cs.all (C.ok st.ob) = true) :
    vs.toList.all Value.oneC = true := by
  rw [List.all_eq_true] at hok ⊢
  intro v hv
  obtain ⟨i, hi⟩ := List.getElem?_of_mem hv
  simp only [Array.getElem?_toList] at hi
  have hlt : i < cs.length := by rw [← hc.1]; exact (Array.getElem?_eq_some_iff.1 hi).1
  obtain ⟨v', h1, h2⟩ := hc.2 i cs[i] (by simp [hlt])
  rw [hi] at h1; cases h1
  exact h2.oneC h (hok _ (List.getElem_mem hlt))

theorem cells_oneC {v : Value} (h : v.oneC = true) : v.cells = #[v] := by cases v <;> simp_all [Value.oneC, Value.cells]

theorem RV1.cellsR {E : Pr} {B : Base} {ow : Own} {σ : Val} {st : St} {a : Act} {w : World} (h0 : Inv E B ow σ st a w) {x : V1} {v : Value} (h : RV1 w ow σ st.ob x v) (hok : x.cells.all (C.ok st.ob) = true) : RCs w ow σ st.ob x.cells v.cells := by
  cases x with
  | agg cs => obtain ⟨vs, rfl, hr⟩ := h; exact hr
  | one c =>
    simp only [V1.cells, List.all_cons, List.all_nil, Bool.and_true] at hok
    rw [cells_oneC (RC.oneC h0 h hok)]
    refine ⟨rfl, fun i c' hc' => ?_⟩
    cases i with
    | zero => simp only [V1.cells, List.getElem?_cons_zero, Option.some.injEq] at hc'; subst hc'; exact ⟨v, rfl, h⟩
    | succ i => simp [V1.cells] at hc'

theorem RCs.setAt {w : World} {ow : Own} {σ : Val} {ob : Id → Option Obj} {cs new : List C} {vs nv : Array Value} (h1 : RCs w ow σ ob cs vs) (h2 : RCs w ow σ ob new nv) (off : Nat) (hle : off + new.length ≤ cs.length)
    {vs' : Array Value} (he : vs'.toList = setAt vs.toList off nv.toList) : RCs w ow σ ob (setAt cs off new) vs' := by
  obtain ⟨a1, a2⟩ := h1
  obtain ⟨b1, b2⟩ := h2
  have hl : nv.toList.length = new.length := by simpa using b1
  refine ⟨?_, fun i c hc => ?_⟩
  · rw [← Array.length_toList, he]; simp [Ax.setAt]; omega
  · rw [← Array.getElem?_toList, he]
    unfold Ax.setAt at hc ⊢
    rw [hl]
    by_cases c1 : i < off
    · rw [List.append_assoc, List.getElem?_append_left (by simp; omega), List.getElem?_take, if_pos c1] at hc
      rw [List.append_assoc, List.getElem?_append_left (by simp; omega), List.getElem?_take, if_pos c1]
      simpa using a2 i c hc
    · by_cases c2 : i < off + new.length
      · rw [List.append_assoc, List.getElem?_append_right (by simp; omega), List.getElem?_append_left (by simp; omega)] at hc
        rw [List.append_assoc, List.getElem?_append_right (by simp; omega), List.getElem?_append_left (by simp; omega)]
        simp only [List.length_take] at hc ⊢
        rw [show min off cs.length = off by omega] at hc
        rw [show min off vs.toList.length = off by simp; omega]
        simpa using b2 _ c hc
      · rw [List.getElem?_append_right (by simp; omega), List.getElem?_drop] at hc
        rw [List.getElem?_append_right (by simp; omega), List.getElem?_drop]
        simp only [List.length_append, List.length_take] at hc ⊢
        rw [show off + new.length + (i - (min off cs.length + new.length)) = i by omega] at hc
        rw [hl, show off + new.length + (i - (min off vs.toList.length + new.length)) = i by simp; omega]
        simpa using a2 i c hc

end Go.Ax
end

section
namespace Go.Ax
open Go

theorem mem_setAt {α : Type} {cs new : List α} {off : Nat} {c : α} (h : c ∈ setAt cs off new) : c ∈ cs ∨ c ∈ new := by
  unfold Ax.setAt at h
  simp only [List.mem_append] at h
  rcases h with (h | h) | h
  · exact .inl (List.mem_of_mem_take h)
  · exact .inr h
  · exact .inl (List.mem_of_mem_drop h)

theorem length_setAt {α : Type} {cs new : List α} {off : Nat} (h : off + new.length ≤ cs.length) : (setAt cs off new).length = cs.length := by
  simp [Ax.setAt]; omega

theorem partOf_inv {T : Tab} {t : Nat} {fs : List (Nat × Nat)} {objs : Id → Option Obj} {p : Nat × V} {q : Nat × List C} (h : partOf T t fs objs p = some q) :
    ∃ ft x, fs[p.1]? = some (q.1, ft) ∧ p.2 = .s x ∧ q.2 = x.cells ∧ x.cells.length = T.size ft ∧ q.1 + x.cells.length ≤ T.size t ∧ x.cells.all (C.ok objs) = true ∧ 0 < T.size ft := by
  unfold partOf at h
  split at h
  · rename_i off ft x h1 h2
    by_cases hc : ((x.cells.length == T.size ft) && decide (off + x.cells.length ≤ T.size t) && x.cells.all (C.ok objs) && decide (0 < T.size ft)) = true
    · simp only [hc, cond_true, Option.some.injEq] at h
      subst h
      simp only [Bool.and_eq_true, beq_iff_eq, decide_eq_true_eq] at hc
      exact ⟨ft, x, h1, h2, rfl, hc.1.1.1, hc.1.1.2, hc.1.2, hc.2⟩
    · simp only [Bool.not_eq_true] at hc; simp only [hc, cond_false] at h; cases h
  · cases h

theorem run_mapM {P : Program} {α β : Type} {f : α → Sem β} {g : α → β} {w : World} : ∀ (l : List α), (∀ x ∈ l, (f x).run P w = .ok (g x) w) → (l.mapM f).run P w = .ok (l.map g) w := by
  intro l
  induction l with
  | nil => intro _; rfl
  | cons x l ih =>
    intro h
    rw [List.mapM_cons, run_bind, h x (by simp)]
    simp only
    rw [run_bind, ih (fun y hy => h y (by simp [hy]))]
    rfl

section
variable {E : Pr} {B : Base} {ow : Own} {σ : Val} {st : St} {a : Act} {w : World} {o : Oper} (h : Inv E B ow σ st a w) (hT : TabOk E.P E.T) (hd : st.dstOk o.dst = true)
  {side : Prop} {v : V} {upd : List (Id × Option Obj)}
include h

theorem fill_good {t : Nat} {fs : List (Nat × Nat)} (place : Nat → Option (Nat × Nat)) (hpl : ∀ i off ft, fs[i]? = some (off, ft) → 0 < E.T.size ft → place i = some (off, E.T.size ft)) :
    ∀ (ps : List (Nat × Operand)) (l : List (Nat × List C)) (cells : Array Value) (cs : List C), partsOf E.T t fs st.ob (ps.map fun p => (p.1, st.ev E.T p.2)) = some l → RCs w ow σ st.ob cs cells → cs.length = E.T.size t →
      (∀ id, id ∈ cs.flatMap C.ids → st.objs id ≠ none) →
      ∃ cells', Instr.fill place cells (ps.map fun p => (p.1, a.eval p.2)) = some cells' ∧ RCs w ow σ st.ob (fillC cs l) cells' ∧ ∀ id, id ∈ (fillC cs l).flatMap C.ids → st.objs id ≠ none := by
  intro ps
  induction ps with
  | nil => intro l cells cs hl hr hlen hid; simp [partsOf] at hl; subst hl; exact ⟨cells, rfl, hr, hid⟩
  | cons p ps ih =>
    intro l cells cs hl hr hlen hid
    simp only [List.map_cons, partsOf] at hl
    cases hp : partOf E.T t fs st.ob (p.1, st.ev E.T p.2) with
    | none => simp [hp] at hl
    | some q =>
      cases hps : partsOf E.T t fs st.ob (ps.map fun p => (p.1, st.ev E.T p.2)) with
      | none => simp [hp, hps] at hl
      | some l' =>
        simp only [hp, hps, Option.some.injEq] at hl
        subst hl
        obtain ⟨off, cs1⟩ := q
        obtain ⟨ft, x, h1, h2, h3, h4, h5, h6, h7⟩ := partOf_inv hp
        simp only at h1 h2 h3 h4 h5
        subst h3
        have hx := h.ev p.2
        have hxid := h.evid p.2
        rw [h2] at hx hxid
        have hc := RV1.cellsR h hx h6
        have hsz : (a.eval p.2).cells.size = E.T.size ft := by rw [hc.1, h4]
        have hle : off + (a.eval p.2).cells.size ≤ cells.size := by rw [hr.1, hsz, hlen]; omega
        obtain ⟨cells', g1, g2, g3⟩ := ih l' _ (setAt cs off x.cells) hps (hr.setAt hc off (by omega) (fill_one _ _ _ hle)) (by rw [length_setAt (by omega)]; exact hlen)
          (fun id hid' => by
            simp only [List.mem_flatMap] at hid'
            obtain ⟨c, hc1, hc2⟩ := hid'
            rcases mem_setAt hc1 with hm | hm
            · exact hid id (List.mem_flatMap.2 ⟨c, hm, hc2⟩)
            · refine hxid id ?_
              cases x with
              | one c' => simp only [V1.cells, List.mem_singleton] at hm; subst hm; exact hc2
              | agg cs' => exact List.mem_flatMap.2 ⟨c, hm, hc2⟩)
        refine ⟨cells', ?_, g2, g3⟩
        simp only [List.map_cons, Instr.fill]
        rw [hpl _ _ _ h1 h7]
        simp only
        rw [if_neg (by simp; omega)]
        exact g1

include hT hd in
theorem build_good {t : Nat} {ps : Array (Nat × Operand)} (ho : o.op = .build t ps) (he : build E.T t st.ob (ps.toList.map fun p => (p.1, st.ev E.T p.2)) = .det side v upd) : Good E B st a w o v upd := by
  unfold build at he
  split at he
  · rename_i fs hk
    by_cases hz : (((E.T.zero t).length == E.T.size t) && fs.all (fun q => decide (0 < E.T.size q.2))) = true
    · simp only [hz, cond_true] at he
      simp only [Bool.and_eq_true, beq_iff_eq, List.all_eq_true, decide_eq_true_eq] at hz
      obtain ⟨hz, hall⟩ := hz
      cases hl : partsOf E.T t fs st.ob (ps.toList.map fun p => (p.1, st.ev E.T p.2)) with
      | none => simp [hl] at he
      | some l =>
        simp only [hl, Ev.det.injEq] at he
        obtain ⟨_, rfl, rfl⟩ := he
        obtain ⟨i, d, ht, _, hu, hko⟩ := kind_und hT hk (by simp)
        cases d <;> simp [kindOk] at hko
        rename_i fields
        obtain ⟨info, hi1, hi2, _, z, hz1, hz2⟩ := (hT t i ht).info
        have hzero : z.cells.toList = E.T.zero t := by rw [hz2]; simp [Tab.zero, ht]
        have hr0 : RCs w ow σ st.ob ((E.T.zero t).map .val) z.cells := by
          rw [← hzero]
          refine ⟨by simp, fun i c hc => ?_⟩
          simp only [List.getElem?_map, Array.getElem?_toList, Option.map_eq_some_iff] at hc
          obtain ⟨x, hx, rfl⟩ := hc
          exact ⟨x, hx, rfl⟩
        have hmap : ∀ w, (fields.mapM fun f => (do let s ← sizeOf f.type; Pure.pure (f.offset, s) : Sem (Nat × Nat))).run E.P w = .ok (fields.map fun f => (f.offset, E.T.size f.type)) w := by
          intro w
          rw [Array.mapM_eq_mapM_toList, map_eq_pure_bind, run_bind, run_mapM (g := fun f => (f.offset, E.T.size f.type)) fields.toList (fun f hf => ?_)]
          · simp only [run_pure]
            congr 1
            apply Array.ext'
            simp
          · have hm : (f.offset, f.type) ∈ fs := by rw [← hko]; exact List.mem_map.2 ⟨f, hf, rfl⟩
            obtain ⟨i', hi', hsz⟩ := size_pos (hall _ hm)
            rw [run_bind, run_sizeOf' hT hi', hsz]; rfl
        have hpl : ∀ (i off ft : Nat), fs[i]? = some (off, ft) → 0 < E.T.size ft → (fields.map fun f => (f.offset, E.T.size f.type))[i]? = some (off, E.T.size ft) := by
          intro i off ft h1 _
          rw [← hko] at h1
          simp only [List.getElem?_map, Array.getElem?_toList, Option.map_eq_some_iff, Prod.mk.injEq] at h1
          obtain ⟨f, hf, rfl, rfl⟩ := h1
          simp [hf]
        obtain ⟨cells', g1, g2, g3⟩ := fill_good h _ hpl ps.toList l z.cells _ hl hr0 (by simpa using hz) (by simp [List.mem_flatMap, C.ids])
        refine Good.pure h hd (x := .agg cells') ?_ ⟨cells', rfl, g2⟩ (by simpa [V.ids, V1.ids] using g3)
        unfold execOp; rw [ho]
        simp only
        refine run_v ?_
        unfold Instr.build
        rw [run_bind, run_zeroValue hi1 hz1]
        simp only
        rw [run_bind, run_underlying hu]
        simp only
        rw [run_bind, hmap]
        simp only [Array.toList_map]
        rw [g1]; rfl
    · simp only [Bool.not_eq_true] at hz; simp only [hz, cond_false] at he; cases he
  · cases he

end
end Go.Ax
end
