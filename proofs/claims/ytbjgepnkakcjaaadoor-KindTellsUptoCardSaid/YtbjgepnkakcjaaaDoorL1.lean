/-
  LIFT, 1: abstract values, the abstract store, and the evaluator of operations: plain definitions (no proof about the machine here).
-/
import Derived.CallsIn
import Derived.OrdersIn
namespace Go.Proofs.YtbjgepnkakcjaaaDoor.Lift
open Go

/-- Abstract values. 'sl': a slice by value (frozen); 'rp': a pointer into something frozen; 'ptr', 'sr', 'mr': into the abstract store. -/
inductive AV where
  | undef
  | bool (b : Bool)
  | int (k : IntKind) (n : Int)
  | str (s : List UInt8)
  | nilp
  | ptr (b g i off : Nat)
  | rp (x : AV) (off : Nat)
  | snil
  | sl (xs : List AV)
  | sr (b g off len : Nat)
  | fn (f : Fn) (first cap : List AV)
  | nilf
  | nilm
  | mv (es : List (AV × AV))
  | mr (b : Nat)
  | agg (cs : List AV)
  | tup (vs : List AV)
  deriving Inhabited

/-- A block of the store: a row of elements (sz cells each; g: its generation; the first lo elements are frozen), or a map. -/
inductive ABlk where
  | row (sz g lo : Nat) (xs : List AV)
  | map (es : List (AV × AV))
  deriving Inhabited

@[simp] def ABlk.gen : ABlk → Nat
  | .row _ g _ _ => g
  | .map _ => 0
@[simp] def ABlk.sz : ABlk → Option Nat
  | .row s _ _ _ => some s
  | .map _ => none

abbrev Sto := List ABlk

@[simp] def AV.cells : AV → List AV
  | .agg cs => cs
  | v => [v]
@[simp] def AV.isAgg : AV → Bool
  | .agg _ => true
  | _ => false

/-- the value of one cell -/
@[simp] def AV.scal : AV → Bool
  | .undef | .agg _ | .tup _ => false
  | _ => true
/-- a value all of whose cells are known -/
@[simp] def AV.whole (v : AV) : Bool := v.cells.all AV.scal

/-- What the evaluator knows of a type. -/
inductive TD where
  | int (k : IntKind) | bool | str | ptr (e : Nat) | slice (e : Nat) | array (n e : Nat) | map (k e : Nat) | struct (fs : List (Nat × Nat)) | func | other
  deriving DecidableEq, Inhabited
structure TI where
  d : TD
  size : Nat
  zero : List AV
  bytes : Nat
  eq : Option (List TD) := none
  deriving Inhabited
@[simp] def TI.agg (t : TI) : Bool := match t.d with | .struct _ => true | .array _ _ => true | _ => false

abbrev Spec := List AV → Sto → Option (AV × Sto)
abbrev Env := List (Nat × Spec)
structure Cfg where
  T : Nat → Option TI
  E : Env
  G : Nat → Option AV

@[simp] def Env.look : Env → Nat → Option Spec
  | [], _ => none
  | (k, s) :: r, n => if k = n then some s else Env.look r n

structure ASt where
  n : Nat
  fr : Nat → AV
  st : Sto

def upd (f : Nat → AV) (k : Nat) (v : AV) : Nat → AV := fun j => if j = k then v else f j
@[simp] theorem upd_apply (f : Nat → AV) (k : Nat) (v : AV) (j : Nat) : upd f k v j = if j = k then v else f j := rfl

/-- a constant of the program's text -/
@[simp] def ofConst : Value → AV
  | .bool b => .bool b
  | .int k n => .int k n
  | .string s => .str s.data.toList
  | .pointer none => .nilp
  | .slice none 0 0 => .snil
  | .nilFunc => .nilf
  | .map none => .nilm
  | _ => .undef

@[simp] def ASt.ev (X : Cfg) (s : ASt) : Operand → AV
  | .tmp t => s.fr t
  | .const v => ofConst v
  | .func f => .fn (.func f) [] []
  | .global g => match X.G g with | some v => .rp v 0 | none => .undef

@[simp] def ASt.put (s : ASt) : Option Nat → AV → Option ASt
  | some d, v => if d < s.n then some { s with fr := upd s.fr d v } else none
  | none, _ => some s

/-- a value out of its cells -/
@[simp] def mkv : Bool → List AV → AV
  | true, cs => .agg cs
  | false, [c] => c
  | false, _ => .undef

/-- a part of a value: `ti`'s size cells from `off` -/
@[simp] def part (ti : TI) (x : AV) (off : Nat) : Option AV :=
  if off = 0 ∧ x.isAgg = true ∧ ti.agg = true ∧ x.cells.length = ti.size then some x
  else if ti.agg = true then (if off + ti.size ≤ x.cells.length then some (.agg ((x.cells.drop off).take ti.size)) else none)
  else x.cells[off]?

@[simp] def splice (cs : List AV) (off : Nat) (vs : List AV) : List AV := cs.take off ++ vs ++ cs.drop (off + vs.length)

@[simp] def setPart (x : AV) (off : Nat) (v : AV) : Option AV :=
  match x with
  | .agg cs => if off + v.cells.length ≤ cs.length then some (.agg (splice cs off v.cells)) else none
  | _ => match v with
    | .agg _ => none
    | v => if off = 0 then some v else none

def loadAt (ti : TI) (st : Sto) : AV → Option AV
  | .rp x off => part ti x off
  | .ptr b g i off => match st[b]? with
    | some (.row _ g' _ xs) => if g = g' then (match xs[i]? with | some x => part ti x off | none => none) else none
    | _ => none
  | _ => none

def storeAt (ti : TI) (st : Sto) (p v : AV) : Option Sto :=
  match p with
  | .ptr b g i off => match st[b]? with
    | some (.row sz g' lo xs) =>
      if g = g' ∧ lo ≤ i ∧ v.cells.length = ti.size ∧ v.whole = true then
        (match xs[i]? with
         | some x => (match setPart x off v with | some x' => some (st.set b (.row sz g' lo (xs.set i x'))) | none => none)
         | none => none)
      else none
    | _ => none
  | _ => none

/-- the elements of a slice, frozen or in the store -/
def elemsOf (st : Sto) : AV → Option (List AV)
  | .sl xs => some xs
  | .snil => some []
  | .sr b g off len => match st[b]? with
    | some (.row _ g' _ xs) => if g = g' ∧ off + len ≤ xs.length then some ((xs.drop off).take len) else none
    | _ => none
  | _ => none

def lenOf (st : Sto) : AV → Option Nat
  | .sl xs => some xs.length
  | .snil => some 0
  | .sr _ _ _ len => some len
  | .str s => some s.length
  | .nilm => some 0
  | .mv es => some es.length
  | .mr b => match st[b]? with | some (.map es) => some es.length | _ => none
  | _ => none

/-! frozen values, and how a value is read as one -/
mutual
def fz : AV → Bool
  | .undef => false
  | .ptr .. | .sr .. | .mr _ => false
  | .bool _ | .int .. | .str _ | .nilp | .nilf | .nilm => true
  | .snil => false
  | .rp x _ => fz x
  | .sl xs => fzL xs
  | .fn _ a b => fzL a && fzL b
  | .mv es => fzE es
  | .agg cs => fzL cs
  | .tup vs => fzL vs
def fzL : List AV → Bool
  | [] => true
  | x :: r => fz x && fzL r
def fzE : List (AV × AV) → Bool
  | [] => true
  | (k, v) :: r => fz k && fz v && fzE r
end

mutual
/-- no memory at all behind it -/
def flat : AV → Bool
  | .bool _ | .int .. | .str _ | .nilp | .nilf | .nilm | .snil => true
  | .agg cs => flatL cs
  | .tup vs => flatL vs
  | _ => false
def flatL : List AV → Bool
  | [] => true
  | x :: r => flat x && flatL r
end

/-- map, where each has an image -/
@[simp] def mapO {α β : Type} (f : α → Option β) : List α → Option (List β)
  | [] => some []
  | x :: r => match f x, mapO f r with
    | some a, some b => some (a :: b)
    | _, _ => none

/-- one level of reading a value as a frozen one -/
def peek1 (st : Sto) (f : AV → Option AV) : AV → Option AV
  | .snil => some (.sl [])
  | .sl xs => (mapO f xs).map .sl
  | .sr b g off len => match st[b]? with
    | some (.row _ g' _ xs) => if g = g' ∧ off + len ≤ xs.length then (mapO f ((xs.drop off).take len)).map .sl else none
    | _ => none
  | .ptr b g i off => match st[b]? with
    | some (.row _ g' _ xs) => if g = g' then (match xs[i]? with | some x => (f x).map (.rp · off) | none => none) else none
    | _ => none
  | .mr b => match st[b]? with
    | some (.map es) => if fzE es then some (.mv es) else none
    | _ => none
  | .fn g a b => match mapO f a, mapO f b with
    | some a', some b' => some (.fn g a' b')
    | _, _ => none
  | .agg cs => (mapO f cs).map .agg
  | .tup vs => (mapO f vs).map .tup
  | _ => none
/-- a value as a frozen one, read in the store (d: how deep at most) -/
def peek (st : Sto) : Nat → AV → Option AV
  | 0, v => if fz v then some v else none
  | d + 1, v => if fz v then some v else peek1 st (peek st d) v
/-- a list of values as frozen ones -/
def peekL (st : Sto) (d : Nat) (l : List AV) : Option (List AV) := if fzL l then some l else mapO (peek st d) l
end Go.Proofs.YtbjgepnkakcjaaaDoor.Lift
