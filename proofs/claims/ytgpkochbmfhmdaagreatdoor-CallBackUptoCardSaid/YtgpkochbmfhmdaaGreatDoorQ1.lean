/-
  LIFT, 1: abstract values, the abstract store, and the evaluator of operations: plain definitions (no proof about the machine here).
  LIFT, 2: the evaluator of operations and of regions (plain definitions).
  LIFT, 3: how abstract values and the abstract store lie in the machine's memory; what may change; what stays.
  LIFT, 4: new blocks, stores into a block, appends: the store's own steps, in memory.
  LIFT, 5: what the evaluator knows of the program's types is so; loads and stores.
-/
import Derived.CallsIn
import Derived.OrdersIn
import Derived.WalkKit
namespace Go.Proofs.YtgpkochbmfhmdaaGreatDoor.Lift
open Go

/-- Abstract values. 'sl': a slice by value (frozen); 'snil', 'sle': the nil one, and an empty one that is not nil; 'rp': a pointer into something frozen; 'ptr', 'sr', 'mr': into the abstract store. -/
inductive AV where
  | undef
  | bool (b : Bool)
  | int (k : IntKind) (n : Int)
  | str (s : List UInt8)
  | nilp
  | ptr (b g i off : Nat)
  | rp (x : AV) (off : Nat)
  | snil
  | sle
  | sl (xs : List AV)
  | sr (b g off len : Nat)
  | fn (f : Fn) (first cap : List AV)
  | nilf
  | nilm
  | mv (es : List (AV × AV))
  | mr (b : Nat)
  | agg (cs : List AV)
  | tup (vs : List AV)
  deriving Inhabited

/-- A block of the store: a row of elements (sz cells each; g: its generation; the first lo elements are frozen), or a map; or (no block of memory) how many rounds there were; or what a range over a text stands at. -/
inductive ABlk where
  | row (sz g lo : Nat) (xs : List AV)
  | map (es : List (AV × AV))
  | tick (n : Nat)
  | dead (sz g : Nat)
  | iter (s : List UInt8) (i : Nat)
  deriving Inhabited

@[simp] def ABlk.gen : ABlk → Nat
  | .row _ g _ _ => g
  | .map _ => 1
  | .tick _ => 0
  | .dead _ g => g
  | .iter .. => 0
@[simp] def ABlk.sz : ABlk → Option Nat
  | .row s _ _ _ => some s
  | .map _ => none
  | .tick _ => none
  | .dead s _ => some s
  | .iter .. => some 0
/-- is it the ghost's own? (a dead one was handed over) -/
@[simp] def ABlk.live : ABlk → Bool
  | .dead .. => false
  | _ => true

abbrev Sto := List ABlk

@[simp] def AV.cells : AV → List AV
  | .agg cs => cs
  | v => [v]
@[simp] def AV.isAgg : AV → Bool
  | .agg _ => true
  | _ => false

/-- the value of one cell -/
@[simp] def AV.scal : AV → Bool
  | .undef | .agg _ | .tup _ => false
  | _ => true
/-- a value all of whose cells are known -/
@[simp] def AV.whole (v : AV) : Bool := v.cells.all AV.scal

/-- What the evaluator knows of a type. -/
inductive TD where
  | int (k : IntKind) | bool | str | ptr (e : Nat) | slice (e : Nat) | array (n e : Nat) | map (k e : Nat) | struct (fs : List (Nat × Nat)) | func | other
  deriving DecidableEq, Inhabited
structure TI where
  d : TD
  size : Nat
  zero : List AV
  bytes : Nat
  eq : Option (List TD) := none
  deriving Inhabited
@[simp] def TI.agg (t : TI) : Bool := match t.d with | .struct _ => true | .array _ _ => true | _ => false

abbrev Spec := List AV → Sto → Option (AV × Sto)
abbrev Env := List (Nat × Spec)
/-- what is said of a foreign state -/
abbrev Foe := Nat → World → (Nat → Prop) → (Nat → Nat → Prop) → (Nat → Prop) → Prop
def noFoe : Foe := fun _ _ _ _ _ => True
structure Cfg where
  T : Nat → Option TI
  E : Env
  G : Nat → Option AV
  /-- the composite slices that are frozen at once (by the place that they are put to) -/
  B : List Nat := []
  /-- where (in a region that draws) a new block lies: places and blocks that were set aside -/
  A : List (Nat × Nat) := []
  /-- may the walk be within a round? the yields; what is said of the foreign state -/
  rd : Bool := false
  Y : Env := []
  J : Foe := noFoe

@[simp] def Env.look : Env → Nat → Option Spec
  | [], _ => none
  | (k, s) :: r, n => if k = n then some s else Env.look r n

/-- is a composite slice frozen at once? -/
@[simp] def frozenAt (B : List Nat) : Option Nat → Bool
  | some d => B.contains d
  | none => false
/-- a block that was set aside for a place -/
def resAt (A : List (Nat × Nat)) : Option Nat → Option Nat
  | some d => A.lookup d
  | none => none
@[simp] theorem resAt_nil (d : Option Nat) : resAt [] d = none := by cases d <;> rfl
@[simp] theorem resAt_some (A : List (Nat × Nat)) (d : Nat) : resAt A (some d) = A.lookup d := rfl
structure ASt where
  n : Nat
  fr : Nat → AV
  st : Sto

def upd (f : Nat → AV) (k : Nat) (v : AV) : Nat → AV := fun j => if j = k then v else f j
@[simp] theorem upd_apply (f : Nat → AV) (k : Nat) (v : AV) (j : Nat) : upd f k v j = if j = k then v else f j := rfl

/-- a constant of the program's text -/
@[simp] def ofConst : Value → AV
  | .bool b => .bool b
  | .int k n => .int k n
  | .string s => .str s.data.toList
  | .pointer none => .nilp
  | .slice none 0 0 => .snil
  | .nilFunc => .nilf
  | .map none => .nilm
  | _ => .undef

@[simp] def ASt.ev (X : Cfg) (s : ASt) : Operand → AV
  | .tmp t => s.fr t
  | .const v => ofConst v
  | .func f => .fn (.func f) [] []
  | .global g => match X.G g with | some v => .rp v 0 | none => .undef

@[simp] def ASt.put (s : ASt) : Option Nat → AV → Option ASt
  | some d, v => if d < s.n then some { s with fr := upd s.fr d v } else none
  | none, _ => some s

/-- a value out of its cells -/
@[simp] def mkv : Bool → List AV → AV
  | true, cs => .agg cs
  | false, [c] => c
  | false, _ => .undef

/-- cells, as so many elements of so many cells -/
def chunks (agg : Bool) (sz : Nat) : Nat → List AV → List AV
  | 0, _ => []
  | n + 1, cs => mkv agg (cs.take sz) :: chunks agg sz n (cs.drop sz)

/-- a part of a value: `ti`'s size cells from `off` -/
@[simp] def part (ti : TI) (x : AV) (off : Nat) : Option AV :=
  if off = 0 ∧ x.isAgg = true ∧ ti.agg = true ∧ x.cells.length = ti.size then some x
  else if ti.agg = true then (if off + ti.size ≤ x.cells.length then some (.agg ((x.cells.drop off).take ti.size)) else none)
  else x.cells[off]?

@[simp] def splice (cs : List AV) (off : Nat) (vs : List AV) : List AV := cs.take off ++ vs ++ cs.drop (off + vs.length)

@[simp] def setPart (x : AV) (off : Nat) (v : AV) : Option AV :=
  match x with
  | .agg cs => if off + v.cells.length ≤ cs.length then some (.agg (splice cs off v.cells)) else none
  | _ => match v with
    | .agg _ => none
    | v => if off = 0 then some v else none

def loadAt (ti : TI) (st : Sto) : AV → Option AV
  | .rp x off => part ti x off
  | .ptr b g i off => match st[b]? with
    | some (.row _ g' _ xs) => if g = g' then (match xs[i]? with | some x => part ti x off | none => none) else none
    | _ => none
  | _ => none

def storeAt (ti : TI) (st : Sto) (p v : AV) : Option Sto :=
  match p with
  | .ptr b g i off => match st[b]? with
    | some (.row sz g' lo xs) =>
      if g = g' ∧ lo ≤ i ∧ v.cells.length = ti.size ∧ v.whole = true then
        (match xs[i]? with
         | some x => (match setPart x off v with | some x' => some (st.set b (.row sz g' lo (xs.set i x'))) | none => none)
         | none => none)
      else none
    | _ => none
  | _ => none

/-- the elements of a slice, frozen or in the store -/
def elemsOf (st : Sto) : AV → Option (List AV)
  | .sl xs => some xs
  | .snil => some []
  | .sle => some []
  | .sr b g off len => match st[b]? with
    | some (.row _ g' _ xs) => if g = g' ∧ off + len ≤ xs.length then some ((xs.drop off).take len) else none
    | _ => none
  | _ => none

def lenOf (st : Sto) : AV → Option Nat
  | .sl xs => some xs.length
  | .snil => some 0
  | .sle => some 0
  | .sr _ _ _ len => some len
  | .str s => some s.length
  | .nilm => some 0
  | .mv es => some es.length
  | .mr b => match st[b]? with | some (.map es) => some es.length | _ => none
  | _ => none

/-! frozen values, and how a value is read as one -/
mutual
def fz : AV → Bool
  | .undef => false
  | .ptr .. | .sr .. | .mr _ => false
  | .bool _ | .int .. | .str _ | .nilp | .nilf | .nilm | .sle => true
  | .snil => false
  | .rp x _ => fz x
  | .sl xs => fzL xs
  | .fn _ a b => fzL a && fzL b
  | .mv es => fzE es
  | .agg cs => fzL cs
  | .tup vs => fzL vs
def fzL : List AV → Bool
  | [] => true
  | x :: r => fz x && fzL r
def fzE : List (AV × AV) → Bool
  | [] => true
  | (k, v) :: r => fz k && fz v && fzE r
end

mutual
/-- no memory at all behind it -/
def flat : AV → Bool
  | .bool _ | .int .. | .str _ | .nilp | .nilf | .nilm | .snil | .sle => true
  | .agg cs => flatL cs
  | .tup vs => flatL vs
  | _ => false
def flatL : List AV → Bool
  | [] => true
  | x :: r => flat x && flatL r
end

/-- map, where each has an image -/
@[simp] def mapO {α β : Type} (f : α → Option β) : List α → Option (List β)
  | [] => some []
  | x :: r => match f x, mapO f r with
    | some a, some b => some (a :: b)
    | _, _ => none

/-- one level of reading a value as a frozen one -/
def peek1 (st : Sto) (f : AV → Option AV) : AV → Option AV
  | .snil => some (.sl [])
  | .sl xs => (mapO f xs).map .sl
  | .sr b g off len => match st[b]? with
    | some (.row _ g' _ xs) => if g = g' ∧ off + len ≤ xs.length then (mapO f ((xs.drop off).take len)).map .sl else none
    | _ => none
  | .ptr b g i off => match st[b]? with
    | some (.row _ g' _ xs) => if g = g' then (match xs[i]? with | some x => (f x).map (.rp · off) | none => none) else none
    | _ => none
  | .fn g a b => match mapO f a, mapO f b with
    | some a', some b' => some (.fn g a' b')
    | _, _ => none
  | .agg cs => (mapO f cs).map .agg
  | .tup vs => (mapO f vs).map .tup
  | _ => none
/-- a value as a frozen one, read in the store (d: how deep at most) -/
def peek (st : Sto) : Nat → AV → Option AV
  | 0, v => if fz v then some v else none
  | d + 1, v => if fz v then some v else peek1 st (peek st d) v
/-- a list of values as frozen ones -/
def peekL (st : Sto) (d : Nat) (l : List AV) : Option (List AV) := if fzL l then some l else mapO (peek st d) l
end Go.Proofs.YtgpkochbmfhmdaaGreatDoor.Lift
namespace Go.Proofs.YtgpkochbmfhmdaaGreatDoor.Lift
open Go

/-- '==' of values whose cells are of these kinds -/
@[simp] def eqv1 : TD → AV → AV → Option Bool
  | .int k, .int j a, .int j' b => if j = k ∧ j' = k then some (decide (a = b)) else none
  | .bool, .bool a, .bool b => some (decide (a = b))
  | .str, .str a, .str b => some (decide (a = b))
  | _, _, _ => none
@[simp] def eqvs : List TD → List AV → List AV → Option Bool
  | [], [], [] => some true
  | k :: ks, x :: xs, y :: ys => match eqv1 k x y, eqvs ks xs ys with
    | some a, some b => some (a && b)
    | _, _ => none
  | _, _, _ => none

/-- '==' -/
@[simp] def eqv (ti : TI) (x y : AV) : Option Bool :=
  match ti.eq with
  | some ks => if x.isAgg = ti.agg ∧ y.isAgg = ti.agg then eqvs ks x.cells y.cells else none
  | none => match ti.d, x, y with
    | .slice _, .snil, .snil => some true
    | .slice _, .sle, .snil => some false
    | .slice _, .sl (_ :: _), .snil => some false
    | .slice _, .sr _ _ _ (_ + 1), .snil => some false
    | .ptr _, .nilp, .nilp => some true
    | .ptr _, .nilp, .ptr .. => some false
    | .ptr _, .ptr .., .nilp => some false
    | .ptr _, .nilp, .rp .. => some false
    | .ptr _, .rp .., .nilp => some false
    | .func, .nilf, .nilf => some true
    | .func, .nilf, .fn .. => some false
    | .func, .fn .., .nilf => some false
    | _, _, _ => none

@[simp] def evBin (op : BinOp) (ti : TI) (x y : AV) : Option AV :=
  match op, x, y with
  | .shl, .int k a, .int _ b => if 0 ≤ b then some (.int k (k.wrap (a * 2 ^ (min b.toNat k.bits)))) else none
  | .shr, .int k a, .int _ b => if 0 ≤ b then some (.int k (a.fdiv (2 ^ (min b.toNat k.bits)))) else none
  | .add, .int k a, .int k' b => if k = k' then some (.int k (k.wrap (a + b))) else none
  | .sub, .int k a, .int k' b => if k = k' then some (.int k (k.wrap (a - b))) else none
  | .mul, .int k a, .int k' b => if k = k' then some (.int k (k.wrap (a * b))) else none
  | .quo, .int k a, .int k' b => if k = k' ∧ b ≠ 0 then some (.int k (k.wrap (a.tdiv b))) else none
  | .rem, .int k a, .int k' b => if k = k' ∧ b ≠ 0 then some (.int k (a.tmod b)) else none
  | .and, .int k a, .int k' b => if k = k' then some (.int k (k.wrap (BitVec.ofInt k.bits a &&& BitVec.ofInt k.bits b).toNat)) else none
  | .or, .int k a, .int k' b => if k = k' then some (.int k (k.wrap (BitVec.ofInt k.bits a ||| BitVec.ofInt k.bits b).toNat)) else none
  | .xor, .int k a, .int k' b => if k = k' then some (.int k (k.wrap (BitVec.ofInt k.bits a ^^^ BitVec.ofInt k.bits b).toNat)) else none
  | .andNot, .int k a, .int k' b => if k = k' then some (.int k (k.wrap (BitVec.ofInt k.bits a &&& ~~~ (BitVec.ofInt k.bits b)).toNat)) else none
  | .lss, .int k a, .int k' b => if k = k' then some (.bool (decide (a < b))) else none
  | .leq, .int k a, .int k' b => if k = k' then some (.bool (decide (a ≤ b))) else none
  | .gtr, .int k a, .int k' b => if k = k' then some (.bool (decide (b < a))) else none
  | .geq, .int k a, .int k' b => if k = k' then some (.bool (decide (b ≤ a))) else none
  | .add, .str a, .str b => if a.length + b.length ≤ 4611686018427387904 then some (.str (a ++ b)) else none
  | .lss, .str a, .str b => some (.bool (Op.bytesLess a b))
  | .eql, x, y => (eqv ti x y).map .bool
  | .neq, x, y => (eqv ti x y).map fun b => .bool (!b)
  | _, _, _ => none

@[simp] def evUn (op : UnOp) (x : AV) : Option AV :=
  match op, x with
  | .neg, .int k n => some (.int k (k.wrap (0 - n)))
  | .not, .bool b => some (.bool (!b))
  | _, _ => none

/-- bytes of a frozen slice -/
@[simp] def bytesOf : List AV → Option (List UInt8)
  | [] => some []
  | .int .u8 n :: r => (bytesOf r).map (UInt8.ofNat n.toNat :: ·)
  | _ => none

@[simp] def optIdx : Option AV → Nat → Option Nat
  | none, d => some d
  | some (.int _ n), _ => if 0 ≤ n then some n.toNat else none
  | some _, _ => none

@[simp] def keyEq : AV → AV → Option Bool
  | .int k a, .int k' b => if k = k' then some (decide (a = b)) else none
  | .str a, .str b => some (decide (a = b))
  | .bool a, .bool b => some (decide (a = b))
  | _, _ => none
/-- a map's entry -/
@[simp] def mget : List (AV × AV) → AV → Option (Option AV)
  | [], _ => some none
  | (k, v) :: r, x => match keyEq k x with
    | some true => some (some v)
    | some false => mget r x
    | none => none
@[simp] def mset : List (AV × AV) → AV → AV → Option (List (AV × AV))
  | [], x, v => some [(x, v)]
  | (k, u) :: r, x, v => match keyEq k x with
    | some true => some ((k, v) :: r)
    | some false => (mset r x v).map ((k, u) :: ·)
    | none => none
def entsOf (st : Sto) : AV → Option (List (AV × AV))
  | .nilm => some []
  | .mv es => some es
  | .mr b => match st[b]? with | some (.map es) => some es | _ => none
  | _ => none

@[simp] def isKey : AV → Bool
  | .int .. | .str _ | .bool _ => true
  | _ => false

@[simp] def keyTD : TD → AV → Bool
  | .int k, .int j _ => decide (j = k)
  | .str, .str _ => true
  | .bool, .bool _ => true
  | _, _ => false

/-- the parts of a composite literal, laid over zero cells -/
@[simp] def fillParts (place : Nat → Option (Nat × Nat)) (cells : List AV) : List (Nat × AV) → Option (List AV)
  | [] => some cells
  | (i, v) :: r => match place i with
    | some (off, size) => if v.cells.length = size ∧ off + size ≤ cells.length then fillParts place (splice cells off v.cells) r else none
    | none => none

/-- append: the bound on its bytes -/
@[simp] def appendTo (esz bytes : Nat) (st : Sto) (x : AV) (ys : List AV) : Option (AV × Sto) :=
  match x with
  | .snil => if 0 < bytes ∧ ys.length * bytes ≤ 140737488355328 ∧ ys.all (fun y => decide (y.cells.length = esz ∧ y.whole = true)) = true then some (.sr st.length 0 0 ys.length, st ++ [.row esz 0 0 ys]) else none
  | .sr b g off len => match st[b]? with
    | some (.row sz g' lo xs) =>
      if 0 < bytes ∧ g = g' ∧ off = 0 ∧ lo ≤ len ∧ len ≤ xs.length ∧ sz = esz ∧ (len + ys.length) * bytes ≤ 140737488355328 ∧ ys.all (fun y => decide (y.cells.length = esz ∧ y.whole = true)) = true then
        some (.sr b (g + 1) 0 (len + ys.length), st.set b (.row sz (g + 1) lo (xs.take len ++ ys)))
      else none
    | _ => none
  | _ => none

@[simp] def lenTD : TD → AV → Bool
  | .str, .str _ => true
  | .slice _, .sl _ => true
  | .slice _, .snil => true
  | .slice _, .sle => true
  | .slice _, .sr .. => true
  | .map .., .nilm => true
  | .map .., .mv _ => true
  | .map .., .mr _ => true
  | _, _ => false

@[simp] def evBuiltin (X : Cfg) (st : Sto) (b : Builtin) (argTypes : List Nat) (args : List AV) : Option (AV × Sto) :=
  match b, argTypes, args with
  | .len, [t], [x] => match X.T t with
    | some ti => if lenTD ti.d x = true then (lenOf st x).map fun n => (.int .i64 n, st) else none
    | none => none
  | .append, [t, t2], [x, y] => match X.T t, X.T t2 with
    | some ⟨.slice e, _, _, _, _⟩, some ⟨.str, _, _, _, _⟩ => match X.T e, y with
      | some te, .str s => if te.size = 1 then appendTo te.size te.bytes st x (s.map fun b => .int .u8 b.toNat) else none
      | _, _ => none
    | some ⟨.slice e, _, _, _, _⟩, some ⟨.slice _, _, _, _, _⟩ => match X.T e, elemsOf st y with
      | some te, some ys => appendTo te.size te.bytes st x ys
      | _, _ => none
    | some ⟨.slice e, _, _, _, _⟩, some ⟨.int _, _, _, _, _⟩ => match X.T e, y with
      | some te, .int _ n => if 0 ≤ n ∧ n.toNat * te.bytes ≤ 140737488355328 ∧ n.toNat ≤ 140737488355328 then appendTo te.size te.bytes st x (List.replicate n.toNat (mkv te.agg te.zero)) else none
      | _, _ => none
    | _, _ => none
  | .min, _, [.int k a, .int k' b] => if k = k' then some (.int k (min a b), st) else none
  | .max, _, [.int k a, .int k' b] => if k = k' then some (.int k (max a b), st) else none
  | _, _, _ => none

/-- a call of a function value -/
@[simp] def callV (X : Cfg) (f : AV) (args : List AV) (st : Sto) : Option (AV × Sto) :=
  match f with
  | .fn (.func k) first cap => match X.E.look k with
    | some S => S (first ++ args ++ cap) st
    | none => none
  | .fn (.yield l) [] [] => match X.Y.look l with
    | some S => S args st
    | none => none
  | _ => none

/-- the rune of a text at a place, and how wide it is -/
def runeAt (s : List UInt8) (i : Nat) : Nat × Nat := Utf8.decode ⟨s.toArray⟩ i

@[simp] def evOper (X : Cfg) (s : ASt) (o : Oper) : Option (AV × Sto) :=
  match o.op with
  | .move x => some (s.ev X x, s.st)
  | .assign x => some (s.ev X x, s.st)
  | .pick c a b => match s.ev X c with
    | .bool t => some (if t then s.ev X a else s.ev X b, s.st)
    | _ => none
  | .alloc t => match X.T t with
    | some ti => match resAt X.A o.dst with
      | none => some (.ptr s.st.length 0 0 0, s.st ++ [.row ti.size 0 0 [mkv ti.agg ti.zero]])
      | some k => match s.st[k]? with
        | some (.row sz 0 0 []) => if sz = ti.size then some (.ptr k 1 0 0, s.st.set k (.row sz 1 0 [mkv ti.agg ti.zero])) else none
        | _ => none
    | none => none
  | .box _ x => if (s.ev X x).whole = true then (match resAt X.A o.dst with
      | none => some (.ptr s.st.length 0 0 0, s.st ++ [.row (s.ev X x).cells.length 0 0 [s.ev X x]])
      | some k => match s.st[k]? with
        | some (.row sz 0 0 []) => if sz = (s.ev X x).cells.length then some (.ptr k 1 0 0, s.st.set k (.row sz 1 0 [s.ev X x])) else none
        | _ => none) else none
  | .build t parts => match X.T t with
    | some ⟨.struct fs, _, z, _, _⟩ =>
      if fs.all (fun f => (X.T f.2).isSome) = true ∧ (parts.toList.map fun p => s.ev X p.2).all (fun v => v.whole) = true then
      match fillParts (fun i => match fs[i]? with | some (off, ft) => (match X.T ft with | some fti => some (off, fti.size) | none => none) | none => none) z (parts.toList.map fun p => (p.1, s.ev X p.2)) with
      | some cs => some (.agg cs, s.st)
      | none => none
      else none
    | some ⟨.array _ e, _, z, _, _⟩ => match X.T e with
      | some te => if (parts.toList.map fun p => s.ev X p.2).all (fun v => v.whole) = true then
          match fillParts (fun i => some (i * te.size, te.size)) z (parts.toList.map fun p => (p.1, s.ev X p.2)) with
          | some cs => some (.agg cs, s.st)
          | none => none
        else none
      | none => none
    | _ => none
  | .buildSlice t len parts => match X.T t with
    | some ⟨.slice e, _, _, _, _⟩ => match X.T e with
      | some te =>
        let vs := parts.toList.map fun p => s.ev X p.2
        if parts.toList.map (·.1) = List.range len ∧ vs.all (fun v => decide (v.cells.length = te.size ∧ v.whole = true)) = true ∧ len * te.size ≤ 16777216 then
          (if frozenAt X.B o.dst = true ∧ fzL vs = true then some (.sl vs, s.st) else match resAt X.A o.dst with
            | none => some (.sr s.st.length 0 0 len, s.st ++ [.row te.size 0 0 vs])
            | some k => match s.st[k]? with
              | some (.row sz 0 0 []) => if sz = te.size then some (.sr k 1 0 len, s.st.set k (.row sz 1 0 vs)) else none
              | _ => none)
        else none
      | none => none
    | _ => none
  | .load t a => match X.T t with
    | some ti => (loadAt ti s.st (s.ev X a)).map fun v => (v, s.st)
    | none => none
  | .store t a x => match X.T t with
    | some ti => (storeAt ti s.st (s.ev X a) (s.ev X x)).map fun st => (.tup [], st)
    | none => none
  | .nilCheck x => match s.ev X x with
    | .ptr b g i off => some (.ptr b g i off, s.st)
    | .rp v off => some (.rp v off, s.st)
    | .fn (.func f) a b => some (.fn (.func f) a b, s.st)
    | _ => none
  | .binOp op t x y _ => match X.T t with
    | some ti => (evBin op ti (s.ev X x) (s.ev X y)).map fun v => (v, s.st)
    | none => none
  | .unOp op _ x => (evUn op (s.ev X x)).map fun v => (v, s.st)
  | .convert src dst x => match X.T src, X.T dst, s.ev X x with
    | some _, some ⟨.int k, _, _, _, _⟩, .int _ n => some (.int k (k.wrap n), s.st)
    | some ⟨.str, _, _, _, _⟩, some ⟨.str, _, _, _, _⟩, .str b => some (.str b, s.st)
    | some ⟨.str, _, _, _, _⟩, some ⟨.slice e, _, _, _, _⟩, .str b => match X.T e with
      | some ⟨.int .u8, 1, _, _, _⟩ => some (.sr s.st.length 0 0 b.length, s.st ++ [.row 1 0 0 (b.map fun c => .int .u8 c.toNat)])
      | _ => none
    | some ⟨.slice e, _, _, _, _⟩, some ⟨.str, _, _, _, _⟩, x => match X.T e, elemsOf s.st x with
      | some ⟨.int .u8, 1, _, _, _⟩, some xs => (bytesOf xs).map fun b => (.str b, s.st)
      | _, _ => none
    | _, _, _ => none
  | .makeFunc f first cap => some (.fn f (first.toList.map (s.ev X)) (cap.toList.map (s.ev X)), s.st)
  | .makeMap t none => match X.T t with
    | some ⟨.map _ _, _, _, _, _⟩ => match resAt X.A o.dst with
      | none => some (.mr s.st.length, s.st ++ [.map []])
      | some k => match s.st[k]? with
        | some (.tick 0) => some (.mr k, s.st.set k (.map []))
        | _ => none
    | _ => none
  | .makeSlice t l c => match X.T t, s.ev X l, s.ev X c with
    | some ⟨.slice e, _, _, _, _⟩, .int _ n, .int _ m => match X.T e with
      | some te => if 0 ≤ n ∧ n ≤ m ∧ m * te.bytes ≤ 140737488355328 ∧ m ≤ 140737488355328 then (match resAt X.A o.dst with
          | none => some (.sr s.st.length 0 0 n.toNat, s.st ++ [.row te.size 0 0 (List.replicate n.toNat (mkv te.agg te.zero))])
          | some k => match s.st[k]? with
            | some (.row sz 0 0 []) => if sz = te.size then some (.sr k 1 0 n.toNat, s.st.set k (.row sz 1 0 (List.replicate n.toNat (mkv te.agg te.zero)))) else none
            | _ => none) else none
      | none => none
    | _, _, _ => none
  | .slice t x lo hi none => match s.ev X x with
    | .str b => match X.T t, optIdx (lo.map (s.ev X)) 0, optIdx (hi.map (s.ev X)) b.length with
      | some ⟨.str, _, _, _, _⟩, some l, some h => if l ≤ h ∧ h ≤ b.length then some (.str ((b.take h).drop l), s.st) else none
      | _, _, _ => none
    | .sl xs => match X.T t, optIdx (lo.map (s.ev X)) 0, optIdx (hi.map (s.ev X)) xs.length with
      | some ⟨.slice e, _, _, _, _⟩, some l, some h => match X.T e with
        | some te => if l ≤ h ∧ h ≤ xs.length ∧ (l = 0 ∨ xs.all (fun x => decide (x.cells.length = te.size)) = true) then some (.sl ((xs.take h).drop l), s.st) else none
        | none => none
      | _, _, _ => none
    | .sr b g off len => match X.T t, optIdx (lo.map (s.ev X)) 0, optIdx (hi.map (s.ev X)) len with
      | some ⟨.slice e, _, _, _, _⟩, some l, some h => match X.T e, s.st[b]? with
        | some te, some k => if l ≤ h ∧ h ≤ len ∧ (k.sz = some te.size) then some (.sr b g (off + l) (h - l), s.st) else none
        | _, _ => none
      | _, _, _ => none
    | .snil => match X.T t, optIdx (lo.map (s.ev X)) 0, optIdx (hi.map (s.ev X)) 0 with
      | some ⟨.slice e, _, _, _, _⟩, some 0, some 0 => if (X.T e).isSome = true then some (.snil, s.st) else none
      | _, _, _ => none
    | .rp v off => match lo, hi, X.T t with
      | none, none, some ⟨.array n e, _, _, _, _⟩ => match X.T e with
        | some te => if off + n * te.size ≤ v.cells.length ∧ (te.agg = true ∨ te.size = 1 ∧ v.cells.all (fun c => !c.isAgg) = true) then some (.sl (chunks te.agg te.size n (v.cells.drop off)), s.st) else none
        | none => none
      | _, _, _ => none
    | _ => none
  | .slice t x lo (some hi) (some mx) => match X.T t, optIdx (lo.map (s.ev X)) 0, optIdx (some (s.ev X hi)) 0, optIdx (some (s.ev X mx)) 0 with
    | some ⟨.slice e, _, _, _, _⟩, some l, some h, some m => match X.T e with
      | some te => match s.ev X x with
        | .sl xs => if l ≤ h ∧ h ≤ m ∧ m ≤ xs.length ∧ (l = 0 ∨ xs.all (fun x => decide (x.cells.length = te.size)) = true) then some (.sl ((xs.take h).drop l), s.st) else none
        | .sr b g off len => match s.st[b]? with
          | some k => if l ≤ h ∧ h ≤ m ∧ m ≤ len ∧ (k.sz = some te.size) then some (.sr b g (off + l) (h - l), s.st) else none
          | none => none
        | _ => none
      | none => none
    | _, _, _, _ => none
  | .fieldAddr t x f => match X.T t with
    | some ⟨.struct fs, _, _, _, _⟩ => match fs[f]? with
      | some (o, ft) => match X.T ft with
        | some fti => if fti.size = 0 then none else match s.ev X x with
          | .ptr b g i off => some (.ptr b g i (off + o), s.st)
          | .rp v off => some (.rp v (off + o), s.st)
          | _ => none
        | none => none
      | none => none
    | _ => none
  | .field t x f => match X.T t with
    | some ⟨.struct fs, _, _, _, _⟩ => match fs[f]? with
      | some (o, ft) => match X.T ft with
        | some fti => match s.ev X x with
          | .agg cs => (part fti (.agg cs) o).map fun v => (v, s.st)
          | _ => none
        | none => none
      | none => none
    | _ => none
  | .indexAddr t x ix => match X.T t with
    | some ⟨.slice e, _, _, _, _⟩ => match X.T e with
      | some te => match s.ev X ix with
        | .int _ i => match s.ev X x with
          | .sl xs => if 0 ≤ i then (match xs[i.toNat]? with | some v => if v.cells.length = te.size then some (.rp v 0, s.st) else none | none => none) else none
          | .sr b g off len => if 0 ≤ i ∧ i < len then (match s.st[b]? with | some k => if k.sz = some te.size then some (.ptr b g (off + i.toNat) 0, s.st) else none | none => none) else none
          | _ => none
        | _ => none
      | none => none
    | some ⟨.array n e, _, _, _, _⟩ => match X.T e with
      | some te => match s.ev X ix with
        | .int _ i => if 0 ≤ i ∧ i < n then (match s.ev X x with
          | .ptr b g j off => some (.ptr b g j (off + i.toNat * te.size), s.st)
          | .rp v off => some (.rp v (off + i.toNat * te.size), s.st)
          | _ => none) else none
        | _ => none
      | none => none
    | _ => none
  | .index t x ix => match X.T t with
    | some ⟨.str, _, _, _, _⟩ => match s.ev X x, s.ev X ix with
      | .str b, .int _ i => if 0 ≤ i then (match b[i.toNat]? with | some c => some (.int .u8 c.toNat, s.st) | none => none) else none
      | _, _ => none
    | some ⟨.array n e, _, _, _, _⟩ => match X.T e with
      | some te => match s.ev X x, s.ev X ix with
        | .agg cs, .int _ i => if 0 ≤ i ∧ i < n then (part te (.agg cs) (i.toNat * te.size)).map fun v => (v, s.st) else none
        | _, _ => none
      | none => none
    | _ => none
  | .lookup t m k ok => match X.T t with
    | some ⟨.map kt e, _, _, _, _⟩ => match X.T kt, X.T e, entsOf s.st (s.ev X m) with
      | some tk, some te, some es => if keyTD tk.d (s.ev X k) = true then (match mget es (s.ev X k) with
        | some r => some (if ok then .tup [r.getD (mkv te.agg te.zero), .bool r.isSome] else r.getD (mkv te.agg te.zero), s.st)
        | none => none) else none
      | _, _, _ => none
    | _ => none
  | .mapUpdate t m k v => match X.T t with
    | some ⟨.map kt _, _, _, _, _⟩ => match X.T kt, s.ev X m with
      | some tk, .mr b => match s.st[b]? with
        | some (.map es) => if keyTD tk.d (s.ev X k) = true ∧ fz (s.ev X v) = true then (mset es (s.ev X k) (s.ev X v)).map fun es' => (.tup [], s.st.set b (.map es')) else none
        | _ => none
      | _, _ => none
    | _ => none
  | .insert t m k v => match X.T t with
    | some ⟨.map kt _, _, _, _, _⟩ => match X.T kt, s.ev X m with
      | some tk, .mr b => match s.st[b]? with
        | some (.map es) => if keyTD tk.d (s.ev X k) = true ∧ fz (s.ev X v) = true then (mset es (s.ev X k) (s.ev X v)).map fun es' => (.tup [], s.st.set b (.map es')) else none
        | _ => none
      | _, _ => none
    | _ => none
  | .range t x => match X.T t, s.ev X x with
    | some ⟨.str, _, _, _, _⟩, .str b => some (.ptr s.st.length 0 0 0, s.st ++ [.iter b 0])
    | _, _ => none
  | .next it true => match s.ev X it with
    | .ptr b 0 0 0 => match s.st[b]? with
      | some (.iter l i) => if i < l.length then some (.tup [.bool true, .int .i64 i, .int .i32 (runeAt l i).1], s.st.set b (.iter l (i + (runeAt l i).2))) else some (.tup [.bool false], s.st)
      | _ => none
    | _ => none
  | .extract t i => match s.ev X t with
    | .tup vs => (vs[i]?).map fun v => (v, s.st)
    | _ => none
  | .call c => match c.callee with
    | .builtin b => evBuiltin X s.st b c.argTypes.toList (c.args.toList.map (s.ev X))
    | .value f => callV X (s.ev X f) (c.args.toList.map (s.ev X)) s.st
    | .invoke .. => none
  | _ => none

/-- is an operation carried out? (the slot of its guard) -/
@[simp] def wantedA (gd : Nat → Option Nat) (s : ASt) (o : Oper) : Option Bool :=
  match o.guard with
  | none => some true
  | some (j, b) => match gd j with
    | some d => match s.fr d with
      | .bool c => some (c == b)
      | .tup [] => some false
      | _ => none
    | none => none

@[simp] def step1 (X : Cfg) (gd : Nat → Option Nat) (s : ASt) (o : Oper) : Option ASt :=
  match wantedA gd s o with
  | some true => match evOper X s o with
    | some (v, st) => ASt.put { s with st := st } o.dst v
    | none => none
  | some false => s.put o.dst (.tup [])
  | none => none

@[simp] def evOps (X : Cfg) (gd : Nat → Option Nat) : List Oper → ASt → Option ASt
  | [], s => some s
  | o :: r, s => match step1 X gd s o with
    | some s' => evOps X gd r s'
    | none => none

@[simp] def gdOf (ops : List Oper) (j : Nat) : Option Nat := (ops[j]?).bind (·.dst)
end Go.Proofs.YtgpkochbmfhmdaaGreatDoor.Lift
namespace Go.Proofs.YtgpkochbmfhmdaaGreatDoor.Lift
open Go

/-- the ghost of a state: the world, the frozen cells, where the blocks of the store lie (by generation), the store -/
structure Gh where
  w : World
  φ : Nat → Nat → Prop
  ρ : Nat → Nat → Option Nat
  σ : Sto
  /-- how many rounds there were; the foreign blocks that rounds turn; what holds of the foreign state -/
  t : Nat := 0
  z : Nat → Prop := fun _ => False
  J : Foe := noFoe

/-- what is foreign abides what turns no foreign block -/
def Stable (J : Foe) : Prop :=
  ∀ (t : Nat) (W : World) (O : Nat → Prop) (φ : Nat → Nat → Prop) (z : Nat → Prop) (W' : World) (O' : Nat → Prop) (φ' : Nat → Nat → Prop) (z' : Nat → Prop), J t W O φ z → W'.os = W.os → W'.tape = W.tape → W'.output = W.output →
    W.heap.size ≤ W'.heap.size → (∀ blk, blk < W.heap.size → ¬ O blk → W'.heap[blk]? = W.heap[blk]?) → (∀ (blk : Nat) (c : Array Value) e fz, W.heap[blk]? = some (.cells c e fz) → ∃ c', W'.heap[blk]? = some (.cells c' e fz) ∧ c'.size = c.size) → (∀ blk, O' blk → W.heap.size ≤ blk ∨ O blk) → (∀ b o, φ' b o → b < W.heap.size → φ b o ∨ O b) → (∀ blk, z blk → z' blk) → J t W' O' φ' z'

/-- a block's name and generation that there is -/
def HasId (G : Gh) (b g : Nat) (sz : Option Nat) : Prop := ∃ k, G.σ[b]? = some k ∧ g ≤ k.gen ∧ k.sz = sz

def Unfrozen (n : Nat) (fz : Nat × Nat) : Prop := ∀ o, o < n → (fz.1 ≤ o && o < fz.2) = false

mutual
inductive Rep (G : Gh) : AV → Value → Prop
  | undef (v : Value) : Rep G .undef v
  | bool (b : Bool) : Rep G (.bool b) (.bool b)
  | int (k : IntKind) (n : Int) : Rep G (.int k n) (.int k n)
  | str (s : ByteArray) : Rep G (.str s.data.toList) (.string s)
  | nilp : Rep G .nilp (.pointer none)
  | ptr {b g i off sz blk : Nat} (h : HasId G b g (some sz)) (hr : G.ρ b g = some blk) : Rep G (.ptr b g i off) (.pointer (some ⟨blk, i * sz + off, none⟩))
  | rp {x : AV} {off blk o : Nat} (h : RepCells G x.cells blk o) : Rep G (.rp x off) (.pointer (some ⟨blk, o + off, none⟩))
  | snil : Rep G .snil (.slice none 0 0)
  | sl0 (a : Option Addr) (cap : Nat) (h : a = none → cap = 0) : Rep G (.sl []) (.slice a 0 cap)
  | sle (a : Addr) (cap : Nat) : Rep G .sle (.slice (some a) 0 cap)
  | sl {xs : List AV} {blk o sz cap : Nat} (hl : xs.length ≤ cap) (h : RepElems G xs blk o sz) : Rep G (.sl xs) (.slice (some ⟨blk, o, none⟩) xs.length cap)
  | sr0 {b g sz : Nat} (h : HasId G b g (some sz)) (hr : G.ρ b g = none) : Rep G (.sr b g 0 0) (.slice none 0 0)
  | sr {b g off len sz blk cap : Nat} {c : Array Value} {e : TypeId} {fz : Nat × Nat} (h : HasId G b g (some sz)) (hr : G.ρ b g = some blk) (hl : len ≤ cap)
      (hb : G.w.heap[blk]? = some (.cells c e fz)) (hc : (off + cap) * sz ≤ c.size) : Rep G (.sr b g off len) (.slice (some ⟨blk, off * sz, none⟩) len cap)
  | srE {b g off sz blk o cap : Nat} (h : HasId G b g (some sz)) (hr : G.ρ b g = some blk) (ho : off ≠ 0) : Rep G (.sr b g off 0) (.slice (some ⟨blk, o, none⟩) 0 cap)
  | fn {f : Fn} {first cap : List AV} {a b : Array Value} (h1 : RepL G first a.toList) (h2 : RepL G cap b.toList) : Rep G (.fn f first cap) (.func f a b)
  | nilf : Rep G .nilf .nilFunc
  | nilm : Rep G .nilm (.map none)
  | mv {es : List (AV × AV)} {blk : Nat} {ents : Array MapEntry} {ck : Nat} (hb : G.w.heap[blk]? = some (.map ents ck)) (hf : G.φ blk 0) (h : RepE G es ents.toList) : Rep G (.mv es) (.map (some blk))
  | mv0 : Rep G (.mv []) (.map none)
  | mr {b blk : Nat} (h : HasId G b 1 none) (hr : G.ρ b 1 = some blk) : Rep G (.mr b) (.map (some blk))
  | agg {cs : List AV} {a : Array Value} (h : RepL G cs a.toList) : Rep G (.agg cs) (.agg a)
  | tup {vs : List AV} {a : Array Value} (h : RepL G vs a.toList) : Rep G (.tup vs) (.tuple a)
inductive RepL (G : Gh) : List AV → List Value → Prop
  | nil : RepL G [] []
  | cons {x : AV} {v : Value} {xs : List AV} {vs : List Value} (h : Rep G x v) (t : RepL G xs vs) : RepL G (x :: xs) (v :: vs)
inductive RepCells (G : Gh) : List AV → Nat → Nat → Prop
  | nil (b o : Nat) : RepCells G [] b o
  | cons {x : AV} {v : Value} {xs : List AV} {b o : Nat} (hf : G.φ b o) (hc : G.w.cell? ⟨b, o, none⟩ = some v) (h : Rep G x v) (t : RepCells G xs b (o + 1)) : RepCells G (x :: xs) b o
inductive RepElems (G : Gh) : List AV → Nat → Nat → Nat → Prop
  | nil (b o sz : Nat) : RepElems G [] b o sz
  | cons {x : AV} {xs : List AV} {b o sz : Nat} (hs : x.cells.length = sz) (h : RepCells G x.cells b o) (t : RepElems G xs b (o + sz) sz) : RepElems G (x :: xs) b o sz
inductive RepE (G : Gh) : List (AV × AV) → List MapEntry → Prop
  | nil : RepE G [] []
  | cons {k v : AV} {e : MapEntry} {es : List (AV × AV)} {r : List MapEntry} (hk : isKey k = true) (h1 : Rep G k e.key) (h2 : Rep G v e.val) (t : RepE G es r) : RepE G ((k, v) :: es) (e :: r)
end

/-- a row's elements lie in a block's cells -/
def RowAt (G : Gh) (xs : List AV) (c : Array Value) (sz : Nat) : Prop :=
  ∀ i x, xs[i]? = some x → x.cells.length = sz ∧ ∀ j y, x.cells[j]? = some y → ∃ v, c[i * sz + j]? = some v ∧ Rep G y v

/-- is a real block one of the store's? -/
def Owned (G : Gh) (blk : Nat) : Prop := ∃ b k, G.σ[b]? = some k ∧ k.live = true ∧ G.ρ b k.gen = some blk

structure Inv (G : Gh) : Prop where
  rows : ∀ (b sz g lo : Nat) (xs : List AV), G.σ[b]? = some (.row sz g lo xs) → lo ≤ xs.length ∧ (∀ blk, G.ρ b g = some blk →
      ∃ c e fz, G.w.heap[blk]? = some (.cells c e fz) ∧ Unfrozen c.size fz ∧ RowAt G xs c sz ∧ (∀ o, lo * sz ≤ o → ¬ G.φ blk o)) ∧ (G.ρ b g = none → xs = [])
  maps : ∀ (b : Nat) (es : List (AV × AV)), G.σ[b]? = some (.map es) → ∃ blk ents ck, G.ρ b 1 = some blk ∧ G.w.heap[blk]? = some (.map ents ck) ∧ RepE G es ents.toList ∧ ∀ o, ¬ G.φ blk o
  inj : ∀ (b b' : Nat) (k k' : ABlk) (blk : Nat), G.σ[b]? = some k → G.σ[b']? = some k' → G.ρ b k.gen = some blk → G.ρ b' k'.gen = some blk → b = b'
  lt : ∀ b o, G.φ b o → b < G.w.heap.size
  tks : ∀ (b n : Nat), G.σ[b]? = some (.tick n) → (b = 0 → n = G.t) ∧ ∀ g, G.ρ b g = none
  held : G.J G.t G.w (Owned G) G.φ G.z
  stab : Stable G.J
  zlt : ∀ blk, G.z blk → blk < G.w.heap.size
  znone : G.J = noFoe → ∀ blk, ¬ G.z blk
  its : ∀ (b : Nat) (s : List UInt8) (i : Nat), G.σ[b]? = some (.iter s i) → ∃ blk, G.ρ b 0 = some blk ∧ G.w.heap[blk]? = some (.stringIter ⟨s.toArray⟩ i)
  deads : ∀ (b sz g : Nat) (blk : Nat), G.σ[b]? = some (.dead sz g) → G.ρ b g = some blk → blk < G.w.heap.size

structure Ext (G H : Gh) : Prop where
  os : H.w.os = G.w.os
  tape : H.w.tape = G.w.tape
  output : H.w.output = G.w.output
  size : G.w.heap.size ≤ H.w.heap.size
  old : ∀ blk, blk < G.w.heap.size → ¬ Owned G blk → (G.z blk → H.t = G.t) → H.w.heap[blk]? = G.w.heap[blk]?
  shape : ∀ (blk : Nat) (c : Array Value) e fz, G.w.heap[blk]? = some (.cells c e fz) → ∃ c', H.w.heap[blk]? = some (.cells c' e fz) ∧ c'.size = c.size
  frozen : ∀ b o, G.φ b o → H.φ b o
  cell : ∀ b o, G.φ b o → H.w.cell? ⟨b, o, none⟩ = G.w.cell? ⟨b, o, none⟩
  fmap : ∀ (b : Nat) ents ck, G.φ b 0 → G.w.heap[b]? = some (.map ents ck) → H.w.heap[b]? = some (.map ents ck)
  thaw : ∀ b o, H.φ b o → b < G.w.heap.size → G.φ b o ∨ Owned G b
  len : G.σ.length ≤ H.σ.length
  id : ∀ (b : Nat) (k : ABlk), G.σ[b]? = some k → ∃ k' : ABlk, H.σ[b]? = some k' ∧ k.gen ≤ k'.gen ∧ k'.sz = k.sz
  at_ : ∀ (b : Nat) (k : ABlk) (g : Nat), G.σ[b]? = some k → g ≤ k.gen → H.ρ b g = G.ρ b g
  own : ∀ blk, Owned H blk → G.w.heap.size ≤ blk ∨ Owned G blk
  time : G.t ≤ H.t
  zin : ∀ blk, H.z blk → G.w.heap.size ≤ blk ∨ G.z blk
  zout : ∀ blk, G.z blk → H.z blk
  foe : H.J = G.J

theorem HasId.ext {G H : Gh} (x : Ext G H) {b g : Nat} {sz : Option Nat} (h : HasId G b g sz) : HasId H b g sz := by
  obtain ⟨k, hk, hg, hs⟩ := h
  obtain ⟨k', hk', hg', hs'⟩ := x.id b k hk
  exact ⟨k', hk', Nat.le_trans hg hg', hs'.trans hs⟩
theorem HasId.rho {G H : Gh} (x : Ext G H) {b g : Nat} {sz : Option Nat} (h : HasId G b g sz) : H.ρ b g = G.ρ b g := by
  obtain ⟨k, hk, hg, _⟩ := h
  exact x.at_ b k g hk hg

mutual
theorem Rep.ext {G H : Gh} (x : Ext G H) {a : AV} {v : Value} (h : Rep G a v) : Rep H a v := by
  match h with
  | .undef v => exact .undef v
  | .bool b => exact .bool b
  | .int k n => exact .int k n
  | .str s => exact .str s
  | .nilp => exact .nilp
  | .ptr h hr => exact .ptr (h.ext x) ((h.rho x).trans hr)
  | .rp h => exact .rp (RepCells.ext x h)
  | .snil => exact .snil
  | .sl0 a cap h => exact .sl0 a cap h
  | .sle a cap => exact .sle a cap
  | .sl hl h => exact .sl hl (RepElems.ext x h)
  | .sr0 h hr => exact .sr0 (h.ext x) ((h.rho x).trans hr)
  | .sr h hr hl hb hc =>
    obtain ⟨c', hb', hs⟩ := x.shape _ _ _ _ hb
    exact .sr (h.ext x) ((h.rho x).trans hr) hl hb' (by rw [hs]; exact hc)
  | .srE h hr ho => exact .srE (h.ext x) ((h.rho x).trans hr) ho
  | .fn h1 h2 => exact .fn (RepL.ext x h1) (RepL.ext x h2)
  | .nilf => exact .nilf
  | .nilm => exact .nilm
  | .mv hb hf h => exact .mv (x.fmap _ _ _ hf hb) (x.frozen _ _ hf) (RepE.ext x h)
  | .mv0 => exact .mv0
  | .mr h hr => exact .mr (h.ext x) ((h.rho x).trans hr)
  | .agg h => exact .agg (RepL.ext x h)
  | .tup h => exact .tup (RepL.ext x h)
theorem RepL.ext {G H : Gh} (x : Ext G H) {a : List AV} {v : List Value} (h : RepL G a v) : RepL H a v := by
  match h with
  | .nil => exact .nil
  | .cons h t => exact .cons (Rep.ext x h) (RepL.ext x t)
theorem RepCells.ext {G H : Gh} (x : Ext G H) {a : List AV} {b o : Nat} (h : RepCells G a b o) : RepCells H a b o := by
  match h with
  | .nil _ _ => exact .nil _ _
  | .cons hf hc h t => exact .cons (x.frozen _ _ hf) ((x.cell _ _ hf).trans hc) (Rep.ext x h) (RepCells.ext x t)
theorem RepElems.ext {G H : Gh} (x : Ext G H) {a : List AV} {b o sz : Nat} (h : RepElems G a b o sz) : RepElems H a b o sz := by
  match h with
  | .nil _ _ _ => exact .nil _ _ _
  | .cons hs h t => exact .cons hs (RepCells.ext x h) (RepElems.ext x t)
theorem RepE.ext {G H : Gh} (x : Ext G H) {a : List (AV × AV)} {v : List MapEntry} (h : RepE G a v) : RepE H a v := by
  match h with
  | .nil => exact .nil
  | .cons hk h1 h2 t => exact .cons hk (Rep.ext x h1) (Rep.ext x h2) (RepE.ext x t)
end

theorem Ext.refl (G : Gh) : Ext G G where
  os := rfl
  tape := rfl
  output := rfl
  size := Nat.le_refl _
  old := fun _ _ _ _ => rfl
  shape := fun _ c _ _ h => ⟨c, h, rfl⟩
  frozen := fun _ _ h => h
  cell := fun _ _ _ => rfl
  fmap := fun _ _ _ _ h => h
  thaw := fun _ _ h _ => .inl h
  len := Nat.le_refl _
  id := fun _ k h => ⟨k, h, Nat.le_refl _, rfl⟩
  at_ := fun _ _ _ _ _ => rfl
  own := fun _ h => .inr h
  time := Nat.le_refl _
  zin := fun _ h => .inr h
  zout := fun _ h => h
  foe := rfl

theorem Ext.trans {G H K : Gh} (x : Ext G H) (y : Ext H K) : Ext G K where
  os := y.os.trans x.os
  tape := y.tape.trans x.tape
  output := y.output.trans x.output
  size := Nat.le_trans x.size y.size
  old := fun blk hb ho hz => by
    have hH : ¬ Owned H blk := fun h => by
      rcases x.own blk h with h | h
      · omega
      · exact ho h
    have t1 := x.time
    have t2 := y.time
    rw [y.old blk (Nat.lt_of_lt_of_le hb x.size) hH (fun h => by
      have := hz ((x.zin blk h).resolve_left (by omega))
      omega), x.old blk hb ho (fun h => by have := hz h; omega)]
  shape := fun blk c e fz h => by
    obtain ⟨c1, h1, s1⟩ := x.shape blk c e fz h
    obtain ⟨c2, h2, s2⟩ := y.shape blk c1 e fz h1
    exact ⟨c2, h2, s2.trans s1⟩
  frozen := fun b o h => y.frozen b o (x.frozen b o h)
  cell := fun b o h => (y.cell b o (x.frozen b o h)).trans (x.cell b o h)
  fmap := fun b ents ck h hb => y.fmap b ents ck (x.frozen b 0 h) (x.fmap b ents ck h hb)
  thaw := fun b o h hb => by
    rcases y.thaw b o h (Nat.lt_of_lt_of_le hb x.size) with h | h
    · exact x.thaw b o h hb
    · rcases x.own b h with h | h
      · omega
      · exact .inr h
  len := Nat.le_trans x.len y.len
  id := fun b k h => by
    obtain ⟨k1, h1, g1, s1⟩ := x.id b k h
    obtain ⟨k2, h2, g2, s2⟩ := y.id b k1 h1
    exact ⟨k2, h2, Nat.le_trans g1 g2, s2.trans s1⟩
  at_ := fun b k g h hg => by
    obtain ⟨k1, h1, g1, s1⟩ := x.id b k h
    rw [y.at_ b k1 g h1 (Nat.le_trans hg g1), x.at_ b k g h hg]
  own := fun blk h => by
    rcases y.own blk h with h | h
    · exact .inl (Nat.le_trans x.size h)
    · exact x.own blk h
  time := Nat.le_trans x.time y.time
  zin := fun blk h => by
    rcases y.zin blk h with h | h
    · exact .inl (Nat.le_trans x.size h)
    · exact x.zin blk h
  zout := fun blk h => y.zout blk (x.zout blk h)
  foe := y.foe.trans x.foe
/-- what is foreign is held still, where there was no round -/
theorem Inv.held_ext {G H : Gh} (inv : Inv G) (x : Ext G H) (ht : H.t = G.t) : H.J H.t H.w (Owned H) H.φ H.z := by
  rw [x.foe, ht]
  exact inv.stab _ _ _ _ _ _ _ _ _ inv.held x.os x.tape x.output x.size (fun blk hb ho => x.old blk hb ho fun _ => ht) x.shape x.own x.thaw x.zout
theorem Inv.stab_ext {G H : Gh} (inv : Inv G) (x : Ext G H) : Stable H.J := by rw [x.foe]; exact inv.stab

theorem RepL.length {G : Gh} {a : List AV} {v : List Value} (h : RepL G a v) : a.length = v.length := by
  match h with
  | .nil => rfl
  | .cons _ t => simp [RepL.length t]
theorem RepL.get {G : Gh} {a : List AV} {v : List Value} (h : RepL G a v) {i : Nat} {x : AV} (hx : a[i]? = some x) : ∃ u, v[i]? = some u ∧ Rep G x u := by
  match h, i with
  | .nil, i => simp at hx
  | .cons h t, 0 => simp at hx; subst hx; exact ⟨_, rfl, h⟩
  | .cons h t, i + 1 => simp at hx; simpa using t.get hx
theorem RepL.append {G : Gh} {a a' : List AV} {v v' : List Value} (h : RepL G a v) (h' : RepL G a' v') : RepL G (a ++ a') (v ++ v') := by
  match h with
  | .nil => exact h'
  | .cons h t => exact .cons h (t.append h')
theorem RepL.of_get {G : Gh} : ∀ {a : List AV} {v : List Value}, a.length = v.length → (∀ (i : Nat) x u, a[i]? = some x → v[i]? = some u → Rep G x u) → RepL G a v
  | [], [], _, _ => .nil
  | x :: a, u :: v, hl, h => .cons (h 0 x u rfl rfl) (RepL.of_get (by simpa using hl) fun i y w hy hw => h (i + 1) y w (by simpa using hy) (by simpa using hw))
  | [], _ :: _, hl, _ => by simp at hl
  | _ :: _, [], hl, _ => by simp at hl
theorem RepCells.get {G : Gh} {a : List AV} {b o : Nat} (h : RepCells G a b o) {i : Nat} {x : AV} (hx : a[i]? = some x) : ∃ u, G.φ b (o + i) ∧ G.w.cell? ⟨b, o + i, none⟩ = some u ∧ Rep G x u := by
  match h, i with
  | .nil _ _, i => simp at hx
  | .cons hf hc h t, 0 => simp at hx; subst hx; exact ⟨_, hf, hc, h⟩
  | .cons hf hc h t, i + 1 =>
    simp at hx
    obtain ⟨u, h1, h2, h3⟩ := t.get hx
    exact ⟨u, by rwa [show o + 1 + i = o + (i + 1) by omega] at h1, by rwa [show o + 1 + i = o + (i + 1) by omega] at h2, h3⟩
theorem RepCells.of_get {G : Gh} {b : Nat} : ∀ {a : List AV} {o : Nat}, (∀ (i : Nat) x, a[i]? = some x → ∃ u, G.φ b (o + i) ∧ G.w.cell? ⟨b, o + i, none⟩ = some u ∧ Rep G x u) → RepCells G a b o
  | [], o, _ => .nil _ _
  | x :: a, o, h => by
    obtain ⟨u, h1, h2, h3⟩ := h 0 x rfl
    exact .cons h1 h2 h3 (RepCells.of_get fun i y hy => by
      obtain ⟨u, h1, h2, h3⟩ := h (i + 1) y (by simpa using hy)
      exact ⟨u, by rwa [show o + 1 + i = o + (i + 1) by omega], by rwa [show o + 1 + i = o + (i + 1) by omega], h3⟩)
theorem RepElems.get {G : Gh} {a : List AV} {b o sz : Nat} (h : RepElems G a b o sz) {i : Nat} {x : AV} (hx : a[i]? = some x) : x.cells.length = sz ∧ RepCells G x.cells b (o + i * sz) := by
  match h, i with
  | .nil _ _ _, i => simp at hx
  | .cons hs h t, 0 => simp at hx; subst hx; exact ⟨hs, by simpa using h⟩
  | .cons hs h t, i + 1 =>
    simp at hx
    have := t.get hx
    rwa [show o + sz + i * sz = o + (i + 1) * sz by rw [Nat.add_mul]; omega] at this
theorem RepElems.of_get {G : Gh} {b sz : Nat} : ∀ {a : List AV} {o : Nat}, (∀ (i : Nat) x, a[i]? = some x → x.cells.length = sz ∧ RepCells G x.cells b (o + i * sz)) → RepElems G a b o sz
  | [], o, _ => .nil _ _ _
  | x :: a, o, h => by
    obtain ⟨h1, h2⟩ := h 0 x rfl
    exact .cons h1 (by simpa using h2) (RepElems.of_get fun i y hy => by
      obtain ⟨h1, h2⟩ := h (i + 1) y (by simpa using hy)
      exact ⟨h1, by rwa [show o + sz + i * sz = o + (i + 1) * sz by rw [Nat.add_mul]; omega]⟩)

/-- a value's cells, as they lie in a real value -/
theorem Rep.cells {G : Gh} {x : AV} {v : Value} (h : Rep G x v) (hu : x ≠ .undef) : RepL G x.cells v.cells.toList := by
  cases h <;> first
    | exact absurd rfl hu
    | assumption
    | (refine .cons ?_ .nil; constructor <;> assumption)
    | (refine .cons ?_ .nil; first | exact .sl0 _ _ ‹_› | exact .sle _ _ | exact .sl ‹_› ‹_› | exact .sr ‹_› ‹_› ‹_› ‹_› ‹_› | exact .srE ‹_› ‹_› ‹_› | exact .mv ‹_› ‹_› ‹_›)
end Go.Proofs.YtgpkochbmfhmdaaGreatDoor.Lift
namespace Go.Proofs.YtgpkochbmfhmdaaGreatDoor.Lift
open Go

theorem RowAt.ext {G H : Gh} (x : Ext G H) {xs : List AV} {c : Array Value} {sz : Nat} (h : RowAt G xs c sz) : RowAt H xs c sz :=
  fun i y hy => ⟨(h i y hy).1, fun j z hz => let ⟨v, h1, h2⟩ := (h i y hy).2 j z hz; ⟨v, h1, h2.ext x⟩⟩

theorem Inv.blk_lt {G : Gh} (inv : Inv G) {b : Nat} {k : ABlk} {blk : Nat} (hk : G.σ[b]? = some k) (hr : G.ρ b k.gen = some blk) : blk < G.w.heap.size := by
  cases k with
  | row sz g lo xs =>
    obtain ⟨_, h2, _⟩ := inv.rows b sz g lo xs hk
    obtain ⟨c, e, fz, hb, _⟩ := h2 blk hr
    exact (Array.getElem?_eq_some_iff.1 hb).1
  | map es =>
    obtain ⟨blk', ents, ck, hr', hb, _⟩ := inv.maps b es hk
    simp only [ABlk.gen] at hr
    rw [hr'] at hr
    cases hr
    exact (Array.getElem?_eq_some_iff.1 hb).1
  | tick n =>
    rw [(inv.tks b n hk).2] at hr
    cases hr
  | dead sz g => exact inv.deads b sz g blk hk hr
  | iter s i =>
    obtain ⟨blk', hr', hb⟩ := inv.its b s i hk
    simp only [ABlk.gen] at hr
    rw [hr'] at hr
    cases hr
    exact (Array.getElem?_eq_some_iff.1 hb).1
theorem Owned.lt {G : Gh} (inv : Inv G) {blk : Nat} (h : Owned G blk) : blk < G.w.heap.size := by
  obtain ⟨b, k, hk, _, hr⟩ := h
  exact inv.blk_lt hk hr

theorem heap_alloc_lt (w : World) (o : Obj) {k : Nat} (h : k < w.heap.size) : (w.alloc o).heap[k]? = w.heap[k]? := by
  simp only [World.alloc, Array.getElem?_push]
  rw [if_neg (by omega)]
theorem heap_alloc_new (w : World) (o : Obj) : (w.alloc o).heap[w.heap.size]? = some o := by
  simp only [World.alloc, Array.getElem?_push]
  rw [if_pos trivial]

theorem sto_append_lt {σ : Sto} {k x : ABlk} {b : Nat} (h : σ[b]? = some x) : (σ ++ [k])[b]? = some x := by
  have hb : b < σ.length := by
    rcases Nat.lt_or_ge b σ.length with h' | h'
    · exact h'
    · simp [List.getElem?_eq_none h'] at h
  rw [List.getElem?_append_left hb, h]
theorem sto_append_cases {σ : Sto} {k x : ABlk} {b : Nat} (h : (σ ++ [k])[b]? = some x) : (b < σ.length ∧ σ[b]? = some x) ∨ (b = σ.length ∧ x = k) := by
  rcases Nat.lt_or_ge b σ.length with h' | h'
  · exact .inl ⟨h', by rwa [List.getElem?_append_left h'] at h⟩
  · rw [List.getElem?_append_right h'] at h
    cases hd : b - σ.length with
    | zero => rw [hd] at h; simp at h; exact .inr ⟨by omega, h.symm⟩
    | succ n => rw [hd] at h; simp at h
theorem sto_lt {σ : Sto} {x : ABlk} {b : Nat} (h : σ[b]? = some x) : b < σ.length := by
  rcases Nat.lt_or_ge b σ.length with h' | h'
  · exact h'
  · simp [List.getElem?_eq_none h'] at h

/-- a new block of the store, in a new block of memory (or, of a row without elements, in none) -/
def Gh.grow (G : Gh) (w : World) (at_ : Option Nat) (k : ABlk) : Gh :=
  { G with w := w, ρ := fun b g => if b = G.σ.length then at_ else G.ρ b g, σ := G.σ ++ [k] }

theorem ext_grow {G : Gh} (inv : Inv G) (w : World) (at_ : Option Nat) (k : ABlk)
    (h1 : w.os = G.w.os) (h2 : w.tape = G.w.tape) (h3 : w.output = G.w.output) (h4 : G.w.heap.size ≤ w.heap.size)
    (h5 : ∀ j, j < G.w.heap.size → w.heap[j]? = G.w.heap[j]?) (h6 : ∀ j, at_ = some j → G.w.heap.size ≤ j) : Ext G (G.grow w at_ k) where
  os := h1
  tape := h2
  output := h3
  size := h4
  old := fun blk hb _ _ => h5 blk hb
  shape := fun blk c e fz h => ⟨c, (h5 blk (Array.getElem?_eq_some_iff.1 h).1).trans h, rfl⟩
  frozen := fun _ _ h => h
  cell := fun b o h => World.cell?_of_block (a := ⟨b, o, none⟩) (h5 b (inv.lt b o h))
  fmap := fun b ents ck h hb => (h5 b (inv.lt b 0 h)).trans hb
  thaw := fun b o h _ => .inl h
  len := by simp [Gh.grow]
  id := fun b k' h => ⟨k', sto_append_lt h, Nat.le_refl _, rfl⟩
  at_ := fun b k' g h _ => by
    have := sto_lt h
    simp only [Gh.grow]
    rw [if_neg (by omega)]
  own := fun blk h => by
    obtain ⟨b, k', hk, hlv, hr⟩ := h
    rcases sto_append_cases hk with ⟨hb, hk⟩ | ⟨hb, _⟩
    · simp only [Gh.grow] at hr
      rw [if_neg (by omega)] at hr
      exact .inr ⟨b, k', hk, hlv, hr⟩
    · simp only [Gh.grow] at hr
      rw [if_pos hb] at hr
      exact .inl (h6 blk hr)
  time := Nat.le_refl _
  zin := fun _ h => .inr h
  zout := fun _ h => h
  foe := rfl

/-- what holds of the old blocks holds still -/
theorem inv_grow_row {G : Gh} (inv : Inv G) (w : World) (at_ : Option Nat) (sz : Nat) (xs : List AV) (x : Ext G (G.grow w at_ (.row sz 0 0 xs)))
    (h5 : ∀ j, j < G.w.heap.size → w.heap[j]? = G.w.heap[j]?)
    (h6 : ∀ j, at_ = some j → G.w.heap.size ≤ j ∧ ∃ c e fz, w.heap[j]? = some (.cells c e fz) ∧ Unfrozen c.size fz ∧ RowAt G xs c sz) (h7 : at_ = none → xs = []) :
    Inv (G.grow w at_ (.row sz 0 0 xs)) where
  rows := fun b s g lo ys h => by
    rcases sto_append_cases h with ⟨hb, h⟩ | ⟨hb, h⟩
    · obtain ⟨r1, r2, r3⟩ := inv.rows b s g lo ys h
      have hρ : (G.grow w at_ (.row sz 0 0 xs)).ρ b g = G.ρ b g := by simp only [Gh.grow]; rw [if_neg (by omega)]
      refine ⟨r1, fun blk hblk => ?_, fun hn => r3 (hρ ▸ hn)⟩
      obtain ⟨c, e, fz, q1, q2, q3, q4⟩ := r2 blk (hρ ▸ hblk)
      exact ⟨c, e, fz, (h5 blk (Array.getElem?_eq_some_iff.1 q1).1).trans q1, q2, q3.ext x, q4⟩
    · cases h
      have hρ : (G.grow w at_ (.row sz 0 0 xs)).ρ b 0 = at_ := by simp only [Gh.grow]; rw [if_pos hb]
      refine ⟨Nat.zero_le _, fun blk hblk => ?_, fun hn => h7 (hρ ▸ hn)⟩
      obtain ⟨hsz, c, e, fz, q1, q2, q3⟩ := h6 blk (hρ ▸ hblk)
      exact ⟨c, e, fz, q1, q2, q3.ext x, fun o _ hf => by have := inv.lt blk o hf; omega⟩
  maps := fun b es h => by
    rcases sto_append_cases h with ⟨hb, h⟩ | ⟨hb, h⟩
    · obtain ⟨blk, ents, ck, q1, q2, q3, q4⟩ := inv.maps b es h
      have hρ : (G.grow w at_ (.row sz 0 0 xs)).ρ b 1 = G.ρ b 1 := by simp only [Gh.grow]; rw [if_neg (by omega)]
      exact ⟨blk, ents, ck, hρ.trans q1, (h5 blk (Array.getElem?_eq_some_iff.1 q2).1).trans q2, q3.ext x, q4⟩
    · cases h
  inj := fun b b' k k' blk h h' hr hr' => by
    have hlt : ∀ b k blk, G.σ[b]? = some k → G.ρ b k.gen = some blk → blk < G.w.heap.size := fun b k blk h hr => inv.blk_lt h hr
    simp only [Gh.grow] at hr hr'
    rcases sto_append_cases h with ⟨hb, h⟩ | ⟨hb, h⟩ <;> rcases sto_append_cases h' with ⟨hb', h'⟩ | ⟨hb', h'⟩
    · rw [if_neg (by omega)] at hr hr'
      exact inv.inj b b' k k' blk h h' hr hr'
    · rw [if_neg (by omega)] at hr
      rw [if_pos hb'] at hr'
      have := hlt b k blk h hr
      have := (h6 blk hr').1
      omega
    · rw [if_pos hb] at hr
      rw [if_neg (by omega)] at hr'
      have := hlt b' k' blk h' hr'
      have := (h6 blk hr).1
      omega
    · omega
  lt := fun b o h => Nat.lt_of_lt_of_le (inv.lt b o h) x.size
  tks := fun b n h => by
    rcases sto_append_cases h with ⟨hb, h⟩ | ⟨hb, h⟩
    · obtain ⟨q1, q2⟩ := inv.tks b n h
      exact ⟨q1, fun g => by show (if b = G.σ.length then _ else G.ρ b g) = none; rw [if_neg (by omega)]; exact q2 g⟩
    · cases h
  held := inv.held_ext x rfl
  stab := inv.stab
  zlt := fun blk h => Nat.lt_of_lt_of_le (inv.zlt blk h) x.size
  znone := inv.znone
  its := fun b s i h => by
    rcases sto_append_cases h with ⟨hb, h⟩ | ⟨hb, h⟩
    · obtain ⟨blk, q1, q2⟩ := inv.its b s i h
      exact ⟨blk, by show (if b = G.σ.length then _ else G.ρ b 0) = some blk; rw [if_neg (by omega)]; exact q1, (h5 blk (Array.getElem?_eq_some_iff.1 q2).1).trans q2⟩
    · cases h
  deads := fun b sz g blk h hr => by
    rcases sto_append_cases h with ⟨hb, h⟩ | ⟨hb, h⟩
    · have hr' : (if b = G.σ.length then _ else G.ρ b g) = some blk := hr
      rw [if_neg (by omega)] at hr'
      exact Nat.lt_of_lt_of_le (inv.deads b sz g blk h hr') x.size
    · cases h

theorem inv_grow_map {G : Gh} (inv : Inv G) (w : World) (j : Nat) (x : Ext G (G.grow w (some j) (.map [])))
    (h5 : ∀ j, j < G.w.heap.size → w.heap[j]? = G.w.heap[j]?) (hj : G.w.heap.size ≤ j) (hm : w.heap[j]? = some (.map #[] 0)) : Inv (G.grow w (some j) (.map [])) where
  rows := fun b s g lo ys h => by
    rcases sto_append_cases h with ⟨hb, h⟩ | ⟨hb, h⟩
    · obtain ⟨r1, r2, r3⟩ := inv.rows b s g lo ys h
      have hρ : (G.grow w (some j) (.map [])).ρ b g = G.ρ b g := by simp only [Gh.grow]; rw [if_neg (by omega)]
      refine ⟨r1, fun blk hblk => ?_, fun hn => r3 (hρ ▸ hn)⟩
      obtain ⟨c, e, fz, q1, q2, q3, q4⟩ := r2 blk (hρ ▸ hblk)
      exact ⟨c, e, fz, (h5 blk (Array.getElem?_eq_some_iff.1 q1).1).trans q1, q2, q3.ext x, q4⟩
    · cases h
  maps := fun b es h => by
    rcases sto_append_cases h with ⟨hb, h⟩ | ⟨hb, h⟩
    · obtain ⟨blk, ents, ck, q1, q2, q3, q4⟩ := inv.maps b es h
      have hρ : (G.grow w (some j) (.map [])).ρ b 1 = G.ρ b 1 := by simp only [Gh.grow]; rw [if_neg (by omega)]
      exact ⟨blk, ents, ck, hρ.trans q1, (h5 blk (Array.getElem?_eq_some_iff.1 q2).1).trans q2, q3.ext x, q4⟩
    · cases h
      exact ⟨j, #[], 0, by simp only [Gh.grow]; rw [if_pos hb], hm, .nil, fun o hf => by have := inv.lt j o hf; omega⟩
  inj := fun b b' k k' blk h h' hr hr' => by
    have hlt : ∀ b k blk, G.σ[b]? = some k → G.ρ b k.gen = some blk → blk < G.w.heap.size := fun b k blk h hr => inv.blk_lt h hr
    simp only [Gh.grow] at hr hr'
    rcases sto_append_cases h with ⟨hb, h⟩ | ⟨hb, h⟩ <;> rcases sto_append_cases h' with ⟨hb', h'⟩ | ⟨hb', h'⟩
    · rw [if_neg (by omega)] at hr hr'
      exact inv.inj b b' k k' blk h h' hr hr'
    · rw [if_neg (by omega)] at hr
      rw [if_pos hb'] at hr'
      have := hlt b k blk h hr
      cases hr'
      omega
    · rw [if_pos hb] at hr
      rw [if_neg (by omega)] at hr'
      have := hlt b' k' blk h' hr'
      cases hr
      omega
    · omega
  lt := fun b o h => Nat.lt_of_lt_of_le (inv.lt b o h) x.size
  tks := fun b n h => by
    rcases sto_append_cases h with ⟨hb, h⟩ | ⟨hb, h⟩
    · obtain ⟨q1, q2⟩ := inv.tks b n h
      exact ⟨q1, fun g => by show (if b = G.σ.length then _ else G.ρ b g) = none; rw [if_neg (by omega)]; exact q2 g⟩
    · cases h
  held := inv.held_ext x rfl
  stab := inv.stab
  zlt := fun blk h => Nat.lt_of_lt_of_le (inv.zlt blk h) x.size
  znone := inv.znone
  its := fun b s i h => by
    rcases sto_append_cases h with ⟨hb, h⟩ | ⟨hb, h⟩
    · obtain ⟨blk, q1, q2⟩ := inv.its b s i h
      exact ⟨blk, by show (if b = G.σ.length then _ else G.ρ b 0) = some blk; rw [if_neg (by omega)]; exact q1, (h5 blk (Array.getElem?_eq_some_iff.1 q2).1).trans q2⟩
    · cases h
  deads := fun b sz g blk h hr => by
    rcases sto_append_cases h with ⟨hb, h⟩ | ⟨hb, h⟩
    · have hr' : (if b = G.σ.length then _ else G.ρ b g) = some blk := hr
      rw [if_neg (by omega)] at hr'
      exact Nat.lt_of_lt_of_le (inv.deads b sz g blk h hr') x.size
    · cases h

/-- a new iterator -/
theorem inv_grow_iter {G : Gh} (inv : Inv G) (w : World) (j : Nat) (t : List UInt8) (x : Ext G (G.grow w (some j) (.iter t 0)))
    (h5 : ∀ j, j < G.w.heap.size → w.heap[j]? = G.w.heap[j]?) (hj : G.w.heap.size ≤ j) (hm : w.heap[j]? = some (.stringIter ⟨t.toArray⟩ 0)) : Inv (G.grow w (some j) (.iter t 0)) where
  rows := fun b s g lo ys h => by
    rcases sto_append_cases h with ⟨hb, h⟩ | ⟨hb, h⟩
    · obtain ⟨r1, r2, r3⟩ := inv.rows b s g lo ys h
      have hρ : (G.grow w (some j) (.iter t 0)).ρ b g = G.ρ b g := by simp only [Gh.grow]; rw [if_neg (by omega)]
      refine ⟨r1, fun blk hblk => ?_, fun hn => r3 (hρ ▸ hn)⟩
      obtain ⟨c, e, fz, q1, q2, q3, q4⟩ := r2 blk (hρ ▸ hblk)
      exact ⟨c, e, fz, (h5 blk (Array.getElem?_eq_some_iff.1 q1).1).trans q1, q2, q3.ext x, q4⟩
    · cases h
  maps := fun b es h => by
    rcases sto_append_cases h with ⟨hb, h⟩ | ⟨hb, h⟩
    · obtain ⟨blk, ents, ck, q1, q2, q3, q4⟩ := inv.maps b es h
      have hρ : (G.grow w (some j) (.iter t 0)).ρ b 1 = G.ρ b 1 := by simp only [Gh.grow]; rw [if_neg (by omega)]
      exact ⟨blk, ents, ck, hρ.trans q1, (h5 blk (Array.getElem?_eq_some_iff.1 q2).1).trans q2, q3.ext x, q4⟩
    · cases h
  its := fun b s i h => by
    rcases sto_append_cases h with ⟨hb, h⟩ | ⟨hb, h⟩
    · obtain ⟨blk, q1, q2⟩ := inv.its b s i h
      exact ⟨blk, by show (if b = G.σ.length then _ else G.ρ b 0) = some blk; rw [if_neg (by omega)]; exact q1, (h5 blk (Array.getElem?_eq_some_iff.1 q2).1).trans q2⟩
    · cases h
      exact ⟨j, by simp only [Gh.grow]; rw [if_pos hb], hm⟩
  inj := fun b b' k k' blk h h' hr hr' => by
    have hlt : ∀ b k blk, G.σ[b]? = some k → G.ρ b k.gen = some blk → blk < G.w.heap.size := fun b k blk h hr => inv.blk_lt h hr
    simp only [Gh.grow] at hr hr'
    rcases sto_append_cases h with ⟨hb, h⟩ | ⟨hb, h⟩ <;> rcases sto_append_cases h' with ⟨hb', h'⟩ | ⟨hb', h'⟩
    · rw [if_neg (by omega)] at hr hr'
      exact inv.inj b b' k k' blk h h' hr hr'
    · rw [if_neg (by omega)] at hr
      rw [if_pos hb'] at hr'
      have := hlt b k blk h hr
      cases hr'
      omega
    · rw [if_pos hb] at hr
      rw [if_neg (by omega)] at hr'
      have := hlt b' k' blk h' hr'
      cases hr
      omega
    · omega
  lt := fun b o h => Nat.lt_of_lt_of_le (inv.lt b o h) x.size
  tks := fun b n h => by
    rcases sto_append_cases h with ⟨hb, h⟩ | ⟨hb, h⟩
    · obtain ⟨q1, q2⟩ := inv.tks b n h
      exact ⟨q1, fun g => by show (if b = G.σ.length then _ else G.ρ b g) = none; rw [if_neg (by omega)]; exact q2 g⟩
    · cases h
  held := inv.held_ext x rfl
  stab := inv.stab
  zlt := fun blk h => Nat.lt_of_lt_of_le (inv.zlt blk h) x.size
  znone := inv.znone
  deads := fun b sz g blk h hr => by
    rcases sto_append_cases h with ⟨hb, h⟩ | ⟨hb, h⟩
    · have hr' : (if b = G.σ.length then _ else G.ρ b g) = some blk := hr
      rw [if_neg (by omega)] at hr'
      exact Nat.lt_of_lt_of_le (inv.deads b sz g blk h hr') x.size
    · cases h

/-- a block of the store takes another content (its generation may rise; where it lies may turn): the ghost behind it -/
def Gh.turn (G : Gh) (w : World) (b : Nat) (k : ABlk) (at_ : Option Nat) : Gh :=
  { G with w := w, ρ := fun b' g => if b' = b ∧ g = k.gen then at_ else G.ρ b' g, σ := G.σ.set b k }

theorem sto_set_other {σ : Sto} {k : ABlk} {b b' : Nat} (h : b' ≠ b) : (σ.set b k)[b']? = σ[b']? := by
  rw [List.getElem?_set_ne (by omega)]
theorem sto_set_same {σ : Sto} {k x : ABlk} {b : Nat} (h : σ[b]? = some x) : (σ.set b k)[b]? = some k := by
  rw [List.getElem?_set_self (sto_lt h)]
theorem sto_set_cases {σ : Sto} {k x : ABlk} {b b' : Nat} (h : (σ.set b k)[b']? = some x) : (b' ≠ b ∧ σ[b']? = some x) ∨ (b' = b ∧ x = k ∧ b < σ.length) := by
  by_cases e : b' = b
  · subst e
    have hl : b' < σ.length := by have := sto_lt h; simpa using this
    rw [List.getElem?_set_self hl] at h
    exact .inr ⟨rfl, (Option.some.inj h).symm, hl⟩
  · exact .inl ⟨e, by rwa [sto_set_other e] at h⟩

/-- a row's elements are stored into, in place: nothing else turns -/
theorem ext_put {G : Gh} (inv : Inv G) {w : World} {b sz g lo : Nat} {xs ys : List AV} {blk : Nat} {c c' : Array Value} {e : TypeId} {fz : Nat × Nat}
    (hb : G.σ[b]? = some (.row sz g lo xs)) (hr : G.ρ b g = some blk) (hc : G.w.heap[blk]? = some (.cells c e fz)) (hw : w = { G.w with heap := G.w.heap.setIfInBounds blk (.cells c' e fz) })
    (hs : c'.size = c.size) (hlo : ∀ o, o < lo * sz → c'[o]? = c[o]?) {g2 : Nat} (hg2 : g ≤ g2) : Ext G (G.turn w b (.row sz g2 lo ys) (some blk)) := by
  have hlt := (Array.getElem?_eq_some_iff.1 hc).1
  have hsame : w.heap[blk]? = some (.cells c' e fz) := by rw [hw]; simp [hlt]
  have hother : ∀ j, j ≠ blk → w.heap[j]? = G.w.heap[j]? := fun j hj => by rw [hw]; simp only; rw [Array.getElem?_setIfInBounds_ne (by omega)]
  have hφ : ∀ o, G.φ blk o → o < lo * sz := fun o ho => by
    obtain ⟨_, r2, _⟩ := inv.rows b sz g lo xs hb
    obtain ⟨_, _, _, _, _, _, q4⟩ := r2 blk hr
    rcases Nat.lt_or_ge o (lo * sz) with h | h
    · exact h
    · exact absurd ho (q4 o h)
  have hρ : ∀ b' g', b' ≠ b → (G.turn w b (.row sz g2 lo ys) (some blk)).ρ b' g' = G.ρ b' g' := fun b' g' hne => if_neg (by rintro ⟨h, _⟩; exact hne h)
  have hρb : (G.turn w b (.row sz g2 lo ys) (some blk)).ρ b g2 = some blk := if_pos ⟨rfl, rfl⟩
  refine { os := by rw [Gh.turn, hw], tape := by rw [Gh.turn, hw], output := by rw [Gh.turn, hw], size := by simp [Gh.turn, hw], old := ?_, shape := ?_, frozen := fun _ _ h => h, cell := ?_, fmap := ?_, thaw := fun _ _ h _ => .inl h, len := by simp [Gh.turn], id := ?_, at_ := ?_, own := ?_, time := Nat.le_refl _, zin := fun _ h => .inr h, zout := fun _ h => h, foe := rfl }
  · intro k hk ho _
    exact hother k fun e => ho (e ▸ ⟨b, _, hb, rfl, hr⟩)
  · intro k d e' fz' hk
    by_cases ek : k = blk
    · subst ek
      rw [hc] at hk
      cases hk
      exact ⟨c', hsame, hs⟩
    · exact ⟨d, (hother k ek).trans hk, rfl⟩
  · intro k o ho
    by_cases ek : k = blk
    · subst ek
      have := hlo o (hφ o ho)
      simp only [Gh.turn, World.cell?, hsame, hc]
      simpa using this
    · exact World.cell?_of_block (a := ⟨k, o, none⟩) (hother k ek)
  · intro k ents ck ho hk
    by_cases ek : k = blk
    · subst ek; rw [hc] at hk; cases hk
    · exact (hother k ek).trans hk
  · intro b' k' hk'
    by_cases eb : b' = b
    · subst eb
      rw [hb] at hk'
      cases hk'
      exact ⟨_, sto_set_same hb, hg2, rfl⟩
    · exact ⟨k', (sto_set_other eb).trans hk', Nat.le_refl _, rfl⟩
  · intro b' k' g' hk' hg'
    show (if b' = b ∧ g' = g2 then some blk else G.ρ b' g') = G.ρ b' g'
    by_cases h : b' = b ∧ g' = g2
    · obtain ⟨rfl, rfl⟩ := h
      rw [hb] at hk'
      cases hk'
      have : g' = g := Nat.le_antisymm hg' hg2
      rw [if_pos ⟨rfl, rfl⟩, this, hr]
    · rw [if_neg h]
  · rintro k ⟨b', k', hk', hlv, hr'⟩
    rcases sto_set_cases hk' with ⟨hb', h⟩ | ⟨h1, h2, _⟩
    · rw [hρ _ _ hb'] at hr'
      exact .inr ⟨b', k', h, hlv, hr'⟩
    · subst h1 h2
      rw [show (ABlk.row sz g2 lo ys).gen = g2 from rfl, hρb] at hr'
      cases hr'
      exact .inr ⟨b', _, hb, rfl, hr⟩

theorem inv_put {G : Gh} (inv : Inv G) {w : World} {b sz g lo : Nat} {xs ys : List AV} {blk : Nat} {c c' : Array Value} {e : TypeId} {fz : Nat × Nat} {g2 : Nat}
    (hb : G.σ[b]? = some (.row sz g lo xs)) (hr : G.ρ b g = some blk) (hc : G.w.heap[blk]? = some (.cells c e fz)) (hw : w = { G.w with heap := G.w.heap.setIfInBounds blk (.cells c' e fz) })
    (hs : c'.size = c.size) (x : Ext G (G.turn w b (.row sz g2 lo ys) (some blk))) (hrow : RowAt G ys c' sz) (hlen : lo ≤ ys.length) : Inv (G.turn w b (.row sz g2 lo ys) (some blk)) := by
  have hlt := (Array.getElem?_eq_some_iff.1 hc).1
  have hsame : w.heap[blk]? = some (.cells c' e fz) := by rw [hw]; simp [hlt]
  have hother : ∀ j, j ≠ blk → w.heap[j]? = G.w.heap[j]? := fun j hj => by rw [hw]; simp only; rw [Array.getElem?_setIfInBounds_ne (by omega)]
  have hρ : ∀ b' g', b' ≠ b → (G.turn w b (.row sz g2 lo ys) (some blk)).ρ b' g' = G.ρ b' g' := fun b' g' hne => if_neg (by rintro ⟨h, _⟩; exact hne h)
  have hρb : (G.turn w b (.row sz g2 lo ys) (some blk)).ρ b g2 = some blk := if_pos ⟨rfl, rfl⟩
  have hne : ∀ b' k' blk', b' ≠ b → G.σ[b']? = some k' → G.ρ b' k'.gen = some blk' → blk' ≠ blk := fun b' k' blk' hne hk' hr' e => hne (inv.inj b' b k' _ blk hk' hb (e ▸ hr') hr)
  refine { rows := ?_, maps := ?_, inj := ?_, lt := fun k o h => Nat.lt_of_lt_of_le (inv.lt k o h) x.size, held := inv.held_ext x rfl, stab := inv.stab, zlt := fun blk h => Nat.lt_of_lt_of_le (inv.zlt blk h) x.size, znone := inv.znone, deads := (fun b' sz' g' blk' h hr => by
            rcases sto_set_cases h with ⟨hb', h⟩ | ⟨h1, h2, _⟩
            · rw [hρ _ _ hb'] at hr
              exact Nat.lt_of_lt_of_le (inv.deads b' sz' g' blk' h hr) x.size
            · cases h2), its := (fun b' s i h => by
            rcases sto_set_cases h with ⟨hb', h⟩ | ⟨h1, h2, _⟩
            · obtain ⟨blk', q1, q2⟩ := inv.its b' s i h
              exact ⟨blk', (hρ _ _ hb').trans q1, (hother blk' (hne b' _ blk' hb' h q1)).trans q2⟩
            · cases h2), tks := fun b' n h => by
            rcases sto_set_cases h with ⟨hb', h⟩ | ⟨h1, h2, _⟩
            · obtain ⟨q1, q2⟩ := inv.tks b' n h
              exact ⟨q1, fun g' => (hρ b' g' hb').trans (q2 g')⟩
            · cases h2 }
  · intro b' s g' lo' zs hk'
    rcases sto_set_cases hk' with ⟨hb', hk'⟩ | ⟨h1, h2, _⟩
    · obtain ⟨r1, r2, r3⟩ := inv.rows b' s g' lo' zs hk'
      refine ⟨r1, fun blk' hblk => ?_, fun hn => r3 ((hρ _ _ hb').symm.trans hn)⟩
      rw [hρ _ _ hb'] at hblk
      obtain ⟨d, e', fz', q1, q2, q3, q4⟩ := r2 blk' hblk
      exact ⟨d, e', fz', (hother blk' (hne b' _ blk' hb' hk' hblk)).trans q1, q2, q3.ext x, q4⟩
    · cases h2
      subst h1
      obtain ⟨r1, r2, r3⟩ := inv.rows b' sz g lo xs hb
      obtain ⟨d, e', fz', q1, q2, q3, q4⟩ := r2 blk hr
      refine ⟨hlen, fun blk' hblk => ?_, fun hn => by rw [hρb] at hn; cases hn⟩
      rw [hρb] at hblk
      cases hblk
      rw [hc] at q1
      cases q1
      exact ⟨c', e, fz, hsame, by rw [hs]; exact q2, hrow.ext x, q4⟩
  · intro b' es hk'
    rcases sto_set_cases hk' with ⟨hb', hk'⟩ | ⟨h1, h2, _⟩
    · obtain ⟨blk', ents, ck, q1, q2, q3, q4⟩ := inv.maps b' es hk'
      exact ⟨blk', ents, ck, (hρ _ _ hb').trans q1, (hother blk' (hne b' _ blk' hb' hk' q1)).trans q2, q3.ext x, q4⟩
    · cases h2
  · intro b1 b2 k1 k2 bk h1 h2 hr1 hr2
    rcases sto_set_cases h1 with ⟨e1, q1⟩ | ⟨e1, f1, _⟩ <;> rcases sto_set_cases h2 with ⟨e2, q2⟩ | ⟨e2, f2, _⟩
    · rw [hρ _ _ e1] at hr1
      rw [hρ _ _ e2] at hr2
      exact inv.inj b1 b2 k1 k2 bk q1 q2 hr1 hr2
    · rw [hρ _ _ e1] at hr1
      subst e2 f2
      rw [show (ABlk.row sz g2 lo ys).gen = g2 from rfl, hρb] at hr2
      cases hr2
      exact inv.inj b1 b2 k1 _ blk q1 hb hr1 hr
    · rw [hρ _ _ e2] at hr2
      subst e1 f1
      rw [show (ABlk.row sz g2 lo ys).gen = g2 from rfl, hρb] at hr1
      cases hr1
      exact inv.inj b1 b2 _ k2 blk hb q2 hr hr2
    · omega

/-- a row lies in a new block from now on (an append that grew), with a generation more -/
theorem ext_move {G : Gh} (inv : Inv G) {w : World} {b sz g lo : Nat} {xs ys : List AV} (at_ : Option Nat)
    (hb : G.σ[b]? = some (.row sz g lo xs))
    (h1 : w.os = G.w.os) (h2 : w.tape = G.w.tape) (h3 : w.output = G.w.output) (h4 : G.w.heap.size ≤ w.heap.size)
    (h5 : ∀ j, j < G.w.heap.size → w.heap[j]? = G.w.heap[j]?) (h6 : ∀ j, at_ = some j → G.w.heap.size ≤ j) : Ext G (G.turn w b (.row sz (g + 1) lo ys) at_) where
  os := h1
  tape := h2
  output := h3
  size := h4
  old := fun blk hb _ _ => h5 blk hb
  shape := fun blk c e fz h => ⟨c, (h5 blk (Array.getElem?_eq_some_iff.1 h).1).trans h, rfl⟩
  frozen := fun _ _ h => h
  cell := fun b o h => World.cell?_of_block (a := ⟨b, o, none⟩) (h5 b (inv.lt b o h))
  fmap := fun b ents ck h hb => (h5 b (inv.lt b 0 h)).trans hb
  thaw := fun b o h _ => .inl h
  len := by simp [Gh.turn]
  id := fun b' k' h => by
    by_cases eb : b' = b
    · subst eb
      rw [hb] at h
      cases h
      exact ⟨_, sto_set_same hb, by simp [ABlk.gen], rfl⟩
    · exact ⟨k', (sto_set_other eb).trans h, Nat.le_refl _, rfl⟩
  at_ := fun b' k' g' h hg => by
    show (if b' = b ∧ g' = g + 1 then at_ else G.ρ b' g') = G.ρ b' g'
    by_cases hh : b' = b ∧ g' = g + 1
    · obtain ⟨rfl, rfl⟩ := hh
      rw [hb] at h
      cases h
      simp only [ABlk.gen] at hg
      omega
    · rw [if_neg hh]
  own := fun blk h => by
    obtain ⟨b', k', hk, hlv, hr⟩ := h
    replace hr : (if b' = b ∧ k'.gen = g + 1 then at_ else G.ρ b' k'.gen) = some blk := hr
    rcases sto_set_cases hk with ⟨hb', hk⟩ | ⟨h1, h2, _⟩
    · rw [if_neg (by rintro ⟨h, _⟩; exact hb' h)] at hr
      exact .inr ⟨b', k', hk, hlv, hr⟩
    · subst h1 h2
      rw [if_pos ⟨rfl, rfl⟩] at hr
      exact .inl (h6 blk hr)
  time := Nat.le_refl _
  zin := fun _ h => .inr h
  zout := fun _ h => h
  foe := rfl

theorem inv_move {G : Gh} (inv : Inv G) {w : World} {b sz g lo : Nat} {xs ys : List AV} (at_ : Option Nat)
    (hb : G.σ[b]? = some (.row sz g lo xs)) (x : Ext G (G.turn w b (.row sz (g + 1) lo ys) at_))
    (h5 : ∀ j, j < G.w.heap.size → w.heap[j]? = G.w.heap[j]?)
    (h6 : ∀ j, at_ = some j → G.w.heap.size ≤ j ∧ ∃ c e fz, w.heap[j]? = some (.cells c e fz) ∧ Unfrozen c.size fz ∧ RowAt G ys c sz) (h7 : at_ = none → ys = []) (hlen : lo ≤ ys.length) :
    Inv (G.turn w b (.row sz (g + 1) lo ys) at_) where
  rows := fun b' s g' lo' zs hk' => by
    rcases sto_set_cases hk' with ⟨hb', hk'⟩ | ⟨h1, h2, _⟩
    · obtain ⟨r1, r2, r3⟩ := inv.rows b' s g' lo' zs hk'
      have hρ : (G.turn w b (.row sz (g + 1) lo ys) at_).ρ b' g' = G.ρ b' g' := if_neg (by rintro ⟨h, _⟩; exact hb' h)
      refine ⟨r1, fun blk hblk => ?_, fun hn => r3 (hρ ▸ hn)⟩
      obtain ⟨c, e, fz, q1, q2, q3, q4⟩ := r2 blk (hρ ▸ hblk)
      exact ⟨c, e, fz, (h5 blk (Array.getElem?_eq_some_iff.1 q1).1).trans q1, q2, q3.ext x, q4⟩
    · cases h2
      have hρ : (G.turn w b (.row sz (g + 1) lo ys) at_).ρ b' (g + 1) = at_ := if_pos ⟨h1, rfl⟩
      refine ⟨hlen, fun blk hblk => ?_, fun hn => h7 (hρ ▸ hn)⟩
      obtain ⟨hsz, c, e, fz, q1, q2, q3⟩ := h6 blk (hρ ▸ hblk)
      exact ⟨c, e, fz, q1, q2, q3.ext x, fun o _ hf => by have := inv.lt blk o hf; omega⟩
  maps := fun b' es hk' => by
    rcases sto_set_cases hk' with ⟨hb', hk'⟩ | ⟨h1, h2, _⟩
    · obtain ⟨blk, ents, ck, q1, q2, q3, q4⟩ := inv.maps b' es hk'
      have hρ : (G.turn w b (.row sz (g + 1) lo ys) at_).ρ b' 1 = G.ρ b' 1 := if_neg (by rintro ⟨h, _⟩; exact hb' h)
      exact ⟨blk, ents, ck, hρ.trans q1, (h5 blk (Array.getElem?_eq_some_iff.1 q2).1).trans q2, q3.ext x, q4⟩
    · cases h2
  inj := fun b1 b2 k1 k2 bk h1 h2 hr1 hr2 => by
    have hlt : ∀ b k blk, G.σ[b]? = some k → G.ρ b k.gen = some blk → blk < G.w.heap.size := fun b k blk h hr => inv.blk_lt h hr
    replace hr1 : (if b1 = b ∧ k1.gen = g + 1 then at_ else G.ρ b1 k1.gen) = some bk := hr1
    replace hr2 : (if b2 = b ∧ k2.gen = g + 1 then at_ else G.ρ b2 k2.gen) = some bk := hr2
    rcases sto_set_cases h1 with ⟨e1, h1⟩ | ⟨e1, f1, _⟩ <;> rcases sto_set_cases h2 with ⟨e2, h2⟩ | ⟨e2, f2, _⟩
    · rw [if_neg (by rintro ⟨h, _⟩; exact e1 h)] at hr1
      rw [if_neg (by rintro ⟨h, _⟩; exact e2 h)] at hr2
      exact inv.inj b1 b2 k1 k2 bk h1 h2 hr1 hr2
    · rw [if_neg (by rintro ⟨h, _⟩; exact e1 h)] at hr1
      rw [if_pos ⟨e2, by rw [f2]; rfl⟩] at hr2
      have := hlt b1 k1 bk h1 hr1
      have := (h6 bk hr2).1
      omega
    · rw [if_pos ⟨e1, by rw [f1]; rfl⟩] at hr1
      rw [if_neg (by rintro ⟨h, _⟩; exact e2 h)] at hr2
      have := hlt b2 k2 bk h2 hr2
      have := (h6 bk hr1).1
      omega
    · omega
  lt := fun b o h => Nat.lt_of_lt_of_le (inv.lt b o h) x.size
  tks := fun b' n h => by
    rcases sto_set_cases h with ⟨hb', h⟩ | ⟨h1, h2, _⟩
    · obtain ⟨q1, q2⟩ := inv.tks b' n h
      exact ⟨q1, fun g' => (if_neg (by rintro ⟨h, _⟩; exact hb' h) : (if b' = b ∧ g' = _ then _ else G.ρ b' g') = _).trans (q2 g')⟩
    · cases h2
  held := inv.held_ext x rfl
  stab := inv.stab
  zlt := fun blk h => Nat.lt_of_lt_of_le (inv.zlt blk h) x.size
  znone := inv.znone
  its := fun b' s i h => by
    rcases sto_set_cases h with ⟨hb', h⟩ | ⟨h1, h2, _⟩
    · obtain ⟨blk, q1, q2⟩ := inv.its b' s i h
      have hρ : (G.turn w b (.row sz (g + 1) lo ys) at_).ρ b' 0 = G.ρ b' 0 := if_neg (by rintro ⟨h, _⟩; exact hb' h)
      exact ⟨blk, hρ.trans q1, (h5 blk (Array.getElem?_eq_some_iff.1 q2).1).trans q2⟩
    · cases h2
  deads := fun b' sz' g' blk h hr => by
    rcases sto_set_cases h with ⟨hb', h⟩ | ⟨h1, h2, _⟩
    · have hr' : (if b' = b ∧ g' = _ then _ else G.ρ b' g') = some blk := hr
      rw [if_neg (by rintro ⟨h, _⟩; exact hb' h)] at hr'
      exact Nat.lt_of_lt_of_le (inv.deads b' sz' g' blk h hr') x.size
    · cases h2
/-- a map is made where one was set aside -/
theorem ext_born {G : Gh} (inv : Inv G) {w : World} {b : Nat} (at_ : Option Nat)
    (hb : G.σ[b]? = some (.tick 0))
    (h1 : w.os = G.w.os) (h2 : w.tape = G.w.tape) (h3 : w.output = G.w.output) (h4 : G.w.heap.size ≤ w.heap.size)
    (h5 : ∀ j, j < G.w.heap.size → w.heap[j]? = G.w.heap[j]?) (h6 : ∀ j, at_ = some j → G.w.heap.size ≤ j) : Ext G (G.turn w b (.map []) at_) where
  os := h1
  tape := h2
  output := h3
  size := h4
  old := fun blk hb _ _ => h5 blk hb
  shape := fun blk c e fz h => ⟨c, (h5 blk (Array.getElem?_eq_some_iff.1 h).1).trans h, rfl⟩
  frozen := fun _ _ h => h
  cell := fun b o h => World.cell?_of_block (a := ⟨b, o, none⟩) (h5 b (inv.lt b o h))
  fmap := fun b ents ck h hb => (h5 b (inv.lt b 0 h)).trans hb
  thaw := fun b o h _ => .inl h
  len := by simp [Gh.turn]
  id := fun b' k' h => by
    by_cases eb : b' = b
    · subst eb
      rw [hb] at h
      cases h
      exact ⟨_, sto_set_same hb, by simp [ABlk.gen], rfl⟩
    · exact ⟨k', (sto_set_other eb).trans h, Nat.le_refl _, rfl⟩
  at_ := fun b' k' g' h hg => by
    show (if b' = b ∧ g' = 1 then at_ else G.ρ b' g') = G.ρ b' g'
    by_cases hh : b' = b ∧ g' = 1
    · obtain ⟨rfl, rfl⟩ := hh
      rw [hb] at h
      cases h
      simp only [ABlk.gen] at hg
      omega
    · rw [if_neg hh]
  own := fun blk h => by
    obtain ⟨b', k', hk, hlv, hr⟩ := h
    replace hr : (if b' = b ∧ k'.gen = 1 then at_ else G.ρ b' k'.gen) = some blk := hr
    rcases sto_set_cases hk with ⟨hb', hk⟩ | ⟨h1, h2, _⟩
    · rw [if_neg (by rintro ⟨h, _⟩; exact hb' h)] at hr
      exact .inr ⟨b', k', hk, hlv, hr⟩
    · subst h1 h2
      rw [if_pos ⟨rfl, rfl⟩] at hr
      exact .inl (h6 blk hr)
  time := Nat.le_refl _
  zin := fun _ h => .inr h
  zout := fun _ h => h
  foe := rfl

theorem inv_born {G : Gh} (inv : Inv G) {w : World} {b j : Nat}
    (hb : G.σ[b]? = some (.tick 0)) (x : Ext G (G.turn w b (.map []) (some j)))
    (h5 : ∀ j, j < G.w.heap.size → w.heap[j]? = G.w.heap[j]?)
    (hj : G.w.heap.size ≤ j) (hm : w.heap[j]? = some (.map #[] 0)) :
    Inv (G.turn w b (.map []) (some j)) where
  rows := fun b' s g' lo' zs hk' => by
    rcases sto_set_cases hk' with ⟨hb', hk'⟩ | ⟨h1, h2, _⟩
    · obtain ⟨r1, r2, r3⟩ := inv.rows b' s g' lo' zs hk'
      have hρ : (G.turn w b (.map []) (some j)).ρ b' g' = G.ρ b' g' := if_neg (by rintro ⟨h, _⟩; exact hb' h)
      refine ⟨r1, fun blk hblk => ?_, fun hn => r3 (hρ ▸ hn)⟩
      obtain ⟨c, e, fz, q1, q2, q3, q4⟩ := r2 blk (hρ ▸ hblk)
      exact ⟨c, e, fz, (h5 blk (Array.getElem?_eq_some_iff.1 q1).1).trans q1, q2, q3.ext x, q4⟩
    · cases h2
  maps := fun b' es hk' => by
    rcases sto_set_cases hk' with ⟨hb', hk'⟩ | ⟨h1, h2, _⟩
    · obtain ⟨blk, ents, ck, q1, q2, q3, q4⟩ := inv.maps b' es hk'
      have hρ : (G.turn w b (.map []) (some j)).ρ b' 1 = G.ρ b' 1 := if_neg (by rintro ⟨h, _⟩; exact hb' h)
      exact ⟨blk, ents, ck, hρ.trans q1, (h5 blk (Array.getElem?_eq_some_iff.1 q2).1).trans q2, q3.ext x, q4⟩
    · cases h2
      exact ⟨j, #[], 0, if_pos ⟨h1, rfl⟩, hm, .nil, fun o hf => by have := inv.lt j o hf; omega⟩
  inj := fun b1 b2 k1 k2 bk h1 h2 hr1 hr2 => by
    have hlt : ∀ b k blk, G.σ[b]? = some k → G.ρ b k.gen = some blk → blk < G.w.heap.size := fun b k blk h hr => inv.blk_lt h hr
    replace hr1 : (if b1 = b ∧ k1.gen = 1 then some j else G.ρ b1 k1.gen) = some bk := hr1
    replace hr2 : (if b2 = b ∧ k2.gen = 1 then some j else G.ρ b2 k2.gen) = some bk := hr2
    rcases sto_set_cases h1 with ⟨e1, h1⟩ | ⟨e1, f1, _⟩ <;> rcases sto_set_cases h2 with ⟨e2, h2⟩ | ⟨e2, f2, _⟩
    · rw [if_neg (by rintro ⟨h, _⟩; exact e1 h)] at hr1
      rw [if_neg (by rintro ⟨h, _⟩; exact e2 h)] at hr2
      exact inv.inj b1 b2 k1 k2 bk h1 h2 hr1 hr2
    · rw [if_neg (by rintro ⟨h, _⟩; exact e1 h)] at hr1
      rw [if_pos ⟨e2, by rw [f2]; rfl⟩] at hr2
      have := hlt b1 k1 bk h1 hr1
      cases hr2
      omega
    · rw [if_pos ⟨e1, by rw [f1]; rfl⟩] at hr1
      rw [if_neg (by rintro ⟨h, _⟩; exact e2 h)] at hr2
      have := hlt b2 k2 bk h2 hr2
      cases hr1
      omega
    · omega
  lt := fun b o h => Nat.lt_of_lt_of_le (inv.lt b o h) x.size
  tks := fun b' n h => by
    rcases sto_set_cases h with ⟨hb', h⟩ | ⟨h1, h2, _⟩
    · obtain ⟨q1, q2⟩ := inv.tks b' n h
      exact ⟨q1, fun g' => (if_neg (by rintro ⟨h, _⟩; exact hb' h) : (if b' = b ∧ g' = _ then _ else G.ρ b' g') = _).trans (q2 g')⟩
    · cases h2
  held := inv.held_ext x rfl
  stab := inv.stab
  zlt := fun blk h => Nat.lt_of_lt_of_le (inv.zlt blk h) x.size
  znone := inv.znone
  its := fun b' s i h => by
    rcases sto_set_cases h with ⟨hb', h⟩ | ⟨h1, h2, _⟩
    · obtain ⟨blk, q1, q2⟩ := inv.its b' s i h
      have hρ : (G.turn w b (.map []) (some j)).ρ b' 0 = G.ρ b' 0 := if_neg (by rintro ⟨h, _⟩; exact hb' h)
      exact ⟨blk, hρ.trans q1, (h5 blk (Array.getElem?_eq_some_iff.1 q2).1).trans q2⟩
    · cases h2
  deads := fun b' sz' g' blk h hr => by
    rcases sto_set_cases h with ⟨hb', h⟩ | ⟨h1, h2, _⟩
    · have hr' : (if b' = b ∧ g' = _ then _ else G.ρ b' g') = some blk := hr
      rw [if_neg (by rintro ⟨h, _⟩; exact hb' h)] at hr'
      exact Nat.lt_of_lt_of_le (inv.deads b' sz' g' blk h hr') x.size
    · cases h2
end Go.Proofs.YtgpkochbmfhmdaaGreatDoor.Lift
namespace Go.Proofs.YtgpkochbmfhmdaaGreatDoor.Lift
open Go

@[simp] def okc : Value → Bool
  | .bool _ | .int .. | .string _ | .pointer none | .nilFunc | .map none | .slice none 0 0 => true
  | _ => false

theorem rep_const (G : Gh) (v : Value) : Rep G (ofConst v) v := by
  cases v with
  | bool b => exact .bool b
  | int k n => exact .int k n
  | string s => exact .str s
  | pointer a => cases a with
    | none => exact .nilp
    | some a => exact .undef _
  | slice a n c => cases a with
    | none => cases n with
      | zero => cases c with
        | zero => exact .snil
        | succ c => exact .undef _
      | succ n => exact .undef _
    | some a => exact .undef _
  | map r => cases r with
    | none => exact .nilm
    | some r => exact .undef _
  | nilFunc => exact .nilf
  | _ => exact .undef _

theorem ofConst_scal (v : Value) (h : okc v = true) : (ofConst v).scal = true := by
  cases v with
  | pointer a => cases a <;> simp_all
  | slice a n c => cases a <;> cases n <;> cases c <;> simp_all
  | map r => cases r <;> simp_all
  | _ => simp_all

def tdOf : TypeDesc → TD
  | .int k => .int k
  | .bool => .bool
  | .string => .str
  | .pointer e => .ptr e
  | .slice e => .slice e
  | .array n e => .array n e
  | .map k e => .map k e
  | .struct fs => .struct (fs.toList.map fun f => (f.offset, f.type))
  | .func .. => .func
  | _ => .other

mutual
/-- the kinds of the cells of a type of whose values '==' is '==' of all cells -/
def eqKs (P : Program) : Nat → TypeId → Option (List TD)
  | 0, _ => none
  | d + 1, t => if (P.info? t).isSome = true then (match P.underlying t with
    | some (.int k) => if P.cellsOf t = 1 then some [.int k] else none
    | some .bool => if P.cellsOf t = 1 then some [.bool] else none
    | some .string => if P.cellsOf t = 1 then some [.str] else none
    | some (.struct fs) => if P.stoodInHeld t = false then eqFs P d fs.toList 0 (P.cellsOf t) else none
    | some (.array n e) => (match eqKs P d e with
      | some ks => if P.cellsOf t = n * P.cellsOf e ∧ n ≤ 64 then some (List.replicate n ks).flatten else none
      | none => none)
    | _ => none) else none
def eqFs (P : Program) : Nat → List Field → Nat → Nat → Option (List TD)
  | _, [], off, n => if off = n then some [] else none
  | 0, _ :: _, _, _ => none
  | d + 1, f :: fs, off, n => if f.name ≠ "_" ∧ f.offset = off then (match eqKs P d f.type, eqFs P d fs (off + P.cellsOf f.type) n with
    | some a, some b => some (a ++ b)
    | _, _ => none) else none
end

def isAggD : TypeDesc → Bool
  | .struct _ | .array _ _ => true
  | _ => false
def isAggV : Value → Bool
  | .agg _ => true
  | _ => false

/-- what the program's table says of a type -/
def tiOf (P : Program) (t : TypeId) : Option TI :=
  match P.info? t, P.underlying t with
  | some i, some d => match i.zero with
    | some z => if z.cells.toList.all okc = true ∧ z.cells.size = i.size ∧ isAggV z = isAggD d then
        some { d := tdOf d, size := i.size, zero := z.cells.toList.map ofConst, bytes := i.bytes, eq := if P.eqGuardType P.depth t = false then eqKs P 40 t else none }
      else none
    | none => none
  | _, _ => none

structure TFacts (P : Program) (t : TypeId) (ti : TI) (i : TypeInfo) (d : TypeDesc) (z : Value) : Prop where
  info : P.info? t = some i
  und : P.underlying t = some d
  zero : i.zero = some z
  okz : z.cells.toList.all okc = true
  zsize : z.cells.size = i.size
  zagg : isAggV z = isAggD d
  d : ti.d = tdOf d
  size : ti.size = i.size
  zs : ti.zero = z.cells.toList.map ofConst
  bytes : ti.bytes = i.bytes
  eq : ti.eq = if P.eqGuardType P.depth t = false then eqKs P 40 t else none

theorem tiOf_facts {P : Program} {t : TypeId} {ti : TI} (h : tiOf P t = some ti) : ∃ i d z, TFacts P t ti i d z := by
  unfold tiOf at h
  split at h
  · rename_i i d hi hd
    split at h
    · rename_i z hz
      split at h
      · rename_i hc
        cases h
        exact ⟨i, d, z, hi, hd, hz, hc.1, hc.2.1, hc.2.2, rfl, rfl, rfl, rfl, rfl⟩
      · cases h
    · cases h
  · cases h

section
variable {P : Program} {t : TypeId} {ti : TI} {i : TypeInfo} {d : TypeDesc} {z : Value} (F : TFacts P t ti i d z) (w : World)
include F
theorem TFacts.run_info : (typeInfo t).run P w = .ok i w := by simp [typeInfo, F.info]
theorem TFacts.run_size : (sizeOf t).run P w = .ok ti.size w := by simp [sizeOf, F.run_info, F.size]
theorem TFacts.run_und : (underlying t).run P w = .ok d w := run_underlying F.und w
theorem TFacts.run_zero : (zeroValue t).run P w = .ok z w := by simp [zeroValue, F.run_info, F.zero]
theorem TFacts.agg : ti.agg = isAggD d := by
  simp only [TI.agg, F.d]
  cases d <;> rfl
theorem TFacts.run_agg : (isAgg t).run P w = .ok ti.agg w := by
  rw [F.agg]
  simp only [isAgg, Sem.run_bind, F.run_und, Result.andThen_ok]
  cases d <;> rfl
theorem TFacts.rep_zero (G : Gh) : RepL G ti.zero z.cells.toList := by
  rw [F.zs]
  exact RepL.of_get (by simp) fun i x u hx hu => by
    rw [List.getElem?_map, hu] at hx
    cases hx
    exact rep_const G u
theorem TFacts.zero_len : ti.zero.length = ti.size := by rw [F.zs, F.size, ← F.zsize]; simp
theorem TFacts.zero_mkv : mkv ti.agg ti.zero = if ti.agg = true then .agg ti.zero else ofConst z := by
  cases ha : ti.agg with
  | true => rfl
  | false =>
    have hz := F.zagg
    rw [← F.agg, ha] at hz
    have : ti.zero = [ofConst z] := by
      rw [F.zs]
      cases z <;> simp_all [isAggV, Value.cells]
    simp [this]
end

/-- the part of a value whose cells lie in memory is loaded -/
theorem run_loadPart {P : Program} {G : Gh} {t : TypeId} {ti : TI} (ht : tiOf P t = some ti) {x v : AV} {off blk base : Nat} (h : part ti x off = some v)
    (hc : ∀ j y, x.cells[j]? = some y → ∃ u, G.w.cell? ⟨blk, base + j, none⟩ = some u ∧ Rep G y u) :
    ∃ u, (loadVar t ⟨blk, base + off, none⟩).run P G.w = .ok u G.w ∧ Rep G v u := by
  obtain ⟨i, d, z, F⟩ := tiOf_facts ht
  have many : ∀ (n off : Nat), off + n ≤ x.cells.length → ∃ us : List Value, us.length = n ∧ (loadCells ⟨blk, base + off, none⟩ n).run P G.w = .ok us.toArray G.w ∧ RepL G ((x.cells.drop off).take n) us := by
    intro n off hn
    have hex : ∀ j, ∃ u, j < n → G.w.cell? ⟨blk, base + off + j, none⟩ = some u ∧ ∃ y, x.cells[off + j]? = some y ∧ Rep G y u := fun j => by
      by_cases hj : j < n
      · obtain ⟨y, hy⟩ : ∃ y, x.cells[off + j]? = some y := ⟨_, List.getElem?_eq_getElem (by omega)⟩
        obtain ⟨u, h1, h2⟩ := hc _ _ hy
        exact ⟨u, fun _ => ⟨by rwa [← Nat.add_assoc] at h1, y, hy, h2⟩⟩
      · exact ⟨undef, fun h => absurd h hj⟩
    obtain ⟨f, hf⟩ := Classical.axiomOfChoice hex
    refine ⟨(List.range n).map f, by simp, ?_, ?_⟩
    · exact run_loadCells G.w ⟨blk, base + off, none⟩ n f fun j hj => by rw [Addr.add_lit]; exact (hf j hj).1
    · refine RepL.of_get (by rw [List.length_take, List.length_drop, List.length_map, List.length_range]; omega) fun j y u hy hu => ?_
      have hj : j < n := by
        rcases Nat.lt_or_ge j n with h | h
        · exact h
        · rw [List.getElem?_eq_none (by simp; omega)] at hu; cases hu
      rw [List.getElem?_take_of_lt hj, List.getElem?_drop] at hy
      rw [List.getElem?_map, List.getElem?_range hj] at hu
      cases hu
      obtain ⟨_, y', hy', hr⟩ := hf j hj
      rw [hy] at hy'
      cases hy'
      exact hr
  simp only [part] at h
  simp only [loadVar, Sem.run_bind, F.run_agg, Result.andThen_ok]
  split at h
  · rename_i hw
    cases h
    obtain ⟨rfl, hxa, ha, hl⟩ := hw
    obtain ⟨us, hlen, hrun, hrep⟩ := many ti.size 0 (by omega)
    refine ⟨.agg us.toArray, ?_, ?_⟩
    · simp only [ha, if_true, Sem.run_bind, F.run_size, Result.andThen_ok, hrun, Sem.run_pure]
    · cases x <;> simp at hxa
      rw [List.drop_zero, List.take_of_length_le (by simp at hl ⊢; omega)] at hrep
      exact .agg hrep
  · split at h
    · rename_i ha
      split at h
      · rename_i hl
        cases h
        obtain ⟨us, hlen, hrun, hrep⟩ := many ti.size off hl
        exact ⟨.agg us.toArray, by simp only [ha, if_true, Sem.run_bind, F.run_size, Result.andThen_ok, hrun, Sem.run_pure], .agg hrep⟩
      · cases h
    · rename_i ha
      obtain ⟨u, h1, h2⟩ := hc _ _ h
      exact ⟨u, by simp only [ha, Bool.false_eq_true, if_false, run_load, h1], h2⟩

theorem run_loadAt {P : Program} {G : Gh} (inv : Inv G) {t : TypeId} {ti : TI} (ht : tiOf P t = some ti) {p v : AV} {r : Value} (hp : Rep G p r) (h : loadAt ti G.σ p = some v) :
    ∃ u, (Instr.loadAt t r).run P G.w = .ok u G.w ∧ Rep G v u := by
  cases hp with
  | rp hx =>
    simp only [loadAt] at h
    obtain ⟨u, h1, h2⟩ := run_loadPart (P := P) ht h fun j y hy => let ⟨u, _, hc, hr⟩ := hx.get hy; ⟨u, hc, hr⟩
    exact ⟨u, by simpa [Instr.loadAt, Instr.sureAddr] using h1, h2⟩
  | ptr hid hr =>
    rename_i b g i off sz blk
    simp only [loadAt] at h
    split at h
    · rename_i s g' lo xs hb
      split at h
      · rename_i hg
        subst hg
        split at h
        · rename_i x hx
          obtain ⟨_, r2, _⟩ := inv.rows b s g lo xs hb
          obtain ⟨c, e, fz, q1, q2, q3, q4⟩ := r2 blk hr
          have hs : s = sz := by
            obtain ⟨k, hk, _, hk2⟩ := hid
            rw [hb] at hk; cases hk; simpa [ABlk.sz] using hk2
          subst hs
          obtain ⟨u, h1, h2⟩ := run_loadPart (P := P) (blk := blk) (base := i * s) ht h fun j y hy => by
            obtain ⟨v, hv1, hv2⟩ := (q3 i x hx).2 j y hy
            exact ⟨v, by simp [World.cell?, q1, hv1], hv2⟩
          exact ⟨u, by simpa [Instr.loadAt, Instr.sureAddr] using h1, h2⟩
        · cases h
      · cases h
    · cases h
  | _ => cases h

/-- cells that are put in a row -/
def putCells : Array Value → Nat → List Value → Array Value
  | c, _, [] => c
  | c, o, v :: vs => putCells (c.setIfInBounds o v) (o + 1) vs
theorem putCells_size : ∀ (vs : List Value) (c : Array Value) (o : Nat), (putCells c o vs).size = c.size
  | [], _, _ => rfl
  | _ :: vs, c, o => by simp [putCells, putCells_size vs]
theorem putCells_get : ∀ (vs : List Value) (c : Array Value) (o j : Nat), o + vs.length ≤ c.size → (putCells c o vs)[j]? = if o ≤ j ∧ j < o + vs.length then vs[j - o]? else c[j]?
  | [], c, o, j, _ => by rw [if_neg (by simp only [List.length_nil]; omega)]; rfl
  | v :: vs, c, o, j, h => by
    simp only [List.length_cons] at h
    rw [putCells, putCells_get vs _ (o + 1) j (by simp; omega)]
    by_cases h1 : o + 1 ≤ j ∧ j < o + 1 + vs.length
    · rw [if_pos h1, if_pos (by simp; omega), show j - o = (j - (o + 1)) + 1 by omega]
      rfl
    · rw [if_neg h1]
      by_cases h2 : j = o
      · subst h2
        rw [if_pos (by simp), Nat.sub_self, Array.getElem?_setIfInBounds_self, if_pos (by omega)]
        simp
      · rw [if_neg (by simp; omega), Array.getElem?_setIfInBounds_ne (by omega)]

theorem run_storeCells {P : Program} {blk : Nat} {e : TypeId} {fz : Nat × Nat} : ∀ (vs : List Value) (w : World) (c : Array Value) (o i : Nat), w.heap[blk]? = some (.cells c e fz) → Unfrozen c.size fz →
    o + i + vs.length ≤ c.size → (∀ v ∈ vs, v.oneCell' = true) →
    (storeCells ⟨blk, o, none⟩ vs i).run P w = .ok () { w with heap := w.heap.setIfInBounds blk (.cells (putCells c (o + i) vs) e fz) }
  | [], w, c, o, i, hb, _, _, _ => by
    simp only [storeCells, Sem.run_pure, putCells]
    congr 1
    have : w.heap.setIfInBounds blk (.cells c e fz) = w.heap := by
      apply Array.ext_getElem?
      intro j
      by_cases h : blk = j
      · subst h
        rw [Array.getElem?_setIfInBounds_self, if_pos (Array.getElem?_eq_some_iff.1 hb).1, hb]
      · rw [Array.getElem?_setIfInBounds_ne h]
    rw [this]
  | v :: vs, w, c, o, i, hb, hf, hl, h1 => by
    simp only [List.length_cons] at hl
    have hlt := (Array.getElem?_eq_some_iff.1 hb).1
    have hcell : ∃ u, w.cell? ⟨blk, o + i, none⟩ = some u := ⟨c[o + i]'(by omega), by simp [World.cell?, hb]⟩
    obtain ⟨u, hu⟩ := hcell
    have hfr : w.frozen? ⟨blk, o + i, none⟩ = false := by simpa [World.frozen?, hb] using hf (o + i) (by omega)
    have hset : w.setCell ⟨blk, o + i, none⟩ v = { w with heap := w.heap.setIfInBounds blk (.cells (c.setIfInBounds (o + i) v) e fz) } := by
      unfold World.setCell
      congr 1
      apply Array.ext_getElem?
      intro j
      rw [Array.getElem?_modify]
      by_cases h : blk = j
      · subst h
        rw [Array.getElem?_setIfInBounds_self, if_pos hlt]
        simp [hb]
      · rw [Array.getElem?_setIfInBounds_ne h]
        simp [h]
    have ih := run_storeCells (P := P) (blk := blk) (e := e) (fz := fz) vs (w.setCell ⟨blk, o + i, none⟩ v) (c.setIfInBounds (o + i) v) o (i + 1) (by rw [hset]; simp [hlt]) (by simpa using hf) (by simp; omega) (fun x hx => h1 x (List.mem_cons_of_mem _ hx))
    simp only [storeCells, Sem.run_bind, Addr.add_lit, run_store P w _ v .plain (h1 v List.mem_cons_self), hu, hfr, Bool.false_eq_true, if_false, Result.andThen_ok]
    rw [ih, hset, putCells, show o + (i + 1) = o + i + 1 by omega]
    simp

theorem Rep.oneCell {G : Gh} {y : AV} {u : Value} (h : Rep G y u) (hs : y.scal = true) : u.oneCell' = true := by
  cases h <;> first | rfl | (simp at hs; done)

theorem RepL.oneCells {G : Gh} {a : List AV} {v : List Value} (h : RepL G a v) (hs : a.all AV.scal = true) : ∀ u ∈ v, u.oneCell' = true := by
  match h with
  | .nil => intro u hu; cases hu
  | .cons h t =>
    intro u hu
    simp only [List.all_cons, Bool.and_eq_true] at hs
    rcases List.mem_cons.1 hu with rfl | hu
    · exact h.oneCell hs.1
    · exact t.oneCells hs.2 u hu

theorem whole_ne_undef {v : AV} (h : v.whole = true) : v ≠ .undef := by rintro rfl; simp at h

theorem splice_get (cs vs : List AV) (off j : Nat) (h : off + vs.length ≤ cs.length) : (splice cs off vs)[j]? = if off ≤ j ∧ j < off + vs.length then vs[j - off]? else cs[j]? := by
  simp only [splice]
  by_cases h1 : off ≤ j ∧ j < off + vs.length
  · rw [if_pos h1, List.getElem?_append_left (by simp; omega), List.getElem?_append_right (by simp; omega)]
    congr 1
    simp; omega
  · rw [if_neg h1]
    by_cases h2 : j < off
    · rw [List.getElem?_append_left (by simp; omega), List.getElem?_append_left (by simp; omega), List.getElem?_take_of_lt h2]
    · rw [List.getElem?_append_right (by simp; omega), List.getElem?_drop]
      congr 1
      simp; omega

/-- 'setPart' as its cells -/
theorem setPart_cells {x v x' : AV} {off : Nat} (h : setPart x off v = some x') (hv : v.whole = true) : off + v.cells.length ≤ x.cells.length ∧ x'.cells = splice x.cells off v.cells ∧ (x.isAgg = true → x'.isAgg = true) := by
  cases x with
  | agg cs =>
    simp only [setPart] at h
    split at h
    · rename_i hl
      cases h
      exact ⟨hl, rfl, fun _ => rfl⟩
    · cases h
  | _ =>
    simp only [setPart] at h
    cases v <;> first
      | (cases h; done)
      | (simp at hv; done)
      | (simp only at h
         split at h
         · rename_i h0
           subst h0
           cases h
           simp
         · cases h)

/-- a store, carried out -/
theorem run_storeAt {P : Program} {G : Gh} (inv : Inv G) {t : TypeId} {ti : TI} (ht : tiOf P t = some ti) {p v : AV} {r u : Value} {st : Sto} (hp : Rep G p r) (hv : Rep G v u) (h : storeAt ti G.σ p v = some st) :
    ∃ G', (Instr.storeAt t r u).run P G.w = .ok () G'.w ∧ G'.σ = st ∧ Ext G G' ∧ Inv G' := by
  obtain ⟨ii, d, z, F⟩ := tiOf_facts ht
  cases hp with
  | ptr hid hr =>
    rename_i b g i off sz blk
    simp only [storeAt] at h
    split at h
    · rename_i s g' lo xs hb
      split at h
      · rename_i hc
        obtain ⟨rfl, hlo, hlen, hwh⟩ := hc
        split at h
        · rename_i x hx
          split at h
          · rename_i x' hx'
            cases h
            obtain ⟨hle, hcells, _⟩ := setPart_cells hx' hwh
            obtain ⟨r1, r2, _⟩ := inv.rows b s g lo xs hb
            obtain ⟨c, e, fz, q1, q2, q3, q4⟩ := r2 blk hr
            have hs : s = sz := by
              obtain ⟨k, hk, _, hk2⟩ := hid
              rw [hb] at hk; cases hk; simpa [ABlk.sz] using hk2
            subst hs
            obtain ⟨hxs, hxc⟩ := q3 i x hx
            have hus := hv.cells (whole_ne_undef hwh)
            have hul : u.cells.toList.length = v.cells.length := hus.length.symm
            -- the cells of the element lie in the block
            have hin : i * s + x.cells.length ≤ c.size := by
              rcases Nat.eq_zero_or_pos x.cells.length with h0 | h0
              · rcases Nat.lt_or_ge c.size (i * s + x.cells.length) with hlt | hge
                · exfalso
                  have h0' : s = 0 := by omega
                  rw [h0, h0'] at hlt
                  omega
                · exact hge
              · obtain ⟨vv, hvv, _⟩ := hxc (x.cells.length - 1) _ (List.getElem?_eq_getElem (by omega))
                have := (Array.getElem?_eq_some_iff.1 hvv).1
                omega
            have hrun := run_storeCells (P := P) u.cells.toList G.w c (i * s + off) 0 q1 q2 (by omega) (hus.oneCells (by simpa [AV.whole] using hwh))
            have hcs : ∀ j, (putCells c (i * s + off) u.cells.toList)[j]? = if i * s + off ≤ j ∧ j < i * s + off + u.cells.toList.length then u.cells.toList[j - (i * s + off)]? else c[j]? := fun j => putCells_get _ _ _ _ (by omega)
            have hi : i < xs.length := by
              rcases Nat.lt_or_ge i xs.length with h | h
              · exact h
              · rw [List.getElem?_eq_none h] at hx; cases hx
            have hloi : lo * s ≤ i * s := Nat.mul_le_mul_right s hlo
            have hrow : RowAt G (xs.set i x') (putCells c (i * s + off) u.cells.toList) s := by
              intro k y hy
              by_cases hk : i = k
              · subst hk
                rw [List.getElem?_set_self hi] at hy
                cases hy
                refine ⟨by rw [hcells]; simp only [splice, List.length_append, List.length_take, List.length_drop]; omega, fun j y hy => ?_⟩
                rw [hcells, splice_get _ _ _ _ hle] at hy
                rw [hcs]
                by_cases hj : off ≤ j ∧ j < off + v.cells.length
                · rw [if_pos hj] at hy
                  rw [if_pos (by omega), show i * s + j - (i * s + off) = j - off by omega]
                  exact hus.get hy
                · rw [if_neg hj] at hy
                  rw [if_neg (by omega)]
                  exact hxc j y hy
              · rw [List.getElem?_set_ne hk] at hy
                obtain ⟨hys, hyc⟩ := q3 k y hy
                refine ⟨hys, fun j y' hy' => ?_⟩
                have hj : j < s := by
                  rcases Nat.lt_or_ge j s with h | h
                  · exact h
                  · rw [List.getElem?_eq_none (by omega)] at hy'; cases hy'
                rw [hcs, if_neg ?_]
                · exact hyc j y' hy'
                · rintro ⟨h1, h2⟩
                  rcases Nat.lt_or_ge i k with hik | hik
                  · have : (i + 1) * s ≤ k * s := Nat.mul_le_mul_right s hik
                    rw [Nat.add_mul] at this
                    omega
                  · have : (k + 1) * s ≤ i * s := Nat.mul_le_mul_right s (by omega)
                    rw [Nat.add_mul] at this
                    omega
            have x := ext_put (G := G) (ys := xs.set i x') inv hb hr q1 rfl (putCells_size u.cells.toList c (i * s + off)) (fun o ho => by rw [hcs, if_neg (by omega)]) (Nat.le_refl g)
            have iv := inv_put (G := G) inv hb hr q1 rfl (putCells_size u.cells.toList c (i * s + off)) x hrow (by simpa using r1)
            refine ⟨_, ?_, rfl, x, iv⟩
            have hcz : u.cells.size = ti.size := by
              have : u.cells.toList.length = u.cells.size := by simp
              omega
            simp only [Instr.storeAt, Instr.sureAddr, storeVar, Sem.run_bind, Sem.run_pure, Result.andThen_ok, F.run_size, hcz, ne_eq, not_true_eq_false, if_false]
            rw [Nat.add_zero] at hrun
            exact hrun
          · cases h
        · cases h
      · cases h
    · cases h
  | _ => cases h
end Go.Proofs.YtgpkochbmfhmdaaGreatDoor.Lift
