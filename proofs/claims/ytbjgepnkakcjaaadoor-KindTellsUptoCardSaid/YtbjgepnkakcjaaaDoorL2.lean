/-
  LIFT, 2: the evaluator of operations and of regions (plain definitions).
-/
import Derived.Test.YtbjgepnkakcjaaaDoorL1
namespace Go.Proofs.YtbjgepnkakcjaaaDoor.Lift
open Go

/-- '==' of values whose cells are of these kinds -/
@[simp] def eqv1 : TD → AV → AV → Option Bool
  | .int k, .int j a, .int j' b => if j = k ∧ j' = k then some (decide (a = b)) else none
  | .bool, .bool a, .bool b => some (decide (a = b))
  | .str, .str a, .str b => some (decide (a = b))
  | _, _, _ => none
@[simp] def eqvs : List TD → List AV → List AV → Option Bool
  | [], [], [] => some true
  | k :: ks, x :: xs, y :: ys => match eqv1 k x y, eqvs ks xs ys with
    | some a, some b => some (a && b)
    | _, _ => none
  | _, _, _ => none

/-- '==' -/
@[simp] def eqv (ti : TI) (x y : AV) : Option Bool :=
  match ti.eq with
  | some ks => if x.isAgg = ti.agg ∧ y.isAgg = ti.agg then eqvs ks x.cells y.cells else none
  | none => match ti.d, x, y with
    | .ptr _, .nilp, .nilp => some true
    | .ptr _, .nilp, .ptr .. => some false
    | .ptr _, .ptr .., .nilp => some false
    | .ptr _, .nilp, .rp .. => some false
    | .ptr _, .rp .., .nilp => some false
    | .func, .nilf, .nilf => some true
    | .func, .nilf, .fn .. => some false
    | .func, .fn .., .nilf => some false
    | _, _, _ => none

@[simp] def evBin (op : BinOp) (ti : TI) (x y : AV) : Option AV :=
  match op, x, y with
  | .shl, .int k a, .int _ b => if 0 ≤ b then some (.int k (k.wrap (a * 2 ^ (min b.toNat k.bits)))) else none
  | .shr, .int k a, .int _ b => if 0 ≤ b then some (.int k (a.fdiv (2 ^ (min b.toNat k.bits)))) else none
  | .add, .int k a, .int k' b => if k = k' then some (.int k (k.wrap (a + b))) else none
  | .sub, .int k a, .int k' b => if k = k' then some (.int k (k.wrap (a - b))) else none
  | .mul, .int k a, .int k' b => if k = k' then some (.int k (k.wrap (a * b))) else none
  | .quo, .int k a, .int k' b => if k = k' ∧ b ≠ 0 then some (.int k (k.wrap (a.tdiv b))) else none
  | .rem, .int k a, .int k' b => if k = k' ∧ b ≠ 0 then some (.int k (a.tmod b)) else none
  | .and, .int k a, .int k' b => if k = k' then some (.int k (k.wrap (BitVec.ofInt k.bits a &&& BitVec.ofInt k.bits b).toNat)) else none
  | .or, .int k a, .int k' b => if k = k' then some (.int k (k.wrap (BitVec.ofInt k.bits a ||| BitVec.ofInt k.bits b).toNat)) else none
  | .xor, .int k a, .int k' b => if k = k' then some (.int k (k.wrap (BitVec.ofInt k.bits a ^^^ BitVec.ofInt k.bits b).toNat)) else none
  | .andNot, .int k a, .int k' b => if k = k' then some (.int k (k.wrap (BitVec.ofInt k.bits a &&& ~~~ (BitVec.ofInt k.bits b)).toNat)) else none
  | .lss, .int k a, .int k' b => if k = k' then some (.bool (decide (a < b))) else none
  | .leq, .int k a, .int k' b => if k = k' then some (.bool (decide (a ≤ b))) else none
  | .gtr, .int k a, .int k' b => if k = k' then some (.bool (decide (b < a))) else none
  | .geq, .int k a, .int k' b => if k = k' then some (.bool (decide (b ≤ a))) else none
  | .add, .str a, .str b => if a.length + b.length ≤ 4611686018427387904 then some (.str (a ++ b)) else none
  | .lss, .str a, .str b => some (.bool (Op.bytesLess a b))
  | .eql, x, y => (eqv ti x y).map .bool
  | .neq, x, y => (eqv ti x y).map fun b => .bool (!b)
  | _, _, _ => none

@[simp] def evUn (op : UnOp) (x : AV) : Option AV :=
  match op, x with
  | .neg, .int k n => some (.int k (k.wrap (0 - n)))
  | .not, .bool b => some (.bool (!b))
  | _, _ => none

/-- bytes of a frozen slice -/
@[simp] def bytesOf : List AV → Option (List UInt8)
  | [] => some []
  | .int .u8 n :: r => (bytesOf r).map (UInt8.ofNat n.toNat :: ·)
  | _ => none

@[simp] def optIdx : Option AV → Nat → Option Nat
  | none, d => some d
  | some (.int _ n), _ => if 0 ≤ n then some n.toNat else none
  | some _, _ => none

@[simp] def keyEq : AV → AV → Option Bool
  | .int k a, .int k' b => if k = k' then some (decide (a = b)) else none
  | .str a, .str b => some (decide (a = b))
  | .bool a, .bool b => some (decide (a = b))
  | _, _ => none
/-- a map's entry -/
@[simp] def mget : List (AV × AV) → AV → Option (Option AV)
  | [], _ => some none
  | (k, v) :: r, x => match keyEq k x with
    | some true => some (some v)
    | some false => mget r x
    | none => none
@[simp] def mset : List (AV × AV) → AV → AV → Option (List (AV × AV))
  | [], x, v => some [(x, v)]
  | (k, u) :: r, x, v => match keyEq k x with
    | some true => some ((k, v) :: r)
    | some false => (mset r x v).map ((k, u) :: ·)
    | none => none
def entsOf (st : Sto) : AV → Option (List (AV × AV))
  | .nilm => some []
  | .mv es => some es
  | .mr b => match st[b]? with | some (.map es) => some es | _ => none
  | _ => none

@[simp] def isKey : AV → Bool
  | .int .. | .str _ | .bool _ => true
  | _ => false

@[simp] def keyTD : TD → AV → Bool
  | .int k, .int j _ => decide (j = k)
  | .str, .str _ => true
  | .bool, .bool _ => true
  | _, _ => false

/-- the parts of a composite literal, laid over zero cells -/
@[simp] def fillParts (place : Nat → Option (Nat × Nat)) (cells : List AV) : List (Nat × AV) → Option (List AV)
  | [] => some cells
  | (i, v) :: r => match place i with
    | some (off, size) => if v.cells.length = size ∧ off + size ≤ cells.length then fillParts place (splice cells off v.cells) r else none
    | none => none

/-- append: the bound on its bytes -/
@[simp] def appendTo (esz bytes : Nat) (st : Sto) (x : AV) (ys : List AV) : Option (AV × Sto) :=
  match x with
  | .snil => if 0 < bytes ∧ ys.length * bytes ≤ 140737488355328 ∧ ys.all (fun y => decide (y.cells.length = esz ∧ y.whole = true)) = true then some (.sr st.length 0 0 ys.length, st ++ [.row esz 0 0 ys]) else none
  | .sr b g off len => match st[b]? with
    | some (.row sz g' lo xs) =>
      if 0 < bytes ∧ g = g' ∧ off = 0 ∧ lo ≤ len ∧ len ≤ xs.length ∧ sz = esz ∧ (len + ys.length) * bytes ≤ 140737488355328 ∧ ys.all (fun y => decide (y.cells.length = esz ∧ y.whole = true)) = true then
        some (.sr b (g + 1) 0 (len + ys.length), st.set b (.row sz (g + 1) lo (xs.take len ++ ys)))
      else none
    | _ => none
  | _ => none

@[simp] def lenTD : TD → AV → Bool
  | .str, .str _ => true
  | .slice _, .sl _ => true
  | .slice _, .snil => true
  | .slice _, .sr .. => true
  | .map .., .nilm => true
  | .map .., .mv _ => true
  | .map .., .mr _ => true
  | _, _ => false

@[simp] def evBuiltin (X : Cfg) (st : Sto) (b : Builtin) (argTypes : List Nat) (args : List AV) : Option (AV × Sto) :=
  match b, argTypes, args with
  | .len, [t], [x] => match X.T t with
    | some ti => if lenTD ti.d x = true then (lenOf st x).map fun n => (.int .i64 n, st) else none
    | none => none
  | .append, [t, t2], [x, y] => match X.T t, X.T t2 with
    | some ⟨.slice e, _, _, _, _⟩, some ⟨.str, _, _, _, _⟩ => match X.T e, y with
      | some te, .str s => if te.size = 1 then appendTo te.size te.bytes st x (s.map fun b => .int .u8 b.toNat) else none
      | _, _ => none
    | some ⟨.slice e, _, _, _, _⟩, some ⟨.slice _, _, _, _, _⟩ => match X.T e, elemsOf st y with
      | some te, some ys => appendTo te.size te.bytes st x ys
      | _, _ => none
    | _, _ => none
  | .min, _, [.int k a, .int k' b] => if k = k' then some (.int k (min a b), st) else none
  | .max, _, [.int k a, .int k' b] => if k = k' then some (.int k (max a b), st) else none
  | _, _, _ => none

/-- a call of a function value -/
@[simp] def callV (E : Env) (f : AV) (args : List AV) (st : Sto) : Option (AV × Sto) :=
  match f with
  | .fn (.func k) first cap => match E.look k with
    | some S => S (first ++ args ++ cap) st
    | none => none
  | _ => none

@[simp] def evOper (X : Cfg) (s : ASt) (o : Oper) : Option (AV × Sto) :=
  match o.op with
  | .move x => some (s.ev X x, s.st)
  | .assign x => some (s.ev X x, s.st)
  | .pick c a b => match s.ev X c with
    | .bool t => some (if t then s.ev X a else s.ev X b, s.st)
    | _ => none
  | .alloc t => match X.T t with
    | some ti => some (.ptr s.st.length 0 0 0, s.st ++ [.row ti.size 0 0 [mkv ti.agg ti.zero]])
    | none => none
  | .box _ x => if (s.ev X x).whole = true then some (.ptr s.st.length 0 0 0, s.st ++ [.row (s.ev X x).cells.length 0 0 [s.ev X x]]) else none
  | .build t parts => match X.T t with
    | some ⟨.struct fs, _, z, _, _⟩ =>
      if fs.all (fun f => (X.T f.2).isSome) = true ∧ (parts.toList.map fun p => s.ev X p.2).all (fun v => v.whole) = true then
      match fillParts (fun i => match fs[i]? with | some (off, ft) => (match X.T ft with | some fti => some (off, fti.size) | none => none) | none => none) z (parts.toList.map fun p => (p.1, s.ev X p.2)) with
      | some cs => some (.agg cs, s.st)
      | none => none
      else none
    | _ => none
  | .buildSlice t len parts => match X.T t with
    | some ⟨.slice e, _, _, _, _⟩ => match X.T e with
      | some te =>
        let vs := parts.toList.map fun p => s.ev X p.2
        if parts.toList.map (·.1) = List.range len ∧ vs.all (fun v => decide (v.cells.length = te.size ∧ v.whole = true)) = true ∧ len * te.size ≤ 16777216 then
          some (.sr s.st.length 0 0 len, s.st ++ [.row te.size 0 0 vs])
        else none
      | none => none
    | _ => none
  | .load t a => match X.T t with
    | some ti => (loadAt ti s.st (s.ev X a)).map fun v => (v, s.st)
    | none => none
  | .store t a x => match X.T t with
    | some ti => (storeAt ti s.st (s.ev X a) (s.ev X x)).map fun st => (.tup [], st)
    | none => none
  | .nilCheck x => match s.ev X x with
    | .ptr b g i off => some (.ptr b g i off, s.st)
    | .rp v off => some (.rp v off, s.st)
    | .fn (.func f) a b => some (.fn (.func f) a b, s.st)
    | _ => none
  | .binOp op t x y _ => match X.T t with
    | some ti => (evBin op ti (s.ev X x) (s.ev X y)).map fun v => (v, s.st)
    | none => none
  | .unOp op _ x => (evUn op (s.ev X x)).map fun v => (v, s.st)
  | .convert src dst x => match X.T src, X.T dst, s.ev X x with
    | some _, some ⟨.int k, _, _, _, _⟩, .int _ n => some (.int k (k.wrap n), s.st)
    | some ⟨.str, _, _, _, _⟩, some ⟨.str, _, _, _, _⟩, .str b => some (.str b, s.st)
    | some ⟨.str, _, _, _, _⟩, some ⟨.slice e, _, _, _, _⟩, .str b => match X.T e with
      | some ⟨.int .u8, 1, _, _, _⟩ => some (.sr s.st.length 0 0 b.length, s.st ++ [.row 1 0 0 (b.map fun c => .int .u8 c.toNat)])
      | _ => none
    | some ⟨.slice e, _, _, _, _⟩, some ⟨.str, _, _, _, _⟩, x => match X.T e, elemsOf s.st x with
      | some ⟨.int .u8, 1, _, _, _⟩, some xs => (bytesOf xs).map fun b => (.str b, s.st)
      | _, _ => none
    | _, _, _ => none
  | .makeFunc f first cap => some (.fn f (first.toList.map (s.ev X)) (cap.toList.map (s.ev X)), s.st)
  | .makeMap t none => match X.T t with
    | some ⟨.map _ _, _, _, _, _⟩ => some (.mr s.st.length, s.st ++ [.map []])
    | _ => none
  | .makeSlice t l c => match X.T t, s.ev X l, s.ev X c with
    | some ⟨.slice e, _, _, _, _⟩, .int _ n, .int _ m => match X.T e with
      | some te => if 0 ≤ n ∧ n ≤ m ∧ m * te.bytes ≤ 140737488355328 ∧ m ≤ 140737488355328 then some (.sr s.st.length 0 0 n.toNat, s.st ++ [.row te.size 0 0 (List.replicate n.toNat (mkv te.agg te.zero))]) else none
      | none => none
    | _, _, _ => none
  | .slice t x lo hi none => match s.ev X x with
    | .str b => match X.T t, optIdx (lo.map (s.ev X)) 0, optIdx (hi.map (s.ev X)) b.length with
      | some ⟨.str, _, _, _, _⟩, some l, some h => if l ≤ h ∧ h ≤ b.length then some (.str ((b.take h).drop l), s.st) else none
      | _, _, _ => none
    | .sl xs => match X.T t, optIdx (lo.map (s.ev X)) 0, optIdx (hi.map (s.ev X)) xs.length with
      | some ⟨.slice e, _, _, _, _⟩, some l, some h => match X.T e with
        | some te => if l ≤ h ∧ h ≤ xs.length ∧ (l = 0 ∨ xs.all (fun x => decide (x.cells.length = te.size)) = true) then some (.sl ((xs.take h).drop l), s.st) else none
        | none => none
      | _, _, _ => none
    | .sr b g off len => match X.T t, optIdx (lo.map (s.ev X)) 0, optIdx (hi.map (s.ev X)) len with
      | some ⟨.slice e, _, _, _, _⟩, some l, some h => match X.T e, s.st[b]? with
        | some te, some k => if l ≤ h ∧ h ≤ len ∧ (k.sz = some te.size) then some (.sr b g (off + l) (h - l), s.st) else none
        | _, _ => none
      | _, _, _ => none
    | .snil => match X.T t, optIdx (lo.map (s.ev X)) 0, optIdx (hi.map (s.ev X)) 0 with
      | some ⟨.slice e, _, _, _, _⟩, some 0, some 0 => if (X.T e).isSome = true then some (.snil, s.st) else none
      | _, _, _ => none
    | _ => none
  | .fieldAddr t x f => match X.T t with
    | some ⟨.struct fs, _, _, _, _⟩ => match fs[f]? with
      | some (o, ft) => match X.T ft with
        | some fti => if fti.size = 0 then none else match s.ev X x with
          | .ptr b g i off => some (.ptr b g i (off + o), s.st)
          | .rp v off => some (.rp v (off + o), s.st)
          | _ => none
        | none => none
      | none => none
    | _ => none
  | .field t x f => match X.T t with
    | some ⟨.struct fs, _, _, _, _⟩ => match fs[f]? with
      | some (o, ft) => match X.T ft with
        | some fti => match s.ev X x with
          | .agg cs => (part fti (.agg cs) o).map fun v => (v, s.st)
          | _ => none
        | none => none
      | none => none
    | _ => none
  | .indexAddr t x ix => match X.T t with
    | some ⟨.slice e, _, _, _, _⟩ => match X.T e with
      | some te => match s.ev X ix with
        | .int _ i => match s.ev X x with
          | .sl xs => if 0 ≤ i then (match xs[i.toNat]? with | some v => if v.cells.length = te.size then some (.rp v 0, s.st) else none | none => none) else none
          | .sr b g off len => if 0 ≤ i ∧ i < len then (match s.st[b]? with | some k => if k.sz = some te.size then some (.ptr b g (off + i.toNat) 0, s.st) else none | none => none) else none
          | _ => none
        | _ => none
      | none => none
    | some ⟨.array n e, _, _, _, _⟩ => match X.T e with
      | some te => match s.ev X ix with
        | .int _ i => if 0 ≤ i ∧ i < n then (match s.ev X x with
          | .ptr b g j off => some (.ptr b g j (off + i.toNat * te.size), s.st)
          | .rp v off => some (.rp v (off + i.toNat * te.size), s.st)
          | _ => none) else none
        | _ => none
      | none => none
    | _ => none
  | .index t x ix => match X.T t with
    | some ⟨.str, _, _, _, _⟩ => match s.ev X x, s.ev X ix with
      | .str b, .int _ i => if 0 ≤ i then (match b[i.toNat]? with | some c => some (.int .u8 c.toNat, s.st) | none => none) else none
      | _, _ => none
    | some ⟨.array n e, _, _, _, _⟩ => match X.T e with
      | some te => match s.ev X x, s.ev X ix with
        | .agg cs, .int _ i => if 0 ≤ i ∧ i < n then (part te (.agg cs) (i.toNat * te.size)).map fun v => (v, s.st) else none
        | _, _ => none
      | none => none
    | _ => none
  | .lookup t m k ok => match X.T t with
    | some ⟨.map kt e, _, _, _, _⟩ => match X.T kt, X.T e, entsOf s.st (s.ev X m) with
      | some tk, some te, some es => if keyTD tk.d (s.ev X k) = true then (match mget es (s.ev X k) with
        | some r => some (if ok then .tup [r.getD (mkv te.agg te.zero), .bool r.isSome] else r.getD (mkv te.agg te.zero), s.st)
        | none => none) else none
      | _, _, _ => none
    | _ => none
  | .mapUpdate t m k v => match X.T t with
    | some ⟨.map kt _, _, _, _, _⟩ => match X.T kt, s.ev X m with
      | some tk, .mr b => match s.st[b]? with
        | some (.map es) => if keyTD tk.d (s.ev X k) = true ∧ fz (s.ev X v) = true then (mset es (s.ev X k) (s.ev X v)).map fun es' => (.tup [], s.st.set b (.map es')) else none
        | _ => none
      | _, _ => none
    | _ => none
  | .extract t i => match s.ev X t with
    | .tup vs => (vs[i]?).map fun v => (v, s.st)
    | _ => none
  | .call c => match c.callee with
    | .builtin b => evBuiltin X s.st b c.argTypes.toList (c.args.toList.map (s.ev X))
    | .value f => callV X.E (s.ev X f) (c.args.toList.map (s.ev X)) s.st
    | .invoke .. => none
  | _ => none

/-- is an operation carried out? (the slot of its guard) -/
@[simp] def wantedA (gd : Nat → Option Nat) (s : ASt) (o : Oper) : Option Bool :=
  match o.guard with
  | none => some true
  | some (j, b) => match gd j with
    | some d => match s.fr d with
      | .bool c => some (c == b)
      | .tup [] => some false
      | _ => none
    | none => none

@[simp] def step1 (X : Cfg) (gd : Nat → Option Nat) (s : ASt) (o : Oper) : Option ASt :=
  match wantedA gd s o with
  | some true => match evOper X s o with
    | some (v, st) => ASt.put { s with st := st } o.dst v
    | none => none
  | some false => s.put o.dst (.tup [])
  | none => none

@[simp] def evOps (X : Cfg) (gd : Nat → Option Nat) : List Oper → ASt → Option ASt
  | [], s => some s
  | o :: r, s => match step1 X gd s o with
    | some s' => evOps X gd r s'
    | none => none

@[simp] def gdOf (ops : List Oper) (j : Nat) : Option Nat := (ops[j]?).bind (·.dst)
end Go.Proofs.YtbjgepnkakcjaaaDoor.Lift
