/-
  LIFT, E: HOW A WALK IS EVALUATED by simp: what is still to be walked is kept as data.
  LIFT, C: typed values: how a Lean value is an abstract one; pure contracts on typed values.
  LIFT, S: THE PROGRAM's STRUCTS as Lean structures, and how they are abstract values (printed by tools/structs.py).
  LIFT, K: THE CHAIN OF CONTRACTS: an environment grows by one contract after the other.
  LIFT, 25: RANGES OVER FUNCTIONS, 1: what is foreign to a ghost; what a round changes.
  LIFT, 26: RANGES OVER FUNCTIONS, 2: the foreign state of a function that is ranged over; its rounds.
  LIFT, 27: RANGES OVER FUNCTIONS, 3: a round, as the function that is ranged over sees it.
-/
import Derived.Test.YtgpkochbmfhmdaaGreatDoorQ6
import Derived.RangeFuncRecord
import Derived.RangeFuncIn
namespace Go.Proofs.YtgpkochbmfhmdaaGreatDoor.Lift
open Go

/-- what is still to be done -/
inductive Kt where
  | seq (c : Code)
  | block (id : Nat)
  | scope

section
variable (P : Program) (X : Cfg) (G0 : Gh) (Q : Exit → ASt → Prop)
/-- an exit comes to what is still to be done -/
def go : List Kt → Exit → ASt → Prop
  | [], e, s => Q e s
  | .seq c :: k, e, s => thenQ (fun s' => wpC P X G0 c s' (go k)) (go k) e s
  | .block id :: k, e, s => blockQ id (go k) e s
  | .scope :: k, e, s => scopeQ (go k) e s
/-- code, and what is still to be done -/
def wk (c : Code) (k : List Kt) (s : ASt) : Prop := wpC P X G0 c s (go P X G0 Q k)
/-- operations (r) of a region (g) -/
def ro (g r : List Oper) (k : List Kt) (s : ASt) : Prop := runOps X (gdOf g) r s (go P X G0 Q k .normal)
def so (o : Option ASt) (g r : List Oper) (k : List Kt) : Prop := onSome o fun s1 => runOps X (gdOf g) r s1 (go P X G0 Q k .normal)
/-- operations of a region that draws -/
def rd (ad : List (Nat × AV)) (g : List Oper) (i : Nat) (r : List Oper) (k : List Kt) (s : ASt) : Prop := runDraw X g.toArray (ancTab g []) ad r i s (go P X G0 Q k .normal)
def sd (ad : List (Nat × AV)) (o : Option ASt) (st : Sto) (g : List Oper) (i : Nat) (r : List Oper) (k : List Kt) : Prop :=
  onSome o fun s1 => (s1.st = st ∨ steady X g.toArray (ancTab g []) ad i st s1.st) ∧ runDraw X g.toArray (ancTab g []) ad r (i + 1) s1 (go P X G0 Q k .normal)
/-- .. where blocks are set aside -/
def rdA (A : List (Nat × Nat)) (ad : List (Nat × AV)) (g : List Oper) (i : Nat) (r : List Oper) (k : List Kt) (s : ASt) : Prop := runDrawA { X with A := A } g.toArray (ancTab g []) ad r i s (go P X G0 Q k .normal)
def sdA (A : List (Nat × Nat)) (ad : List (Nat × AV)) (q : Oper) (o : Option ASt) (st : Sto) (g : List Oper) (i : Nat) (r : List Oper) (k : List Kt) : Prop :=
  onSome o fun s1 => (s1.st = st ∨ steady { X with A := A } g.toArray (ancTab g []) ad i st s1.st ∨ ∃ m, locAt { X with A := A } ad i q m ∧ steadyK { X with A := A } g.toArray (ancTab g []) ad i m) ∧ runDrawA { X with A := A } g.toArray (ancTab g []) ad r (i + 1) s1 (go P X G0 Q k .normal)
/-- where a load loads, if that is said -/
@[simp] def adChk (X : Cfg) (ad : List (Nat × AV)) (i : Nat) (o : Oper) (s : ASt) : Prop := match o.op with
  | .load _ a => (match ad.lookup i with | some p => s.ev X a = p | none => True)
  | op => (match ad.lookup i with | some p => .tup (op.operands.toList.map (s.ev X)) = p | none => True)
/-- a branch -/
def br (v : AV) (x y : Code) (k : List Kt) (s : ASt) : Prop := branch v (wk P X G0 Q x k s) (wk P X G0 Q y k s)
/-- a region that draws may be taken in the text's order -/
def dk (g : List Oper) (k : List Kt) (s : ASt) : Prop := drawOK g.toArray (ancTab g []) = true ∧ ((∃ ad, rd P X G0 Q ad g 0 g k s) ∨ ∃ A szs ad, rdA P X G0 Q A ad g 0 g k { s with st := s.st ++ List.map (fun z => .row z 0 0 []) szs })
/-- a block's exit -/
def bx (b : Bool) (l : Nat) (k : List Kt) (s : ASt) : Prop := if b = true then go P X G0 Q k .normal s else go P X G0 Q k (.exit l) s
/-- a loop, and what is still to be done -/
def lp (c : Code) (k : List Kt) (s : ASt) : Prop := Ev P X G0 (.loop c) s (go P X G0 Q k)
def rf (f : Operand) (ps : Array Nat) (x y : Code) (k : List Kt) (s : ASt) : Prop := Ev P X G0 (.rangeFunc f ps x y) s (go P X G0 Q k)
end

section
variable {P : Program} {X : Cfg} {G0 : Gh} {Q : Exit → ASt → Prop} {s : ASt} {k : List Kt}
@[simp] theorem wk_skip : wk P X G0 Q .skip k s = go P X G0 Q k .normal s := rfl
@[simp] theorem wk_label {l : Nat} : wk P X G0 Q (.label l) k s = go P X G0 Q k .normal s := rfl
@[simp] theorem wk_exit {l : Nat} : wk P X G0 Q (.exit l) k s = go P X G0 Q k (.exit l) s := rfl
@[simp] theorem wk_goto {l : Nat} : wk P X G0 Q (.goto l) k s = go P X G0 Q k (.goto l) s := rfl
@[simp] theorem wk_ret : wk P X G0 Q .ret k s = go P X G0 Q k .ret s := rfl
@[simp] theorem wk_seq {x y : Code} : wk P X G0 Q (.seq x y) k s = wk P X G0 Q x (.seq y :: k) s := rfl
@[simp] theorem wk_cond {c : Operand} {x y : Code} : wk P X G0 Q (.cond c x y) k s = br P X G0 Q (s.ev X c) x y k s := rfl
@[simp] theorem wk_block {id : Nat} {c : Code} : wk P X G0 Q (.block id c) k s = wk P X G0 Q c (.block id :: k) s := rfl
@[simp] theorem wk_scope {c : Code} : wk P X G0 Q (.scope c) k s = wk P X G0 Q c (.scope :: k) s := rfl
@[simp] theorem wk_region {id : Nat} {l : List Oper} : wk P X G0 Q (.region id l.toArray false) k s = ro P X G0 Q l l k s := rfl
@[simp] theorem wk_draw {id : Nat} {l : List Oper} : wk P X G0 Q (.region id l.toArray true) k s = dk P X G0 Q l k s := rfl
@[simp] theorem wk_loop {c : Code} : wk P X G0 Q (.loop c) k s = lp P X G0 Q c k s := rfl
@[simp] theorem wk_rangeFunc {f : Operand} {ps : Array Nat} {x y : Code} : wk P X G0 Q (.rangeFunc f ps x y) k s = rf P X G0 Q f ps x y k s := rfl
@[simp] theorem go_nil {e : Exit} : go P X G0 Q [] e s = Q e s := rfl
@[simp] theorem go_seq {c : Code} : go P X G0 Q (.seq c :: k) .normal s = wk P X G0 Q c k s := rfl
@[simp] theorem go_seq_ret {c : Code} : go P X G0 Q (.seq c :: k) .ret s = go P X G0 Q k .ret s := rfl
@[simp] theorem go_seq_exit {c : Code} {l : Nat} : go P X G0 Q (.seq c :: k) (.exit l) s = go P X G0 Q k (.exit l) s := rfl
@[simp] theorem go_seq_goto {c : Code} {l : Nat} : go P X G0 Q (.seq c :: k) (.goto l) s = go P X G0 Q k (.goto l) s := rfl
@[simp] theorem go_block {id : Nat} : go P X G0 Q (.block id :: k) .normal s = go P X G0 Q k .normal s := rfl
@[simp] theorem go_block_ret {id : Nat} : go P X G0 Q (.block id :: k) .ret s = go P X G0 Q k .ret s := rfl
@[simp] theorem go_block_goto {id l : Nat} : go P X G0 Q (.block id :: k) (.goto l) s = go P X G0 Q k (.goto l) s := rfl
@[simp] theorem go_block_exit {id l : Nat} : go P X G0 Q (.block id :: k) (.exit l) s = bx P X G0 Q (l == id) l k s := by simp [go, blockQ, bx]
@[simp] theorem bx_true {l : Nat} : bx P X G0 Q true l k s = go P X G0 Q k .normal s := rfl
@[simp] theorem bx_false {l : Nat} : bx P X G0 Q false l k s = go P X G0 Q k (.exit l) s := rfl
@[simp] theorem go_scope : go P X G0 Q (.scope :: k) .normal s = go P X G0 Q k .normal s := rfl
@[simp] theorem go_scope_ret : go P X G0 Q (.scope :: k) .ret s = go P X G0 Q k .ret s := rfl
@[simp] theorem go_scope_exit {l : Nat} : go P X G0 Q (.scope :: k) (.exit l) s = go P X G0 Q k (.exit l) s := rfl
@[simp] theorem ro_nil {g : List Oper} : ro P X G0 Q g [] k s = go P X G0 Q k .normal s := rfl
@[simp] theorem ro_cons {g r : List Oper} {o : Oper} : ro P X G0 Q g (o :: r) k s = so P X G0 Q (step1 X (gdOf g) s o) g r k := rfl
@[simp] theorem so_some {g r : List Oper} : so P X G0 Q (some s) g r k = ro P X G0 Q g r k s := by simp [so, ro, onSome]
@[simp] theorem so_none {g r : List Oper} : so P X G0 Q none g r k = False := by simp [so, onSome]
@[simp] theorem rd_nil {ad : List (Nat × AV)} {g : List Oper} {i : Nat} : rd P X G0 Q ad g i [] k s = go P X G0 Q k .normal s := rfl
@[simp] theorem rd_cons {g r : List Oper} {i : Nat} {o : Oper} : rd P X G0 Q [] g i (o :: r) k s = sd P X G0 Q [] (step1 X (gdOf g) s o) s.st g i r k := by
  simp [rd, sd, runDraw, adOk]
theorem adOk_iff {ad : List (Nat × AV)} {i : Nat} {o : Oper} : adOk X ad i o s ↔ adChk X ad i o s := by
  unfold adOk adChk
  constructor
  · intro h
    split
    · rename_i t a he
      split
      · rename_i p hp; exact h.1 t a p he hp
      · trivial
    · rename_i hn
      split
      · rename_i p hp; exact h.2 p (fun t a e => hn t a e) hp
      · trivial
  · intro h
    refine ⟨fun t a p he hp => ?_, fun p he hp => ?_⟩
    · rw [he] at h
      simp only [hp] at h
      exact h
    · split at h
      · rename_i t a e; exact absurd e (he t a)
      · simp only [hp] at h
        exact h
@[simp] theorem rd_consL {x : Nat × AV} {ad : List (Nat × AV)} {g r : List Oper} {i : Nat} {o : Oper} : rd P X G0 Q (x :: ad) g i (o :: r) k s = (adChk X (x :: ad) i o s ∧ sd P X G0 Q (x :: ad) (step1 X (gdOf g) s o) s.st g i r k) := by
  rw [← adOk_iff (X := X) (s := s)]; rfl
@[simp] theorem sd_same {ad : List (Nat × AV)} {g r : List Oper} {i n : Nat} {fr : Nat → AV} {st : Sto} : sd P X G0 Q ad (some ⟨n, fr, st⟩) st g i r k = rd P X G0 Q ad g (i + 1) r k ⟨n, fr, st⟩ := by simp [sd, rd, onSome]
theorem sd_of {ad : List (Nat × AV)} {g r : List Oper} {i : Nat} {st : Sto} (h : barrier g.toArray (ancTab g []) i = true) (h' : rd P X G0 Q ad g (i + 1) r k s) : sd P X G0 Q ad (some s) st g i r k := ⟨s, rfl, .inr (steady_of_barrier h), h'⟩
/-- an operation that turns the store: other ones load the same before it and behind it -/
theorem sd_ofL {ad : List (Nat × AV)} {g r : List Oper} {i : Nat} {st : Sto} (h : barrierL g.toArray (ancTab g []) ad i = true) (h2 : steadyL X g.toArray (ancTab g []) i st s.st ad) (h' : rd P X G0 Q ad g (i + 1) r k s) : sd P X G0 Q ad (some s) st g i r k := ⟨s, rfl, .inr (steady_of h h2), h'⟩
@[simp] theorem sd_none {ad : List (Nat × AV)} {g r : List Oper} {i : Nat} {st : Sto} : sd P X G0 Q ad none st g i r k = False := by simp [sd, onSome]
@[simp] theorem br_true {x y : Code} : br P X G0 Q (.bool true) x y k s = wk P X G0 Q x k s := by simp [br, branch]
@[simp] theorem br_false {x y : Code} : br P X G0 Q (.bool false) x y k s = wk P X G0 Q y k s := by simp [br, branch]
theorem br_dec {p : Prop} [Decidable p] {x y : Code} (h1 : p → wk P X G0 Q x k s) (h2 : ¬p → wk P X G0 Q y k s) : br P X G0 Q (.bool (decide p)) x y k s := ⟨_, rfl, fun h => h1 (of_decide_eq_true h), fun h => h2 (of_decide_eq_false h)⟩
theorem br_bool {b : Bool} {x y : Code} (h1 : b = true → wk P X G0 Q x k s) (h2 : b = false → wk P X G0 Q y k s) : br P X G0 Q (.bool b) x y k s := ⟨_, rfl, h1, h2⟩
/-- an operation's result, given -/
theorem so_see {o : Option ASt} {g r : List Oper} (s' : ASt) (h : o = some s') (h2 : ro P X G0 Q g r k s') : so P X G0 Q o g r k := by subst h; rw [so_some]; exact h2
/-- an operation that waits for a truth value -/
@[irreducible] def gstep (w : Option Bool) (x y : Option ASt) : Option ASt := match w with | some true => x | some false => y | none => none
@[simp] theorem gstep_true {x y : Option ASt} : gstep (some true) x y = x := by unfold gstep; rfl
@[simp] theorem gstep_false {x y : Option ASt} : gstep (some false) x y = y := by unfold gstep; rfl
@[simp] theorem gstep_none {x y : Option ASt} : gstep none x y = none := by unfold gstep; rfl
theorem step1_gs {gd : Nat → Option Nat} {o : Oper} : step1 X gd s o = gstep (wantedA gd s o) (match evOper X s o with | some (v, st) => ASt.put { s with st := st } o.dst v | none => none) (s.put o.dst (.tup [])) := by
  unfold step1
  generalize evOper X s o = e
  generalize wantedA gd s o = w
  cases w with
  | none => exact gstep_none.symm
  | some b =>
    cases b with
    | true => rw [gstep_true]; cases e <;> rfl
    | false => rw [gstep_false]
theorem gs_dec {p : Prop} [Decidable p] {x y : Option ASt} {g r : List Oper} (h1 : p → so P X G0 Q x g r k) (h2 : ¬p → so P X G0 Q y g r k) : so P X G0 Q (gstep (some (decide p)) x y) g r k := by
  by_cases h : p
  · simp only [h, decide_true, gstep_true]; exact h1 h
  · simp only [h, decide_false, gstep_false]; exact h2 h
theorem gs_ndec {p : Prop} [Decidable p] {x y : Option ASt} {g r : List Oper} (h1 : p → so P X G0 Q y g r k) (h2 : ¬p → so P X G0 Q x g r k) : so P X G0 Q (gstep (some (!decide p)) x y) g r k := by
  by_cases h : p
  · simp only [h, decide_true, Bool.not_true, gstep_false]; exact h1 h
  · simp only [h, decide_false, Bool.not_false, gstep_true]; exact h2 h
theorem gs_bool {b : Bool} {x y : Option ASt} {g r : List Oper} (h1 : b = true → so P X G0 Q x g r k) (h2 : b = false → so P X G0 Q y g r k) : so P X G0 Q (gstep (some b) x y) g r k := by
  cases b
  · simp only [gstep_false]; exact h2 rfl
  · simp only [gstep_true]; exact h1 rfl
theorem gs_nbool {b : Bool} {x y : Option ASt} {g r : List Oper} (h1 : b = true → so P X G0 Q y g r k) (h2 : b = false → so P X G0 Q x g r k) : so P X G0 Q (gstep (some (!b)) x y) g r k := by
  cases b
  · simp only [Bool.not_false, gstep_true]; exact h2 rfl
  · simp only [Bool.not_true, gstep_false]; exact h1 rfl
theorem dk_of {g : List Oper} (h : drawOK g.toArray (ancTab g []) = true) (h' : rd P X G0 Q [] g 0 g k s) : dk P X G0 Q g k s := ⟨h, .inl ⟨[], h'⟩⟩
/-- .. and these loads (the place in the region, the address) find the same before and behind what turns the store -/
theorem dk_ofL {g : List Oper} (ad : List (Nat × AV)) (h : drawOK g.toArray (ancTab g []) = true) (h' : rd P X G0 Q ad g 0 g k s) : dk P X G0 Q g k s := ⟨h, .inl ⟨ad, h'⟩⟩
@[simp] theorem rdA_nil {A : List (Nat × Nat)} {ad : List (Nat × AV)} {g : List Oper} {i : Nat} : rdA P X G0 Q A ad g i [] k s = go P X G0 Q k .normal s := rfl
@[simp] theorem rdA_cons {A : List (Nat × Nat)} {ad : List (Nat × AV)} {g r : List Oper} {i : Nat} {o : Oper} : rdA P X G0 Q A ad g i (o :: r) k s = (adChk { X with A := A } ad i o s ∧ sdA P X G0 Q A ad o (step1 { X with A := A } (gdOf g) s o) s.st g i r k) := by
  rw [← adOk_iff (X := { X with A := A }) (s := s)]; rfl
@[simp] theorem sdA_same {A : List (Nat × Nat)} {ad : List (Nat × AV)} {q : Oper} {g r : List Oper} {i n : Nat} {fr : Nat → AV} {st : Sto} : sdA P X G0 Q A ad q (some ⟨n, fr, st⟩) st g i r k = rdA P X G0 Q A ad g (i + 1) r k ⟨n, fr, st⟩ := by simp [sdA, rdA, onSome]
@[simp] theorem sdA_none {A : List (Nat × Nat)} {ad : List (Nat × AV)} {q : Oper} {g r : List Oper} {i : Nat} {st : Sto} : sdA P X G0 Q A ad q none st g i r k = False := by simp [sdA, onSome]
theorem sdA_of {A : List (Nat × Nat)} {ad : List (Nat × AV)} {q : Oper} {g r : List Oper} {i : Nat} {st : Sto} (h : barrier g.toArray (ancTab g []) i = true) (h' : rdA P X G0 Q A ad g (i + 1) r k s) : sdA P X G0 Q A ad q (some s) st g i r k := ⟨s, rfl, .inr (.inl (steady_of_barrier h)), h'⟩
theorem sdA_ofL {A : List (Nat × Nat)} {ad : List (Nat × AV)} {q : Oper} {g r : List Oper} {i : Nat} {st : Sto} (h : barrierL g.toArray (ancTab g []) ad i = true) (h2 : steadyL { X with A := A } g.toArray (ancTab g []) i st s.st ad) (h' : rdA P X G0 Q A ad g (i + 1) r k s) : sdA P X G0 Q A ad q (some s) st g i r k := ⟨s, rfl, .inr (.inl (steady_of h h2)), h'⟩
/-- an operation that sees and turns one block alone -/
theorem sdA_loc {A : List (Nat × Nat)} {ad : List (Nat × AV)} {q : Oper} {g r : List Oper} {i m : Nat} {st : Sto} {p : AV} (hp : ad.lookup i = some p) (hk : locKey { X with A := A } q p = some m) (h : barrierL g.toArray (ancTab g []) ad i = true) (h2 : steadyKL { X with A := A } g.toArray (ancTab g []) i m ad) (h' : rdA P X G0 Q A ad g (i + 1) r k s) : sdA P X G0 Q A ad q (some s) st g i r k := ⟨s, rfl, .inr (.inr ⟨m, ⟨p, hp, locKey_loc hk⟩, steadyK_of h h2⟩), h'⟩
/-- blocks are set aside (A: for which places, and where), and these loads and calls find the same .. -/
theorem dk_ofA {g : List Oper} (A : List (Nat × Nat)) (szs : List Nat) (ad : List (Nat × AV)) (h : drawOK g.toArray (ancTab g []) = true) (h' : rdA P X G0 Q A ad g 0 g k { s with st := s.st ++ List.map (fun z => .row z 0 0 []) szs }) : dk P X G0 Q g k s := ⟨h, .inr ⟨A, szs, ad, h'⟩⟩
/-- a walk's beginning -/
theorem ev_of_wk (ok : OkX P X) (hm : P.follows .mixedOrders = true) {c : Code} (h : wk P X G0 Q c [] s) : Ev P X G0 c s Q := wpC_ev ok hm c s _ h
/-- the end of a round: the next one's beginning -/
def nextQ (X : Cfg) (G0 : Gh) {α : Type} (I : α → ASt) (ok : α → Prop) (μ : α → Nat) (x : α) (s' : ASt) : Prop := ∃ y, ok y ∧ μ y < μ x ∧ Less X G0 s' (I y)
/-- a round's exits -/
def loopQ (X : Cfg) (G0 : Gh) {α : Type} (I : α → ASt) (ok : α → Prop) (μ : α → Nat) (x : α) (Q : Exit → ASt → Prop) : Exit → ASt → Prop := thenQ (nextQ X G0 I ok μ x) Q
section
variable {α : Type} {I : α → ASt} {okk : α → Prop} {μ : α → Nat} {x : α}
@[simp] theorem loopQ_normal : loopQ X G0 I okk μ x Q .normal s = nextQ X G0 I okk μ x s := rfl
@[simp] theorem loopQ_ret : loopQ X G0 I okk μ x Q .ret s = Q .ret s := rfl
@[simp] theorem loopQ_exit {l : Nat} : loopQ X G0 I okk μ x Q (.exit l) s = Q (.exit l) s := rfl
@[simp] theorem loopQ_goto {l : Nat} : loopQ X G0 I okk μ x Q (.goto l) s = Q (.goto l) s := rfl
theorem nextQ_of (y : α) (h1 : okk y) (h2 : μ y < μ x) (h3 : Weak s (I y)) : nextQ X G0 I okk μ x s := ⟨y, h1, h2, h3.less⟩
theorem nextQ_less (y : α) (h1 : okk y) (h2 : μ y < μ x) (h3 : Less X G0 s (I y)) : nextQ X G0 I okk μ x s := ⟨y, h1, h2, h3⟩
end
theorem lp_of {c : Code} {α : Type} (ok : OkX P X) (hm : P.follows .mixedOrders = true) (I : α → ASt) (okk : α → Prop) (μ : α → Nat) (x0 : α) (h0 : okk x0) (hs0 : Weak s (I x0))
    (round : ∀ x, okk x → wk P X G0 (loopQ X G0 I okk μ x (go P X G0 Q k)) c [] (I x)) : lp P X G0 Q c k s := ev_loop I okk μ x0 h0 hs0.less fun x hx => ev_of_wk ok hm (round x hx)
end

@[simp] theorem frL_nil (t : Nat) : frL [] t = .undef := rfl
@[simp] theorem frL_cons (k : Nat) (v : AV) (r : List (Nat × AV)) (t : Nat) : frL ((k, v) :: r) t = if t = k then v else frL r t := rfl
@[simp] theorem range_1 : List.range 1 = [0] := rfl
@[simp] theorem range_2 : List.range 2 = [0, 1] := rfl
@[simp] theorem range_3 : List.range 3 = [0, 1, 2] := rfl
@[simp] theorem range_4 : List.range 4 = [0, 1, 2, 3] := rfl
@[simp] theorem range_5 : List.range 5 = [0, 1, 2, 3, 4] := rfl
@[simp] theorem range_6 : List.range 6 = [0, 1, 2, 3, 4, 5] := rfl
@[simp] theorem range_7 : List.range 7 = [0, 1, 2, 3, 4, 5, 6] := rfl
@[simp] theorem range_8 : List.range 8 = [0, 1, 2, 3, 4, 5, 6, 7] := rfl
@[simp] theorem range_9 : List.range 9 = [0, 1, 2, 3, 4, 5, 6, 7, 8] := rfl
@[simp] theorem range_10 : List.range 10 = [0, 1, 2, 3, 4, 5, 6, 7, 8, 9] := rfl
@[simp] theorem range_11 : List.range 11 = [0, 1, 2, 3, 4, 5, 6, 7, 8, 9, 10] := rfl
@[simp] theorem range_12 : List.range 12 = [0, 1, 2, 3, 4, 5, 6, 7, 8, 9, 10, 11] := rfl
@[simp] theorem range_13 : List.range 13 = [0, 1, 2, 3, 4, 5, 6, 7, 8, 9, 10, 11, 12] := rfl
@[simp] theorem range_14 : List.range 14 = [0, 1, 2, 3, 4, 5, 6, 7, 8, 9, 10, 11, 12, 13] := rfl
@[simp] theorem range_15 : List.range 15 = [0, 1, 2, 3, 4, 5, 6, 7, 8, 9, 10, 11, 12, 13, 14] := rfl
@[simp] theorem range_16 : List.range 16 = [0, 1, 2, 3, 4, 5, 6, 7, 8, 9, 10, 11, 12, 13, 14, 15] := rfl
attribute [simp] lenOf loadAt storeAt elemsOf entsOf
attribute [simp] frOf Op.operands Call.operands

/-- the end of a function's walk -/
def fin (X : Cfg) (rs : List ResultVar) (r : AV) (e : Exit) (s : ASt) : Prop := (e = .normal ∨ e = .ret) ∧ ∃ d r0, resAs X s rs = some r0 ∧ peek s.st d r0 = some r
theorem fin_of {X : Cfg} {rs : List ResultVar} {r r0 : AV} {e : Exit} {s : ASt} (d : Nat) (he : e = .normal ∨ e = .ret) (h : resAs X s rs = some r0) (hp : peek s.st d r0 = some r) : fin X rs r e s := ⟨he, d, r0, h, hp⟩
/-- the results at a function's end -/
def finS (o : Option AV) (st : Sto) (r : AV) : Prop := ∃ d r0, o = some r0 ∧ peek st d r0 = some r
theorem finS_of {st : Sto} {r0 r : AV} (d : Nat) (h : peek st d r0 = some r) : finS (some r0) st r := ⟨d, r0, rfl, h⟩
theorem finS_fz {st : Sto} {v : AV} (h : fz v = true) : finS (some v) st v := ⟨0, v, rfl, peek_fz h⟩
@[simp] theorem fin_ret {X : Cfg} {rs : List ResultVar} {r : AV} {s : ASt} : fin X rs r .ret s = finS (resAs X s rs) s.st r := by simp [fin, finS]
@[simp] theorem fin_normal {X : Cfg} {rs : List ResultVar} {r : AV} {s : ASt} : fin X rs r .normal s = finS (resAs X s rs) s.st r := by simp [fin, finS]
attribute [simp] resAs resA liftS
theorem peek_of_fz {st : Sto} {d : Nat} {v r : AV} (h : fz v = true) : (peek st d v = some r) = (v = r) := by rw [peek_fz h]; simp
@[simp] theorem peek_9 {st : Sto} {v : AV} : peek st 9 v = if fz v = true then some v else peek1 st (peek st 8) v := rfl
@[simp] theorem peek_8 {st : Sto} {v : AV} : peek st 8 v = if fz v = true then some v else peek1 st (peek st 7) v := rfl
@[simp] theorem peek_7 {st : Sto} {v : AV} : peek st 7 v = if fz v = true then some v else peek1 st (peek st 6) v := rfl
@[simp] theorem peek_6 {st : Sto} {v : AV} : peek st 6 v = if fz v = true then some v else peek1 st (peek st 5) v := rfl
@[simp] theorem peek_5 {st : Sto} {v : AV} : peek st 5 v = if fz v = true then some v else peek1 st (peek st 4) v := rfl
@[simp] theorem peek_4 {st : Sto} {v : AV} : peek st 4 v = if fz v = true then some v else peek1 st (peek st 3) v := rfl
@[simp] theorem peek_3 {st : Sto} {v : AV} : peek st 3 v = if fz v = true then some v else peek1 st (peek st 2) v := rfl
@[simp] theorem peek_2 {st : Sto} {v : AV} : peek st 2 v = if fz v = true then some v else peek1 st (peek st 1) v := rfl
@[simp] theorem peek_1 {st : Sto} {v : AV} : peek st 1 v = if fz v = true then some v else peek1 st (peek st 0) v := rfl
@[simp] theorem peek_0 {st : Sto} {v : AV} : peek st 0 v = if fz v = true then some v else none := rfl
@[simp] theorem mapO_peek {st : Sto} {d : Nat} : ∀ {xs : List AV}, fzL xs = true → mapO (peek st d) xs = some xs
  | [], _ => rfl
  | x :: xs, h => by
    simp only [fzL, Bool.and_eq_true] at h
    simp only [mapO, peek_fz h.1, mapO_peek h.2]
attribute [simp] nz nzL peek1 flat flatL noMaps frz blw blwL blwE blwB
/-- the newest blocks are left, by the number of those that stay -/
theorem less_take {X : Cfg} (hz : FzG X.G) {G0 : Gh} (h0 : G0.σ = []) {s : ASt} {n : Nat} {st : Sto} {l : List (Nat × AV)} (hn : s.n = n) (hst : s.st.take st.length = st) (hb : st.all (blwB st.length) = true)
    (hf : ∀ p ∈ l, s.fr p.1 = p.2 ∧ blw st.length p.2 = true) : Less X G0 s ⟨n, frL l, st⟩ :=
  less_frL hz (st2 := s.st.drop st.length) (by rw [h0]; exact Nat.zero_le _) hn (by conv => lhs; rw [← List.take_append_drop st.length s.st, hst]) hb hf
attribute [-simp] step1
attribute [simp] step1_gs
theorem finS_eq {st : Sto} {v w : AV} (h : v = w) (hw : fz w = true) : finS (some v) st w := by subst h; exact finS_fz hw
end Go.Proofs.YtgpkochbmfhmdaaGreatDoor.Lift
namespace Go.Proofs.YtgpkochbmfhmdaaGreatDoor.Lift
open Go

abbrev Str := List UInt8

/-- how values of a type are abstract values -/
structure Cod (α : Type) where
  enc : α → AV
  dec : AV → Option α
  de : ∀ x, dec (enc x) = some x
  ed : ∀ v x, dec v = some x → v = enc x
  fz : ∀ x, fz (enc x) = true

@[simp] def decStr : AV → Option Str
  | .str s => some s
  | _ => none
@[simp] def encStr (s : Str) : AV := .str s
def cStr : Cod Str := ⟨encStr, decStr, fun _ => rfl, fun v x h => by cases v <;> simp_all, fun _ => rfl⟩
@[simp] def decInt : AV → Option Int
  | .int .i64 n => some n
  | _ => none
@[simp] def encInt (n : Int) : AV := .int .i64 n
def cInt : Cod Int := ⟨encInt, decInt, fun _ => rfl, fun v x h => by
  cases v with
  | int k n => cases k <;> simp_all
  | _ => simp_all, fun _ => rfl⟩
@[simp] def decBool : AV → Option Bool
  | .bool b => some b
  | _ => none
@[simp] def encBool (b : Bool) : AV := .bool b
def cBool : Cod Bool := ⟨encBool, decBool, fun _ => rfl, fun v x h => by cases v <;> simp_all, fun _ => rfl⟩
def decByte : AV → Option UInt8
  | .int .u8 n => if 0 ≤ n ∧ n < 256 then some (UInt8.ofNat n.toNat) else none
  | _ => none
@[simp] def encByte (b : UInt8) : AV := .int .u8 b.toNat
@[simp] theorem decByte_enc (b : UInt8) : decByte (.int .u8 b.toNat) = some b := by
  have := b.toNat_lt
  simp only [decByte]
  rw [if_pos (by omega)]
  simp
@[simp] theorem decByte_0 : decByte (.int .u8 0) = some 0 := rfl
@[simp] theorem decByte_1 : decByte (.int .u8 1) = some 1 := rfl
@[simp] theorem decByte_2 : decByte (.int .u8 2) = some 2 := rfl
@[simp] theorem decByte_3 : decByte (.int .u8 3) = some 3 := rfl
@[simp] theorem decByte_4 : decByte (.int .u8 4) = some 4 := rfl
@[simp] theorem decByte_5 : decByte (.int .u8 5) = some 5 := rfl
@[simp] theorem decByte_6 : decByte (.int .u8 6) = some 6 := rfl
@[simp] theorem decByte_7 : decByte (.int .u8 7) = some 7 := rfl
@[simp] theorem decByte_8 : decByte (.int .u8 8) = some 8 := rfl
@[simp] theorem decByte_9 : decByte (.int .u8 9) = some 9 := rfl
@[simp] theorem decByte_10 : decByte (.int .u8 10) = some 10 := rfl
@[simp] theorem decByte_11 : decByte (.int .u8 11) = some 11 := rfl
@[simp] theorem decByte_12 : decByte (.int .u8 12) = some 12 := rfl
@[simp] theorem decByte_13 : decByte (.int .u8 13) = some 13 := rfl
@[simp] theorem decByte_14 : decByte (.int .u8 14) = some 14 := rfl
@[simp] theorem decByte_15 : decByte (.int .u8 15) = some 15 := rfl
@[simp] theorem decByte_16 : decByte (.int .u8 16) = some 16 := rfl
@[simp] theorem decByte_17 : decByte (.int .u8 17) = some 17 := rfl
@[simp] theorem decByte_18 : decByte (.int .u8 18) = some 18 := rfl
@[simp] theorem decByte_19 : decByte (.int .u8 19) = some 19 := rfl
@[simp] theorem decByte_20 : decByte (.int .u8 20) = some 20 := rfl
@[simp] theorem decByte_21 : decByte (.int .u8 21) = some 21 := rfl
@[simp] theorem decByte_22 : decByte (.int .u8 22) = some 22 := rfl
@[simp] theorem decByte_23 : decByte (.int .u8 23) = some 23 := rfl
@[simp] theorem decByte_24 : decByte (.int .u8 24) = some 24 := rfl
@[simp] theorem decByte_25 : decByte (.int .u8 25) = some 25 := rfl
@[simp] theorem decByte_26 : decByte (.int .u8 26) = some 26 := rfl
@[simp] theorem decByte_27 : decByte (.int .u8 27) = some 27 := rfl
@[simp] theorem decByte_28 : decByte (.int .u8 28) = some 28 := rfl
@[simp] theorem decByte_29 : decByte (.int .u8 29) = some 29 := rfl
@[simp] theorem decByte_30 : decByte (.int .u8 30) = some 30 := rfl
@[simp] theorem decByte_31 : decByte (.int .u8 31) = some 31 := rfl
@[simp] theorem decByte_32 : decByte (.int .u8 32) = some 32 := rfl
@[simp] theorem decByte_33 : decByte (.int .u8 33) = some 33 := rfl
@[simp] theorem decByte_34 : decByte (.int .u8 34) = some 34 := rfl
@[simp] theorem decByte_35 : decByte (.int .u8 35) = some 35 := rfl
@[simp] theorem decByte_36 : decByte (.int .u8 36) = some 36 := rfl
@[simp] theorem decByte_37 : decByte (.int .u8 37) = some 37 := rfl
@[simp] theorem decByte_38 : decByte (.int .u8 38) = some 38 := rfl
@[simp] theorem decByte_39 : decByte (.int .u8 39) = some 39 := rfl
@[simp] theorem decByte_40 : decByte (.int .u8 40) = some 40 := rfl
@[simp] theorem decByte_41 : decByte (.int .u8 41) = some 41 := rfl
@[simp] theorem decByte_42 : decByte (.int .u8 42) = some 42 := rfl
@[simp] theorem decByte_43 : decByte (.int .u8 43) = some 43 := rfl
@[simp] theorem decByte_44 : decByte (.int .u8 44) = some 44 := rfl
@[simp] theorem decByte_45 : decByte (.int .u8 45) = some 45 := rfl
@[simp] theorem decByte_46 : decByte (.int .u8 46) = some 46 := rfl
@[simp] theorem decByte_47 : decByte (.int .u8 47) = some 47 := rfl
@[simp] theorem decByte_48 : decByte (.int .u8 48) = some 48 := rfl
@[simp] theorem decByte_49 : decByte (.int .u8 49) = some 49 := rfl
@[simp] theorem decByte_50 : decByte (.int .u8 50) = some 50 := rfl
@[simp] theorem decByte_51 : decByte (.int .u8 51) = some 51 := rfl
@[simp] theorem decByte_52 : decByte (.int .u8 52) = some 52 := rfl
@[simp] theorem decByte_53 : decByte (.int .u8 53) = some 53 := rfl
@[simp] theorem decByte_54 : decByte (.int .u8 54) = some 54 := rfl
@[simp] theorem decByte_55 : decByte (.int .u8 55) = some 55 := rfl
@[simp] theorem decByte_56 : decByte (.int .u8 56) = some 56 := rfl
@[simp] theorem decByte_57 : decByte (.int .u8 57) = some 57 := rfl
@[simp] theorem decByte_58 : decByte (.int .u8 58) = some 58 := rfl
@[simp] theorem decByte_59 : decByte (.int .u8 59) = some 59 := rfl
@[simp] theorem decByte_60 : decByte (.int .u8 60) = some 60 := rfl
@[simp] theorem decByte_61 : decByte (.int .u8 61) = some 61 := rfl
@[simp] theorem decByte_62 : decByte (.int .u8 62) = some 62 := rfl
@[simp] theorem decByte_63 : decByte (.int .u8 63) = some 63 := rfl
@[simp] theorem decByte_64 : decByte (.int .u8 64) = some 64 := rfl
@[simp] theorem decByte_65 : decByte (.int .u8 65) = some 65 := rfl
@[simp] theorem decByte_66 : decByte (.int .u8 66) = some 66 := rfl
@[simp] theorem decByte_67 : decByte (.int .u8 67) = some 67 := rfl
@[simp] theorem decByte_68 : decByte (.int .u8 68) = some 68 := rfl
@[simp] theorem decByte_69 : decByte (.int .u8 69) = some 69 := rfl
@[simp] theorem decByte_70 : decByte (.int .u8 70) = some 70 := rfl
@[simp] theorem decByte_71 : decByte (.int .u8 71) = some 71 := rfl
@[simp] theorem decByte_72 : decByte (.int .u8 72) = some 72 := rfl
@[simp] theorem decByte_73 : decByte (.int .u8 73) = some 73 := rfl
@[simp] theorem decByte_74 : decByte (.int .u8 74) = some 74 := rfl
@[simp] theorem decByte_75 : decByte (.int .u8 75) = some 75 := rfl
@[simp] theorem decByte_76 : decByte (.int .u8 76) = some 76 := rfl
@[simp] theorem decByte_77 : decByte (.int .u8 77) = some 77 := rfl
@[simp] theorem decByte_78 : decByte (.int .u8 78) = some 78 := rfl
@[simp] theorem decByte_79 : decByte (.int .u8 79) = some 79 := rfl
@[simp] theorem decByte_80 : decByte (.int .u8 80) = some 80 := rfl
@[simp] theorem decByte_81 : decByte (.int .u8 81) = some 81 := rfl
@[simp] theorem decByte_82 : decByte (.int .u8 82) = some 82 := rfl
@[simp] theorem decByte_83 : decByte (.int .u8 83) = some 83 := rfl
@[simp] theorem decByte_84 : decByte (.int .u8 84) = some 84 := rfl
@[simp] theorem decByte_85 : decByte (.int .u8 85) = some 85 := rfl
@[simp] theorem decByte_86 : decByte (.int .u8 86) = some 86 := rfl
@[simp] theorem decByte_87 : decByte (.int .u8 87) = some 87 := rfl
@[simp] theorem decByte_88 : decByte (.int .u8 88) = some 88 := rfl
@[simp] theorem decByte_89 : decByte (.int .u8 89) = some 89 := rfl
@[simp] theorem decByte_90 : decByte (.int .u8 90) = some 90 := rfl
@[simp] theorem decByte_91 : decByte (.int .u8 91) = some 91 := rfl
@[simp] theorem decByte_92 : decByte (.int .u8 92) = some 92 := rfl
@[simp] theorem decByte_93 : decByte (.int .u8 93) = some 93 := rfl
@[simp] theorem decByte_94 : decByte (.int .u8 94) = some 94 := rfl
@[simp] theorem decByte_95 : decByte (.int .u8 95) = some 95 := rfl
@[simp] theorem decByte_96 : decByte (.int .u8 96) = some 96 := rfl
@[simp] theorem decByte_97 : decByte (.int .u8 97) = some 97 := rfl
@[simp] theorem decByte_98 : decByte (.int .u8 98) = some 98 := rfl
@[simp] theorem decByte_99 : decByte (.int .u8 99) = some 99 := rfl
@[simp] theorem decByte_100 : decByte (.int .u8 100) = some 100 := rfl
@[simp] theorem decByte_101 : decByte (.int .u8 101) = some 101 := rfl
@[simp] theorem decByte_102 : decByte (.int .u8 102) = some 102 := rfl
@[simp] theorem decByte_103 : decByte (.int .u8 103) = some 103 := rfl
@[simp] theorem decByte_104 : decByte (.int .u8 104) = some 104 := rfl
@[simp] theorem decByte_105 : decByte (.int .u8 105) = some 105 := rfl
@[simp] theorem decByte_106 : decByte (.int .u8 106) = some 106 := rfl
@[simp] theorem decByte_107 : decByte (.int .u8 107) = some 107 := rfl
@[simp] theorem decByte_108 : decByte (.int .u8 108) = some 108 := rfl
@[simp] theorem decByte_109 : decByte (.int .u8 109) = some 109 := rfl
@[simp] theorem decByte_110 : decByte (.int .u8 110) = some 110 := rfl
@[simp] theorem decByte_111 : decByte (.int .u8 111) = some 111 := rfl
@[simp] theorem decByte_112 : decByte (.int .u8 112) = some 112 := rfl
@[simp] theorem decByte_113 : decByte (.int .u8 113) = some 113 := rfl
@[simp] theorem decByte_114 : decByte (.int .u8 114) = some 114 := rfl
@[simp] theorem decByte_115 : decByte (.int .u8 115) = some 115 := rfl
@[simp] theorem decByte_116 : decByte (.int .u8 116) = some 116 := rfl
@[simp] theorem decByte_117 : decByte (.int .u8 117) = some 117 := rfl
@[simp] theorem decByte_118 : decByte (.int .u8 118) = some 118 := rfl
@[simp] theorem decByte_119 : decByte (.int .u8 119) = some 119 := rfl
@[simp] theorem decByte_120 : decByte (.int .u8 120) = some 120 := rfl
@[simp] theorem decByte_121 : decByte (.int .u8 121) = some 121 := rfl
@[simp] theorem decByte_122 : decByte (.int .u8 122) = some 122 := rfl
@[simp] theorem decByte_123 : decByte (.int .u8 123) = some 123 := rfl
@[simp] theorem decByte_124 : decByte (.int .u8 124) = some 124 := rfl
@[simp] theorem decByte_125 : decByte (.int .u8 125) = some 125 := rfl
@[simp] theorem decByte_126 : decByte (.int .u8 126) = some 126 := rfl
@[simp] theorem decByte_127 : decByte (.int .u8 127) = some 127 := rfl
theorem decByte_ed (v : AV) (x : UInt8) (h : decByte v = some x) : v = encByte x := by
  unfold decByte at h
  split at h
  · split at h
    · rename_i n hn
      cases h
      simp only [encByte, AV.int.injEq, true_and]
      rw [UInt8.toNat_ofNat_of_lt' (by show n.toNat < 256; omega)]
      omega
    · cases h
  · cases h
def cByte : Cod UInt8 := ⟨encByte, decByte, fun b => by simp, decByte_ed, fun _ => rfl⟩

theorem mapO_map {α β : Type} {f : β → Option α} {g : α → β} (h : ∀ x, f (g x) = some x) : ∀ l : List α, mapO f (l.map g) = some l
  | [] => rfl
  | x :: l => by simp [h, mapO_map h l]
theorem mapO_inv {α β : Type} {f : β → Option α} {g : α → β} (h : ∀ v x, f v = some x → v = g x) : ∀ (l : List β) (r : List α), mapO f l = some r → l = r.map g
  | [], r, hr => by cases hr; rfl
  | y :: l, r, hr => by
    simp only [mapO] at hr
    split at hr
    · rename_i a b ha hb
      cases hr
      rw [h _ _ ha, mapO_inv h _ _ hb]
      rfl
    · cases hr
@[simp] theorem mapO_append {α β : Type} (f : α → Option β) : ∀ (l m : List α), mapO f (l ++ m) = match mapO f l, mapO f m with | some a, some b => some (a ++ b) | _, _ => none
  | [], m => by cases h : mapO f m <;> simp [h]
  | x :: l, m => by
    simp only [List.cons_append, mapO, mapO_append f l m]
    cases f x <;> cases mapO f l <;> cases mapO f m <;> simp
@[simp] theorem take_map_length {α β : Type} (f : α → β) (l : List α) : List.take l.length (l.map f) = l.map f := List.take_of_length_le (by simp)
theorem fzL_map {α : Type} {g : α → AV} (h : ∀ x, fz (g x) = true) : ∀ l : List α, fzL (l.map g) = true
  | [] => rfl
  | x :: l => by simp [fzL, h, fzL_map h l]
@[simp] theorem fzL_append : ∀ (l m : List AV), fzL (l ++ m) = (fzL l && fzL m)
  | [], m => by simp [fzL]
  | x :: l, m => by simp [fzL, fzL_append l m, Bool.and_assoc]

mutual
theorem fz_blw {k : Nat} : ∀ {v : AV}, fz v = true → blw k v = true
  | .undef, h => rfl
  | .bool _, h => rfl
  | .int .., h => rfl
  | .str _, h => rfl
  | .nilp, h => rfl
  | .ptr .., h => by cases h
  | .rp x _, h => by simp only [fz] at h; simp only [blw]; exact fz_blw h
  | .snil, h => rfl
  | .sle, h => rfl
  | .sl xs, h => by simp only [fz] at h; simp only [blw]; exact fzL_blw h
  | .sr .., h => by cases h
  | .fn f a b, h => by simp only [fz, Bool.and_eq_true] at h; simp only [blw, Bool.and_eq_true]; exact ⟨fzL_blw h.1, fzL_blw h.2⟩
  | .nilf, h => rfl
  | .nilm, h => rfl
  | .mv es, h => by simp only [fz] at h; simp only [blw]; exact fzE_blw h
  | .mr _, h => by cases h
  | .agg cs, h => by simp only [fz] at h; simp only [blw]; exact fzL_blw h
  | .tup vs, h => by simp only [fz] at h; simp only [blw]; exact fzL_blw h
theorem fzL_blw {k : Nat} : ∀ {l : List AV}, fzL l = true → blwL k l = true
  | [], _ => rfl
  | x :: r, h => by simp only [fzL, Bool.and_eq_true] at h; simp only [blwL, Bool.and_eq_true]; exact ⟨fz_blw h.1, fzL_blw h.2⟩
theorem fzE_blw {k : Nat} : ∀ {l : List (AV × AV)}, fzE l = true → blwE k l = true
  | [], _ => rfl
  | (a, b) :: r, h => by simp only [fzE, Bool.and_eq_true] at h; simp only [blwE, Bool.and_eq_true]; exact ⟨⟨fz_blw h.1.1, fz_blw h.1.2⟩, fzE_blw h.2⟩
end
theorem blwL_map {α : Type} {g : α → AV} (h : ∀ x, fz (g x) = true) (k : Nat) (l : List α) : blwL k (l.map g) = true := fzL_blw (fzL_map h l)
@[simp] theorem blwL_append (k : Nat) : ∀ (l m : List AV), blwL k (l ++ m) = (blwL k l && blwL k m)
  | [], m => by simp [blwL]
  | x :: l, m => by simp [blwL, blwL_append k l m, Bool.and_assoc]
def decL {α : Type} (f : AV → Option α) : AV → Option (List α)
  | .sl l => mapO f l
  | _ => none
def encL {α : Type} (g : α → AV) (l : List α) : AV := .sl (l.map g)
@[simp] theorem decL_sl {α : Type} (f : AV → Option α) (l : List AV) : decL f (.sl l) = mapO f l := rfl
def cL {α : Type} (c : Cod α) : Cod (List α) := ⟨encL c.enc, decL c.dec, fun l => mapO_map c.de l, fun v x h => by
  cases v <;> first | (cases h; done) | exact congrArg AV.sl (mapO_inv c.ed _ _ h)
  , fun l => by simp [encL, Lift.fz, fzL_map c.fz]⟩

section
variable {α β γ δ ε : Type}
/-- pure contracts of one, two, .. arguments -/
def fn0 (er : ε → AV) (g : Option ε) : List AV → Option AV
  | [] => g.map er
  | _ => none
def fn1 (ca : Cod α) (er : ε → AV) (g : α → Option ε) : List AV → Option AV
  | [x] => (ca.dec x).bind fun a => (g a).map er
  | _ => none
def fn2 (ca : Cod α) (cb : Cod β) (er : ε → AV) (g : α → β → Option ε) : List AV → Option AV
  | [x, y] => (ca.dec x).bind fun a => (cb.dec y).bind fun b => (g a b).map er
  | _ => none
def fn3 (ca : Cod α) (cb : Cod β) (cc : Cod γ) (er : ε → AV) (g : α → β → γ → Option ε) : List AV → Option AV
  | [x, y, z] => (ca.dec x).bind fun a => (cb.dec y).bind fun b => (cc.dec z).bind fun c => (g a b c).map er
  | _ => none
def fn4 (ca : Cod α) (cb : Cod β) (cc : Cod γ) (cd : Cod δ) (er : ε → AV) (g : α → β → γ → δ → Option ε) : List AV → Option AV
  | [x, y, z, w] => (ca.dec x).bind fun a => (cb.dec y).bind fun b => (cc.dec z).bind fun c => (cd.dec w).bind fun d => (g a b c d).map er
  | _ => none
variable {ca : Cod α} {cb : Cod β} {cc : Cod γ} {cd : Cod δ} {er : ε → AV}
@[simp] theorem fn0_eq {g : Option ε} : fn0 er g [] = g.map er := rfl
@[simp] theorem fn1_eq {g : α → Option ε} {x : AV} : fn1 ca er g [x] = (ca.dec x).bind fun a => (g a).map er := rfl
@[simp] theorem fn2_eq {g : α → β → Option ε} {x y : AV} : fn2 ca cb er g [x, y] = (ca.dec x).bind fun a => (cb.dec y).bind fun b => (g a b).map er := rfl
@[simp] theorem fn3_eq {g : α → β → γ → Option ε} {x y z : AV} : fn3 ca cb cc er g [x, y, z] = (ca.dec x).bind fun a => (cb.dec y).bind fun b => (cc.dec z).bind fun c => (g a b c).map er := rfl
@[simp] theorem fn4_eq {g : α → β → γ → δ → Option ε} {x y z w : AV} : fn4 ca cb cc cd er g [x, y, z, w] = (ca.dec x).bind fun a => (cb.dec y).bind fun b => (cc.dec z).bind fun c => (cd.dec w).bind fun d => (g a b c d).map er := rfl
theorem fn1_inv {g : α → Option ε} {args : List AV} {r : AV} (h : fn1 ca er g args = some r) : ∃ a e, args = [ca.enc a] ∧ g a = some e ∧ r = er e := by
  unfold fn1 at h
  split at h
  · simp only [Option.bind_eq_some_iff, Option.map_eq_some_iff] at h
    obtain ⟨a, ha, e, he, rfl⟩ := h
    exact ⟨a, e, by rw [ca.ed _ _ ha], he, rfl⟩
  · cases h
theorem fn2_inv {g : α → β → Option ε} {args : List AV} {r : AV} (h : fn2 ca cb er g args = some r) : ∃ a b e, args = [ca.enc a, cb.enc b] ∧ g a b = some e ∧ r = er e := by
  unfold fn2 at h
  split at h
  · simp only [Option.bind_eq_some_iff, Option.map_eq_some_iff] at h
    obtain ⟨a, ha, b, hb, e, he, rfl⟩ := h
    exact ⟨a, b, e, by rw [ca.ed _ _ ha, cb.ed _ _ hb], he, rfl⟩
  · cases h
theorem fn3_inv {g : α → β → γ → Option ε} {args : List AV} {r : AV} (h : fn3 ca cb cc er g args = some r) : ∃ a b c e, args = [ca.enc a, cb.enc b, cc.enc c] ∧ g a b c = some e ∧ r = er e := by
  unfold fn3 at h
  split at h
  · simp only [Option.bind_eq_some_iff, Option.map_eq_some_iff] at h
    obtain ⟨a, ha, b, hb, c, hc, e, he, rfl⟩ := h
    exact ⟨a, b, c, e, by rw [ca.ed _ _ ha, cb.ed _ _ hb, cc.ed _ _ hc], he, rfl⟩
  · cases h
theorem fn4_inv {g : α → β → γ → δ → Option ε} {args : List AV} {r : AV} (h : fn4 ca cb cc cd er g args = some r) : ∃ a b c d e, args = [ca.enc a, cb.enc b, cc.enc c, cd.enc d] ∧ g a b c d = some e ∧ r = er e := by
  unfold fn4 at h
  split at h
  · simp only [Option.bind_eq_some_iff, Option.map_eq_some_iff] at h
    obtain ⟨a, ha, b, hb, c, hc, d, hd, e, he, rfl⟩ := h
    exact ⟨a, b, c, d, e, by rw [ca.ed _ _ ha, cb.ed _ _ hb, cc.ed _ _ hc, cd.ed _ _ hd], he, rfl⟩
  · cases h
theorem fn0_inv {g : Option ε} {args : List AV} {r : AV} (h : fn0 er g args = some r) : ∃ e, args = [] ∧ g = some e ∧ r = er e := by
  unfold fn0 at h
  split at h
  · obtain ⟨e, he, rfl⟩ := Option.map_eq_some_iff.1 h
    exact ⟨e, rfl, he, rfl⟩
  · cases h
end

/-- a pure contract from the walk of its body -/
theorem soundP_of_wk {P : Program} {X : Cfg} (ok : OkX P X) (hm : P.follows .mixedOrders = true) {f : Nat} {fn : Func} (hf : P.funcs[f]? = some fn) (hb : fn.body.isSome = true) (hn : (fn.name == "runtime.NumGoroutine") = false) {g : List AV → Option AV}
    (h : ∀ args r, g args = some r → ∀ G0 : { G : Gh // G.σ = [] }, wk P X G0.1 (fin X fn.results.toList r) (fn.body.get hb) [] (entry fn args [])) (hX : X.J = noFoe := by rfl) : SoundP P X.G f g :=
  soundP_of_ev ok.T hf (c := fn.body.get hb) (by simp) hn (fun args r hr G0 => ev_of_wk ok hm (h args r hr G0)) hX

end Go.Proofs.YtgpkochbmfhmdaaGreatDoor.Lift
namespace Go.Proofs.YtgpkochbmfhmdaaGreatDoor.Lift
open Go

@[simp] theorem cStr_dec : cStr.dec = decStr := rfl
@[simp] theorem cStr_enc : cStr.enc = encStr := rfl
@[simp] theorem cInt_dec : cInt.dec = decInt := rfl
@[simp] theorem cInt_enc : cInt.enc = encInt := rfl
@[simp] theorem cBool_dec : cBool.dec = decBool := rfl
@[simp] theorem cBool_enc : cBool.enc = encBool := rfl
@[simp] theorem cByte_dec : cByte.dec = decByte := rfl
@[simp] theorem cByte_enc : cByte.enc = encByte := rfl
@[simp] theorem cL_dec {α : Type} (c : Cod α) : (cL c).dec = decL c.dec := rfl
@[simp] theorem cL_enc {α : Type} (c : Cod α) : (cL c).enc = encL c.enc := rfl
attribute [simp] encL fz fzL

@[simp] theorem mapO_Str (l : List Str) : mapO decStr (l.map encStr) = some l := mapO_map (by simp) l
@[simp] theorem fzL_Str (l : List Str) : fzL (l.map encStr) = true := fzL_map (fun _ => rfl) l
@[simp] theorem blwL_Str (k : Nat) (l : List Str) : blwL k (l.map encStr) = true := blwL_map (fun _ => rfl) k l

@[simp] theorem mapO_Int (l : List Int) : mapO decInt (l.map encInt) = some l := mapO_map (by simp) l
@[simp] theorem fzL_Int (l : List Int) : fzL (l.map encInt) = true := fzL_map (fun _ => rfl) l
@[simp] theorem blwL_Int (k : Nat) (l : List Int) : blwL k (l.map encInt) = true := blwL_map (fun _ => rfl) k l

@[simp] theorem mapO_Bool (l : List Bool) : mapO decBool (l.map encBool) = some l := mapO_map (by simp) l
@[simp] theorem fzL_Bool (l : List Bool) : fzL (l.map encBool) = true := fzL_map (fun _ => rfl) l
@[simp] theorem blwL_Bool (k : Nat) (l : List Bool) : blwL k (l.map encBool) = true := blwL_map (fun _ => rfl) k l

@[simp] theorem mapO_Byte (l : List UInt8) : mapO decByte (l.map encByte) = some l := mapO_map (by simp) l
@[simp] theorem fzL_Byte (l : List UInt8) : fzL (l.map encByte) = true := fzL_map (fun _ => rfl) l
@[simp] theorem blwL_Byte (k : Nat) (l : List UInt8) : blwL k (l.map encByte) = true := blwL_map (fun _ => rfl) k l

structure ARecord where
  epoch : Int
  data : Str
  deriving DecidableEq, Inhabited

@[simp] def encRecord (x : ARecord) : AV := .agg [.int .i64 x.epoch, .str x.data]

@[simp] def decRecord : AV → Option ARecord
  | .agg [.int .i64 epoch, .str data] => some ⟨epoch, data⟩
  | _ => none

theorem edRecord (v : AV) (x : ARecord) (h : decRecord v = some x) : v = encRecord x := by
  unfold decRecord at h
  split at h
  · cases h; rfl
  · cases h

def cRecord : Cod ARecord := ⟨encRecord, decRecord, fun x => by simp, edRecord, fun x => by simp⟩
@[simp] theorem cRecord_dec : cRecord.dec = decRecord := rfl
@[simp] theorem cRecord_enc : cRecord.enc = encRecord := rfl
@[simp] theorem mapO_Record (l : List ARecord) : mapO decRecord (l.map encRecord) = some l := mapO_map cRecord.de l
@[simp] theorem fzL_Record (l : List ARecord) : fzL (l.map encRecord) = true := fzL_map cRecord.fz l
@[simp] theorem blwL_Record (k : Nat) (l : List ARecord) : blwL k (l.map encRecord) = true := blwL_map cRecord.fz k l

structure AEntry where
  tag : Int
  text : Str
  n : Int
  a : Int
  b : Int
  deriving DecidableEq, Inhabited

@[simp] def encEntry (x : AEntry) : AV := .agg [.int .i64 x.tag, .str x.text, .int .i64 x.n, .int .i64 x.a, .int .i64 x.b]

@[simp] def decEntry : AV → Option AEntry
  | .agg [.int .i64 tag, .str text, .int .i64 n, .int .i64 a, .int .i64 b] => some ⟨tag, text, n, a, b⟩
  | _ => none

theorem edEntry (v : AV) (x : AEntry) (h : decEntry v = some x) : v = encEntry x := by
  unfold decEntry at h
  split at h
  · cases h; rfl
  · cases h

def cEntry : Cod AEntry := ⟨encEntry, decEntry, fun x => by simp, edEntry, fun x => by simp⟩
@[simp] theorem cEntry_dec : cEntry.dec = decEntry := rfl
@[simp] theorem cEntry_enc : cEntry.enc = encEntry := rfl
@[simp] theorem mapO_Entry (l : List AEntry) : mapO decEntry (l.map encEntry) = some l := mapO_map cEntry.de l
@[simp] theorem fzL_Entry (l : List AEntry) : fzL (l.map encEntry) = true := fzL_map cEntry.fz l
@[simp] theorem blwL_Entry (k : Nat) (l : List AEntry) : blwL k (l.map encEntry) = true := blwL_map cEntry.fz k l

structure AConst where
  tag : Int
  n : Int
  cls : Str
  name : Str
  type : Str
  deriving DecidableEq, Inhabited

@[simp] def encConst (x : AConst) : AV := .agg [.int .i64 x.tag, .int .i64 x.n, .str x.cls, .str x.name, .str x.type]

@[simp] def decConst : AV → Option AConst
  | .agg [.int .i64 tag, .int .i64 n, .str cls, .str name, .str type] => some ⟨tag, n, cls, name, type⟩
  | _ => none

theorem edConst (v : AV) (x : AConst) (h : decConst v = some x) : v = encConst x := by
  unfold decConst at h
  split at h
  · cases h; rfl
  · cases h

def cConst : Cod AConst := ⟨encConst, decConst, fun x => by simp, edConst, fun x => by simp⟩
@[simp] theorem cConst_dec : cConst.dec = decConst := rfl
@[simp] theorem cConst_enc : cConst.enc = encConst := rfl
@[simp] theorem mapO_Const (l : List AConst) : mapO decConst (l.map encConst) = some l := mapO_map cConst.de l
@[simp] theorem fzL_Const (l : List AConst) : fzL (l.map encConst) = true := fzL_map cConst.fz l
@[simp] theorem blwL_Const (k : Nat) (l : List AConst) : blwL k (l.map encConst) = true := blwL_map cConst.fz k l

structure ATy where
  kind : Int
  name : Str
  deriving DecidableEq, Inhabited

@[simp] def encTy (x : ATy) : AV := .agg [.int .i64 x.kind, .str x.name]

@[simp] def decTy : AV → Option ATy
  | .agg [.int .i64 kind, .str name] => some ⟨kind, name⟩
  | _ => none

theorem edTy (v : AV) (x : ATy) (h : decTy v = some x) : v = encTy x := by
  unfold decTy at h
  split at h
  · cases h; rfl
  · cases h

def cTy : Cod ATy := ⟨encTy, decTy, fun x => by simp, edTy, fun x => by simp⟩
@[simp] theorem cTy_dec : cTy.dec = decTy := rfl
@[simp] theorem cTy_enc : cTy.enc = encTy := rfl
@[simp] theorem mapO_Ty (l : List ATy) : mapO decTy (l.map encTy) = some l := mapO_map cTy.de l
@[simp] theorem fzL_Ty (l : List ATy) : fzL (l.map encTy) = true := fzL_map cTy.fz l
@[simp] theorem blwL_Ty (k : Nat) (l : List ATy) : blwL k (l.map encTy) = true := blwL_map cTy.fz k l

structure AMap where
  at_ : Int
  locals : List ATy
  stack : List ATy
  deriving DecidableEq, Inhabited

@[simp] def encMap (x : AMap) : AV := .agg [.int .i64 x.at_, .sl (x.locals.map encTy), .sl (x.stack.map encTy)]

@[simp] def decMap : AV → Option AMap
  | .agg [.int .i64 at_, .sl locals, .sl stack] => (mapO decTy locals).bind fun locals => (mapO decTy stack).bind fun stack => some ⟨at_, locals, stack⟩
  | _ => none

theorem edMap (v : AV) (x : AMap) (h : decMap v = some x) : v = encMap x := by
  unfold decMap at h
  split at h
  · simp only [Option.bind_eq_some_iff, Option.some.injEq] at h
    obtain ⟨q_locals, h_locals, q_stack, h_stack, rfl⟩ := h
    simp only [encMap, ← mapO_inv edTy _ _ h_locals, ← mapO_inv edTy _ _ h_stack]
  · cases h

def cMap : Cod AMap := ⟨encMap, decMap, fun x => by simp, edMap, fun x => by simp⟩
@[simp] theorem cMap_dec : cMap.dec = decMap := rfl
@[simp] theorem cMap_enc : cMap.enc = encMap := rfl
@[simp] theorem mapO_Map (l : List AMap) : mapO decMap (l.map encMap) = some l := mapO_map cMap.de l
@[simp] theorem fzL_Map (l : List AMap) : fzL (l.map encMap) = true := fzL_map cMap.fz l
@[simp] theorem blwL_Map (k : Nat) (l : List AMap) : blwL k (l.map encMap) = true := blwL_map cMap.fz k l

structure AHandler where
  from_ : Int
  to : Int
  at_ : Int
  cls : Int
  deriving DecidableEq, Inhabited

@[simp] def encHandler (x : AHandler) : AV := .agg [.int .i64 x.from_, .int .i64 x.to, .int .i64 x.at_, .int .i64 x.cls]

@[simp] def decHandler : AV → Option AHandler
  | .agg [.int .i64 from_, .int .i64 to, .int .i64 at_, .int .i64 cls] => some ⟨from_, to, at_, cls⟩
  | _ => none

theorem edHandler (v : AV) (x : AHandler) (h : decHandler v = some x) : v = encHandler x := by
  unfold decHandler at h
  split at h
  · cases h; rfl
  · cases h

def cHandler : Cod AHandler := ⟨encHandler, decHandler, fun x => by simp, edHandler, fun x => by simp⟩
@[simp] theorem cHandler_dec : cHandler.dec = decHandler := rfl
@[simp] theorem cHandler_enc : cHandler.enc = encHandler := rfl
@[simp] theorem mapO_Handler (l : List AHandler) : mapO decHandler (l.map encHandler) = some l := mapO_map cHandler.de l
@[simp] theorem fzL_Handler (l : List AHandler) : fzL (l.map encHandler) = true := fzL_map cHandler.fz l
@[simp] theorem blwL_Handler (k : Nat) (l : List AHandler) : blwL k (l.map encHandler) = true := blwL_map cHandler.fz k l

structure ACode where
  stack : Int
  locals : Int
  bytes : List UInt8
  handlers : List AHandler
  maps : List AMap
  deriving DecidableEq, Inhabited

@[simp] def encCode (x : ACode) : AV := .agg [.int .i64 x.stack, .int .i64 x.locals, .sl (x.bytes.map encByte), .sl (x.handlers.map encHandler), .sl (x.maps.map encMap)]

@[simp] def decCode : AV → Option ACode
  | .agg [.int .i64 stack, .int .i64 locals, .sl bytes, .sl handlers, .sl maps] => (mapO decByte bytes).bind fun bytes => (mapO decHandler handlers).bind fun handlers => (mapO decMap maps).bind fun maps => some ⟨stack, locals, bytes, handlers, maps⟩
  | _ => none

theorem edCode (v : AV) (x : ACode) (h : decCode v = some x) : v = encCode x := by
  unfold decCode at h
  split at h
  · simp only [Option.bind_eq_some_iff, Option.some.injEq] at h
    obtain ⟨q_bytes, h_bytes, q_handlers, h_handlers, q_maps, h_maps, rfl⟩ := h
    simp only [encCode, ← mapO_inv decByte_ed _ _ h_bytes, ← mapO_inv edHandler _ _ h_handlers, ← mapO_inv edMap _ _ h_maps]
  · cases h

def cCode : Cod ACode := ⟨encCode, decCode, fun x => by simp, edCode, fun x => by simp⟩
@[simp] theorem cCode_dec : cCode.dec = decCode := rfl
@[simp] theorem cCode_enc : cCode.enc = encCode := rfl
@[simp] theorem mapO_Code (l : List ACode) : mapO decCode (l.map encCode) = some l := mapO_map cCode.de l
@[simp] theorem fzL_Code (l : List ACode) : fzL (l.map encCode) = true := fzL_map cCode.fz l
@[simp] theorem blwL_Code (k : Nat) (l : List ACode) : blwL k (l.map encCode) = true := blwL_map cCode.fz k l

structure AField where
  access : Int
  name : Str
  type : Str
  deriving DecidableEq, Inhabited

@[simp] def encField (x : AField) : AV := .agg [.int .i64 x.access, .str x.name, .str x.type]

@[simp] def decField : AV → Option AField
  | .agg [.int .i64 access, .str name, .str type] => some ⟨access, name, type⟩
  | _ => none

theorem edField (v : AV) (x : AField) (h : decField v = some x) : v = encField x := by
  unfold decField at h
  split at h
  · cases h; rfl
  · cases h

def cField : Cod AField := ⟨encField, decField, fun x => by simp, edField, fun x => by simp⟩
@[simp] theorem cField_dec : cField.dec = decField := rfl
@[simp] theorem cField_enc : cField.enc = encField := rfl
@[simp] theorem mapO_Field (l : List AField) : mapO decField (l.map encField) = some l := mapO_map cField.de l
@[simp] theorem fzL_Field (l : List AField) : fzL (l.map encField) = true := fzL_map cField.fz l
@[simp] theorem blwL_Field (k : Nat) (l : List AField) : blwL k (l.map encField) = true := blwL_map cField.fz k l

structure AMethod where
  access : Int
  name : Str
  type : Str
  code : ACode
  deriving DecidableEq, Inhabited

@[simp] def encMethod (x : AMethod) : AV := .agg [.int .i64 x.access, .str x.name, .str x.type, .int .i64 x.code.stack, .int .i64 x.code.locals, .sl (x.code.bytes.map encByte), .sl (x.code.handlers.map encHandler), .sl (x.code.maps.map encMap)]

@[simp] def decMethod : AV → Option AMethod
  | .agg [.int .i64 access, .str name, .str type, .int .i64 code_stack, .int .i64 code_locals, .sl code_bytes, .sl code_handlers, .sl code_maps] => (mapO decByte code_bytes).bind fun code_bytes => (mapO decHandler code_handlers).bind fun code_handlers => (mapO decMap code_maps).bind fun code_maps => some ⟨access, name, type, ⟨code_stack, code_locals, code_bytes, code_handlers, code_maps⟩⟩
  | _ => none

theorem edMethod (v : AV) (x : AMethod) (h : decMethod v = some x) : v = encMethod x := by
  unfold decMethod at h
  split at h
  · simp only [Option.bind_eq_some_iff, Option.some.injEq] at h
    obtain ⟨q_code_bytes, h_code_bytes, q_code_handlers, h_code_handlers, q_code_maps, h_code_maps, rfl⟩ := h
    simp only [encMethod, ← mapO_inv decByte_ed _ _ h_code_bytes, ← mapO_inv edHandler _ _ h_code_handlers, ← mapO_inv edMap _ _ h_code_maps]
  · cases h

def cMethod : Cod AMethod := ⟨encMethod, decMethod, fun x => by simp, edMethod, fun x => by simp⟩
@[simp] theorem cMethod_dec : cMethod.dec = decMethod := rfl
@[simp] theorem cMethod_enc : cMethod.enc = encMethod := rfl
@[simp] theorem mapO_Method (l : List AMethod) : mapO decMethod (l.map encMethod) = some l := mapO_map cMethod.de l
@[simp] theorem fzL_Method (l : List AMethod) : fzL (l.map encMethod) = true := fzL_map cMethod.fz l
@[simp] theorem blwL_Method (k : Nat) (l : List AMethod) : blwL k (l.map encMethod) = true := blwL_map cMethod.fz k l

structure AClass where
  pool : List AEntry
  name : Str
  super : Str
  fields : List AField
  methods : List AMethod
  deriving DecidableEq, Inhabited

@[simp] def encClass (x : AClass) : AV := .agg [.sl (x.pool.map encEntry), .str x.name, .str x.super, .sl (x.fields.map encField), .sl (x.methods.map encMethod)]

@[simp] def decClass : AV → Option AClass
  | .agg [.sl pool, .str name, .str super, .sl fields, .sl methods] => (mapO decEntry pool).bind fun pool => (mapO decField fields).bind fun fields => (mapO decMethod methods).bind fun methods => some ⟨pool, name, super, fields, methods⟩
  | _ => none

theorem edClass (v : AV) (x : AClass) (h : decClass v = some x) : v = encClass x := by
  unfold decClass at h
  split at h
  · simp only [Option.bind_eq_some_iff, Option.some.injEq] at h
    obtain ⟨q_pool, h_pool, q_fields, h_fields, q_methods, h_methods, rfl⟩ := h
    simp only [encClass, ← mapO_inv edEntry _ _ h_pool, ← mapO_inv edField _ _ h_fields, ← mapO_inv edMethod _ _ h_methods]
  · cases h

def cClass : Cod AClass := ⟨encClass, decClass, fun x => by simp, edClass, fun x => by simp⟩
@[simp] theorem cClass_dec : cClass.dec = decClass := rfl
@[simp] theorem cClass_enc : cClass.enc = encClass := rfl
@[simp] theorem mapO_Class (l : List AClass) : mapO decClass (l.map encClass) = some l := mapO_map cClass.de l
@[simp] theorem fzL_Class (l : List AClass) : fzL (l.map encClass) = true := fzL_map cClass.fz l
@[simp] theorem blwL_Class (k : Nat) (l : List AClass) : blwL k (l.map encClass) = true := blwL_map cClass.fz k l

structure ACase where
  key : Int
  to : Int
  deriving DecidableEq, Inhabited

@[simp] def encCase (x : ACase) : AV := .agg [.int .i64 x.key, .int .i64 x.to]

@[simp] def decCase : AV → Option ACase
  | .agg [.int .i64 key, .int .i64 to] => some ⟨key, to⟩
  | _ => none

theorem edCase (v : AV) (x : ACase) (h : decCase v = some x) : v = encCase x := by
  unfold decCase at h
  split at h
  · cases h; rfl
  · cases h

def cCase : Cod ACase := ⟨encCase, decCase, fun x => by simp, edCase, fun x => by simp⟩
@[simp] theorem cCase_dec : cCase.dec = decCase := rfl
@[simp] theorem cCase_enc : cCase.enc = encCase := rfl
@[simp] theorem mapO_Case (l : List ACase) : mapO decCase (l.map encCase) = some l := mapO_map cCase.de l
@[simp] theorem fzL_Case (l : List ACase) : fzL (l.map encCase) = true := fzL_map cCase.fz l
@[simp] theorem blwL_Case (k : Nat) (l : List ACase) : blwL k (l.map encCase) = true := blwL_map cCase.fz k l

structure AInstr where
  at_ : Int
  op : Int
  a : Int
  b : Int
  cases : List ACase
  deriving DecidableEq, Inhabited

@[simp] def encInstr (x : AInstr) : AV := .agg [.int .i64 x.at_, .int .i64 x.op, .int .i64 x.a, .int .i64 x.b, .sl (x.cases.map encCase)]

@[simp] def decInstr : AV → Option AInstr
  | .agg [.int .i64 at_, .int .i64 op, .int .i64 a, .int .i64 b, .sl cases] => (mapO decCase cases).bind fun cases => some ⟨at_, op, a, b, cases⟩
  | _ => none

theorem edInstr (v : AV) (x : AInstr) (h : decInstr v = some x) : v = encInstr x := by
  unfold decInstr at h
  split at h
  · simp only [Option.bind_eq_some_iff, Option.some.injEq] at h
    obtain ⟨q_cases, h_cases, rfl⟩ := h
    simp only [encInstr, ← mapO_inv edCase _ _ h_cases]
  · cases h

def cInstr : Cod AInstr := ⟨encInstr, decInstr, fun x => by simp, edInstr, fun x => by simp⟩
@[simp] theorem cInstr_dec : cInstr.dec = decInstr := rfl
@[simp] theorem cInstr_enc : cInstr.enc = encInstr := rfl
@[simp] theorem mapO_Instr (l : List AInstr) : mapO decInstr (l.map encInstr) = some l := mapO_map cInstr.de l
@[simp] theorem fzL_Instr (l : List AInstr) : fzL (l.map encInstr) = true := fzL_map cInstr.fz l
@[simp] theorem blwL_Instr (k : Nat) (l : List AInstr) : blwL k (l.map encInstr) = true := blwL_map cInstr.fz k l

structure AFrame where
  locals : List ATy
  stack : List ATy
  deriving DecidableEq, Inhabited

@[simp] def encFrame (x : AFrame) : AV := .agg [.sl (x.locals.map encTy), .sl (x.stack.map encTy)]

@[simp] def decFrame : AV → Option AFrame
  | .agg [.sl locals, .sl stack] => (mapO decTy locals).bind fun locals => (mapO decTy stack).bind fun stack => some ⟨locals, stack⟩
  | _ => none

theorem edFrame (v : AV) (x : AFrame) (h : decFrame v = some x) : v = encFrame x := by
  unfold decFrame at h
  split at h
  · simp only [Option.bind_eq_some_iff, Option.some.injEq] at h
    obtain ⟨q_locals, h_locals, q_stack, h_stack, rfl⟩ := h
    simp only [encFrame, ← mapO_inv edTy _ _ h_locals, ← mapO_inv edTy _ _ h_stack]
  · cases h

def cFrame : Cod AFrame := ⟨encFrame, decFrame, fun x => by simp, edFrame, fun x => by simp⟩
@[simp] theorem cFrame_dec : cFrame.dec = decFrame := rfl
@[simp] theorem cFrame_enc : cFrame.enc = encFrame := rfl
@[simp] theorem mapO_Frame (l : List AFrame) : mapO decFrame (l.map encFrame) = some l := mapO_map cFrame.de l
@[simp] theorem fzL_Frame (l : List AFrame) : fzL (l.map encFrame) = true := fzL_map cFrame.fz l
@[simp] theorem blwL_Frame (k : Nat) (l : List AFrame) : blwL k (l.map encFrame) = true := blwL_map cFrame.fz k l

structure AVal where
  kind : Int
  n : Int
  deriving DecidableEq, Inhabited

@[simp] def encVal (x : AVal) : AV := .agg [.int .i64 x.kind, .int .i64 x.n]

@[simp] def decVal : AV → Option AVal
  | .agg [.int .i64 kind, .int .i64 n] => some ⟨kind, n⟩
  | _ => none

theorem edVal (v : AV) (x : AVal) (h : decVal v = some x) : v = encVal x := by
  unfold decVal at h
  split at h
  · cases h; rfl
  · cases h

def cVal : Cod AVal := ⟨encVal, decVal, fun x => by simp, edVal, fun x => by simp⟩
@[simp] theorem cVal_dec : cVal.dec = decVal := rfl
@[simp] theorem cVal_enc : cVal.enc = encVal := rfl
@[simp] theorem mapO_Val (l : List AVal) : mapO decVal (l.map encVal) = some l := mapO_map cVal.de l
@[simp] theorem fzL_Val (l : List AVal) : fzL (l.map encVal) = true := fzL_map cVal.fz l
@[simp] theorem blwL_Val (k : Nat) (l : List AVal) : blwL k (l.map encVal) = true := blwL_map cVal.fz k l

structure AObject where
  type : Str
  words : List AVal
  deriving DecidableEq, Inhabited

@[simp] def encObject (x : AObject) : AV := .agg [.str x.type, .sl (x.words.map encVal)]

@[simp] def decObject : AV → Option AObject
  | .agg [.str type, .sl words] => (mapO decVal words).bind fun words => some ⟨type, words⟩
  | _ => none

theorem edObject (v : AV) (x : AObject) (h : decObject v = some x) : v = encObject x := by
  unfold decObject at h
  split at h
  · simp only [Option.bind_eq_some_iff, Option.some.injEq] at h
    obtain ⟨q_words, h_words, rfl⟩ := h
    simp only [encObject, ← mapO_inv edVal _ _ h_words]
  · cases h

def cObject : Cod AObject := ⟨encObject, decObject, fun x => by simp, edObject, fun x => by simp⟩
@[simp] theorem cObject_dec : cObject.dec = decObject := rfl
@[simp] theorem cObject_enc : cObject.enc = encObject := rfl
@[simp] theorem mapO_Object (l : List AObject) : mapO decObject (l.map encObject) = some l := mapO_map cObject.de l
@[simp] theorem fzL_Object (l : List AObject) : fzL (l.map encObject) = true := fzL_map cObject.fz l
@[simp] theorem blwL_Object (k : Nat) (l : List AObject) : blwL k (l.map encObject) = true := blwL_map cObject.fz k l

structure ACallF where
  cls : Int
  method : Int
  at_ : Int
  locals : List AVal
  stack : List AVal
  lock : Int
  deriving DecidableEq, Inhabited

@[simp] def encCallF (x : ACallF) : AV := .agg [.int .i64 x.cls, .int .i64 x.method, .int .i64 x.at_, .sl (x.locals.map encVal), .sl (x.stack.map encVal), .int .i64 x.lock]

@[simp] def decCallF : AV → Option ACallF
  | .agg [.int .i64 cls, .int .i64 method, .int .i64 at_, .sl locals, .sl stack, .int .i64 lock] => (mapO decVal locals).bind fun locals => (mapO decVal stack).bind fun stack => some ⟨cls, method, at_, locals, stack, lock⟩
  | _ => none

theorem edCallF (v : AV) (x : ACallF) (h : decCallF v = some x) : v = encCallF x := by
  unfold decCallF at h
  split at h
  · simp only [Option.bind_eq_some_iff, Option.some.injEq] at h
    obtain ⟨q_locals, h_locals, q_stack, h_stack, rfl⟩ := h
    simp only [encCallF, ← mapO_inv edVal _ _ h_locals, ← mapO_inv edVal _ _ h_stack]
  · cases h

def cCallF : Cod ACallF := ⟨encCallF, decCallF, fun x => by simp, edCallF, fun x => by simp⟩
@[simp] theorem cCallF_dec : cCallF.dec = decCallF := rfl
@[simp] theorem cCallF_enc : cCallF.enc = encCallF := rfl
@[simp] theorem mapO_CallF (l : List ACallF) : mapO decCallF (l.map encCallF) = some l := mapO_map cCallF.de l
@[simp] theorem fzL_CallF (l : List ACallF) : fzL (l.map encCallF) = true := fzL_map cCallF.fz l
@[simp] theorem blwL_CallF (k : Nat) (l : List ACallF) : blwL k (l.map encCallF) = true := blwL_map cCallF.fz k l

structure AThread where
  state : Int
  calls : List ACallF
  on : Int
  count : Int
  deriving DecidableEq, Inhabited

@[simp] def encThread (x : AThread) : AV := .agg [.int .i64 x.state, .sl (x.calls.map encCallF), .int .i64 x.on, .int .i64 x.count]

@[simp] def decThread : AV → Option AThread
  | .agg [.int .i64 state, .sl calls, .int .i64 on, .int .i64 count] => (mapO decCallF calls).bind fun calls => some ⟨state, calls, on, count⟩
  | _ => none

theorem edThread (v : AV) (x : AThread) (h : decThread v = some x) : v = encThread x := by
  unfold decThread at h
  split at h
  · simp only [Option.bind_eq_some_iff, Option.some.injEq] at h
    obtain ⟨q_calls, h_calls, rfl⟩ := h
    simp only [encThread, ← mapO_inv edCallF _ _ h_calls]
  · cases h

def cThread : Cod AThread := ⟨encThread, decThread, fun x => by simp, edThread, fun x => by simp⟩
@[simp] theorem cThread_dec : cThread.dec = decThread := rfl
@[simp] theorem cThread_enc : cThread.enc = encThread := rfl
@[simp] theorem mapO_Thread (l : List AThread) : mapO decThread (l.map encThread) = some l := mapO_map cThread.de l
@[simp] theorem fzL_Thread (l : List AThread) : fzL (l.map encThread) = true := fzL_map cThread.fz l
@[simp] theorem blwL_Thread (k : Nat) (l : List AThread) : blwL k (l.map encThread) = true := blwL_map cThread.fz k l

structure AMonitor where
  object : Int
  owner : Int
  count : Int
  deriving DecidableEq, Inhabited

@[simp] def encMonitor (x : AMonitor) : AV := .agg [.int .i64 x.object, .int .i64 x.owner, .int .i64 x.count]

@[simp] def decMonitor : AV → Option AMonitor
  | .agg [.int .i64 object, .int .i64 owner, .int .i64 count] => some ⟨object, owner, count⟩
  | _ => none

theorem edMonitor (v : AV) (x : AMonitor) (h : decMonitor v = some x) : v = encMonitor x := by
  unfold decMonitor at h
  split at h
  · cases h; rfl
  · cases h

def cMonitor : Cod AMonitor := ⟨encMonitor, decMonitor, fun x => by simp, edMonitor, fun x => by simp⟩
@[simp] theorem cMonitor_dec : cMonitor.dec = decMonitor := rfl
@[simp] theorem cMonitor_enc : cMonitor.enc = encMonitor := rfl
@[simp] theorem mapO_Monitor (l : List AMonitor) : mapO decMonitor (l.map encMonitor) = some l := mapO_map cMonitor.de l
@[simp] theorem fzL_Monitor (l : List AMonitor) : fzL (l.map encMonitor) = true := fzL_map cMonitor.fz l
@[simp] theorem blwL_Monitor (k : Nat) (l : List AMonitor) : blwL k (l.map encMonitor) = true := blwL_map cMonitor.fz k l

structure AMachine where
  status : Int
  objects : List AObject
  statics : List AVal
  threads : List AThread
  monitors : List AMonitor
  read : Int
  input : List Int
  out : List Int
  gone : Int
  steps : Int
  deriving DecidableEq, Inhabited

@[simp] def encMachine (x : AMachine) : AV := .agg [.int .i64 x.status, .sl (x.objects.map encObject), .sl (x.statics.map encVal), .sl (x.threads.map encThread), .sl (x.monitors.map encMonitor), .int .i64 x.read, .sl (x.input.map encInt), .sl (x.out.map encInt), .int .i64 x.gone, .int .i64 x.steps]

@[simp] def decMachine : AV → Option AMachine
  | .agg [.int .i64 status, .sl objects, .sl statics, .sl threads, .sl monitors, .int .i64 read, .sl input, .sl out, .int .i64 gone, .int .i64 steps] => (mapO decObject objects).bind fun objects => (mapO decVal statics).bind fun statics => (mapO decThread threads).bind fun threads => (mapO decMonitor monitors).bind fun monitors => (mapO decInt input).bind fun input => (mapO decInt out).bind fun out => some ⟨status, objects, statics, threads, monitors, read, input, out, gone, steps⟩
  | _ => none

theorem edMachine (v : AV) (x : AMachine) (h : decMachine v = some x) : v = encMachine x := by
  unfold decMachine at h
  split at h
  · simp only [Option.bind_eq_some_iff, Option.some.injEq] at h
    obtain ⟨q_objects, h_objects, q_statics, h_statics, q_threads, h_threads, q_monitors, h_monitors, q_input, h_input, q_out, h_out, rfl⟩ := h
    simp only [encMachine, ← mapO_inv edObject _ _ h_objects, ← mapO_inv edVal _ _ h_statics, ← mapO_inv edThread _ _ h_threads, ← mapO_inv edMonitor _ _ h_monitors, ← mapO_inv (show ∀ v x, decInt v = some x → v = encInt x from cInt.ed) _ _ h_input, ← mapO_inv (show ∀ v x, decInt v = some x → v = encInt x from cInt.ed) _ _ h_out]
  · cases h

def cMachine : Cod AMachine := ⟨encMachine, decMachine, fun x => by simp, edMachine, fun x => by simp⟩
@[simp] theorem cMachine_dec : cMachine.dec = decMachine := rfl
@[simp] theorem cMachine_enc : cMachine.enc = encMachine := rfl
@[simp] theorem mapO_Machine (l : List AMachine) : mapO decMachine (l.map encMachine) = some l := mapO_map cMachine.de l
@[simp] theorem fzL_Machine (l : List AMachine) : fzL (l.map encMachine) = true := fzL_map cMachine.fz l
@[simp] theorem blwL_Machine (k : Nat) (l : List AMachine) : blwL k (l.map encMachine) = true := blwL_map cMachine.fz k l

structure AEffect where
  kind : Int
  cls : Int
  method : Int
  args : List AVal
  value : AVal
  name : Str
  object : Int
  deriving DecidableEq, Inhabited

@[simp] def encEffect (x : AEffect) : AV := .agg [.int .i64 x.kind, .int .i64 x.cls, .int .i64 x.method, .sl (x.args.map encVal), .int .i64 x.value.kind, .int .i64 x.value.n, .str x.name, .int .i64 x.object]

@[simp] def decEffect : AV → Option AEffect
  | .agg [.int .i64 kind, .int .i64 cls, .int .i64 method, .sl args, .int .i64 value_kind, .int .i64 value_n, .str name, .int .i64 object] => (mapO decVal args).bind fun args => some ⟨kind, cls, method, args, ⟨value_kind, value_n⟩, name, object⟩
  | _ => none

theorem edEffect (v : AV) (x : AEffect) (h : decEffect v = some x) : v = encEffect x := by
  unfold decEffect at h
  split at h
  · simp only [Option.bind_eq_some_iff, Option.some.injEq] at h
    obtain ⟨q_args, h_args, rfl⟩ := h
    simp only [encEffect, ← mapO_inv edVal _ _ h_args]
  · cases h

def cEffect : Cod AEffect := ⟨encEffect, decEffect, fun x => by simp, edEffect, fun x => by simp⟩
@[simp] theorem cEffect_dec : cEffect.dec = decEffect := rfl
@[simp] theorem cEffect_enc : cEffect.enc = encEffect := rfl
@[simp] theorem mapO_Effect (l : List AEffect) : mapO decEffect (l.map encEffect) = some l := mapO_map cEffect.de l
@[simp] theorem fzL_Effect (l : List AEffect) : fzL (l.map encEffect) = true := fzL_map cEffect.fz l
@[simp] theorem blwL_Effect (k : Nat) (l : List AEffect) : blwL k (l.map encEffect) = true := blwL_map cEffect.fz k l

structure AChoice where
  thread : Int
  steps : Int
  input : List Int
  deriving DecidableEq, Inhabited

@[simp] def encChoice (x : AChoice) : AV := .agg [.int .i64 x.thread, .int .i64 x.steps, .sl (x.input.map encInt)]

@[simp] def decChoice : AV → Option AChoice
  | .agg [.int .i64 thread, .int .i64 steps, .sl input] => (mapO decInt input).bind fun input => some ⟨thread, steps, input⟩
  | _ => none

theorem edChoice (v : AV) (x : AChoice) (h : decChoice v = some x) : v = encChoice x := by
  unfold decChoice at h
  split at h
  · simp only [Option.bind_eq_some_iff, Option.some.injEq] at h
    obtain ⟨q_input, h_input, rfl⟩ := h
    simp only [encChoice, ← mapO_inv (show ∀ v x, decInt v = some x → v = encInt x from cInt.ed) _ _ h_input]
  · cases h

def cChoice : Cod AChoice := ⟨encChoice, decChoice, fun x => by simp, edChoice, fun x => by simp⟩
@[simp] theorem cChoice_dec : cChoice.dec = decChoice := rfl
@[simp] theorem cChoice_enc : cChoice.enc = encChoice := rfl
@[simp] theorem mapO_Choice (l : List AChoice) : mapO decChoice (l.map encChoice) = some l := mapO_map cChoice.de l
@[simp] theorem fzL_Choice (l : List AChoice) : fzL (l.map encChoice) = true := fzL_map cChoice.fz l
@[simp] theorem blwL_Choice (k : Nat) (l : List AChoice) : blwL k (l.map encChoice) = true := blwL_map cChoice.fz k l

structure APair where
  name : Str
  super : Str
  deriving DecidableEq, Inhabited

@[simp] def encPair (x : APair) : AV := .agg [.str x.name, .str x.super]

@[simp] def decPair : AV → Option APair
  | .agg [.str name, .str super] => some ⟨name, super⟩
  | _ => none

theorem edPair (v : AV) (x : APair) (h : decPair v = some x) : v = encPair x := by
  unfold decPair at h
  split at h
  · cases h; rfl
  · cases h

def cPair : Cod APair := ⟨encPair, decPair, fun x => by simp, edPair, fun x => by simp⟩
@[simp] theorem cPair_dec : cPair.dec = decPair := rfl
@[simp] theorem cPair_enc : cPair.enc = encPair := rfl
@[simp] theorem mapO_Pair (l : List APair) : mapO decPair (l.map encPair) = some l := mapO_map cPair.de l
@[simp] theorem fzL_Pair (l : List APair) : fzL (l.map encPair) = true := fzL_map cPair.fz l
@[simp] theorem blwL_Pair (k : Nat) (l : List APair) : blwL k (l.map encPair) = true := blwL_map cPair.fz k l

end Go.Proofs.YtgpkochbmfhmdaaGreatDoor.Lift
namespace Go.Proofs.YtgpkochbmfhmdaaGreatDoor.Lift
open Go
set_option maxRecDepth 100000

/-- the globals that are read -/
abbrev gl : Nat → Option AV := fun n => if n = 5 then some (.agg [.int .i64 0, .int .i64 1, .int .i64 4, .int .i64 5, .int .i64 7]) else if n = 1 then some (.agg [.str [65, 114, 105, 116, 104, 109, 101, 116, 105, 99], .str [78, 117, 108, 108], .str [73, 110, 100, 101, 120], .str [78, 101, 103, 97, 116, 105, 118, 101], .str [67, 97, 115, 116], .str [83, 116, 111, 114, 101], .str [77, 111, 110, 105, 116, 111, 114]]) else if n = 0 then some (.agg [.str [111, 117, 116], .str [40, 73, 41, 86], .str [105, 110], .str [40, 41, 73], .str [115, 112, 97, 119, 110], .str [40, 76, 79, 98, 106, 101, 99, 116, 59, 41, 86], .str [119, 97, 105, 116], .str [40, 76, 79, 98, 106, 101, 99, 116, 59, 41, 86], .str [110, 111, 116, 105, 102, 121], .str [40, 76, 79, 98, 106, 101, 99, 116, 59, 41, 86], .str [121, 105, 101, 108, 100], .str [40, 41, 86]]) else none
theorem fz_gl : FzG gl := fun _ _ h => by
  first
    | (cases h; done)
    | (dsimp only [gl] at h; (repeat' split at h) <;> first | (cases h; rfl) | (cases h; done))
/-- a configuration; where some composite slices are frozen at once -/
noncomputable abbrev XB (E : Env) (B : List Nat) : Cfg := { T := tiOf Tryz.prog, E := E, G := gl, B := B }
noncomputable abbrev XE (E : Env) : Cfg := XB E []
theorem okX_nil : OkX Tryz.prog (XE []) := ⟨rfl, fun f S h => (by cases h), fun l S h => (by cases h)⟩
theorem OkX.b {E : Env} (ok : OkX Tryz.prog (XE E)) (B : List Nat) : OkX Tryz.prog (XB E B) := ⟨ok.T, ok.E, ok.Y⟩
theorem OkX.add {E : Env} (ok : OkX Tryz.prog (XE E)) {f : Nat} {S : Spec} (h : SoundF Tryz.prog gl f S) : OkX Tryz.prog (XE ((f, S) :: E)) := ⟨rfl, fun f' S' hS => (by
  simp only [Env.look] at hS
  split at hS
  · rename_i hf
    cases hS
    exact hf ▸ h
  · exact ok.E f' S' hS), ok.Y⟩
theorem OkX.addP {E : Env} (ok : OkX Tryz.prog (XE E)) {f : Nat} {g : List AV → Option AV} (h : SoundP Tryz.prog gl f g) : OkX Tryz.prog (XE ((f, liftS 9 g) :: E)) := ok.add (h.lift fz_gl 9 _)
theorem wrap_i64 {n : Int} (h1 : -9223372036854775808 ≤ n) (h2 : n < 9223372036854775808) : IntKind.wrap .i64 n = n := by
  simp only [IntKind.wrap, IntKind.bits, IntKind.signed]
  simp
  split <;> omega
theorem wrap_u8 {n : Int} (h1 : 0 ≤ n) (h2 : n < 256) : IntKind.wrap .u8 n = n := by
  simp only [IntKind.wrap, IntKind.bits, IntKind.signed]
  simp
  omega
end Go.Proofs.YtgpkochbmfhmdaaGreatDoor.Lift
namespace Go.Proofs.YtgpkochbmfhmdaaGreatDoor.Lift
open Go

/-- the world turns where the ghost owns nothing -/
theorem foreign {G0 G : Gh} (inv : Inv G) (hJ : G.J = noFoe) (x : Ext G0 G) {W' : World} {O : Nat → Prop} (hos : W'.os = G.w.os) (htp : W'.tape = G.w.tape) (hout : W'.output = G.w.output) (hsz : G.w.heap.size ≤ W'.heap.size)
    (unch : ∀ blk, blk < G.w.heap.size → ¬ O blk → W'.heap[blk]? = G.w.heap[blk]?) (shape : ∀ (blk : Nat) (c : Array Value) e fz, G.w.heap[blk]? = some (.cells c e fz) → ∃ c', W'.heap[blk]? = some (.cells c' e fz) ∧ c'.size = c.size)
    (o1 : ∀ blk, Owned G blk → ¬ O blk) (o2 : ∀ b o, G.φ b o → ¬ O b) (o3 : ∀ blk, O blk → blk < G0.w.heap.size → Owned G0 blk) :
    Ext G0 { G with w := W' } ∧ Inv { G with w := W' } ∧ ∀ a v, Rep G a v → Rep { G with w := W' } a v := by
  have hfz : ∀ b o, G.φ b o → W'.heap[b]? = G.w.heap[b]? := fun b o h => unch b (inv.lt b o h) (o2 b o h)
  have hown : ∀ blk, Owned G blk → W'.heap[blk]? = G.w.heap[blk]? := fun blk h => unch blk (h.lt inv) (o1 blk h)
  have xr : ExtR G { G with w := W' } := ⟨shape, fun _ _ h => h, fun b o h v hv => (World.cell?_of_block (a := ⟨b, o, none⟩) (hfz b o h)).trans hv, fun b m k h hb => (hfz b 0 h).trans hb, fun b k hk => ⟨k, hk, Nat.le_refl _, rfl⟩, fun _ _ _ _ _ => rfl⟩
  refine ⟨?_, ?_, fun a v h => h.extR xr⟩
  · exact
      { os := hos.trans x.os, tape := htp.trans x.tape, output := hout.trans x.output, size := Nat.le_trans x.size hsz
        old := fun blk hb ho hz => by
          have hO : ¬ O blk := fun h => ho (o3 blk h hb)
          exact (unch blk (Nat.lt_of_lt_of_le hb x.size) hO).trans (x.old blk hb ho hz)
        shape := fun blk c e fz h => by
          obtain ⟨c1, h1, s1⟩ := x.shape blk c e fz h
          obtain ⟨c2, h2, s2⟩ := shape blk c1 e fz h1
          exact ⟨c2, h2, s2.trans s1⟩
        frozen := x.frozen
        cell := fun b o h => (World.cell?_of_block (a := ⟨b, o, none⟩) (hfz b o (x.frozen b o h))).trans (x.cell b o h)
        fmap := fun b m k h hb => (hfz b 0 (x.frozen b 0 h)).trans (x.fmap b m k h hb)
        thaw := x.thaw, len := x.len, id := x.id, at_ := x.at_, own := x.own, time := x.time, zin := x.zin, zout := x.zout, foe := x.foe }
  · exact
      { rows := fun b sz g lo xs h => by
          obtain ⟨h1, h2, h3⟩ := inv.rows b sz g lo xs h
          refine ⟨h1, fun blk hb => ?_, h3⟩
          obtain ⟨c, e, fz, h4, h5, h6, h7⟩ := h2 blk hb
          exact ⟨c, e, fz, (hown blk ⟨b, _, h, rfl, hb⟩).trans h4, h5, fun i y hy => ⟨(h6 i y hy).1, fun j z hz => let ⟨v, h8, h9⟩ := (h6 i y hy).2 j z hz; ⟨v, h8, h9.extR xr⟩⟩, h7⟩
        maps := fun b es h => by
          obtain ⟨blk, ents, ck, h1, h2, h3, h4⟩ := inv.maps b es h
          exact ⟨blk, ents, ck, h1, (hown blk ⟨b, _, h, rfl, h1⟩).trans h2, h3.extR xr, h4⟩
        inj := inv.inj
        lt := fun b o h => Nat.lt_of_lt_of_le (inv.lt b o h) hsz
        tks := inv.tks
        held := by show G.J _ _ _ _ _; rw [hJ]; trivial
        stab := inv.stab
        zlt := fun blk h => Nat.lt_of_lt_of_le (inv.zlt blk h) hsz
        znone := inv.znone
        its := fun b s i h => by
          obtain ⟨blk, q1, q2⟩ := inv.its b s i h
          exact ⟨blk, q1, (hown blk ⟨b, _, h, rfl, q1⟩).trans q2⟩
        deads := fun b sz g blk h hr => Nat.lt_of_lt_of_le (inv.deads b sz g blk h hr) hsz }

/-- what may have turned, but for one block (a loop's record) -/
structure Chg (l : Nat) (G H : Gh) : Prop where
  os : H.w.os = G.w.os
  tape : H.w.tape = G.w.tape
  output : H.w.output = G.w.output
  size : G.w.heap.size ≤ H.w.heap.size
  old : ∀ blk, blk < G.w.heap.size → ¬ Owned G blk → blk ≠ l → H.w.heap[blk]? = G.w.heap[blk]?
  shape : ∀ (blk : Nat) (c : Array Value) e fz, G.w.heap[blk]? = some (.cells c e fz) → ∃ c', H.w.heap[blk]? = some (.cells c' e fz) ∧ c'.size = c.size
  frozen : ∀ b o, G.φ b o → H.φ b o
  cell : ∀ b o, G.φ b o → H.w.cell? ⟨b, o, none⟩ = G.w.cell? ⟨b, o, none⟩
  fmap : ∀ (b : Nat) ents ck, G.φ b 0 → G.w.heap[b]? = some (.map ents ck) → H.w.heap[b]? = some (.map ents ck)
  thaw : ∀ b o, H.φ b o → b < G.w.heap.size → G.φ b o ∨ Owned G b
  own : ∀ blk, Owned H blk → G.w.heap.size ≤ blk ∨ Owned G blk
theorem Chg.of_ext {l : Nat} {G H : Gh} (hz : ∀ blk, ¬ G.z blk) (x : Ext G H) : Chg l G H :=
  ⟨x.os, x.tape, x.output, x.size, fun blk hb ho _ => x.old blk hb ho (fun h => absurd h (hz blk)), x.shape, x.frozen, x.cell, x.fmap, x.thaw, x.own⟩
theorem Chg.trans {l : Nat} {G H K : Gh} (x : Chg l G H) (y : Chg l H K) : Chg l G K where
  os := y.os.trans x.os
  tape := y.tape.trans x.tape
  output := y.output.trans x.output
  size := Nat.le_trans x.size y.size
  old := fun blk hb ho hl => by
    have hH : ¬ Owned H blk := fun h => by
      rcases x.own blk h with h | h
      · omega
      · exact ho h
    rw [y.old blk (Nat.lt_of_lt_of_le hb x.size) hH hl, x.old blk hb ho hl]
  shape := fun blk c e fz h => by
    obtain ⟨c1, h1, s1⟩ := x.shape blk c e fz h
    obtain ⟨c2, h2, s2⟩ := y.shape blk c1 e fz h1
    exact ⟨c2, h2, s2.trans s1⟩
  frozen := fun b o h => y.frozen b o (x.frozen b o h)
  cell := fun b o h => (y.cell b o (x.frozen b o h)).trans (x.cell b o h)
  fmap := fun b ents ck h hb => y.fmap b ents ck (x.frozen b 0 h) (x.fmap b ents ck h hb)
  thaw := fun b o h hb => by
    rcases y.thaw b o h (Nat.lt_of_lt_of_le hb x.size) with h | h
    · exact x.thaw b o h hb
    · rcases x.own b h with h | h
      · omega
      · exact .inr h
  own := fun blk h => by
    rcases y.own blk h with h | h
    · exact .inl (Nat.le_trans x.size h)
    · exact x.own blk h
theorem putObj_size (w : World) (l : Nat) (o : Obj) : (w.putObj l o).heap.size = w.heap.size := by simp [World.putObj]
theorem putObj_shape {w : World} {l : Nat} {o o' : Obj} (h : w.heap[l]? = some o) (ho : ∀ c e fz, o ≠ .cells c e fz) : ∀ (blk : Nat) (c : Array Value) e fz, w.heap[blk]? = some (.cells c e fz) → ∃ c', (w.putObj l o').heap[blk]? = some (.cells c' e fz) ∧ c'.size = c.size := fun blk c e fz hb => by
  have hne : blk ≠ l := fun e' => by subst e'; rw [h] at hb; exact ho _ _ _ (Option.some.inj hb)
  exact ⟨c, (World.putObj_heap_other hne).trans hb, rfl⟩
theorem Chg.put {l : Nat} {G : Gh} {r r' : Loop} (h : G.w.heap[l]? = some (.loop r)) : Chg l G { G with w := G.w.putObj l (.loop r') } where
  os := rfl
  tape := rfl
  output := rfl
  size := Nat.le_of_eq (putObj_size _ _ _).symm
  old := fun blk _ _ hl => World.putObj_heap_other hl
  shape := putObj_shape h (fun _ _ _ e => by cases e)
  frozen := fun _ _ h => h
  cell := fun b o _ => by
    by_cases e : b = l
    · subst e
      unfold World.cell?
      simp only [h, World.putObj_heap_same (Array.getElem?_eq_some_iff.1 h).1]
    · exact World.cell?_of_block (a := ⟨b, o, none⟩) (World.putObj_heap_other e)
  fmap := fun b m k _ hb => by
    have hne : b ≠ l := fun e' => by subst e'; rw [h] at hb; cases hb
    exact (World.putObj_heap_other hne).trans hb
  thaw := fun _ _ h _ => .inl h
  own := fun _ h => .inr h
theorem Chg.refl (l : Nat) (G : Gh) : Chg l G G := ⟨rfl, rfl, rfl, Nat.le_refl _, fun _ _ _ _ => rfl, fun _ c _ _ h => ⟨c, h, rfl⟩, fun _ _ h => h, fun _ _ _ => rfl, fun _ _ _ _ h => h, fun _ _ h _ => .inl h, fun _ h => .inr h⟩

/-- a loop's record is no block of a ghost's -/
theorem Inv.not_loop {G : Gh} (inv : Inv G) {l : Nat} {r : Loop} (h : G.w.heap[l]? = some (.loop r)) : ¬ Owned G l := fun ho => by
  rcases inv.owned ho with ⟨c, e, fz, hb⟩ | ⟨m, k, hb⟩ | ⟨s, i, hb⟩ <;> rw [h] at hb <;> cases hb
theorem Inv.not_deferred {G : Gh} (inv : Inv G) {l : Nat} {r : Option (List Deferred)} (h : G.w.heap[l]? = some (.deferred r)) : ¬ Owned G l := fun ho => by
  rcases inv.owned ho with ⟨c, e, fz, hb⟩ | ⟨m, k, hb⟩ | ⟨s, i, hb⟩ <;> rw [h] at hb <;> cases hb

/-- the record turns -/
theorem foreign_put {G0 G : Gh} (inv : Inv G) (hJ : G.J = noFoe) (x : Ext G0 G) {l : Nat} {r r' : Loop} (h : G.w.heap[l]? = some (.loop r)) (hl : G0.w.heap.size ≤ l) (hφ : ∀ o, ¬ G.φ l o) :
    Ext G0 { G with w := G.w.putObj l (.loop r') } ∧ Inv { G with w := G.w.putObj l (.loop r') } ∧ ∀ a v, Rep G a v → Rep { G with w := G.w.putObj l (.loop r') } a v :=
  foreign inv hJ x (O := fun b => b = l) rfl rfl rfl (Nat.le_of_eq (putObj_size _ _ _).symm) (fun blk _ hne => World.putObj_heap_other hne) (putObj_shape h (fun _ _ _ e => by cases e))
    (fun blk ho e => by subst e; exact inv.not_loop h ho) (fun b o hf e => by subst e; exact hφ o hf) (fun blk e hb => by subst e; omega)
end Go.Proofs.YtgpkochbmfhmdaaGreatDoor.Lift
namespace Go.Proofs.YtgpkochbmfhmdaaGreatDoor.Lift
open Go

open Classical in
/-- the yields of a range over a function: the values of each round; the round k is the last *)-/
noncomputable def yieldS (xs : List (List AV)) (k : Nat) : Spec := fun args st => match st with
  | .tick n :: r => if n ≤ k ∧ xs[n]? = some args then some (.bool (decide (n ≠ k)), .tick (n + 1) :: r) else none
  | _ => none

/-- THE FOREIGN STATE: the ranging function's own ghost -/
structure FoeC (X : Cfg) (G0 : Gh) (l : Nat) (D : List Nat) (k : Nat) (rec : LoopState → Option Code → Loop) (jump : Code) (I : Nat → Sto) (fr0 : Nat → AV) (tm : Array Value) (Gc : Gh) (t : Nat) (W : World) (O : Nat → Prop) (φ : Nat → Nat → Prop) (z : Nat → Prop) : Prop where
  w : Gc.w = W
  inv : Inv Gc
  gl : Glob X Gc
  x : Ext G0 Gc
  J : Gc.J = noFoe
  σ : Gc.σ = I t
  fr : ∀ i, Rep Gc (fr0 i) (tm.getD i undef)
  ready : t ≤ k → W.heap[l]? = some (.loop (rec .ready none))
  done : ¬ t ≤ k → W.heap[l]? = some (.loop (rec .done (some jump)))
  dfr : ∀ r ∈ D, W.heap[r]? = some (.deferred (some []))
  own : ∀ blk, Owned Gc blk → z blk ∧ ¬ O blk
  zl : z l
  ol : ¬ O l
  oD : ∀ r ∈ D, ¬ O r
  nφ : ∀ o, ¬ Gc.φ l o
  φ1 : ∀ b o, φ b o → Gc.φ b o ∨ ¬ Owned Gc b
  φ2 : ∀ b o, Gc.φ b o → ¬ O b
  o3 : ∀ blk, O blk → blk < G0.w.heap.size → Owned G0 blk
def FoeJ (X : Cfg) (G0 : Gh) (l : Nat) (D : List Nat) (k : Nat) (rec : LoopState → Option Code → Loop) (jump : Code) (I : Nat → Sto) (fr0 : Nat → AV) (tm : Array Value) : Foe := fun t W O φ z => ∃ Gc, FoeC X G0 l D k rec jump I fr0 tm Gc t W O φ z

theorem FoeC.lrec {X : Cfg} {G0 : Gh} {l : Nat} {D : List Nat} {k : Nat} {rec : LoopState → Option Code → Loop} {jump : Code} {I : Nat → Sto} {fr0 : Nat → AV} {tm : Array Value} {Gc : Gh} {t : Nat} {W : World} {O : Nat → Prop} {φ : Nat → Nat → Prop} {z : Nat → Prop}
    (h : FoeC X G0 l D k rec jump I fr0 tm Gc t W O φ z) : ∃ r, W.heap[l]? = some (.loop r) := by
  by_cases ht : t ≤ k
  · exact ⟨_, h.ready ht⟩
  · exact ⟨_, h.done ht⟩

theorem foeJ_stable (X : Cfg) (G0 : Gh) (l : Nat) (D : List Nat) (k : Nat) (rec : LoopState → Option Code → Loop) (jump : Code) (I : Nat → Sto) (fr0 : Nat → AV) (tm : Array Value) : Stable (FoeJ X G0 l D k rec jump I fr0 tm) := by
  intro t W O φ z W' O' φ' z' ⟨Gc, h⟩ hos htp hout hsz unch shape hO hφ hz
  obtain ⟨r, hl⟩ := h.lrec
  have hlt : l < W.heap.size := (Array.getElem?_eq_some_iff.1 hl).1
  have hDt : ∀ r ∈ D, r < W.heap.size := fun r hr => (Array.getElem?_eq_some_iff.1 (h.dfr r hr)).1
  have hw := h.w
  subst hw
  obtain ⟨x', inv', rep'⟩ := foreign h.inv h.J h.x hos htp hout hsz unch shape (fun blk ho => (h.own blk ho).2) h.φ2 h.o3
  have lts : ∀ blk, Owned Gc blk → blk < Gc.w.heap.size := fun blk ho => ho.lt h.inv
  refine ⟨{ Gc with w := W' }, rfl, inv', ?_, x', h.J, h.σ, fun i => rep' _ _ (h.fr i), fun ht => ?_, fun ht => ?_, fun r hr => ?_, fun blk ho => ⟨hz _ (h.own blk ho).1, fun h' => ?_⟩, hz _ h.zl, fun h' => ?_, fun r hr h' => ?_, h.nφ, fun b o hf => ?_, fun b o hf h' => ?_, fun blk h' hb => ?_⟩
  · exact fun g v hv => rep' _ _ (h.gl g v hv)
  · exact (unch l hlt h.ol).trans (h.ready ht)
  · exact (unch l hlt h.ol).trans (h.done ht)
  · exact (unch r (hDt r hr) (h.oD r hr)).trans (h.dfr r hr)
  · have hlt' := lts blk ho
    rcases hO blk h' with h1 | h1
    · omega
    · exact (h.own blk ho).2 h1
  · rcases hO l h' with h1 | h1
    · omega
    · exact h.ol h1
  · have := hDt r hr
    rcases hO r h' with h1 | h1
    · omega
    · exact h.oD r hr h1
  · by_cases hb : b < Gc.w.heap.size
    · rcases hφ b o hf hb with h1 | h1
      · exact h.φ1 b o h1
      · exact .inr fun ho => (h.own b ho).2 h1
    · exact .inr fun ho => hb (lts b ho)
  · have hlt' := h.inv.lt b o hf
    rcases hO b h' with h1 | h1
    · omega
    · exact h.φ2 b o hf h1
  · have := h.x.size
    rcases hO blk h' with h1 | h1
    · omega
    · exact h.o3 blk h1 hb

/-- it says something -/
theorem foeJ_ne (X : Cfg) (G0 : Gh) (l : Nat) (D : List Nat) (k : Nat) (rec : LoopState → Option Code → Loop) (jump : Code) (I : Nat → Sto) (fr0 : Nat → AV) (tm : Array Value) (w : World) : FoeJ X G0 l D k rec jump I fr0 tm ≠ noFoe := fun h => by
  have h1 : FoeJ X G0 l D k rec jump I fr0 tm 0 w (fun _ => True) (fun _ _ => False) (fun _ => False) := by rw [h]; trivial
  obtain ⟨Gc, h2⟩ := h1
  exact h2.ol trivial

/-- the values of a round, in the frame -/
def setPs (fr : Nat → AV) : List Nat → List AV → Nat → AV
  | p :: ps, x :: xs => setPs (upd fr p x) ps xs
  | _, _ => fr

theorem slots_setPs {G : Gh} {n : Nat} : ∀ (ps : List Nat) (xs : List AV) (vs : List Value) (fr : Nat → AV) (tm : Array Value), (∀ p ∈ ps, p < n) → n ≤ tm.size → (∀ i, Rep G (fr i) (tm.getD i undef)) → RepL G xs vs →
    n ≤ ((ps.zip vs).foldl (fun t (p, v) => t.setIfInBounds p v) tm).size ∧ ∀ i, Rep G (setPs fr ps xs i) (((ps.zip vs).foldl (fun t (p, v) => t.setIfInBounds p v) tm).getD i undef)
  | [], xs, vs, fr, tm, _, hn, h, _ => by cases xs <;> exact ⟨hn, h⟩
  | p :: ps, [], vs, fr, tm, _, hn, h, hr => by cases hr; exact ⟨hn, h⟩
  | p :: ps, x :: xs, vs, fr, tm, hp, hn, h, hr => by
    cases hr with
    | cons hx ht =>
      rename_i v vs
      refine slots_setPs ps xs vs (upd fr p x) (tm.setIfInBounds p v) (fun q hq => hp q (by simp [hq])) (by simpa using hn) (fun i => ?_) ht
      have hlt : p < tm.size := Nat.lt_of_lt_of_le (hp p (by simp)) hn
      simp only [upd]
      split
      · rename_i hi
        subst hi
        simpa [Array.getD, hlt] using hx
      · rename_i hi
        have := h i
        rw [show (tm.setIfInBounds p v).getD i undef = tm.getD i undef by
          simp only [Array.getD_eq_getD_getElem?, Array.getElem?_setIfInBounds]
          rw [if_neg (fun e => hi e.symm)]]
        exact this

/-- how a round ends: the newest blocks are left -/
def RoundEnd (k : Nat) (ex : Exit) (I : Nat → Sto) (t : Nat) (e : Exit) (s : ASt) : Prop := (t < k → e = .normal) ∧ (¬ t < k → e = ex) ∧ s.st.take (I (t + 1)).length = I (t + 1) ∧ (I (t + 1)).all (blwB (I (t + 1)).length) = true ∧ (I t).length ≤ (I (t + 1)).length
/-- what a round is asked -/
def RoundOk (P : Program) (X : Cfg) (n : Nat) (ps : List Nat) (assign body : Code) (xs : List (List AV)) (k : Nat) (ex : Exit) (I : Nat → Sto) (fr0 : Nat → AV) : Prop :=
  ∀ (t : Nat) (x : List AV), xs[t]? = some x → t ≤ k → ∀ G1 : { G : Gh // G.σ = I t }, Ev P X G1.1 assign ⟨n, setPs fr0 ps x, I t⟩ (fun e s1 => e = .normal ∧ ∀ G2 : { G : Gh // G.σ = s1.st }, Ev P X G2.1 body s1 (RoundEnd k ex I t))

/-- the jump that is left pending -/
def exCode : Exit → Code
  | .ret => .ret
  | .exit i => .exit i
  | .goto i => .goto i
  | _ => .skip
def IsJump (e : Exit) : Prop := e = .ret ∨ (∃ i, e = .exit i) ∨ ∃ i, e = .goto i
end Go.Proofs.YtgpkochbmfhmdaaGreatDoor.Lift
namespace Go.Proofs.YtgpkochbmfhmdaaGreatDoor.Lift
open Go

theorem soundY_of {P : Program} {X : Cfg} {G0 : Gh} {l k fnid n dd : Nat} {D : List Nat} {rec : LoopState → Option Code → Loop} {I : Nat → Sto} {fr0 : Nat → AV} {tm : Array Value} {ps : Array Nat} {assign body : Code} {xs : List (List AV)} {ex : Exit}
    (hz0 : FzG X.G) (hXJ : X.J = noFoe) (hrd : X.rd = true) (hrec : rec = fun st pe => { state := st, pending := pe, fn := fnid, tmps := tm, params := ps, assign, body, defers := dd }) (hex : IsJump ex) (hl0 : G0.w.heap.size ≤ l) (hDl : ∀ r ∈ D, r ≠ l)
    (hps : ∀ p ∈ ps.toList, p < n) (hn : n ≤ tm.size) (hflat : ∀ x ∈ xs, flatL x = true) (hlen : ∀ x ∈ xs, x.length = ps.size) (ro : RoundOk P X n ps.toList assign body xs k ex I fr0) :
    SoundY P X.G (FoeJ X G0 l D k rec (exCode ex) I fr0 tm) l (yieldS xs k) := by
  constructor
  intro F m G args vals r σ' hF hy inv hJ hg hargs
  unfold yieldS at hy
  split at hy
  · rename_i nn rest hσ
    split at hy
    · rename_i hc
      obtain ⟨hk, hx⟩ := hc
      cases hy
      have hσ0 : G.σ[0]? = some (.tick nn) := by rw [hσ]; rfl
      obtain ⟨ht0, hρ0⟩ := inv.tks 0 nn hσ0
      have ht := ht0 rfl
      have held := inv.held
      rw [hJ] at held
      obtain ⟨Gc, h⟩ := held
      have hw : Gc.w = G.w := h.w
      rw [← ht] at h
      have hlr : G.w.heap[l]? = some (.loop (rec .ready none)) := h.ready hk
      have hlrc : Gc.w.heap[l]? = some (.loop (rec .ready none)) := by rw [hw]; exact hlr
      have hmem : args ∈ xs := List.mem_of_getElem? hx
      have hvl : vals.length = ps.size := by rw [← hargs.length, hlen args hmem]
      have hy := run_yield (P := P) (args := vals.toArray) hlr (by rw [hrec]; simpa using hvl)
      refine ⟨_, _, _, _, hy, roundIn_of_wpIn (hF.fn _) ?_⟩
      have hassign : (rec .ready none).assign = assign := by rw [hrec]
      have hbody : (rec .ready none).body = body := by rw [hrec]
      have htm : (rec .ready none).tmps = tm := by rw [hrec]
      have hpar : (rec .ready none).params = ps := by rw [hrec]
      rw [hassign, hbody, htm, hpar]
      have hz : ∀ blk, ¬ Gc.z blk := h.inv.znone h.J
      have hltl : l < Gc.w.heap.size := (Array.getElem?_eq_some_iff.1 hlrc).1
      -- the assignment
      have hargc : RepL Gc args vals := flat_repL (hflat args hmem) hargs
      have hsl := slots_setPs ps.toList args vals fr0 tm hps hn h.fr hargc
      have hfold : (ps.zip vals.toArray).foldl (fun tmps (t, a) => tmps.setIfInBounds t a) tm = (ps.toList.zip vals).foldl (fun t (p, v) => t.setIfInBounds p v) tm := by
        rw [← Array.foldl_toList, Array.toList_zip]
      rw [hfold]
      have hst0 : St X Gc ⟨n, setPs fr0 ps.toList args, I nn⟩ { tmps := (ps.toList.zip vals).foldl (fun t (p, v) => t.setIfInBounds p v) tm, defers := [] } G.w :=
        ⟨Gc, hw, ⟨hsl.1, hsl.2, h.σ⟩, h.inv, h.gl, Ext.refl Gc, h.J.trans hXJ.symm, [], rfl, .nil, fun h => absurd rfl h, fun r hr => by cases hr⟩
      refine wpIn_mono (ro nn args hx hk ⟨Gc, h.σ⟩ (F.inRound l) m _ _ ⟨hF.inRound l, .inl hrd⟩ hst0) ?_
      rintro e a1 W1 ⟨s1, ⟨rfl, ev2⟩, hst1⟩
      obtain ⟨G1, rfl, hs1, inv1, hg1, x1, hm1⟩ := hst1
      have hJ1 : G1.J = noFoe := x1.foe.trans h.J
      have hl1 : G1.w.heap[l]? = some (.loop (rec .ready none)) := (x1.old l hltl (h.inv.not_loop hlrc) (fun hz' => absurd hz' (hz l))).trans hlrc
      have hφ1 : ∀ o, ¬ G1.φ l o := fun o hf => by
        rcases x1.thaw l o hf hltl with h1 | h1
        · exact h.nφ o h1
        · exact h.inv.not_loop hlrc h1
      refine ⟨_, run_beginRound hl1 (by rw [hrec]), ?_⟩
      obtain ⟨y2, inv2, rep2⟩ := foreign_put (r' := { rec .ready none with state := .busy }) inv1 hJ1 (h.x.trans x1) hl1 hl0 hφ1
      have hrs1 : a1.defers = [] := by
        obtain ⟨_, rs, e1, _, e2, _⟩ := hm1
        have : rs = [] := Classical.byContradiction fun hne => by
          have := (e2 hne).2
          rw [hrd] at this
          cases this
        rw [e1, this]; rfl
      have mk2 : ∀ {G' : Gh} {ds : List Deferred}, G'.J = noFoe → ds = [] → Marks X G'.w.heap.size G' ds := fun hj hd => ⟨hj.trans hXJ.symm, [], hd, .nil, fun h => absurd rfl h, fun r hr => by cases hr⟩
      have hst2 : St X { G1 with w := G1.w.putObj l (.loop { rec .ready none with state := .busy }) } s1 a1 (G1.w.putObj l (.loop { rec .ready none with state := .busy })) :=
        ⟨_, rfl, ⟨hs1.1, fun t => rep2 _ _ (hs1.2.1 t), hs1.2.2⟩, inv2, fun g v hv => rep2 _ _ (hg1 g v hv), Ext.refl _, mk2 hJ1 hrs1⟩
      generalize hG2 : ({ G1 with w := G1.w.putObj l (.loop { rec .ready none with state := .busy }) } : Gh) = G2 at y2 inv2 rep2 hst2
      have hw2 : G1.w.putObj l (.loop { rec .ready none with state := .busy }) = G2.w := by rw [← hG2]
      have hJ2 : G2.J = noFoe := by rw [← hG2]; exact hJ1
      have hφ2 : G2.φ = G1.φ := by rw [← hG2]
      have hρ2 : G2.ρ = G1.ρ := by rw [← hG2]
      have chg2 : Chg l Gc G2 := (Chg.of_ext hz x1).trans (by rw [← hG2]; exact Chg.put hl1)
      have hl2 : G2.w.heap[l]? = some (.loop { rec .ready none with state := .busy }) := by rw [← hw2]; exact World.putObj_heap_same (Array.getElem?_eq_some_iff.1 hl1).1
      rw [hw2] at hst2 ⊢
      refine wpIn_mono (ev2 ⟨G2, by rw [← hG2]; exact hs1.2.2⟩ (F.inRound l) m a1 G2.w ⟨hF.inRound l, .inl hrd⟩ hst2) ?_
      rintro e a3 W3 ⟨s2, ⟨he1, he2, htake, hall, hlen2⟩, G3, rfl, hs3, inv3, hg3, x3, hm3⟩
      have hz2 : ∀ blk, ¬ G2.z blk := inv2.znone hJ2
      have hJ3 : G3.J = noFoe := x3.foe.trans hJ2
      have hlt2 : l < G2.w.heap.size := (Array.getElem?_eq_some_iff.1 hl2).1
      have hl3 : G3.w.heap[l]? = some (.loop { rec .ready none with state := .busy }) := (x3.old l hlt2 (inv2.not_loop hl2) (fun hz' => absurd hz' (hz2 l))).trans hl2
      have hφ3 : ∀ o, ¬ G3.φ l o := fun o hf => by
        rcases x3.thaw l o hf hlt2 with h1 | h1
        · rw [hφ2] at h1; exact hφ1 o h1
        · exact inv2.not_loop hl2 h1
      -- the round's end
      have fin : ∀ j : Option Code, (nn < k → j = none) → (¬ nn < k → j = some (exCode ex)) → ∃ v w', (Instr.endRound l j).run P G3.w = .ok v w' ∧ Ret G (.bool (decide (nn ≠ k))) (.tick (nn + 1) :: rest) (.returned v) w' := by
        intro j hj1 hj2
        refine ⟨_, _, run_endRound j hl3, ?_⟩
        have hrr : ({ ({ rec .ready none with state := .busy } : Loop) with state := if j.isNone then .ready else .done, pending := j } : Loop) = rec (if j.isNone then .ready else .done) j := by rw [hrec]
        rw [hrr]
        obtain ⟨y4, inv4, rep4⟩ := foreign_put (r' := rec (if j.isNone then .ready else .done) j) inv3 hJ3 (y2.trans x3) hl3 hl0 hφ3
        have chg4 : Chg l Gc { G3 with w := G3.w.putObj l (.loop (rec (if j.isNone then .ready else .done) j)) } := chg2.trans ((Chg.of_ext hz2 x3).trans (Chg.put hl3))
        have hl4' : (G3.w.putObj l (.loop (rec (if j.isNone then .ready else .done) j))).heap[l]? = some (.loop (rec (if j.isNone then .ready else .done) j)) := World.putObj_heap_same (Array.getElem?_eq_some_iff.1 hl3).1
        have hg4' : Glob X { G3 with w := G3.w.putObj l (.loop (rec (if j.isNone then .ready else .done) j)) } := fun g v hv => rep4 _ _ (hg3 g v hv)
        have hcut : s2.st = I (nn + 1) ++ s2.st.drop (I (nn + 1)).length := by conv => lhs; rw [← List.take_append_drop (I (nn + 1)).length s2.st, htake]
        have hσ3 : G3.σ = I (nn + 1) ++ s2.st.drop (I (nn + 1)).length := hs3.2.2.trans hcut
        have hlen0 : G0.σ.length ≤ (I (nn + 1)).length := by
          have h1 := h.x.len
          rw [h.σ] at h1
          omega
        have hsl4 : Slots { G3 with w := G3.w.putObj l (.loop (rec (if j.isNone then .ready else .done) j)) } ⟨0, fun _ => .undef, s2.st⟩ a3 := ⟨Nat.zero_le _, fun _ => .undef _, hs3.2.2⟩
        obtain ⟨_, inv5, hg5, y5⟩ := drop_at (X := X) (s := ⟨0, fun _ => .undef, s2.st⟩) (n := 0) (fr := fun _ => .undef) hz0 hlen0 rfl hcut hall (fun _ => .inl rfl) hsl4 inv4 hg4' y4
        have sub5 : ∀ (b : Nat) (kk : ABlk), (I (nn + 1))[b]? = some kk → G3.σ[b]? = some kk := fun b kk hb => by
          rw [hσ3, List.getElem?_append_left (List.getElem?_eq_some_iff.1 hb).1]; exact hb
        have chg : Chg l Gc { G3 with w := G3.w.putObj l (.loop (rec (if j.isNone then .ready else .done) j)), σ := I (nn + 1) } :=
          ⟨chg4.os, chg4.tape, chg4.output, chg4.size, chg4.old, chg4.shape, chg4.frozen, chg4.cell, chg4.fmap, chg4.thaw, fun blk ⟨b, kk, hb, hlv, hr⟩ => chg4.own blk ⟨b, kk, sub5 b kk hb, hlv, hr⟩⟩
        have hid1 : ∀ (b : Nat) (kk : ABlk), Gc.σ[b]? = some kk → ∃ k', (I (nn + 1))[b]? = some k' ∧ kk.gen ≤ k'.gen ∧ k'.sz = kk.sz ∧ ∀ g, g ≤ kk.gen → G3.ρ b g = Gc.ρ b g := fun b kk hb => by
          obtain ⟨k1, h1, g1, z1⟩ := x1.id b kk hb
          have h1' : G2.σ[b]? = some k1 := by rw [← hG2]; exact h1
          obtain ⟨k3, h3, g3, z3⟩ := x3.id b k1 h1'
          have hlt : b < (I (nn + 1)).length := by
            have := (List.getElem?_eq_some_iff.1 hb).1
            rw [h.σ] at this
            omega
          refine ⟨k3, ?_, Nat.le_trans g1 g3, z3.trans z1, fun g hg => ?_⟩
          · rw [hσ3, List.getElem?_append_left hlt] at h3; exact h3
          · exact (x3.at_ b k1 g h1' (Nat.le_trans hg g1)).trans ((congrFun (congrFun hρ2 b) g).trans (x1.at_ b kk g hb hg))
        have hfr4 : ∀ a v, Rep Gc a v → Rep { G3 with w := G3.w.putObj l (.loop (rec (if j.isNone then .ready else .done) j)), σ := I (nn + 1) } a v := fun a v hr =>
          hr.extR ⟨chg.shape, chg.frozen, fun b o hf v hv => (chg.cell b o hf).trans hv, chg.fmap, fun b kk hb => let ⟨k', q1, q2, q3, _⟩ := hid1 b kk hb; ⟨k', q1, q2, q3⟩, fun b kk g hb hg => (hid1 b kk hb).choose_spec.2.2.2 g hg⟩
        have hg4 : ∀ g v, X.G g = some v → Rep { G3 with w := G3.w.putObj l (.loop (rec (if j.isNone then .ready else .done) j)), σ := I (nn + 1) } (.rp v 0) (.pointer (some ⟨g, 0, none⟩)) := fun g v hv => hg5 g v hv
        have hl4 := hl4'
        have hJ4' : ({ G3 with w := G3.w.putObj l (.loop (rec (if j.isNone then .ready else .done) j)), σ := I (nn + 1) } : Gh).J = noFoe := hJ3
        have hσ4' : ({ G3 with w := G3.w.putObj l (.loop (rec (if j.isNone then .ready else .done) j)), σ := I (nn + 1) } : Gh).σ = I (nn + 1) := rfl
        have hw4 : ({ G3 with w := G3.w.putObj l (.loop (rec (if j.isNone then .ready else .done) j)), σ := I (nn + 1) } : Gh).w = G3.w.putObj l (.loop (rec (if j.isNone then .ready else .done) j)) := rfl
        rw [← hw4] at hl4 ⊢
        clear hl4' hg4' hsl4 hg5 chg4 rep4 hid1 sub5
        clear inv4 y4
        have inv4 := inv5
        have y4 := y5
        clear inv5 y5
        generalize ({ G3 with w := G3.w.putObj l (.loop (rec (if j.isNone then .ready else .done) j)), σ := I (nn + 1) } : Gh) = G4 at *
        have hsz : G.w.heap.size ≤ G4.w.heap.size := by have := chg.size; rwa [hw] at this
        have hltl' : l < G.w.heap.size := by rw [← hw]; exact hltl
        have hnz : ∀ blk, ¬ G.z blk → ¬ Owned Gc blk ∧ blk ≠ l := fun blk hb => ⟨fun ho => hb (h.own blk ho).1, fun e => hb (e ▸ h.zl)⟩
        have same : ∀ blk, blk < G.w.heap.size → ¬ Owned Gc blk → blk ≠ l → G4.w.heap[blk]? = G.w.heap[blk]? := fun blk hb ho hne => by
          have := chg.old blk (by rw [hw]; exact hb) ho hne
          rwa [hw] at this
        let G' : Gh := { G with w := G4.w, σ := .tick (nn + 1) :: rest, t := nn + 1, z := fun b => G.z b ∨ Owned G4 b }
        have own' : ∀ blk, Owned G' blk → Owned G blk := fun blk ⟨b, kk, hb, hlv, hr⟩ => by
          cases b with
          | zero =>
            have : kk = .tick (nn + 1) := (Option.some.inj hb).symm
            subst this
            rw [show G'.ρ 0 (ABlk.tick (nn + 1)).gen = G.ρ 0 0 from rfl, hρ0 0] at hr
            cases hr
          | succ b => exact ⟨b + 1, kk, by rw [hσ]; exact hb, hlv, hr⟩
        have hO : ∀ blk, Owned G blk → blk < G.w.heap.size ∧ ¬ Owned Gc blk ∧ blk ≠ l := fun blk ho => ⟨ho.lt inv, fun hc => (h.own blk hc).2 ho, fun e => h.ol (e ▸ ho)⟩
        have heapO : ∀ blk, Owned G blk → G4.w.heap[blk]? = G.w.heap[blk]? := fun blk ho => same blk (hO blk ho).1 (hO blk ho).2.1 (hO blk ho).2.2
        have xx : Ext G G' :=
          { os := by have := chg.os; rwa [hw] at this
            tape := by have := chg.tape; rwa [hw] at this
            output := by have := chg.output; rwa [hw] at this
            size := hsz
            old := fun blk hb _ hz' => by
              have hn : ¬ G.z blk := fun hzz => by
                have : nn + 1 = G.t := hz' hzz
                omega
              exact same blk hb (hnz blk hn).1 (hnz blk hn).2
            shape := fun blk c e fz hb => chg.shape blk c e fz (by rw [hw]; exact hb)
            frozen := fun _ _ h => h
            cell := fun b o hf => by
              rcases h.φ1 b o hf with h1 | h1
              · have := chg.cell b o h1
                rwa [hw] at this
              · by_cases e : b = l
                · subst e
                  show G4.w.cell? _ = _
                  unfold World.cell?
                  simp only [hlr, hl4]
                · exact World.cell?_of_block (a := ⟨b, o, none⟩) (same b (inv.lt b o hf) h1 e)
            fmap := fun b mm ck hf hb => by
              have hne : b ≠ l := fun e => by subst e; rw [hlr] at hb; cases hb
              rcases h.φ1 b 0 hf with h1 | h1
              · exact chg.fmap b mm ck h1 (by rw [hw]; exact hb)
              · exact (same b (inv.lt b 0 hf) h1 hne).trans hb
            thaw := fun _ _ h _ => .inl h
            len := by simp [G', hσ]
            id := fun b kk hb => by
              cases b with
              | zero =>
                rw [hσ] at hb
                have : kk = .tick nn := (Option.some.inj hb).symm
                subst this
                exact ⟨.tick (nn + 1), rfl, Nat.le_refl _, rfl⟩
              | succ b => exact ⟨kk, by rw [hσ] at hb; exact hb, Nat.le_refl _, rfl⟩
            at_ := fun _ _ _ _ _ => rfl
            own := fun blk ho => .inr (own' blk ho)
            time := by show G.t ≤ nn + 1; omega
            zin := fun blk hb => by
              rcases hb with hb | hb
              · exact .inr hb
              · rcases chg.own blk hb with h1 | h1
                · rw [hw] at h1; exact .inl h1
                · exact .inr (h.own blk h1).1
            zout := fun blk hb => .inl hb
            foe := rfl }
        have old' : ∀ (b : Nat) (kk : ABlk), G'.σ[b]? = some kk → (∀ q, kk ≠ .tick q) → G.σ[b]? = some kk := fun b kk hb hne => by
          cases b with
          | zero => exact absurd (Option.some.inj hb).symm (hne _)
          | succ b => rw [hσ]; exact hb
        refine ⟨G', rfl, rfl, xx, ?_, ?_⟩
        · exact
            { rows := fun b sz g lo ys hb => by
                have hb' := old' b _ hb (fun q e => by cases e)
                obtain ⟨q1, q2, q3⟩ := inv.rows b sz g lo ys hb'
                refine ⟨q1, fun blk hr => ?_, q3⟩
                obtain ⟨c, e, fz, q4, q5, q6, q7⟩ := q2 blk hr
                exact ⟨c, e, fz, (heapO blk ⟨b, _, hb', rfl, hr⟩).trans q4, q5, q6.ext xx, q7⟩
              maps := fun b es hb => by
                have hb' := old' b _ hb (fun q e => by cases e)
                obtain ⟨blk, ents, ck, q1, q2, q3, q4⟩ := inv.maps b es hb'
                exact ⟨blk, ents, ck, q1, (heapO blk ⟨b, _, hb', rfl, q1⟩).trans q2, q3.ext xx, q4⟩
              inj := fun b b' k1 k2 blk h1 h2 r1 r2 => by
                have t1 : ∀ q, k1 ≠ .tick q := fun q e => by
                  subst e
                  cases b with
                  | zero => rw [show (ABlk.tick q).gen = 0 from rfl, show G'.ρ 0 0 = G.ρ 0 0 from rfl, hρ0 0] at r1; cases r1
                  | succ b =>
                    have := (inv.tks (b + 1) q (by rw [hσ]; exact h1)).2 0
                    rw [show G'.ρ (b + 1) (ABlk.tick q).gen = G.ρ (b + 1) 0 from rfl, this] at r1
                    cases r1
                have t2 : ∀ q, k2 ≠ .tick q := fun q e => by
                  subst e
                  cases b' with
                  | zero => rw [show (ABlk.tick q).gen = 0 from rfl, show G'.ρ 0 0 = G.ρ 0 0 from rfl, hρ0 0] at r2; cases r2
                  | succ b' =>
                    have := (inv.tks (b' + 1) q (by rw [hσ]; exact h2)).2 0
                    rw [show G'.ρ (b' + 1) (ABlk.tick q).gen = G.ρ (b' + 1) 0 from rfl, this] at r2
                    cases r2
                exact inv.inj b b' k1 k2 blk (old' b k1 h1 t1) (old' b' k2 h2 t2) r1 r2
              lt := fun b o hf => Nat.lt_of_lt_of_le (inv.lt b o hf) hsz
              tks := fun b q hb => by
                cases b with
                | zero =>
                  have : q = nn + 1 := by have := Option.some.inj hb; simpa using this.symm
                  exact ⟨fun _ => this, hρ0⟩
                | succ b => exact ⟨fun e => (by cases e), (inv.tks (b + 1) q (by rw [hσ]; exact hb)).2⟩
              held := by
                show G.J (nn + 1) G4.w (Owned G') G.φ G'.z
                rw [hJ]
                have lt4 : ∀ blk, Owned G4 blk → blk < G4.w.heap.size := fun blk ho => ho.lt inv4
                refine ⟨G4, rfl, inv4, fun g v hv => hg4 g v hv, y4, hJ4', hσ4', fun i => hfr4 _ _ (h.fr i), fun hle => ?_, fun hle => ?_, fun r hr => ?_, fun blk ho => ⟨.inr ho, fun ho' => ?_⟩, .inl h.zl, fun ho => h.ol (own' _ ho), fun r hr ho => h.oD r hr (own' _ ho), fun o hf => ?_, fun b o hf => ?_, fun b o hf ho => ?_, fun blk ho hb => h.o3 blk (own' _ ho) hb⟩
                · have := hj1 (by omega)
                  subst this
                  exact hl4
                · have := hj2 (by omega)
                  subst this
                  exact hl4
                · have hD : G.w.heap[r]? = some (.deferred (some [])) := h.dfr r hr
                  have hDlt : r < G.w.heap.size := (Array.getElem?_eq_some_iff.1 hD).1
                  have hDc : Gc.w.heap[r]? = some (.deferred (some [])) := by rw [hw]; exact hD
                  exact (same r hDlt (h.inv.not_deferred hDc) (hDl r hr)).trans hD
                · have h1 := own' _ ho'
                  rcases chg.own blk ho with h2 | h2
                  · rw [hw] at h2
                    have := (hO blk h1).1
                    omega
                  · exact (h.own blk h2).2 h1
                · rcases chg.thaw l o hf hltl with h1 | h1
                  · exact h.nφ o h1
                  · exact h.inv.not_loop hlrc h1
                · rcases h.φ1 b o hf with h1 | h1
                  · exact .inl (chg.frozen b o h1)
                  · refine .inr fun ho => ?_
                    have hb := inv.lt b o hf
                    rcases chg.own b ho with h2 | h2
                    · rw [hw] at h2; omega
                    · exact h1 h2
                · have h1 := own' _ ho
                  have hb := (hO b h1).1
                  rcases chg.thaw b o hf (by rw [hw]; exact hb) with h2 | h2
                  · exact h.φ2 b o h2 h1
                  · exact (h.own b h2).2 h1
              stab := by show Stable G.J; rw [hJ]; exact foeJ_stable _ _ _ _ _ _ _ _ _ _
              zlt := fun blk hb => by
                rcases hb with hb | hb
                · exact Nat.lt_of_lt_of_le (inv.zlt blk hb) hsz
                · exact hb.lt inv4
              znone := fun e => by
                have e' : G.J = noFoe := e
                rw [hJ] at e'
                exact absurd e' (foeJ_ne _ _ _ _ _ _ _ _ _ _ G.w)
              its := fun b s i hb => by
                have hb' := old' b _ hb (fun q e => by cases e)
                obtain ⟨blk, q1, q2⟩ := inv.its b s i hb'
                exact ⟨blk, q1, (heapO blk ⟨b, _, hb', rfl, q1⟩).trans q2⟩
              deads := fun b sz g blk hb hr => Nat.lt_of_lt_of_le (inv.deads b sz g blk (old' b _ hb (fun q e => by cases e)) hr) hsz }
        · have : (Value.bool j.isNone) = .bool (decide (nn ≠ k)) := by
            by_cases hlt : nn < k
            · rw [hj1 hlt]
              have : nn ≠ k := by omega
              simp [this]
            · rw [hj2 hlt]
              have : nn = k := by omega
              simp [this]
          rw [this]
          exact .bool _
      by_cases hlt : nn < k
      · have he := he1 hlt
        subst he
        exact fin none (fun _ => rfl) (fun h' => absurd hlt h')
      · have he := he2 hlt
        subst he
        rcases hex with rfl | ⟨i, rfl⟩ | ⟨i, rfl⟩
        · exact fin (some .ret) (fun h' => absurd h' hlt) (fun _ => rfl)
        · exact fin (some (.exit i)) (fun h' => absurd h' hlt) (fun _ => rfl)
        · exact fin (some (.goto i)) (fun h' => absurd h' hlt) (fun _ => rfl)
    · cases hy
  · cases hy
end Go.Proofs.YtgpkochbmfhmdaaGreatDoor.Lift
