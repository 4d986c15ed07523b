/-
  LIFT, E: HOW A WALK IS EVALUATED by simp: what is still to be walked is kept as data.
  LIFT, C: typed values: how a Lean value is an abstract one; pure contracts on typed values.
  LIFT, S: THE PROGRAM's STRUCTS as Lean structures, and how they are abstract values (printed by tools/structs.py).
  LIFT, K: THE CHAIN OF CONTRACTS: an environment grows by one contract after the other.
  LIFT, 28: RANGES OVER FUNCTIONS, 4: the statement.
  LIFT, 29: RANGES OVER FUNCTIONS, 5: the contract of a function that may be ranged over, from its walk; the rule, evaluated; contracts with a store.
  LIFT, 30: CONTRACTS WITH A STORE that leave what they made: from the walk.
  LIFT, 31: A SLICE OF WHICH IT IS NOT KNOWN WHETHER IT IS NIL: a function that clones, by cases.
-/
import Derived.Test.YtgpkochbmfhmdaaGreatDoorQ6
namespace Go.Proofs.YtgpkochbmfhmdaaGreatDoor.Lift
open Go

/-- what is still to be done -/
inductive Kt where
  | seq (c : Code)
  | block (id : Nat)
  | scope

section
variable (P : Program) (X : Cfg) (G0 : Gh) (Q : Exit → ASt → Prop)
/-- an exit comes to what is still to be done -/
def go : List Kt → Exit → ASt → Prop
  | [], e, s => Q e s
  | .seq c :: k, e, s => thenQ (fun s' => wpC P X G0 c s' (go k)) (go k) e s
  | .block id :: k, e, s => blockQ id (go k) e s
  | .scope :: k, e, s => scopeQ (go k) e s
/-- code, and what is still to be done -/
def wk (c : Code) (k : List Kt) (s : ASt) : Prop := wpC P X G0 c s (go P X G0 Q k)
/-- operations (r) of a region (g) -/
def ro (g r : List Oper) (k : List Kt) (s : ASt) : Prop := runOps X (gdOf g) r s (go P X G0 Q k .normal)
def so (o : Option ASt) (g r : List Oper) (k : List Kt) : Prop := onSome o fun s1 => runOps X (gdOf g) r s1 (go P X G0 Q k .normal)
/-- operations of a region that draws -/
def rd (ad : List (Nat × AV)) (g : List Oper) (i : Nat) (r : List Oper) (k : List Kt) (s : ASt) : Prop := runDraw X g.toArray (ancTab g []) ad r i s (go P X G0 Q k .normal)
def sd (ad : List (Nat × AV)) (o : Option ASt) (st : Sto) (g : List Oper) (i : Nat) (r : List Oper) (k : List Kt) : Prop :=
  onSome o fun s1 => (s1.st = st ∨ steady X g.toArray (ancTab g []) ad i st s1.st) ∧ runDraw X g.toArray (ancTab g []) ad r (i + 1) s1 (go P X G0 Q k .normal)
/-- .. where blocks are set aside -/
def rdA (A : List (Nat × Nat)) (ad : List (Nat × AV)) (g : List Oper) (i : Nat) (r : List Oper) (k : List Kt) (s : ASt) : Prop := runDrawA { X with A := A } g.toArray (ancTab g []) ad r i s (go P X G0 Q k .normal)
def sdA (A : List (Nat × Nat)) (ad : List (Nat × AV)) (q : Oper) (o : Option ASt) (st : Sto) (g : List Oper) (i : Nat) (r : List Oper) (k : List Kt) : Prop :=
  onSome o fun s1 => (s1.st = st ∨ steady { X with A := A } g.toArray (ancTab g []) ad i st s1.st ∨ ∃ m, locAt { X with A := A } ad i q m ∧ steadyK { X with A := A } g.toArray (ancTab g []) ad i m) ∧ runDrawA { X with A := A } g.toArray (ancTab g []) ad r (i + 1) s1 (go P X G0 Q k .normal)
/-- where a load loads, if that is said -/
@[simp] def adChk (X : Cfg) (ad : List (Nat × AV)) (i : Nat) (o : Oper) (s : ASt) : Prop := match o.op with
  | .load _ a => (match ad.lookup i with | some p => s.ev X a = p | none => True)
  | op => (match ad.lookup i with | some p => .tup (op.operands.toList.map (s.ev X)) = p | none => True)
/-- a branch -/
def br (v : AV) (x y : Code) (k : List Kt) (s : ASt) : Prop := branch v (wk P X G0 Q x k s) (wk P X G0 Q y k s)
/-- a region that draws may be taken in the text's order -/
def dk (g : List Oper) (k : List Kt) (s : ASt) : Prop := drawOK g.toArray (ancTab g []) = true ∧ ((∃ ad, rd P X G0 Q ad g 0 g k s) ∨ ∃ A szs ad, rdA P X G0 Q A ad g 0 g k { s with st := s.st ++ List.map (fun z => .row z 0 0 []) szs })
/-- a block's exit -/
def bx (b : Bool) (l : Nat) (k : List Kt) (s : ASt) : Prop := if b = true then go P X G0 Q k .normal s else go P X G0 Q k (.exit l) s
/-- a loop, and what is still to be done -/
def lp (c : Code) (k : List Kt) (s : ASt) : Prop := Ev P X G0 (.loop c) s (go P X G0 Q k)
def rf (f : Operand) (ps : Array Nat) (x y : Code) (k : List Kt) (s : ASt) : Prop := Ev P X G0 (.rangeFunc f ps x y) s (go P X G0 Q k)
end

section
variable {P : Program} {X : Cfg} {G0 : Gh} {Q : Exit → ASt → Prop} {s : ASt} {k : List Kt}
@[simp] theorem wk_skip : wk P X G0 Q .skip k s = go P X G0 Q k .normal s := rfl
@[simp] theorem wk_label {l : Nat} : wk P X G0 Q (.label l) k s = go P X G0 Q k .normal s := rfl
@[simp] theorem wk_exit {l : Nat} : wk P X G0 Q (.exit l) k s = go P X G0 Q k (.exit l) s := rfl
@[simp] theorem wk_goto {l : Nat} : wk P X G0 Q (.goto l) k s = go P X G0 Q k (.goto l) s := rfl
@[simp] theorem wk_ret : wk P X G0 Q .ret k s = go P X G0 Q k .ret s := rfl
@[simp] theorem wk_seq {x y : Code} : wk P X G0 Q (.seq x y) k s = wk P X G0 Q x (.seq y :: k) s := rfl
@[simp] theorem wk_cond {c : Operand} {x y : Code} : wk P X G0 Q (.cond c x y) k s = br P X G0 Q (s.ev X c) x y k s := rfl
@[simp] theorem wk_block {id : Nat} {c : Code} : wk P X G0 Q (.block id c) k s = wk P X G0 Q c (.block id :: k) s := rfl
@[simp] theorem wk_scope {c : Code} : wk P X G0 Q (.scope c) k s = wk P X G0 Q c (.scope :: k) s := rfl
@[simp] theorem wk_region {id : Nat} {l : List Oper} : wk P X G0 Q (.region id l.toArray false) k s = ro P X G0 Q l l k s := rfl
@[simp] theorem wk_draw {id : Nat} {l : List Oper} : wk P X G0 Q (.region id l.toArray true) k s = dk P X G0 Q l k s := rfl
@[simp] theorem wk_loop {c : Code} : wk P X G0 Q (.loop c) k s = lp P X G0 Q c k s := rfl
@[simp] theorem wk_rangeFunc {f : Operand} {ps : Array Nat} {x y : Code} : wk P X G0 Q (.rangeFunc f ps x y) k s = rf P X G0 Q f ps x y k s := rfl
@[simp] theorem go_nil {e : Exit} : go P X G0 Q [] e s = Q e s := rfl
@[simp] theorem go_seq {c : Code} : go P X G0 Q (.seq c :: k) .normal s = wk P X G0 Q c k s := rfl
@[simp] theorem go_seq_ret {c : Code} : go P X G0 Q (.seq c :: k) .ret s = go P X G0 Q k .ret s := rfl
@[simp] theorem go_seq_exit {c : Code} {l : Nat} : go P X G0 Q (.seq c :: k) (.exit l) s = go P X G0 Q k (.exit l) s := rfl
@[simp] theorem go_seq_goto {c : Code} {l : Nat} : go P X G0 Q (.seq c :: k) (.goto l) s = go P X G0 Q k (.goto l) s := rfl
@[simp] theorem go_block {id : Nat} : go P X G0 Q (.block id :: k) .normal s = go P X G0 Q k .normal s := rfl
@[simp] theorem go_block_ret {id : Nat} : go P X G0 Q (.block id :: k) .ret s = go P X G0 Q k .ret s := rfl
@[simp] theorem go_block_goto {id l : Nat} : go P X G0 Q (.block id :: k) (.goto l) s = go P X G0 Q k (.goto l) s := rfl
@[simp] theorem go_block_exit {id l : Nat} : go P X G0 Q (.block id :: k) (.exit l) s = bx P X G0 Q (l == id) l k s := by simp [go, blockQ, bx]
@[simp] theorem bx_true {l : Nat} : bx P X G0 Q true l k s = go P X G0 Q k .normal s := rfl
@[simp] theorem bx_false {l : Nat} : bx P X G0 Q false l k s = go P X G0 Q k (.exit l) s := rfl
@[simp] theorem go_scope : go P X G0 Q (.scope :: k) .normal s = go P X G0 Q k .normal s := rfl
@[simp] theorem go_scope_ret : go P X G0 Q (.scope :: k) .ret s = go P X G0 Q k .ret s := rfl
@[simp] theorem go_scope_exit {l : Nat} : go P X G0 Q (.scope :: k) (.exit l) s = go P X G0 Q k (.exit l) s := rfl
@[simp] theorem ro_nil {g : List Oper} : ro P X G0 Q g [] k s = go P X G0 Q k .normal s := rfl
@[simp] theorem ro_cons {g r : List Oper} {o : Oper} : ro P X G0 Q g (o :: r) k s = so P X G0 Q (step1 X (gdOf g) s o) g r k := rfl
@[simp] theorem so_some {g r : List Oper} : so P X G0 Q (some s) g r k = ro P X G0 Q g r k s := by simp [so, ro, onSome]
@[simp] theorem so_none {g r : List Oper} : so P X G0 Q none g r k = False := by simp [so, onSome]
@[simp] theorem rd_nil {ad : List (Nat × AV)} {g : List Oper} {i : Nat} : rd P X G0 Q ad g i [] k s = go P X G0 Q k .normal s := rfl
@[simp] theorem rd_cons {g r : List Oper} {i : Nat} {o : Oper} : rd P X G0 Q [] g i (o :: r) k s = sd P X G0 Q [] (step1 X (gdOf g) s o) s.st g i r k := by
  simp [rd, sd, runDraw, adOk]
theorem adOk_iff {ad : List (Nat × AV)} {i : Nat} {o : Oper} : adOk X ad i o s ↔ adChk X ad i o s := by
  unfold adOk adChk
  constructor
  · intro h
    split
    · rename_i t a he
      split
      · rename_i p hp; exact h.1 t a p he hp
      · trivial
    · rename_i hn
      split
      · rename_i p hp; exact h.2 p (fun t a e => hn t a e) hp
      · trivial
  · intro h
    refine ⟨fun t a p he hp => ?_, fun p he hp => ?_⟩
    · rw [he] at h
      simp only [hp] at h
      exact h
    · split at h
      · rename_i t a e; exact absurd e (he t a)
      · simp only [hp] at h
        exact h
@[simp] theorem rd_consL {x : Nat × AV} {ad : List (Nat × AV)} {g r : List Oper} {i : Nat} {o : Oper} : rd P X G0 Q (x :: ad) g i (o :: r) k s = (adChk X (x :: ad) i o s ∧ sd P X G0 Q (x :: ad) (step1 X (gdOf g) s o) s.st g i r k) := by
  rw [← adOk_iff (X := X) (s := s)]; rfl
@[simp] theorem sd_same {ad : List (Nat × AV)} {g r : List Oper} {i n : Nat} {fr : Nat → AV} {st : Sto} : sd P X G0 Q ad (some ⟨n, fr, st⟩) st g i r k = rd P X G0 Q ad g (i + 1) r k ⟨n, fr, st⟩ := by simp [sd, rd, onSome]
theorem sd_of {ad : List (Nat × AV)} {g r : List Oper} {i : Nat} {st : Sto} (h : barrier g.toArray (ancTab g []) i = true) (h' : rd P X G0 Q ad g (i + 1) r k s) : sd P X G0 Q ad (some s) st g i r k := ⟨s, rfl, .inr (steady_of_barrier h), h'⟩
/-- an operation that turns the store: other ones load the same before it and behind it -/
theorem sd_ofL {ad : List (Nat × AV)} {g r : List Oper} {i : Nat} {st : Sto} (h : barrierL g.toArray (ancTab g []) ad i = true) (h2 : steadyL X g.toArray (ancTab g []) i st s.st ad) (h' : rd P X G0 Q ad g (i + 1) r k s) : sd P X G0 Q ad (some s) st g i r k := ⟨s, rfl, .inr (steady_of h h2), h'⟩
@[simp] theorem sd_none {ad : List (Nat × AV)} {g r : List Oper} {i : Nat} {st : Sto} : sd P X G0 Q ad none st g i r k = False := by simp [sd, onSome]
@[simp] theorem br_true {x y : Code} : br P X G0 Q (.bool true) x y k s = wk P X G0 Q x k s := by simp [br, branch]
@[simp] theorem br_false {x y : Code} : br P X G0 Q (.bool false) x y k s = wk P X G0 Q y k s := by simp [br, branch]
theorem br_dec {p : Prop} [Decidable p] {x y : Code} (h1 : p → wk P X G0 Q x k s) (h2 : ¬p → wk P X G0 Q y k s) : br P X G0 Q (.bool (decide p)) x y k s := ⟨_, rfl, fun h => h1 (of_decide_eq_true h), fun h => h2 (of_decide_eq_false h)⟩
theorem br_bool {b : Bool} {x y : Code} (h1 : b = true → wk P X G0 Q x k s) (h2 : b = false → wk P X G0 Q y k s) : br P X G0 Q (.bool b) x y k s := ⟨_, rfl, h1, h2⟩
/-- an operation's result, given -/
theorem so_see {o : Option ASt} {g r : List Oper} (s' : ASt) (h : o = some s') (h2 : ro P X G0 Q g r k s') : so P X G0 Q o g r k := by subst h; rw [so_some]; exact h2
/-- an operation that waits for a truth value -/
@[irreducible] def gstep (w : Option Bool) (x y : Option ASt) : Option ASt := match w with | some true => x | some false => y | none => none
@[simp] theorem gstep_true {x y : Option ASt} : gstep (some true) x y = x := by unfold gstep; rfl
@[simp] theorem gstep_false {x y : Option ASt} : gstep (some false) x y = y := by unfold gstep; rfl
@[simp] theorem gstep_none {x y : Option ASt} : gstep none x y = none := by unfold gstep; rfl
theorem step1_gs {gd : Nat → Option Nat} {o : Oper} : step1 X gd s o = gstep (wantedA gd s o) (match evOper X s o with | some (v, st) => ASt.put { s with st := st } o.dst v | none => none) (s.put o.dst (.tup [])) := by
  unfold step1
  generalize evOper X s o = e
  generalize wantedA gd s o = w
  cases w with
  | none => exact gstep_none.symm
  | some b =>
    cases b with
    | true => rw [gstep_true]; cases e <;> rfl
    | false => rw [gstep_false]
theorem gs_dec {p : Prop} [Decidable p] {x y : Option ASt} {g r : List Oper} (h1 : p → so P X G0 Q x g r k) (h2 : ¬p → so P X G0 Q y g r k) : so P X G0 Q (gstep (some (decide p)) x y) g r k := by
  by_cases h : p
  · simp only [h, decide_true, gstep_true]; exact h1 h
  · simp only [h, decide_false, gstep_false]; exact h2 h
theorem gs_ndec {p : Prop} [Decidable p] {x y : Option ASt} {g r : List Oper} (h1 : p → so P X G0 Q y g r k) (h2 : ¬p → so P X G0 Q x g r k) : so P X G0 Q (gstep (some (!decide p)) x y) g r k := by
  by_cases h : p
  · simp only [h, decide_true, Bool.not_true, gstep_false]; exact h1 h
  · simp only [h, decide_false, Bool.not_false, gstep_true]; exact h2 h
theorem gs_bool {b : Bool} {x y : Option ASt} {g r : List Oper} (h1 : b = true → so P X G0 Q x g r k) (h2 : b = false → so P X G0 Q y g r k) : so P X G0 Q (gstep (some b) x y) g r k := by
  cases b
  · simp only [gstep_false]; exact h2 rfl
  · simp only [gstep_true]; exact h1 rfl
theorem gs_nbool {b : Bool} {x y : Option ASt} {g r : List Oper} (h1 : b = true → so P X G0 Q y g r k) (h2 : b = false → so P X G0 Q x g r k) : so P X G0 Q (gstep (some (!b)) x y) g r k := by
  cases b
  · simp only [Bool.not_false, gstep_true]; exact h2 rfl
  · simp only [Bool.not_true, gstep_false]; exact h1 rfl
theorem dk_of {g : List Oper} (h : drawOK g.toArray (ancTab g []) = true) (h' : rd P X G0 Q [] g 0 g k s) : dk P X G0 Q g k s := ⟨h, .inl ⟨[], h'⟩⟩
/-- .. and these loads (the place in the region, the address) find the same before and behind what turns the store -/
theorem dk_ofL {g : List Oper} (ad : List (Nat × AV)) (h : drawOK g.toArray (ancTab g []) = true) (h' : rd P X G0 Q ad g 0 g k s) : dk P X G0 Q g k s := ⟨h, .inl ⟨ad, h'⟩⟩
@[simp] theorem rdA_nil {A : List (Nat × Nat)} {ad : List (Nat × AV)} {g : List Oper} {i : Nat} : rdA P X G0 Q A ad g i [] k s = go P X G0 Q k .normal s := rfl
@[simp] theorem rdA_cons {A : List (Nat × Nat)} {ad : List (Nat × AV)} {g r : List Oper} {i : Nat} {o : Oper} : rdA P X G0 Q A ad g i (o :: r) k s = (adChk { X with A := A } ad i o s ∧ sdA P X G0 Q A ad o (step1 { X with A := A } (gdOf g) s o) s.st g i r k) := by
  rw [← adOk_iff (X := { X with A := A }) (s := s)]; rfl
@[simp] theorem sdA_same {A : List (Nat × Nat)} {ad : List (Nat × AV)} {q : Oper} {g r : List Oper} {i n : Nat} {fr : Nat → AV} {st : Sto} : sdA P X G0 Q A ad q (some ⟨n, fr, st⟩) st g i r k = rdA P X G0 Q A ad g (i + 1) r k ⟨n, fr, st⟩ := by simp [sdA, rdA, onSome]
@[simp] theorem sdA_none {A : List (Nat × Nat)} {ad : List (Nat × AV)} {q : Oper} {g r : List Oper} {i : Nat} {st : Sto} : sdA P X G0 Q A ad q none st g i r k = False := by simp [sdA, onSome]
theorem sdA_of {A : List (Nat × Nat)} {ad : List (Nat × AV)} {q : Oper} {g r : List Oper} {i : Nat} {st : Sto} (h : barrier g.toArray (ancTab g []) i = true) (h' : rdA P X G0 Q A ad g (i + 1) r k s) : sdA P X G0 Q A ad q (some s) st g i r k := ⟨s, rfl, .inr (.inl (steady_of_barrier h)), h'⟩
theorem sdA_ofL {A : List (Nat × Nat)} {ad : List (Nat × AV)} {q : Oper} {g r : List Oper} {i : Nat} {st : Sto} (h : barrierL g.toArray (ancTab g []) ad i = true) (h2 : steadyL { X with A := A } g.toArray (ancTab g []) i st s.st ad) (h' : rdA P X G0 Q A ad g (i + 1) r k s) : sdA P X G0 Q A ad q (some s) st g i r k := ⟨s, rfl, .inr (.inl (steady_of h h2)), h'⟩
/-- an operation that sees and turns one block alone -/
theorem sdA_loc {A : List (Nat × Nat)} {ad : List (Nat × AV)} {q : Oper} {g r : List Oper} {i m : Nat} {st : Sto} {p : AV} (hp : ad.lookup i = some p) (hk : locKey { X with A := A } q p = some m) (h : barrierL g.toArray (ancTab g []) ad i = true) (h2 : steadyKL { X with A := A } g.toArray (ancTab g []) i m ad) (h' : rdA P X G0 Q A ad g (i + 1) r k s) : sdA P X G0 Q A ad q (some s) st g i r k := ⟨s, rfl, .inr (.inr ⟨m, ⟨p, hp, locKey_loc hk⟩, steadyK_of h h2⟩), h'⟩
/-- blocks are set aside (A: for which places, and where), and these loads and calls find the same .. -/
theorem dk_ofA {g : List Oper} (A : List (Nat × Nat)) (szs : List Nat) (ad : List (Nat × AV)) (h : drawOK g.toArray (ancTab g []) = true) (h' : rdA P X G0 Q A ad g 0 g k { s with st := s.st ++ List.map (fun z => .row z 0 0 []) szs }) : dk P X G0 Q g k s := ⟨h, .inr ⟨A, szs, ad, h'⟩⟩
/-- a walk's beginning -/
theorem ev_of_wk (ok : OkX P X) (hm : P.follows .mixedOrders = true) {c : Code} (h : wk P X G0 Q c [] s) : Ev P X G0 c s Q := wpC_ev ok hm c s _ h
/-- the end of a round: the next one's beginning -/
def nextQ (X : Cfg) (G0 : Gh) {α : Type} (I : α → ASt) (ok : α → Prop) (μ : α → Nat) (x : α) (s' : ASt) : Prop := ∃ y, ok y ∧ μ y < μ x ∧ Less X G0 s' (I y)
/-- a round's exits -/
def loopQ (X : Cfg) (G0 : Gh) {α : Type} (I : α → ASt) (ok : α → Prop) (μ : α → Nat) (x : α) (Q : Exit → ASt → Prop) : Exit → ASt → Prop := thenQ (nextQ X G0 I ok μ x) Q
section
variable {α : Type} {I : α → ASt} {okk : α → Prop} {μ : α → Nat} {x : α}
@[simp] theorem loopQ_normal : loopQ X G0 I okk μ x Q .normal s = nextQ X G0 I okk μ x s := rfl
@[simp] theorem loopQ_ret : loopQ X G0 I okk μ x Q .ret s = Q .ret s := rfl
@[simp] theorem loopQ_exit {l : Nat} : loopQ X G0 I okk μ x Q (.exit l) s = Q (.exit l) s := rfl
@[simp] theorem loopQ_goto {l : Nat} : loopQ X G0 I okk μ x Q (.goto l) s = Q (.goto l) s := rfl
theorem nextQ_of (y : α) (h1 : okk y) (h2 : μ y < μ x) (h3 : Weak s (I y)) : nextQ X G0 I okk μ x s := ⟨y, h1, h2, h3.less⟩
theorem nextQ_less (y : α) (h1 : okk y) (h2 : μ y < μ x) (h3 : Less X G0 s (I y)) : nextQ X G0 I okk μ x s := ⟨y, h1, h2, h3⟩
end
theorem lp_of {c : Code} {α : Type} (ok : OkX P X) (hm : P.follows .mixedOrders = true) (I : α → ASt) (okk : α → Prop) (μ : α → Nat) (x0 : α) (h0 : okk x0) (hs0 : Weak s (I x0))
    (round : ∀ x, okk x → wk P X G0 (loopQ X G0 I okk μ x (go P X G0 Q k)) c [] (I x)) : lp P X G0 Q c k s := ev_loop I okk μ x0 h0 hs0.less fun x hx => ev_of_wk ok hm (round x hx)
end

@[simp] theorem frL_nil (t : Nat) : frL [] t = .undef := rfl
@[simp] theorem frL_cons (k : Nat) (v : AV) (r : List (Nat × AV)) (t : Nat) : frL ((k, v) :: r) t = if t = k then v else frL r t := rfl
@[simp] theorem range_1 : List.range 1 = [0] := rfl
@[simp] theorem range_2 : List.range 2 = [0, 1] := rfl
@[simp] theorem range_3 : List.range 3 = [0, 1, 2] := rfl
@[simp] theorem range_4 : List.range 4 = [0, 1, 2, 3] := rfl
@[simp] theorem range_5 : List.range 5 = [0, 1, 2, 3, 4] := rfl
@[simp] theorem range_6 : List.range 6 = [0, 1, 2, 3, 4, 5] := rfl
@[simp] theorem range_7 : List.range 7 = [0, 1, 2, 3, 4, 5, 6] := rfl
@[simp] theorem range_8 : List.range 8 = [0, 1, 2, 3, 4, 5, 6, 7] := rfl
@[simp] theorem range_9 : List.range 9 = [0, 1, 2, 3, 4, 5, 6, 7, 8] := rfl
@[simp] theorem range_10 : List.range 10 = [0, 1, 2, 3, 4, 5, 6, 7, 8, 9] := rfl
@[simp] theorem range_11 : List.range 11 = [0, 1, 2, 3, 4, 5, 6, 7, 8, 9, 10] := rfl
@[simp] theorem range_12 : List.range 12 = [0, 1, 2, 3, 4, 5, 6, 7, 8, 9, 10, 11] := rfl
@[simp] theorem range_13 : List.range 13 = [0, 1, 2, 3, 4, 5, 6, 7, 8, 9, 10, 11, 12] := rfl
@[simp] theorem range_14 : List.range 14 = [0, 1, 2, 3, 4, 5, 6, 7, 8, 9, 10, 11, 12, 13] := rfl
@[simp] theorem range_15 : List.range 15 = [0, 1, 2, 3, 4, 5, 6, 7, 8, 9, 10, 11, 12, 13, 14] := rfl
@[simp] theorem range_16 : List.range 16 = [0, 1, 2, 3, 4, 5, 6, 7, 8, 9, 10, 11, 12, 13, 14, 15] := rfl
attribute [simp] lenOf loadAt storeAt elemsOf entsOf
attribute [simp] frOf Op.operands Call.operands

/-- the end of a function's walk -/
def fin (X : Cfg) (rs : List ResultVar) (r : AV) (e : Exit) (s : ASt) : Prop := (e = .normal ∨ e = .ret) ∧ ∃ d r0, resAs X s rs = some r0 ∧ peek s.st d r0 = some r
theorem fin_of {X : Cfg} {rs : List ResultVar} {r r0 : AV} {e : Exit} {s : ASt} (d : Nat) (he : e = .normal ∨ e = .ret) (h : resAs X s rs = some r0) (hp : peek s.st d r0 = some r) : fin X rs r e s := ⟨he, d, r0, h, hp⟩
/-- the results at a function's end -/
def finS (o : Option AV) (st : Sto) (r : AV) : Prop := ∃ d r0, o = some r0 ∧ peek st d r0 = some r
theorem finS_of {st : Sto} {r0 r : AV} (d : Nat) (h : peek st d r0 = some r) : finS (some r0) st r := ⟨d, r0, rfl, h⟩
theorem finS_fz {st : Sto} {v : AV} (h : fz v = true) : finS (some v) st v := ⟨0, v, rfl, peek_fz h⟩
@[simp] theorem fin_ret {X : Cfg} {rs : List ResultVar} {r : AV} {s : ASt} : fin X rs r .ret s = finS (resAs X s rs) s.st r := by simp [fin, finS]
@[simp] theorem fin_normal {X : Cfg} {rs : List ResultVar} {r : AV} {s : ASt} : fin X rs r .normal s = finS (resAs X s rs) s.st r := by simp [fin, finS]
attribute [simp] resAs resA liftS
theorem peek_of_fz {st : Sto} {d : Nat} {v r : AV} (h : fz v = true) : (peek st d v = some r) = (v = r) := by rw [peek_fz h]; simp
@[simp] theorem peek_9 {st : Sto} {v : AV} : peek st 9 v = if fz v = true then some v else peek1 st (peek st 8) v := rfl
@[simp] theorem peek_8 {st : Sto} {v : AV} : peek st 8 v = if fz v = true then some v else peek1 st (peek st 7) v := rfl
@[simp] theorem peek_7 {st : Sto} {v : AV} : peek st 7 v = if fz v = true then some v else peek1 st (peek st 6) v := rfl
@[simp] theorem peek_6 {st : Sto} {v : AV} : peek st 6 v = if fz v = true then some v else peek1 st (peek st 5) v := rfl
@[simp] theorem peek_5 {st : Sto} {v : AV} : peek st 5 v = if fz v = true then some v else peek1 st (peek st 4) v := rfl
@[simp] theorem peek_4 {st : Sto} {v : AV} : peek st 4 v = if fz v = true then some v else peek1 st (peek st 3) v := rfl
@[simp] theorem peek_3 {st : Sto} {v : AV} : peek st 3 v = if fz v = true then some v else peek1 st (peek st 2) v := rfl
@[simp] theorem peek_2 {st : Sto} {v : AV} : peek st 2 v = if fz v = true then some v else peek1 st (peek st 1) v := rfl
@[simp] theorem peek_1 {st : Sto} {v : AV} : peek st 1 v = if fz v = true then some v else peek1 st (peek st 0) v := rfl
@[simp] theorem peek_0 {st : Sto} {v : AV} : peek st 0 v = if fz v = true then some v else none := rfl
@[simp] theorem mapO_peek {st : Sto} {d : Nat} : ∀ {xs : List AV}, fzL xs = true → mapO (peek st d) xs = some xs
  | [], _ => rfl
  | x :: xs, h => by
    simp only [fzL, Bool.and_eq_true] at h
    simp only [mapO, peek_fz h.1, mapO_peek h.2]
attribute [simp] nz nzL peek1 flat flatL noMaps frz blw blwL blwE blwB
/-- the newest blocks are left, by the number of those that stay -/
theorem less_take {X : Cfg} (hz : FzG X.G) {G0 : Gh} (h0 : G0.σ = []) {s : ASt} {n : Nat} {st : Sto} {l : List (Nat × AV)} (hn : s.n = n) (hst : s.st.take st.length = st) (hb : st.all (blwB st.length) = true)
    (hf : ∀ p ∈ l, s.fr p.1 = p.2 ∧ blw st.length p.2 = true) : Less X G0 s ⟨n, frL l, st⟩ :=
  less_frL hz (st2 := s.st.drop st.length) (by rw [h0]; exact Nat.zero_le _) hn (by conv => lhs; rw [← List.take_append_drop st.length s.st, hst]) hb hf
attribute [-simp] step1
attribute [simp] step1_gs
theorem finS_eq {st : Sto} {v w : AV} (h : v = w) (hw : fz w = true) : finS (some v) st w := by subst h; exact finS_fz hw
end Go.Proofs.YtgpkochbmfhmdaaGreatDoor.Lift
namespace Go.Proofs.YtgpkochbmfhmdaaGreatDoor.Lift
open Go

abbrev Str := List UInt8

/-- how values of a type are abstract values -/
structure Cod (α : Type) where
  enc : α → AV
  dec : AV → Option α
  de : ∀ x, dec (enc x) = some x
  ed : ∀ v x, dec v = some x → v = enc x
  fz : ∀ x, fz (enc x) = true

@[simp] def decStr : AV → Option Str
  | .str s => some s
  | _ => none
@[simp] def encStr (s : Str) : AV := .str s
def cStr : Cod Str := ⟨encStr, decStr, fun _ => rfl, fun v x h => by cases v <;> simp_all, fun _ => rfl⟩
@[simp] def decInt : AV → Option Int
  | .int .i64 n => some n
  | _ => none
@[simp] def encInt (n : Int) : AV := .int .i64 n
def cInt : Cod Int := ⟨encInt, decInt, fun _ => rfl, fun v x h => by
  cases v with
  | int k n => cases k <;> simp_all
  | _ => simp_all, fun _ => rfl⟩
@[simp] def decBool : AV → Option Bool
  | .bool b => some b
  | _ => none
@[simp] def encBool (b : Bool) : AV := .bool b
def cBool : Cod Bool := ⟨encBool, decBool, fun _ => rfl, fun v x h => by cases v <;> simp_all, fun _ => rfl⟩
def decByte : AV → Option UInt8
  | .int .u8 n => if 0 ≤ n ∧ n < 256 then some (UInt8.ofNat n.toNat) else none
  | _ => none
@[simp] def encByte (b : UInt8) : AV := .int .u8 b.toNat
@[simp] theorem decByte_enc (b : UInt8) : decByte (.int .u8 b.toNat) = some b := by
  have := b.toNat_lt
  simp only [decByte]
  rw [if_pos (by omega)]
  simp
@[simp] theorem decByte_0 : decByte (.int .u8 0) = some 0 := rfl
@[simp] theorem decByte_1 : decByte (.int .u8 1) = some 1 := rfl
@[simp] theorem decByte_2 : decByte (.int .u8 2) = some 2 := rfl
@[simp] theorem decByte_3 : decByte (.int .u8 3) = some 3 := rfl
@[simp] theorem decByte_4 : decByte (.int .u8 4) = some 4 := rfl
@[simp] theorem decByte_5 : decByte (.int .u8 5) = some 5 := rfl
@[simp] theorem decByte_6 : decByte (.int .u8 6) = some 6 := rfl
@[simp] theorem decByte_7 : decByte (.int .u8 7) = some 7 := rfl
@[simp] theorem decByte_8 : decByte (.int .u8 8) = some 8 := rfl
@[simp] theorem decByte_9 : decByte (.int .u8 9) = some 9 := rfl
@[simp] theorem decByte_10 : decByte (.int .u8 10) = some 10 := rfl
@[simp] theorem decByte_11 : decByte (.int .u8 11) = some 11 := rfl
@[simp] theorem decByte_12 : decByte (.int .u8 12) = some 12 := rfl
@[simp] theorem decByte_13 : decByte (.int .u8 13) = some 13 := rfl
@[simp] theorem decByte_14 : decByte (.int .u8 14) = some 14 := rfl
@[simp] theorem decByte_15 : decByte (.int .u8 15) = some 15 := rfl
@[simp] theorem decByte_16 : decByte (.int .u8 16) = some 16 := rfl
@[simp] theorem decByte_17 : decByte (.int .u8 17) = some 17 := rfl
@[simp] theorem decByte_18 : decByte (.int .u8 18) = some 18 := rfl
@[simp] theorem decByte_19 : decByte (.int .u8 19) = some 19 := rfl
@[simp] theorem decByte_20 : decByte (.int .u8 20) = some 20 := rfl
@[simp] theorem decByte_21 : decByte (.int .u8 21) = some 21 := rfl
@[simp] theorem decByte_22 : decByte (.int .u8 22) = some 22 := rfl
@[simp] theorem decByte_23 : decByte (.int .u8 23) = some 23 := rfl
@[simp] theorem decByte_24 : decByte (.int .u8 24) = some 24 := rfl
@[simp] theorem decByte_25 : decByte (.int .u8 25) = some 25 := rfl
@[simp] theorem decByte_26 : decByte (.int .u8 26) = some 26 := rfl
@[simp] theorem decByte_27 : decByte (.int .u8 27) = some 27 := rfl
@[simp] theorem decByte_28 : decByte (.int .u8 28) = some 28 := rfl
@[simp] theorem decByte_29 : decByte (.int .u8 29) = some 29 := rfl
@[simp] theorem decByte_30 : decByte (.int .u8 30) = some 30 := rfl
@[simp] theorem decByte_31 : decByte (.int .u8 31) = some 31 := rfl
@[simp] theorem decByte_32 : decByte (.int .u8 32) = some 32 := rfl
@[simp] theorem decByte_33 : decByte (.int .u8 33) = some 33 := rfl
@[simp] theorem decByte_34 : decByte (.int .u8 34) = some 34 := rfl
@[simp] theorem decByte_35 : decByte (.int .u8 35) = some 35 := rfl
@[simp] theorem decByte_36 : decByte (.int .u8 36) = some 36 := rfl
@[simp] theorem decByte_37 : decByte (.int .u8 37) = some 37 := rfl
@[simp] theorem decByte_38 : decByte (.int .u8 38) = some 38 := rfl
@[simp] theorem decByte_39 : decByte (.int .u8 39) = some 39 := rfl
@[simp] theorem decByte_40 : decByte (.int .u8 40) = some 40 := rfl
@[simp] theorem decByte_41 : decByte (.int .u8 41) = some 41 := rfl
@[simp] theorem decByte_42 : decByte (.int .u8 42) = some 42 := rfl
@[simp] theorem decByte_43 : decByte (.int .u8 43) = some 43 := rfl
@[simp] theorem decByte_44 : decByte (.int .u8 44) = some 44 := rfl
@[simp] theorem decByte_45 : decByte (.int .u8 45) = some 45 := rfl
@[simp] theorem decByte_46 : decByte (.int .u8 46) = some 46 := rfl
@[simp] theorem decByte_47 : decByte (.int .u8 47) = some 47 := rfl
@[simp] theorem decByte_48 : decByte (.int .u8 48) = some 48 := rfl
@[simp] theorem decByte_49 : decByte (.int .u8 49) = some 49 := rfl
@[simp] theorem decByte_50 : decByte (.int .u8 50) = some 50 := rfl
@[simp] theorem decByte_51 : decByte (.int .u8 51) = some 51 := rfl
@[simp] theorem decByte_52 : decByte (.int .u8 52) = some 52 := rfl
@[simp] theorem decByte_53 : decByte (.int .u8 53) = some 53 := rfl
@[simp] theorem decByte_54 : decByte (.int .u8 54) = some 54 := rfl
@[simp] theorem decByte_55 : decByte (.int .u8 55) = some 55 := rfl
@[simp] theorem decByte_56 : decByte (.int .u8 56) = some 56 := rfl
@[simp] theorem decByte_57 : decByte (.int .u8 57) = some 57 := rfl
@[simp] theorem decByte_58 : decByte (.int .u8 58) = some 58 := rfl
@[simp] theorem decByte_59 : decByte (.int .u8 59) = some 59 := rfl
@[simp] theorem decByte_60 : decByte (.int .u8 60) = some 60 := rfl
@[simp] theorem decByte_61 : decByte (.int .u8 61) = some 61 := rfl
@[simp] theorem decByte_62 : decByte (.int .u8 62) = some 62 := rfl
@[simp] theorem decByte_63 : decByte (.int .u8 63) = some 63 := rfl
@[simp] theorem decByte_64 : decByte (.int .u8 64) = some 64 := rfl
@[simp] theorem decByte_65 : decByte (.int .u8 65) = some 65 := rfl
@[simp] theorem decByte_66 : decByte (.int .u8 66) = some 66 := rfl
@[simp] theorem decByte_67 : decByte (.int .u8 67) = some 67 := rfl
@[simp] theorem decByte_68 : decByte (.int .u8 68) = some 68 := rfl
@[simp] theorem decByte_69 : decByte (.int .u8 69) = some 69 := rfl
@[simp] theorem decByte_70 : decByte (.int .u8 70) = some 70 := rfl
@[simp] theorem decByte_71 : decByte (.int .u8 71) = some 71 := rfl
@[simp] theorem decByte_72 : decByte (.int .u8 72) = some 72 := rfl
@[simp] theorem decByte_73 : decByte (.int .u8 73) = some 73 := rfl
@[simp] theorem decByte_74 : decByte (.int .u8 74) = some 74 := rfl
@[simp] theorem decByte_75 : decByte (.int .u8 75) = some 75 := rfl
@[simp] theorem decByte_76 : decByte (.int .u8 76) = some 76 := rfl
@[simp] theorem decByte_77 : decByte (.int .u8 77) = some 77 := rfl
@[simp] theorem decByte_78 : decByte (.int .u8 78) = some 78 := rfl
@[simp] theorem decByte_79 : decByte (.int .u8 79) = some 79 := rfl
@[simp] theorem decByte_80 : decByte (.int .u8 80) = some 80 := rfl
@[simp] theorem decByte_81 : decByte (.int .u8 81) = some 81 := rfl
@[simp] theorem decByte_82 : decByte (.int .u8 82) = some 82 := rfl
@[simp] theorem decByte_83 : decByte (.int .u8 83) = some 83 := rfl
@[simp] theorem decByte_84 : decByte (.int .u8 84) = some 84 := rfl
@[simp] theorem decByte_85 : decByte (.int .u8 85) = some 85 := rfl
@[simp] theorem decByte_86 : decByte (.int .u8 86) = some 86 := rfl
@[simp] theorem decByte_87 : decByte (.int .u8 87) = some 87 := rfl
@[simp] theorem decByte_88 : decByte (.int .u8 88) = some 88 := rfl
@[simp] theorem decByte_89 : decByte (.int .u8 89) = some 89 := rfl
@[simp] theorem decByte_90 : decByte (.int .u8 90) = some 90 := rfl
@[simp] theorem decByte_91 : decByte (.int .u8 91) = some 91 := rfl
@[simp] theorem decByte_92 : decByte (.int .u8 92) = some 92 := rfl
@[simp] theorem decByte_93 : decByte (.int .u8 93) = some 93 := rfl
@[simp] theorem decByte_94 : decByte (.int .u8 94) = some 94 := rfl
@[simp] theorem decByte_95 : decByte (.int .u8 95) = some 95 := rfl
@[simp] theorem decByte_96 : decByte (.int .u8 96) = some 96 := rfl
@[simp] theorem decByte_97 : decByte (.int .u8 97) = some 97 := rfl
@[simp] theorem decByte_98 : decByte (.int .u8 98) = some 98 := rfl
@[simp] theorem decByte_99 : decByte (.int .u8 99) = some 99 := rfl
@[simp] theorem decByte_100 : decByte (.int .u8 100) = some 100 := rfl
@[simp] theorem decByte_101 : decByte (.int .u8 101) = some 101 := rfl
@[simp] theorem decByte_102 : decByte (.int .u8 102) = some 102 := rfl
@[simp] theorem decByte_103 : decByte (.int .u8 103) = some 103 := rfl
@[simp] theorem decByte_104 : decByte (.int .u8 104) = some 104 := rfl
@[simp] theorem decByte_105 : decByte (.int .u8 105) = some 105 := rfl
@[simp] theorem decByte_106 : decByte (.int .u8 106) = some 106 := rfl
@[simp] theorem decByte_107 : decByte (.int .u8 107) = some 107 := rfl
@[simp] theorem decByte_108 : decByte (.int .u8 108) = some 108 := rfl
@[simp] theorem decByte_109 : decByte (.int .u8 109) = some 109 := rfl
@[simp] theorem decByte_110 : decByte (.int .u8 110) = some 110 := rfl
@[simp] theorem decByte_111 : decByte (.int .u8 111) = some 111 := rfl
@[simp] theorem decByte_112 : decByte (.int .u8 112) = some 112 := rfl
@[simp] theorem decByte_113 : decByte (.int .u8 113) = some 113 := rfl
@[simp] theorem decByte_114 : decByte (.int .u8 114) = some 114 := rfl
@[simp] theorem decByte_115 : decByte (.int .u8 115) = some 115 := rfl
@[simp] theorem decByte_116 : decByte (.int .u8 116) = some 116 := rfl
@[simp] theorem decByte_117 : decByte (.int .u8 117) = some 117 := rfl
@[simp] theorem decByte_118 : decByte (.int .u8 118) = some 118 := rfl
@[simp] theorem decByte_119 : decByte (.int .u8 119) = some 119 := rfl
@[simp] theorem decByte_120 : decByte (.int .u8 120) = some 120 := rfl
@[simp] theorem decByte_121 : decByte (.int .u8 121) = some 121 := rfl
@[simp] theorem decByte_122 : decByte (.int .u8 122) = some 122 := rfl
@[simp] theorem decByte_123 : decByte (.int .u8 123) = some 123 := rfl
@[simp] theorem decByte_124 : decByte (.int .u8 124) = some 124 := rfl
@[simp] theorem decByte_125 : decByte (.int .u8 125) = some 125 := rfl
@[simp] theorem decByte_126 : decByte (.int .u8 126) = some 126 := rfl
@[simp] theorem decByte_127 : decByte (.int .u8 127) = some 127 := rfl
theorem decByte_ed (v : AV) (x : UInt8) (h : decByte v = some x) : v = encByte x := by
  unfold decByte at h
  split at h
  · split at h
    · rename_i n hn
      cases h
      simp only [encByte, AV.int.injEq, true_and]
      rw [UInt8.toNat_ofNat_of_lt' (by show n.toNat < 256; omega)]
      omega
    · cases h
  · cases h
def cByte : Cod UInt8 := ⟨encByte, decByte, fun b => by simp, decByte_ed, fun _ => rfl⟩

theorem mapO_map {α β : Type} {f : β → Option α} {g : α → β} (h : ∀ x, f (g x) = some x) : ∀ l : List α, mapO f (l.map g) = some l
  | [] => rfl
  | x :: l => by simp [h, mapO_map h l]
theorem mapO_inv {α β : Type} {f : β → Option α} {g : α → β} (h : ∀ v x, f v = some x → v = g x) : ∀ (l : List β) (r : List α), mapO f l = some r → l = r.map g
  | [], r, hr => by cases hr; rfl
  | y :: l, r, hr => by
    simp only [mapO] at hr
    split at hr
    · rename_i a b ha hb
      cases hr
      rw [h _ _ ha, mapO_inv h _ _ hb]
      rfl
    · cases hr
@[simp] theorem mapO_append {α β : Type} (f : α → Option β) : ∀ (l m : List α), mapO f (l ++ m) = match mapO f l, mapO f m with | some a, some b => some (a ++ b) | _, _ => none
  | [], m => by cases h : mapO f m <;> simp [h]
  | x :: l, m => by
    simp only [List.cons_append, mapO, mapO_append f l m]
    cases f x <;> cases mapO f l <;> cases mapO f m <;> simp
@[simp] theorem take_map_length {α β : Type} (f : α → β) (l : List α) : List.take l.length (l.map f) = l.map f := List.take_of_length_le (by simp)
theorem fzL_map {α : Type} {g : α → AV} (h : ∀ x, fz (g x) = true) : ∀ l : List α, fzL (l.map g) = true
  | [] => rfl
  | x :: l => by simp [fzL, h, fzL_map h l]
@[simp] theorem fzL_append : ∀ (l m : List AV), fzL (l ++ m) = (fzL l && fzL m)
  | [], m => by simp [fzL]
  | x :: l, m => by simp [fzL, fzL_append l m, Bool.and_assoc]

mutual
theorem fz_blw {k : Nat} : ∀ {v : AV}, fz v = true → blw k v = true
  | .undef, h => rfl
  | .bool _, h => rfl
  | .int .., h => rfl
  | .str _, h => rfl
  | .nilp, h => rfl
  | .ptr .., h => by cases h
  | .rp x _, h => by simp only [fz] at h; simp only [blw]; exact fz_blw h
  | .snil, h => rfl
  | .sle, h => rfl
  | .sl xs, h => by simp only [fz] at h; simp only [blw]; exact fzL_blw h
  | .sr .., h => by cases h
  | .fn f a b, h => by simp only [fz, Bool.and_eq_true] at h; simp only [blw, Bool.and_eq_true]; exact ⟨fzL_blw h.1, fzL_blw h.2⟩
  | .nilf, h => rfl
  | .nilm, h => rfl
  | .mv es, h => by simp only [fz] at h; simp only [blw]; exact fzE_blw h
  | .mr _, h => by cases h
  | .agg cs, h => by simp only [fz] at h; simp only [blw]; exact fzL_blw h
  | .tup vs, h => by simp only [fz] at h; simp only [blw]; exact fzL_blw h
theorem fzL_blw {k : Nat} : ∀ {l : List AV}, fzL l = true → blwL k l = true
  | [], _ => rfl
  | x :: r, h => by simp only [fzL, Bool.and_eq_true] at h; simp only [blwL, Bool.and_eq_true]; exact ⟨fz_blw h.1, fzL_blw h.2⟩
theorem fzE_blw {k : Nat} : ∀ {l : List (AV × AV)}, fzE l = true → blwE k l = true
  | [], _ => rfl
  | (a, b) :: r, h => by simp only [fzE, Bool.and_eq_true] at h; simp only [blwE, Bool.and_eq_true]; exact ⟨⟨fz_blw h.1.1, fz_blw h.1.2⟩, fzE_blw h.2⟩
end
theorem blwL_map {α : Type} {g : α → AV} (h : ∀ x, fz (g x) = true) (k : Nat) (l : List α) : blwL k (l.map g) = true := fzL_blw (fzL_map h l)
@[simp] theorem blwL_append (k : Nat) : ∀ (l m : List AV), blwL k (l ++ m) = (blwL k l && blwL k m)
  | [], m => by simp [blwL]
  | x :: l, m => by simp [blwL, blwL_append k l m, Bool.and_assoc]
def decL {α : Type} (f : AV → Option α) : AV → Option (List α)
  | .sl l => mapO f l
  | _ => none
def encL {α : Type} (g : α → AV) (l : List α) : AV := .sl (l.map g)
@[simp] theorem decL_sl {α : Type} (f : AV → Option α) (l : List AV) : decL f (.sl l) = mapO f l := rfl
def cL {α : Type} (c : Cod α) : Cod (List α) := ⟨encL c.enc, decL c.dec, fun l => mapO_map c.de l, fun v x h => by
  cases v <;> first | (cases h; done) | exact congrArg AV.sl (mapO_inv c.ed _ _ h)
  , fun l => by simp [encL, Lift.fz, fzL_map c.fz]⟩

section
variable {α β γ δ ε : Type}
/-- pure contracts of one, two, .. arguments -/
def fn0 (er : ε → AV) (g : Option ε) : List AV → Option AV
  | [] => g.map er
  | _ => none
def fn1 (ca : Cod α) (er : ε → AV) (g : α → Option ε) : List AV → Option AV
  | [x] => (ca.dec x).bind fun a => (g a).map er
  | _ => none
def fn2 (ca : Cod α) (cb : Cod β) (er : ε → AV) (g : α → β → Option ε) : List AV → Option AV
  | [x, y] => (ca.dec x).bind fun a => (cb.dec y).bind fun b => (g a b).map er
  | _ => none
def fn3 (ca : Cod α) (cb : Cod β) (cc : Cod γ) (er : ε → AV) (g : α → β → γ → Option ε) : List AV → Option AV
  | [x, y, z] => (ca.dec x).bind fun a => (cb.dec y).bind fun b => (cc.dec z).bind fun c => (g a b c).map er
  | _ => none
def fn4 (ca : Cod α) (cb : Cod β) (cc : Cod γ) (cd : Cod δ) (er : ε → AV) (g : α → β → γ → δ → Option ε) : List AV → Option AV
  | [x, y, z, w] => (ca.dec x).bind fun a => (cb.dec y).bind fun b => (cc.dec z).bind fun c => (cd.dec w).bind fun d => (g a b c d).map er
  | _ => none
variable {ca : Cod α} {cb : Cod β} {cc : Cod γ} {cd : Cod δ} {er : ε → AV}
@[simp] theorem fn0_eq {g : Option ε} : fn0 er g [] = g.map er := rfl
@[simp] theorem fn1_eq {g : α → Option ε} {x : AV} : fn1 ca er g [x] = (ca.dec x).bind fun a => (g a).map er := rfl
@[simp] theorem fn2_eq {g : α → β → Option ε} {x y : AV} : fn2 ca cb er g [x, y] = (ca.dec x).bind fun a => (cb.dec y).bind fun b => (g a b).map er := rfl
@[simp] theorem fn3_eq {g : α → β → γ → Option ε} {x y z : AV} : fn3 ca cb cc er g [x, y, z] = (ca.dec x).bind fun a => (cb.dec y).bind fun b => (cc.dec z).bind fun c => (g a b c).map er := rfl
@[simp] theorem fn4_eq {g : α → β → γ → δ → Option ε} {x y z w : AV} : fn4 ca cb cc cd er g [x, y, z, w] = (ca.dec x).bind fun a => (cb.dec y).bind fun b => (cc.dec z).bind fun c => (cd.dec w).bind fun d => (g a b c d).map er := rfl
theorem fn1_inv {g : α → Option ε} {args : List AV} {r : AV} (h : fn1 ca er g args = some r) : ∃ a e, args = [ca.enc a] ∧ g a = some e ∧ r = er e := by
  unfold fn1 at h
  split at h
  · simp only [Option.bind_eq_some_iff, Option.map_eq_some_iff] at h
    obtain ⟨a, ha, e, he, rfl⟩ := h
    exact ⟨a, e, by rw [ca.ed _ _ ha], he, rfl⟩
  · cases h
theorem fn2_inv {g : α → β → Option ε} {args : List AV} {r : AV} (h : fn2 ca cb er g args = some r) : ∃ a b e, args = [ca.enc a, cb.enc b] ∧ g a b = some e ∧ r = er e := by
  unfold fn2 at h
  split at h
  · simp only [Option.bind_eq_some_iff, Option.map_eq_some_iff] at h
    obtain ⟨a, ha, b, hb, e, he, rfl⟩ := h
    exact ⟨a, b, e, by rw [ca.ed _ _ ha, cb.ed _ _ hb], he, rfl⟩
  · cases h
theorem fn3_inv {g : α → β → γ → Option ε} {args : List AV} {r : AV} (h : fn3 ca cb cc er g args = some r) : ∃ a b c e, args = [ca.enc a, cb.enc b, cc.enc c] ∧ g a b c = some e ∧ r = er e := by
  unfold fn3 at h
  split at h
  · simp only [Option.bind_eq_some_iff, Option.map_eq_some_iff] at h
    obtain ⟨a, ha, b, hb, c, hc, e, he, rfl⟩ := h
    exact ⟨a, b, c, e, by rw [ca.ed _ _ ha, cb.ed _ _ hb, cc.ed _ _ hc], he, rfl⟩
  · cases h
theorem fn4_inv {g : α → β → γ → δ → Option ε} {args : List AV} {r : AV} (h : fn4 ca cb cc cd er g args = some r) : ∃ a b c d e, args = [ca.enc a, cb.enc b, cc.enc c, cd.enc d] ∧ g a b c d = some e ∧ r = er e := by
  unfold fn4 at h
  split at h
  · simp only [Option.bind_eq_some_iff, Option.map_eq_some_iff] at h
    obtain ⟨a, ha, b, hb, c, hc, d, hd, e, he, rfl⟩ := h
    exact ⟨a, b, c, d, e, by rw [ca.ed _ _ ha, cb.ed _ _ hb, cc.ed _ _ hc, cd.ed _ _ hd], he, rfl⟩
  · cases h
theorem fn0_inv {g : Option ε} {args : List AV} {r : AV} (h : fn0 er g args = some r) : ∃ e, args = [] ∧ g = some e ∧ r = er e := by
  unfold fn0 at h
  split at h
  · obtain ⟨e, he, rfl⟩ := Option.map_eq_some_iff.1 h
    exact ⟨e, rfl, he, rfl⟩
  · cases h
end

/-- a pure contract from the walk of its body -/
theorem soundP_of_wk {P : Program} {X : Cfg} (ok : OkX P X) (hm : P.follows .mixedOrders = true) {f : Nat} {fn : Func} (hf : P.funcs[f]? = some fn) (hb : fn.body.isSome = true) (hn : (fn.name == "runtime.NumGoroutine") = false) {g : List AV → Option AV}
    (h : ∀ args r, g args = some r → ∀ G0 : { G : Gh // G.σ = [] }, wk P X G0.1 (fin X fn.results.toList r) (fn.body.get hb) [] (entry fn args [])) (hX : X.J = noFoe := by rfl) : SoundP P X.G f g :=
  soundP_of_ev ok.T hf (c := fn.body.get hb) (by simp) hn (fun args r hr G0 => ev_of_wk ok hm (h args r hr G0)) hX

end Go.Proofs.YtgpkochbmfhmdaaGreatDoor.Lift
namespace Go.Proofs.YtgpkochbmfhmdaaGreatDoor.Lift
open Go

@[simp] theorem cStr_dec : cStr.dec = decStr := rfl
@[simp] theorem cStr_enc : cStr.enc = encStr := rfl
@[simp] theorem cInt_dec : cInt.dec = decInt := rfl
@[simp] theorem cInt_enc : cInt.enc = encInt := rfl
@[simp] theorem cBool_dec : cBool.dec = decBool := rfl
@[simp] theorem cBool_enc : cBool.enc = encBool := rfl
@[simp] theorem cByte_dec : cByte.dec = decByte := rfl
@[simp] theorem cByte_enc : cByte.enc = encByte := rfl
@[simp] theorem cL_dec {α : Type} (c : Cod α) : (cL c).dec = decL c.dec := rfl
@[simp] theorem cL_enc {α : Type} (c : Cod α) : (cL c).enc = encL c.enc := rfl
attribute [simp] encL fz fzL

@[simp] theorem mapO_Str (l : List Str) : mapO decStr (l.map encStr) = some l := mapO_map (by simp) l
@[simp] theorem fzL_Str (l : List Str) : fzL (l.map encStr) = true := fzL_map (fun _ => rfl) l
@[simp] theorem blwL_Str (k : Nat) (l : List Str) : blwL k (l.map encStr) = true := blwL_map (fun _ => rfl) k l

@[simp] theorem mapO_Int (l : List Int) : mapO decInt (l.map encInt) = some l := mapO_map (by simp) l
@[simp] theorem fzL_Int (l : List Int) : fzL (l.map encInt) = true := fzL_map (fun _ => rfl) l
@[simp] theorem blwL_Int (k : Nat) (l : List Int) : blwL k (l.map encInt) = true := blwL_map (fun _ => rfl) k l

@[simp] theorem mapO_Bool (l : List Bool) : mapO decBool (l.map encBool) = some l := mapO_map (by simp) l
@[simp] theorem fzL_Bool (l : List Bool) : fzL (l.map encBool) = true := fzL_map (fun _ => rfl) l
@[simp] theorem blwL_Bool (k : Nat) (l : List Bool) : blwL k (l.map encBool) = true := blwL_map (fun _ => rfl) k l

@[simp] theorem mapO_Byte (l : List UInt8) : mapO decByte (l.map encByte) = some l := mapO_map (by simp) l
@[simp] theorem fzL_Byte (l : List UInt8) : fzL (l.map encByte) = true := fzL_map (fun _ => rfl) l
@[simp] theorem blwL_Byte (k : Nat) (l : List UInt8) : blwL k (l.map encByte) = true := blwL_map (fun _ => rfl) k l

structure ARecord where
  epoch : Int
  data : Str
  deriving DecidableEq, Inhabited

@[simp] def encRecord (x : ARecord) : AV := .agg [.int .i64 x.epoch, .str x.data]

@[simp] def decRecord : AV → Option ARecord
  | .agg [.int .i64 epoch, .str data] => some ⟨epoch, data⟩
  | _ => none

theorem edRecord (v : AV) (x : ARecord) (h : decRecord v = some x) : v = encRecord x := by
  unfold decRecord at h
  split at h
  · cases h; rfl
  · cases h

def cRecord : Cod ARecord := ⟨encRecord, decRecord, fun x => by simp, edRecord, fun x => by simp⟩
@[simp] theorem cRecord_dec : cRecord.dec = decRecord := rfl
@[simp] theorem cRecord_enc : cRecord.enc = encRecord := rfl
@[simp] theorem mapO_Record (l : List ARecord) : mapO decRecord (l.map encRecord) = some l := mapO_map cRecord.de l
@[simp] theorem fzL_Record (l : List ARecord) : fzL (l.map encRecord) = true := fzL_map cRecord.fz l
@[simp] theorem blwL_Record (k : Nat) (l : List ARecord) : blwL k (l.map encRecord) = true := blwL_map cRecord.fz k l

structure AEntry where
  tag : Int
  text : Str
  n : Int
  a : Int
  b : Int
  deriving DecidableEq, Inhabited

@[simp] def encEntry (x : AEntry) : AV := .agg [.int .i64 x.tag, .str x.text, .int .i64 x.n, .int .i64 x.a, .int .i64 x.b]

@[simp] def decEntry : AV → Option AEntry
  | .agg [.int .i64 tag, .str text, .int .i64 n, .int .i64 a, .int .i64 b] => some ⟨tag, text, n, a, b⟩
  | _ => none

theorem edEntry (v : AV) (x : AEntry) (h : decEntry v = some x) : v = encEntry x := by
  unfold decEntry at h
  split at h
  · cases h; rfl
  · cases h

def cEntry : Cod AEntry := ⟨encEntry, decEntry, fun x => by simp, edEntry, fun x => by simp⟩
@[simp] theorem cEntry_dec : cEntry.dec = decEntry := rfl
@[simp] theorem cEntry_enc : cEntry.enc = encEntry := rfl
@[simp] theorem mapO_Entry (l : List AEntry) : mapO decEntry (l.map encEntry) = some l := mapO_map cEntry.de l
@[simp] theorem fzL_Entry (l : List AEntry) : fzL (l.map encEntry) = true := fzL_map cEntry.fz l
@[simp] theorem blwL_Entry (k : Nat) (l : List AEntry) : blwL k (l.map encEntry) = true := blwL_map cEntry.fz k l

structure AConst where
  tag : Int
  n : Int
  cls : Str
  name : Str
  type : Str
  deriving DecidableEq, Inhabited

@[simp] def encConst (x : AConst) : AV := .agg [.int .i64 x.tag, .int .i64 x.n, .str x.cls, .str x.name, .str x.type]

@[simp] def decConst : AV → Option AConst
  | .agg [.int .i64 tag, .int .i64 n, .str cls, .str name, .str type] => some ⟨tag, n, cls, name, type⟩
  | _ => none

theorem edConst (v : AV) (x : AConst) (h : decConst v = some x) : v = encConst x := by
  unfold decConst at h
  split at h
  · cases h; rfl
  · cases h

def cConst : Cod AConst := ⟨encConst, decConst, fun x => by simp, edConst, fun x => by simp⟩
@[simp] theorem cConst_dec : cConst.dec = decConst := rfl
@[simp] theorem cConst_enc : cConst.enc = encConst := rfl
@[simp] theorem mapO_Const (l : List AConst) : mapO decConst (l.map encConst) = some l := mapO_map cConst.de l
@[simp] theorem fzL_Const (l : List AConst) : fzL (l.map encConst) = true := fzL_map cConst.fz l
@[simp] theorem blwL_Const (k : Nat) (l : List AConst) : blwL k (l.map encConst) = true := blwL_map cConst.fz k l

structure ATy where
  kind : Int
  name : Str
  deriving DecidableEq, Inhabited

@[simp] def encTy (x : ATy) : AV := .agg [.int .i64 x.kind, .str x.name]

@[simp] def decTy : AV → Option ATy
  | .agg [.int .i64 kind, .str name] => some ⟨kind, name⟩
  | _ => none

theorem edTy (v : AV) (x : ATy) (h : decTy v = some x) : v = encTy x := by
  unfold decTy at h
  split at h
  · cases h; rfl
  · cases h

def cTy : Cod ATy := ⟨encTy, decTy, fun x => by simp, edTy, fun x => by simp⟩
@[simp] theorem cTy_dec : cTy.dec = decTy := rfl
@[simp] theorem cTy_enc : cTy.enc = encTy := rfl
@[simp] theorem mapO_Ty (l : List ATy) : mapO decTy (l.map encTy) = some l := mapO_map cTy.de l
@[simp] theorem fzL_Ty (l : List ATy) : fzL (l.map encTy) = true := fzL_map cTy.fz l
@[simp] theorem blwL_Ty (k : Nat) (l : List ATy) : blwL k (l.map encTy) = true := blwL_map cTy.fz k l

structure AMap where
  at_ : Int
  locals : List ATy
  stack : List ATy
  deriving DecidableEq, Inhabited

@[simp] def encMap (x : AMap) : AV := .agg [.int .i64 x.at_, .sl (x.locals.map encTy), .sl (x.stack.map encTy)]

@[simp] def decMap : AV → Option AMap
  | .agg [.int .i64 at_, .sl locals, .sl stack] => (mapO decTy locals).bind fun locals => (mapO decTy stack).bind fun stack => some ⟨at_, locals, stack⟩
  | _ => none

theorem edMap (v : AV) (x : AMap) (h : decMap v = some x) : v = encMap x := by
  unfold decMap at h
  split at h
  · simp only [Option.bind_eq_some_iff, Option.some.injEq] at h
    obtain ⟨q_locals, h_locals, q_stack, h_stack, rfl⟩ := h
    simp only [encMap, ← mapO_inv edTy _ _ h_locals, ← mapO_inv edTy _ _ h_stack]
  · cases h

def cMap : Cod AMap := ⟨encMap, decMap, fun x => by simp, edMap, fun x => by simp⟩
@[simp] theorem cMap_dec : cMap.dec = decMap := rfl
@[simp] theorem cMap_enc : cMap.enc = encMap := rfl
@[simp] theorem mapO_Map (l : List AMap) : mapO decMap (l.map encMap) = some l := mapO_map cMap.de l
@[simp] theorem fzL_Map (l : List AMap) : fzL (l.map encMap) = true := fzL_map cMap.fz l
@[simp] theorem blwL_Map (k : Nat) (l : List AMap) : blwL k (l.map encMap) = true := blwL_map cMap.fz k l

structure AHandler where
  from_ : Int
  to : Int
  at_ : Int
  cls : Int
  deriving DecidableEq, Inhabited

@[simp] def encHandler (x : AHandler) : AV := .agg [.int .i64 x.from_, .int .i64 x.to, .int .i64 x.at_, .int .i64 x.cls]

@[simp] def decHandler : AV → Option AHandler
  | .agg [.int .i64 from_, .int .i64 to, .int .i64 at_, .int .i64 cls] => some ⟨from_, to, at_, cls⟩
  | _ => none

theorem edHandler (v : AV) (x : AHandler) (h : decHandler v = some x) : v = encHandler x := by
  unfold decHandler at h
  split at h
  · cases h; rfl
  · cases h

def cHandler : Cod AHandler := ⟨encHandler, decHandler, fun x => by simp, edHandler, fun x => by simp⟩
@[simp] theorem cHandler_dec : cHandler.dec = decHandler := rfl
@[simp] theorem cHandler_enc : cHandler.enc = encHandler := rfl
@[simp] theorem mapO_Handler (l : List AHandler) : mapO decHandler (l.map encHandler) = some l := mapO_map cHandler.de l
@[simp] theorem fzL_Handler (l : List AHandler) : fzL (l.map encHandler) = true := fzL_map cHandler.fz l
@[simp] theorem blwL_Handler (k : Nat) (l : List AHandler) : blwL k (l.map encHandler) = true := blwL_map cHandler.fz k l

structure ACode where
  stack : Int
  locals : Int
  bytes : List UInt8
  handlers : List AHandler
  maps : List AMap
  deriving DecidableEq, Inhabited

@[simp] def encCode (x : ACode) : AV := .agg [.int .i64 x.stack, .int .i64 x.locals, .sl (x.bytes.map encByte), .sl (x.handlers.map encHandler), .sl (x.maps.map encMap)]

@[simp] def decCode : AV → Option ACode
  | .agg [.int .i64 stack, .int .i64 locals, .sl bytes, .sl handlers, .sl maps] => (mapO decByte bytes).bind fun bytes => (mapO decHandler handlers).bind fun handlers => (mapO decMap maps).bind fun maps => some ⟨stack, locals, bytes, handlers, maps⟩
  | _ => none

theorem edCode (v : AV) (x : ACode) (h : decCode v = some x) : v = encCode x := by
  unfold decCode at h
  split at h
  · simp only [Option.bind_eq_some_iff, Option.some.injEq] at h
    obtain ⟨q_bytes, h_bytes, q_handlers, h_handlers, q_maps, h_maps, rfl⟩ := h
    simp only [encCode, ← mapO_inv decByte_ed _ _ h_bytes, ← mapO_inv edHandler _ _ h_handlers, ← mapO_inv edMap _ _ h_maps]
  · cases h

def cCode : Cod ACode := ⟨encCode, decCode, fun x => by simp, edCode, fun x => by simp⟩
@[simp] theorem cCode_dec : cCode.dec = decCode := rfl
@[simp] theorem cCode_enc : cCode.enc = encCode := rfl
@[simp] theorem mapO_Code (l : List ACode) : mapO decCode (l.map encCode) = some l := mapO_map cCode.de l
@[simp] theorem fzL_Code (l : List ACode) : fzL (l.map encCode) = true := fzL_map cCode.fz l
@[simp] theorem blwL_Code (k : Nat) (l : List ACode) : blwL k (l.map encCode) = true := blwL_map cCode.fz k l

structure AField where
  access : Int
  name : Str
  type : Str
  deriving DecidableEq, Inhabited

@[simp] def encField (x : AField) : AV := .agg [.int .i64 x.access, .str x.name, .str x.type]

@[simp] def decField : AV → Option AField
  | .agg [.int .i64 access, .str name, .str type] => some ⟨access, name, type⟩
  | _ => none

theorem edField (v : AV) (x : AField) (h : decField v = some x) : v = encField x := by
  unfold decField at h
  split at h
  · cases h; rfl
  · cases h

def cField : Cod AField := ⟨encField, decField, fun x => by simp, edField, fun x => by simp⟩
@[simp] theorem cField_dec : cField.dec = decField := rfl
@[simp] theorem cField_enc : cField.enc = encField := rfl
@[simp] theorem mapO_Field (l : List AField) : mapO decField (l.map encField) = some l := mapO_map cField.de l
@[simp] theorem fzL_Field (l : List AField) : fzL (l.map encField) = true := fzL_map cField.fz l
@[simp] theorem blwL_Field (k : Nat) (l : List AField) : blwL k (l.map encField) = true := blwL_map cField.fz k l

structure AMethod where
  access : Int
  name : Str
  type : Str
  code : ACode
  deriving DecidableEq, Inhabited

@[simp] def encMethod (x : AMethod) : AV := .agg [.int .i64 x.access, .str x.name, .str x.type, .int .i64 x.code.stack, .int .i64 x.code.locals, .sl (x.code.bytes.map encByte), .sl (x.code.handlers.map encHandler), .sl (x.code.maps.map encMap)]

@[simp] def decMethod : AV → Option AMethod
  | .agg [.int .i64 access, .str name, .str type, .int .i64 code_stack, .int .i64 code_locals, .sl code_bytes, .sl code_handlers, .sl code_maps] => (mapO decByte code_bytes).bind fun code_bytes => (mapO decHandler code_handlers).bind fun code_handlers => (mapO decMap code_maps).bind fun code_maps => some ⟨access, name, type, ⟨code_stack, code_locals, code_bytes, code_handlers, code_maps⟩⟩
  | _ => none

theorem edMethod (v : AV) (x : AMethod) (h : decMethod v = some x) : v = encMethod x := by
  unfold decMethod at h
  split at h
  · simp only [Option.bind_eq_some_iff, Option.some.injEq] at h
    obtain ⟨q_code_bytes, h_code_bytes, q_code_handlers, h_code_handlers, q_code_maps, h_code_maps, rfl⟩ := h
    simp only [encMethod, ← mapO_inv decByte_ed _ _ h_code_bytes, ← mapO_inv edHandler _ _ h_code_handlers, ← mapO_inv edMap _ _ h_code_maps]
  · cases h

def cMethod : Cod AMethod := ⟨encMethod, decMethod, fun x => by simp, edMethod, fun x => by simp⟩
@[simp] theorem cMethod_dec : cMethod.dec = decMethod := rfl
@[simp] theorem cMethod_enc : cMethod.enc = encMethod := rfl
@[simp] theorem mapO_Method (l : List AMethod) : mapO decMethod (l.map encMethod) = some l := mapO_map cMethod.de l
@[simp] theorem fzL_Method (l : List AMethod) : fzL (l.map encMethod) = true := fzL_map cMethod.fz l
@[simp] theorem blwL_Method (k : Nat) (l : List AMethod) : blwL k (l.map encMethod) = true := blwL_map cMethod.fz k l

structure AClass where
  pool : List AEntry
  name : Str
  super : Str
  fields : List AField
  methods : List AMethod
  deriving DecidableEq, Inhabited

@[simp] def encClass (x : AClass) : AV := .agg [.sl (x.pool.map encEntry), .str x.name, .str x.super, .sl (x.fields.map encField), .sl (x.methods.map encMethod)]

@[simp] def decClass : AV → Option AClass
  | .agg [.sl pool, .str name, .str super, .sl fields, .sl methods] => (mapO decEntry pool).bind fun pool => (mapO decField fields).bind fun fields => (mapO decMethod methods).bind fun methods => some ⟨pool, name, super, fields, methods⟩
  | _ => none

theorem edClass (v : AV) (x : AClass) (h : decClass v = some x) : v = encClass x := by
  unfold decClass at h
  split at h
  · simp only [Option.bind_eq_some_iff, Option.some.injEq] at h
    obtain ⟨q_pool, h_pool, q_fields, h_fields, q_methods, h_methods, rfl⟩ := h
    simp only [encClass, ← mapO_inv edEntry _ _ h_pool, ← mapO_inv edField _ _ h_fields, ← mapO_inv edMethod _ _ h_methods]
  · cases h

def cClass : Cod AClass := ⟨encClass, decClass, fun x => by simp, edClass, fun x => by simp⟩
@[simp] theorem cClass_dec : cClass.dec = decClass := rfl
@[simp] theorem cClass_enc : cClass.enc = encClass := rfl
@[simp] theorem mapO_Class (l : List AClass) : mapO decClass (l.map encClass) = some l := mapO_map cClass.de l
@[simp] theorem fzL_Class (l : List AClass) : fzL (l.map encClass) = true := fzL_map cClass.fz l
@[simp] theorem blwL_Class (k : Nat) (l : List AClass) : blwL k (l.map encClass) = true := blwL_map cClass.fz k l

structure ACase where
  key : Int
  to : Int
  deriving DecidableEq, Inhabited

@[simp] def encCase (x : ACase) : AV := .agg [.int .i64 x.key, .int .i64 x.to]

@[simp] def decCase : AV → Option ACase
  | .agg [.int .i64 key, .int .i64 to] => some ⟨key, to⟩
  | _ => none

theorem edCase (v : AV) (x : ACase) (h : decCase v = some x) : v = encCase x := by
  unfold decCase at h
  split at h
  · cases h; rfl
  · cases h

def cCase : Cod ACase := ⟨encCase, decCase, fun x => by simp, edCase, fun x => by simp⟩
@[simp] theorem cCase_dec : cCase.dec = decCase := rfl
@[simp] theorem cCase_enc : cCase.enc = encCase := rfl
@[simp] theorem mapO_Case (l : List ACase) : mapO decCase (l.map encCase) = some l := mapO_map cCase.de l
@[simp] theorem fzL_Case (l : List ACase) : fzL (l.map encCase) = true := fzL_map cCase.fz l
@[simp] theorem blwL_Case (k : Nat) (l : List ACase) : blwL k (l.map encCase) = true := blwL_map cCase.fz k l

structure AInstr where
  at_ : Int
  op : Int
  a : Int
  b : Int
  cases : List ACase
  deriving DecidableEq, Inhabited

@[simp] def encInstr (x : AInstr) : AV := .agg [.int .i64 x.at_, .int .i64 x.op, .int .i64 x.a, .int .i64 x.b, .sl (x.cases.map encCase)]

@[simp] def decInstr : AV → Option AInstr
  | .agg [.int .i64 at_, .int .i64 op, .int .i64 a, .int .i64 b, .sl cases] => (mapO decCase cases).bind fun cases => some ⟨at_, op, a, b, cases⟩
  | _ => none

theorem edInstr (v : AV) (x : AInstr) (h : decInstr v = some x) : v = encInstr x := by
  unfold decInstr at h
  split at h
  · simp only [Option.bind_eq_some_iff, Option.some.injEq] at h
    obtain ⟨q_cases, h_cases, rfl⟩ := h
    simp only [encInstr, ← mapO_inv edCase _ _ h_cases]
  · cases h

def cInstr : Cod AInstr := ⟨encInstr, decInstr, fun x => by simp, edInstr, fun x => by simp⟩
@[simp] theorem cInstr_dec : cInstr.dec = decInstr := rfl
@[simp] theorem cInstr_enc : cInstr.enc = encInstr := rfl
@[simp] theorem mapO_Instr (l : List AInstr) : mapO decInstr (l.map encInstr) = some l := mapO_map cInstr.de l
@[simp] theorem fzL_Instr (l : List AInstr) : fzL (l.map encInstr) = true := fzL_map cInstr.fz l
@[simp] theorem blwL_Instr (k : Nat) (l : List AInstr) : blwL k (l.map encInstr) = true := blwL_map cInstr.fz k l

structure AFrame where
  locals : List ATy
  stack : List ATy
  deriving DecidableEq, Inhabited

@[simp] def encFrame (x : AFrame) : AV := .agg [.sl (x.locals.map encTy), .sl (x.stack.map encTy)]

@[simp] def decFrame : AV → Option AFrame
  | .agg [.sl locals, .sl stack] => (mapO decTy locals).bind fun locals => (mapO decTy stack).bind fun stack => some ⟨locals, stack⟩
  | _ => none

theorem edFrame (v : AV) (x : AFrame) (h : decFrame v = some x) : v = encFrame x := by
  unfold decFrame at h
  split at h
  · simp only [Option.bind_eq_some_iff, Option.some.injEq] at h
    obtain ⟨q_locals, h_locals, q_stack, h_stack, rfl⟩ := h
    simp only [encFrame, ← mapO_inv edTy _ _ h_locals, ← mapO_inv edTy _ _ h_stack]
  · cases h

def cFrame : Cod AFrame := ⟨encFrame, decFrame, fun x => by simp, edFrame, fun x => by simp⟩
@[simp] theorem cFrame_dec : cFrame.dec = decFrame := rfl
@[simp] theorem cFrame_enc : cFrame.enc = encFrame := rfl
@[simp] theorem mapO_Frame (l : List AFrame) : mapO decFrame (l.map encFrame) = some l := mapO_map cFrame.de l
@[simp] theorem fzL_Frame (l : List AFrame) : fzL (l.map encFrame) = true := fzL_map cFrame.fz l
@[simp] theorem blwL_Frame (k : Nat) (l : List AFrame) : blwL k (l.map encFrame) = true := blwL_map cFrame.fz k l

structure AVal where
  kind : Int
  n : Int
  deriving DecidableEq, Inhabited

@[simp] def encVal (x : AVal) : AV := .agg [.int .i64 x.kind, .int .i64 x.n]

@[simp] def decVal : AV → Option AVal
  | .agg [.int .i64 kind, .int .i64 n] => some ⟨kind, n⟩
  | _ => none

theorem edVal (v : AV) (x : AVal) (h : decVal v = some x) : v = encVal x := by
  unfold decVal at h
  split at h
  · cases h; rfl
  · cases h

def cVal : Cod AVal := ⟨encVal, decVal, fun x => by simp, edVal, fun x => by simp⟩
@[simp] theorem cVal_dec : cVal.dec = decVal := rfl
@[simp] theorem cVal_enc : cVal.enc = encVal := rfl
@[simp] theorem mapO_Val (l : List AVal) : mapO decVal (l.map encVal) = some l := mapO_map cVal.de l
@[simp] theorem fzL_Val (l : List AVal) : fzL (l.map encVal) = true := fzL_map cVal.fz l
@[simp] theorem blwL_Val (k : Nat) (l : List AVal) : blwL k (l.map encVal) = true := blwL_map cVal.fz k l

structure AObject where
  type : Str
  words : List AVal
  deriving DecidableEq, Inhabited

@[simp] def encObject (x : AObject) : AV := .agg [.str x.type, .sl (x.words.map encVal)]

@[simp] def decObject : AV → Option AObject
  | .agg [.str type, .sl words] => (mapO decVal words).bind fun words => some ⟨type, words⟩
  | _ => none

theorem edObject (v : AV) (x : AObject) (h : decObject v = some x) : v = encObject x := by
  unfold decObject at h
  split at h
  · simp only [Option.bind_eq_some_iff, Option.some.injEq] at h
    obtain ⟨q_words, h_words, rfl⟩ := h
    simp only [encObject, ← mapO_inv edVal _ _ h_words]
  · cases h

def cObject : Cod AObject := ⟨encObject, decObject, fun x => by simp, edObject, fun x => by simp⟩
@[simp] theorem cObject_dec : cObject.dec = decObject := rfl
@[simp] theorem cObject_enc : cObject.enc = encObject := rfl
@[simp] theorem mapO_Object (l : List AObject) : mapO decObject (l.map encObject) = some l := mapO_map cObject.de l
@[simp] theorem fzL_Object (l : List AObject) : fzL (l.map encObject) = true := fzL_map cObject.fz l
@[simp] theorem blwL_Object (k : Nat) (l : List AObject) : blwL k (l.map encObject) = true := blwL_map cObject.fz k l

structure ACallF where
  cls : Int
  method : Int
  at_ : Int
  locals : List AVal
  stack : List AVal
  lock : Int
  deriving DecidableEq, Inhabited

@[simp] def encCallF (x : ACallF) : AV := .agg [.int .i64 x.cls, .int .i64 x.method, .int .i64 x.at_, .sl (x.locals.map encVal), .sl (x.stack.map encVal), .int .i64 x.lock]

@[simp] def decCallF : AV → Option ACallF
  | .agg [.int .i64 cls, .int .i64 method, .int .i64 at_, .sl locals, .sl stack, .int .i64 lock] => (mapO decVal locals).bind fun locals => (mapO decVal stack).bind fun stack => some ⟨cls, method, at_, locals, stack, lock⟩
  | _ => none

theorem edCallF (v : AV) (x : ACallF) (h : decCallF v = some x) : v = encCallF x := by
  unfold decCallF at h
  split at h
  · simp only [Option.bind_eq_some_iff, Option.some.injEq] at h
    obtain ⟨q_locals, h_locals, q_stack, h_stack, rfl⟩ := h
    simp only [encCallF, ← mapO_inv edVal _ _ h_locals, ← mapO_inv edVal _ _ h_stack]
  · cases h

def cCallF : Cod ACallF := ⟨encCallF, decCallF, fun x => by simp, edCallF, fun x => by simp⟩
@[simp] theorem cCallF_dec : cCallF.dec = decCallF := rfl
@[simp] theorem cCallF_enc : cCallF.enc = encCallF := rfl
@[simp] theorem mapO_CallF (l : List ACallF) : mapO decCallF (l.map encCallF) = some l := mapO_map cCallF.de l
@[simp] theorem fzL_CallF (l : List ACallF) : fzL (l.map encCallF) = true := fzL_map cCallF.fz l
@[simp] theorem blwL_CallF (k : Nat) (l : List ACallF) : blwL k (l.map encCallF) = true := blwL_map cCallF.fz k l

structure AThread where
  state : Int
  calls : List ACallF
  on : Int
  count : Int
  deriving DecidableEq, Inhabited

@[simp] def encThread (x : AThread) : AV := .agg [.int .i64 x.state, .sl (x.calls.map encCallF), .int .i64 x.on, .int .i64 x.count]

@[simp] def decThread : AV → Option AThread
  | .agg [.int .i64 state, .sl calls, .int .i64 on, .int .i64 count] => (mapO decCallF calls).bind fun calls => some ⟨state, calls, on, count⟩
  | _ => none

theorem edThread (v : AV) (x : AThread) (h : decThread v = some x) : v = encThread x := by
  unfold decThread at h
  split at h
  · simp only [Option.bind_eq_some_iff, Option.some.injEq] at h
    obtain ⟨q_calls, h_calls, rfl⟩ := h
    simp only [encThread, ← mapO_inv edCallF _ _ h_calls]
  · cases h

def cThread : Cod AThread := ⟨encThread, decThread, fun x => by simp, edThread, fun x => by simp⟩
@[simp] theorem cThread_dec : cThread.dec = decThread := rfl
@[simp] theorem cThread_enc : cThread.enc = encThread := rfl
@[simp] theorem mapO_Thread (l : List AThread) : mapO decThread (l.map encThread) = some l := mapO_map cThread.de l
@[simp] theorem fzL_Thread (l : List AThread) : fzL (l.map encThread) = true := fzL_map cThread.fz l
@[simp] theorem blwL_Thread (k : Nat) (l : List AThread) : blwL k (l.map encThread) = true := blwL_map cThread.fz k l

structure AMonitor where
  object : Int
  owner : Int
  count : Int
  deriving DecidableEq, Inhabited

@[simp] def encMonitor (x : AMonitor) : AV := .agg [.int .i64 x.object, .int .i64 x.owner, .int .i64 x.count]

@[simp] def decMonitor : AV → Option AMonitor
  | .agg [.int .i64 object, .int .i64 owner, .int .i64 count] => some ⟨object, owner, count⟩
  | _ => none

theorem edMonitor (v : AV) (x : AMonitor) (h : decMonitor v = some x) : v = encMonitor x := by
  unfold decMonitor at h
  split at h
  · cases h; rfl
  · cases h

def cMonitor : Cod AMonitor := ⟨encMonitor, decMonitor, fun x => by simp, edMonitor, fun x => by simp⟩
@[simp] theorem cMonitor_dec : cMonitor.dec = decMonitor := rfl
@[simp] theorem cMonitor_enc : cMonitor.enc = encMonitor := rfl
@[simp] theorem mapO_Monitor (l : List AMonitor) : mapO decMonitor (l.map encMonitor) = some l := mapO_map cMonitor.de l
@[simp] theorem fzL_Monitor (l : List AMonitor) : fzL (l.map encMonitor) = true := fzL_map cMonitor.fz l
@[simp] theorem blwL_Monitor (k : Nat) (l : List AMonitor) : blwL k (l.map encMonitor) = true := blwL_map cMonitor.fz k l

structure AMachine where
  status : Int
  objects : List AObject
  statics : List AVal
  threads : List AThread
  monitors : List AMonitor
  read : Int
  input : List Int
  out : List Int
  gone : Int
  steps : Int
  deriving DecidableEq, Inhabited

@[simp] def encMachine (x : AMachine) : AV := .agg [.int .i64 x.status, .sl (x.objects.map encObject), .sl (x.statics.map encVal), .sl (x.threads.map encThread), .sl (x.monitors.map encMonitor), .int .i64 x.read, .sl (x.input.map encInt), .sl (x.out.map encInt), .int .i64 x.gone, .int .i64 x.steps]

@[simp] def decMachine : AV → Option AMachine
  | .agg [.int .i64 status, .sl objects, .sl statics, .sl threads, .sl monitors, .int .i64 read, .sl input, .sl out, .int .i64 gone, .int .i64 steps] => (mapO decObject objects).bind fun objects => (mapO decVal statics).bind fun statics => (mapO decThread threads).bind fun threads => (mapO decMonitor monitors).bind fun monitors => (mapO decInt input).bind fun input => (mapO decInt out).bind fun out => some ⟨status, objects, statics, threads, monitors, read, input, out, gone, steps⟩
  | _ => none

theorem edMachine (v : AV) (x : AMachine) (h : decMachine v = some x) : v = encMachine x := by
  unfold decMachine at h
  split at h
  · simp only [Option.bind_eq_some_iff, Option.some.injEq] at h
    obtain ⟨q_objects, h_objects, q_statics, h_statics, q_threads, h_threads, q_monitors, h_monitors, q_input, h_input, q_out, h_out, rfl⟩ := h
    simp only [encMachine, ← mapO_inv edObject _ _ h_objects, ← mapO_inv edVal _ _ h_statics, ← mapO_inv edThread _ _ h_threads, ← mapO_inv edMonitor _ _ h_monitors, ← mapO_inv (show ∀ v x, decInt v = some x → v = encInt x from cInt.ed) _ _ h_input, ← mapO_inv (show ∀ v x, decInt v = some x → v = encInt x from cInt.ed) _ _ h_out]
  · cases h

def cMachine : Cod AMachine := ⟨encMachine, decMachine, fun x => by simp, edMachine, fun x => by simp⟩
@[simp] theorem cMachine_dec : cMachine.dec = decMachine := rfl
@[simp] theorem cMachine_enc : cMachine.enc = encMachine := rfl
@[simp] theorem mapO_Machine (l : List AMachine) : mapO decMachine (l.map encMachine) = some l := mapO_map cMachine.de l
@[simp] theorem fzL_Machine (l : List AMachine) : fzL (l.map encMachine) = true := fzL_map cMachine.fz l
@[simp] theorem blwL_Machine (k : Nat) (l : List AMachine) : blwL k (l.map encMachine) = true := blwL_map cMachine.fz k l

structure AEffect where
  kind : Int
  cls : Int
  method : Int
  args : List AVal
  value : AVal
  name : Str
  object : Int
  deriving DecidableEq, Inhabited

@[simp] def encEffect (x : AEffect) : AV := .agg [.int .i64 x.kind, .int .i64 x.cls, .int .i64 x.method, .sl (x.args.map encVal), .int .i64 x.value.kind, .int .i64 x.value.n, .str x.name, .int .i64 x.object]

@[simp] def decEffect : AV → Option AEffect
  | .agg [.int .i64 kind, .int .i64 cls, .int .i64 method, .sl args, .int .i64 value_kind, .int .i64 value_n, .str name, .int .i64 object] => (mapO decVal args).bind fun args => some ⟨kind, cls, method, args, ⟨value_kind, value_n⟩, name, object⟩
  | _ => none

theorem edEffect (v : AV) (x : AEffect) (h : decEffect v = some x) : v = encEffect x := by
  unfold decEffect at h
  split at h
  · simp only [Option.bind_eq_some_iff, Option.some.injEq] at h
    obtain ⟨q_args, h_args, rfl⟩ := h
    simp only [encEffect, ← mapO_inv edVal _ _ h_args]
  · cases h

def cEffect : Cod AEffect := ⟨encEffect, decEffect, fun x => by simp, edEffect, fun x => by simp⟩
@[simp] theorem cEffect_dec : cEffect.dec = decEffect := rfl
@[simp] theorem cEffect_enc : cEffect.enc = encEffect := rfl
@[simp] theorem mapO_Effect (l : List AEffect) : mapO decEffect (l.map encEffect) = some l := mapO_map cEffect.de l
@[simp] theorem fzL_Effect (l : List AEffect) : fzL (l.map encEffect) = true := fzL_map cEffect.fz l
@[simp] theorem blwL_Effect (k : Nat) (l : List AEffect) : blwL k (l.map encEffect) = true := blwL_map cEffect.fz k l

structure AChoice where
  thread : Int
  steps : Int
  input : List Int
  deriving DecidableEq, Inhabited

@[simp] def encChoice (x : AChoice) : AV := .agg [.int .i64 x.thread, .int .i64 x.steps, .sl (x.input.map encInt)]

@[simp] def decChoice : AV → Option AChoice
  | .agg [.int .i64 thread, .int .i64 steps, .sl input] => (mapO decInt input).bind fun input => some ⟨thread, steps, input⟩
  | _ => none

theorem edChoice (v : AV) (x : AChoice) (h : decChoice v = some x) : v = encChoice x := by
  unfold decChoice at h
  split at h
  · simp only [Option.bind_eq_some_iff, Option.some.injEq] at h
    obtain ⟨q_input, h_input, rfl⟩ := h
    simp only [encChoice, ← mapO_inv (show ∀ v x, decInt v = some x → v = encInt x from cInt.ed) _ _ h_input]
  · cases h

def cChoice : Cod AChoice := ⟨encChoice, decChoice, fun x => by simp, edChoice, fun x => by simp⟩
@[simp] theorem cChoice_dec : cChoice.dec = decChoice := rfl
@[simp] theorem cChoice_enc : cChoice.enc = encChoice := rfl
@[simp] theorem mapO_Choice (l : List AChoice) : mapO decChoice (l.map encChoice) = some l := mapO_map cChoice.de l
@[simp] theorem fzL_Choice (l : List AChoice) : fzL (l.map encChoice) = true := fzL_map cChoice.fz l
@[simp] theorem blwL_Choice (k : Nat) (l : List AChoice) : blwL k (l.map encChoice) = true := blwL_map cChoice.fz k l

structure APair where
  name : Str
  super : Str
  deriving DecidableEq, Inhabited

@[simp] def encPair (x : APair) : AV := .agg [.str x.name, .str x.super]

@[simp] def decPair : AV → Option APair
  | .agg [.str name, .str super] => some ⟨name, super⟩
  | _ => none

theorem edPair (v : AV) (x : APair) (h : decPair v = some x) : v = encPair x := by
  unfold decPair at h
  split at h
  · cases h; rfl
  · cases h

def cPair : Cod APair := ⟨encPair, decPair, fun x => by simp, edPair, fun x => by simp⟩
@[simp] theorem cPair_dec : cPair.dec = decPair := rfl
@[simp] theorem cPair_enc : cPair.enc = encPair := rfl
@[simp] theorem mapO_Pair (l : List APair) : mapO decPair (l.map encPair) = some l := mapO_map cPair.de l
@[simp] theorem fzL_Pair (l : List APair) : fzL (l.map encPair) = true := fzL_map cPair.fz l
@[simp] theorem blwL_Pair (k : Nat) (l : List APair) : blwL k (l.map encPair) = true := blwL_map cPair.fz k l

end Go.Proofs.YtgpkochbmfhmdaaGreatDoor.Lift
namespace Go.Proofs.YtgpkochbmfhmdaaGreatDoor.Lift
open Go
set_option maxRecDepth 100000

/-- the globals that are read -/
abbrev gl : Nat → Option AV := fun n => if n = 5 then some (.agg [.int .i64 0, .int .i64 1, .int .i64 4, .int .i64 5, .int .i64 7]) else if n = 1 then some (.agg [.str [65, 114, 105, 116, 104, 109, 101, 116, 105, 99], .str [78, 117, 108, 108], .str [73, 110, 100, 101, 120], .str [78, 101, 103, 97, 116, 105, 118, 101], .str [67, 97, 115, 116], .str [83, 116, 111, 114, 101], .str [77, 111, 110, 105, 116, 111, 114]]) else if n = 0 then some (.agg [.str [111, 117, 116], .str [40, 73, 41, 86], .str [105, 110], .str [40, 41, 73], .str [115, 112, 97, 119, 110], .str [40, 76, 79, 98, 106, 101, 99, 116, 59, 41, 86], .str [119, 97, 105, 116], .str [40, 76, 79, 98, 106, 101, 99, 116, 59, 41, 86], .str [110, 111, 116, 105, 102, 121], .str [40, 76, 79, 98, 106, 101, 99, 116, 59, 41, 86], .str [121, 105, 101, 108, 100], .str [40, 41, 86]]) else none
theorem fz_gl : FzG gl := fun _ _ h => by
  first
    | (cases h; done)
    | (dsimp only [gl] at h; (repeat' split at h) <;> first | (cases h; rfl) | (cases h; done))
/-- a configuration; where some composite slices are frozen at once -/
noncomputable abbrev XB (E : Env) (B : List Nat) : Cfg := { T := tiOf Tryz.prog, E := E, G := gl, B := B }
noncomputable abbrev XE (E : Env) : Cfg := XB E []
theorem okX_nil : OkX Tryz.prog (XE []) := ⟨rfl, fun f S h => (by cases h), fun l S h => (by cases h)⟩
theorem OkX.b {E : Env} (ok : OkX Tryz.prog (XE E)) (B : List Nat) : OkX Tryz.prog (XB E B) := ⟨ok.T, ok.E, ok.Y⟩
theorem OkX.add {E : Env} (ok : OkX Tryz.prog (XE E)) {f : Nat} {S : Spec} (h : SoundF Tryz.prog gl f S) : OkX Tryz.prog (XE ((f, S) :: E)) := ⟨rfl, fun f' S' hS => (by
  simp only [Env.look] at hS
  split at hS
  · rename_i hf
    cases hS
    exact hf ▸ h
  · exact ok.E f' S' hS), ok.Y⟩
theorem OkX.addP {E : Env} (ok : OkX Tryz.prog (XE E)) {f : Nat} {g : List AV → Option AV} (h : SoundP Tryz.prog gl f g) : OkX Tryz.prog (XE ((f, liftS 9 g) :: E)) := ok.add (h.lift fz_gl 9 _)
theorem wrap_i64 {n : Int} (h1 : -9223372036854775808 ≤ n) (h2 : n < 9223372036854775808) : IntKind.wrap .i64 n = n := by
  simp only [IntKind.wrap, IntKind.bits, IntKind.signed]
  simp
  split <;> omega
theorem wrap_u8 {n : Int} (h1 : 0 ≤ n) (h2 : n < 256) : IntKind.wrap .u8 n = n := by
  simp only [IntKind.wrap, IntKind.bits, IntKind.signed]
  simp
  omega
end Go.Proofs.YtgpkochbmfhmdaaGreatDoor.Lift
namespace Go.Proofs.YtgpkochbmfhmdaaGreatDoor.Lift
open Go

/-- A FUNCTION THAT MAY BE RANGED OVER: what it yields (gI: of what it has captured, and of the blocks that this refers to) -/
structure SoundI (P : Program) (gl : Nat → Option AV) (f : Nat) (gI : List AV → Sto → Option (List (List AV))) : Prop where
  enters : ∀ (args : Array Value) (w : World), (callFunc f args).run P w = .ok (.enter f args) w
  calls : ∀ (G : Gh) (l k : Nat) (cap : List AV) (own : Sto) (vals : List Value) (xs : List (List AV)), gI cap own = some xs → G.σ = .tick 0 :: own → Inv G → GlobG gl G → RepL G cap vals → SoundY P gl G.J l (yieldS xs k) →
    Calls P f (#[.func (.yield l) #[] #[]] ++ vals.toArray) G.w (fun e w' => ∃ v G', e = .returned v ∧ G'.w = w' ∧ Ext G G' ∧ Inv G' ∧ G'.t = min xs.length (k + 1))

/-- a place in a list -/
def posOf : List Nat → Nat → Option Nat
  | [], _ => none
  | c :: r, b => if c = b then some 0 else (posOf r b).map (· + 1)
theorem posOf_get : ∀ {l : List Nat} {b j : Nat}, posOf l b = some j → l[j]? = some b
  | c :: r, b, j, h => by
    simp only [posOf] at h
    split at h
    · rename_i e; cases h; subst e; rfl
    · obtain ⟨j', hj, rfl⟩ := Option.map_eq_some_iff.1 h
      exact (show (c :: r)[j' + 1]? = some b by simpa using posOf_get hj)
/-- a captured value, where the blocks that were handed over are all that there is -/
def reb (sel : List Nat) : AV → Option AV
  | .ptr b g i off => (posOf sel b).map fun j => .ptr (j + 1) g i off
  | x => if fz x = true then some x else none
/-- a block of frozen elements, no cell of which is frozen -/
def fzB : ABlk → Bool
  | .row _ _ lo xs => decide (lo = 0) && fzL xs
  | _ => false
/-- a block that was handed over -/
def deadOf : ABlk → ABlk
  | .row sz g _ _ => .dead sz g
  | k => k
@[simp] theorem deadOf_gen (k : ABlk) : (deadOf k).gen = k.gen := by cases k <;> rfl
@[simp] theorem deadOf_sz (k : ABlk) : (deadOf k).sz = k.sz := by cases k <;> rfl
/-- blocks are handed over -/
def kill (sel : List Nat) (st : Sto) : Sto := st.mapIdx fun b k => if b ∈ sel then deadOf k else k
theorem kill_get {sel : List Nat} {st : Sto} {b : Nat} {k : ABlk} (h : (kill sel st)[b]? = some k) : ∃ k0, st[b]? = some k0 ∧ k = if b ∈ sel then deadOf k0 else k0 := by
  unfold kill at h
  rw [List.getElem?_mapIdx] at h
  obtain ⟨k0, h1, h2⟩ := Option.map_eq_some_iff.1 h
  exact ⟨k0, h1, h2.symm⟩
theorem kill_mk {sel : List Nat} {st : Sto} {b : Nat} {k : ABlk} (h : st[b]? = some k) : (kill sel st)[b]? = some (if b ∈ sel then deadOf k else k) := by
  unfold kill
  rw [List.getElem?_mapIdx, h]
  rfl

theorem ext_kill (G : Gh) (sel : List Nat) : Ext G { G with σ := kill sel G.σ } where
  os := rfl
  tape := rfl
  output := rfl
  size := Nat.le_refl _
  old := fun _ _ _ _ => rfl
  shape := fun _ c _ _ h => ⟨c, h, rfl⟩
  frozen := fun _ _ h => h
  cell := fun _ _ _ => rfl
  fmap := fun _ _ _ _ h => h
  thaw := fun _ _ h _ => .inl h
  len := by simp [kill]
  id := fun b k h => ⟨_, kill_mk h, by split <;> first | exact Nat.le_of_eq (deadOf_gen k).symm | exact Nat.le_refl _, by split <;> first | exact deadOf_sz k | rfl⟩
  at_ := fun _ _ _ _ _ => rfl
  own := fun blk ⟨b, k, hb, hlv, hr⟩ => by
    obtain ⟨k0, h1, h2⟩ := kill_get hb
    refine .inr ⟨b, k0, h1, ?_, ?_⟩
    · split at h2
      · subst h2; cases k0 <;> first | rfl | exact hlv
      · subst h2; exact hlv
    · subst h2
      split at hr
      · rwa [deadOf_gen] at hr
      · exact hr
  time := Nat.le_refl _
  zin := fun _ h => .inr h
  zout := fun _ h => h
  foe := rfl
theorem inv_kill {G : Gh} (inv : Inv G) (sel : List Nat) : Inv { G with σ := kill sel G.σ } where
  rows := fun b sz g lo xs h => by
    obtain ⟨k0, h1, h2⟩ := kill_get h
    have : k0 = .row sz g lo xs := by
      split at h2
      · cases k0 <;> cases h2
      · exact h2.symm
    subst this
    obtain ⟨q1, q2, q3⟩ := inv.rows b sz g lo xs h1
    refine ⟨q1, fun blk hb => ?_, q3⟩
    obtain ⟨c, e, fz, q4, q5, q6, q7⟩ := q2 blk hb
    exact ⟨c, e, fz, q4, q5, q6.ext (ext_kill G sel), q7⟩
  maps := fun b es h => by
    obtain ⟨k0, h1, h2⟩ := kill_get h
    have : k0 = .map es := by
      split at h2
      · cases k0 <;> cases h2; rfl
      · exact h2.symm
    subst this
    obtain ⟨blk, ents, ck, q1, q2, q3, q4⟩ := inv.maps b es h1
    exact ⟨blk, ents, ck, q1, q2, q3.ext (ext_kill G sel), q4⟩
  inj := fun b b' k k' blk h h' r r' => by
    obtain ⟨k0, h1, h2⟩ := kill_get h
    obtain ⟨k1, h3, h4⟩ := kill_get h'
    refine inv.inj b b' k0 k1 blk h1 h3 ?_ ?_
    · subst h2
      split at r
      · rwa [deadOf_gen] at r
      · exact r
    · subst h4
      split at r'
      · rwa [deadOf_gen] at r'
      · exact r'
  lt := inv.lt
  tks := fun b n h => by
    obtain ⟨k0, h1, h2⟩ := kill_get h
    have : k0 = .tick n := by
      split at h2
      · cases k0 <;> cases h2; rfl
      · exact h2.symm
    subst this
    exact inv.tks b n h1
  held := inv.held_ext (ext_kill G sel) rfl
  stab := inv.stab
  zlt := inv.zlt
  znone := inv.znone
  its := fun b s i h => by
    obtain ⟨k0, h1, h2⟩ := kill_get h
    have : k0 = .iter s i := by
      split at h2
      · cases k0 <;> cases h2; rfl
      · exact h2.symm
    subst this
    exact inv.its b s i h1
  deads := fun b sz g blk h r => by
    obtain ⟨k0, h1, h2⟩ := kill_get h
    refine inv.blk_lt h1 ?_
    have : k0.gen = g := by
      split at h2
      · have := congrArg ABlk.gen h2; rw [deadOf_gen] at this; exact this.symm
      · have := congrArg ABlk.gen h2; exact this.symm
    rw [this]
    exact r

theorem mapO_reb {G H : Gh} {sel : List Nat} (xf : ExtF G H) (hid : ∀ j b g sz, sel[j]? = some b → HasId G b g sz → HasId H (j + 1) g sz) (hρ : ∀ j b g, sel[j]? = some b → H.ρ (j + 1) g = G.ρ b g) :
    ∀ {l l' : List AV} {vs : List Value}, mapO (reb sel) l = some l' → RepL G l vs → RepL H l' vs
  | [], l', vs, h, hr => by cases h; cases hr; exact .nil
  | x :: l, l', vs, h, hr => by
    simp only [mapO] at h
    split at h
    · rename_i y ys hy hys
      cases h
      cases hr with
      | cons hx ht =>
        refine .cons ?_ (mapO_reb xf hid hρ hys ht)
        cases x with
        | ptr b g i off =>
          simp only [reb] at hy
          obtain ⟨j, hj, rfl⟩ := Option.map_eq_some_iff.1 hy
          have hp := posOf_get hj
          cases hx with
          | ptr h1 h2 => exact .ptr (hid _ _ _ _ hp h1) ((hρ _ _ _ hp).trans h2)
        | _ =>
          simp only [reb] at hy
          split at hy
          · rename_i hb
            cases hy
            exact fz_rep xf hb hx
          · cases hy
    · cases h
theorem mapO_getElem {α β : Type} {f : α → Option β} : ∀ {l : List α} {r : List β}, mapO f l = some r → ∀ (j : Nat) y, r[j]? = some y → ∃ x, l[j]? = some x ∧ f x = some y
  | [], r, h, j, y, hy => by cases h; simp at hy
  | a :: l, r, h, j, y, hy => by
    simp only [mapO] at h
    split at h
    · rename_i b bs hb hbs
      cases h
      cases j with
      | zero => simp at hy; subst hy; exact ⟨a, rfl, hb⟩
      | succ j => exact mapO_getElem hbs j y (by simpa using hy)
    · cases h
theorem mapO_getElem' {α β : Type} {f : α → Option β} : ∀ {l : List α} {r : List β}, mapO f l = some r → ∀ (j : Nat) x, l[j]? = some x → ∃ y, r[j]? = some y ∧ f x = some y
  | [], r, h, j, x, hx => by simp at hx
  | a :: l, r, h, j, x, hx => by
    simp only [mapO] at h
    split at h
    · rename_i b bs hb hbs
      cases h
      cases j with
      | zero => simp at hx; subst hx; exact ⟨b, rfl, hb⟩
      | succ j => exact mapO_getElem' hbs j x (by simpa using hx)
    · cases h

theorem fzB_row {k : ABlk} (h : fzB k = true) : ∃ sz g xs, k = .row sz g 0 xs ∧ fzL xs = true := by
  cases k with
  | row sz g lo xs =>
    simp only [fzB, Bool.and_eq_true, decide_eq_true_eq] at h
    obtain ⟨rfl, h2⟩ := h
    exact ⟨sz, g, xs, rfl, h2⟩
  | _ => cases h
theorem fzL_get : ∀ {xs : List AV}, fzL xs = true → ∀ x ∈ xs, fz x = true
  | a :: l, h, x, hx => by
    simp only [fzL, Bool.and_eq_true] at h
    rcases List.mem_cons.1 hx with rfl | hx
    · exact h.1
    · exact fzL_get h.2 x hx

theorem ev_rangeFunc {P : Program} {X : Cfg} {G0 : Gh} {s : ASt} {Q : Exit → ASt → Prop} {g : Operand} {ps : Array Nat} {assign body : Code} {f : Nat} {cap cap' : List AV} {gI : List AV → Sto → Option (List (List AV))} {own : Sto} {xs : List (List AV)}
    (hXJ : X.J = noFoe) (hrd : X.rd = false) (hz : FzG X.G) (hg : s.ev X g = .fn (.func f) [] cap) (si : SoundI P X.G f gI) (sel : List Nat) (hnd : sel.Nodup) (hsel : mapO (fun b => s.st[b]?) sel = some own) (hown : own.all fzB = true)
    (hcap : mapO (reb sel) cap = some cap') (hxs : gI cap' own = some xs) (fr0 : Nat → AV) (hfr : ∀ t, s.fr t = fr0 t ∨ fr0 t = .undef)
    (k : Nat) (ex : Exit) (I : Nat → Sto) (hex : IsJump ex) (hI0 : I 0 = kill sel s.st) (hps : ∀ p ∈ ps.toList, p < s.n) (hflat : ∀ x ∈ xs, flatL x = true) (hlen : ∀ x ∈ xs, x.length = ps.size)
    (ro : RoundOk P { X with rd := true } s.n ps.toList assign body xs k ex I fr0) (hdone : xs.length ≤ k → Q .normal ⟨s.n, fr0, I xs.length⟩) (hstop : k < xs.length → Q ex ⟨s.n, fr0, I (k + 1)⟩) :
    Ev P X G0 (.rangeFunc g ps assign body) s Q := by
  intro F n a w hF hst'
  have hro : F.round = none := hF.2.resolve_left (by rw [hrd]; simp)
  obtain ⟨G, rfl, hs, inv, hgl, x, hm⟩ := hst'
  have hJG : G.J = noFoe := hm.1.trans hXJ
  have hσ : G.σ = s.st := hs.2.2
  have xk := ext_kill G sel
  have invc := inv_kill inv sel
  have xc := x.trans xk
  have hsc : ∀ t, Rep { G with σ := kill sel G.σ } (fr0 t) (a.tmps.getD t undef) := fun t => by
    rcases hfr t with h | h
    · rw [← h]; exact (hs.2.1 t).ext xk
    · rw [h]; exact .undef _
  have hglc : Glob X { G with σ := kill sel G.σ } := fun g v hv => (hgl g v hv).ext xk
  -- the machine's steps
  obtain ⟨D, hD⟩ : ∃ D, D = G.w.heap.size := ⟨_, rfl⟩
  refine wpIn_rangeFunc fun fn hfn => ?_
  rw [hro]
  obtain ⟨rec, hrec⟩ : ∃ rec : LoopState → Option Code → Loop, rec = fun st pe => { state := st, pending := pe, fn, tmps := a.tmps, params := ps, assign, body, defers := G.w.heap.size } := ⟨_, rfl⟩
  have hr := hs.ev hgl g
  rw [hg] at hr
  generalize hv : a.eval g = fv at hr
  cases hr
  rename_i fa lb hfa hlb
  have hfa' : fa = #[] := by
    cases fa with
    | mk l => cases l with
      | nil => rfl
      | cons _ _ => cases hfa
  subst hfa'
  obtain ⟨W1, hW1⟩ : ∃ W1, (G.w.alloc (.deferred (some []))).alloc (.loop (rec .ready none)) = W1 := ⟨_, rfl⟩
  have hsz1 : W1.heap.size = G.w.heap.size + 2 := by rw [← hW1]; simp
  have hL1 : W1.heap[G.w.heap.size + 1]? = some (.loop (rec .ready none)) := by
    rw [← hW1]; have := World.alloc_heap_new (G.w.alloc (.deferred (some []))) (.loop (rec .ready none)); rwa [World.size_alloc] at this
  have hK1 : W1.heap[G.w.heap.size]? = some (.deferred (some [])) := by
    rw [← hW1]; exact (heap_alloc_lt _ _ (by simp)).trans (World.alloc_heap_new G.w _)
  have hold : ∀ blk, blk < G.w.heap.size → W1.heap[blk]? = G.w.heap[blk]? := fun blk hb => by
    rw [← hW1]
    exact (heap_alloc_lt _ _ (by simp; omega)).trans (heap_alloc_lt _ _ hb)
  have hos : W1.os = G.w.os := by rw [← hW1]; rfl
  have htp : W1.tape = G.w.tape := by rw [← hW1]; rfl
  have hou : W1.output = G.w.output := by rw [← hW1]; rfl
  obtain ⟨l, hl⟩ : ∃ l, l = G.w.heap.size + 1 := ⟨_, rfl⟩
  refine ⟨l, [{ target := .collected D, args := #[] }], W1, { target := .fn (.func f) lb, args := #[.func (.yield l) #[] #[]] }, W1, f, #[.func (.yield l) #[] #[]] ++ lb, W1, ?_, ?_, fun _ _ => hF.1.fn _, ?_, fun hd => (by rw [hF.1.depth] at hd; cases hd), ?_⟩
  · rw [← hW1, hrec, hl, hD]; exact run_enterLoop_outer _ _ _ _ _
  · simp only [resolve, hv]
    simp [go_sem]
  · simp only [invoke, go_sem, si.enters]
  -- the two ghosts
  have hshape : ∀ (blk : Nat) (c : Array Value) e fz, G.w.heap[blk]? = some (.cells c e fz) → ∃ c', W1.heap[blk]? = some (.cells c' e fz) ∧ c'.size = c.size := fun blk c e fz hb => ⟨c, (hold blk (Array.getElem?_eq_some_iff.1 hb).1).trans hb, rfl⟩
  obtain ⟨x1, inv1, rep1⟩ := foreign (O := fun _ => False) invc hJG xc hos htp hou (by rw [hsz1]; show G.w.heap.size ≤ _; omega) (fun blk hb _ => hold blk hb) hshape (fun _ _ h => h) (fun _ _ _ h => h) (fun _ h _ => h.elim)
  let J : Foe := FoeJ { X with rd := true } G0 l (D :: (a.defers.filterMap fun d => match d.target with | .collected r => some r | _ => none)) k rec (exCode ex) I fr0 a.tmps
  let Gi : Gh := { w := W1, φ := G.φ, ρ := fun b g => match b with | 0 => none | j + 1 => match sel[j]? with | some c => G.ρ c g | none => none, σ := .tick 0 :: own, t := 0, z := fun b => Owned { G with σ := kill sel G.σ } b ∨ b = l, J := J }
  have xf : ExtF G Gi := ⟨fun _ _ h => h, fun b o hf v hv => (World.cell?_of_block (a := ⟨b, o, none⟩) (hold b (inv.lt b o hf))).trans hv, fun b m ck hf hb => (hold b (inv.lt b 0 hf)).trans hb⟩
  have getO : ∀ (j : Nat) kk, own[j]? = some kk → ∃ c, sel[j]? = some c ∧ G.σ[c]? = some kk := fun j kk hj => by
    obtain ⟨c, h1, h2⟩ := mapO_getElem hsel j kk hj
    exact ⟨c, h1, by rw [hσ]; exact h2⟩
  have hρi : ∀ j c g, sel[j]? = some c → Gi.ρ (j + 1) g = G.ρ c g := fun j c g hc => by simp [Gi, hc]
  have ownI : ∀ blk, Owned Gi blk → ∃ j c kk, own[j]? = some kk ∧ sel[j]? = some c ∧ G.σ[c]? = some kk ∧ kk.live = true ∧ G.ρ c kk.gen = some blk := fun blk ⟨b, kk, hb, hlv, hr⟩ => by
    cases b with
    | zero => rw [show Gi.ρ 0 kk.gen = none by simp [Gi]] at hr; cases hr
    | succ b =>
      obtain ⟨c, h1, h2⟩ := getO b kk hb
      exact ⟨b, c, kk, hb, h1, h2, hlv, (hρi b c _ h1).symm.trans hr⟩
  have ownG : ∀ blk, Owned Gi blk → Owned G blk := fun blk ho => by
    obtain ⟨j, c, kk, _, _, h2, h3, h4⟩ := ownI blk ho
    exact ⟨c, kk, h2, h3, h4⟩
  have noφ : ∀ blk, Owned Gi blk → ∀ o, ¬ G.φ blk o := fun blk ho o hf => by
    obtain ⟨j, c, kk, h1, _, h2, _, h4⟩ := ownI blk ho
    obtain ⟨sz, gg, ys, rfl, _⟩ := fzB_row (List.all_eq_true.1 hown kk (List.mem_of_getElem? h1))
    obtain ⟨_, q2, _⟩ := inv.rows _ _ _ _ _ h2
    obtain ⟨_, _, _, _, _, _, q7⟩ := q2 blk h4
    exact q7 o (by simp) hf
  have notC : ∀ blk, Owned Gi blk → ¬ Owned { G with σ := kill sel G.σ } blk := fun blk ho ⟨b', k', hb', hlv', hr'⟩ => by
    obtain ⟨j, c, kk, h1, hc, h2, _, h4⟩ := ownI blk ho
    obtain ⟨k0, e1, e2⟩ := kill_get hb'
    have hr0 : G.ρ b' k0.gen = some blk := by
      subst e2
      split at hr'
      · rwa [deadOf_gen] at hr'
      · exact hr'
    have := inv.inj _ _ _ _ blk e1 h2 hr0 h4
    subst this
    rw [h2] at e1
    cases e1
    rw [if_pos (List.mem_of_getElem? hc)] at e2
    obtain ⟨sz, gg, ys, rfl, _⟩ := fzB_row (List.all_eq_true.1 hown kk (List.mem_of_getElem? h1))
    subst e2
    cases hlv'
  have hne : ∀ blk, Owned Gi blk → blk < G.w.heap.size := fun blk ho => (ownG blk ho).lt inv
  have hmark := hm
  obtain ⟨_, rs, hrs1, hrs2, hrs3, hrs4⟩ := hmark
  have hfm : (a.defers.filterMap fun d => match d.target with | .collected r => some r | _ => none) = rs := by
    rw [hrs1, List.filterMap_map]
    conv => rhs; rw [← List.filterMap_some (l := rs)]
    rfl
  have hrslt : ∀ r ∈ rs, r < G.w.heap.size := fun r hr => (Array.getElem?_eq_some_iff.1 (hrs4 r hr).1).1
  have invi : Inv Gi :=
    { rows := fun b sz gg lo ys hb => by
        cases b with
        | zero => cases hb
        | succ b =>
          obtain ⟨sz', g', ys', e1, e2⟩ := fzB_row (List.all_eq_true.1 hown _ (List.mem_of_getElem? hb))
          cases e1
          obtain ⟨c0, hc0, hb0⟩ := getO b _ hb
          obtain ⟨q1, q2, q3⟩ := inv.rows _ _ _ _ _ hb0
          refine ⟨q1, fun blk hr => ?_, fun hn => q3 ((hρi b c0 _ hc0).symm.trans hn)⟩
          have hr' : G.ρ c0 gg = some blk := (hρi b c0 _ hc0).symm.trans hr
          obtain ⟨c, e, fz', q4, q5, q6, q7⟩ := q2 blk hr'
          refine ⟨c, e, fz', (hold blk (Array.getElem?_eq_some_iff.1 q4).1).trans q4, q5, fun i y hy => ⟨(q6 i y hy).1, fun j zz hzz => ?_⟩, q7⟩
          obtain ⟨v, h8, h9⟩ := (q6 i y hy).2 j zz hzz
          exact ⟨v, h8, fz_rep xf (fzL_get (fz_cells (fzL_get e2 y (List.mem_of_getElem? hy))) zz (List.mem_of_getElem? hzz)) h9⟩
      maps := fun b es hb => by
        cases b with
        | zero => cases hb
        | succ b => obtain ⟨_, _, _, e1, _⟩ := fzB_row (List.all_eq_true.1 hown _ (List.mem_of_getElem? hb)); cases e1
      inj := fun b b' k1 k2 blk h1 h2 r1 r2 => by
        cases b with
        | zero => rw [show Gi.ρ 0 k1.gen = none by simp [Gi]] at r1; cases r1
        | succ b =>
          cases b' with
          | zero => rw [show Gi.ρ 0 k2.gen = none by simp [Gi]] at r2; cases r2
          | succ b' =>
            obtain ⟨c1, hc1, hb1⟩ := getO b k1 h1
            obtain ⟨c2, hc2, hb2⟩ := getO b' k2 h2
            have := inv.inj _ _ _ _ blk hb1 hb2 ((hρi b c1 _ hc1).symm.trans r1) ((hρi b' c2 _ hc2).symm.trans r2)
            subst this
            have h3 := (List.getElem?_eq_some_iff.1 hc1).1
            have := (List.getElem?_inj h3 hnd).1 (hc1.trans hc2.symm)
            omega
      lt := fun b o hf => by show b < W1.heap.size; have := inv.lt b o hf; omega
      tks := fun b q hb => by
        cases b with
        | zero => exact ⟨fun _ => by have := Option.some.inj hb; simpa using this.symm, fun gg => by simp [Gi]⟩
        | succ b => obtain ⟨_, _, _, e1, _⟩ := fzB_row (List.all_eq_true.1 hown _ (List.mem_of_getElem? hb)); cases e1
      held := by
        refine ⟨{ G with σ := kill sel G.σ, w := W1 }, rfl, inv1, fun gg v hv => rep1 _ _ (hglc gg v hv), x1, hJG, (by rw [hI0, ← hσ]), fun i => rep1 _ _ (hsc i), fun _ => by rw [hl]; exact hL1, fun h => absurd (Nat.zero_le k) h, fun r hr => ?_, fun blk ho => ⟨.inl ho, fun ho' => notC blk ho' ho⟩, .inr rfl, fun ho => ?_, fun r hr ho => ?_, fun o hf => ?_, fun b o hf => .inl hf, fun b o hf ho => noφ b ho o hf, fun blk ho hb => ?_⟩
        · rw [hfm] at hr
          rcases List.mem_cons.1 hr with rfl | hr
          · rw [hD]; exact hK1
          · exact (hold r (hrslt r hr)).trans (hrs4 r hr).1
        · have := hne l ho; omega
        · rw [hfm] at hr
          rcases List.mem_cons.1 hr with rfl | hr
          · have := hne _ ho; omega
          · exact inv.not_deferred (hrs4 r hr).1 (ownG r ho)
        · have := inv.lt l o hf; omega
        · rcases x.own blk (ownG blk ho) with h1 | h1
          · omega
          · exact h1
      stab := foeJ_stable _ _ _ _ _ _ _ _ _ _
      zlt := fun blk hb => by
        show blk < W1.heap.size
        rcases hb with hb | hb
        · have := hb.lt invc
          have h2 : blk < G.w.heap.size := this
          omega
        · omega
      znone := fun e => absurd e (foeJ_ne _ _ _ _ _ _ _ _ _ _ W1)
      its := fun b s i hb => by
        cases b with
        | zero => cases hb
        | succ b => obtain ⟨_, _, _, e1, _⟩ := fzB_row (List.all_eq_true.1 hown _ (List.mem_of_getElem? hb)); cases e1
      deads := fun b sz gg blk hb hr => by
        cases b with
        | zero => cases hb
        | succ b => obtain ⟨_, _, _, e1, _⟩ := fzB_row (List.all_eq_true.1 hown _ (List.mem_of_getElem? hb)); cases e1 }
  have hn : s.n ≤ a.tmps.size := hs.1
  have sy : SoundY P X.G J l (yieldS xs k) := soundY_of (X := { X with rd := true }) (dd := G.w.heap.size) (fnid := fn) hz hXJ rfl hrec hex (by have := x.size; omega) (fun r hr => by
      rw [hfm] at hr
      rcases List.mem_cons.1 hr with rfl | hr
      · omega
      · have := hrslt r hr; omega) hps hn hflat hlen ro
  have capI : RepL Gi cap' lb.toList := mapO_reb (sel := sel) xf (fun j b gg sz hj hI => by
      obtain ⟨kk, h1, h2⟩ := hI
      rw [hσ] at h1
      obtain ⟨k2, h3, h4⟩ := mapO_getElem' hsel j b hj
      rw [h1] at h4
      cases h4
      exact ⟨kk, h3, h2⟩) hρi hcap hlb
  have hcall := si.calls Gi l k cap' own lb.toList xs hxs rfl invi (fun gg v hv => by
      have h1 := globG_ext (gl := X.G) hz xf (fun n v hv => hgl n v hv)
      exact h1 gg v hv) capI sy
  rw [Array.toArray_toList] at hcall
  refine (hF.1.calls (n := n - 1) hcall).mono ?_
  rintro e W2 ⟨v, Gi', rfl, rfl, xi, invi', ht⟩
  have held' := invi'.held
  rw [xi.foe] at held'
  obtain ⟨Gc, h⟩ := held'
  have hw : Gc.w = Gi'.w := h.w
  -- the end
  have fin : ∀ (st : LoopState) (pe : Option Code), st ≠ .busy → Gi'.w.heap[l]? = some (.loop (rec st pe)) → ∃ w4, (Instr.endLoop l).run P Gi'.w = .ok pe w4 ∧ St X G0 ⟨s.n, fr0, I (min xs.length (k + 1))⟩ { a with defers := [{ target := .collected D, args := #[] }] ++ a.defers } w4 := by
    intro st pe hb hlr
    have := run_endLoop (P := P) hlr (by rw [hrec]; exact hb)
    have hpe : (rec st pe).pending = pe := by rw [hrec]
    refine ⟨Gi'.w.putObj l (.loop { rec st pe with state := .exhausted }), this.trans (congrArg (fun q => Result.ok q (Gi'.w.putObj l (.loop { rec st pe with state := .exhausted }))) hpe), ?_⟩
    have hlc : Gc.w.heap[l]? = some (.loop (rec st pe)) := by rw [hw]; exact hlr
    obtain ⟨y4, inv4, rep4⟩ := foreign_put (r' := { rec st pe with state := .exhausted }) h.inv h.J h.x hlc (by have := x.size; omega) h.nφ
    rw [← hw]
    refine ⟨_, rfl, ⟨hn, fun t => rep4 _ _ (h.fr t), ?_⟩, inv4, fun gg v hv => rep4 _ _ (h.gl gg v hv), y4, h.J.trans hXJ.symm, D :: rs, ?_, ?_, fun _ => ⟨hXJ, hrd⟩, fun r hr => ⟨?_, ?_, h.inv.znone h.J r⟩⟩
    · show Gc.σ = _
      rw [h.σ, ht]
    · simp [hrs1]
    · exact List.nodup_cons.2 ⟨fun hm' => by have := hrslt D hm'; omega, hrs2⟩
    · have hne' : r ≠ l := by
        rcases List.mem_cons.1 hr with rfl | hr
        · omega
        · have := hrslt r hr; omega
      show (Gc.w.putObj l _).heap[r]? = _
      rw [World.putObj_heap_other hne', hw]
      exact h.dfr r (by rw [hfm]; exact hr)
    · rcases List.mem_cons.1 hr with rfl | hr
      · have := x.size; omega
      · exact (hrs4 r hr).2.1
  by_cases hk : xs.length ≤ k
  · have hmin : min xs.length (k + 1) = xs.length := by omega
    rw [hmin] at ht fin
    obtain ⟨w4, h1, h2⟩ := fin .ready none (by simp) (h.ready (by omega))
    exact ⟨none, w4, h1, _, hdone hk, h2⟩
  · have hmin : min xs.length (k + 1) = k + 1 := by omega
    rw [hmin] at ht fin
    obtain ⟨w4, h1, h2⟩ := fin .done (some (exCode ex)) (by simp) (h.done (by omega))
    refine ⟨some (exCode ex), w4, h1, ?_⟩
    have hq := hstop (by omega)
    rcases hex with rfl | ⟨i, rfl⟩ | ⟨i, rfl⟩
    · exact wpIn_ret ⟨_, hq, h2⟩
    · exact wpIn_exit ⟨_, hq, h2⟩
    · exact wpIn_goto ⟨_, hq, h2⟩
end Go.Proofs.YtgpkochbmfhmdaaGreatDoor.Lift
namespace Go.Proofs.YtgpkochbmfhmdaaGreatDoor.Lift
open Go
set_option maxRecDepth 100000

/-- contracts that hold whatever is foreign -/
def OkA (E : Env) : Prop := ∀ f S, Env.look E f = some S → SoundA Tryz.prog gl f S
theorem okA_nil : OkA [] := fun f S h => by cases h
theorem OkA.add {E : Env} (ok : OkA E) {f : Nat} {S : Spec} (h : SoundA Tryz.prog gl f S) : OkA ((f, S) :: E) := fun f' S' hS => by
  simp only [Env.look] at hS
  split at hS
  · rename_i hf
    cases hS
    exact hf ▸ h
  · exact ok f' S' hS
theorem OkA.addP {E : Env} (ok : OkA E) {f : Nat} {g : List AV → Option AV} (h : SoundP Tryz.prog gl f g) : OkA ((f, liftS 9 g) :: E) := ok.add (h.lift fz_gl 9)
theorem OkA.x {E : Env} (ok : OkA E) : OkX Tryz.prog (XE E) := ⟨rfl, fun f S h => ok f S h _, fun l S h => by cases h⟩

/-- where a function that may be ranged over is walked -/
noncomputable abbrev XI (E : Env) (J : Foe) (l : Nat) (xs : List (List AV)) (k : Nat) : Cfg := { T := tiOf Tryz.prog, E := E, G := gl, Y := [(l, yieldS xs k)], J := J }
/-- where a round is walked -/
noncomputable abbrev XRB (E : Env) (B : List Nat) : Cfg := { T := tiOf Tryz.prog, E := E, G := gl, B := B, rd := true }
noncomputable abbrev XR (E : Env) : Cfg := XRB E []
theorem OkX.rd {E : Env} {B : List Nat} (ok : OkX Tryz.prog (XB E B)) : OkX Tryz.prog (XRB E B) := ⟨ok.T, ok.E, ok.Y⟩

theorem soundI_of_wk {E : Env} (ok : OkA E) (hm : Tryz.prog.follows .mixedOrders = true) {f : Nat} {fn : Func} (hf : Tryz.prog.funcs[f]? = some fn) (hb : fn.body.isSome = true) (hn : (fn.name == "runtime.NumGoroutine") = false) (hres : fn.results = #[])
    {gI : List AV → Sto → Option (List (List AV))}
    (h : ∀ cap own xs, gI cap own = some xs → ∀ (J : Foe) (l k : Nat) (_ : OkX Tryz.prog (XI E J l xs k)) (G0 : { G : Gh // G.σ = .tick 0 :: own }), wk Tryz.prog (XI E J l xs k) G0.1 (fun e s => (e = .normal ∨ e = .ret) ∧ s.st[0]? = some (.tick (min xs.length (k + 1)))) (fn.body.get hb) [] (entry fn (.fn (.yield l) [] [] :: cap) (.tick 0 :: own))) :
    SoundI Tryz.prog gl f gI where
  enters := fun args w => run_callFunc hf (by rw [← Option.not_isSome, hb]; rfl) hn args w
  calls := fun G l k cap own vals xs hxs hσ inv hg hr sy => by
    have okx : OkX Tryz.prog (XI E G.J l xs k) := ⟨rfl, fun f S hS => ok f S hS _, fun l' S hS => by
      simp only [Env.look] at hS
      split at hS
      · rename_i hl
        cases hS
        exact hl ▸ sy
      · cases hS⟩
    have hev := ev_of_wk okx hm (h cap own xs hxs G.J l k okx ⟨G, hσ⟩)
    have hargs : RepL G (.fn (.yield l) [] [] :: cap) (.func (.yield l) #[] #[] :: vals) := .cons (.fn .nil .nil) hr
    have hst := entry_st (X := XI E G.J l xs k) (fn := fn) inv hg rfl hargs
    rw [hσ] at hst
    have hc : fn.body = some (fn.body.get hb) := by simp
    have e0 : (#[Value.func (.yield l) #[] #[]] ++ vals.toArray) = (Value.func (.yield l) #[] #[] :: vals).toArray := by simp
    rw [e0]
    refine (callsIn_wide (n := 0)).1 (callsIn_of_wp_marks hf hc trivial ?_)
    refine wpIn_mono (hev Fence.wide 0 _ _ ⟨.inl rfl, .inr rfl⟩ hst) fun e a' w' ⟨s', ⟨he, h1⟩, h3⟩ => ?_
    obtain ⟨G1, rfl, hs, inv1, hg1, x1, hJ1, rs, hd, hnd, hne, hrs⟩ := h3
    have key : LeavesInM Fence.wide 0 Tryz.prog fn a'.tmps (fun e w' => ∃ v G', e = .returned v ∧ G'.w = w' ∧ Ext G G' ∧ Inv G' ∧ G'.t = min xs.length (k + 1)) a'.defers .returning G1.w := by
      rw [hd]
      refine leaves_marks rs G1.w hnd (fun r hr => (hrs r hr).1) fun w' hp => ?_
      obtain ⟨G2, rfl, e2, x2, inv2, tr⟩ := hp.ext rfl (fun r hr => (hrs r hr).2.1) (fun h => hJ1.trans (hne h).1) inv1 x1
      have hs2 : Slots G2 s' a' := ⟨hs.1, fun t => tr _ _ (hs.2.1 t), e2.trans hs.2.2⟩
      have hq : resAs (XI E G.J l xs k) s' fn.results.toList = some (.tup []) := by rw [hres]; rfl
      obtain ⟨u, h4, h5⟩ := run_results (X := XI E G.J l xs k) rfl inv2 hs2 hq
      refine ⟨u, h4, u, G2, rfl, rfl, x2, inv2, ?_⟩
      have h6 : G2.σ[0]? = some (.tick (min xs.length (k + 1))) := by rw [hs2.2.2]; exact h1
      exact ((inv2.tks 0 _ h6).1 rfl).symm
    rcases he with rfl | rfl <;> exact key

theorem okXJ {E : Env} (ok : OkA E) (J : Foe) : OkX Tryz.prog { XE E with J := J } := ⟨rfl, fun f S hS => ok f S hS _, fun l S hS => by cases hS⟩
/-- a contract with a store, whatever is foreign, from the walk -/
theorem soundA_of_wk {E : Env} (ok : OkA E) (hm : Tryz.prog.follows .mixedOrders = true) {f : Nat} {fn : Func} (hf : Tryz.prog.funcs[f]? = some fn) (hb : fn.body.isSome = true) (hn : (fn.name == "runtime.NumGoroutine") = false) {S : Spec}
    (h : ∀ args st r st', S args st = some (r, st') → ∀ (J : Foe) (_ : OkX Tryz.prog { XE E with J := J }) (G0 : { G : Gh // G.σ = st }), wk Tryz.prog { XE E with J := J } G0.1 (fun e s => (e = .normal ∨ e = .ret) ∧ resAs (XE E) s fn.results.toList = some r ∧ s.st = st') (fn.body.get hb) [] (entry fn args st)) : SoundA Tryz.prog gl f S := fun J =>
  soundF_of_ev' (X := { XE E with J := J }) rfl hf (c := fn.body.get hb) (by simp) hn fun args st r st' hr G0 hσ => ev_of_wk (X := { XE E with J := J }) (okXJ ok J) hm (h args st r st' hr J (okXJ ok J) ⟨G0, hσ⟩)
/-- a contract with a store, where nothing is foreign, from the walk -/
theorem soundF_of_wk {X : Cfg} (ok : OkX Tryz.prog X) (hm : Tryz.prog.follows .mixedOrders = true) {f : Nat} {fn : Func} (hf : Tryz.prog.funcs[f]? = some fn) (hb : fn.body.isSome = true) (hn : (fn.name == "runtime.NumGoroutine") = false) {S : Spec}
    (h : ∀ args st r st', S args st = some (r, st') → ∀ G0 : { G : Gh // G.σ = st }, wk Tryz.prog X G0.1 (fun e s => (e = .normal ∨ e = .ret) ∧ resAs X s fn.results.toList = some r ∧ s.st = st') (fn.body.get hb) [] (entry fn args st)) : SoundJ Tryz.prog X.G X.J f S :=
  soundF_of_ev' ok.T hf (c := fn.body.get hb) (by simp) hn fun args st r st' hr G0 hσ => ev_of_wk ok hm (h args st r st' hr ⟨G0, hσ⟩)

/-- a round's end: the newest blocks are left -/
theorem less_end {X : Cfg} (hz : FzG X.G) {G0 : Gh} {s : ASt} {st : Sto} (h0 : G0.σ.length ≤ st.length) (hst : s.st.take st.length = st) (hb : st.all (blwB st.length) = true) : Less X G0 s ⟨s.n, fun _ => .undef, st⟩ :=
  less_drop hz (st2 := s.st.drop st.length) h0 rfl (by conv => lhs; rw [← List.take_append_drop st.length s.st, hst]) hb (fun _ => .inl rfl)
/-- a round that goes on -/
theorem roundEnd_on {s : ASt} {k t : Nat} {ex : Exit} {I : Nat → Sto} (ht : t < k) (st : Sto) (hI : I (t + 1) = st) (h0 : (I t).length ≤ st.length) (hst : s.st.take st.length = st) (hb : st.all (blwB st.length) = true) : RoundEnd k ex I t .normal s :=
  ⟨fun _ => rfl, fun h => absurd ht h, by rw [hI]; exact hst, by rw [hI]; exact hb, by rw [hI]; exact h0⟩
/-- the round that ends it -/
theorem roundEnd_off {s : ASt} {k t : Nat} {ex : Exit} {I : Nat → Sto} (ht : t = k) (st : Sto) (hI : I (t + 1) = st) (h0 : (I t).length ≤ st.length) (hst : s.st.take st.length = st) (hb : st.all (blwB st.length) = true) : RoundEnd k ex I t ex s :=
  ⟨fun h => absurd h (by omega), fun _ => rfl, by rw [hI]; exact hst, by rw [hI]; exact hb, by rw [hI]; exact h0⟩
/-- the rule, evaluated -/
theorem rf_of {E : Env} {B : List Nat} (ok : OkX Tryz.prog (XB E B)) (hm : Tryz.prog.follows .mixedOrders = true) {G0 : Gh} {s : ASt} {Q : Exit → ASt → Prop} {kt : List Kt} {g : Operand} {ps : Array Nat} {assign body : Code} {f : Nat} {cap cap' : List AV} {gI : List AV → Sto → Option (List (List AV))} {own : Sto}
    (sel : List Nat) (si : SoundI Tryz.prog gl f gI) (l : List (Nat × AV)) (xs : List (List AV)) (k : Nat) (ex : Exit) (I : Nat → Sto) (hg : s.ev (XB E B) g = .fn (.func f) [] cap) (hnd : sel.Nodup) (hsel : mapO (fun b => s.st[b]?) sel = some own) (hown : own.all fzB = true)
    (hcap : mapO (reb sel) cap = some cap') (hxs : gI cap' own = some xs) (hfr : ∀ p ∈ l, s.fr p.1 = p.2)
    (hex : IsJump ex) (hI0 : I 0 = kill sel s.st) (hps : ∀ p ∈ ps.toList, p < s.n) (hflat : ∀ x ∈ xs, flatL x = true) (hlen : ∀ x ∈ xs, x.length = ps.size)
    (ro : ∀ (t : Nat) (x : List AV), xs[t]? = some x → t ≤ k → ∀ G1 : { G : Gh // G.σ = I t }, wk Tryz.prog (XRB E B) G1.1 (fun e s1 => e = .normal ∧ ∀ G2 : { G : Gh // G.σ = s1.st }, wk Tryz.prog (XRB E B) G2.1 (RoundEnd k ex I t) body [] s1) assign [] ⟨s.n, setPs (frL l) ps.toList x, I t⟩)
    (hdone : xs.length ≤ k → go Tryz.prog (XB E B) G0 Q kt .normal ⟨s.n, frL l, I xs.length⟩) (hstop : k < xs.length → go Tryz.prog (XB E B) G0 Q kt ex ⟨s.n, frL l, I (k + 1)⟩) : rf Tryz.prog (XB E B) G0 Q g ps assign body kt s := by
  refine ev_rangeFunc (X := XB E B) rfl rfl fz_gl hg si sel hnd hsel hown hcap hxs (frL l) (fun t => ?_) k ex I hex hI0 hps hflat hlen (fun t x hx ht G1 => ?_) hdone hstop
  · clear hsel hg hdone hstop ro hps hI0
    induction l with
    | nil => exact .inr rfl
    | cons p l ih =>
      obtain ⟨q, v⟩ := p
      simp only [frL]
      split
      · rename_i ht
        subst ht
        exact .inl (hfr (t, v) (by simp))
      · exact ih fun p hp => hfr p (by simp [hp])
  · refine ev_mono (ev_of_wk ok.rd hm (ro t x hx ht G1)) fun e s1 ⟨h1, h2⟩ => ⟨h1, fun G2 => ev_of_wk ok.rd hm (h2 G2)⟩
end Go.Proofs.YtgpkochbmfhmdaaGreatDoor.Lift
namespace Go.Proofs.YtgpkochbmfhmdaaGreatDoor.Lift
open Go
set_option maxRecDepth 100000

theorem blwL_of {k : Nat} : ∀ {l : List AV}, (∀ p ∈ l, blw k p = true) → blwL k l = true
  | [], _ => rfl
  | a :: l, h => by
    simp only [blwL, Bool.and_eq_true]
    exact ⟨h a (by simp), blwL_of fun p hp => h p (by simp [hp])⟩
theorem blw_of_cells {k : Nat} {x : AV} (h : blwL k x.cells = true) : blw k x = true := by
  cases x <;> simp_all [AV.cells, blw, blwL]
mutual
/-- what lies in memory refers to blocks that there are -/
theorem Rep.blw {G : Gh} {a : AV} {v : Value} (h : Rep G a v) : blw G.σ.length a = true := by
  match h with
  | .undef v => rfl
  | .bool b => rfl
  | .int k n => rfl
  | .str s => rfl
  | .nilp => rfl
  | .ptr h hr => obtain ⟨k, hk, _⟩ := h; simp only [Lift.blw, decide_eq_true_eq]; exact sto_lt hk
  | .rp h => simp only [Lift.blw]; exact blw_of_cells (RepCells.blw h)
  | .snil => rfl
  | .sl0 a cap h => rfl
  | .sle a cap => rfl
  | .sl hl h => simp only [Lift.blw]; exact RepElems.blw h
  | .sr0 h hr => obtain ⟨k, hk, _⟩ := h; simp only [Lift.blw, decide_eq_true_eq]; exact sto_lt hk
  | .sr h hr hl hb hc => obtain ⟨k, hk, _⟩ := h; simp only [Lift.blw, decide_eq_true_eq]; exact sto_lt hk
  | .srE h hr ho => obtain ⟨k, hk, _⟩ := h; simp only [Lift.blw, decide_eq_true_eq]; exact sto_lt hk
  | .fn h1 h2 => simp only [Lift.blw, Bool.and_eq_true]; exact ⟨RepL.blw h1, RepL.blw h2⟩
  | .nilf => rfl
  | .nilm => rfl
  | .mv hb hf h => simp only [Lift.blw]; exact RepE.blw h
  | .mv0 => rfl
  | .mr h hr => obtain ⟨k, hk, _⟩ := h; simp only [Lift.blw, decide_eq_true_eq]; exact sto_lt hk
  | .agg h => simp only [Lift.blw]; exact RepL.blw h
  | .tup h => simp only [Lift.blw]; exact RepL.blw h
theorem RepL.blw {G : Gh} {a : List AV} {v : List Value} (h : RepL G a v) : blwL G.σ.length a = true := by
  match h with
  | .nil => rfl
  | .cons h t => simp only [blwL, Bool.and_eq_true]; exact ⟨Rep.blw h, RepL.blw t⟩
theorem RepCells.blw {G : Gh} {a : List AV} {b o : Nat} (h : RepCells G a b o) : blwL G.σ.length a = true := by
  match h with
  | .nil _ _ => rfl
  | .cons hf hc h t => simp only [blwL, Bool.and_eq_true]; exact ⟨Rep.blw h, RepCells.blw t⟩
theorem RepElems.blw {G : Gh} {a : List AV} {b o sz : Nat} (h : RepElems G a b o sz) : blwL G.σ.length a = true := by
  match h with
  | .nil _ _ _ => rfl
  | .cons hs h t => simp only [blwL, Bool.and_eq_true]; exact ⟨blw_of_cells (RepCells.blw h), RepElems.blw t⟩
theorem RepE.blw {G : Gh} {a : List (AV × AV)} {v : List MapEntry} (h : RepE G a v) : blwE G.σ.length a = true := by
  match h with
  | .nil => rfl
  | .cons hk h1 h2 t => simp only [blwE, Bool.and_eq_true]; exact ⟨⟨Rep.blw h1, Rep.blw h2⟩, RepE.blw t⟩
end
/-- the store is shut: its blocks refer to blocks that there are -/
theorem Inv.shut {G : Gh} (inv : Inv G) : G.σ.all (blwB G.σ.length) = true := by
  rw [List.all_eq_true]
  intro k hk
  obtain ⟨b, hb, e⟩ := List.getElem_of_mem hk
  have hb' : G.σ[b]? = some k := by rw [← e]; exact List.getElem?_eq_getElem hb
  cases k with
  | row sz g lo xs =>
    obtain ⟨_, h2, h3⟩ := inv.rows b sz g lo xs hb'
    cases hr : G.ρ b g with
    | none => rw [h3 hr]; rfl
    | some blk =>
      obtain ⟨c, e, fz, _, _, h6, _⟩ := h2 blk hr
      refine blwL_of fun y hy => ?_
      obtain ⟨i, hi, e'⟩ := List.getElem_of_mem hy
      have hy' : xs[i]? = some y := by rw [← e']; exact List.getElem?_eq_getElem hi
      refine blw_of_cells (blwL_of fun z hz => ?_)
      obtain ⟨j, hj, e''⟩ := List.getElem_of_mem hz
      obtain ⟨v, _, h8⟩ := (h6 i y hy').2 j z (by rw [← e'']; exact List.getElem?_eq_getElem hj)
      exact h8.blw
  | map es =>
    obtain ⟨_, _, _, _, _, h, _⟩ := inv.maps b es hb'
    exact h.blw
  | tick n => rfl
  | dead sz g => rfl
  | iter s i => rfl

/-- a contract with a store, where nothing is foreign: the newest blocks are left at the end -/
theorem soundD_of_wk {E : Env} {B : List Nat} (ok : OkX Tryz.prog (XB E B)) (hm : Tryz.prog.follows .mixedOrders = true) {f : Nat} {fn : Func} (hf : Tryz.prog.funcs[f]? = some fn) (hb : fn.body.isSome = true) (hn : (fn.name == "runtime.NumGoroutine") = false) {S : Spec}
    (h : ∀ args st r st', S args st = some (r, st') → st.all (blwB st.length) = true → st.length ≤ st'.length ∧ st'.all (blwB st'.length) = true ∧ blw st'.length r = true ∧ ∀ G0 : { G : Gh // G.σ = st }, wk Tryz.prog (XB E B) G0.1 (fun e s => (e = .normal ∨ e = .ret) ∧ resAs (XB E B) s fn.results.toList = some r ∧ s.st.take st'.length = st') (fn.body.get hb) [] (entry fn args st)) : SoundF Tryz.prog gl f S where
  calls := fun G args vals r σ' hr inv hJ hg hargs => by
    obtain ⟨hlen, hall, hblw, hw⟩ := h args G.σ r σ' hr inv.shut
    have hev := ev_of_wk ok hm (hw ⟨G, rfl⟩)
    have hst := entry_st (X := XB E B) (fn := fn) inv hg hJ hargs
    have hc : fn.body = some (fn.body.get hb) := by simp
    refine .inl ⟨run_callFunc hf (by rw [← Option.not_isSome, hb]; rfl) hn _ _, (callsIn_wide (n := 0)).1 (callsIn_of_wp_marks hf hc trivial ?_)⟩
    refine wpIn_mono (hev Fence.wide 0 _ _ ⟨.inl rfl, .inr rfl⟩ hst) fun e a' w' ⟨s', ⟨he, h1, h2⟩, h3⟩ => ?_
    obtain ⟨G1, rfl, hs, inv1, hg1, x1, hJ1, rs, hd, hnd, hne, hrs⟩ := h3
    have key : LeavesInM Fence.wide 0 Tryz.prog fn a'.tmps (Ret G r σ') a'.defers .returning G1.w := by
      rw [hd]
      refine leaves_marks rs G1.w hnd (fun r hr => (hrs r hr).1) fun w' hp => ?_
      obtain ⟨G2, rfl, e2, x2, inv2, tr⟩ := hp.ext rfl (fun r hr => (hrs r hr).2.1) (fun h => hJ1.trans (hne h).1) inv1 x1
      have hs2 : Slots G2 s' a' := ⟨hs.1, fun t => tr _ _ (hs.2.1 t), e2.trans hs.2.2⟩
      obtain ⟨u, h4, h5⟩ := run_results (X := XB E B) rfl inv2 hs2 h1
      have hcut : s'.st = σ' ++ s'.st.drop σ'.length := by conv => lhs; rw [← List.take_append_drop σ'.length s'.st, h2]
      have hg2 : Glob (XB E B) G2 := fun g v hv => (hg g v hv).ext x2
      obtain ⟨_, inv3, _, x3⟩ := drop_at (X := XB E B) (a := a') (n := s'.n) (fr := fun _ => .undef) fz_gl hlen rfl hcut hall (fun _ => .inl rfl) hs2 inv2 hg2 x2
      refine ⟨u, h4, { G2 with σ := σ' }, rfl, rfl, x3, inv3, ?_⟩
      refine Rep.cut (k := σ'.length) (G := G2) (H := { G2 with σ := σ' }) ⟨rfl, rfl, rfl, fun b hb => ?_⟩ hblw h5
      show σ'[b]? = G2.σ[b]?
      rw [hs2.2.2, hcut, List.getElem?_append_left hb]
    rcases he with rfl | rfl <;> exact key
end Go.Proofs.YtgpkochbmfhmdaaGreatDoor.Lift
namespace Go.Proofs.YtgpkochbmfhmdaaGreatDoor.Lift
open Go
set_option maxRecDepth 100000

@[simp] def sCloneNil : Spec := fun args st => match args with
  | [.snil] => some (.snil, st)
  | _ => none
@[simp] def sCloneE (sz : Nat) : Spec := fun args st => match args with
  | [.sle] => some (.sr st.length 1 0 0, st ++ [.row sz 1 0 []])
  | _ => none
@[simp] def sCloneX (sz : Nat) (c : List AV → Bool) : Spec := fun args st => match args with
  | [.sl (x :: xs)] => if c (x :: xs) = true then some (.sr st.length 1 0 (xs.length + 1), st ++ [.row sz 1 0 (x :: xs)]) else none
  | _ => none
/-- a clone: a new block, with a generation of one (one append) -/
@[simp] def sClone (sz : Nat) (c : List AV → Bool) : Spec := fun args st => match args with
  | [.sl xs] => if c xs = true then some (.sr st.length 1 0 xs.length, st ++ [.row sz 1 0 xs]) else none
  | _ => none

/-- nothing new in memory: a row without elements more -/
theorem grow_none {G : Gh} (inv : Inv G) (sz : Nat) : ∃ H : Gh, H.w = G.w ∧ H.σ = G.σ ++ [.row sz 1 0 []] ∧ Ext G H ∧ Inv H ∧ H.ρ G.σ.length 1 = none := by
  let G1 := G.grow G.w none (.row sz 0 0 [])
  have x1 : Ext G G1 := ext_grow inv G.w none _ rfl rfl rfl (Nat.le_refl _) (fun _ _ => rfl) (fun _ h => by cases h)
  have inv1 : Inv G1 := inv_grow_row inv G.w none sz [] x1 (fun _ _ => rfl) (fun _ h => by cases h) (fun _ => rfl)
  have hb : G1.σ[G.σ.length]? = some (.row sz 0 0 []) := by simp [G1, Gh.grow]
  have x2 : Ext G1 (G1.turn G.w G.σ.length (.row sz (0 + 1) 0 []) none) := ext_move inv1 none hb rfl rfl rfl (Nat.le_refl _) (fun _ _ => rfl) (fun _ h => by cases h)
  have inv2 := inv_move (ys := []) inv1 none hb x2 (fun _ _ => rfl) (fun _ h => by cases h) (fun _ => rfl) (Nat.le_refl _)
  refine ⟨G1.turn G.w G.σ.length (.row sz (0 + 1) 0 []) none, rfl, ?_, x1.trans x2, inv2, ?_⟩
  · simp [Gh.turn, G1, Gh.grow]
  · simp [Gh.turn]

theorem clone_join {P : Program} {gl : Nat → Option AV} {J : Foe} {f sz : Nat} {c : List AV → Bool} (h0 : SoundJ P gl J f sCloneNil) (h1 : SoundJ P gl J f (sCloneE sz)) (h2 : SoundJ P gl J f (sCloneX sz c)) : SoundJ P gl J f (sClone sz c) where
  calls := fun G args vals r σ' hs inv hJ hg hargs => by
    unfold sClone at hs
    split at hs
    · rename_i xs
      cases xs with
      | cons x xs => exact h2.calls G [.sl (x :: xs)] vals r σ' hs inv hJ hg hargs
      | nil =>
        split at hs
        · rename_i hc
          cases hs
          cases hargs with
          | cons hv ht =>
            have nilcase : ∀ v, v = Value.slice none 0 0 → RepL G [.sl []] [v] → CallDone P f [v].toArray G.w (Ret G (.sr G.σ.length 1 0 0) (G.σ ++ [.row sz 1 0 []])) := fun v hv _ => by
              subst hv
              refine done_imp (h0.calls G [.snil] _ _ _ rfl inv hJ hg (.cons .snil .nil)) fun e w' he => ?_
              cases e with
              | panicked c => exact he.elim
              | outgrown => exact he.elim
              | returned u =>
                obtain ⟨G', rfl, hσ, x, inv', hr⟩ := he
                obtain ⟨H, e1, e2, x2, inv2, e3⟩ := grow_none inv' sz
                refine ⟨H, e1, by rw [e2, hσ], x.trans x2, inv2, ?_⟩
                cases hr
                rw [← hσ]
                exact .sr0 (sz := sz) ⟨.row sz 1 0 [], by rw [e2]; simp, Nat.le_refl _, rfl⟩ e3
            have otherwise_ : ∀ v, Rep G .sle v → CallDone P f [v].toArray G.w (Ret G (.sr G.σ.length 1 0 0) (G.σ ++ [.row sz 1 0 []])) := fun v hv =>
              h1.calls G [.sle] _ _ _ rfl inv hJ hg (.cons hv .nil)
            cases ht
            cases hv with
            | sl0 a cap h =>
              cases a with
              | none => have := h rfl; subst this; exact nilcase _ rfl (.cons (.sl0 none 0 h) .nil)
              | some a => exact otherwise_ _ (.sle a cap)
            | sl hl h => exact otherwise_ _ (.sle _ _)
        · cases hs
    · cases hs
end Go.Proofs.YtgpkochbmfhmdaaGreatDoor.Lift
