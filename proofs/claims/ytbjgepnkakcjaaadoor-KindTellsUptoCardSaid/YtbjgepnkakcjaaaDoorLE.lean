/-
  LIFT, E: HOW A WALK IS EVALUATED by simp: what is still to be walked is kept as data.
-/
import Derived.Test.YtbjgepnkakcjaaaDoorLT
namespace Go.Proofs.YtbjgepnkakcjaaaDoor.Lift
open Go

/-- what is still to be done -/
inductive Kt where
  | seq (c : Code)
  | block (id : Nat)
  | scope

section
variable (P : Program) (X : Cfg) (G0 : Gh) (Q : Exit → ASt → Prop)
/-- an exit comes to what is still to be done -/
def go : List Kt → Exit → ASt → Prop
  | [], e, s => Q e s
  | .seq c :: k, e, s => thenQ (fun s' => wpC P X G0 c s' (go k)) (go k) e s
  | .block id :: k, e, s => blockQ id (go k) e s
  | .scope :: k, e, s => scopeQ (go k) e s
/-- code, and what is still to be done -/
def wk (c : Code) (k : List Kt) (s : ASt) : Prop := wpC P X G0 c s (go P X G0 Q k)
/-- operations (r) of a region (g) -/
def ro (g r : List Oper) (k : List Kt) (s : ASt) : Prop := runOps X (gdOf g) r s (go P X G0 Q k .normal)
def so (o : Option ASt) (g r : List Oper) (k : List Kt) : Prop := onSome o fun s1 => runOps X (gdOf g) r s1 (go P X G0 Q k .normal)
/-- operations of a region that draws -/
def rd (g : List Oper) (i : Nat) (r : List Oper) (k : List Kt) (s : ASt) : Prop := runDraw X g.toArray (ancTab g []) r i s (go P X G0 Q k .normal)
def sd (o : Option ASt) (st : Sto) (g : List Oper) (i : Nat) (r : List Oper) (k : List Kt) : Prop :=
  onSome o fun s1 => (s1.st = st ∨ barrier g.toArray (ancTab g []) i = true) ∧ runDraw X g.toArray (ancTab g []) r (i + 1) s1 (go P X G0 Q k .normal)
/-- a branch -/
def br (v : AV) (x y : Code) (k : List Kt) (s : ASt) : Prop := branch v (wk P X G0 Q x k s) (wk P X G0 Q y k s)
/-- a region that draws may be taken in the text's order -/
def dk (g : List Oper) (k : List Kt) (s : ASt) : Prop := drawOK g.toArray (ancTab g []) = true ∧ rd P X G0 Q g 0 g k s
/-- a block's exit -/
def bx (b : Bool) (l : Nat) (k : List Kt) (s : ASt) : Prop := if b = true then go P X G0 Q k .normal s else go P X G0 Q k (.exit l) s
/-- a loop, and what is still to be done -/
def lp (c : Code) (k : List Kt) (s : ASt) : Prop := Ev P X G0 (.loop c) s (go P X G0 Q k)
def rf (f : Operand) (ps : Array Nat) (x y : Code) (k : List Kt) (s : ASt) : Prop := Ev P X G0 (.rangeFunc f ps x y) s (go P X G0 Q k)
end

section
variable {P : Program} {X : Cfg} {G0 : Gh} {Q : Exit → ASt → Prop} {s : ASt} {k : List Kt}
@[simp] theorem wk_skip : wk P X G0 Q .skip k s = go P X G0 Q k .normal s := rfl
@[simp] theorem wk_label {l : Nat} : wk P X G0 Q (.label l) k s = go P X G0 Q k .normal s := rfl
@[simp] theorem wk_exit {l : Nat} : wk P X G0 Q (.exit l) k s = go P X G0 Q k (.exit l) s := rfl
@[simp] theorem wk_goto {l : Nat} : wk P X G0 Q (.goto l) k s = go P X G0 Q k (.goto l) s := rfl
@[simp] theorem wk_ret : wk P X G0 Q .ret k s = go P X G0 Q k .ret s := rfl
@[simp] theorem wk_seq {x y : Code} : wk P X G0 Q (.seq x y) k s = wk P X G0 Q x (.seq y :: k) s := rfl
@[simp] theorem wk_cond {c : Operand} {x y : Code} : wk P X G0 Q (.cond c x y) k s = br P X G0 Q (s.ev X c) x y k s := rfl
@[simp] theorem wk_block {id : Nat} {c : Code} : wk P X G0 Q (.block id c) k s = wk P X G0 Q c (.block id :: k) s := rfl
@[simp] theorem wk_scope {c : Code} : wk P X G0 Q (.scope c) k s = wk P X G0 Q c (.scope :: k) s := rfl
@[simp] theorem wk_region {id : Nat} {l : List Oper} : wk P X G0 Q (.region id l.toArray false) k s = ro P X G0 Q l l k s := rfl
@[simp] theorem wk_draw {id : Nat} {l : List Oper} : wk P X G0 Q (.region id l.toArray true) k s = dk P X G0 Q l k s := rfl
@[simp] theorem wk_loop {c : Code} : wk P X G0 Q (.loop c) k s = lp P X G0 Q c k s := rfl
@[simp] theorem wk_rangeFunc {f : Operand} {ps : Array Nat} {x y : Code} : wk P X G0 Q (.rangeFunc f ps x y) k s = rf P X G0 Q f ps x y k s := rfl
@[simp] theorem go_nil {e : Exit} : go P X G0 Q [] e s = Q e s := rfl
@[simp] theorem go_seq {c : Code} : go P X G0 Q (.seq c :: k) .normal s = wk P X G0 Q c k s := rfl
@[simp] theorem go_seq_ret {c : Code} : go P X G0 Q (.seq c :: k) .ret s = go P X G0 Q k .ret s := rfl
@[simp] theorem go_seq_exit {c : Code} {l : Nat} : go P X G0 Q (.seq c :: k) (.exit l) s = go P X G0 Q k (.exit l) s := rfl
@[simp] theorem go_seq_goto {c : Code} {l : Nat} : go P X G0 Q (.seq c :: k) (.goto l) s = go P X G0 Q k (.goto l) s := rfl
@[simp] theorem go_block {id : Nat} : go P X G0 Q (.block id :: k) .normal s = go P X G0 Q k .normal s := rfl
@[simp] theorem go_block_ret {id : Nat} : go P X G0 Q (.block id :: k) .ret s = go P X G0 Q k .ret s := rfl
@[simp] theorem go_block_goto {id l : Nat} : go P X G0 Q (.block id :: k) (.goto l) s = go P X G0 Q k (.goto l) s := rfl
@[simp] theorem go_block_exit {id l : Nat} : go P X G0 Q (.block id :: k) (.exit l) s = bx P X G0 Q (l == id) l k s := by simp [go, blockQ, bx]
@[simp] theorem bx_true {l : Nat} : bx P X G0 Q true l k s = go P X G0 Q k .normal s := rfl
@[simp] theorem bx_false {l : Nat} : bx P X G0 Q false l k s = go P X G0 Q k (.exit l) s := rfl
@[simp] theorem go_scope : go P X G0 Q (.scope :: k) .normal s = go P X G0 Q k .normal s := rfl
@[simp] theorem go_scope_ret : go P X G0 Q (.scope :: k) .ret s = go P X G0 Q k .ret s := rfl
@[simp] theorem go_scope_exit {l : Nat} : go P X G0 Q (.scope :: k) (.exit l) s = go P X G0 Q k (.exit l) s := rfl
@[simp] theorem ro_nil {g : List Oper} : ro P X G0 Q g [] k s = go P X G0 Q k .normal s := rfl
@[simp] theorem ro_cons {g r : List Oper} {o : Oper} : ro P X G0 Q g (o :: r) k s = so P X G0 Q (step1 X (gdOf g) s o) g r k := rfl
@[simp] theorem so_some {g r : List Oper} : so P X G0 Q (some s) g r k = ro P X G0 Q g r k s := by simp [so, ro, onSome]
@[simp] theorem so_none {g r : List Oper} : so P X G0 Q none g r k = False := by simp [so, onSome]
@[simp] theorem rd_nil {g : List Oper} {i : Nat} : rd P X G0 Q g i [] k s = go P X G0 Q k .normal s := rfl
@[simp] theorem rd_cons {g r : List Oper} {i : Nat} {o : Oper} : rd P X G0 Q g i (o :: r) k s = sd P X G0 Q (step1 X (gdOf g) s o) s.st g i r k := rfl
@[simp] theorem sd_same {g r : List Oper} {i n : Nat} {fr : Nat → AV} {st : Sto} : sd P X G0 Q (some ⟨n, fr, st⟩) st g i r k = rd P X G0 Q g (i + 1) r k ⟨n, fr, st⟩ := by simp [sd, rd, onSome]
theorem sd_barrier {g r : List Oper} {i : Nat} {st : Sto} (h : barrier g.toArray (ancTab g []) i = true) : sd P X G0 Q (some s) st g i r k = rd P X G0 Q g (i + 1) r k s := by simp [sd, rd, onSome, h]
theorem sd_of {g r : List Oper} {i : Nat} {st : Sto} (h : barrier g.toArray (ancTab g []) i = true) (h' : rd P X G0 Q g (i + 1) r k s) : sd P X G0 Q (some s) st g i r k := by rw [sd_barrier h]; exact h'
@[simp] theorem sd_none {g r : List Oper} {i : Nat} {st : Sto} : sd P X G0 Q none st g i r k = False := by simp [sd, onSome]
@[simp] theorem br_true {x y : Code} : br P X G0 Q (.bool true) x y k s = wk P X G0 Q x k s := by simp [br, branch]
@[simp] theorem br_false {x y : Code} : br P X G0 Q (.bool false) x y k s = wk P X G0 Q y k s := by simp [br, branch]
theorem br_dec {p : Prop} [Decidable p] {x y : Code} (h1 : p → wk P X G0 Q x k s) (h2 : ¬p → wk P X G0 Q y k s) : br P X G0 Q (.bool (decide p)) x y k s := ⟨_, rfl, fun h => h1 (of_decide_eq_true h), fun h => h2 (of_decide_eq_false h)⟩
theorem br_bool {b : Bool} {x y : Code} (h1 : b = true → wk P X G0 Q x k s) (h2 : b = false → wk P X G0 Q y k s) : br P X G0 Q (.bool b) x y k s := ⟨_, rfl, h1, h2⟩
/-- an operation's result, given -/
theorem so_see {o : Option ASt} {g r : List Oper} (s' : ASt) (h : o = some s') (h2 : ro P X G0 Q g r k s') : so P X G0 Q o g r k := by subst h; rw [so_some]; exact h2
/-- an operation that waits for a truth value -/
@[irreducible] def gstep (w : Option Bool) (x y : Option ASt) : Option ASt := match w with | some true => x | some false => y | none => none
@[simp] theorem gstep_true {x y : Option ASt} : gstep (some true) x y = x := by unfold gstep; rfl
@[simp] theorem gstep_false {x y : Option ASt} : gstep (some false) x y = y := by unfold gstep; rfl
@[simp] theorem gstep_none {x y : Option ASt} : gstep none x y = none := by unfold gstep; rfl
theorem step1_gs {gd : Nat → Option Nat} {o : Oper} : step1 X gd s o = gstep (wantedA gd s o) (match evOper X s o with | some (v, st) => ASt.put { s with st := st } o.dst v | none => none) (s.put o.dst (.tup [])) := by
  unfold step1
  generalize evOper X s o = e
  generalize wantedA gd s o = w
  cases w with
  | none => exact gstep_none.symm
  | some b =>
    cases b with
    | true => rw [gstep_true]; cases e <;> rfl
    | false => rw [gstep_false]
theorem gs_dec {p : Prop} [Decidable p] {x y : Option ASt} {g r : List Oper} (h1 : p → so P X G0 Q x g r k) (h2 : ¬p → so P X G0 Q y g r k) : so P X G0 Q (gstep (some (decide p)) x y) g r k := by
  by_cases h : p
  · simp only [h, decide_true, gstep_true]; exact h1 h
  · simp only [h, decide_false, gstep_false]; exact h2 h
theorem gs_ndec {p : Prop} [Decidable p] {x y : Option ASt} {g r : List Oper} (h1 : p → so P X G0 Q y g r k) (h2 : ¬p → so P X G0 Q x g r k) : so P X G0 Q (gstep (some (!decide p)) x y) g r k := by
  by_cases h : p
  · simp only [h, decide_true, Bool.not_true, gstep_false]; exact h1 h
  · simp only [h, decide_false, Bool.not_false, gstep_true]; exact h2 h
theorem gs_bool {b : Bool} {x y : Option ASt} {g r : List Oper} (h1 : b = true → so P X G0 Q x g r k) (h2 : b = false → so P X G0 Q y g r k) : so P X G0 Q (gstep (some b) x y) g r k := by
  cases b
  · simp only [gstep_false]; exact h2 rfl
  · simp only [gstep_true]; exact h1 rfl
theorem gs_nbool {b : Bool} {x y : Option ASt} {g r : List Oper} (h1 : b = true → so P X G0 Q y g r k) (h2 : b = false → so P X G0 Q x g r k) : so P X G0 Q (gstep (some (!b)) x y) g r k := by
  cases b
  · simp only [Bool.not_false, gstep_true]; exact h2 rfl
  · simp only [Bool.not_true, gstep_false]; exact h1 rfl
theorem dk_of {g : List Oper} (h : drawOK g.toArray (ancTab g []) = true) (h' : rd P X G0 Q g 0 g k s) : dk P X G0 Q g k s := ⟨h, h'⟩
/-- a walk's beginning -/
theorem ev_of_wk (ok : OkX P X) (hm : P.follows .mixedOrders = true) {c : Code} (h : wk P X G0 Q c [] s) : Ev P X G0 c s Q := wpC_ev ok hm c s _ h
/-- the end of a round: the next one's beginning -/
def nextQ (X : Cfg) (G0 : Gh) {α : Type} (I : α → ASt) (ok : α → Prop) (μ : α → Nat) (x : α) (s' : ASt) : Prop := ∃ y, ok y ∧ μ y < μ x ∧ Less X G0 s' (I y)
/-- a round's exits -/
def loopQ (X : Cfg) (G0 : Gh) {α : Type} (I : α → ASt) (ok : α → Prop) (μ : α → Nat) (x : α) (Q : Exit → ASt → Prop) : Exit → ASt → Prop := thenQ (nextQ X G0 I ok μ x) Q
section
variable {α : Type} {I : α → ASt} {okk : α → Prop} {μ : α → Nat} {x : α}
@[simp] theorem loopQ_normal : loopQ X G0 I okk μ x Q .normal s = nextQ X G0 I okk μ x s := rfl
@[simp] theorem loopQ_ret : loopQ X G0 I okk μ x Q .ret s = Q .ret s := rfl
@[simp] theorem loopQ_exit {l : Nat} : loopQ X G0 I okk μ x Q (.exit l) s = Q (.exit l) s := rfl
@[simp] theorem loopQ_goto {l : Nat} : loopQ X G0 I okk μ x Q (.goto l) s = Q (.goto l) s := rfl
theorem nextQ_of (y : α) (h1 : okk y) (h2 : μ y < μ x) (h3 : Weak s (I y)) : nextQ X G0 I okk μ x s := ⟨y, h1, h2, h3.less⟩
theorem nextQ_less (y : α) (h1 : okk y) (h2 : μ y < μ x) (h3 : Less X G0 s (I y)) : nextQ X G0 I okk μ x s := ⟨y, h1, h2, h3⟩
end
theorem lp_of {c : Code} {α : Type} (ok : OkX P X) (hm : P.follows .mixedOrders = true) (I : α → ASt) (okk : α → Prop) (μ : α → Nat) (x0 : α) (h0 : okk x0) (hs0 : Weak s (I x0))
    (round : ∀ x, okk x → wk P X G0 (loopQ X G0 I okk μ x (go P X G0 Q k)) c [] (I x)) : lp P X G0 Q c k s := ev_loop I okk μ x0 h0 hs0.less fun x hx => ev_of_wk ok hm (round x hx)
end

@[simp] theorem frL_nil (t : Nat) : frL [] t = .undef := rfl
@[simp] theorem frL_cons (k : Nat) (v : AV) (r : List (Nat × AV)) (t : Nat) : frL ((k, v) :: r) t = if t = k then v else frL r t := rfl
@[simp] theorem range_1 : List.range 1 = [0] := rfl
@[simp] theorem range_2 : List.range 2 = [0, 1] := rfl
@[simp] theorem range_3 : List.range 3 = [0, 1, 2] := rfl
@[simp] theorem range_4 : List.range 4 = [0, 1, 2, 3] := rfl
@[simp] theorem range_5 : List.range 5 = [0, 1, 2, 3, 4] := rfl
@[simp] theorem range_6 : List.range 6 = [0, 1, 2, 3, 4, 5] := rfl
@[simp] theorem range_7 : List.range 7 = [0, 1, 2, 3, 4, 5, 6] := rfl
@[simp] theorem range_8 : List.range 8 = [0, 1, 2, 3, 4, 5, 6, 7] := rfl
@[simp] theorem range_9 : List.range 9 = [0, 1, 2, 3, 4, 5, 6, 7, 8] := rfl
@[simp] theorem range_10 : List.range 10 = [0, 1, 2, 3, 4, 5, 6, 7, 8, 9] := rfl
@[simp] theorem range_11 : List.range 11 = [0, 1, 2, 3, 4, 5, 6, 7, 8, 9, 10] := rfl
@[simp] theorem range_12 : List.range 12 = [0, 1, 2, 3, 4, 5, 6, 7, 8, 9, 10, 11] := rfl
@[simp] theorem range_13 : List.range 13 = [0, 1, 2, 3, 4, 5, 6, 7, 8, 9, 10, 11, 12] := rfl
@[simp] theorem range_14 : List.range 14 = [0, 1, 2, 3, 4, 5, 6, 7, 8, 9, 10, 11, 12, 13] := rfl
@[simp] theorem range_15 : List.range 15 = [0, 1, 2, 3, 4, 5, 6, 7, 8, 9, 10, 11, 12, 13, 14] := rfl
@[simp] theorem range_16 : List.range 16 = [0, 1, 2, 3, 4, 5, 6, 7, 8, 9, 10, 11, 12, 13, 14, 15] := rfl
attribute [simp] lenOf loadAt storeAt elemsOf entsOf

/-- the end of a function's walk -/
def fin (X : Cfg) (rs : List ResultVar) (r : AV) (e : Exit) (s : ASt) : Prop := (e = .normal ∨ e = .ret) ∧ ∃ d r0, resAs X s rs = some r0 ∧ peek s.st d r0 = some r
theorem fin_of {X : Cfg} {rs : List ResultVar} {r r0 : AV} {e : Exit} {s : ASt} (d : Nat) (he : e = .normal ∨ e = .ret) (h : resAs X s rs = some r0) (hp : peek s.st d r0 = some r) : fin X rs r e s := ⟨he, d, r0, h, hp⟩
/-- the results at a function's end -/
def finS (o : Option AV) (st : Sto) (r : AV) : Prop := ∃ d r0, o = some r0 ∧ peek st d r0 = some r
theorem finS_of {st : Sto} {r0 r : AV} (d : Nat) (h : peek st d r0 = some r) : finS (some r0) st r := ⟨d, r0, rfl, h⟩
theorem finS_fz {st : Sto} {v : AV} (h : fz v = true) : finS (some v) st v := ⟨0, v, rfl, peek_fz h⟩
@[simp] theorem fin_ret {X : Cfg} {rs : List ResultVar} {r : AV} {s : ASt} : fin X rs r .ret s = finS (resAs X s rs) s.st r := by simp [fin, finS]
@[simp] theorem fin_normal {X : Cfg} {rs : List ResultVar} {r : AV} {s : ASt} : fin X rs r .normal s = finS (resAs X s rs) s.st r := by simp [fin, finS]
attribute [simp] resAs resA liftS
theorem peek_of_fz {st : Sto} {d : Nat} {v r : AV} (h : fz v = true) : (peek st d v = some r) = (v = r) := by rw [peek_fz h]; simp
@[simp] theorem peek_9 {st : Sto} {v : AV} : peek st 9 v = if fz v = true then some v else peek1 st (peek st 8) v := rfl
@[simp] theorem peek_8 {st : Sto} {v : AV} : peek st 8 v = if fz v = true then some v else peek1 st (peek st 7) v := rfl
@[simp] theorem peek_7 {st : Sto} {v : AV} : peek st 7 v = if fz v = true then some v else peek1 st (peek st 6) v := rfl
@[simp] theorem peek_6 {st : Sto} {v : AV} : peek st 6 v = if fz v = true then some v else peek1 st (peek st 5) v := rfl
@[simp] theorem peek_5 {st : Sto} {v : AV} : peek st 5 v = if fz v = true then some v else peek1 st (peek st 4) v := rfl
@[simp] theorem peek_4 {st : Sto} {v : AV} : peek st 4 v = if fz v = true then some v else peek1 st (peek st 3) v := rfl
@[simp] theorem peek_3 {st : Sto} {v : AV} : peek st 3 v = if fz v = true then some v else peek1 st (peek st 2) v := rfl
@[simp] theorem peek_2 {st : Sto} {v : AV} : peek st 2 v = if fz v = true then some v else peek1 st (peek st 1) v := rfl
@[simp] theorem peek_1 {st : Sto} {v : AV} : peek st 1 v = if fz v = true then some v else peek1 st (peek st 0) v := rfl
@[simp] theorem peek_0 {st : Sto} {v : AV} : peek st 0 v = if fz v = true then some v else none := rfl
@[simp] theorem mapO_peek {st : Sto} {d : Nat} : ∀ {xs : List AV}, fzL xs = true → mapO (peek st d) xs = some xs
  | [], _ => rfl
  | x :: xs, h => by
    simp only [fzL, Bool.and_eq_true] at h
    simp only [mapO, peek_fz h.1, mapO_peek h.2]
attribute [simp] peek1 flat flatL noMaps frz blw blwL blwE blwB
/-- the newest blocks are left, by the number of those that stay -/
theorem less_take {X : Cfg} (hz : FzG X.G) {G0 : Gh} (h0 : G0.σ = []) {s : ASt} {n : Nat} {st : Sto} {l : List (Nat × AV)} (hn : s.n = n) (hst : s.st.take st.length = st) (hb : st.all (blwB st.length) = true)
    (hf : ∀ p ∈ l, s.fr p.1 = p.2 ∧ blw st.length p.2 = true) : Less X G0 s ⟨n, frL l, st⟩ :=
  less_frL hz (st2 := s.st.drop st.length) (by rw [h0]; exact Nat.zero_le _) hn (by conv => lhs; rw [← List.take_append_drop st.length s.st, hst]) hb hf
attribute [-simp] step1
attribute [simp] step1_gs
theorem finS_eq {st : Sto} {v w : AV} (h : v = w) (hw : fz w = true) : finS (some v) st w := by subst h; exact finS_fz hw
end Go.Proofs.YtbjgepnkakcjaaaDoor.Lift
