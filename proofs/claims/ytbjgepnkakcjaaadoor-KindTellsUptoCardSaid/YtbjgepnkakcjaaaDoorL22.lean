/-
  LIFT, 22: CODE: what a walk from an abstract state comes to ('Ev'), its rules, and the walk of code without loops ('wpC').
-/
import Derived.Test.YtbjgepnkakcjaaaDoorL21
import Derived.Scope
import Derived.LoopNIn
namespace Go.Proofs.YtbjgepnkakcjaaaDoor.Lift
open Go

/-- FROM s, THE CODE COMES TO A STATE IN Q -/
def Ev (P : Program) (X : Cfg) (G0 : Gh) (c : Code) (s : ASt) (Q : Exit → ASt → Prop) : Prop :=
  ∀ (F : Fence) (n : Nat) (a : Act) (w : World), FW F → St X G0 s a w → c.wpIn F n P (fun e a' w' => ∃ s', Q e s' ∧ St X G0 s' a' w') a w

/-- a state that knows less -/
def Weak (s s' : ASt) : Prop := s'.n = s.n ∧ s'.st = s.st ∧ ∀ t, s'.fr t = s.fr t ∨ s'.fr t = .undef

theorem Weak.st {X : Cfg} {G0 : Gh} {s s' : ASt} {a : Act} {w : World} (h : Weak s s') (hs : St X G0 s a w) : St X G0 s' a w := by
  obtain ⟨G, h1, ⟨h2, h3, h4⟩, h5⟩ := hs
  refine ⟨G, h1, ⟨by rw [h.1]; exact h2, fun t => ?_, by rw [h4, h.2.1]⟩, h5⟩
  rcases h.2.2 t with h | h <;> rw [h]
  · exact h3 t
  · exact .undef _

section
variable {P : Program} {X : Cfg} {G0 : Gh} {s s' : ASt} {Q Q' : Exit → ASt → Prop}

theorem ev_mono {c : Code} (h : Ev P X G0 c s Q) (hq : ∀ e s, Q e s → Q' e s) : Ev P X G0 c s Q' :=
  fun F n a w hF hs => wpIn_mono (h F n a w hF hs) fun _ _ _ ⟨s', h1, h2⟩ => ⟨s', hq _ _ h1, h2⟩
/-- each machine's state that is as s says is as s' says -/
def Less (X : Cfg) (G0 : Gh) (s s' : ASt) : Prop := ∀ a w, St X G0 s a w → St X G0 s' a w
theorem Weak.less {s s' : ASt} (h : Weak s s') : Less X G0 s s' := fun _ _ hs => h.st hs
theorem ev_weak {c : Code} (hw : Less X G0 s s') (h : Ev P X G0 c s' Q) : Ev P X G0 c s Q := fun F n a w hF hs => h F n a w hF (hw a w hs)

/-- the exits of a code that another follows -/
def thenQ (y : ASt → Prop) (Q : Exit → ASt → Prop) : Exit → ASt → Prop
  | .normal, s => y s
  | e, s => Q e s
def blockQ (id : Nat) (Q : Exit → ASt → Prop) : Exit → ASt → Prop
  | .exit id', s => if id' = id then Q .normal s else Q (.exit id') s
  | e, s => Q e s
def scopeQ (Q : Exit → ASt → Prop) : Exit → ASt → Prop
  | .goto _, _ => False
  | e, s => Q e s

theorem ev_skip (h : Q .normal s) : Ev P X G0 .skip s Q := fun _ _ _ _ _ hs => wpIn_skip ⟨s, h, hs⟩
theorem ev_label {l : Nat} (h : Q .normal s) : Ev P X G0 (.label l) s Q := fun _ _ _ _ _ hs => wpIn_label ⟨s, h, hs⟩
theorem ev_exit {l : Nat} (h : Q (.exit l) s) : Ev P X G0 (.exit l) s Q := fun _ _ _ _ _ hs => wpIn_exit ⟨s, h, hs⟩
theorem ev_goto {l : Nat} (h : Q (.goto l) s) : Ev P X G0 (.goto l) s Q := fun _ _ _ _ _ hs => wpIn_goto ⟨s, h, hs⟩
theorem ev_ret (h : Q .ret s) : Ev P X G0 .ret s Q := fun _ _ _ _ _ hs => wpIn_ret ⟨s, h, hs⟩
theorem ev_seq {x y : Code} (h : Ev P X G0 x s (thenQ (fun s' => Ev P X G0 y s' Q) Q)) : Ev P X G0 (.seq x y) s Q := fun F n a w hF hs =>
  wpIn_seq (wpIn_mono (h F n a w hF hs) fun e a' w' ⟨s', h1, h2⟩ => by
    cases e with
    | normal => exact h1 F n a' w' hF h2
    | _ => exact ⟨s', h1, h2⟩)
theorem ev_cond {c : Operand} {x y : Code} {t : Bool} (hG : True) (hc : ASt.ev X s c = .bool t) (h1 : t = true → Ev P X G0 x s Q) (h2 : t = false → Ev P X G0 y s Q) : Ev P X G0 (.cond c x y) s Q := fun F n a w hF hs => by
  obtain ⟨G, hw, hsl, inv, hg, hx, hm⟩ := id hs
  have hr := hsl.ev hg c
  rw [hc] at hr
  have hv : a.eval c = .bool t := by
    generalize a.eval c = v at hr
    cases hr
    rfl
  exact wpIn_cond_split hv (fun ht => h1 ht F n a w hF hs) (fun ht => h2 ht F n a w hF hs)
theorem ev_block {id : Nat} {c : Code} (h : Ev P X G0 c s (blockQ id Q)) : Ev P X G0 (.block id c) s Q := fun F n a w hF hs =>
  wpIn_block (wpIn_mono (h F n a w hF hs) fun e a' w' ⟨s', h1, h2⟩ => by
    cases e with
    | exit id' =>
      simp only [blockQ, Exit.inBlock] at h1 ⊢
      split <;> rename_i hid
      · rw [if_pos hid] at h1; exact ⟨s', h1, h2⟩
      · rw [if_neg hid] at h1; exact ⟨s', h1, h2⟩
    | _ => exact ⟨s', h1, h2⟩)
theorem ev_region (ok : OkX P X) {id : Nat} {ops : Array Oper} (h : ∃ s', evOps X (gdOf ops.toList) ops.toList s = some s' ∧ Q .normal s') : Ev P X G0 (.region id ops false) s Q := fun F n a w hF hs => by
  obtain ⟨s', h1, h2⟩ := h
  exact region_sound ok hF h1 hs fun a w h => ⟨s', h2, h⟩
theorem ev_draw (ok : OkX P X) (hm : P.follows .mixedOrders = true) {id : Nat} {ops : Array Oper} {tab : List (List Nat)} (hok : drawOK ops tab = true) (h : drawP X ops tab ops.toList 0 s (Q .normal)) : Ev P X G0 (.region id ops true) s Q := fun F n a w hF hs => by
  obtain ⟨s', h1, h2⟩ := drawP_sound hok h
  exact draw_sound ok hF (fun t => by rw [hm]; exact h1 t) hs fun a w h => ⟨s', h2, h⟩

/-- a loop that ends within m rounds -/
def Rounds (P : Program) (X : Cfg) (G0 : Gh) (c : Code) (Q : Exit → ASt → Prop) : Nat → ASt → Prop
  | 0, _ => False
  | m + 1, s => Ev P X G0 c s (thenQ (Rounds P X G0 c Q m) Q)
theorem ev_rounds {c : Code} (m : Nat) (h : Rounds P X G0 c Q m s) : Ev P X G0 (.loop c) s Q := fun F n a w hF hs => by
  refine wpIn_loop_rounds m ?_
  induction m generalizing s a w with
  | zero => exact h.elim
  | succ m ih =>
    refine wpIn_mono (h F n a w hF hs) fun e a' w' ⟨s', h1, h2⟩ => ?_
    cases e with
    | normal => exact ih h1 a' w' h2
    | _ => exact ⟨s', h1, h2⟩
theorem rounds_weak {c : Code} {m : Nat} (hw : Less X G0 s s') (h : Rounds P X G0 c Q m s') : Rounds P X G0 c Q m s := by
  cases m with
  | zero => exact h
  | succ m => exact ev_weak hw h
/-- a loop: what holds at the head of each round, and what each round makes less -/
theorem ev_loop {c : Code} {α : Type} (I : α → ASt) (ok : α → Prop) (μ : α → Nat) (x0 : α) (h0 : ok x0) (hs0 : Less X G0 s (I x0))
    (round : ∀ x, ok x → Ev P X G0 c (I x) (thenQ (fun s' => ∃ y, ok y ∧ μ y < μ x ∧ Less X G0 s' (I y)) Q)) : Ev P X G0 (.loop c) s Q := by
  refine ev_weak hs0 (ev_rounds (μ x0 + 1) ?_)
  have key : ∀ (m : Nat) (x : α), μ x < m → ok x → Rounds P X G0 c Q m (I x) := by
    intro m
    induction m with
    | zero => intro x h; omega
    | succ m ih =>
      intro x hx hok
      refine ev_mono (round x hok) fun e s hq => ?_
      cases e with
      | normal =>
        obtain ⟨y, hy, hlt, hw⟩ := hq
        exact rounds_weak hw (ih y (by omega) hy)
      | _ => exact hq
  exact key _ x0 (by omega) h0
theorem ev_scope {c : Code} (h : Ev P X G0 c s (scopeQ Q)) : Ev P X G0 (.scope c) s Q := fun F n a w hF hs => by
  have h1 := h F n a w hF hs
  intro b k cs hro hb hr
  have h0 : (lone (b.atR a (.code (.scope c) :: k)) cs w).fenced P F := fenced_calm hb hr rfl
  have st1 : step P (lone (b.atR a (.code (.scope c) :: k)) cs w) = .next (lone (b.atR a (.code c :: .inScope c :: k)) cs w) := step_lone_go (by simp [stepG, stepG.exec, Frame.atR])
  obtain ⟨e, a₁, w₁, hq, harr⟩ := h1 b (.inScope c :: k) cs hro hb hr
  cases e with
  | normal =>
    have st2 : step P (lone (b.atR a₁ (.inScope c :: k)) cs w₁) = .next (lone (b.atR a₁ k) cs w₁) := step_lone_go (by simp [stepG, stepG.exec, Frame.atR])
    exact ⟨.normal, a₁, w₁, hq, .head h0 st1 (StepsIn.trans harr (.one (fenced_calm hb hr rfl) st2))⟩
  | exit id =>
    have hx : exitTo id (.inScope c :: k) = exitTo id k := by simp [exitTo]
    exact ⟨_, a₁, w₁, hq, fun k' hk => .head h0 st1 (harr.1 k' (by rw [hx]; exact hk)), fun hr' hk => let ⟨k₁, h1, h2⟩ := harr.2 hr' (by rw [hx]; exact hk); ⟨k₁, h1, .head h0 st1 h2⟩⟩
  | goto l => obtain ⟨s', hq, _⟩ := hq; exact hq.elim
  | ret => exact ⟨_, a₁, w₁, hq, .of_steps (.one h0 st1) harr⟩
  | panic ch => exact ⟨_, a₁, w₁, hq, .of_steps (.one h0 st1) harr⟩
  | outgrown => exact ⟨_, a₁, w₁, hq, .of_steps (.one h0 st1) harr⟩
end

/-- there is one, and K holds of it -/
def onSome {α : Type} (o : Option α) (K : α → Prop) : Prop := ∃ x, o = some x ∧ K x
theorem onSome_some {α : Type} (x : α) (K : α → Prop) : onSome (some x) K = K x := by simp [onSome]
theorem onSome_none {α : Type} (K : α → Prop) : onSome none K = False := by simp [onSome]
theorem onSome_congr {α : Type} {o o' : Option α} {K : α → Prop} (h : o = o') : onSome o K = onSome o' K := by rw [h]

/-- operations one behind the other, and then K -/
def runOps (X : Cfg) (gd : Nat → Option Nat) : List Oper → ASt → (ASt → Prop) → Prop
  | [], s, K => K s
  | o :: r, s, K => onSome (step1 X gd s o) fun s1 => runOps X gd r s1 K
theorem runOps_ev {X : Cfg} {gd : Nat → Option Nat} {K : ASt → Prop} : ∀ {l : List Oper} {s : ASt}, runOps X gd l s K → ∃ s', evOps X gd l s = some s' ∧ K s'
  | [], s, h => ⟨s, rfl, h⟩
  | o :: r, s, ⟨s1, h1, h2⟩ => by
    obtain ⟨s', h3, h4⟩ := runOps_ev h2
    exact ⟨s', by simp only [evOps, h1, h3], h4⟩
def runDraw (X : Cfg) (ops : Array Oper) (tab : List (List Nat)) : List Oper → Nat → ASt → (ASt → Prop) → Prop
  | [], _, s, K => K s
  | o :: r, i, s, K => onSome (step1 X (gdOf ops.toList) s o) fun s1 => (s1.st = s.st ∨ barrier ops tab i = true) ∧ runDraw X ops tab r (i + 1) s1 K
theorem runDraw_ev {X : Cfg} {ops : Array Oper} {tab : List (List Nat)} {K : ASt → Prop} : ∀ {l : List Oper} {i : Nat} {s : ASt}, runDraw X ops tab l i s K → drawP X ops tab l i s K
  | [], _, s, h => h
  | o :: r, i, s, ⟨s1, h1, h2, h3⟩ => ⟨s1, h1, h2, runDraw_ev h3⟩

/-- a condition -/
def branch (v : AV) (x y : Prop) : Prop := ∃ t, v = .bool t ∧ (t = true → x) ∧ (t = false → y)

/-- THE WALK OF CODE: loops are left standing -/
def wpC (P : Program) (X : Cfg) (G0 : Gh) : Code → ASt → (Exit → ASt → Prop) → Prop
  | .skip, s, Q => Q .normal s
  | .label _, s, Q => Q .normal s
  | .exit id, s, Q => Q (.exit id) s
  | .goto l, s, Q => Q (.goto l) s
  | .ret, s, Q => Q .ret s
  | .seq x y, s, Q => wpC P X G0 x s (thenQ (fun s' => wpC P X G0 y s' Q) Q)
  | .cond c x y, s, Q => branch (s.ev X c) (wpC P X G0 x s Q) (wpC P X G0 y s Q)
  | .block id c, s, Q => wpC P X G0 c s (blockQ id Q)
  | .scope c, s, Q => wpC P X G0 c s (scopeQ Q)
  | .region _ ops false, s, Q => runOps X (gdOf ops.toList) ops.toList s (Q .normal)
  | .region _ ops true, s, Q => drawOK ops (ancTab ops.toList []) = true ∧ runDraw X ops (ancTab ops.toList []) ops.toList 0 s (Q .normal)
  | c, s, Q => Ev P X G0 c s Q

theorem wpC_ev {P : Program} {X : Cfg} {G0 : Gh} (ok : OkX P X) (hm : P.follows .mixedOrders = true) : ∀ (c : Code) (s : ASt) (Q : Exit → ASt → Prop), wpC P X G0 c s Q → Ev P X G0 c s Q := by
  intro c
  induction c with
  | skip => exact fun s Q h => ev_skip h
  | label l => exact fun s Q h => ev_label h
  | exit l => exact fun s Q h => ev_exit h
  | goto l => exact fun s Q h => ev_goto h
  | ret => exact fun s Q h => ev_ret h
  | seq x y ihx ihy =>
    exact fun s Q h => ev_seq (ev_mono (ihx s _ h) fun e s' hq => by
      cases e with
      | normal => exact ihy s' Q hq
      | _ => exact hq)
  | cond c x y ihx ihy =>
    intro s Q h
    obtain ⟨t, h1, h2, h3⟩ := h
    exact ev_cond trivial h1 (fun ht => ihx s Q (h2 ht)) (fun ht => ihy s Q (h3 ht))
  | block id c ih => exact fun s Q h => ev_block (ih s _ h)
  | scope c ih => exact fun s Q h => ev_scope (ih s _ h)
  | region id ops d =>
    intro s Q h
    cases d with
    | false => exact ev_region ok (runOps_ev h)
    | true => exact ev_draw ok hm h.1 (runDraw_ev h.2)
  | loop c ih => exact fun s Q h => h
  | rangeFunc f ps as c ih1 ih2 => exact fun s Q h => h
  | refuse w => exact fun s Q h => h

/-- a frame by its slots -/
def frL : List (Nat × AV) → Nat → AV
  | [], _ => .undef
  | (k, v) :: r, t => if t = k then v else frL r t
theorem weak_frL {s : ASt} {n : Nat} {st : Sto} {l : List (Nat × AV)} (hn : s.n = n) (hst : s.st = st) (h : ∀ p ∈ l, s.fr p.1 = p.2) : Weak s ⟨n, frL l, st⟩ := by
  refine ⟨hn.symm, hst.symm, fun t => ?_⟩
  simp only
  induction l with
  | nil => exact .inr rfl
  | cons p l ih =>
    obtain ⟨k, v⟩ := p
    simp only [frL]
    split
    · rename_i ht
      subst ht
      exact .inl (h (t, v) (by simp)).symm
    · exact ih fun p hp => h p (by simp [hp])
end Go.Proofs.YtbjgepnkakcjaaaDoor.Lift
