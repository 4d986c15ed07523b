/-
  LIFT, 22: CODE: what a walk from an abstract state comes to ('Ev'), its rules, and the walk of code without loops ('wpC').
  LIFT, 23: A FUNCTION's CONTRACT from the walk of its body.
  LIFT, 24: BLOCKS OF THE STORE THAT NOBODY HOLDS MAY BE LEFT (the newest first).
  LIFT, 25: RANGES OVER FUNCTIONS, 1: what is foreign to a ghost; what a round changes.
  LIFT, 26: RANGES OVER FUNCTIONS, 2: the foreign state of a function that is ranged over; its rounds.
  LIFT, 27: RANGES OVER FUNCTIONS, 3: a round, as the function that is ranged over sees it.
-/
import Derived.Test.YtgpkochbmfhmdaaGreatDoorQ4
import Derived.Scope
import Derived.LoopNIn
import Derived.RangeFuncLeaves
import Derived.RangeFuncRecord
import Derived.RangeFuncIn
namespace Go.Proofs.YtgpkochbmfhmdaaGreatDoor.Lift
open Go

/-- the fences of a walk: in a round, where it may be -/
def FWX (X : Cfg) (F : Fence) : Prop := FW F ∧ (X.rd = true ∨ F.round = none)
/-- FROM s, THE CODE COMES TO A STATE IN Q -/
def Ev (P : Program) (X : Cfg) (G0 : Gh) (c : Code) (s : ASt) (Q : Exit → ASt → Prop) : Prop :=
  ∀ (F : Fence) (n : Nat) (a : Act) (w : World), FWX X F → St X G0 s a w → c.wpIn F n P (fun e a' w' => ∃ s', Q e s' ∧ St X G0 s' a' w') a w

/-- a state that knows less -/
def Weak (s s' : ASt) : Prop := s'.n = s.n ∧ s'.st = s.st ∧ ∀ t, s'.fr t = s.fr t ∨ s'.fr t = .undef

theorem Weak.st {X : Cfg} {G0 : Gh} {s s' : ASt} {a : Act} {w : World} (h : Weak s s') (hs : St X G0 s a w) : St X G0 s' a w := by
  obtain ⟨G, h1, ⟨h2, h3, h4⟩, h5⟩ := hs
  refine ⟨G, h1, ⟨by rw [h.1]; exact h2, fun t => ?_, by rw [h4, h.2.1]⟩, h5⟩
  rcases h.2.2 t with h | h <;> rw [h]
  · exact h3 t
  · exact .undef _

section
variable {P : Program} {X : Cfg} {G0 : Gh} {s s' : ASt} {Q Q' : Exit → ASt → Prop}

theorem ev_mono {c : Code} (h : Ev P X G0 c s Q) (hq : ∀ e s, Q e s → Q' e s) : Ev P X G0 c s Q' :=
  fun F n a w hF hs => wpIn_mono (h F n a w hF hs) fun _ _ _ ⟨s', h1, h2⟩ => ⟨s', hq _ _ h1, h2⟩
/-- each machine's state that is as s says is as s' says -/
def Less (X : Cfg) (G0 : Gh) (s s' : ASt) : Prop := ∀ a w, St X G0 s a w → St X G0 s' a w
theorem Weak.less {s s' : ASt} (h : Weak s s') : Less X G0 s s' := fun _ _ hs => h.st hs
theorem ev_weak {c : Code} (hw : Less X G0 s s') (h : Ev P X G0 c s' Q) : Ev P X G0 c s Q := fun F n a w hF hs => h F n a w hF (hw a w hs)

/-- the exits of a code that another follows -/
def thenQ (y : ASt → Prop) (Q : Exit → ASt → Prop) : Exit → ASt → Prop
  | .normal, s => y s
  | e, s => Q e s
def blockQ (id : Nat) (Q : Exit → ASt → Prop) : Exit → ASt → Prop
  | .exit id', s => if id' = id then Q .normal s else Q (.exit id') s
  | e, s => Q e s
def scopeQ (Q : Exit → ASt → Prop) : Exit → ASt → Prop
  | .goto _, _ => False
  | e, s => Q e s

theorem ev_skip (h : Q .normal s) : Ev P X G0 .skip s Q := fun _ _ _ _ _ hs => wpIn_skip ⟨s, h, hs⟩
theorem ev_label {l : Nat} (h : Q .normal s) : Ev P X G0 (.label l) s Q := fun _ _ _ _ _ hs => wpIn_label ⟨s, h, hs⟩
theorem ev_exit {l : Nat} (h : Q (.exit l) s) : Ev P X G0 (.exit l) s Q := fun _ _ _ _ _ hs => wpIn_exit ⟨s, h, hs⟩
theorem ev_goto {l : Nat} (h : Q (.goto l) s) : Ev P X G0 (.goto l) s Q := fun _ _ _ _ _ hs => wpIn_goto ⟨s, h, hs⟩
theorem ev_ret (h : Q .ret s) : Ev P X G0 .ret s Q := fun _ _ _ _ _ hs => wpIn_ret ⟨s, h, hs⟩
theorem ev_seq {x y : Code} (h : Ev P X G0 x s (thenQ (fun s' => Ev P X G0 y s' Q) Q)) : Ev P X G0 (.seq x y) s Q := fun F n a w hF hs =>
  wpIn_seq (wpIn_mono (h F n a w hF hs) fun e a' w' ⟨s', h1, h2⟩ => by
    cases e with
    | normal => exact h1 F n a' w' hF h2
    | _ => exact ⟨s', h1, h2⟩)
theorem ev_cond {c : Operand} {x y : Code} {t : Bool} (hG : True) (hc : ASt.ev X s c = .bool t) (h1 : t = true → Ev P X G0 x s Q) (h2 : t = false → Ev P X G0 y s Q) : Ev P X G0 (.cond c x y) s Q := fun F n a w hF hs => by
  obtain ⟨G, hw, hsl, inv, hg, hx, hm⟩ := id hs
  have hr := hsl.ev hg c
  rw [hc] at hr
  have hv : a.eval c = .bool t := by
    generalize a.eval c = v at hr
    cases hr
    rfl
  exact wpIn_cond_split hv (fun ht => h1 ht F n a w hF hs) (fun ht => h2 ht F n a w hF hs)
theorem ev_block {id : Nat} {c : Code} (h : Ev P X G0 c s (blockQ id Q)) : Ev P X G0 (.block id c) s Q := fun F n a w hF hs =>
  wpIn_block (wpIn_mono (h F n a w hF hs) fun e a' w' ⟨s', h1, h2⟩ => by
    cases e with
    | exit id' =>
      simp only [blockQ, Exit.inBlock] at h1 ⊢
      split <;> rename_i hid
      · rw [if_pos hid] at h1; exact ⟨s', h1, h2⟩
      · rw [if_neg hid] at h1; exact ⟨s', h1, h2⟩
    | _ => exact ⟨s', h1, h2⟩)
theorem ev_region (ok : OkX P X) {id : Nat} {ops : Array Oper} (h : ∃ s', evOps X (gdOf ops.toList) ops.toList s = some s' ∧ Q .normal s') : Ev P X G0 (.region id ops false) s Q := fun F n a w hF hs => by
  obtain ⟨s', h1, h2⟩ := h
  exact region_sound ok hF.1 h1 hs fun a w h => ⟨s', h2, h⟩
theorem ev_draw (ok : OkX P X) (hm : P.follows .mixedOrders = true) {id : Nat} {ops : Array Oper} {tab : List (List Nat)} {ad : List (Nat × AV)} (hok : drawOK ops tab = true) (h : drawP X ops tab ad ops.toList 0 s (Q .normal)) : Ev P X G0 (.region id ops true) s Q := fun F n a w hF hs => by
  obtain ⟨s', h1, h2⟩ := drawP_sound hok h
  exact draw_sound ok hF.1 (fun t => by rw [hm]; exact h1 t) hs fun a w h => ⟨s', h2, h⟩

/-- rows without elements more -/
theorem St.rows (szs : List Nat) : ∀ {s : ASt} {a : Act} {w : World}, St X G0 s a w → St X G0 { s with st := s.st ++ szs.map fun z => .row z 0 0 [] } a w := by
  induction szs with
  | nil => intro s a w h; simpa using h
  | cons z szs ih =>
    intro s a w ⟨G, hw, hs, inv, hg, x, hm⟩
    have x1 : Ext G (G.grow G.w none (.row z 0 0 [])) := ext_grow inv G.w none _ rfl rfl rfl (Nat.le_refl _) (fun _ _ => rfl) (fun _ h => by cases h)
    have inv1 := inv_grow_row inv G.w none z [] x1 (fun _ _ => rfl) (fun _ h => by cases h) (fun _ => rfl)
    have h1 : St X G0 { s with st := s.st ++ [.row z 0 0 []] } a w := ⟨G.grow G.w none (.row z 0 0 []), hw, by
      have := hs.ext x1
      refine ⟨this.1, this.2.1, ?_⟩
      show G.σ ++ [.row z 0 0 []] = s.st ++ [.row z 0 0 []]
      rw [hs.2.2], inv1, hg.ext x1, x.trans x1, hm.ext x1 inv⟩
    have h2 := ih h1
    simpa using h2
theorem ev_drawA (ok : OkX P X) (hm : P.follows .mixedOrders = true) {id : Nat} {ops : Array Oper} {tab : List (List Nat)} {ad : List (Nat × AV)} {A : List (Nat × Nat)} {szs : List Nat} (hok : drawOK ops tab = true)
    (h : drawP { X with A := A } ops tab ad ops.toList 0 { s with st := s.st ++ szs.map fun z => .row z 0 0 [] } (Q .normal)) : Ev P X G0 (.region id ops true) s Q := fun F n a w hF hs => by
  have ok' : OkX P { X with A := A } := ⟨ok.T, ok.E, ok.Y⟩
  exact ev_draw (X := { X with A := A }) (G0 := G0) ok' hm hok h F n a w hF (hs.rows szs)

/-- a loop that ends within m rounds -/
def Rounds (P : Program) (X : Cfg) (G0 : Gh) (c : Code) (Q : Exit → ASt → Prop) : Nat → ASt → Prop
  | 0, _ => False
  | m + 1, s => Ev P X G0 c s (thenQ (Rounds P X G0 c Q m) Q)
theorem ev_rounds {c : Code} (m : Nat) (h : Rounds P X G0 c Q m s) : Ev P X G0 (.loop c) s Q := fun F n a w hF hs => by
  refine wpIn_loop_rounds m ?_
  induction m generalizing s a w with
  | zero => exact h.elim
  | succ m ih =>
    refine wpIn_mono (h F n a w hF hs) fun e a' w' ⟨s', h1, h2⟩ => ?_
    cases e with
    | normal => exact ih h1 a' w' h2
    | _ => exact ⟨s', h1, h2⟩
theorem rounds_weak {c : Code} {m : Nat} (hw : Less X G0 s s') (h : Rounds P X G0 c Q m s') : Rounds P X G0 c Q m s := by
  cases m with
  | zero => exact h
  | succ m => exact ev_weak hw h
/-- a loop: what holds at the head of each round, and what each round makes less -/
theorem ev_loop {c : Code} {α : Type} (I : α → ASt) (ok : α → Prop) (μ : α → Nat) (x0 : α) (h0 : ok x0) (hs0 : Less X G0 s (I x0))
    (round : ∀ x, ok x → Ev P X G0 c (I x) (thenQ (fun s' => ∃ y, ok y ∧ μ y < μ x ∧ Less X G0 s' (I y)) Q)) : Ev P X G0 (.loop c) s Q := by
  refine ev_weak hs0 (ev_rounds (μ x0 + 1) ?_)
  have key : ∀ (m : Nat) (x : α), μ x < m → ok x → Rounds P X G0 c Q m (I x) := by
    intro m
    induction m with
    | zero => intro x h; omega
    | succ m ih =>
      intro x hx hok
      refine ev_mono (round x hok) fun e s hq => ?_
      cases e with
      | normal =>
        obtain ⟨y, hy, hlt, hw⟩ := hq
        exact rounds_weak hw (ih y (by omega) hy)
      | _ => exact hq
  exact key _ x0 (by omega) h0
theorem ev_scope {c : Code} (h : Ev P X G0 c s (scopeQ Q)) : Ev P X G0 (.scope c) s Q := fun F n a w hF hs => by
  have h1 := h F n a w hF hs
  intro b k cs hro hb hr
  have h0 : (lone (b.atR a (.code (.scope c) :: k)) cs w).fenced P F := fenced_calm hb hr rfl
  have st1 : step P (lone (b.atR a (.code (.scope c) :: k)) cs w) = .next (lone (b.atR a (.code c :: .inScope c :: k)) cs w) := step_lone_go (by simp [stepG, stepG.exec, Frame.atR])
  obtain ⟨e, a₁, w₁, hq, harr⟩ := h1 b (.inScope c :: k) cs hro hb hr
  cases e with
  | normal =>
    have st2 : step P (lone (b.atR a₁ (.inScope c :: k)) cs w₁) = .next (lone (b.atR a₁ k) cs w₁) := step_lone_go (by simp [stepG, stepG.exec, Frame.atR])
    exact ⟨.normal, a₁, w₁, hq, .head h0 st1 (StepsIn.trans harr (.one (fenced_calm hb hr rfl) st2))⟩
  | exit id =>
    have hx : exitTo id (.inScope c :: k) = exitTo id k := by simp [exitTo]
    exact ⟨_, a₁, w₁, hq, fun k' hk => .head h0 st1 (harr.1 k' (by rw [hx]; exact hk)), fun hr' hk => let ⟨k₁, h1, h2⟩ := harr.2 hr' (by rw [hx]; exact hk); ⟨k₁, h1, .head h0 st1 h2⟩⟩
  | goto l => obtain ⟨s', hq, _⟩ := hq; exact hq.elim
  | ret => exact ⟨_, a₁, w₁, hq, .of_steps (.one h0 st1) harr⟩
  | panic ch => exact ⟨_, a₁, w₁, hq, .of_steps (.one h0 st1) harr⟩
  | outgrown => exact ⟨_, a₁, w₁, hq, .of_steps (.one h0 st1) harr⟩
end

/-- there is one, and K holds of it -/
def onSome {α : Type} (o : Option α) (K : α → Prop) : Prop := ∃ x, o = some x ∧ K x
theorem onSome_some {α : Type} (x : α) (K : α → Prop) : onSome (some x) K = K x := by simp [onSome]
theorem onSome_none {α : Type} (K : α → Prop) : onSome none K = False := by simp [onSome]
theorem onSome_congr {α : Type} {o o' : Option α} {K : α → Prop} (h : o = o') : onSome o K = onSome o' K := by rw [h]

/-- operations one behind the other, and then K -/
def runOps (X : Cfg) (gd : Nat → Option Nat) : List Oper → ASt → (ASt → Prop) → Prop
  | [], s, K => K s
  | o :: r, s, K => onSome (step1 X gd s o) fun s1 => runOps X gd r s1 K
theorem runOps_ev {X : Cfg} {gd : Nat → Option Nat} {K : ASt → Prop} : ∀ {l : List Oper} {s : ASt}, runOps X gd l s K → ∃ s', evOps X gd l s = some s' ∧ K s'
  | [], s, h => ⟨s, rfl, h⟩
  | o :: r, s, ⟨s1, h1, h2⟩ => by
    obtain ⟨s', h3, h4⟩ := runOps_ev h2
    exact ⟨s', by simp only [evOps, h1, h3], h4⟩
def runDraw (X : Cfg) (ops : Array Oper) (tab : List (List Nat)) (ad : List (Nat × AV)) : List Oper → Nat → ASt → (ASt → Prop) → Prop
  | [], _, s, K => K s
  | o :: r, i, s, K => adOk X ad i o s ∧ onSome (step1 X (gdOf ops.toList) s o) fun s1 => (s1.st = s.st ∨ steady X ops tab ad i s.st s1.st) ∧ runDraw X ops tab ad r (i + 1) s1 K
/-- .. where blocks are set aside -/
def runDrawA (X : Cfg) (ops : Array Oper) (tab : List (List Nat)) (ad : List (Nat × AV)) : List Oper → Nat → ASt → (ASt → Prop) → Prop
  | [], _, s, K => K s
  | o :: r, i, s, K => adOk X ad i o s ∧ onSome (step1 X (gdOf ops.toList) s o) fun s1 => (s1.st = s.st ∨ steady X ops tab ad i s.st s1.st ∨ ∃ k, locAt X ad i o k ∧ steadyK X ops tab ad i k) ∧ runDrawA X ops tab ad r (i + 1) s1 K
theorem runDrawA_ev {X : Cfg} {ops : Array Oper} {tab : List (List Nat)} {ad : List (Nat × AV)} {K : ASt → Prop} : ∀ {l : List Oper} {i : Nat} {s : ASt}, runDrawA X ops tab ad l i s K → drawP X ops tab ad l i s K
  | [], _, s, h => h
  | o :: r, i, s, ⟨h0, s1, h1, h2, h3⟩ => ⟨s1, h0, h1, h2, runDrawA_ev h3⟩
theorem runDraw_ev {X : Cfg} {ops : Array Oper} {tab : List (List Nat)} {ad : List (Nat × AV)} {K : ASt → Prop} : ∀ {l : List Oper} {i : Nat} {s : ASt}, runDraw X ops tab ad l i s K → drawP X ops tab ad l i s K
  | [], _, s, h => h
  | o :: r, i, s, ⟨h0, s1, h1, h2, h3⟩ => ⟨s1, h0, h1, h2.imp id .inl, runDraw_ev h3⟩

/-- a condition -/
def branch (v : AV) (x y : Prop) : Prop := ∃ t, v = .bool t ∧ (t = true → x) ∧ (t = false → y)

/-- THE WALK OF CODE: loops are left standing -/
def wpC (P : Program) (X : Cfg) (G0 : Gh) : Code → ASt → (Exit → ASt → Prop) → Prop
  | .skip, s, Q => Q .normal s
  | .label _, s, Q => Q .normal s
  | .exit id, s, Q => Q (.exit id) s
  | .goto l, s, Q => Q (.goto l) s
  | .ret, s, Q => Q .ret s
  | .seq x y, s, Q => wpC P X G0 x s (thenQ (fun s' => wpC P X G0 y s' Q) Q)
  | .cond c x y, s, Q => branch (s.ev X c) (wpC P X G0 x s Q) (wpC P X G0 y s Q)
  | .block id c, s, Q => wpC P X G0 c s (blockQ id Q)
  | .scope c, s, Q => wpC P X G0 c s (scopeQ Q)
  | .region _ ops false, s, Q => runOps X (gdOf ops.toList) ops.toList s (Q .normal)
  | .region _ ops true, s, Q => drawOK ops (ancTab ops.toList []) = true ∧ ((∃ ad, runDraw X ops (ancTab ops.toList []) ad ops.toList 0 s (Q .normal)) ∨ ∃ A szs ad, runDrawA { X with A := A } ops (ancTab ops.toList []) ad ops.toList 0 { s with st := s.st ++ List.map (fun z => .row z 0 0 []) szs } (Q .normal))
  | c, s, Q => Ev P X G0 c s Q

theorem wpC_ev {P : Program} {X : Cfg} {G0 : Gh} (ok : OkX P X) (hm : P.follows .mixedOrders = true) : ∀ (c : Code) (s : ASt) (Q : Exit → ASt → Prop), wpC P X G0 c s Q → Ev P X G0 c s Q := by
  intro c
  induction c with
  | skip => exact fun s Q h => ev_skip h
  | label l => exact fun s Q h => ev_label h
  | exit l => exact fun s Q h => ev_exit h
  | goto l => exact fun s Q h => ev_goto h
  | ret => exact fun s Q h => ev_ret h
  | seq x y ihx ihy =>
    exact fun s Q h => ev_seq (ev_mono (ihx s _ h) fun e s' hq => by
      cases e with
      | normal => exact ihy s' Q hq
      | _ => exact hq)
  | cond c x y ihx ihy =>
    intro s Q h
    obtain ⟨t, h1, h2, h3⟩ := h
    exact ev_cond trivial h1 (fun ht => ihx s Q (h2 ht)) (fun ht => ihy s Q (h3 ht))
  | block id c ih => exact fun s Q h => ev_block (ih s _ h)
  | scope c ih => exact fun s Q h => ev_scope (ih s _ h)
  | region id ops d =>
    intro s Q h
    cases d with
    | false => exact ev_region ok (runOps_ev h)
    | true =>
      obtain ⟨h1, h⟩ := h
      rcases h with ⟨ad, h2⟩ | ⟨A, szs, ad, h2⟩
      · exact ev_draw ok hm h1 (runDraw_ev h2)
      · exact ev_drawA ok hm h1 (runDrawA_ev h2)
  | loop c ih => exact fun s Q h => h
  | rangeFunc f ps as c ih1 ih2 => exact fun s Q h => h
  | refuse w => exact fun s Q h => h

/-- a frame by its slots -/
def frL : List (Nat × AV) → Nat → AV
  | [], _ => .undef
  | (k, v) :: r, t => if t = k then v else frL r t
theorem weak_frL {s : ASt} {n : Nat} {st : Sto} {l : List (Nat × AV)} (hn : s.n = n) (hst : s.st = st) (h : ∀ p ∈ l, s.fr p.1 = p.2) : Weak s ⟨n, frL l, st⟩ := by
  refine ⟨hn.symm, hst.symm, fun t => ?_⟩
  simp only
  induction l with
  | nil => exact .inr rfl
  | cons p l ih =>
    obtain ⟨k, v⟩ := p
    simp only [frL]
    split
    · rename_i ht
      subst ht
      exact .inl (h (t, v) (by simp)).symm
    · exact ih fun p hp => h p (by simp [hp])
end Go.Proofs.YtgpkochbmfhmdaaGreatDoor.Lift
namespace Go.Proofs.YtgpkochbmfhmdaaGreatDoor.Lift
open Go

/-- blocks of deferred calls are shut; all else lies as it lay -/
structure Puts (rs : List Nat) (w w' : World) : Prop where
  os : w'.os = w.os
  tape : w'.tape = w.tape
  output : w'.output = w.output
  size : w'.heap.size = w.heap.size
  other : ∀ b, b ∉ rs → w'.heap[b]? = w.heap[b]?
  shut : ∀ r ∈ rs, w.heap[r]? = some (.deferred (some [])) ∧ w'.heap[r]? = some (.deferred none)

theorem Puts.ext {rs : List Nat} {w w' : World} (p : Puts rs w w') {G0 G : Gh} (hw : G.w = w) (h0 : ∀ r ∈ rs, G0.w.heap.size ≤ r) (hJ : rs ≠ [] → G.J = noFoe) (inv : Inv G) (x : Ext G0 G) :
    ∃ G', G'.w = w' ∧ G'.σ = G.σ ∧ Ext G0 G' ∧ Inv G' ∧ ∀ a v, Rep G a v → Rep G' a v := by
  subst hw
  let G' : Gh := { G with w := w' }
  have hno : ∀ r ∈ rs, ∀ c e fz, G.w.heap[r]? ≠ some (.cells c e fz) := fun r hr c e fz hc => by
    rw [(p.shut r hr).1] at hc; cases hc
  have hcells : ∀ (blk : Nat) (c : Array Value) e fz, G.w.heap[blk]? = some (.cells c e fz) → w'.heap[blk]? = some (.cells c e fz) := fun blk c e fz hb => by
    rw [p.other blk (fun hm => hno blk hm c e fz hb)]; exact hb
  have hmaps : ∀ (blk : Nat) m k, G.w.heap[blk]? = some (.map m k) → w'.heap[blk]? = some (.map m k) := fun blk m k hb => by
    rw [p.other blk (fun hm => by rw [(p.shut blk hm).1] at hb; cases hb)]; exact hb
  have hcell : ∀ b o v, G.w.cell? ⟨b, o, none⟩ = some v → w'.cell? ⟨b, o, none⟩ = some v := fun b o v hv => by
    unfold World.cell? at hv ⊢
    simp only at hv ⊢
    cases hb : G.w.heap[b]? with
    | none => rw [hb] at hv; cases hv
    | some k =>
      rw [hb] at hv
      cases k with
      | cells c e fz => rw [hcells b c e fz hb]; exact hv
      | _ => cases hv
  have xr : ExtR G G' := ⟨fun blk c e fz hb => ⟨c, hcells blk c e fz hb, rfl⟩, fun _ _ h => h, fun b o _ v hv => hcell b o v hv, fun b m k _ hb => hmaps b m k hb, fun b k hk => ⟨k, hk, Nat.le_refl _, rfl⟩, fun _ _ _ _ _ => rfl⟩
  refine ⟨G', rfl, rfl, ?_, ?_, fun a v h => h.extR xr⟩
  · exact
      { os := p.os.trans x.os, tape := p.tape.trans x.tape, output := p.output.trans x.output, size := by show _ ≤ w'.heap.size; rw [p.size]; exact x.size
        old := fun blk hb ho hz => by
          show w'.heap[blk]? = _
          rw [p.other blk (fun hm => by have := h0 blk hm; omega)]
          exact x.old blk hb ho hz
        time := x.time, zin := x.zin, zout := x.zout, foe := x.foe
        shape := fun blk c e fz hb => by
          obtain ⟨c', h1, h2⟩ := x.shape blk c e fz hb
          exact ⟨c', hcells blk _ _ _ h1, h2⟩
        frozen := x.frozen
        cell := fun b o hf => by
          have h1 := x.cell b o hf
          rw [← h1]
          show w'.cell? _ = _
          unfold World.cell?
          simp only
          by_cases hm : b ∈ rs
          · rw [(p.shut b hm).1, (p.shut b hm).2]
          · rw [p.other b hm]
        fmap := fun b m k hf hb => hmaps b m k (x.fmap b m k hf hb)
        thaw := x.thaw, len := x.len, id := x.id, at_ := x.at_, own := x.own }
  · exact
      { rows := fun b sz g lo xs h => by
          obtain ⟨h1, h2, h3⟩ := inv.rows b sz g lo xs h
          refine ⟨h1, fun blk hb => ?_, h3⟩
          obtain ⟨c, e, fz, h4, h5, h6, h7⟩ := h2 blk hb
          exact ⟨c, e, fz, hcells blk c e fz h4, h5, fun i y hy => ⟨(h6 i y hy).1, fun j z hz => let ⟨v, h8, h9⟩ := (h6 i y hy).2 j z hz; ⟨v, h8, h9.extR xr⟩⟩, h7⟩
        maps := fun b es h => by
          obtain ⟨blk, ents, ck, h1, h2, h3, h4⟩ := inv.maps b es h
          exact ⟨blk, ents, ck, h1, hmaps blk _ _ h2, h3.extR xr, h4⟩
        inj := inv.inj
        lt := fun b o h => by show b < w'.heap.size; rw [p.size]; exact inv.lt b o h
        tks := inv.tks
        held := by
          by_cases hrs : rs = []
          · subst hrs
            exact inv.stab _ _ _ _ _ _ _ _ _ inv.held p.os p.tape p.output (Nat.le_of_eq p.size.symm) (fun blk _ _ => p.other blk (by simp)) (fun blk c e fz hb => ⟨c, hcells blk c e fz hb, rfl⟩) (fun _ h => .inr h) (fun _ _ h _ => .inl h) (fun _ h => h)
          · show G.J G.t w' _ _ _
            rw [hJ hrs]
            trivial
        stab := inv.stab
        zlt := fun blk h => by show blk < w'.heap.size; rw [p.size]; exact inv.zlt blk h
        znone := inv.znone
        its := fun b s i h => by
          obtain ⟨blk, q1, q2⟩ := inv.its b s i h
          exact ⟨blk, q1, (p.other blk (fun hm => by rw [(p.shut blk hm).1] at q2; cases q2)).trans q2⟩
        deads := fun b sz g blk h hr => by show blk < w'.heap.size; rw [p.size]; exact inv.deads b sz g blk h hr }

theorem leaves_marks {F : Fence} {n : Nat} {P : Program} {fn : Func} {tmps : Array Value} {R : Ending → World → Prop} : ∀ (rs : List Nat) (w : World), rs.Nodup → (∀ r ∈ rs, w.heap[r]? = some (.deferred (some []))) →
    (∀ w', Puts rs w w' → ∃ v, (results fn tmps).run P w' = .ok v w' ∧ R (.returned v) w') → LeavesInM F n P fn tmps R (rs.map fun r => ({ target := .collected r, args := #[] } : Deferred)) .returning w := by
  intro rs
  induction rs with
  | nil => exact fun w _ _ h => h w ⟨rfl, rfl, rfl, rfl, fun _ _ => rfl, fun r hr => by cases hr⟩
  | cons r rs ih =>
    intro w hnd hr h
    have hlt : r < w.heap.size := by
      have := hr r (by simp)
      rcases Nat.lt_or_ge r w.heap.size with h | h
      · exact h
      · rw [Array.getElem?_eq_none h] at this; cases this
    have hnd' := List.nodup_cons.1 hnd
    refine ⟨by simp, .inl ⟨r, w.putObj r (.deferred none), rfl, run_takeDeferred (hr r (by simp)), ?_⟩⟩
    refine ih _ hnd'.2 (fun r' hr' => ?_) fun w' hp => h w' ?_
    · rw [World.putObj_heap_other (by intro e; subst e; exact hnd'.1 hr')]
      exact hr r' (by simp [hr'])
    · refine ⟨hp.os, hp.tape, hp.output, by rw [hp.size]; simp, fun b hb => ?_, fun r' hr' => ?_⟩
      · simp only [List.mem_cons, not_or] at hb
        rw [hp.other b hb.2, World.putObj_heap_other hb.1]
      · rcases List.mem_cons.1 hr' with rfl | hm
        · refine ⟨hr r' (by simp), ?_⟩
          rw [hp.other r' hnd'.1]
          exact World.putObj_heap_same hlt
        · exact ⟨hr r' (by simp [hm]), (hp.shut r' hm).2⟩

/-- a result of a function -/
def resA (X : Cfg) (s : ASt) : ResultVar → Option AV
  | .tmp t => some (s.fr t)
  | .cell a t => (X.T t).bind fun ti => loadAt ti s.st (s.fr a)
/-- the results of a function -/
def resAs (X : Cfg) (s : ASt) (l : List ResultVar) : Option AV := match mapO (resA X s) l with
  | some [v] => some v
  | some vs => some (.tup vs)
  | none => none

theorem run_loadVar {P : Program} {G : Gh} (inv : Inv G) {t : TypeId} {ti : TI} (ht : tiOf P t = some ti) {p v : AV} {r : Value} (hp : Rep G p r) (h : loadAt ti G.σ p = some v) :
    ∃ u, (do loadVar t (← asAddr r)).run P G.w = .ok u G.w ∧ Rep G v u := by
  obtain ⟨u, h1, h2⟩ := run_loadAt inv ht hp h
  refine ⟨u, ?_, h2⟩
  rw [← h1]
  cases hp <;> simp_all [loadAt, Instr.loadAt, Instr.sureAddr, asAddr]

theorem run_results {P : Program} {X : Cfg} (hT : X.T = tiOf P) {G : Gh} (inv : Inv G) {s : ASt} {a : Act} (hs : Slots G s a) {fn : Func} {v : AV} (h : resAs X s fn.results.toList = some v) :
    ∃ u, (results fn a.tmps).run P G.w = .ok u G.w ∧ Rep G v u := by
  obtain ⟨hn, hf, hσ⟩ := hs
  have key : ∀ (l : List ResultVar) (vs : List AV), mapO (resA X s) l = some vs → ∃ us, (l.mapM (m := Sem) fun
      | .tmp t => pure (a.tmps.getD t undef)
      | .cell b t => do loadVar t (← asAddr (a.tmps.getD b undef))).run P G.w = .ok us G.w ∧ RepL G vs us := by
    intro l
    induction l with
    | nil => intro vs h; cases h; exact ⟨[], rfl, .nil⟩
    | cons x l ih =>
      intro vs h
      simp only [mapO] at h
      split at h
      · rename_i y ys hy hys
        cases h
        obtain ⟨us, h1, h2⟩ := ih ys hys
        have : ∃ u, (match x with
            | .tmp t => (pure (a.tmps.getD t undef) : Sem Value)
            | .cell b t => do loadVar t (← asAddr (a.tmps.getD b undef))).run P G.w = .ok u G.w ∧ Rep G y u := by
          cases x with
          | tmp t => cases hy; exact ⟨_, rfl, hf t⟩
          | cell b t =>
            simp only [resA] at hy
            cases ht : X.T t with
            | none => rw [ht] at hy; cases hy
            | some ti =>
              rw [ht, Option.bind_some, ← hσ] at hy
              exact run_loadVar inv (hT ▸ ht) (hf b) hy
        obtain ⟨u, h3, h4⟩ := this
        refine ⟨u :: us, ?_, .cons h4 h2⟩
        simp only [List.mapM_cons, Sem.run_bind, h3, h1, Result.andThen_ok, Sem.run_pure]
      · cases h
  unfold resAs at h
  cases hm : mapO (resA X s) fn.results.toList with
  | none => rw [hm] at h; cases h
  | some vs =>
    obtain ⟨us, h1, h2⟩ := key _ _ hm
    have hr : (results fn a.tmps).run P G.w = .ok (if h : us.toArray.size = 1 then us.toArray[0] else .tuple us.toArray) G.w := by
      simp only [results, Sem.run_bind, Array.mapM_eq_mapM_toList, Sem.run_map, Sem.run_pure]
      erw [h1]
      rfl
    rw [hr]
    rw [hm] at h
    match vs, us, h, h2 with
    | [], [], h, h2 => cases h; exact ⟨_, rfl, .tup .nil⟩
    | [v'], [u], h, .cons h3 .nil => cases h; exact ⟨u, rfl, h3⟩
    | v1 :: v2 :: vs, u1 :: u2 :: us, h, h2 => cases h; exact ⟨_, rfl, .tup h2⟩

/-- where a function's walk begins -/
def entry (fn : Func) (args : List AV) (st : Sto) : ASt := ⟨fn.ntmps, fun t => args.getD t .undef, st⟩

theorem entry_st {X : Cfg} {G : Gh} (inv : Inv G) (hg : GlobG X.G G) {fn : Func} {args : List AV} {vals : List Value} (hJ : G.J = X.J) (hr : RepL G args vals) :
    St X G (entry fn args G.σ) { tmps := vals.toArray ++ Array.replicate (fn.ntmps - vals.toArray.size) undef, defers := [] } G.w := by
  refine ⟨G, rfl, ⟨by simp [entry]; omega, fun t => ?_, rfl⟩, inv, hg, Ext.refl G, hJ, ⟨[], rfl, .nil, fun h => absurd rfl h, fun r hr => by cases hr⟩⟩
  simp only [entry, List.getD_eq_getElem?_getD]
  cases ht : args[t]? with
  | none => exact .undef _
  | some x =>
    obtain ⟨u, hu, h⟩ := hr.get ht
    have hlt : t < vals.length := (List.getElem?_eq_some_iff.1 hu).1
    simp only [Array.getD_eq_getD_getElem?, Option.getD_some]
    rw [Array.getElem?_append_left (by simpa using hlt)]
    simp [hu, h]

/-- a pure contract from the walk -/
theorem soundP_of_ev {P : Program} {X : Cfg} (hT : X.T = tiOf P) {f : Nat} {fn : Func} {c : Code} (hf : P.funcs[f]? = some fn) (hb : fn.body = some c) (hn : (fn.name == "runtime.NumGoroutine") = false) {g : List AV → Option AV}
    (h : ∀ args r, g args = some r → ∀ G0 : { G : Gh // G.σ = [] }, Ev P X G0.1 c (entry fn args []) (fun e s => (e = .normal ∨ e = .ret) ∧ ∃ d r0, resAs X s fn.results.toList = some r0 ∧ peek s.st d r0 = some r)) (hX : X.J = noFoe := by rfl) : SoundP P X.G f g where
  calls := fun G args vals r hr inv hσ hJ hg hargs => by
    have hev : Ev P X G c (entry fn args []) (fun e s => (e = .normal ∨ e = .ret) ∧ ∃ d r0, resAs X s fn.results.toList = some r0 ∧ peek s.st d r0 = some r) := h args r hr ⟨G, hσ⟩
    have hst := entry_st (fn := fn) inv hg (hJ.trans hX.symm) hargs
    rw [hσ] at hst
    refine .inl ⟨run_callFunc hf (by simp [hb]) hn _ _, (callsIn_wide (n := 0)).1 (callsIn_of_wp_marks hf hb trivial ?_)⟩
    refine wpIn_mono (hev Fence.wide 0 _ _ ⟨.inl rfl, .inr rfl⟩ hst) fun e a' w' ⟨s', ⟨he, d, r0, h1, h2⟩, h3⟩ => ?_
    obtain ⟨G1, rfl, hs, inv1, hg1, x1, hJ1, rs, hd, hnd, hne, hrs⟩ := h3
    have key : LeavesInM Fence.wide 0 P fn a'.tmps (Ret G r []) a'.defers .returning G1.w := by
      rw [hd]
      refine leaves_marks rs G1.w hnd (fun r hr => (hrs r hr).1) fun w' hp => ?_
      obtain ⟨G2, rfl, e2, x2, inv2, tr⟩ := hp.ext rfl (fun r hr => (hrs r hr).2.1) (fun h => hJ1.trans (hne h).1) inv1 x1
      have hs2 : Slots G2 s' a' := ⟨hs.1, fun t => tr _ _ (hs.2.1 t), e2.trans hs.2.2⟩
      obtain ⟨u, h4, h5⟩ := run_results hT inv2 hs2 h1
      refine ⟨u, h4, { G2.freeze with t := G2.t, z := G2.z, J := G2.J }, rfl, rfl, ?_, inv_nil rfl (inv_freeze inv2).lt (x2.foe.trans hJ) (inv2.znone (x2.foe.trans hJ)), ?_⟩
      · exact
          { os := x2.os, tape := x2.tape, output := x2.output, size := x2.size, old := x2.old, shape := x2.shape, frozen := fun b o hf => .inl (x2.frozen b o hf), cell := x2.cell, fmap := x2.fmap
            thaw := fun b o hf hb => by
              rcases hf with hf | hf
              · exact x2.thaw b o hf hb
              · rcases x2.own b hf.owned with h | h
                · omega
                · exact .inr h
            len := by rw [hσ]; exact Nat.zero_le _, id := fun b k hk => (by rw [hσ] at hk; cases hk), at_ := fun b k g hk => (by rw [hσ] at hk; cases hk)
            own := fun blk ho => (owned_nil rfl blk ho).elim, time := x2.time, zin := x2.zin, zout := x2.zout, foe := x2.foe }
      · refine peek_rep inv2 (H := { G2.freeze with t := G2.t, z := G2.z, J := G2.J }) ⟨fun _ _ h => .inl h, fun _ _ _ _ h => h, fun _ _ _ _ h => h⟩ rfl (fun b o h => .inr h) d ?_ h5
        rw [hs2.2.2]
        exact h2
    rcases he with rfl | rfl <;> exact key

/-- a contract of a function that has no store of its own to leave -/
theorem soundF_of_ev' {P : Program} {X : Cfg} (hT : X.T = tiOf P) {f : Nat} {fn : Func} {c : Code} (hf : P.funcs[f]? = some fn) (hb : fn.body = some c) (hn : (fn.name == "runtime.NumGoroutine") = false) {S : Spec}
    (h : ∀ args st r st', S args st = some (r, st') → ∀ G0 : Gh, G0.σ = st → Ev P X G0 c (entry fn args st) (fun e s => (e = .normal ∨ e = .ret) ∧ resAs X s fn.results.toList = some r ∧ s.st = st')) : SoundJ P X.G X.J f S where
  calls := fun G args vals r σ' hr inv hJ hg hargs => by
    have hev := h args G.σ r σ' hr G rfl
    have hst := entry_st (fn := fn) inv hg hJ hargs
    refine .inl ⟨run_callFunc hf (by simp [hb]) hn _ _, (callsIn_wide (n := 0)).1 (callsIn_of_wp_marks hf hb trivial ?_)⟩
    refine wpIn_mono (hev Fence.wide 0 _ _ ⟨.inl rfl, .inr rfl⟩ hst) fun e a' w' ⟨s', ⟨he, h1, h2⟩, h3⟩ => ?_
    obtain ⟨G1, rfl, hs, inv1, hg1, x1, hJ1, rs, hd, hnd, hne, hrs⟩ := h3
    have key : LeavesInM Fence.wide 0 P fn a'.tmps (Ret G r σ') a'.defers .returning G1.w := by
      rw [hd]
      refine leaves_marks rs G1.w hnd (fun r hr => (hrs r hr).1) fun w' hp => ?_
      obtain ⟨G2, rfl, e2, x2, inv2, tr⟩ := hp.ext rfl (fun r hr => (hrs r hr).2.1) (fun h => hJ1.trans (hne h).1) inv1 x1
      have hs2 : Slots G2 s' a' := ⟨hs.1, fun t => tr _ _ (hs.2.1 t), e2.trans hs.2.2⟩
      obtain ⟨u, h4, h5⟩ := run_results hT inv2 hs2 h1
      exact ⟨u, h4, G2, rfl, hs2.2.2.trans h2, x2, inv2, h5⟩
    rcases he with rfl | rfl <;> exact key
end Go.Proofs.YtgpkochbmfhmdaaGreatDoor.Lift
namespace Go.Proofs.YtgpkochbmfhmdaaGreatDoor.Lift
open Go

mutual
/-- no reference to a block from k on -/
def blw (k : Nat) : AV → Bool
  | .ptr b _ _ _ | .sr b _ _ _ | .mr b => decide (b < k)
  | .undef | .bool _ | .int .. | .str _ | .nilp | .nilf | .nilm | .snil | .sle => true
  | .rp x _ => blw k x
  | .sl xs => blwL k xs
  | .fn _ a b => blwL k a && blwL k b
  | .mv es => blwE k es
  | .agg cs => blwL k cs
  | .tup vs => blwL k vs
def blwL (k : Nat) : List AV → Bool
  | [] => true
  | x :: r => blw k x && blwL k r
def blwE (k : Nat) : List (AV × AV) → Bool
  | [] => true
  | (a, b) :: r => blw k a && blw k b && blwE k r
end
def blwB (k : Nat) : ABlk → Bool
  | .row _ _ _ xs => blwL k xs
  | .map es => blwE k es
  | .tick _ => true
  | .dead .. => true
  | .iter .. => true

theorem blw_cells {k : Nat} {x : AV} (h : blw k x = true) : blwL k x.cells = true := by
  cases x <;> simp_all [AV.cells, blw, blwL]
theorem blwL_mem {k : Nat} : ∀ {l : List AV}, blwL k l = true → ∀ p ∈ l, blw k p = true
  | [], _, p, hp => by cases hp
  | a :: l, hl, p, hp => by
    simp only [blwL, Bool.and_eq_true] at hl
    rcases List.mem_cons.1 hp with rfl | hp
    · exact hl.1
    · exact blwL_mem hl.2 p hp

/-- the store is cut -/
structure Cut (k : Nat) (G H : Gh) : Prop where
  w : H.w = G.w
  φ : H.φ = G.φ
  ρ : H.ρ = G.ρ
  σ : ∀ b, b < k → H.σ[b]? = G.σ[b]?

theorem HasId.cut {k : Nat} {G H : Gh} (x : Cut k G H) {b g : Nat} {sz : Option Nat} (hb : b < k) (h : HasId G b g sz) : HasId H b g sz := by
  obtain ⟨kk, h1, h2⟩ := h
  exact ⟨kk, by rw [x.σ b hb]; exact h1, h2⟩

mutual
theorem Rep.cut {k : Nat} {G H : Gh} (x : Cut k G H) {a : AV} {v : Value} (hz : blw k a = true) (h : Rep G a v) : Rep H a v := by
  match h with
  | .undef v => exact .undef v
  | .bool b => exact .bool b
  | .int _ n => exact .int _ n
  | .str s => exact .str s
  | .nilp => exact .nilp
  | .ptr h hr => exact .ptr (h.cut x (by simpa [blw] using hz)) (by rw [x.ρ]; exact hr)
  | .rp h => exact .rp (RepCells.cut x (blw_cells (by simpa [blw] using hz)) h)
  | .snil => exact .snil
  | .sl0 a cap h => exact .sl0 a cap h
  | .sle a cap => exact .sle a cap
  | .sl hl h => exact .sl hl (RepElems.cut x (by simpa [blw] using hz) h)
  | .sr0 h hr => exact .sr0 (h.cut x (by simpa [blw] using hz)) (by rw [x.ρ]; exact hr)
  | .sr h hr hl hb hc => exact .sr (h.cut x (by simpa [blw] using hz)) (by rw [x.ρ]; exact hr) hl (by rw [x.w]; exact hb) hc
  | .srE h hr ho => exact .srE (h.cut x (by simpa [blw] using hz)) (by rw [x.ρ]; exact hr) ho
  | .fn h1 h2 =>
    simp only [blw, Bool.and_eq_true] at hz
    exact .fn (RepL.cut x hz.1 h1) (RepL.cut x hz.2 h2)
  | .nilf => exact .nilf
  | .nilm => exact .nilm
  | .mv hb hf h => exact .mv (by rw [x.w]; exact hb) (by rw [x.φ]; exact hf) (RepE.cut x (by simpa [blw] using hz) h)
  | .mv0 => exact .mv0
  | .mr h hr => exact .mr (h.cut x (by simpa [blw] using hz)) (by rw [x.ρ]; exact hr)
  | .agg h => exact .agg (RepL.cut x (by simpa [blw] using hz) h)
  | .tup h => exact .tup (RepL.cut x (by simpa [blw] using hz) h)
theorem RepL.cut {k : Nat} {G H : Gh} (x : Cut k G H) {a : List AV} {v : List Value} (hz : blwL k a = true) (h : RepL G a v) : RepL H a v := by
  match h with
  | .nil => exact .nil
  | .cons h t =>
    simp only [blwL, Bool.and_eq_true] at hz
    exact .cons (Rep.cut x hz.1 h) (RepL.cut x hz.2 t)
theorem RepCells.cut {k : Nat} {G H : Gh} (x : Cut k G H) {a : List AV} {b o : Nat} (hz : blwL k a = true) (h : RepCells G a b o) : RepCells H a b o := by
  match h with
  | .nil _ _ => exact .nil _ _
  | .cons hf hc h t =>
    simp only [blwL, Bool.and_eq_true] at hz
    exact .cons (by rw [x.φ]; exact hf) (by rw [x.w]; exact hc) (Rep.cut x hz.1 h) (RepCells.cut x hz.2 t)
theorem RepElems.cut {k : Nat} {G H : Gh} (x : Cut k G H) {a : List AV} {b o sz : Nat} (hz : blwL k a = true) (h : RepElems G a b o sz) : RepElems H a b o sz := by
  match h with
  | .nil _ _ _ => exact .nil _ _ _
  | .cons hs h t =>
    simp only [blwL, Bool.and_eq_true] at hz
    exact .cons hs (RepCells.cut x (blw_cells hz.1) h) (RepElems.cut x hz.2 t)
theorem RepE.cut {k : Nat} {G H : Gh} (x : Cut k G H) {a : List (AV × AV)} {v : List MapEntry} (hz : blwE k a = true) (h : RepE G a v) : RepE H a v := by
  match h with
  | .nil => exact .nil
  | .cons hk h1 h2 t =>
    simp only [blwE, Bool.and_eq_true] at hz
    exact .cons hk (Rep.cut x hz.1.1 h1) (Rep.cut x hz.1.2 h2) (RepE.cut x hz.2 t)
end

/-- the newest blocks are left: those that stay, and the slots that are kept, do not refer to them -/
theorem drop_at {X : Cfg} (hz : FzG X.G) {G0 G : Gh} {s : ASt} {a : Act} {n : Nat} {fr : Nat → AV} {st st2 : Sto} (h0 : G0.σ.length ≤ st.length) (hn : s.n = n) (hst : s.st = st ++ st2) (hb : st.all (blwB st.length) = true)
    (hf : ∀ t, fr t = .undef ∨ (fr t = s.fr t ∧ blw st.length (fr t) = true))  (hs : Slots G s a) (inv : Inv G) (hg : Glob X G) (x : Ext G0 G) : Slots { G with σ := st } ⟨n, fr, st⟩ a ∧ Inv { G with σ := st } ∧ Glob X { G with σ := st } ∧ Ext G0 { G with σ := st } := by
  obtain ⟨h1, h2, h3⟩ := hs
  let H : Gh := { G with σ := st }
  have hσ : G.σ = st ++ st2 := h3.trans hst
  have cut : Cut st.length G H := ⟨rfl, rfl, rfl, fun b hb => by show st[b]? = G.σ[b]?; rw [hσ, List.getElem?_append_left hb]⟩
  have sub : ∀ {b : Nat} {k : ABlk}, st[b]? = some k → G.σ[b]? = some k := fun {b k} hk => by
    rw [hσ, List.getElem?_append_left (List.getElem?_eq_some_iff.1 hk).1]; exact hk
  have hblk : ∀ {b : Nat} {k : ABlk}, st[b]? = some k → blwB st.length k = true := fun {b k} hk => List.all_eq_true.1 hb k (List.mem_of_getElem? hk)
  have own : ∀ blk, Owned H blk → Owned G blk := fun blk ⟨b, k, hk, hlv, hr⟩ => ⟨b, k, sub hk, hlv, hr⟩
  refine ⟨⟨by rw [← hn]; exact h1, fun t => ?_, rfl⟩, ?_, ?_, ?_⟩
  · show Rep H (fr t) _
    rcases hf t with h | ⟨h, hq⟩
    · rw [h]; exact .undef _
    · rw [h] at hq ⊢; exact (h2 t).cut cut hq
  · exact
      { rows := fun b sz g lo xs hk => by
          obtain ⟨r1, r2, r3⟩ := inv.rows b sz g lo xs (sub hk)
          refine ⟨r1, fun blk hbk => ?_, r3⟩
          obtain ⟨c, e, fz, q1, q2, q3, q4⟩ := r2 blk hbk
          have hbl : blwL st.length xs = true := hblk hk
          refine ⟨c, e, fz, q1, q2, fun i y hy => ⟨(q3 i y hy).1, fun j z hz => ?_⟩, q4⟩
          obtain ⟨v, q5, q6⟩ := (q3 i y hy).2 j z hz
          exact ⟨v, q5, q6.cut cut (blwL_mem (blw_cells (blwL_mem hbl y (List.mem_of_getElem? hy))) z (List.mem_of_getElem? hz))⟩
        maps := fun b es hk => by
          obtain ⟨blk, ents, ck, m1, m2, m3, m4⟩ := inv.maps b es (sub hk)
          exact ⟨blk, ents, ck, m1, m2, m3.cut cut (hblk hk), m4⟩
        inj := fun b b' k k' blk hk hk' => inv.inj b b' k k' blk (sub hk) (sub hk')
        lt := inv.lt
        tks := fun b n hk => inv.tks b n (sub hk)
        held := inv.stab _ _ _ _ _ _ _ _ _ inv.held rfl rfl rfl (Nat.le_refl _) (fun _ _ _ => rfl) (fun blk c e fz h => ⟨c, h, rfl⟩) (fun blk ho => .inr (own blk ho)) (fun _ _ h _ => .inl h) (fun _ h => h)
        stab := inv.stab
        zlt := inv.zlt
        znone := inv.znone
        its := fun b s i h => inv.its b s i (sub h)
        deads := fun b sz g blk h hr => inv.deads b sz g blk (sub h) hr }
  · exact globG_ext (G := G) (H := H) hz ⟨fun _ _ h => h, fun _ _ _ _ h => h, fun _ _ _ _ h => h⟩ hg
  · exact
      { os := x.os, tape := x.tape, output := x.output, size := x.size, old := x.old, shape := x.shape, frozen := x.frozen, cell := x.cell, fmap := x.fmap, thaw := x.thaw, len := h0
        id := fun b k hk => by
          obtain ⟨k', i1, i2, i3⟩ := x.id b k hk
          have hlt : b < st.length := Nat.lt_of_lt_of_le (List.getElem?_eq_some_iff.1 hk).1 h0
          exact ⟨k', by rw [cut.σ b hlt]; exact i1, i2, i3⟩
        at_ := x.at_, own := fun blk ho => x.own blk (own blk ho), time := x.time, zin := x.zin, zout := x.zout, foe := x.foe }
theorem less_drop {X : Cfg} (hz : FzG X.G) {G0 : Gh} {s : ASt} {n : Nat} {fr : Nat → AV} {st st2 : Sto} (h0 : G0.σ.length ≤ st.length) (hn : s.n = n) (hst : s.st = st ++ st2) (hb : st.all (blwB st.length) = true)
    (hf : ∀ t, fr t = .undef ∨ (fr t = s.fr t ∧ blw st.length (fr t) = true)) : Less X G0 s ⟨n, fr, st⟩ := by
  intro a w ⟨G, hw, hs, inv, hg, x, hm⟩
  obtain ⟨q1, q2, q3, q4⟩ := drop_at hz h0 hn hst hb hf hs inv hg x
  exact ⟨{ G with σ := st }, hw, q1, q2, q3, q4, hm⟩

theorem less_frL {X : Cfg} (hz : FzG X.G) {G0 : Gh} {s : ASt} {n : Nat} {st st2 : Sto} {l : List (Nat × AV)} (h0 : G0.σ.length ≤ st.length) (hn : s.n = n) (hst : s.st = st ++ st2) (hb : st.all (blwB st.length) = true)
    (hf : ∀ p ∈ l, s.fr p.1 = p.2 ∧ blw st.length p.2 = true) : Less X G0 s ⟨n, frL l, st⟩ := by
  refine less_drop hz h0 hn hst hb fun t => ?_
  induction l with
  | nil => exact .inl rfl
  | cons p l ih =>
    obtain ⟨k, v⟩ := p
    simp only [frL]
    split
    · rename_i ht
      subst ht
      have := hf (t, v) (by simp)
      exact .inr ⟨this.1.symm, this.2⟩
    · exact ih fun p hp => hf p (by simp [hp])
end Go.Proofs.YtgpkochbmfhmdaaGreatDoor.Lift
namespace Go.Proofs.YtgpkochbmfhmdaaGreatDoor.Lift
open Go

/-- the world turns where the ghost owns nothing -/
theorem foreign {G0 G : Gh} (inv : Inv G) (hJ : G.J = noFoe) (x : Ext G0 G) {W' : World} {O : Nat → Prop} (hos : W'.os = G.w.os) (htp : W'.tape = G.w.tape) (hout : W'.output = G.w.output) (hsz : G.w.heap.size ≤ W'.heap.size)
    (unch : ∀ blk, blk < G.w.heap.size → ¬ O blk → W'.heap[blk]? = G.w.heap[blk]?) (shape : ∀ (blk : Nat) (c : Array Value) e fz, G.w.heap[blk]? = some (.cells c e fz) → ∃ c', W'.heap[blk]? = some (.cells c' e fz) ∧ c'.size = c.size)
    (o1 : ∀ blk, Owned G blk → ¬ O blk) (o2 : ∀ b o, G.φ b o → ¬ O b) (o3 : ∀ blk, O blk → blk < G0.w.heap.size → Owned G0 blk) :
    Ext G0 { G with w := W' } ∧ Inv { G with w := W' } ∧ ∀ a v, Rep G a v → Rep { G with w := W' } a v := by
  have hfz : ∀ b o, G.φ b o → W'.heap[b]? = G.w.heap[b]? := fun b o h => unch b (inv.lt b o h) (o2 b o h)
  have hown : ∀ blk, Owned G blk → W'.heap[blk]? = G.w.heap[blk]? := fun blk h => unch blk (h.lt inv) (o1 blk h)
  have xr : ExtR G { G with w := W' } := ⟨shape, fun _ _ h => h, fun b o h v hv => (World.cell?_of_block (a := ⟨b, o, none⟩) (hfz b o h)).trans hv, fun b m k h hb => (hfz b 0 h).trans hb, fun b k hk => ⟨k, hk, Nat.le_refl _, rfl⟩, fun _ _ _ _ _ => rfl⟩
  refine ⟨?_, ?_, fun a v h => h.extR xr⟩
  · exact
      { os := hos.trans x.os, tape := htp.trans x.tape, output := hout.trans x.output, size := Nat.le_trans x.size hsz
        old := fun blk hb ho hz => by
          have hO : ¬ O blk := fun h => ho (o3 blk h hb)
          exact (unch blk (Nat.lt_of_lt_of_le hb x.size) hO).trans (x.old blk hb ho hz)
        shape := fun blk c e fz h => by
          obtain ⟨c1, h1, s1⟩ := x.shape blk c e fz h
          obtain ⟨c2, h2, s2⟩ := shape blk c1 e fz h1
          exact ⟨c2, h2, s2.trans s1⟩
        frozen := x.frozen
        cell := fun b o h => (World.cell?_of_block (a := ⟨b, o, none⟩) (hfz b o (x.frozen b o h))).trans (x.cell b o h)
        fmap := fun b m k h hb => (hfz b 0 (x.frozen b 0 h)).trans (x.fmap b m k h hb)
        thaw := x.thaw, len := x.len, id := x.id, at_ := x.at_, own := x.own, time := x.time, zin := x.zin, zout := x.zout, foe := x.foe }
  · exact
      { rows := fun b sz g lo xs h => by
          obtain ⟨h1, h2, h3⟩ := inv.rows b sz g lo xs h
          refine ⟨h1, fun blk hb => ?_, h3⟩
          obtain ⟨c, e, fz, h4, h5, h6, h7⟩ := h2 blk hb
          exact ⟨c, e, fz, (hown blk ⟨b, _, h, rfl, hb⟩).trans h4, h5, fun i y hy => ⟨(h6 i y hy).1, fun j z hz => let ⟨v, h8, h9⟩ := (h6 i y hy).2 j z hz; ⟨v, h8, h9.extR xr⟩⟩, h7⟩
        maps := fun b es h => by
          obtain ⟨blk, ents, ck, h1, h2, h3, h4⟩ := inv.maps b es h
          exact ⟨blk, ents, ck, h1, (hown blk ⟨b, _, h, rfl, h1⟩).trans h2, h3.extR xr, h4⟩
        inj := inv.inj
        lt := fun b o h => Nat.lt_of_lt_of_le (inv.lt b o h) hsz
        tks := inv.tks
        held := by show G.J _ _ _ _ _; rw [hJ]; trivial
        stab := inv.stab
        zlt := fun blk h => Nat.lt_of_lt_of_le (inv.zlt blk h) hsz
        znone := inv.znone
        its := fun b s i h => by
          obtain ⟨blk, q1, q2⟩ := inv.its b s i h
          exact ⟨blk, q1, (hown blk ⟨b, _, h, rfl, q1⟩).trans q2⟩
        deads := fun b sz g blk h hr => Nat.lt_of_lt_of_le (inv.deads b sz g blk h hr) hsz }

/-- what may have turned, but for one block (a loop's record) -/
structure Chg (l : Nat) (G H : Gh) : Prop where
  os : H.w.os = G.w.os
  tape : H.w.tape = G.w.tape
  output : H.w.output = G.w.output
  size : G.w.heap.size ≤ H.w.heap.size
  old : ∀ blk, blk < G.w.heap.size → ¬ Owned G blk → blk ≠ l → H.w.heap[blk]? = G.w.heap[blk]?
  shape : ∀ (blk : Nat) (c : Array Value) e fz, G.w.heap[blk]? = some (.cells c e fz) → ∃ c', H.w.heap[blk]? = some (.cells c' e fz) ∧ c'.size = c.size
  frozen : ∀ b o, G.φ b o → H.φ b o
  cell : ∀ b o, G.φ b o → H.w.cell? ⟨b, o, none⟩ = G.w.cell? ⟨b, o, none⟩
  fmap : ∀ (b : Nat) ents ck, G.φ b 0 → G.w.heap[b]? = some (.map ents ck) → H.w.heap[b]? = some (.map ents ck)
  thaw : ∀ b o, H.φ b o → b < G.w.heap.size → G.φ b o ∨ Owned G b
  own : ∀ blk, Owned H blk → G.w.heap.size ≤ blk ∨ Owned G blk
theorem Chg.of_ext {l : Nat} {G H : Gh} (hz : ∀ blk, ¬ G.z blk) (x : Ext G H) : Chg l G H :=
  ⟨x.os, x.tape, x.output, x.size, fun blk hb ho _ => x.old blk hb ho (fun h => absurd h (hz blk)), x.shape, x.frozen, x.cell, x.fmap, x.thaw, x.own⟩
theorem Chg.trans {l : Nat} {G H K : Gh} (x : Chg l G H) (y : Chg l H K) : Chg l G K where
  os := y.os.trans x.os
  tape := y.tape.trans x.tape
  output := y.output.trans x.output
  size := Nat.le_trans x.size y.size
  old := fun blk hb ho hl => by
    have hH : ¬ Owned H blk := fun h => by
      rcases x.own blk h with h | h
      · omega
      · exact ho h
    rw [y.old blk (Nat.lt_of_lt_of_le hb x.size) hH hl, x.old blk hb ho hl]
  shape := fun blk c e fz h => by
    obtain ⟨c1, h1, s1⟩ := x.shape blk c e fz h
    obtain ⟨c2, h2, s2⟩ := y.shape blk c1 e fz h1
    exact ⟨c2, h2, s2.trans s1⟩
  frozen := fun b o h => y.frozen b o (x.frozen b o h)
  cell := fun b o h => (y.cell b o (x.frozen b o h)).trans (x.cell b o h)
  fmap := fun b ents ck h hb => y.fmap b ents ck (x.frozen b 0 h) (x.fmap b ents ck h hb)
  thaw := fun b o h hb => by
    rcases y.thaw b o h (Nat.lt_of_lt_of_le hb x.size) with h | h
    · exact x.thaw b o h hb
    · rcases x.own b h with h | h
      · omega
      · exact .inr h
  own := fun blk h => by
    rcases y.own blk h with h | h
    · exact .inl (Nat.le_trans x.size h)
    · exact x.own blk h
theorem putObj_size (w : World) (l : Nat) (o : Obj) : (w.putObj l o).heap.size = w.heap.size := by simp [World.putObj]
theorem putObj_shape {w : World} {l : Nat} {o o' : Obj} (h : w.heap[l]? = some o) (ho : ∀ c e fz, o ≠ .cells c e fz) : ∀ (blk : Nat) (c : Array Value) e fz, w.heap[blk]? = some (.cells c e fz) → ∃ c', (w.putObj l o').heap[blk]? = some (.cells c' e fz) ∧ c'.size = c.size := fun blk c e fz hb => by
  have hne : blk ≠ l := fun e' => by subst e'; rw [h] at hb; exact ho _ _ _ (Option.some.inj hb)
  exact ⟨c, (World.putObj_heap_other hne).trans hb, rfl⟩
theorem Chg.put {l : Nat} {G : Gh} {r r' : Loop} (h : G.w.heap[l]? = some (.loop r)) : Chg l G { G with w := G.w.putObj l (.loop r') } where
  os := rfl
  tape := rfl
  output := rfl
  size := Nat.le_of_eq (putObj_size _ _ _).symm
  old := fun blk _ _ hl => World.putObj_heap_other hl
  shape := putObj_shape h (fun _ _ _ e => by cases e)
  frozen := fun _ _ h => h
  cell := fun b o _ => by
    by_cases e : b = l
    · subst e
      unfold World.cell?
      simp only [h, World.putObj_heap_same (Array.getElem?_eq_some_iff.1 h).1]
    · exact World.cell?_of_block (a := ⟨b, o, none⟩) (World.putObj_heap_other e)
  fmap := fun b m k _ hb => by
    have hne : b ≠ l := fun e' => by subst e'; rw [h] at hb; cases hb
    exact (World.putObj_heap_other hne).trans hb
  thaw := fun _ _ h _ => .inl h
  own := fun _ h => .inr h
theorem Chg.refl (l : Nat) (G : Gh) : Chg l G G := ⟨rfl, rfl, rfl, Nat.le_refl _, fun _ _ _ _ => rfl, fun _ c _ _ h => ⟨c, h, rfl⟩, fun _ _ h => h, fun _ _ _ => rfl, fun _ _ _ _ h => h, fun _ _ h _ => .inl h, fun _ h => .inr h⟩

/-- a loop's record is no block of a ghost's -/
theorem Inv.not_loop {G : Gh} (inv : Inv G) {l : Nat} {r : Loop} (h : G.w.heap[l]? = some (.loop r)) : ¬ Owned G l := fun ho => by
  rcases inv.owned ho with ⟨c, e, fz, hb⟩ | ⟨m, k, hb⟩ | ⟨s, i, hb⟩ <;> rw [h] at hb <;> cases hb
theorem Inv.not_deferred {G : Gh} (inv : Inv G) {l : Nat} {r : Option (List Deferred)} (h : G.w.heap[l]? = some (.deferred r)) : ¬ Owned G l := fun ho => by
  rcases inv.owned ho with ⟨c, e, fz, hb⟩ | ⟨m, k, hb⟩ | ⟨s, i, hb⟩ <;> rw [h] at hb <;> cases hb

/-- the record turns -/
theorem foreign_put {G0 G : Gh} (inv : Inv G) (hJ : G.J = noFoe) (x : Ext G0 G) {l : Nat} {r r' : Loop} (h : G.w.heap[l]? = some (.loop r)) (hl : G0.w.heap.size ≤ l) (hφ : ∀ o, ¬ G.φ l o) :
    Ext G0 { G with w := G.w.putObj l (.loop r') } ∧ Inv { G with w := G.w.putObj l (.loop r') } ∧ ∀ a v, Rep G a v → Rep { G with w := G.w.putObj l (.loop r') } a v :=
  foreign inv hJ x (O := fun b => b = l) rfl rfl rfl (Nat.le_of_eq (putObj_size _ _ _).symm) (fun blk _ hne => World.putObj_heap_other hne) (putObj_shape h (fun _ _ _ e => by cases e))
    (fun blk ho e => by subst e; exact inv.not_loop h ho) (fun b o hf e => by subst e; exact hφ o hf) (fun blk e hb => by subst e; omega)
end Go.Proofs.YtgpkochbmfhmdaaGreatDoor.Lift
namespace Go.Proofs.YtgpkochbmfhmdaaGreatDoor.Lift
open Go

open Classical in
/-- the yields of a range over a function: the values of each round; the round k is the last *)-/
noncomputable def yieldS (xs : List (List AV)) (k : Nat) : Spec := fun args st => match st with
  | .tick n :: r => if n ≤ k ∧ xs[n]? = some args then some (.bool (decide (n ≠ k)), .tick (n + 1) :: r) else none
  | _ => none

/-- THE FOREIGN STATE: the ranging function's own ghost -/
structure FoeC (X : Cfg) (G0 : Gh) (l : Nat) (D : List Nat) (k : Nat) (rec : LoopState → Option Code → Loop) (jump : Code) (I : Nat → Sto) (fr0 : Nat → AV) (tm : Array Value) (Gc : Gh) (t : Nat) (W : World) (O : Nat → Prop) (φ : Nat → Nat → Prop) (z : Nat → Prop) : Prop where
  w : Gc.w = W
  inv : Inv Gc
  gl : Glob X Gc
  x : Ext G0 Gc
  J : Gc.J = noFoe
  σ : Gc.σ = I t
  fr : ∀ i, Rep Gc (fr0 i) (tm.getD i undef)
  ready : t ≤ k → W.heap[l]? = some (.loop (rec .ready none))
  done : ¬ t ≤ k → W.heap[l]? = some (.loop (rec .done (some jump)))
  dfr : ∀ r ∈ D, W.heap[r]? = some (.deferred (some []))
  own : ∀ blk, Owned Gc blk → z blk ∧ ¬ O blk
  zl : z l
  ol : ¬ O l
  oD : ∀ r ∈ D, ¬ O r
  nφ : ∀ o, ¬ Gc.φ l o
  φ1 : ∀ b o, φ b o → Gc.φ b o ∨ ¬ Owned Gc b
  φ2 : ∀ b o, Gc.φ b o → ¬ O b
  o3 : ∀ blk, O blk → blk < G0.w.heap.size → Owned G0 blk
def FoeJ (X : Cfg) (G0 : Gh) (l : Nat) (D : List Nat) (k : Nat) (rec : LoopState → Option Code → Loop) (jump : Code) (I : Nat → Sto) (fr0 : Nat → AV) (tm : Array Value) : Foe := fun t W O φ z => ∃ Gc, FoeC X G0 l D k rec jump I fr0 tm Gc t W O φ z

theorem FoeC.lrec {X : Cfg} {G0 : Gh} {l : Nat} {D : List Nat} {k : Nat} {rec : LoopState → Option Code → Loop} {jump : Code} {I : Nat → Sto} {fr0 : Nat → AV} {tm : Array Value} {Gc : Gh} {t : Nat} {W : World} {O : Nat → Prop} {φ : Nat → Nat → Prop} {z : Nat → Prop}
    (h : FoeC X G0 l D k rec jump I fr0 tm Gc t W O φ z) : ∃ r, W.heap[l]? = some (.loop r) := by
  by_cases ht : t ≤ k
  · exact ⟨_, h.ready ht⟩
  · exact ⟨_, h.done ht⟩

theorem foeJ_stable (X : Cfg) (G0 : Gh) (l : Nat) (D : List Nat) (k : Nat) (rec : LoopState → Option Code → Loop) (jump : Code) (I : Nat → Sto) (fr0 : Nat → AV) (tm : Array Value) : Stable (FoeJ X G0 l D k rec jump I fr0 tm) := by
  intro t W O φ z W' O' φ' z' ⟨Gc, h⟩ hos htp hout hsz unch shape hO hφ hz
  obtain ⟨r, hl⟩ := h.lrec
  have hlt : l < W.heap.size := (Array.getElem?_eq_some_iff.1 hl).1
  have hDt : ∀ r ∈ D, r < W.heap.size := fun r hr => (Array.getElem?_eq_some_iff.1 (h.dfr r hr)).1
  have hw := h.w
  subst hw
  obtain ⟨x', inv', rep'⟩ := foreign h.inv h.J h.x hos htp hout hsz unch shape (fun blk ho => (h.own blk ho).2) h.φ2 h.o3
  have lts : ∀ blk, Owned Gc blk → blk < Gc.w.heap.size := fun blk ho => ho.lt h.inv
  refine ⟨{ Gc with w := W' }, rfl, inv', ?_, x', h.J, h.σ, fun i => rep' _ _ (h.fr i), fun ht => ?_, fun ht => ?_, fun r hr => ?_, fun blk ho => ⟨hz _ (h.own blk ho).1, fun h' => ?_⟩, hz _ h.zl, fun h' => ?_, fun r hr h' => ?_, h.nφ, fun b o hf => ?_, fun b o hf h' => ?_, fun blk h' hb => ?_⟩
  · exact fun g v hv => rep' _ _ (h.gl g v hv)
  · exact (unch l hlt h.ol).trans (h.ready ht)
  · exact (unch l hlt h.ol).trans (h.done ht)
  · exact (unch r (hDt r hr) (h.oD r hr)).trans (h.dfr r hr)
  · have hlt' := lts blk ho
    rcases hO blk h' with h1 | h1
    · omega
    · exact (h.own blk ho).2 h1
  · rcases hO l h' with h1 | h1
    · omega
    · exact h.ol h1
  · have := hDt r hr
    rcases hO r h' with h1 | h1
    · omega
    · exact h.oD r hr h1
  · by_cases hb : b < Gc.w.heap.size
    · rcases hφ b o hf hb with h1 | h1
      · exact h.φ1 b o h1
      · exact .inr fun ho => (h.own b ho).2 h1
    · exact .inr fun ho => hb (lts b ho)
  · have hlt' := h.inv.lt b o hf
    rcases hO b h' with h1 | h1
    · omega
    · exact h.φ2 b o hf h1
  · have := h.x.size
    rcases hO blk h' with h1 | h1
    · omega
    · exact h.o3 blk h1 hb

/-- it says something -/
theorem foeJ_ne (X : Cfg) (G0 : Gh) (l : Nat) (D : List Nat) (k : Nat) (rec : LoopState → Option Code → Loop) (jump : Code) (I : Nat → Sto) (fr0 : Nat → AV) (tm : Array Value) (w : World) : FoeJ X G0 l D k rec jump I fr0 tm ≠ noFoe := fun h => by
  have h1 : FoeJ X G0 l D k rec jump I fr0 tm 0 w (fun _ => True) (fun _ _ => False) (fun _ => False) := by rw [h]; trivial
  obtain ⟨Gc, h2⟩ := h1
  exact h2.ol trivial

/-- the values of a round, in the frame -/
def setPs (fr : Nat → AV) : List Nat → List AV → Nat → AV
  | p :: ps, x :: xs => setPs (upd fr p x) ps xs
  | _, _ => fr

theorem slots_setPs {G : Gh} {n : Nat} : ∀ (ps : List Nat) (xs : List AV) (vs : List Value) (fr : Nat → AV) (tm : Array Value), (∀ p ∈ ps, p < n) → n ≤ tm.size → (∀ i, Rep G (fr i) (tm.getD i undef)) → RepL G xs vs →
    n ≤ ((ps.zip vs).foldl (fun t (p, v) => t.setIfInBounds p v) tm).size ∧ ∀ i, Rep G (setPs fr ps xs i) (((ps.zip vs).foldl (fun t (p, v) => t.setIfInBounds p v) tm).getD i undef)
  | [], xs, vs, fr, tm, _, hn, h, _ => by cases xs <;> exact ⟨hn, h⟩
  | p :: ps, [], vs, fr, tm, _, hn, h, hr => by cases hr; exact ⟨hn, h⟩
  | p :: ps, x :: xs, vs, fr, tm, hp, hn, h, hr => by
    cases hr with
    | cons hx ht =>
      rename_i v vs
      refine slots_setPs ps xs vs (upd fr p x) (tm.setIfInBounds p v) (fun q hq => hp q (by simp [hq])) (by simpa using hn) (fun i => ?_) ht
      have hlt : p < tm.size := Nat.lt_of_lt_of_le (hp p (by simp)) hn
      simp only [upd]
      split
      · rename_i hi
        subst hi
        simpa [Array.getD, hlt] using hx
      · rename_i hi
        have := h i
        rw [show (tm.setIfInBounds p v).getD i undef = tm.getD i undef by
          simp only [Array.getD_eq_getD_getElem?, Array.getElem?_setIfInBounds]
          rw [if_neg (fun e => hi e.symm)]]
        exact this

/-- how a round ends: the newest blocks are left -/
def RoundEnd (k : Nat) (ex : Exit) (I : Nat → Sto) (t : Nat) (e : Exit) (s : ASt) : Prop := (t < k → e = .normal) ∧ (¬ t < k → e = ex) ∧ s.st.take (I (t + 1)).length = I (t + 1) ∧ (I (t + 1)).all (blwB (I (t + 1)).length) = true ∧ (I t).length ≤ (I (t + 1)).length
/-- what a round is asked -/
def RoundOk (P : Program) (X : Cfg) (n : Nat) (ps : List Nat) (assign body : Code) (xs : List (List AV)) (k : Nat) (ex : Exit) (I : Nat → Sto) (fr0 : Nat → AV) : Prop :=
  ∀ (t : Nat) (x : List AV), xs[t]? = some x → t ≤ k → ∀ G1 : { G : Gh // G.σ = I t }, Ev P X G1.1 assign ⟨n, setPs fr0 ps x, I t⟩ (fun e s1 => e = .normal ∧ ∀ G2 : { G : Gh // G.σ = s1.st }, Ev P X G2.1 body s1 (RoundEnd k ex I t))

/-- the jump that is left pending -/
def exCode : Exit → Code
  | .ret => .ret
  | .exit i => .exit i
  | .goto i => .goto i
  | _ => .skip
def IsJump (e : Exit) : Prop := e = .ret ∨ (∃ i, e = .exit i) ∨ ∃ i, e = .goto i
end Go.Proofs.YtgpkochbmfhmdaaGreatDoor.Lift
namespace Go.Proofs.YtgpkochbmfhmdaaGreatDoor.Lift
open Go

theorem soundY_of {P : Program} {X : Cfg} {G0 : Gh} {l k fnid n dd : Nat} {D : List Nat} {rec : LoopState → Option Code → Loop} {I : Nat → Sto} {fr0 : Nat → AV} {tm : Array Value} {ps : Array Nat} {assign body : Code} {xs : List (List AV)} {ex : Exit}
    (hz0 : FzG X.G) (hXJ : X.J = noFoe) (hrd : X.rd = true) (hrec : rec = fun st pe => { state := st, pending := pe, fn := fnid, tmps := tm, params := ps, assign, body, defers := dd }) (hex : IsJump ex) (hl0 : G0.w.heap.size ≤ l) (hDl : ∀ r ∈ D, r ≠ l)
    (hps : ∀ p ∈ ps.toList, p < n) (hn : n ≤ tm.size) (hflat : ∀ x ∈ xs, flatL x = true) (hlen : ∀ x ∈ xs, x.length = ps.size) (ro : RoundOk P X n ps.toList assign body xs k ex I fr0) :
    SoundY P X.G (FoeJ X G0 l D k rec (exCode ex) I fr0 tm) l (yieldS xs k) := by
  constructor
  intro F m G args vals r σ' hF hy inv hJ hg hargs
  unfold yieldS at hy
  split at hy
  · rename_i nn rest hσ
    split at hy
    · rename_i hc
      obtain ⟨hk, hx⟩ := hc
      cases hy
      have hσ0 : G.σ[0]? = some (.tick nn) := by rw [hσ]; rfl
      obtain ⟨ht0, hρ0⟩ := inv.tks 0 nn hσ0
      have ht := ht0 rfl
      have held := inv.held
      rw [hJ] at held
      obtain ⟨Gc, h⟩ := held
      have hw : Gc.w = G.w := h.w
      rw [← ht] at h
      have hlr : G.w.heap[l]? = some (.loop (rec .ready none)) := h.ready hk
      have hlrc : Gc.w.heap[l]? = some (.loop (rec .ready none)) := by rw [hw]; exact hlr
      have hmem : args ∈ xs := List.mem_of_getElem? hx
      have hvl : vals.length = ps.size := by rw [← hargs.length, hlen args hmem]
      have hy := run_yield (P := P) (args := vals.toArray) hlr (by rw [hrec]; simpa using hvl)
      refine ⟨_, _, _, _, hy, roundIn_of_wpIn (hF.fn _) ?_⟩
      have hassign : (rec .ready none).assign = assign := by rw [hrec]
      have hbody : (rec .ready none).body = body := by rw [hrec]
      have htm : (rec .ready none).tmps = tm := by rw [hrec]
      have hpar : (rec .ready none).params = ps := by rw [hrec]
      rw [hassign, hbody, htm, hpar]
      have hz : ∀ blk, ¬ Gc.z blk := h.inv.znone h.J
      have hltl : l < Gc.w.heap.size := (Array.getElem?_eq_some_iff.1 hlrc).1
      -- the assignment
      have hargc : RepL Gc args vals := flat_repL (hflat args hmem) hargs
      have hsl := slots_setPs ps.toList args vals fr0 tm hps hn h.fr hargc
      have hfold : (ps.zip vals.toArray).foldl (fun tmps (t, a) => tmps.setIfInBounds t a) tm = (ps.toList.zip vals).foldl (fun t (p, v) => t.setIfInBounds p v) tm := by
        rw [← Array.foldl_toList, Array.toList_zip]
      rw [hfold]
      have hst0 : St X Gc ⟨n, setPs fr0 ps.toList args, I nn⟩ { tmps := (ps.toList.zip vals).foldl (fun t (p, v) => t.setIfInBounds p v) tm, defers := [] } G.w :=
        ⟨Gc, hw, ⟨hsl.1, hsl.2, h.σ⟩, h.inv, h.gl, Ext.refl Gc, h.J.trans hXJ.symm, [], rfl, .nil, fun h => absurd rfl h, fun r hr => by cases hr⟩
      refine wpIn_mono (ro nn args hx hk ⟨Gc, h.σ⟩ (F.inRound l) m _ _ ⟨hF.inRound l, .inl hrd⟩ hst0) ?_
      rintro e a1 W1 ⟨s1, ⟨rfl, ev2⟩, hst1⟩
      obtain ⟨G1, rfl, hs1, inv1, hg1, x1, hm1⟩ := hst1
      have hJ1 : G1.J = noFoe := x1.foe.trans h.J
      have hl1 : G1.w.heap[l]? = some (.loop (rec .ready none)) := (x1.old l hltl (h.inv.not_loop hlrc) (fun hz' => absurd hz' (hz l))).trans hlrc
      have hφ1 : ∀ o, ¬ G1.φ l o := fun o hf => by
        rcases x1.thaw l o hf hltl with h1 | h1
        · exact h.nφ o h1
        · exact h.inv.not_loop hlrc h1
      refine ⟨_, run_beginRound hl1 (by rw [hrec]), ?_⟩
      obtain ⟨y2, inv2, rep2⟩ := foreign_put (r' := { rec .ready none with state := .busy }) inv1 hJ1 (h.x.trans x1) hl1 hl0 hφ1
      have hrs1 : a1.defers = [] := by
        obtain ⟨_, rs, e1, _, e2, _⟩ := hm1
        have : rs = [] := Classical.byContradiction fun hne => by
          have := (e2 hne).2
          rw [hrd] at this
          cases this
        rw [e1, this]; rfl
      have mk2 : ∀ {G' : Gh} {ds : List Deferred}, G'.J = noFoe → ds = [] → Marks X G'.w.heap.size G' ds := fun hj hd => ⟨hj.trans hXJ.symm, [], hd, .nil, fun h => absurd rfl h, fun r hr => by cases hr⟩
      have hst2 : St X { G1 with w := G1.w.putObj l (.loop { rec .ready none with state := .busy }) } s1 a1 (G1.w.putObj l (.loop { rec .ready none with state := .busy })) :=
        ⟨_, rfl, ⟨hs1.1, fun t => rep2 _ _ (hs1.2.1 t), hs1.2.2⟩, inv2, fun g v hv => rep2 _ _ (hg1 g v hv), Ext.refl _, mk2 hJ1 hrs1⟩
      generalize hG2 : ({ G1 with w := G1.w.putObj l (.loop { rec .ready none with state := .busy }) } : Gh) = G2 at y2 inv2 rep2 hst2
      have hw2 : G1.w.putObj l (.loop { rec .ready none with state := .busy }) = G2.w := by rw [← hG2]
      have hJ2 : G2.J = noFoe := by rw [← hG2]; exact hJ1
      have hφ2 : G2.φ = G1.φ := by rw [← hG2]
      have hρ2 : G2.ρ = G1.ρ := by rw [← hG2]
      have chg2 : Chg l Gc G2 := (Chg.of_ext hz x1).trans (by rw [← hG2]; exact Chg.put hl1)
      have hl2 : G2.w.heap[l]? = some (.loop { rec .ready none with state := .busy }) := by rw [← hw2]; exact World.putObj_heap_same (Array.getElem?_eq_some_iff.1 hl1).1
      rw [hw2] at hst2 ⊢
      refine wpIn_mono (ev2 ⟨G2, by rw [← hG2]; exact hs1.2.2⟩ (F.inRound l) m a1 G2.w ⟨hF.inRound l, .inl hrd⟩ hst2) ?_
      rintro e a3 W3 ⟨s2, ⟨he1, he2, htake, hall, hlen2⟩, G3, rfl, hs3, inv3, hg3, x3, hm3⟩
      have hz2 : ∀ blk, ¬ G2.z blk := inv2.znone hJ2
      have hJ3 : G3.J = noFoe := x3.foe.trans hJ2
      have hlt2 : l < G2.w.heap.size := (Array.getElem?_eq_some_iff.1 hl2).1
      have hl3 : G3.w.heap[l]? = some (.loop { rec .ready none with state := .busy }) := (x3.old l hlt2 (inv2.not_loop hl2) (fun hz' => absurd hz' (hz2 l))).trans hl2
      have hφ3 : ∀ o, ¬ G3.φ l o := fun o hf => by
        rcases x3.thaw l o hf hlt2 with h1 | h1
        · rw [hφ2] at h1; exact hφ1 o h1
        · exact inv2.not_loop hl2 h1
      -- the round's end
      have fin : ∀ j : Option Code, (nn < k → j = none) → (¬ nn < k → j = some (exCode ex)) → ∃ v w', (Instr.endRound l j).run P G3.w = .ok v w' ∧ Ret G (.bool (decide (nn ≠ k))) (.tick (nn + 1) :: rest) (.returned v) w' := by
        intro j hj1 hj2
        refine ⟨_, _, run_endRound j hl3, ?_⟩
        have hrr : ({ ({ rec .ready none with state := .busy } : Loop) with state := if j.isNone then .ready else .done, pending := j } : Loop) = rec (if j.isNone then .ready else .done) j := by rw [hrec]
        rw [hrr]
        obtain ⟨y4, inv4, rep4⟩ := foreign_put (r' := rec (if j.isNone then .ready else .done) j) inv3 hJ3 (y2.trans x3) hl3 hl0 hφ3
        have chg4 : Chg l Gc { G3 with w := G3.w.putObj l (.loop (rec (if j.isNone then .ready else .done) j)) } := chg2.trans ((Chg.of_ext hz2 x3).trans (Chg.put hl3))
        have hl4' : (G3.w.putObj l (.loop (rec (if j.isNone then .ready else .done) j))).heap[l]? = some (.loop (rec (if j.isNone then .ready else .done) j)) := World.putObj_heap_same (Array.getElem?_eq_some_iff.1 hl3).1
        have hg4' : Glob X { G3 with w := G3.w.putObj l (.loop (rec (if j.isNone then .ready else .done) j)) } := fun g v hv => rep4 _ _ (hg3 g v hv)
        have hcut : s2.st = I (nn + 1) ++ s2.st.drop (I (nn + 1)).length := by conv => lhs; rw [← List.take_append_drop (I (nn + 1)).length s2.st, htake]
        have hσ3 : G3.σ = I (nn + 1) ++ s2.st.drop (I (nn + 1)).length := hs3.2.2.trans hcut
        have hlen0 : G0.σ.length ≤ (I (nn + 1)).length := by
          have h1 := h.x.len
          rw [h.σ] at h1
          omega
        have hsl4 : Slots { G3 with w := G3.w.putObj l (.loop (rec (if j.isNone then .ready else .done) j)) } ⟨0, fun _ => .undef, s2.st⟩ a3 := ⟨Nat.zero_le _, fun _ => .undef _, hs3.2.2⟩
        obtain ⟨_, inv5, hg5, y5⟩ := drop_at (X := X) (s := ⟨0, fun _ => .undef, s2.st⟩) (n := 0) (fr := fun _ => .undef) hz0 hlen0 rfl hcut hall (fun _ => .inl rfl) hsl4 inv4 hg4' y4
        have sub5 : ∀ (b : Nat) (kk : ABlk), (I (nn + 1))[b]? = some kk → G3.σ[b]? = some kk := fun b kk hb => by
          rw [hσ3, List.getElem?_append_left (List.getElem?_eq_some_iff.1 hb).1]; exact hb
        have chg : Chg l Gc { G3 with w := G3.w.putObj l (.loop (rec (if j.isNone then .ready else .done) j)), σ := I (nn + 1) } :=
          ⟨chg4.os, chg4.tape, chg4.output, chg4.size, chg4.old, chg4.shape, chg4.frozen, chg4.cell, chg4.fmap, chg4.thaw, fun blk ⟨b, kk, hb, hlv, hr⟩ => chg4.own blk ⟨b, kk, sub5 b kk hb, hlv, hr⟩⟩
        have hid1 : ∀ (b : Nat) (kk : ABlk), Gc.σ[b]? = some kk → ∃ k', (I (nn + 1))[b]? = some k' ∧ kk.gen ≤ k'.gen ∧ k'.sz = kk.sz ∧ ∀ g, g ≤ kk.gen → G3.ρ b g = Gc.ρ b g := fun b kk hb => by
          obtain ⟨k1, h1, g1, z1⟩ := x1.id b kk hb
          have h1' : G2.σ[b]? = some k1 := by rw [← hG2]; exact h1
          obtain ⟨k3, h3, g3, z3⟩ := x3.id b k1 h1'
          have hlt : b < (I (nn + 1)).length := by
            have := (List.getElem?_eq_some_iff.1 hb).1
            rw [h.σ] at this
            omega
          refine ⟨k3, ?_, Nat.le_trans g1 g3, z3.trans z1, fun g hg => ?_⟩
          · rw [hσ3, List.getElem?_append_left hlt] at h3; exact h3
          · exact (x3.at_ b k1 g h1' (Nat.le_trans hg g1)).trans ((congrFun (congrFun hρ2 b) g).trans (x1.at_ b kk g hb hg))
        have hfr4 : ∀ a v, Rep Gc a v → Rep { G3 with w := G3.w.putObj l (.loop (rec (if j.isNone then .ready else .done) j)), σ := I (nn + 1) } a v := fun a v hr =>
          hr.extR ⟨chg.shape, chg.frozen, fun b o hf v hv => (chg.cell b o hf).trans hv, chg.fmap, fun b kk hb => let ⟨k', q1, q2, q3, _⟩ := hid1 b kk hb; ⟨k', q1, q2, q3⟩, fun b kk g hb hg => (hid1 b kk hb).choose_spec.2.2.2 g hg⟩
        have hg4 : ∀ g v, X.G g = some v → Rep { G3 with w := G3.w.putObj l (.loop (rec (if j.isNone then .ready else .done) j)), σ := I (nn + 1) } (.rp v 0) (.pointer (some ⟨g, 0, none⟩)) := fun g v hv => hg5 g v hv
        have hl4 := hl4'
        have hJ4' : ({ G3 with w := G3.w.putObj l (.loop (rec (if j.isNone then .ready else .done) j)), σ := I (nn + 1) } : Gh).J = noFoe := hJ3
        have hσ4' : ({ G3 with w := G3.w.putObj l (.loop (rec (if j.isNone then .ready else .done) j)), σ := I (nn + 1) } : Gh).σ = I (nn + 1) := rfl
        have hw4 : ({ G3 with w := G3.w.putObj l (.loop (rec (if j.isNone then .ready else .done) j)), σ := I (nn + 1) } : Gh).w = G3.w.putObj l (.loop (rec (if j.isNone then .ready else .done) j)) := rfl
        rw [← hw4] at hl4 ⊢
        clear hl4' hg4' hsl4 hg5 chg4 rep4 hid1 sub5
        clear inv4 y4
        have inv4 := inv5
        have y4 := y5
        clear inv5 y5
        generalize ({ G3 with w := G3.w.putObj l (.loop (rec (if j.isNone then .ready else .done) j)), σ := I (nn + 1) } : Gh) = G4 at *
        have hsz : G.w.heap.size ≤ G4.w.heap.size := by have := chg.size; rwa [hw] at this
        have hltl' : l < G.w.heap.size := by rw [← hw]; exact hltl
        have hnz : ∀ blk, ¬ G.z blk → ¬ Owned Gc blk ∧ blk ≠ l := fun blk hb => ⟨fun ho => hb (h.own blk ho).1, fun e => hb (e ▸ h.zl)⟩
        have same : ∀ blk, blk < G.w.heap.size → ¬ Owned Gc blk → blk ≠ l → G4.w.heap[blk]? = G.w.heap[blk]? := fun blk hb ho hne => by
          have := chg.old blk (by rw [hw]; exact hb) ho hne
          rwa [hw] at this
        let G' : Gh := { G with w := G4.w, σ := .tick (nn + 1) :: rest, t := nn + 1, z := fun b => G.z b ∨ Owned G4 b }
        have own' : ∀ blk, Owned G' blk → Owned G blk := fun blk ⟨b, kk, hb, hlv, hr⟩ => by
          cases b with
          | zero =>
            have : kk = .tick (nn + 1) := (Option.some.inj hb).symm
            subst this
            rw [show G'.ρ 0 (ABlk.tick (nn + 1)).gen = G.ρ 0 0 from rfl, hρ0 0] at hr
            cases hr
          | succ b => exact ⟨b + 1, kk, by rw [hσ]; exact hb, hlv, hr⟩
        have hO : ∀ blk, Owned G blk → blk < G.w.heap.size ∧ ¬ Owned Gc blk ∧ blk ≠ l := fun blk ho => ⟨ho.lt inv, fun hc => (h.own blk hc).2 ho, fun e => h.ol (e ▸ ho)⟩
        have heapO : ∀ blk, Owned G blk → G4.w.heap[blk]? = G.w.heap[blk]? := fun blk ho => same blk (hO blk ho).1 (hO blk ho).2.1 (hO blk ho).2.2
        have xx : Ext G G' :=
          { os := by have := chg.os; rwa [hw] at this
            tape := by have := chg.tape; rwa [hw] at this
            output := by have := chg.output; rwa [hw] at this
            size := hsz
            old := fun blk hb _ hz' => by
              have hn : ¬ G.z blk := fun hzz => by
                have : nn + 1 = G.t := hz' hzz
                omega
              exact same blk hb (hnz blk hn).1 (hnz blk hn).2
            shape := fun blk c e fz hb => chg.shape blk c e fz (by rw [hw]; exact hb)
            frozen := fun _ _ h => h
            cell := fun b o hf => by
              rcases h.φ1 b o hf with h1 | h1
              · have := chg.cell b o h1
                rwa [hw] at this
              · by_cases e : b = l
                · subst e
                  show G4.w.cell? _ = _
                  unfold World.cell?
                  simp only [hlr, hl4]
                · exact World.cell?_of_block (a := ⟨b, o, none⟩) (same b (inv.lt b o hf) h1 e)
            fmap := fun b mm ck hf hb => by
              have hne : b ≠ l := fun e => by subst e; rw [hlr] at hb; cases hb
              rcases h.φ1 b 0 hf with h1 | h1
              · exact chg.fmap b mm ck h1 (by rw [hw]; exact hb)
              · exact (same b (inv.lt b 0 hf) h1 hne).trans hb
            thaw := fun _ _ h _ => .inl h
            len := by simp [G', hσ]
            id := fun b kk hb => by
              cases b with
              | zero =>
                rw [hσ] at hb
                have : kk = .tick nn := (Option.some.inj hb).symm
                subst this
                exact ⟨.tick (nn + 1), rfl, Nat.le_refl _, rfl⟩
              | succ b => exact ⟨kk, by rw [hσ] at hb; exact hb, Nat.le_refl _, rfl⟩
            at_ := fun _ _ _ _ _ => rfl
            own := fun blk ho => .inr (own' blk ho)
            time := by show G.t ≤ nn + 1; omega
            zin := fun blk hb => by
              rcases hb with hb | hb
              · exact .inr hb
              · rcases chg.own blk hb with h1 | h1
                · rw [hw] at h1; exact .inl h1
                · exact .inr (h.own blk h1).1
            zout := fun blk hb => .inl hb
            foe := rfl }
        have old' : ∀ (b : Nat) (kk : ABlk), G'.σ[b]? = some kk → (∀ q, kk ≠ .tick q) → G.σ[b]? = some kk := fun b kk hb hne => by
          cases b with
          | zero => exact absurd (Option.some.inj hb).symm (hne _)
          | succ b => rw [hσ]; exact hb
        refine ⟨G', rfl, rfl, xx, ?_, ?_⟩
        · exact
            { rows := fun b sz g lo ys hb => by
                have hb' := old' b _ hb (fun q e => by cases e)
                obtain ⟨q1, q2, q3⟩ := inv.rows b sz g lo ys hb'
                refine ⟨q1, fun blk hr => ?_, q3⟩
                obtain ⟨c, e, fz, q4, q5, q6, q7⟩ := q2 blk hr
                exact ⟨c, e, fz, (heapO blk ⟨b, _, hb', rfl, hr⟩).trans q4, q5, q6.ext xx, q7⟩
              maps := fun b es hb => by
                have hb' := old' b _ hb (fun q e => by cases e)
                obtain ⟨blk, ents, ck, q1, q2, q3, q4⟩ := inv.maps b es hb'
                exact ⟨blk, ents, ck, q1, (heapO blk ⟨b, _, hb', rfl, q1⟩).trans q2, q3.ext xx, q4⟩
              inj := fun b b' k1 k2 blk h1 h2 r1 r2 => by
                have t1 : ∀ q, k1 ≠ .tick q := fun q e => by
                  subst e
                  cases b with
                  | zero => rw [show (ABlk.tick q).gen = 0 from rfl, show G'.ρ 0 0 = G.ρ 0 0 from rfl, hρ0 0] at r1; cases r1
                  | succ b =>
                    have := (inv.tks (b + 1) q (by rw [hσ]; exact h1)).2 0
                    rw [show G'.ρ (b + 1) (ABlk.tick q).gen = G.ρ (b + 1) 0 from rfl, this] at r1
                    cases r1
                have t2 : ∀ q, k2 ≠ .tick q := fun q e => by
                  subst e
                  cases b' with
                  | zero => rw [show (ABlk.tick q).gen = 0 from rfl, show G'.ρ 0 0 = G.ρ 0 0 from rfl, hρ0 0] at r2; cases r2
                  | succ b' =>
                    have := (inv.tks (b' + 1) q (by rw [hσ]; exact h2)).2 0
                    rw [show G'.ρ (b' + 1) (ABlk.tick q).gen = G.ρ (b' + 1) 0 from rfl, this] at r2
                    cases r2
                exact inv.inj b b' k1 k2 blk (old' b k1 h1 t1) (old' b' k2 h2 t2) r1 r2
              lt := fun b o hf => Nat.lt_of_lt_of_le (inv.lt b o hf) hsz
              tks := fun b q hb => by
                cases b with
                | zero =>
                  have : q = nn + 1 := by have := Option.some.inj hb; simpa using this.symm
                  exact ⟨fun _ => this, hρ0⟩
                | succ b => exact ⟨fun e => (by cases e), (inv.tks (b + 1) q (by rw [hσ]; exact hb)).2⟩
              held := by
                show G.J (nn + 1) G4.w (Owned G') G.φ G'.z
                rw [hJ]
                have lt4 : ∀ blk, Owned G4 blk → blk < G4.w.heap.size := fun blk ho => ho.lt inv4
                refine ⟨G4, rfl, inv4, fun g v hv => hg4 g v hv, y4, hJ4', hσ4', fun i => hfr4 _ _ (h.fr i), fun hle => ?_, fun hle => ?_, fun r hr => ?_, fun blk ho => ⟨.inr ho, fun ho' => ?_⟩, .inl h.zl, fun ho => h.ol (own' _ ho), fun r hr ho => h.oD r hr (own' _ ho), fun o hf => ?_, fun b o hf => ?_, fun b o hf ho => ?_, fun blk ho hb => h.o3 blk (own' _ ho) hb⟩
                · have := hj1 (by omega)
                  subst this
                  exact hl4
                · have := hj2 (by omega)
                  subst this
                  exact hl4
                · have hD : G.w.heap[r]? = some (.deferred (some [])) := h.dfr r hr
                  have hDlt : r < G.w.heap.size := (Array.getElem?_eq_some_iff.1 hD).1
                  have hDc : Gc.w.heap[r]? = some (.deferred (some [])) := by rw [hw]; exact hD
                  exact (same r hDlt (h.inv.not_deferred hDc) (hDl r hr)).trans hD
                · have h1 := own' _ ho'
                  rcases chg.own blk ho with h2 | h2
                  · rw [hw] at h2
                    have := (hO blk h1).1
                    omega
                  · exact (h.own blk h2).2 h1
                · rcases chg.thaw l o hf hltl with h1 | h1
                  · exact h.nφ o h1
                  · exact h.inv.not_loop hlrc h1
                · rcases h.φ1 b o hf with h1 | h1
                  · exact .inl (chg.frozen b o h1)
                  · refine .inr fun ho => ?_
                    have hb := inv.lt b o hf
                    rcases chg.own b ho with h2 | h2
                    · rw [hw] at h2; omega
                    · exact h1 h2
                · have h1 := own' _ ho
                  have hb := (hO b h1).1
                  rcases chg.thaw b o hf (by rw [hw]; exact hb) with h2 | h2
                  · exact h.φ2 b o h2 h1
                  · exact (h.own b h2).2 h1
              stab := by show Stable G.J; rw [hJ]; exact foeJ_stable _ _ _ _ _ _ _ _ _ _
              zlt := fun blk hb => by
                rcases hb with hb | hb
                · exact Nat.lt_of_lt_of_le (inv.zlt blk hb) hsz
                · exact hb.lt inv4
              znone := fun e => by
                have e' : G.J = noFoe := e
                rw [hJ] at e'
                exact absurd e' (foeJ_ne _ _ _ _ _ _ _ _ _ _ G.w)
              its := fun b s i hb => by
                have hb' := old' b _ hb (fun q e => by cases e)
                obtain ⟨blk, q1, q2⟩ := inv.its b s i hb'
                exact ⟨blk, q1, (heapO blk ⟨b, _, hb', rfl, q1⟩).trans q2⟩
              deads := fun b sz g blk hb hr => Nat.lt_of_lt_of_le (inv.deads b sz g blk (old' b _ hb (fun q e => by cases e)) hr) hsz }
        · have : (Value.bool j.isNone) = .bool (decide (nn ≠ k)) := by
            by_cases hlt : nn < k
            · rw [hj1 hlt]
              have : nn ≠ k := by omega
              simp [this]
            · rw [hj2 hlt]
              have : nn = k := by omega
              simp [this]
          rw [this]
          exact .bool _
      by_cases hlt : nn < k
      · have he := he1 hlt
        subst he
        exact fin none (fun _ => rfl) (fun h' => absurd hlt h')
      · have he := he2 hlt
        subst he
        rcases hex with rfl | ⟨i, rfl⟩ | ⟨i, rfl⟩
        · exact fin (some .ret) (fun h' => absurd h' hlt) (fun _ => rfl)
        · exact fin (some (.exit i)) (fun h' => absurd h' hlt) (fun _ => rfl)
        · exact fin (some (.goto i)) (fun h' => absurd h' hlt) (fun _ => rfl)
    · cases hy
  · cases hy
end Go.Proofs.YtgpkochbmfhmdaaGreatDoor.Lift
