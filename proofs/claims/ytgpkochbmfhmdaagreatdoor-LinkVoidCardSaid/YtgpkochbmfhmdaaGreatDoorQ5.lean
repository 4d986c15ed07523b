/-
  LIFT, 22: CODE: what a walk from an abstract state comes to ('Ev'), its rules, and the walk of code without loops ('wpC').
  LIFT, 23: A FUNCTION's CONTRACT from the walk of its body.
  LIFT, 24: BLOCKS OF THE STORE THAT NOBODY HOLDS MAY BE LEFT (the newest first).
-/
import Derived.Test.YtgpkochbmfhmdaaGreatDoorQ4
import Derived.Scope
import Derived.LoopNIn
import Derived.RangeFuncLeaves
import Derived.RangeFuncRecord
namespace Go.Proofs.YtgpkochbmfhmdaaGreatDoor.Lift
open Go

/-- the fences of a walk: in a round, where it may be -/
def FWX (X : Cfg) (F : Fence) : Prop := FW F ∧ (X.rd = true ∨ F.round = none)
/-- FROM s, THE CODE COMES TO A STATE IN Q -/
def Ev (P : Program) (X : Cfg) (G0 : Gh) (c : Code) (s : ASt) (Q : Exit → ASt → Prop) : Prop :=
  ∀ (F : Fence) (n : Nat) (a : Act) (w : World), FWX X F → St X G0 s a w → c.wpIn F n P (fun e a' w' => ∃ s', Q e s' ∧ St X G0 s' a' w') a w

/-- a state that knows less -/
def Weak (s s' : ASt) : Prop := s'.n = s.n ∧ s'.st = s.st ∧ ∀ t, s'.fr t = s.fr t ∨ s'.fr t = .undef

theorem Weak.st {X : Cfg} {G0 : Gh} {s s' : ASt} {a : Act} {w : World} (h : Weak s s') (hs : St X G0 s a w) : St X G0 s' a w := by
  obtain ⟨G, h1, ⟨h2, h3, h4⟩, h5⟩ := hs
  refine ⟨G, h1, ⟨by rw [h.1]; exact h2, fun t => ?_, by rw [h4, h.2.1]⟩, h5⟩
  rcases h.2.2 t with h | h <;> rw [h]
  · exact h3 t
  · exact .undef _

section
variable {P : Program} {X : Cfg} {G0 : Gh} {s s' : ASt} {Q Q' : Exit → ASt → Prop}

theorem ev_mono {c : Code} (h : Ev P X G0 c s Q) (hq : ∀ e s, Q e s → Q' e s) : Ev P X G0 c s Q' :=
  fun F n a w hF hs => wpIn_mono (h F n a w hF hs) fun _ _ _ ⟨s', h1, h2⟩ => ⟨s', hq _ _ h1, h2⟩
/-- each machine's state that is as s says is as s' says -/
def Less (X : Cfg) (G0 : Gh) (s s' : ASt) : Prop := ∀ a w, St X G0 s a w → St X G0 s' a w
theorem Weak.less {s s' : ASt} (h : Weak s s') : Less X G0 s s' := fun _ _ hs => h.st hs
theorem ev_weak {c : Code} (hw : Less X G0 s s') (h : Ev P X G0 c s' Q) : Ev P X G0 c s Q := fun F n a w hF hs => h F n a w hF (hw a w hs)

/-- the exits of a code that another follows -/
def thenQ (y : ASt → Prop) (Q : Exit → ASt → Prop) : Exit → ASt → Prop
  | .normal, s => y s
  | e, s => Q e s
def blockQ (id : Nat) (Q : Exit → ASt → Prop) : Exit → ASt → Prop
  | .exit id', s => if id' = id then Q .normal s else Q (.exit id') s
  | e, s => Q e s
def scopeQ (Q : Exit → ASt → Prop) : Exit → ASt → Prop
  | .goto _, _ => False
  | e, s => Q e s

theorem ev_skip (h : Q .normal s) : Ev P X G0 .skip s Q := fun _ _ _ _ _ hs => wpIn_skip ⟨s, h, hs⟩
theorem ev_label {l : Nat} (h : Q .normal s) : Ev P X G0 (.label l) s Q := fun _ _ _ _ _ hs => wpIn_label ⟨s, h, hs⟩
theorem ev_exit {l : Nat} (h : Q (.exit l) s) : Ev P X G0 (.exit l) s Q := fun _ _ _ _ _ hs => wpIn_exit ⟨s, h, hs⟩
theorem ev_goto {l : Nat} (h : Q (.goto l) s) : Ev P X G0 (.goto l) s Q := fun _ _ _ _ _ hs => wpIn_goto ⟨s, h, hs⟩
theorem ev_ret (h : Q .ret s) : Ev P X G0 .ret s Q := fun _ _ _ _ _ hs => wpIn_ret ⟨s, h, hs⟩
theorem ev_seq {x y : Code} (h : Ev P X G0 x s (thenQ (fun s' => Ev P X G0 y s' Q) Q)) : Ev P X G0 (.seq x y) s Q := fun F n a w hF hs =>
  wpIn_seq (wpIn_mono (h F n a w hF hs) fun e a' w' ⟨s', h1, h2⟩ => by
    cases e with
    | normal => exact h1 F n a' w' hF h2
    | _ => exact ⟨s', h1, h2⟩)
theorem ev_cond {c : Operand} {x y : Code} {t : Bool} (hG : True) (hc : ASt.ev X s c = .bool t) (h1 : t = true → Ev P X G0 x s Q) (h2 : t = false → Ev P X G0 y s Q) : Ev P X G0 (.cond c x y) s Q := fun F n a w hF hs => by
  obtain ⟨G, hw, hsl, inv, hg, hx, hm⟩ := id hs
  have hr := hsl.ev hg c
  rw [hc] at hr
  have hv : a.eval c = .bool t := by
    generalize a.eval c = v at hr
    cases hr
    rfl
  exact wpIn_cond_split hv (fun ht => h1 ht F n a w hF hs) (fun ht => h2 ht F n a w hF hs)
theorem ev_block {id : Nat} {c : Code} (h : Ev P X G0 c s (blockQ id Q)) : Ev P X G0 (.block id c) s Q := fun F n a w hF hs =>
  wpIn_block (wpIn_mono (h F n a w hF hs) fun e a' w' ⟨s', h1, h2⟩ => by
    cases e with
    | exit id' =>
      simp only [blockQ, Exit.inBlock] at h1 ⊢
      split <;> rename_i hid
      · rw [if_pos hid] at h1; exact ⟨s', h1, h2⟩
      · rw [if_neg hid] at h1; exact ⟨s', h1, h2⟩
    | _ => exact ⟨s', h1, h2⟩)
theorem ev_region (ok : OkX P X) {id : Nat} {ops : Array Oper} (h : ∃ s', evOps X (gdOf ops.toList) ops.toList s = some s' ∧ Q .normal s') : Ev P X G0 (.region id ops false) s Q := fun F n a w hF hs => by
  obtain ⟨s', h1, h2⟩ := h
  exact region_sound ok hF.1 h1 hs fun a w h => ⟨s', h2, h⟩
theorem ev_draw (ok : OkX P X) (hm : P.follows .mixedOrders = true) {id : Nat} {ops : Array Oper} {tab : List (List Nat)} {ad : List (Nat × AV)} (hok : drawOK ops tab = true) (h : drawP X ops tab ad ops.toList 0 s (Q .normal)) : Ev P X G0 (.region id ops true) s Q := fun F n a w hF hs => by
  obtain ⟨s', h1, h2⟩ := drawP_sound hok h
  exact draw_sound ok hF.1 (fun t => by rw [hm]; exact h1 t) hs fun a w h => ⟨s', h2, h⟩

/-- rows without elements more -/
theorem St.rows (szs : List Nat) : ∀ {s : ASt} {a : Act} {w : World}, St X G0 s a w → St X G0 { s with st := s.st ++ szs.map fun z => .row z 0 0 [] } a w := by
  induction szs with
  | nil => intro s a w h; simpa using h
  | cons z szs ih =>
    intro s a w ⟨G, hw, hs, inv, hg, x, hm⟩
    have x1 : Ext G (G.grow G.w none (.row z 0 0 [])) := ext_grow inv G.w none _ rfl rfl rfl (Nat.le_refl _) (fun _ _ => rfl) (fun _ h => by cases h)
    have inv1 := inv_grow_row inv G.w none z [] x1 (fun _ _ => rfl) (fun _ h => by cases h) (fun _ => rfl)
    have h1 : St X G0 { s with st := s.st ++ [.row z 0 0 []] } a w := ⟨G.grow G.w none (.row z 0 0 []), hw, by
      have := hs.ext x1
      refine ⟨this.1, this.2.1, ?_⟩
      show G.σ ++ [.row z 0 0 []] = s.st ++ [.row z 0 0 []]
      rw [hs.2.2], inv1, hg.ext x1, x.trans x1, hm.ext x1 inv⟩
    have h2 := ih h1
    simpa using h2
theorem ev_drawA (ok : OkX P X) (hm : P.follows .mixedOrders = true) {id : Nat} {ops : Array Oper} {tab : List (List Nat)} {ad : List (Nat × AV)} {A : List (Nat × Nat)} {szs : List Nat} (hok : drawOK ops tab = true)
    (h : drawP { X with A := A } ops tab ad ops.toList 0 { s with st := s.st ++ szs.map fun z => .row z 0 0 [] } (Q .normal)) : Ev P X G0 (.region id ops true) s Q := fun F n a w hF hs => by
  have ok' : OkX P { X with A := A } := ⟨ok.T, ok.E, ok.Y⟩
  exact ev_draw (X := { X with A := A }) (G0 := G0) ok' hm hok h F n a w hF (hs.rows szs)

/-- a loop that ends within m rounds -/
def Rounds (P : Program) (X : Cfg) (G0 : Gh) (c : Code) (Q : Exit → ASt → Prop) : Nat → ASt → Prop
  | 0, _ => False
  | m + 1, s => Ev P X G0 c s (thenQ (Rounds P X G0 c Q m) Q)
theorem ev_rounds {c : Code} (m : Nat) (h : Rounds P X G0 c Q m s) : Ev P X G0 (.loop c) s Q := fun F n a w hF hs => by
  refine wpIn_loop_rounds m ?_
  induction m generalizing s a w with
  | zero => exact h.elim
  | succ m ih =>
    refine wpIn_mono (h F n a w hF hs) fun e a' w' ⟨s', h1, h2⟩ => ?_
    cases e with
    | normal => exact ih h1 a' w' h2
    | _ => exact ⟨s', h1, h2⟩
theorem rounds_weak {c : Code} {m : Nat} (hw : Less X G0 s s') (h : Rounds P X G0 c Q m s') : Rounds P X G0 c Q m s := by
  cases m with
  | zero => exact h
  | succ m => exact ev_weak hw h
/-- a loop: what holds at the head of each round, and what each round makes less -/
theorem ev_loop {c : Code} {α : Type} (I : α → ASt) (ok : α → Prop) (μ : α → Nat) (x0 : α) (h0 : ok x0) (hs0 : Less X G0 s (I x0))
    (round : ∀ x, ok x → Ev P X G0 c (I x) (thenQ (fun s' => ∃ y, ok y ∧ μ y < μ x ∧ Less X G0 s' (I y)) Q)) : Ev P X G0 (.loop c) s Q := by
  refine ev_weak hs0 (ev_rounds (μ x0 + 1) ?_)
  have key : ∀ (m : Nat) (x : α), μ x < m → ok x → Rounds P X G0 c Q m (I x) := by
    intro m
    induction m with
    | zero => intro x h; omega
    | succ m ih =>
      intro x hx hok
      refine ev_mono (round x hok) fun e s hq => ?_
      cases e with
      | normal =>
        obtain ⟨y, hy, hlt, hw⟩ := hq
        exact rounds_weak hw (ih y (by omega) hy)
      | _ => exact hq
  exact key _ x0 (by omega) h0
theorem ev_scope {c : Code} (h : Ev P X G0 c s (scopeQ Q)) : Ev P X G0 (.scope c) s Q := fun F n a w hF hs => by
  have h1 := h F n a w hF hs
  intro b k cs hro hb hr
  have h0 : (lone (b.atR a (.code (.scope c) :: k)) cs w).fenced P F := fenced_calm hb hr rfl
  have st1 : step P (lone (b.atR a (.code (.scope c) :: k)) cs w) = .next (lone (b.atR a (.code c :: .inScope c :: k)) cs w) := step_lone_go (by simp [stepG, stepG.exec, Frame.atR])
  obtain ⟨e, a₁, w₁, hq, harr⟩ := h1 b (.inScope c :: k) cs hro hb hr
  cases e with
  | normal =>
    have st2 : step P (lone (b.atR a₁ (.inScope c :: k)) cs w₁) = .next (lone (b.atR a₁ k) cs w₁) := step_lone_go (by simp [stepG, stepG.exec, Frame.atR])
    exact ⟨.normal, a₁, w₁, hq, .head h0 st1 (StepsIn.trans harr (.one (fenced_calm hb hr rfl) st2))⟩
  | exit id =>
    have hx : exitTo id (.inScope c :: k) = exitTo id k := by simp [exitTo]
    exact ⟨_, a₁, w₁, hq, fun k' hk => .head h0 st1 (harr.1 k' (by rw [hx]; exact hk)), fun hr' hk => let ⟨k₁, h1, h2⟩ := harr.2 hr' (by rw [hx]; exact hk); ⟨k₁, h1, .head h0 st1 h2⟩⟩
  | goto l => obtain ⟨s', hq, _⟩ := hq; exact hq.elim
  | ret => exact ⟨_, a₁, w₁, hq, .of_steps (.one h0 st1) harr⟩
  | panic ch => exact ⟨_, a₁, w₁, hq, .of_steps (.one h0 st1) harr⟩
  | outgrown => exact ⟨_, a₁, w₁, hq, .of_steps (.one h0 st1) harr⟩
end

/-- there is one, and K holds of it -/
def onSome {α : Type} (o : Option α) (K : α → Prop) : Prop := ∃ x, o = some x ∧ K x
theorem onSome_some {α : Type} (x : α) (K : α → Prop) : onSome (some x) K = K x := by simp [onSome]
theorem onSome_none {α : Type} (K : α → Prop) : onSome none K = False := by simp [onSome]
theorem onSome_congr {α : Type} {o o' : Option α} {K : α → Prop} (h : o = o') : onSome o K = onSome o' K := by rw [h]

/-- operations one behind the other, and then K -/
def runOps (X : Cfg) (gd : Nat → Option Nat) : List Oper → ASt → (ASt → Prop) → Prop
  | [], s, K => K s
  | o :: r, s, K => onSome (step1 X gd s o) fun s1 => runOps X gd r s1 K
theorem runOps_ev {X : Cfg} {gd : Nat → Option Nat} {K : ASt → Prop} : ∀ {l : List Oper} {s : ASt}, runOps X gd l s K → ∃ s', evOps X gd l s = some s' ∧ K s'
  | [], s, h => ⟨s, rfl, h⟩
  | o :: r, s, ⟨s1, h1, h2⟩ => by
    obtain ⟨s', h3, h4⟩ := runOps_ev h2
    exact ⟨s', by simp only [evOps, h1, h3], h4⟩
def runDraw (X : Cfg) (ops : Array Oper) (tab : List (List Nat)) (ad : List (Nat × AV)) : List Oper → Nat → ASt → (ASt → Prop) → Prop
  | [], _, s, K => K s
  | o :: r, i, s, K => adOk X ad i o s ∧ onSome (step1 X (gdOf ops.toList) s o) fun s1 => (s1.st = s.st ∨ steady X ops tab ad i s.st s1.st) ∧ runDraw X ops tab ad r (i + 1) s1 K
/-- .. where blocks are set aside -/
def runDrawA (X : Cfg) (ops : Array Oper) (tab : List (List Nat)) (ad : List (Nat × AV)) : List Oper → Nat → ASt → (ASt → Prop) → Prop
  | [], _, s, K => K s
  | o :: r, i, s, K => adOk X ad i o s ∧ onSome (step1 X (gdOf ops.toList) s o) fun s1 => (s1.st = s.st ∨ steady X ops tab ad i s.st s1.st ∨ ∃ k, locAt X ad i o k ∧ steadyK X ops tab ad i k) ∧ runDrawA X ops tab ad r (i + 1) s1 K
theorem runDrawA_ev {X : Cfg} {ops : Array Oper} {tab : List (List Nat)} {ad : List (Nat × AV)} {K : ASt → Prop} : ∀ {l : List Oper} {i : Nat} {s : ASt}, runDrawA X ops tab ad l i s K → drawP X ops tab ad l i s K
  | [], _, s, h => h
  | o :: r, i, s, ⟨h0, s1, h1, h2, h3⟩ => ⟨s1, h0, h1, h2, runDrawA_ev h3⟩
theorem runDraw_ev {X : Cfg} {ops : Array Oper} {tab : List (List Nat)} {ad : List (Nat × AV)} {K : ASt → Prop} : ∀ {l : List Oper} {i : Nat} {s : ASt}, runDraw X ops tab ad l i s K → drawP X ops tab ad l i s K
  | [], _, s, h => h
  | o :: r, i, s, ⟨h0, s1, h1, h2, h3⟩ => ⟨s1, h0, h1, h2.imp id .inl, runDraw_ev h3⟩

/-- a condition -/
def branch (v : AV) (x y : Prop) : Prop := ∃ t, v = .bool t ∧ (t = true → x) ∧ (t = false → y)

/-- THE WALK OF CODE: loops are left standing -/
def wpC (P : Program) (X : Cfg) (G0 : Gh) : Code → ASt → (Exit → ASt → Prop) → Prop
  | .skip, s, Q => Q .normal s
  | .label _, s, Q => Q .normal s
  | .exit id, s, Q => Q (.exit id) s
  | .goto l, s, Q => Q (.goto l) s
  | .ret, s, Q => Q .ret s
  | .seq x y, s, Q => wpC P X G0 x s (thenQ (fun s' => wpC P X G0 y s' Q) Q)
  | .cond c x y, s, Q => branch (s.ev X c) (wpC P X G0 x s Q) (wpC P X G0 y s Q)
  | .block id c, s, Q => wpC P X G0 c s (blockQ id Q)
  | .scope c, s, Q => wpC P X G0 c s (scopeQ Q)
  | .region _ ops false, s, Q => runOps X (gdOf ops.toList) ops.toList s (Q .normal)
  | .region _ ops true, s, Q => drawOK ops (ancTab ops.toList []) = true ∧ ((∃ ad, runDraw X ops (ancTab ops.toList []) ad ops.toList 0 s (Q .normal)) ∨ ∃ A szs ad, runDrawA { X with A := A } ops (ancTab ops.toList []) ad ops.toList 0 { s with st := s.st ++ List.map (fun z => .row z 0 0 []) szs } (Q .normal))
  | c, s, Q => Ev P X G0 c s Q

theorem wpC_ev {P : Program} {X : Cfg} {G0 : Gh} (ok : OkX P X) (hm : P.follows .mixedOrders = true) : ∀ (c : Code) (s : ASt) (Q : Exit → ASt → Prop), wpC P X G0 c s Q → Ev P X G0 c s Q := by
  intro c
  induction c with
  | skip => exact fun s Q h => ev_skip h
  | label l => exact fun s Q h => ev_label h
  | exit l => exact fun s Q h => ev_exit h
  | goto l => exact fun s Q h => ev_goto h
  | ret => exact fun s Q h => ev_ret h
  | seq x y ihx ihy =>
    exact fun s Q h => ev_seq (ev_mono (ihx s _ h) fun e s' hq => by
      cases e with
      | normal => exact ihy s' Q hq
      | _ => exact hq)
  | cond c x y ihx ihy =>
    intro s Q h
    obtain ⟨t, h1, h2, h3⟩ := h
    exact ev_cond trivial h1 (fun ht => ihx s Q (h2 ht)) (fun ht => ihy s Q (h3 ht))
  | block id c ih => exact fun s Q h => ev_block (ih s _ h)
  | scope c ih => exact fun s Q h => ev_scope (ih s _ h)
  | region id ops d =>
    intro s Q h
    cases d with
    | false => exact ev_region ok (runOps_ev h)
    | true =>
      obtain ⟨h1, h⟩ := h
      rcases h with ⟨ad, h2⟩ | ⟨A, szs, ad, h2⟩
      · exact ev_draw ok hm h1 (runDraw_ev h2)
      · exact ev_drawA ok hm h1 (runDrawA_ev h2)
  | loop c ih => exact fun s Q h => h
  | rangeFunc f ps as c ih1 ih2 => exact fun s Q h => h
  | refuse w => exact fun s Q h => h

/-- a frame by its slots -/
def frL : List (Nat × AV) → Nat → AV
  | [], _ => .undef
  | (k, v) :: r, t => if t = k then v else frL r t
theorem weak_frL {s : ASt} {n : Nat} {st : Sto} {l : List (Nat × AV)} (hn : s.n = n) (hst : s.st = st) (h : ∀ p ∈ l, s.fr p.1 = p.2) : Weak s ⟨n, frL l, st⟩ := by
  refine ⟨hn.symm, hst.symm, fun t => ?_⟩
  simp only
  induction l with
  | nil => exact .inr rfl
  | cons p l ih =>
    obtain ⟨k, v⟩ := p
    simp only [frL]
    split
    · rename_i ht
      subst ht
      exact .inl (h (t, v) (by simp)).symm
    · exact ih fun p hp => h p (by simp [hp])
end Go.Proofs.YtgpkochbmfhmdaaGreatDoor.Lift
namespace Go.Proofs.YtgpkochbmfhmdaaGreatDoor.Lift
open Go

/-- blocks of deferred calls are shut; all else lies as it lay -/
structure Puts (rs : List Nat) (w w' : World) : Prop where
  os : w'.os = w.os
  tape : w'.tape = w.tape
  output : w'.output = w.output
  size : w'.heap.size = w.heap.size
  other : ∀ b, b ∉ rs → w'.heap[b]? = w.heap[b]?
  shut : ∀ r ∈ rs, w.heap[r]? = some (.deferred (some [])) ∧ w'.heap[r]? = some (.deferred none)

theorem Puts.ext {rs : List Nat} {w w' : World} (p : Puts rs w w') {G0 G : Gh} (hw : G.w = w) (h0 : ∀ r ∈ rs, G0.w.heap.size ≤ r) (hJ : rs ≠ [] → G.J = noFoe) (inv : Inv G) (x : Ext G0 G) :
    ∃ G', G'.w = w' ∧ G'.σ = G.σ ∧ Ext G0 G' ∧ Inv G' ∧ ∀ a v, Rep G a v → Rep G' a v := by
  subst hw
  let G' : Gh := { G with w := w' }
  have hno : ∀ r ∈ rs, ∀ c e fz, G.w.heap[r]? ≠ some (.cells c e fz) := fun r hr c e fz hc => by
    rw [(p.shut r hr).1] at hc; cases hc
  have hcells : ∀ (blk : Nat) (c : Array Value) e fz, G.w.heap[blk]? = some (.cells c e fz) → w'.heap[blk]? = some (.cells c e fz) := fun blk c e fz hb => by
    rw [p.other blk (fun hm => hno blk hm c e fz hb)]; exact hb
  have hmaps : ∀ (blk : Nat) m k, G.w.heap[blk]? = some (.map m k) → w'.heap[blk]? = some (.map m k) := fun blk m k hb => by
    rw [p.other blk (fun hm => by rw [(p.shut blk hm).1] at hb; cases hb)]; exact hb
  have hcell : ∀ b o v, G.w.cell? ⟨b, o, none⟩ = some v → w'.cell? ⟨b, o, none⟩ = some v := fun b o v hv => by
    unfold World.cell? at hv ⊢
    simp only at hv ⊢
    cases hb : G.w.heap[b]? with
    | none => rw [hb] at hv; cases hv
    | some k =>
      rw [hb] at hv
      cases k with
      | cells c e fz => rw [hcells b c e fz hb]; exact hv
      | _ => cases hv
  have xr : ExtR G G' := ⟨fun blk c e fz hb => ⟨c, hcells blk c e fz hb, rfl⟩, fun _ _ h => h, fun b o _ v hv => hcell b o v hv, fun b m k _ hb => hmaps b m k hb, fun b k hk => ⟨k, hk, Nat.le_refl _, rfl⟩, fun _ _ _ _ _ => rfl⟩
  refine ⟨G', rfl, rfl, ?_, ?_, fun a v h => h.extR xr⟩
  · exact
      { os := p.os.trans x.os, tape := p.tape.trans x.tape, output := p.output.trans x.output, size := by show _ ≤ w'.heap.size; rw [p.size]; exact x.size
        old := fun blk hb ho hz => by
          show w'.heap[blk]? = _
          rw [p.other blk (fun hm => by have := h0 blk hm; omega)]
          exact x.old blk hb ho hz
        time := x.time, zin := x.zin, zout := x.zout, foe := x.foe
        shape := fun blk c e fz hb => by
          obtain ⟨c', h1, h2⟩ := x.shape blk c e fz hb
          exact ⟨c', hcells blk _ _ _ h1, h2⟩
        frozen := x.frozen
        cell := fun b o hf => by
          have h1 := x.cell b o hf
          rw [← h1]
          show w'.cell? _ = _
          unfold World.cell?
          simp only
          by_cases hm : b ∈ rs
          · rw [(p.shut b hm).1, (p.shut b hm).2]
          · rw [p.other b hm]
        fmap := fun b m k hf hb => hmaps b m k (x.fmap b m k hf hb)
        thaw := x.thaw, len := x.len, id := x.id, at_ := x.at_, own := x.own }
  · exact
      { rows := fun b sz g lo xs h => by
          obtain ⟨h1, h2, h3⟩ := inv.rows b sz g lo xs h
          refine ⟨h1, fun blk hb => ?_, h3⟩
          obtain ⟨c, e, fz, h4, h5, h6, h7⟩ := h2 blk hb
          exact ⟨c, e, fz, hcells blk c e fz h4, h5, fun i y hy => ⟨(h6 i y hy).1, fun j z hz => let ⟨v, h8, h9⟩ := (h6 i y hy).2 j z hz; ⟨v, h8, h9.extR xr⟩⟩, h7⟩
        maps := fun b es h => by
          obtain ⟨blk, ents, ck, h1, h2, h3, h4⟩ := inv.maps b es h
          exact ⟨blk, ents, ck, h1, hmaps blk _ _ h2, h3.extR xr, h4⟩
        inj := inv.inj
        lt := fun b o h => by show b < w'.heap.size; rw [p.size]; exact inv.lt b o h
        tks := inv.tks
        held := by
          by_cases hrs : rs = []
          · subst hrs
            exact inv.stab _ _ _ _ _ _ _ _ _ inv.held p.os p.tape p.output (Nat.le_of_eq p.size.symm) (fun blk _ _ => p.other blk (by simp)) (fun blk c e fz hb => ⟨c, hcells blk c e fz hb, rfl⟩) (fun _ h => .inr h) (fun _ _ h _ => .inl h) (fun _ h => h)
          · show G.J G.t w' _ _ _
            rw [hJ hrs]
            trivial
        stab := inv.stab
        zlt := fun blk h => by show blk < w'.heap.size; rw [p.size]; exact inv.zlt blk h
        znone := inv.znone
        its := fun b s i h => by
          obtain ⟨blk, q1, q2⟩ := inv.its b s i h
          exact ⟨blk, q1, (p.other blk (fun hm => by rw [(p.shut blk hm).1] at q2; cases q2)).trans q2⟩
        deads := fun b sz g blk h hr => by show blk < w'.heap.size; rw [p.size]; exact inv.deads b sz g blk h hr }

theorem leaves_marks {F : Fence} {n : Nat} {P : Program} {fn : Func} {tmps : Array Value} {R : Ending → World → Prop} : ∀ (rs : List Nat) (w : World), rs.Nodup → (∀ r ∈ rs, w.heap[r]? = some (.deferred (some []))) →
    (∀ w', Puts rs w w' → ∃ v, (results fn tmps).run P w' = .ok v w' ∧ R (.returned v) w') → LeavesInM F n P fn tmps R (rs.map fun r => ({ target := .collected r, args := #[] } : Deferred)) .returning w := by
  intro rs
  induction rs with
  | nil => exact fun w _ _ h => h w ⟨rfl, rfl, rfl, rfl, fun _ _ => rfl, fun r hr => by cases hr⟩
  | cons r rs ih =>
    intro w hnd hr h
    have hlt : r < w.heap.size := by
      have := hr r (by simp)
      rcases Nat.lt_or_ge r w.heap.size with h | h
      · exact h
      · rw [Array.getElem?_eq_none h] at this; cases this
    have hnd' := List.nodup_cons.1 hnd
    refine ⟨by simp, .inl ⟨r, w.putObj r (.deferred none), rfl, run_takeDeferred (hr r (by simp)), ?_⟩⟩
    refine ih _ hnd'.2 (fun r' hr' => ?_) fun w' hp => h w' ?_
    · rw [World.putObj_heap_other (by intro e; subst e; exact hnd'.1 hr')]
      exact hr r' (by simp [hr'])
    · refine ⟨hp.os, hp.tape, hp.output, by rw [hp.size]; simp, fun b hb => ?_, fun r' hr' => ?_⟩
      · simp only [List.mem_cons, not_or] at hb
        rw [hp.other b hb.2, World.putObj_heap_other hb.1]
      · rcases List.mem_cons.1 hr' with rfl | hm
        · refine ⟨hr r' (by simp), ?_⟩
          rw [hp.other r' hnd'.1]
          exact World.putObj_heap_same hlt
        · exact ⟨hr r' (by simp [hm]), (hp.shut r' hm).2⟩

/-- a result of a function -/
def resA (X : Cfg) (s : ASt) : ResultVar → Option AV
  | .tmp t => some (s.fr t)
  | .cell a t => (X.T t).bind fun ti => loadAt ti s.st (s.fr a)
/-- the results of a function -/
def resAs (X : Cfg) (s : ASt) (l : List ResultVar) : Option AV := match mapO (resA X s) l with
  | some [v] => some v
  | some vs => some (.tup vs)
  | none => none

theorem run_loadVar {P : Program} {G : Gh} (inv : Inv G) {t : TypeId} {ti : TI} (ht : tiOf P t = some ti) {p v : AV} {r : Value} (hp : Rep G p r) (h : loadAt ti G.σ p = some v) :
    ∃ u, (do loadVar t (← asAddr r)).run P G.w = .ok u G.w ∧ Rep G v u := by
  obtain ⟨u, h1, h2⟩ := run_loadAt inv ht hp h
  refine ⟨u, ?_, h2⟩
  rw [← h1]
  cases hp <;> simp_all [loadAt, Instr.loadAt, Instr.sureAddr, asAddr]

theorem run_results {P : Program} {X : Cfg} (hT : X.T = tiOf P) {G : Gh} (inv : Inv G) {s : ASt} {a : Act} (hs : Slots G s a) {fn : Func} {v : AV} (h : resAs X s fn.results.toList = some v) :
    ∃ u, (results fn a.tmps).run P G.w = .ok u G.w ∧ Rep G v u := by
  obtain ⟨hn, hf, hσ⟩ := hs
  have key : ∀ (l : List ResultVar) (vs : List AV), mapO (resA X s) l = some vs → ∃ us, (l.mapM (m := Sem) fun
      | .tmp t => pure (a.tmps.getD t undef)
      | .cell b t => do loadVar t (← asAddr (a.tmps.getD b undef))).run P G.w = .ok us G.w ∧ RepL G vs us := by
    intro l
    induction l with
    | nil => intro vs h; cases h; exact ⟨[], rfl, .nil⟩
    | cons x l ih =>
      intro vs h
      simp only [mapO] at h
      split at h
      · rename_i y ys hy hys
        cases h
        obtain ⟨us, h1, h2⟩ := ih ys hys
        have : ∃ u, (match x with
            | .tmp t => (pure (a.tmps.getD t undef) : Sem Value)
            | .cell b t => do loadVar t (← asAddr (a.tmps.getD b undef))).run P G.w = .ok u G.w ∧ Rep G y u := by
          cases x with
          | tmp t => cases hy; exact ⟨_, rfl, hf t⟩
          | cell b t =>
            simp only [resA] at hy
            cases ht : X.T t with
            | none => rw [ht] at hy; cases hy
            | some ti =>
              rw [ht, Option.bind_some, ← hσ] at hy
              exact run_loadVar inv (hT ▸ ht) (hf b) hy
        obtain ⟨u, h3, h4⟩ := this
        refine ⟨u :: us, ?_, .cons h4 h2⟩
        simp only [List.mapM_cons, Sem.run_bind, h3, h1, Result.andThen_ok, Sem.run_pure]
      · cases h
  unfold resAs at h
  cases hm : mapO (resA X s) fn.results.toList with
  | none => rw [hm] at h; cases h
  | some vs =>
    obtain ⟨us, h1, h2⟩ := key _ _ hm
    have hr : (results fn a.tmps).run P G.w = .ok (if h : us.toArray.size = 1 then us.toArray[0] else .tuple us.toArray) G.w := by
      simp only [results, Sem.run_bind, Array.mapM_eq_mapM_toList, Sem.run_map, Sem.run_pure]
      erw [h1]
      rfl
    rw [hr]
    rw [hm] at h
    match vs, us, h, h2 with
    | [], [], h, h2 => cases h; exact ⟨_, rfl, .tup .nil⟩
    | [v'], [u], h, .cons h3 .nil => cases h; exact ⟨u, rfl, h3⟩
    | v1 :: v2 :: vs, u1 :: u2 :: us, h, h2 => cases h; exact ⟨_, rfl, .tup h2⟩

/-- where a function's walk begins -/
def entry (fn : Func) (args : List AV) (st : Sto) : ASt := ⟨fn.ntmps, fun t => args.getD t .undef, st⟩

theorem entry_st {X : Cfg} {G : Gh} (inv : Inv G) (hg : GlobG X.G G) {fn : Func} {args : List AV} {vals : List Value} (hJ : G.J = X.J) (hr : RepL G args vals) :
    St X G (entry fn args G.σ) { tmps := vals.toArray ++ Array.replicate (fn.ntmps - vals.toArray.size) undef, defers := [] } G.w := by
  refine ⟨G, rfl, ⟨by simp [entry]; omega, fun t => ?_, rfl⟩, inv, hg, Ext.refl G, hJ, ⟨[], rfl, .nil, fun h => absurd rfl h, fun r hr => by cases hr⟩⟩
  simp only [entry, List.getD_eq_getElem?_getD]
  cases ht : args[t]? with
  | none => exact .undef _
  | some x =>
    obtain ⟨u, hu, h⟩ := hr.get ht
    have hlt : t < vals.length := (List.getElem?_eq_some_iff.1 hu).1
    simp only [Array.getD_eq_getD_getElem?, Option.getD_some]
    rw [Array.getElem?_append_left (by simpa using hlt)]
    simp [hu, h]

/-- a pure contract from the walk -/
theorem soundP_of_ev {P : Program} {X : Cfg} (hT : X.T = tiOf P) {f : Nat} {fn : Func} {c : Code} (hf : P.funcs[f]? = some fn) (hb : fn.body = some c) (hn : (fn.name == "runtime.NumGoroutine") = false) {g : List AV → Option AV}
    (h : ∀ args r, g args = some r → ∀ G0 : { G : Gh // G.σ = [] }, Ev P X G0.1 c (entry fn args []) (fun e s => (e = .normal ∨ e = .ret) ∧ ∃ d r0, resAs X s fn.results.toList = some r0 ∧ peek s.st d r0 = some r)) (hX : X.J = noFoe := by rfl) : SoundP P X.G f g where
  calls := fun G args vals r hr inv hσ hJ hg hargs => by
    have hev : Ev P X G c (entry fn args []) (fun e s => (e = .normal ∨ e = .ret) ∧ ∃ d r0, resAs X s fn.results.toList = some r0 ∧ peek s.st d r0 = some r) := h args r hr ⟨G, hσ⟩
    have hst := entry_st (fn := fn) inv hg (hJ.trans hX.symm) hargs
    rw [hσ] at hst
    refine .inl ⟨run_callFunc hf (by simp [hb]) hn _ _, (callsIn_wide (n := 0)).1 (callsIn_of_wp_marks hf hb trivial ?_)⟩
    refine wpIn_mono (hev Fence.wide 0 _ _ ⟨.inl rfl, .inr rfl⟩ hst) fun e a' w' ⟨s', ⟨he, d, r0, h1, h2⟩, h3⟩ => ?_
    obtain ⟨G1, rfl, hs, inv1, hg1, x1, hJ1, rs, hd, hnd, hne, hrs⟩ := h3
    have key : LeavesInM Fence.wide 0 P fn a'.tmps (Ret G r []) a'.defers .returning G1.w := by
      rw [hd]
      refine leaves_marks rs G1.w hnd (fun r hr => (hrs r hr).1) fun w' hp => ?_
      obtain ⟨G2, rfl, e2, x2, inv2, tr⟩ := hp.ext rfl (fun r hr => (hrs r hr).2.1) (fun h => hJ1.trans (hne h).1) inv1 x1
      have hs2 : Slots G2 s' a' := ⟨hs.1, fun t => tr _ _ (hs.2.1 t), e2.trans hs.2.2⟩
      obtain ⟨u, h4, h5⟩ := run_results hT inv2 hs2 h1
      refine ⟨u, h4, { G2.freeze with t := G2.t, z := G2.z, J := G2.J }, rfl, rfl, ?_, inv_nil rfl (inv_freeze inv2).lt (x2.foe.trans hJ) (inv2.znone (x2.foe.trans hJ)), ?_⟩
      · exact
          { os := x2.os, tape := x2.tape, output := x2.output, size := x2.size, old := x2.old, shape := x2.shape, frozen := fun b o hf => .inl (x2.frozen b o hf), cell := x2.cell, fmap := x2.fmap
            thaw := fun b o hf hb => by
              rcases hf with hf | hf
              · exact x2.thaw b o hf hb
              · rcases x2.own b hf.owned with h | h
                · omega
                · exact .inr h
            len := by rw [hσ]; exact Nat.zero_le _, id := fun b k hk => (by rw [hσ] at hk; cases hk), at_ := fun b k g hk => (by rw [hσ] at hk; cases hk)
            own := fun blk ho => (owned_nil rfl blk ho).elim, time := x2.time, zin := x2.zin, zout := x2.zout, foe := x2.foe }
      · refine peek_rep inv2 (H := { G2.freeze with t := G2.t, z := G2.z, J := G2.J }) ⟨fun _ _ h => .inl h, fun _ _ _ _ h => h, fun _ _ _ _ h => h⟩ rfl (fun b o h => .inr h) d ?_ h5
        rw [hs2.2.2]
        exact h2
    rcases he with rfl | rfl <;> exact key

/-- a contract of a function that has no store of its own to leave -/
theorem soundF_of_ev' {P : Program} {X : Cfg} (hT : X.T = tiOf P) {f : Nat} {fn : Func} {c : Code} (hf : P.funcs[f]? = some fn) (hb : fn.body = some c) (hn : (fn.name == "runtime.NumGoroutine") = false) {S : Spec}
    (h : ∀ args st r st', S args st = some (r, st') → ∀ G0 : Gh, G0.σ = st → Ev P X G0 c (entry fn args st) (fun e s => (e = .normal ∨ e = .ret) ∧ resAs X s fn.results.toList = some r ∧ s.st = st')) : SoundJ P X.G X.J f S where
  calls := fun G args vals r σ' hr inv hJ hg hargs => by
    have hev := h args G.σ r σ' hr G rfl
    have hst := entry_st (fn := fn) inv hg hJ hargs
    refine .inl ⟨run_callFunc hf (by simp [hb]) hn _ _, (callsIn_wide (n := 0)).1 (callsIn_of_wp_marks hf hb trivial ?_)⟩
    refine wpIn_mono (hev Fence.wide 0 _ _ ⟨.inl rfl, .inr rfl⟩ hst) fun e a' w' ⟨s', ⟨he, h1, h2⟩, h3⟩ => ?_
    obtain ⟨G1, rfl, hs, inv1, hg1, x1, hJ1, rs, hd, hnd, hne, hrs⟩ := h3
    have key : LeavesInM Fence.wide 0 P fn a'.tmps (Ret G r σ') a'.defers .returning G1.w := by
      rw [hd]
      refine leaves_marks rs G1.w hnd (fun r hr => (hrs r hr).1) fun w' hp => ?_
      obtain ⟨G2, rfl, e2, x2, inv2, tr⟩ := hp.ext rfl (fun r hr => (hrs r hr).2.1) (fun h => hJ1.trans (hne h).1) inv1 x1
      have hs2 : Slots G2 s' a' := ⟨hs.1, fun t => tr _ _ (hs.2.1 t), e2.trans hs.2.2⟩
      obtain ⟨u, h4, h5⟩ := run_results hT inv2 hs2 h1
      exact ⟨u, h4, G2, rfl, hs2.2.2.trans h2, x2, inv2, h5⟩
    rcases he with rfl | rfl <;> exact key
end Go.Proofs.YtgpkochbmfhmdaaGreatDoor.Lift
namespace Go.Proofs.YtgpkochbmfhmdaaGreatDoor.Lift
open Go

mutual
/-- no reference to a block from k on -/
def blw (k : Nat) : AV → Bool
  | .ptr b _ _ _ | .sr b _ _ _ | .mr b => decide (b < k)
  | .undef | .bool _ | .int .. | .str _ | .nilp | .nilf | .nilm | .snil | .sle => true
  | .rp x _ => blw k x
  | .sl xs => blwL k xs
  | .fn _ a b => blwL k a && blwL k b
  | .mv es => blwE k es
  | .agg cs => blwL k cs
  | .tup vs => blwL k vs
def blwL (k : Nat) : List AV → Bool
  | [] => true
  | x :: r => blw k x && blwL k r
def blwE (k : Nat) : List (AV × AV) → Bool
  | [] => true
  | (a, b) :: r => blw k a && blw k b && blwE k r
end
def blwB (k : Nat) : ABlk → Bool
  | .row _ _ _ xs => blwL k xs
  | .map es => blwE k es
  | .tick _ => true
  | .dead .. => true
  | .iter .. => true

theorem blw_cells {k : Nat} {x : AV} (h : blw k x = true) : blwL k x.cells = true := by
  cases x <;> simp_all [AV.cells, blw, blwL]
theorem blwL_mem {k : Nat} : ∀ {l : List AV}, blwL k l = true → ∀ p ∈ l, blw k p = true
  | [], _, p, hp => by cases hp
  | a :: l, hl, p, hp => by
    simp only [blwL, Bool.and_eq_true] at hl
    rcases List.mem_cons.1 hp with rfl | hp
    · exact hl.1
    · exact blwL_mem hl.2 p hp

/-- the store is cut -/
structure Cut (k : Nat) (G H : Gh) : Prop where
  w : H.w = G.w
  φ : H.φ = G.φ
  ρ : H.ρ = G.ρ
  σ : ∀ b, b < k → H.σ[b]? = G.σ[b]?

theorem HasId.cut {k : Nat} {G H : Gh} (x : Cut k G H) {b g : Nat} {sz : Option Nat} (hb : b < k) (h : HasId G b g sz) : HasId H b g sz := by
  obtain ⟨kk, h1, h2⟩ := h
  exact ⟨kk, by rw [x.σ b hb]; exact h1, h2⟩

mutual
theorem Rep.cut {k : Nat} {G H : Gh} (x : Cut k G H) {a : AV} {v : Value} (hz : blw k a = true) (h : Rep G a v) : Rep H a v := by
  match h with
  | .undef v => exact .undef v
  | .bool b => exact .bool b
  | .int _ n => exact .int _ n
  | .str s => exact .str s
  | .nilp => exact .nilp
  | .ptr h hr => exact .ptr (h.cut x (by simpa [blw] using hz)) (by rw [x.ρ]; exact hr)
  | .rp h => exact .rp (RepCells.cut x (blw_cells (by simpa [blw] using hz)) h)
  | .snil => exact .snil
  | .sl0 a cap h => exact .sl0 a cap h
  | .sle a cap => exact .sle a cap
  | .sl hl h => exact .sl hl (RepElems.cut x (by simpa [blw] using hz) h)
  | .sr0 h hr => exact .sr0 (h.cut x (by simpa [blw] using hz)) (by rw [x.ρ]; exact hr)
  | .sr h hr hl hb hc => exact .sr (h.cut x (by simpa [blw] using hz)) (by rw [x.ρ]; exact hr) hl (by rw [x.w]; exact hb) hc
  | .srE h hr ho => exact .srE (h.cut x (by simpa [blw] using hz)) (by rw [x.ρ]; exact hr) ho
  | .fn h1 h2 =>
    simp only [blw, Bool.and_eq_true] at hz
    exact .fn (RepL.cut x hz.1 h1) (RepL.cut x hz.2 h2)
  | .nilf => exact .nilf
  | .nilm => exact .nilm
  | .mv hb hf h => exact .mv (by rw [x.w]; exact hb) (by rw [x.φ]; exact hf) (RepE.cut x (by simpa [blw] using hz) h)
  | .mv0 => exact .mv0
  | .mr h hr => exact .mr (h.cut x (by simpa [blw] using hz)) (by rw [x.ρ]; exact hr)
  | .agg h => exact .agg (RepL.cut x (by simpa [blw] using hz) h)
  | .tup h => exact .tup (RepL.cut x (by simpa [blw] using hz) h)
theorem RepL.cut {k : Nat} {G H : Gh} (x : Cut k G H) {a : List AV} {v : List Value} (hz : blwL k a = true) (h : RepL G a v) : RepL H a v := by
  match h with
  | .nil => exact .nil
  | .cons h t =>
    simp only [blwL, Bool.and_eq_true] at hz
    exact .cons (Rep.cut x hz.1 h) (RepL.cut x hz.2 t)
theorem RepCells.cut {k : Nat} {G H : Gh} (x : Cut k G H) {a : List AV} {b o : Nat} (hz : blwL k a = true) (h : RepCells G a b o) : RepCells H a b o := by
  match h with
  | .nil _ _ => exact .nil _ _
  | .cons hf hc h t =>
    simp only [blwL, Bool.and_eq_true] at hz
    exact .cons (by rw [x.φ]; exact hf) (by rw [x.w]; exact hc) (Rep.cut x hz.1 h) (RepCells.cut x hz.2 t)
theorem RepElems.cut {k : Nat} {G H : Gh} (x : Cut k G H) {a : List AV} {b o sz : Nat} (hz : blwL k a = true) (h : RepElems G a b o sz) : RepElems H a b o sz := by
  match h with
  | .nil _ _ _ => exact .nil _ _ _
  | .cons hs h t =>
    simp only [blwL, Bool.and_eq_true] at hz
    exact .cons hs (RepCells.cut x (blw_cells hz.1) h) (RepElems.cut x hz.2 t)
theorem RepE.cut {k : Nat} {G H : Gh} (x : Cut k G H) {a : List (AV × AV)} {v : List MapEntry} (hz : blwE k a = true) (h : RepE G a v) : RepE H a v := by
  match h with
  | .nil => exact .nil
  | .cons hk h1 h2 t =>
    simp only [blwE, Bool.and_eq_true] at hz
    exact .cons hk (Rep.cut x hz.1.1 h1) (Rep.cut x hz.1.2 h2) (RepE.cut x hz.2 t)
end

/-- the newest blocks are left: those that stay, and the slots that are kept, do not refer to them -/
theorem drop_at {X : Cfg} (hz : FzG X.G) {G0 G : Gh} {s : ASt} {a : Act} {n : Nat} {fr : Nat → AV} {st st2 : Sto} (h0 : G0.σ.length ≤ st.length) (hn : s.n = n) (hst : s.st = st ++ st2) (hb : st.all (blwB st.length) = true)
    (hf : ∀ t, fr t = .undef ∨ (fr t = s.fr t ∧ blw st.length (fr t) = true))  (hs : Slots G s a) (inv : Inv G) (hg : Glob X G) (x : Ext G0 G) : Slots { G with σ := st } ⟨n, fr, st⟩ a ∧ Inv { G with σ := st } ∧ Glob X { G with σ := st } ∧ Ext G0 { G with σ := st } := by
  obtain ⟨h1, h2, h3⟩ := hs
  let H : Gh := { G with σ := st }
  have hσ : G.σ = st ++ st2 := h3.trans hst
  have cut : Cut st.length G H := ⟨rfl, rfl, rfl, fun b hb => by show st[b]? = G.σ[b]?; rw [hσ, List.getElem?_append_left hb]⟩
  have sub : ∀ {b : Nat} {k : ABlk}, st[b]? = some k → G.σ[b]? = some k := fun {b k} hk => by
    rw [hσ, List.getElem?_append_left (List.getElem?_eq_some_iff.1 hk).1]; exact hk
  have hblk : ∀ {b : Nat} {k : ABlk}, st[b]? = some k → blwB st.length k = true := fun {b k} hk => List.all_eq_true.1 hb k (List.mem_of_getElem? hk)
  have own : ∀ blk, Owned H blk → Owned G blk := fun blk ⟨b, k, hk, hlv, hr⟩ => ⟨b, k, sub hk, hlv, hr⟩
  refine ⟨⟨by rw [← hn]; exact h1, fun t => ?_, rfl⟩, ?_, ?_, ?_⟩
  · show Rep H (fr t) _
    rcases hf t with h | ⟨h, hq⟩
    · rw [h]; exact .undef _
    · rw [h] at hq ⊢; exact (h2 t).cut cut hq
  · exact
      { rows := fun b sz g lo xs hk => by
          obtain ⟨r1, r2, r3⟩ := inv.rows b sz g lo xs (sub hk)
          refine ⟨r1, fun blk hbk => ?_, r3⟩
          obtain ⟨c, e, fz, q1, q2, q3, q4⟩ := r2 blk hbk
          have hbl : blwL st.length xs = true := hblk hk
          refine ⟨c, e, fz, q1, q2, fun i y hy => ⟨(q3 i y hy).1, fun j z hz => ?_⟩, q4⟩
          obtain ⟨v, q5, q6⟩ := (q3 i y hy).2 j z hz
          exact ⟨v, q5, q6.cut cut (blwL_mem (blw_cells (blwL_mem hbl y (List.mem_of_getElem? hy))) z (List.mem_of_getElem? hz))⟩
        maps := fun b es hk => by
          obtain ⟨blk, ents, ck, m1, m2, m3, m4⟩ := inv.maps b es (sub hk)
          exact ⟨blk, ents, ck, m1, m2, m3.cut cut (hblk hk), m4⟩
        inj := fun b b' k k' blk hk hk' => inv.inj b b' k k' blk (sub hk) (sub hk')
        lt := inv.lt
        tks := fun b n hk => inv.tks b n (sub hk)
        held := inv.stab _ _ _ _ _ _ _ _ _ inv.held rfl rfl rfl (Nat.le_refl _) (fun _ _ _ => rfl) (fun blk c e fz h => ⟨c, h, rfl⟩) (fun blk ho => .inr (own blk ho)) (fun _ _ h _ => .inl h) (fun _ h => h)
        stab := inv.stab
        zlt := inv.zlt
        znone := inv.znone
        its := fun b s i h => inv.its b s i (sub h)
        deads := fun b sz g blk h hr => inv.deads b sz g blk (sub h) hr }
  · exact globG_ext (G := G) (H := H) hz ⟨fun _ _ h => h, fun _ _ _ _ h => h, fun _ _ _ _ h => h⟩ hg
  · exact
      { os := x.os, tape := x.tape, output := x.output, size := x.size, old := x.old, shape := x.shape, frozen := x.frozen, cell := x.cell, fmap := x.fmap, thaw := x.thaw, len := h0
        id := fun b k hk => by
          obtain ⟨k', i1, i2, i3⟩ := x.id b k hk
          have hlt : b < st.length := Nat.lt_of_lt_of_le (List.getElem?_eq_some_iff.1 hk).1 h0
          exact ⟨k', by rw [cut.σ b hlt]; exact i1, i2, i3⟩
        at_ := x.at_, own := fun blk ho => x.own blk (own blk ho), time := x.time, zin := x.zin, zout := x.zout, foe := x.foe }
theorem less_drop {X : Cfg} (hz : FzG X.G) {G0 : Gh} {s : ASt} {n : Nat} {fr : Nat → AV} {st st2 : Sto} (h0 : G0.σ.length ≤ st.length) (hn : s.n = n) (hst : s.st = st ++ st2) (hb : st.all (blwB st.length) = true)
    (hf : ∀ t, fr t = .undef ∨ (fr t = s.fr t ∧ blw st.length (fr t) = true)) : Less X G0 s ⟨n, fr, st⟩ := by
  intro a w ⟨G, hw, hs, inv, hg, x, hm⟩
  obtain ⟨q1, q2, q3, q4⟩ := drop_at hz h0 hn hst hb hf hs inv hg x
  exact ⟨{ G with σ := st }, hw, q1, q2, q3, q4, hm⟩

theorem less_frL {X : Cfg} (hz : FzG X.G) {G0 : Gh} {s : ASt} {n : Nat} {st st2 : Sto} {l : List (Nat × AV)} (h0 : G0.σ.length ≤ st.length) (hn : s.n = n) (hst : s.st = st ++ st2) (hb : st.all (blwB st.length) = true)
    (hf : ∀ p ∈ l, s.fr p.1 = p.2 ∧ blw st.length p.2 = true) : Less X G0 s ⟨n, frL l, st⟩ := by
  refine less_drop hz h0 hn hst hb fun t => ?_
  induction l with
  | nil => exact .inl rfl
  | cons p l ih =>
    obtain ⟨k, v⟩ := p
    simp only [frL]
    split
    · rename_i ht
      subst ht
      have := hf (t, v) (by simp)
      exact .inr ⟨this.1.symm, this.2⟩
    · exact ih fun p hp => hf p (by simp [hp])
end Go.Proofs.YtgpkochbmfhmdaaGreatDoor.Lift
