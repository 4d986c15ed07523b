/-
  LIFT, 18: THE STATE OF A WALK, and operations in whatever order.
  LIFT, 19: A REGION THAT DRAWS ITS ORDER: every order comes to what the text's order comes to.
  LIFT, 20: FREEZING. A value that is read out of the store as a frozen one ('peek') stands for the same real value, once the store's blocks are frozen.
  LIFT, 21: PURE CONTRACTS (frozen values in, a value out, an empty store) and how they serve where there is a store.
-/
import Derived.Test.YtgpkochbmfhmdaaGreatDoorQ3
import Derived.OrdersIn
import Derived.TacticsIn
namespace Go.Proofs.YtgpkochbmfhmdaaGreatDoor.Lift
open Go

/-- the marks that ranges over functions left among the deferred calls -/
def Marks (X : Cfg) (n0 : Nat) (G : Gh) (ds : List Deferred) : Prop :=
  G.J = X.J ∧ ∃ rs : List Nat, ds = rs.map (fun r => ({ target := .collected r, args := #[] } : Deferred)) ∧ rs.Nodup ∧ (rs ≠ [] → X.J = noFoe ∧ X.rd = false) ∧ ∀ r ∈ rs, G.w.heap[r]? = some (.deferred (some [])) ∧ n0 ≤ r ∧ ¬ G.z r

theorem Inv.owned {G : Gh} (inv : Inv G) {blk : Nat} (h : Owned G blk) : (∃ c e fz, G.w.heap[blk]? = some (.cells c e fz)) ∨ (∃ m k, G.w.heap[blk]? = some (.map m k)) ∨ ∃ s i, G.w.heap[blk]? = some (.stringIter s i) := by
  obtain ⟨b, k, hk, hlv, hr⟩ := h
  cases k with
  | row sz g lo xs =>
    obtain ⟨c, e, fz, hb, _⟩ := ((inv.rows b sz g lo xs hk).2.1 blk hr)
    exact .inl ⟨c, e, fz, hb⟩
  | map es =>
    obtain ⟨blk', ents, ck, hr', hb, _⟩ := inv.maps b es hk
    simp only [ABlk.gen] at hr
    rw [hr] at hr'
    cases hr'
    exact .inr (.inl ⟨ents, ck, hb⟩)
  | tick n =>
    rw [(inv.tks b n hk).2] at hr
    cases hr
  | dead sz g => cases hlv
  | iter s i =>
    obtain ⟨blk', hr', hb⟩ := inv.its b s i hk
    simp only [ABlk.gen] at hr
    rw [hr] at hr'
    cases hr'
    exact .inr (.inr ⟨_, _, hb⟩)

theorem Marks.lt {G : Gh} {r : Nat} (h4 : G.w.heap[r]? = some (.deferred (some []))) : r < G.w.heap.size := by
  rcases Nat.lt_or_ge r G.w.heap.size with h | h
  · exact h
  · rw [Array.getElem?_eq_none h] at h4; cases h4
theorem Marks.ext {X : Cfg} {G H : Gh} (x : Ext G H) (inv : Inv G) {n0 : Nat} {ds : List Deferred} (h : Marks X n0 G ds) : Marks X n0 H ds := by
  obtain ⟨hJ, rs, h1, h2, h3, h4⟩ := h
  refine ⟨x.foe.trans hJ, rs, h1, h2, h3, fun r hr => ?_⟩
  obtain ⟨h5, h6, h7⟩ := h4 r hr
  have hlt : r < G.w.heap.size := Marks.lt h5
  refine ⟨?_, h6, fun hz => ?_⟩
  · rw [x.old r hlt ?_ (fun hz => absurd hz h7), h5]
    intro ho
    rcases inv.owned ho with ⟨c, e, fz, hb⟩ | ⟨m, k, hb⟩ | ⟨s, i, hb⟩ <;> rw [hb] at h5 <;> cases h5
  · rcases x.zin r hz with h | h
    · omega
    · exact h7 h

/-- THE STATE OF A WALK: G0 is the ghost at the function's entry -/
def St (X : Cfg) (G0 : Gh) (s : ASt) (a : Act) (w : World) : Prop :=
  ∃ G : Gh, G.w = w ∧ Slots G s a ∧ Inv G ∧ Glob X G ∧ Ext G0 G ∧ Marks X G0.w.heap.size G a.defers

theorem Slots.ext {G H : Gh} (x : Ext G H) {s : ASt} {a : Act} (h : Slots G s a) : Slots H { s with st := H.σ } a := ⟨h.1, fun t => (h.2.1 t).ext x, rfl⟩

theorem Slots.put {G : Gh} {s s' : ASt} {a : Act} (h : Slots G s a) {dst : Option Nat} {v : AV} {r : Value} (hr : Rep G v r) (hp : s.put dst v = some s') : Slots G s' (a.put dst r) := by
  cases dst with
  | none => cases hp; exact h
  | some d =>
    simp only [ASt.put] at hp
    split at hp
    · rename_i hd
      cases hp
      refine ⟨by simpa [Act.put] using h.1, fun t => ?_, h.2.2⟩
      simp only [upd, Act.put]
      have hlt : d < a.tmps.size := Nat.lt_of_lt_of_le hd h.1
      split
      · rename_i ht
        subst ht
        simpa [Array.getD, hlt] using hr
      · rename_i ht
        have := h.2.1 t
        rw [show (a.tmps.setIfInBounds d r).getD t undef = a.tmps.getD t undef by
          simp only [Array.getD_eq_getD_getElem?, Array.getElem?_setIfInBounds]
          rw [if_neg (fun h => ht h.symm)]]
        exact this
    · cases hp

theorem put_defers (a : Act) (dst : Option Nat) (v : Value) : (a.put dst v).defers = a.defers := by cases dst <;> rfl

/-- operations by their places, one behind the other -/
def evIdx (X : Cfg) (ops : List Oper) : List Nat → ASt → Option ASt
  | [], s => some s
  | i :: r, s => match ops[i]? with
    | some o => match step1 X (gdOf ops) s o with
      | some s' => evIdx X ops r s'
      | none => none
    | none => evIdx X ops r s

theorem wanted_sound {G : Gh} {s : ASt} {a : Act} (hs : Slots G s a) {ops : Array Oper} {o : Oper} {b : Bool} (h : wantedA (gdOf ops.toList) s o = some b) : Region.wanted o (yielded ops a.tmps) = b := by
  unfold wantedA at h
  unfold Region.wanted
  split at h
  · rename_i hg
    cases h
    simp [hg]
  · rename_i j want hg
    simp only [hg]
    split at h
    · rename_i d hd
      have hd' : ops[j]?.bind (·.dst) = some d := by simpa [gdOf] using hd
      have hr := hs.2.1 d
      unfold yielded
      rw [hd', Option.bind_some]
      split at h
      · rename_i c hc
        cases h
        rw [hc] at hr
        generalize hv : a.tmps.getD d undef = v at hr
        cases hr
        have hlt : a.tmps[d]? = some (.bool c) := by
          rw [Array.getD_eq_getD_getElem?] at hv
          cases hq : a.tmps[d]? with
          | none => rw [hq] at hv; cases hv
          | some q => rw [hq] at hv; simp at hv; rw [hv]
        rw [hlt]
        cases c <;> cases want <;> rfl
      · rename_i hc
        cases h
        rw [hc] at hr
        generalize hv : a.tmps.getD d undef = v at hr
        cases hr
        rename_i aa ha
        split
        · rename_i bb hb
          rw [Array.getD_eq_getD_getElem?, hb] at hv
          cases hv
        · rfl
      · cases h
    · cases h

theorem isDefer_no {X : Cfg} {s : ASt} {o : Oper} {r : AV × Sto} (h : evOper X s o = some r) : ∀ c, o.op ≠ .defer c := by
  intro c hc
  unfold evOper at h
  rw [hc] at h
  cases h

theorem step_sound {P : Program} {X : Cfg} (ok : OkX P X) {G0 : Gh} {F : Fence} (hF : FW F) {n : Nat} {ops : Array Oper} {Q : Exit → Act → World → Prop} {o : Oper} {s s' : ASt} (h : step1 X (gdOf ops.toList) s o = some s')
    {a : Act} {w : World} (hst : St X G0 s a w) {K : Act → World → Prop} (hK : ∀ a w, St X G0 s' a w → K a w) :
    if Region.wanted o (yielded ops a.tmps) then o.wpIn F n P a w K Q else (∀ f, o.about P w a.eval = some f → F.fn f) ∧ K (a.put o.dst undef) w := by
  obtain ⟨G, rfl, hs, inv, hg, x, hm⟩ := hst
  unfold step1 at h
  split at h
  · rename_i hw
    rw [wanted_sound hs hw, if_pos rfl]
    split at h
    · rename_i v st hv
      refine ⟨fun f _ => hF.fn f, ?_⟩
      rw [Oper.semAt_eq _ _ _ (isDefer_no hv)]
      cases hc : isCallV o.op with
      | false =>
        obtain ⟨G', hd⟩ := evOper_sound ok.T inv hg hs o hc hv
        rcases hd with ⟨⟨r, h1, h2⟩, h3, h4, h5⟩ | ⟨h1, hv', h3, h4, h5⟩
        · rw [h1, Oper.uponIn_value]
          refine hK _ _ ⟨G', rfl, Slots.put (s := { s with st := st }) (h3 ▸ hs.ext h4) h2 h, h5, hg.ext h4, x.trans h4, ?_⟩
          rw [put_defers]
          exact hm.ext h4 inv
        · rw [h1, Oper.uponIn_skip]
          subst hv'
          refine hK _ _ ⟨G', rfl, Slots.put (s := { s with st := st }) (h3 ▸ hs.ext h4) (.tup .nil) h, h5, hg.ext h4, x.trans h4, ?_⟩
          rw [put_defers]
          exact hm.ext h4 inv
      | true =>
        rcases evCall_sound ok inv hg hm.1 hs o hc hv with ⟨f, args, h1, h2⟩ | ⟨u, w', h1, h2⟩ | h12
        · rw [h1, Oper.uponIn_enter]
          refine ⟨fun hd => ?_, ?_⟩
          · rw [hF.depth] at hd; cases hd
          · refine (hF.calls (n := n - 1) h2).mono fun e w'' he => ?_
            cases e with
            | returned r =>
              obtain ⟨G', rfl, h3, h4, h5, h6⟩ := he
              refine hK _ _ ⟨G', rfl, Slots.put (s := { s with st := st }) (h3 ▸ hs.ext h4) h6 h, h5, hg.ext h4, x.trans h4, ?_⟩
              rw [put_defers]
              exact hm.ext h4 inv
            | panicked c => exact he.elim
            | outgrown => exact he.elim
        · rw [h1, Oper.uponIn_value]
          obtain ⟨G', rfl, h3, h4, h5, h6⟩ := h2
          refine hK _ _ ⟨G', rfl, Slots.put (s := { s with st := st }) (h3 ▸ hs.ext h4) h6 h, h5, hg.ext h4, x.trans h4, ?_⟩
          rw [put_defers]
          exact hm.ext h4 inv
        · obtain ⟨l, fn, tmps, assign, body, h1, h2⟩ := h12 F (n - 1) hF
          rw [h1, Oper.uponIn_round]
          refine ⟨fun hd => ?_, ?_⟩
          · rw [hF.depth] at hd; cases hd
          · refine h2.mono fun e w'' he => ?_
            cases e with
            | returned r =>
              obtain ⟨G', rfl, h3, h4, h5, h6⟩ := he
              refine hK _ _ ⟨G', rfl, Slots.put (s := { s with st := st }) (h3 ▸ hs.ext h4) h6 h, h5, hg.ext h4, x.trans h4, ?_⟩
              rw [put_defers]
              exact hm.ext h4 inv
            | panicked c => exact he.elim
            | outgrown => exact he.elim
    · cases h
  · rename_i hw
    rw [wanted_sound hs hw, if_neg (by simp)]
    refine ⟨fun f _ => hF.fn f, hK _ _ ⟨G, rfl, hs.put (.tup .nil) h, inv, hg, x, ?_⟩⟩
    rw [put_defers]
    exact hm
  · cases h

theorem idx_sound {P : Program} {X : Cfg} (ok : OkX P X) {G0 : Gh} {F : Fence} (hF : FW F) {n : Nat} {ops : Array Oper} {Q : Exit → Act → World → Prop} {s' : ASt} (hQ : ∀ a w, St X G0 s' a w → Q .normal a w) :
    ∀ (l : List Nat) (s : ASt) (a : Act) (w : World), evIdx X ops.toList l s = some s' → St X G0 s a w → wpOpsIn F n P ops Q l a w := by
  intro l
  induction l with
  | nil => intro s a w h hst; cases h; exact hQ a w hst
  | cons i l ih =>
    intro s a w h hst
    simp only [wpOpsIn]
    simp only [evIdx, Array.getElem?_toList] at h
    cases ho : ops[i]? with
    | none => rw [ho] at h; exact ih s a w h hst
    | some o =>
      rw [ho] at h
      simp only at h ⊢
      split at h
      · rename_i s1 h1
        exact step_sound ok hF h1 hst fun a w hst' => ih s1 a w h hst'
      · cases h

theorem evOps_idx (X : Cfg) (ops : List Oper) : ∀ (l : List Oper) (k : Nat) (s : ASt), (∀ j, l[j]? = ops[k + j]?) → evIdx X ops (List.range' k l.length) s = evOps X (gdOf ops) l s
  | [], k, s, _ => by simp [evIdx, evOps]
  | o :: l, k, s, h => by
    have h0 : ops[k]? = some o := by simpa using (h 0).symm
    have ih := evOps_idx X ops l (k + 1)
    simp only [List.length_cons, List.range'_succ, evIdx, evOps, h0]
    cases step1 X (gdOf ops) s o with
    | none => rfl
    | some s1 => exact ih s1 (fun j => by have := h (j + 1); simpa [Nat.add_assoc, Nat.add_comm 1 j] using this)

theorem region_sound {P : Program} {X : Cfg} (ok : OkX P X) {G0 : Gh} {F : Fence} (hF : FW F) {n : Nat} {id : Nat} {ops : Array Oper} {Q : Exit → Act → World → Prop} {s s' : ASt}
    (h : evOps X (gdOf ops.toList) ops.toList s = some s') {a : Act} {w : World} (hst : St X G0 s a w) (hQ : ∀ a w, St X G0 s' a w → Q .normal a w) : (Code.region id ops false).wpIn F n P Q a w := by
  refine wpIn_region (idx_sound ok hF hQ _ s a w ?_ hst)
  rw [List.range_eq_range', ← Array.length_toList, evOps_idx X ops.toList ops.toList 0 s (by simp)]
  exact h

/-- one draw more -/
def Gh.drew (G : Gh) : Gh := { G with w := { G.w with drawn := G.w.drawn + 1 } }
theorem ext_drew (G : Gh) : Ext G G.drew where
  os := rfl
  tape := rfl
  output := rfl
  size := Nat.le_refl _
  old := fun _ _ _ _ => rfl
  time := Nat.le_refl _
  zin := fun _ h => .inr h
  zout := fun _ h => h
  foe := rfl
  shape := fun _ c _ _ h => ⟨c, h, rfl⟩
  frozen := fun _ _ h => h
  cell := fun _ _ _ => rfl
  fmap := fun _ _ _ _ h => h
  thaw := fun _ _ h _ => .inl h
  len := Nat.le_refl _
  id := fun _ k h => ⟨k, h, Nat.le_refl _, rfl⟩
  at_ := fun _ _ _ _ _ => rfl
  own := fun _ h => .inr h
theorem inv_drew {G : Gh} (inv : Inv G) : Inv G.drew where
  rows := fun b sz g lo xs h => by
    obtain ⟨h1, h2, h3⟩ := inv.rows b sz g lo xs h
    refine ⟨h1, fun blk hb => ?_, h3⟩
    obtain ⟨c, e, fz, h4, h5, h6, h7⟩ := h2 blk hb
    exact ⟨c, e, fz, h4, h5, fun i x hx => ⟨(h6 i x hx).1, fun j y hy => let ⟨v, h8, h9⟩ := (h6 i x hx).2 j y hy; ⟨v, h8, h9.ext (ext_drew G)⟩⟩, h7⟩
  maps := fun b es h => by
    obtain ⟨blk, ents, ck, h1, h2, h3, h4⟩ := inv.maps b es h
    exact ⟨blk, ents, ck, h1, h2, h3.ext (ext_drew G), h4⟩
  inj := inv.inj
  lt := inv.lt
  tks := inv.tks
  held := inv.held_ext (ext_drew G) rfl
  stab := inv.stab
  zlt := inv.zlt
  znone := inv.znone
  its := inv.its
  deads := inv.deads
theorem St.drew {X : Cfg} {G0 : Gh} {s : ASt} {a : Act} {w : World} (h : St X G0 s a w) : St X G0 s a { w with drawn := w.drawn + 1 } := by
  obtain ⟨G, rfl, hs, inv, hg, x, hm⟩ := h
  exact ⟨G.drew, rfl, ⟨hs.1, fun t => (hs.2.1 t).ext (ext_drew G), hs.2.2⟩, inv_drew inv, hg.ext (ext_drew G), x.trans (ext_drew G), hm⟩

theorem draw_sound {P : Program} {X : Cfg} (ok : OkX P X) {G0 : Gh} {F : Fence} (hF : FW F) {n : Nat} {id : Nat} {ops : Array Oper} {Q : Exit → Act → World → Prop} {s s' : ASt}
    (h : ∀ t, evIdx X ops.toList (Region.schedule (P.follows .mixedOrders) ops t) s = some s') {a : Act} {w : World} (hst : St X G0 s a w) (hQ : ∀ a w, St X G0 s' a w → Q .normal a w) : (Code.region id ops true).wpIn F n P Q a w :=
  wpIn_region_draw fun t => idx_sound ok hF hQ _ s a _ (h t) hst.drew
end Go.Proofs.YtgpkochbmfhmdaaGreatDoor.Lift
namespace Go.Proofs.YtgpkochbmfhmdaaGreatDoor.Lift
open Go

set_option maxHeartbeats 1000000 in
theorem evOper_congr {X : Cfg} {s s' : ASt} {o : Oper} (hst : s.st = s'.st) (h : ∀ x ∈ o.op.operands, s.ev X x = s'.ev X x) : evOper X s o = evOper X s' o := by
  obtain ⟨dst, op, type, pos, after, guard⟩ := o
  have h1 : ∀ (l : Array Operand), (∀ x ∈ l, x ∈ op.operands) → l.toList.map (s.ev X) = l.toList.map (s'.ev X) := fun l hl =>
    List.map_congr_left fun x hx => h x (hl x (Array.mem_def.2 hx))
  have h2 : ∀ (l : Option Operand), (∀ x, l = some x → x ∈ op.operands) → l.map (s.ev X) = l.map (s'.ev X) := fun l hl => by
    cases l with
    | none => rfl
    | some x => exact congrArg some (h x (hl x rfl))
  have h3 : ∀ {l : Array (Nat × Operand)}, op.operands = (l.toList.map (·.2)).toArray → ∀ p ∈ l.toList, s.ev X p.2 = s'.ev X p.2 := fun {l} hl p hp => h p.2 (by
    simp only
    rw [hl]
    simp only [List.mem_toArray, List.mem_map]
    exact ⟨p, hp, rfl⟩)
  cases op <;> simp only [evOper] <;> try rfl
  case build t parts =>
    have e1 : parts.toList.map (fun p => s.ev X p.2) = parts.toList.map (fun p => s'.ev X p.2) := List.map_congr_left (h3 rfl)
    have e2 : parts.toList.map (fun p => (p.1, s.ev X p.2)) = parts.toList.map (fun p => (p.1, s'.ev X p.2)) := List.map_congr_left fun p hp => by rw [h3 rfl p hp]
    rw [e1, e2, hst]
  case buildSlice t len parts =>
    have e1 : parts.toList.map (fun p => s.ev X p.2) = parts.toList.map (fun p => s'.ev X p.2) := List.map_congr_left (h3 rfl)
    rw [e1, hst]
  case makeFunc f first cap =>
    rw [h1 first (fun x hx => by simp [Op.operands, hx]), h1 cap (fun x hx => by simp [Op.operands, hx]), hst]
  case slice t x lo hi mx =>
    cases mx with
    | none =>
      simp only [evOper]
      rw [h x (by simp [Op.operands]), h2 lo (fun x hx => by subst hx; simp [Op.operands]), h2 hi (fun x hx => by subst hx; simp [Op.operands]), hst]
    | some m =>
      cases hi with
      | none => simp only [evOper]
      | some hi =>
        simp only [evOper]
        rw [h x (by simp [Op.operands]), h2 lo (fun x hx => by subst hx; simp [Op.operands]), h hi (by simp [Op.operands]), h m (by simp [Op.operands]), hst]
  case makeMap t r => cases r <;> simp only [evOper, hst]
  case next it isS =>
    cases isS with
    | false => rfl
    | true => simp only [evOper]; rw [h it (by simp [Op.operands]), hst]
  case call c =>
    obtain ⟨callee, args, ats⟩ := c
    cases callee with
    | builtin b =>
      simp only
      rw [h1 args (fun x hx => by simp [Op.operands, Call.operands, hx]), hst]
    | value f =>
      simp only
      rw [h1 args (fun x hx => by simp [Op.operands, Call.operands, hx]), h f (by simp [Op.operands, Call.operands]), hst]
    | invoke r n => rfl
  all_goals
    simp only [Op.operands, List.mem_toArray, List.mem_cons, List.not_mem_nil, or_false, forall_eq_or_imp, forall_eq] at h
    first
      | (obtain ⟨e1, e2, e3⟩ := h; rw [e1, e2, e3, hst])
      | (obtain ⟨e1, e2⟩ := h; rw [e1, e2, hst])
      | (rw [h, hst])
      | (rw [hst])
      | skip

theorem ev_upd {X : Cfg} (s : ASt) (d : Nat) (v : AV) (st : Sto) (x : Operand) (h : x ≠ .tmp d) : ASt.ev X { s with fr := upd s.fr d v, st := st } x = ASt.ev X s x := by
  cases x with
  | tmp t =>
    have : t ≠ d := fun e => h (by rw [e])
    simp [ASt.ev, upd, this]
  | const v => rfl
  | func f => rfl
  | global g => rfl

/-- a step, opened: the value, the store -/
def step0 (X : Cfg) (gd : Nat → Option Nat) (s : ASt) (o : Oper) : Option (AV × Sto) :=
  match wantedA gd s o with
  | some true => evOper X s o
  | some false => some (.tup [], s.st)
  | none => none
theorem step1_eq (X : Cfg) (gd : Nat → Option Nat) (s : ASt) (o : Oper) : step1 X gd s o = (step0 X gd s o).bind fun r => ASt.put { s with st := r.2 } o.dst r.1 := by
  unfold step1 step0
  cases wantedA gd s o with
  | none => rfl
  | some b => cases b with
    | false => rfl
    | true => cases evOper X s o <;> rfl

theorem step0_congr {X : Cfg} {ops : Array Oper} {s s' : ASt} {o : Oper} (hst : s.st = s'.st) (h : ∀ t ∈ o.looksAt ops, s.fr t = s'.fr t) : step0 X (gdOf ops.toList) s o = step0 X (gdOf ops.toList) s' o := by
  have h1 : evOper X s o = evOper X s' o := evOper_congr hst fun x hx => by
    cases x with
    | tmp t => exact h t (by simp only [Oper.looksAt, List.mem_append, List.mem_filterMap]; exact .inl ⟨.tmp t, Array.mem_def.1 hx, rfl⟩)
    | const v => rfl
    | func f => rfl
    | global g => rfl
  have h2 : wantedA (gdOf ops.toList) s o = wantedA (gdOf ops.toList) s' o := by
    unfold wantedA
    cases hg : o.guard with
    | none => rfl
    | some p =>
      obtain ⟨j, b⟩ := p
      simp only
      cases hd : gdOf ops.toList j with
      | none => rfl
      | some d =>
        simp only
        rw [h d (by
          simp only [gdOf, Array.getElem?_toList] at hd
          simp [Oper.looksAt, hg, hd])]
  unfold step0
  rw [h1, h2, hst]

theorem upd_comm (f : Nat → AV) {a b : Nat} (x y : AV) (h : a ≠ b) : upd (upd f a x) b y = upd (upd f b y) a x := by
  funext j
  simp only [upd]
  split <;> split <;> first | rfl | (rename_i h1 h2; exact absurd (h2.symm.trans h1) h)

/-- two steps that have nothing to do with each other -/
theorem step_swap {X : Cfg} {ops : Array Oper} {s s1 s2 : ASt} {x y : Oper} (hap : x.apart ops y = true) (h1 : step1 X (gdOf ops.toList) s x = some s1) (e1 : s1.st = s.st)
    (h2 : step1 X (gdOf ops.toList) s1 y = some s2) (e2 : s2.st = s1.st) : ∃ s1', step1 X (gdOf ops.toList) s y = some s1' ∧ s1'.st = s.st ∧ step1 X (gdOf ops.toList) s1' x = some s2 := by
  obtain ⟨ha, hb, hc⟩ := Oper.apart_spec hap
  rw [step1_eq] at h1 h2
  cases hx : step0 X (gdOf ops.toList) s x with
  | none => rw [hx] at h1; cases h1
  | some p =>
    obtain ⟨v, st⟩ := p
    rw [hx, Option.bind_some] at h1
    cases hy : step0 X (gdOf ops.toList) s1 y with
    | none => rw [hy] at h2; cases h2
    | some q =>
      obtain ⟨u, st'⟩ := q
      rw [hy, Option.bind_some] at h2
      have p1 : ∀ {s0 s' : ASt} {dst : Option Nat} {v : AV}, s0.put dst v = some s' → s'.n = s0.n ∧ s'.st = s0.st ∧ (∀ t, dst ≠ some t → s'.fr t = s0.fr t) ∧ s' = { s0 with fr := match dst with | some d => upd s0.fr d v | none => s0.fr } ∧ (∀ d, dst = some d → d < s0.n) := by
        intro s0 s' dst v hp
        cases dst with
        | none => cases hp; exact ⟨rfl, rfl, fun _ _ => rfl, rfl, fun d hd => by cases hd⟩
        | some d =>
          simp only [ASt.put] at hp
          split at hp
          · rename_i hd
            cases hp
            refine ⟨rfl, rfl, fun t ht => ?_, rfl, fun d' hd' => by cases hd'; exact hd⟩
            have : t ≠ d := fun e => ht (by rw [e])
            simp [upd, this]
          · cases hp
      obtain ⟨n1, t1, f1, g1, b1⟩ := p1 h1
      obtain ⟨n2, t2, f2, g2, b2⟩ := p1 h2
      simp only at n1 t1 f1 b1 n2 t2 f2 b2
      have hst : st = s.st := by rw [← t1, e1]
      have hst' : st' = s.st := by rw [← t2, e2, e1]
      subst hst
      subst hst'
      have hy' : step0 X (gdOf ops.toList) s y = some (u, s.st) := by
        rw [← hy]
        exact step0_congr e1.symm fun t ht => (f1 t (fun e => ha t e ht)).symm
      have q1 : ∃ s1', ASt.put { s with st := s.st } y.dst u = some s1' := by
        cases hd : y.dst with
        | none => exact ⟨_, rfl⟩
        | some d =>
          have := b2 d hd
          rw [n1] at this
          exact ⟨_, by simp only [ASt.put]; rw [if_pos this]⟩
      obtain ⟨s1', hs1'⟩ := q1
      obtain ⟨n3, t3, f3, g3, b3⟩ := p1 hs1'
      try simp only at n3 t3 f3 b3
      have hx' : step0 X (gdOf ops.toList) s1' x = some (v, s.st) := by
        rw [← hx]
        exact step0_congr t3 fun t ht => f3 t (fun e => hc t e ht)
      refine ⟨s1', by rw [step1_eq, hy', Option.bind_some]; exact hs1', t3, ?_⟩
      rw [step1_eq, hx', Option.bind_some]
      subst g2 g1 g3
      cases hxd : x.dst with
      | none => simp [ASt.put, hxd]
      | some d =>
        have := b1 d hxd
        simp only [ASt.put]
        rw [if_pos this]
        cases hyd : y.dst with
        | none => simp [hxd]
        | some d' =>
          have hne : d ≠ d' := fun e => hb d hxd (by rw [hyd, e])
          simp only [hxd]
          rw [upd_comm _ _ _ hne]

/-- an operation that neither reads nor turns the store -/
def silent (o : Oper) : Bool := match o.op with
  | .move _ | .assign _ | .pick .. | .binOp .. | .unOp .. | .extract .. | .nilCheck _ | .fieldAddr .. | .field .. => true
  | _ => false
theorem ev_st {X : Cfg} (s : ASt) (st : Sto) (x : Operand) : ASt.ev X { s with st := st } x = ASt.ev X s x := by cases x <;> rfl
theorem evOper_silent {X : Cfg} {s : ASt} {o : Oper} (h : silent o = true) (st : Sto) : evOper X { s with st := st } o = (evOper X s o).map fun r => (r.1, st) := by
  obtain ⟨dst, op, type, pos, after, guard⟩ := o
  cases op <;> simp only [silent, Bool.false_eq_true] at h <;> simp only [evOper, ev_st]
  case move x => rfl
  case assign x => rfl
  case pick c a b =>
    generalize ASt.ev X s c = v
    cases v <;> rfl
  case binOp op t x y _ =>
    cases X.T t with
    | none => rfl
    | some ti => simp only [Option.map_map]; rfl
  case unOp op _ x => simp only [Option.map_map]; rfl
  case extract t i =>
    generalize ASt.ev X s t = v
    cases v <;> try rfl
    simp only [Option.map_map]; rfl
  case nilCheck x =>
    generalize ASt.ev X s x = v
    cases v <;> try rfl
    rename_i f a b
    cases f <;> rfl
  case fieldAddr t x f =>
    generalize ASt.ev X s x = v
    split
    · split
      · split
        · split
          · rfl
          · cases v <;> rfl
        · rfl
      · rfl
    · rfl
  case field t x f =>
    generalize ASt.ev X s x = v
    split
    · split
      · split
        · cases v <;> try rfl
          simp only [Option.map_map]; rfl
        · rfl
      · rfl
    · rfl
theorem step0_silent {X : Cfg} {ops : Array Oper} {s s' : ASt} {o : Oper} (hs : silent o = true) (h : ∀ t ∈ o.looksAt ops, s.fr t = s'.fr t) {v : AV} {st : Sto} (h0 : step0 X (gdOf ops.toList) s o = some (v, st)) :
    st = s.st ∧ step0 X (gdOf ops.toList) s' o = some (v, s'.st) := by
  have e := step0_congr (X := X) (ops := ops) (s := { s with st := s'.st }) (s' := s') (o := o) rfl h
  have e2 : step0 X (gdOf ops.toList) { s with st := s'.st } o = (step0 X (gdOf ops.toList) s o).map fun r => (r.1, s'.st) := by
    unfold step0
    have hw : wantedA (gdOf ops.toList) { s with st := s'.st } o = wantedA (gdOf ops.toList) s o := rfl
    rw [hw]
    cases wantedA (gdOf ops.toList) s o with
    | none => rfl
    | some b =>
      cases b with
      | true => exact evOper_silent hs s'.st
      | false => rfl
  have e3 : st = s.st := by
    have e4 : step0 X (gdOf ops.toList) { s with st := s.st } o = (step0 X (gdOf ops.toList) s o).map fun r => (r.1, s.st) := by
      unfold step0
      have hw : wantedA (gdOf ops.toList) { s with st := s.st } o = wantedA (gdOf ops.toList) s o := rfl
      rw [hw]
      cases wantedA (gdOf ops.toList) s o with
      | none => rfl
      | some b =>
        cases b with
        | true => exact evOper_silent hs s.st
        | false => rfl
    rw [h0] at e4
    simp only [Option.map_some, Option.some.injEq, Prod.mk.injEq] at e4
    exact e4.2
  refine ⟨e3, ?_⟩
  rw [← e, e2, h0]
  rfl

/-- a load of this address finds the same in both stores -/
def ldEq (X : Cfg) (t : Nat) (st st' : Sto) (p : AV) : Prop := ∀ ti, X.T t = some ti → loadAt ti st p = loadAt ti st' p
/-- a frame with these operands' values -/
def frOf : List Operand → List AV → Nat → AV
  | .tmp t :: xs, v :: vs => fun j => if j = t then v else frOf xs vs j
  | _ :: xs, _ :: vs => frOf xs vs
  | _, _ => fun _ => .undef
theorem frOf_ev {X : Cfg} {s : ASt} {st : Sto} : ∀ {xs : List Operand} {x : Operand}, x ∈ xs → ASt.ev X ⟨0, frOf xs (xs.map (s.ev X)), st⟩ x = s.ev X x
  | [], x, h => by cases h
  | y :: ys, x, h => by
    cases x with
    | const v => rfl
    | func f => rfl
    | global g => rfl
    | tmp t =>
      have ih : .tmp t ∈ ys → ASt.ev X ⟨0, frOf ys (ys.map (s.ev X)), st⟩ (.tmp t) = s.ev X (.tmp t) := fun h => frOf_ev h
      rcases List.mem_cons.1 h with e | e
      · subst e
        show (if t = t then _ else _) = _
        rw [if_pos rfl]
      · cases y with
        | tmp t' =>
          show (if t = t' then _ else _) = _
          split
          · rename_i e2; subst e2; rfl
          · exact ih e
        | const v => exact ih e
        | func f => exact ih e
        | global g => exact ih e
/-- an operation on these operands answers the same in each store, and leaves it -/
def blind (X : Cfg) (o : Oper) : AV → Prop
  | .tup vs => ∃ v, ∀ st : Sto, evOper X ⟨0, frOf o.op.operands.toList vs, st⟩ o = some (v, st)
  | _ => False
theorem blind_ev {X : Cfg} {o : Oper} {s : ASt} (h : blind X o (.tup (o.op.operands.toList.map (s.ev X)))) : ∃ v, ∀ s' : ASt, (∀ x ∈ o.op.operands, s'.ev X x = s.ev X x) → evOper X s' o = some (v, s'.st) := by
  obtain ⟨v, hv⟩ := h
  refine ⟨v, fun s' hs => ?_⟩
  rw [← hv s'.st]
  exact evOper_congr rfl fun x hx => by rw [hs x hx, frOf_ev (Array.mem_def.1 hx)]
/-- an operation on these operands answers the same in both stores -/
def sameI (X : Cfg) (o : Oper) (st st' : Sto) : AV → Prop
  | .tup vs => ∃ v, evOper X ⟨0, frOf o.op.operands.toList vs, st⟩ o = some (v, st) ∧ evOper X ⟨0, frOf o.op.operands.toList vs, st'⟩ o = some (v, st')
  | _ => False
/-- it does not see the store; or it tells an element's place, and that is the same in both stores -/
def blS (X : Cfg) (o : Oper) (st st' : Sto) (p : AV) : Prop := blind X o p ∨ ((∃ t a b, o.op = .indexAddr t a b) ∧ sameI X o st st' p)
theorem sameI_ev {X : Cfg} {o : Oper} {s : ASt} {st st' : Sto} (h : sameI X o st st' (.tup (o.op.operands.toList.map (s.ev X)))) : ∃ v, ∀ s' : ASt, (∀ x ∈ o.op.operands, s'.ev X x = s.ev X x) → (s'.st = st ∨ s'.st = st') → evOper X s' o = some (v, s'.st) := by
  obtain ⟨v, h1, h2⟩ := h
  refine ⟨v, fun s' hs hst => ?_⟩
  rcases hst with e | e
  · rw [e, ← h1]
    exact evOper_congr e fun x hx => by rw [hs x hx, frOf_ev (Array.mem_def.1 hx)]
  · rw [e, ← h2]
    exact evOper_congr e fun x hx => by rw [hs x hx, frOf_ev (Array.mem_def.1 hx)]
theorem blS_ev {X : Cfg} {o : Oper} {s : ASt} {st st' : Sto} (h : blS X o st st' (.tup (o.op.operands.toList.map (s.ev X)))) : ∃ v, ∀ s' : ASt, (∀ x ∈ o.op.operands, s'.ev X x = s.ev X x) → (s'.st = st ∨ s'.st = st') → evOper X s' o = some (v, s'.st) := by
  rcases h with h | ⟨_, h⟩
  · obtain ⟨v, hv⟩ := blind_ev h
    exact ⟨v, fun s' hs _ => hv s' hs⟩
  · exact sameI_ev h
theorem blS.symm {X : Cfg} {o : Oper} {st st' : Sto} {p : AV} (h : blS X o st st' p) : blS X o st' st p := by
  rcases h with h | ⟨h1, h2⟩
  · exact .inl h
  · refine .inr ⟨h1, ?_⟩
    cases p <;> try exact h2
    obtain ⟨v, q1, q2⟩ := h2
    exact ⟨v, q2, q1⟩
/-- an element's place is told without turning the store -/
theorem idx_st {X : Cfg} {s : ASt} {o : Oper} (ho : ∃ t a b, o.op = .indexAddr t a b) {v : AV} {st : Sto} (h : evOper X s o = some (v, st)) : st = s.st := by
  obtain ⟨dst, op, type, pos, after, guard⟩ := o
  obtain ⟨t, a, b, e⟩ := ho
  simp only at e
  subst e
  simp only [evOper] at h
  repeat' split at h
  all_goals first | cases h; done | (cases h; rfl)
/-- an operation does not see that the store is turned -/
def Calm1 (X : Cfg) (s : ASt) (o : Oper) (st st' : Sto) : Prop := silent o = true ∨ (∃ t a, o.op = .load t a ∧ ldEq X t st st' (s.ev X a)) ∨ blS X o st st' (.tup (o.op.operands.toList.map (s.ev X)))
theorem step0_calm_st {X : Cfg} {ops : Array Oper} {s : ASt} {o : Oper} {st1 : Sto} (hs : Calm1 X s o s.st st1) {v : AV} {st : Sto} (h0 : step0 X (gdOf ops.toList) s o = some (v, st)) : st = s.st := by
  rcases hs with hs | ⟨t, a, e, _⟩ | hc
  · exact (step0_silent (s' := s) hs (fun _ _ => rfl) h0).1
  · obtain ⟨dst, op, type, pos, after, guard⟩ := o
    simp only at e
    subst e
    unfold step0 at h0
    split at h0
    · simp only [evOper] at h0
      split at h0
      · obtain ⟨v', _, e⟩ := Option.map_eq_some_iff.1 h0
        cases e; rfl
      · cases h0
    · cases h0; rfl
    · cases h0
  · obtain ⟨w, hw⟩ := blS_ev hc
    unfold step0 at h0
    split at h0
    · rw [hw s (fun _ _ => rfl) (.inl rfl)] at h0
      cases h0; rfl
    · cases h0; rfl
    · cases h0
theorem step0_calm_st' {X : Cfg} {ops : Array Oper} {s : ASt} {o : Oper} {st1 : Sto} (hs : Calm1 X s o st1 s.st) {v : AV} {st : Sto} (h0 : step0 X (gdOf ops.toList) s o = some (v, st)) : st = s.st := by
  rcases hs with hs | ⟨t, a, e, hl⟩ | hc
  · exact step0_calm_st (st1 := st1) (.inl hs) h0
  · exact step0_calm_st (st1 := st1) (.inr (.inl ⟨t, a, e, fun ti ht => (hl ti ht).symm⟩)) h0
  · exact step0_calm_st (st1 := st1) (.inr (.inr hc.symm)) h0
theorem step0_calm {X : Cfg} {ops : Array Oper} {s s' : ASt} {o : Oper} (hs : Calm1 X s o s.st s'.st) (h : ∀ t ∈ o.looksAt ops, s.fr t = s'.fr t) {v : AV} {st : Sto} (h0 : step0 X (gdOf ops.toList) s o = some (v, st)) :
    st = s.st ∧ step0 X (gdOf ops.toList) s' o = some (v, s'.st) := by
  refine ⟨step0_calm_st hs h0, ?_⟩
  rcases hs with hs | ⟨t, a, e, hl⟩ | hc
  · exact (step0_silent hs h h0).2
  · rw [← step0_congr (X := X) (ops := ops) (s := { s with st := s'.st }) (s' := s') (o := o) rfl h]
    obtain ⟨dst, op, type, pos, after, guard⟩ := o
    simp only at e
    subst e
    unfold step0 at h0 ⊢
    have hw : ∀ g, wantedA g { s with st := s'.st } ⟨dst, .load t a, type, pos, after, guard⟩ = wantedA g s ⟨dst, .load t a, type, pos, after, guard⟩ := fun g => rfl
    rw [hw]
    cases hwa : wantedA (gdOf ops.toList) s ⟨dst, .load t a, type, pos, after, guard⟩ with
    | none => rw [hwa] at h0; cases h0
    | some b =>
      rw [hwa] at h0
      cases b with
      | false => cases h0; rfl
      | true =>
        simp only [evOper, ev_st] at h0 ⊢
        cases ht : X.T t with
        | none => rw [ht] at h0; cases h0
        | some ti =>
          rw [ht] at h0
          simp only at h0 ⊢
          obtain ⟨v', h1, e⟩ := Option.map_eq_some_iff.1 h0
          cases e
          rw [← hl ti ht, h1]
          rfl
  · rw [← step0_congr (X := X) (ops := ops) (s := { s with st := s'.st }) (s' := s') (o := o) rfl h]
    obtain ⟨w, hw⟩ := blS_ev hc
    unfold step0 at h0 ⊢
    have hwa : ∀ g, wantedA g { s with st := s'.st } o = wantedA g s o := fun g => rfl
    rw [hwa]
    cases hq : wantedA (gdOf ops.toList) s o with
    | none => rw [hq] at h0; cases h0
    | some b =>
      rw [hq] at h0
      cases b with
      | false => cases h0; rfl
      | true =>
        have h0' : evOper X s o = some (v, st) := h0
        rw [hw s (fun _ _ => rfl) (.inl rfl)] at h0'
        cases h0'
        exact hw { s with st := s'.st } (fun x _ => ev_st s s'.st x) (.inr rfl)
def putFr (fr : Nat → AV) : Option Nat → AV → Nat → AV
  | some d, v => upd fr d v
  | none, _ => fr
theorem put_inv {s0 s' : ASt} {dst : Option Nat} {v : AV} (hp : s0.put dst v = some s') : s'.n = s0.n ∧ s'.st = s0.st ∧ (∀ t, dst ≠ some t → s'.fr t = s0.fr t) ∧ s' = { s0 with fr := putFr s0.fr dst v } ∧ (∀ d, dst = some d → d < s0.n) := by
  cases dst with
  | none => cases hp; exact ⟨rfl, rfl, fun _ _ => rfl, rfl, fun d hd => by cases hd⟩
  | some d =>
    simp only [ASt.put] at hp
    split at hp
    · rename_i hd
      cases hp
      refine ⟨rfl, rfl, fun t ht => ?_, rfl, fun d' hd' => by cases hd'; exact hd⟩
      have : t ≠ d := fun e => ht (by rw [e])
      simp [upd, this]
    · cases hp
/-- the frame that an operation looks at is as another one left it -/
theorem step1_fr {X : Cfg} {gd : Nat → Option Nat} {s s1 : ASt} {x : Oper} (h1 : step1 X gd s x = some s1) : ∀ t, x.dst ≠ some t → s1.fr t = s.fr t := by
  rw [step1_eq] at h1
  cases hx : step0 X gd s x with
  | none => rw [hx] at h1; cases h1
  | some p => rw [hx, Option.bind_some] at h1; exact (put_inv h1).2.2.1
theorem step1_calm_st {X : Cfg} {ops : Array Oper} {s s1 : ASt} {o : Oper} {st1 : Sto} (hs : Calm1 X s o st1 s.st) (h1 : step1 X (gdOf ops.toList) s o = some s1) : s1.st = s.st := by
  rw [step1_eq] at h1
  cases hx : step0 X (gdOf ops.toList) s o with
  | none => rw [hx] at h1; cases h1
  | some p => rw [hx, Option.bind_some] at h1; exact (put_inv h1).2.1.trans (step0_calm_st' (st := p.2) (v := p.1) hs hx)

/-- two steps that have nothing to do with each other, of which one may turn the store, if the other does not see it -/
theorem step_swap' {X : Cfg} {ops : Array Oper} {s s1 s2 : ASt} {x y : Oper} (hap : x.apart ops y = true) (h1 : step1 X (gdOf ops.toList) s x = some s1) (e1 : s1.st = s.st ∨ Calm1 X s1 y s1.st s.st)
    (h2 : step1 X (gdOf ops.toList) s1 y = some s2) (e2 : s2.st = s1.st ∨ (s1.st = s.st ∧ Calm1 X s x s1.st s2.st)) : ∃ s1', step1 X (gdOf ops.toList) s y = some s1' ∧ step1 X (gdOf ops.toList) s1' x = some s2 ∧ (s2.st = s1.st → s1'.st = s.st) ∧ (s1.st = s.st → s2.st = s1'.st) := by
  obtain ⟨ha, hb, hc⟩ := Oper.apart_spec hap
  rw [step1_eq] at h1 h2
  cases hx : step0 X (gdOf ops.toList) s x with
  | none => rw [hx] at h1; cases h1
  | some p =>
    obtain ⟨v, st⟩ := p
    rw [hx, Option.bind_some] at h1
    cases hy : step0 X (gdOf ops.toList) s1 y with
    | none => rw [hy] at h2; cases h2
    | some q =>
      obtain ⟨u, st'⟩ := q
      rw [hy, Option.bind_some] at h2
      obtain ⟨n1, t1, f1, g1, b1⟩ := put_inv h1
      obtain ⟨n2, t2, f2, g2, b2⟩ := put_inv h2
      simp only at n1 t1 f1 b1 n2 t2 f2 b2
      have hfy : ∀ t ∈ y.looksAt ops, s1.fr t = s.fr t := fun t ht => f1 t (fun e => ha t e ht)
      -- y, at s
      obtain ⟨τ, hy', hτ, hτ2⟩ : ∃ τ, step0 X (gdOf ops.toList) s y = some (u, τ) ∧ (s1.st = s.st → τ = st') ∧ (Calm1 X s1 y s1.st s.st → τ = s.st ∧ st' = s1.st) := by
        rcases e1 with e1 | e1
        · refine ⟨st', ?_, fun _ => rfl, fun hs => ?_⟩
          · rw [← hy]
            exact step0_congr e1.symm fun t ht => (hfy t ht).symm
          · have := (step0_calm hs hfy hy).1
            exact ⟨this.trans e1, this⟩
        · obtain ⟨q1, q2⟩ := step0_calm e1 hfy hy
          exact ⟨s.st, q2, fun e => by rw [q1, e], fun _ => ⟨rfl, q1⟩⟩
      have q1 : ∃ s1', ASt.put { s with st := τ } y.dst u = some s1' := by
        cases hd : y.dst with
        | none => exact ⟨_, rfl⟩
        | some d =>
          have := b2 d hd
          rw [n1] at this
          exact ⟨_, by simp only [ASt.put]; rw [if_pos this]⟩
      obtain ⟨s1', hs1'⟩ := q1
      obtain ⟨n3, t3, f3, g3, b3⟩ := put_inv hs1'
      try simp only at n3 t3 f3 b3
      have hfx : ∀ t ∈ x.looksAt ops, s.fr t = s1'.fr t := fun t ht => (f3 t (fun e => hc t e ht)).symm
      have hx' : step0 X (gdOf ops.toList) s1' x = some (v, st') := by
        rcases e2 with e2 | e2
        · have hst : st' = st := by rw [← t2, e2, t1]
          rw [hst, ← hx]
          have : s1'.st = s.st := by
            rw [t3]
            rcases e1 with e1 | e1
            · rw [hτ e1, hst, ← t1, e1]
            · exact (hτ2 e1).1
          exact step0_congr this fun t ht => (hfx t ht).symm
        · obtain ⟨q0, e2⟩ := e2
          have q3 : s1'.st = s2.st := by rw [t3, t2, hτ q0]
          have e2' : Calm1 X s x s.st s1'.st := by rw [← q0, q3]; exact e2
          obtain ⟨q1, q2⟩ := step0_calm e2' hfx hx
          rw [q2, t3, hτ q0]
      refine ⟨s1', by rw [step1_eq, hy', Option.bind_some]; exact hs1', ?_, fun e => ?_, fun e => by rw [t2, t3, hτ e]⟩
      · rw [step1_eq, hx', Option.bind_some]
        subst g2 g1 g3
        cases hxd : x.dst with
        | none => simp [ASt.put, putFr]
        | some d =>
          have := b1 d hxd
          simp only [ASt.put]
          rw [if_pos this]
          cases hyd : y.dst with
          | none => simp [putFr]
          | some d' =>
            have hne : d ≠ d' := fun e => hb d hxd (by rw [hyd, e])
            simp only [putFr]
            rw [upd_comm _ _ _ hne]
      · rw [t3]
        rcases e1 with e1 | e1
        · rw [hτ e1, ← t2, e, e1]
        · exact (hτ2 e1).1

/-- what an operation waits for -/
def depsOf (o : Oper) : List Nat := (o.after.toList.filter (Region.binds .any)).map (·.on)
def ancTab : List Oper → List (List Nat) → List (List Nat)
  | [], tab => tab
  | o :: r, tab => ancTab r (tab ++ [depsOf o ++ (depsOf o).flatMap fun d => tab.getD d []])
/-- each two operations of which none waits for the other are apart; none waits for a later one -/
def drawOK (ops : Array Oper) (tab : List (List Nat)) : Bool :=
  decide (tab.length ≤ ops.size) && (List.range ops.size).all fun i => match ops[i]? with
    | none => true
    | some o => (depsOf o).all (fun d => decide (d < i) && (tab.getD i []).contains d && (tab.getD d []).all (tab.getD i []).contains) &&
      (tab.getD i []).all (fun j => decide (j < i) && ((depsOf o).contains j || (depsOf o).any fun d => (tab.getD d []).contains j)) &&
      (List.range i).all fun j => (tab.getD i []).contains j || (match ops[j]? with | some p => p.apart ops o | none => true)
def barrier (ops : Array Oper) (tab : List (List Nat)) (i : Nat) : Bool :=
  (List.range ops.size).all fun j => j == i || (tab.getD i []).contains j || (tab.getD j []).contains i || (match ops[j]? with | some o => silent o | none => true)

def unord (tab : List (List Nat)) (i j : Nat) : Bool := !(j == i || (tab.getD i []).contains j || (tab.getD j []).contains i)
/-- an operation (i) that turns the store: those that may come before it or behind it do not see it (ad: where they load) -/
def steady (X : Cfg) (ops : Array Oper) (tab : List (List Nat)) (ad : List (Nat × AV)) (i : Nat) (st st' : Sto) : Prop :=
  ∀ j o, ops[j]? = some o → unord tab i j = true → silent o = true ∨ (∃ t a p, o.op = .load t a ∧ ad.lookup j = some p ∧ ldEq X t st st' p) ∨ ∃ p, (∀ t a, o.op ≠ .load t a) ∧ ad.lookup j = some p ∧ blS X o st st' p
def adOk (X : Cfg) (ad : List (Nat × AV)) (i : Nat) (o : Oper) (s : ASt) : Prop := (∀ t a p, o.op = .load t a → ad.lookup i = some p → s.ev X a = p) ∧ ∀ p, (∀ t a, o.op ≠ .load t a) → ad.lookup i = some p → .tup (o.op.operands.toList.map (s.ev X)) = p
theorem steady_of_barrier {X : Cfg} {ops : Array Oper} {tab : List (List Nat)} {ad : List (Nat × AV)} {i : Nat} {st st' : Sto} (h : barrier ops tab i = true) : steady X ops tab ad i st st' := fun j o ho hu => by
  simp only [barrier, List.all_eq_true, List.mem_range] at h
  have := h j (Array.getElem?_eq_some_iff.1 ho).1
  rw [ho] at this
  simp only [unord, Bool.not_eq_eq_eq_not, Bool.not_true] at hu
  simp only [hu, Bool.false_or] at this
  exact .inl this
/-- the barrier's condition, but for loads -/
def barrierL (ops : Array Oper) (tab : List (List Nat)) (ad : List (Nat × AV)) (i : Nat) : Bool :=
  (List.range ops.size).all fun j => !(unord tab i j) || (match ops[j]? with | some o => silent o || (ad.lookup j).isSome | none => true)
def steadyL (X : Cfg) (ops : Array Oper) (tab : List (List Nat)) (i : Nat) (st st' : Sto) : List (Nat × AV) → Prop
  | [] => True
  | (j, p) :: r => (unord tab i j = true → match ops[j]? with | some o => (match o.op with | .load t _ => ldEq X t st st' p | _ => blind X o p ∨ ((∃ t a b, o.op = .indexAddr t a b) ∧ sameI X o st st' p)) | none => True) ∧ steadyL X ops tab i st st' r
theorem steadyL_lookup {X : Cfg} {ops : Array Oper} {tab : List (List Nat)} {i : Nat} {st st' : Sto} {j t : Nat} {p : AV} {a : Operand} {o : Oper} (ho : ops[j]? = some o) (he : o.op = .load t a) (hu : unord tab i j = true) : ∀ {ad : List (Nat × AV)}, steadyL X ops tab i st st' ad → ad.lookup j = some p → ldEq X t st st' p
  | [], _, h => by cases h
  | (k, q) :: r, h, hl => by
    rw [List.lookup_cons] at hl
    by_cases hk : j = k
    · subst hk
      simp only [beq_self_eq_true] at hl
      cases hl
      have := h.1 hu
      rw [ho] at this
      simp only [he] at this
      exact this
    · have : (j == k) = false := by simpa using hk
      rw [this] at hl
      exact steadyL_lookup ho he hu h.2 hl
theorem steadyL_op {X : Cfg} {ops : Array Oper} {tab : List (List Nat)} {i : Nat} {st st' : Sto} {j : Nat} {p : AV} {o : Oper} (ho : ops[j]? = some o) (he : ∀ t a, o.op ≠ .load t a) (hu : unord tab i j = true) : ∀ {ad : List (Nat × AV)}, steadyL X ops tab i st st' ad → ad.lookup j = some p → blS X o st st' p
  | [], _, h => by cases h
  | (m, q) :: r, h, hl => by
    rw [List.lookup_cons] at hl
    by_cases hk : j = m
    · subst hk
      simp only [beq_self_eq_true] at hl
      cases hl
      have := h.1 hu
      rw [ho] at this
      simp only at this
      exact this
    · have : (j == m) = false := by simpa using hk
      rw [this] at hl
      exact steadyL_op ho he hu h.2 hl
theorem steady_of {X : Cfg} {ops : Array Oper} {tab : List (List Nat)} {ad : List (Nat × AV)} {i : Nat} {st st' : Sto} (h : barrierL ops tab ad i = true) (h2 : steadyL X ops tab i st st' ad) : steady X ops tab ad i st st' := fun j o ho hu => by
  simp only [barrierL, List.all_eq_true, List.mem_range] at h
  have := h j (Array.getElem?_eq_some_iff.1 ho).1
  rw [ho, hu] at this
  simp only [Bool.not_true, Bool.false_or, Bool.or_eq_true] at this
  rcases this with this | this
  · exact .inl this
  · obtain ⟨p, hp⟩ := Option.isSome_iff_exists.1 this
    by_cases hl : ∃ t a, o.op = .load t a
    · obtain ⟨t, a, he⟩ := hl
      exact .inr (.inl ⟨t, a, p, he, hp, steadyL_lookup ho he hu h2 hp⟩)
    · have hn : ∀ t a, o.op ≠ .load t a := fun t a e => hl ⟨t, a, e⟩
      exact .inr (.inr ⟨p, hn, hp, steadyL_op ho hn hu h2 hp⟩)
theorem ldEq.symm {X : Cfg} {t : Nat} {st st' : Sto} {p : AV} (h : ldEq X t st st' p) : ldEq X t st' st p := fun ti ht => (h ti ht).symm
theorem steady.calm {X : Cfg} {ops : Array Oper} {tab : List (List Nat)} {ad : List (Nat × AV)} {i : Nat} {st st' : Sto} (h : steady X ops tab ad i st st') {j : Nat} {o : Oper} {s : ASt} (ho : ops[j]? = some o) (hu : unord tab i j = true) (ha : adOk X ad j o s) : Calm1 X s o st st' := by
  rcases h j o ho hu with h | ⟨t, a, p, he, hp, hl⟩ | ⟨p, he, hp, hl⟩
  · exact .inl h
  · exact .inr (.inl ⟨t, a, he, by rw [ha.1 t a p he hp]; exact hl⟩)
  · exact .inr (.inr (by rw [ha.2 p he hp]; exact hl))
theorem Calm1.symm {X : Cfg} {s : ASt} {o : Oper} {st st' : Sto} (h : Calm1 X s o st st') : Calm1 X s o st' st := by
  rcases h with h | ⟨t, a, e, hl⟩ | h
  · exact .inl h
  · exact .inr (.inl ⟨t, a, e, hl.symm⟩)
  · exact .inr (.inr h.symm)
theorem looksAt_ev {X : Cfg} {o : Oper} {s s' : ASt} {ops : Array Oper} (hf : ∀ t ∈ o.looksAt ops, s'.fr t = s.fr t) (x : Operand) (hx : x ∈ o.op.operands) : s'.ev X x = s.ev X x := by
  cases x with
  | tmp t' => exact hf t' (by simp only [Oper.looksAt, List.mem_append, List.mem_filterMap]; exact .inl ⟨.tmp t', Array.mem_def.1 hx, rfl⟩)
  | const v => rfl
  | func f => rfl
  | global g => rfl
theorem adOk.congr {X : Cfg} {ad : List (Nat × AV)} {i : Nat} {o : Oper} {s s' : ASt} {ops : Array Oper} (h : adOk X ad i o s) (hf : ∀ t ∈ o.looksAt ops, s'.fr t = s.fr t) : adOk X ad i o s' := by
  refine ⟨fun t a p he hp => ?_, fun p he hp => ?_⟩
  · rw [← h.1 t a p he hp]
    exact looksAt_ev hf a (by rw [he]; simp [Op.operands])
  · rw [← h.2 p he hp]
    congr 1
    exact List.map_congr_left fun x hx => looksAt_ev hf x (Array.mem_def.2 hx)

/-- a block turned, or not -/
def setO (st : Sto) (k : Nat) : Option ABlk → Sto
  | none => st
  | some b => st.set k b
theorem setO_get {st : Sto} {k j : Nat} (h : k ≠ j) (b : Option ABlk) : (setO st k b)[j]? = st[j]? := by
  cases b with
  | none => rfl
  | some b => exact List.getElem?_set_ne h
theorem setO_comm {st : Sto} {k j : Nat} (h : k ≠ j) (b c : Option ABlk) : setO (setO st k b) j c = setO (setO st j c) k b := by
  cases b <;> cases c <;> first | rfl | exact List.set_comm _ _ h
theorem setO_back {st : Sto} {k j : Nat} (h : k ≠ j) {b c : Option ABlk} (e : setO (setO st k b) j c = setO st k b) : setO st j c = st := by
  cases c with
  | none => rfl
  | some c =>
    show st.set j c = st
    have e2 : ((setO st k b).set j c)[j]? = (setO st k b)[j]? := congrArg (fun l => l[j]?) e
    rw [setO_get h] at e2
    rcases Nat.lt_or_ge j st.length with hj | hj
    · have hl : j < (setO st k b).length := by cases b <;> simpa [setO] using hj
      rw [List.getElem?_set_self hl] at e2
      apply List.ext_getElem?
      intro i
      by_cases hi : j = i
      · subst hi
        rw [List.getElem?_set_self hj, e2]
      · rw [List.getElem?_set_ne hi]
    · exact List.set_eq_of_length_le hj
/-- an operation on these operands that sees and turns one block alone -/
def isLoc (X : Cfg) (o : Oper) (k : Nat) : AV → Prop
  | .tup vs => ∀ (st : Sto) (v : AV) (st' : Sto), evOper X ⟨0, frOf o.op.operands.toList vs, st⟩ o = some (v, st') → ∃ b, st' = setO st k b ∧ ∀ st2 : Sto, st2[k]? = st[k]? → evOper X ⟨0, frOf o.op.operands.toList vs, st2⟩ o = some (v, setO st2 k b)
  | _ => False
def farP (k : Nat) : AV → Prop
  | .ptr b _ _ _ => b ≠ k
  | .rp .. => True
  | _ => False
def locAt (X : Cfg) (ad : List (Nat × AV)) (j : Nat) (o : Oper) (k : Nat) : Prop := ∃ p, ad.lookup j = some p ∧ (∀ t a, o.op ≠ .load t a) ∧ isLoc X o k p
/-- those that may come before it or behind it do not look there -/
def steadyK (X : Cfg) (ops : Array Oper) (tab : List (List Nat)) (ad : List (Nat × AV)) (i k : Nat) : Prop :=
  ∀ j o, ops[j]? = some o → unord tab i j = true → silent o = true ∨ (∃ t a p, o.op = .load t a ∧ ad.lookup j = some p ∧ farP k p) ∨ (∃ p, (∀ t a, o.op ≠ .load t a) ∧ ad.lookup j = some p ∧ blind X o p) ∨ ∃ kj, kj ≠ k ∧ locAt X ad j o kj
/-- a step that sees and turns one block alone -/
def LocS (X : Cfg) (ops : Array Oper) (s : ASt) (o : Oper) (k : Nat) : Prop :=
  ∀ s' : ASt, (∀ t ∈ o.looksAt ops, s'.fr t = s.fr t) → ∀ v st', step0 X (gdOf ops.toList) s' o = some (v, st') → ∃ b, st' = setO s'.st k b ∧ ∀ s2 : ASt, (∀ t ∈ o.looksAt ops, s2.fr t = s.fr t) → s2.st[k]? = s'.st[k]? → step0 X (gdOf ops.toList) s2 o = some (v, setO s2.st k b)
theorem wanted_congr {ops : Array Oper} {s s' : ASt} {o : Oper} (h : ∀ t ∈ o.looksAt ops, s'.fr t = s.fr t) : wantedA (gdOf ops.toList) s' o = wantedA (gdOf ops.toList) s o := by
  unfold wantedA
  cases hg : o.guard with
  | none => rfl
  | some p =>
    obtain ⟨j, b⟩ := p
    simp only
    cases hd : gdOf ops.toList j with
    | none => rfl
    | some d =>
      simp only
      rw [h d (by
        simp only [gdOf, Array.getElem?_toList] at hd
        simp [Oper.looksAt, hg, hd])]
theorem locAt.step {X : Cfg} {ops : Array Oper} {ad : List (Nat × AV)} {j k : Nat} {o : Oper} {s : ASt} (h : locAt X ad j o k) (ha : adOk X ad j o s) : LocS X ops s o k := by
  obtain ⟨p, hp, hn, hl⟩ := h
  have e := ha.2 p hn hp
  subst e
  intro s' hs v st' h0
  have e1 : ∀ s2 : ASt, (∀ t ∈ o.looksAt ops, s2.fr t = s.fr t) → evOper X s2 o = evOper X ⟨0, frOf o.op.operands.toList (o.op.operands.toList.map (s.ev X)), s2.st⟩ o := fun s2 h2 =>
    evOper_congr rfl fun x hx => by rw [looksAt_ev h2 x hx, frOf_ev (Array.mem_def.1 hx)]
  unfold step0 at h0
  rw [wanted_congr hs] at h0
  cases hw : wantedA (gdOf ops.toList) s o with
  | none => rw [hw] at h0; cases h0
  | some b =>
    rw [hw] at h0
    cases b with
    | false =>
      cases h0
      exact ⟨none, rfl, fun s2 h2 _ => by unfold step0; rw [wanted_congr h2, hw]; rfl⟩
    | true =>
      simp only at h0
      rw [e1 s' hs] at h0
      obtain ⟨b, h1, h2⟩ := hl _ _ _ h0
      exact ⟨b, h1, fun s2 h3 h4 => by unfold step0; rw [wanted_congr h3, hw]; simp only; rw [e1 s2 h3]; exact h2 _ h4⟩
theorem LocS.st {X : Cfg} {ops : Array Oper} {s s1 : ASt} {o : Oper} {k : Nat} (h : LocS X ops s o k) (h1 : step1 X (gdOf ops.toList) s o = some s1) : ∃ r, s1.st = setO s.st k r := by
  rw [step1_eq] at h1
  cases hq : step0 X (gdOf ops.toList) s o with
  | none => rw [hq] at h1; cases h1
  | some r =>
    rw [hq] at h1
    obtain ⟨b, hb, _⟩ := h s (fun _ _ => rfl) r.1 r.2 hq
    exact ⟨b, (put_inv h1).2.1.trans hb⟩
theorem loc_swap {X : Cfg} {ops : Array Oper} {s s1 s2 : ASt} {x y : Oper} {kx ky : Nat} (hap : x.apart ops y = true) (hx : LocS X ops s x kx) (hy : LocS X ops s y ky) (hne : kx ≠ ky) (h1 : step1 X (gdOf ops.toList) s x = some s1)
    (h2 : step1 X (gdOf ops.toList) s1 y = some s2) : ∃ s1', step1 X (gdOf ops.toList) s y = some s1' ∧ step1 X (gdOf ops.toList) s1' x = some s2 ∧ (s2.st = s1.st → s1'.st = s.st) ∧ (s1.st = s.st → s2.st = s1'.st) := by
  obtain ⟨ha, hb, hc⟩ := Oper.apart_spec hap
  rw [step1_eq] at h1 h2
  cases hq : step0 X (gdOf ops.toList) s x with
  | none => rw [hq] at h1; cases h1
  | some r =>
  rw [hq, Option.bind_some] at h1
  obtain ⟨n1, t1, f1, g1, b1⟩ := put_inv h1
  simp only at n1 t1 f1 b1
  have hfy : ∀ t ∈ y.looksAt ops, s1.fr t = s.fr t := fun t ht => f1 t (fun e => ha t e ht)
  cases hq2 : step0 X (gdOf ops.toList) s1 y with
  | none => rw [hq2] at h2; cases h2
  | some u =>
  rw [hq2, Option.bind_some] at h2
  obtain ⟨n2, t2, f2, g2, b2⟩ := put_inv h2
  simp only at n2 t2 f2 b2
  obtain ⟨bx, ex, cx⟩ := hx s (fun _ _ => rfl) r.1 r.2 hq
  obtain ⟨bY, ey, cy⟩ := hy s1 hfy u.1 u.2 hq2
  have e0 : s1.st = setO s.st kx bx := t1.trans ex
  have hy' := cy s (fun _ _ => rfl) (by rw [e0, setO_get hne])
  have q1 : ∃ s1', ASt.put { s with st := setO s.st ky bY } y.dst u.1 = some s1' := by
    cases hd : y.dst with
    | none => exact ⟨_, rfl⟩
    | some d =>
      have := b2 d hd
      rw [n1] at this
      exact ⟨_, by simp only [ASt.put]; rw [if_pos this]⟩
  obtain ⟨s1', hs1'⟩ := q1
  obtain ⟨n3, t3, f3, g3, b3⟩ := put_inv hs1'
  simp only at n3 t3 f3 b3
  have hfx : ∀ t ∈ x.looksAt ops, s1'.fr t = s.fr t := fun t ht => f3 t (fun e => hc t e ht)
  have hx' := cx s1' hfx (by rw [t3, setO_get (fun e => hne e.symm)])
  have e2 : s2.st = setO (setO s.st kx bx) ky bY := by rw [t2, ey, e0]
  refine ⟨s1', ?_, ?_, fun e => ?_, fun e => ?_⟩
  · rw [step1_eq, hy', Option.bind_some]
    exact hs1'
  · rw [step1_eq, hx', Option.bind_some]
    have e3 : setO s1'.st kx bx = s2.st := by rw [t3, e2, setO_comm hne]
    rw [e3]
    obtain ⟨n, fr, st⟩ := s2
    simp only at g2 e2 n2 f2 e3
    cases g2
    cases hxd : x.dst with
    | none =>
      simp only [ASt.put, n3, n1]
      rw [g3, g1, hxd]
      simp [putFr]
    | some d =>
      have := b1 d hxd
      simp only [ASt.put]
      rw [n3, if_pos this, g3, g1, hxd]
      cases hyd : y.dst with
      | none => simp [putFr]
      | some d' =>
        have hne : d ≠ d' := fun e => hb d hxd (by rw [hyd, e])
        simp only [putFr]
        rw [upd_comm _ _ _ hne]
  · rw [e2, e0] at e
    rw [t3]
    exact setO_back hne e
  · rw [e2, t3, ← e0, e]
theorem far_ld {X : Cfg} {t k : Nat} {st : Sto} {r : Option ABlk} {p : AV} (h : farP k p) : ldEq X t st (setO st k r) p := fun ti _ => by
  cases p <;> first | exact h.elim | skip
  case ptr b g i off =>
    have hb : b ≠ k := h
    simp only [loadAt]
    rw [setO_get (fun e => hb e.symm)]
  case rp x off => rfl
/-- what does not look there is calm -/
theorem steadyK.calm {X : Cfg} {ops : Array Oper} {tab : List (List Nat)} {ad : List (Nat × AV)} {i k : Nat} (h : steadyK X ops tab ad i k) {j : Nat} {o : Oper} {s : ASt} (ho : ops[j]? = some o) (hu : unord tab i j = true) (ha : adOk X ad j o s) : (∀ st r, Calm1 X s o st (setO st k r)) ∨ ∃ kj, kj ≠ k ∧ locAt X ad j o kj := by
  rcases h j o ho hu with h | ⟨t, a, p, he, hp, hl⟩ | ⟨p, he, hp, hl⟩ | h
  · exact .inl fun _ _ => .inl h
  · exact .inl fun _ _ => .inr (.inl ⟨t, a, he, by rw [ha.1 t a p he hp]; exact far_ld hl⟩)
  · exact .inl fun _ _ => .inr (.inr (.inl (by rw [ha.2 p he hp]; exact hl)))
  · exact .inr h
theorem step1_stay {X : Cfg} {ops : Array Oper} {s s1 : ASt} {o : Oper} {st st' : Sto} (hs : Calm1 X s o st st') (h1 : step1 X (gdOf ops.toList) s o = some s1) : s1.st = s.st := by
  rcases hs with h | ⟨t, a, e, _⟩ | h | ⟨h, _⟩
  · exact step1_calm_st (st1 := s.st) (.inl h) h1
  · exact step1_calm_st (st1 := s.st) (.inr (.inl ⟨t, a, e, fun _ _ => rfl⟩)) h1
  · exact step1_calm_st (st1 := s.st) (.inr (.inr (.inl h))) h1
  · rw [step1_eq] at h1
    cases hx : step0 X (gdOf ops.toList) s o with
    | none => rw [hx] at h1; cases h1
    | some p =>
      rw [hx, Option.bind_some] at h1
      rw [(put_inv h1).2.1]
      show p.2 = s.st
      unfold step0 at hx
      split at hx
      · exact idx_st h (v := p.1) (st := p.2) hx
      · cases hx; rfl
      · cases hx

def ptrKey : AV → Option Nat
  | .ptr b _ _ _ => some b
  | _ => none
def flatV : AV → Bool
  | .sl _ | .snil | .sle | .str _ | .int .. => true
  | _ => false
def appKey : List AV → Option Nat
  | [.sr b _ _ _, y] => if flatV y = true then some b else none
  | _ => none
/-- the block that an operation on these operands turns -/
def locKey (X : Cfg) (o : Oper) : AV → Option Nat
  | .tup vs => match o.op with
    | .alloc _ => resAt X.A o.dst
    | .makeSlice _ _ _ => resAt X.A o.dst
    | .buildSlice _ _ _ => if frozenAt X.B o.dst = true then none else resAt X.A o.dst
    | .store _ a _ => ptrKey (ASt.ev X ⟨0, frOf o.op.operands.toList vs, []⟩ a)
    | .call ⟨.builtin .append, args, _⟩ => appKey (args.toList.map (ASt.ev X ⟨0, frOf o.op.operands.toList vs, []⟩))
    | _ => none
  | _ => none
theorem locKey_loc {X : Cfg} {o : Oper} {k : Nat} {p : AV} (h : locKey X o p = some k) : (∀ t a, o.op ≠ .load t a) ∧ isLoc X o k p := by
  cases p <;> try (cases h)
  rename_i vs
  obtain ⟨dst, op, type, pos, after, guard⟩ := o
  have hev : ∀ (x : Operand) (st : Sto), ASt.ev X ⟨0, frOf op.operands.toList vs, st⟩ x = ASt.ev X ⟨0, frOf op.operands.toList vs, []⟩ x := fun x st => by cases x <;> rfl
  unfold locKey at h
  simp only at h
  split at h
  · rename_i t
    refine ⟨fun _ _ e => by simp at e, fun st v st' hv => ?_⟩
    simp only [evOper, h] at hv
    split at hv
    · rename_i ti ht
      split at hv
      · rename_i sz hst
        split at hv
        · rename_i hsz
          cases hv
          exact ⟨some _, rfl, fun st2 e => by simp only [evOper, h, ht, e, hst]; rw [if_pos hsz]; rfl⟩
        · cases hv
      · cases hv
    · cases hv
  · rename_i t l c
    refine ⟨fun _ _ e => by simp at e, fun st v st' hv => ?_⟩
    simp only [evOper, h, hev] at hv
    split at hv
    · rename_i ht hl hc
      split at hv
      · rename_i te he
        split at hv
        · rename_i hcond
          split at hv
          · rename_i sz hst
            split at hv
            · rename_i hsz
              cases hv
              exact ⟨some _, rfl, fun st2 e => by simp only [evOper, h, hev, ht, hl, hc, he, e, hst]; rw [if_pos hcond, if_pos hsz]; rfl⟩
            · cases hv
          · cases hv
        · cases hv
      · cases hv
    · cases hv
  · rename_i t len parts
    split at h
    · cases h
    · rename_i hfz
      refine ⟨fun _ _ e => by simp at e, fun st v st' hv => ?_⟩
      simp only [evOper, h, hev, hfz, false_and, if_false, Bool.false_eq_true] at hv
      split at hv
      · rename_i ht
        split at hv
        · rename_i te he
          split at hv
          · rename_i hcond
            split at hv
            · rename_i sz hst
              split at hv
              · rename_i hsz
                cases hv
                exact ⟨some _, rfl, fun st2 e => by simp only [evOper, h, hev, hfz, ht, he, e, hst, false_and, if_false, Bool.false_eq_true]; rw [if_pos hcond, if_pos hsz]; rfl⟩
              · cases hv
            · cases hv
          · cases hv
        · cases hv
      · cases hv
  · rename_i t a x
    refine ⟨fun _ _ e => by simp at e, fun st v st' hv => ?_⟩
    cases ha : ASt.ev X ⟨0, frOf (Op.store t a x).operands.toList vs, []⟩ a <;> rw [ha] at h <;> simp only [ptrKey] at h <;> try (cases h)
    rename_i g i off
    simp only [evOper, hev, ha, storeAt] at hv
    split at hv
    · rename_i ti ht
      split at hv
      · rename_i sz g' lo xs hst
        split at hv
        · rename_i hcond
          split at hv
          · rename_i y hy
            split at hv
            · rename_i y' hy'
              cases hv
              exact ⟨some _, rfl, fun st2 e => by simp only [evOper, hev, ha, storeAt, ht, e, hst]; rw [if_pos hcond]; simp only [hy, hy']; rfl⟩
            · cases hv
          · cases hv
        · cases hv
      · cases hv
    · cases hv
  · rename_i args ats
    refine ⟨fun _ _ e => by simp at e, fun st v st' hv => ?_⟩
    have hm : ∀ st : Sto, args.toList.map (ASt.ev X ⟨0, frOf (Op.call ⟨.builtin .append, args, ats⟩).operands.toList vs, st⟩) = args.toList.map (ASt.ev X ⟨0, frOf (Op.call ⟨.builtin .append, args, ats⟩).operands.toList vs, []⟩) := fun st => List.map_congr_left fun x _ => hev x st
    simp only [evOper, hm] at hv
    generalize hargs : args.toList.map (ASt.ev X ⟨0, frOf (Op.call ⟨.builtin .append, args, ats⟩).operands.toList vs, []⟩) = avs at h hv
    unfold appKey at h
    split at h
    · rename_i b g off len y
      split at h
      · rename_i hy
        cases h
        have hel : ∀ st st2 : Sto, elemsOf st y = elemsOf st2 y := fun st st2 => by cases y <;> first | rfl | cases hy
        have happ : ∀ {esz bytes : Nat} {ys : List AV} {v : AV} {st st' : Sto}, appendTo esz bytes st (.sr k g off len) ys = some (v, st') → ∃ b, st' = setO st k b ∧ ∀ st2 : Sto, st2[k]? = st[k]? → appendTo esz bytes st2 (.sr k g off len) ys = some (v, setO st2 k b) := by
          intro esz bytes ys v st st' h
          simp only [appendTo] at h
          split at h
          · rename_i sz g' lo xs hst
            split at h
            · rename_i hcond
              cases h
              exact ⟨some _, rfl, fun st2 e => by simp only [appendTo, e, hst]; rw [if_pos hcond]; rfl⟩
            · cases h
          · cases h
        simp only [evOper, hm, hargs]
        generalize ats.toList = as at hv ⊢
        rcases as with _ | ⟨t, _ | ⟨t2, _ | ⟨t3, as⟩⟩⟩ <;> simp only [evBuiltin] at hv <;> try (cases hv)
        simp only [evBuiltin]
        split at hv
        · rename_i ht ht2
          split at hv
          · rename_i te he
            split at hv
            · rename_i hsz
              obtain ⟨b, h1, h2⟩ := happ hv
              exact ⟨b, h1, fun st2 e => by rw [if_pos hsz]; exact h2 st2 e⟩
            · cases hv
          · cases hv
        · rename_i ht ht2
          split at hv
          · rename_i te ys he hys
            obtain ⟨b, h1, h2⟩ := happ hv
            exact ⟨b, h1, fun st2 e => by simp only [hel st2 st, hys, he]; exact h2 st2 e⟩
          · cases hv
        · rename_i ht ht2
          split at hv
          · rename_i te k n he
            split at hv
            · rename_i hn
              obtain ⟨b, h1, h2⟩ := happ hv
              exact ⟨b, h1, fun st2 e => by rw [if_pos hn]; exact h2 st2 e⟩
            · cases hv
          · cases hv
        · cases hv
      · cases h
    · cases h
  · cases h
/-- what is asked of those that may come before it or behind it, for the evaluator -/
def steadyKL (X : Cfg) (ops : Array Oper) (tab : List (List Nat)) (i k : Nat) : List (Nat × AV) → Prop
  | [] => True
  | (j, p) :: r => (unord tab i j = true → match ops[j]? with | some o => (match o.op with | .load _ _ => farP k p | _ => (match locKey X o p with | some kj => kj ≠ k | none => blind X o p)) | none => True) ∧ steadyKL X ops tab i k r
theorem steadyKL_get {X : Cfg} {ops : Array Oper} {tab : List (List Nat)} {i m : Nat} {j : Nat} {p : AV} {o : Oper} (ho : ops[j]? = some o) (hu : unord tab i j = true) : ∀ {ad : List (Nat × AV)}, steadyKL X ops tab i m ad → ad.lookup j = some p → match o.op with | .load _ _ => farP m p | _ => (match locKey X o p with | some kj => kj ≠ m | none => blind X o p)
  | [], _, h => by cases h
  | (k, q) :: r, h, hl => by
    rw [List.lookup_cons] at hl
    by_cases hk : j = k
    · subst hk
      simp only [beq_self_eq_true] at hl
      cases hl
      have := h.1 hu
      rw [ho] at this
      exact this
    · have : (j == k) = false := by simpa using hk
      rw [this] at hl
      exact steadyKL_get ho hu h.2 hl
theorem steadyK_of {X : Cfg} {ops : Array Oper} {tab : List (List Nat)} {ad : List (Nat × AV)} {i m : Nat} (h : barrierL ops tab ad i = true) (h2 : steadyKL X ops tab i m ad) : steadyK X ops tab ad i m := fun j o ho hu => by
  simp only [barrierL, List.all_eq_true, List.mem_range] at h
  have := h j (Array.getElem?_eq_some_iff.1 ho).1
  rw [ho, hu] at this
  simp only [Bool.not_true, Bool.false_or, Bool.or_eq_true] at this
  rcases this with this | this
  · exact .inl this
  · obtain ⟨p, hp⟩ := Option.isSome_iff_exists.1 this
    have hg := steadyKL_get ho hu h2 hp
    split at hg
    · rename_i t a he
      exact .inr (.inl ⟨t, a, p, he, hp, hg⟩)
    · rename_i hn
      split at hg
      · rename_i kj hk
        exact .inr (.inr (.inr ⟨kj, hg, p, hp, locKey_loc hk⟩))
      · exact .inr (.inr (.inl ⟨p, hn, hp, hg⟩))

/-- operations one behind the other, of which only those turn the store that no other one sees -/
def Calm (X : Cfg) (ops : Array Oper) (tab : List (List Nat)) (ad : List (Nat × AV)) : List Nat → ASt → ASt → Prop
  | [], s, s' => s = s'
  | i :: l, s, s' => ∃ o s1, ops[i]? = some o ∧ adOk X ad i o s ∧ step1 X (gdOf ops.toList) s o = some s1 ∧ (s1.st = s.st ∨ steady X ops tab ad i s.st s1.st ∨ ∃ k, locAt X ad i o k ∧ steadyK X ops tab ad i k) ∧ Calm X ops tab ad l s1 s'
theorem Calm.ev {X : Cfg} {ops : Array Oper} {tab : List (List Nat)} {ad : List (Nat × AV)} : ∀ {l : List Nat} {s s' : ASt}, Calm X ops tab ad l s s' → evIdx X ops.toList l s = some s'
  | [], _, _, h => by cases h; rfl
  | i :: l, s, s', ⟨o, s1, ho, _, h1, _, h2⟩ => by
    simp only [evIdx, Array.getElem?_toList, ho, h1]
    exact h2.ev

theorem drawOK_spec {ops : Array Oper} {tab : List (List Nat)} (h : drawOK ops tab = true) {i : Nat} {o : Oper} (ho : ops[i]? = some o) :
    (∀ d ∈ depsOf o, d < i ∧ d ∈ tab.getD i [] ∧ ∀ k ∈ tab.getD d [], k ∈ tab.getD i []) ∧ (∀ j ∈ tab.getD i [], j < i ∧ (j ∈ depsOf o ∨ ∃ d ∈ depsOf o, j ∈ tab.getD d [])) ∧
    ∀ j p, j < i → j ∉ tab.getD i [] → ops[j]? = some p → p.apart ops o = true := by
  simp only [drawOK, Bool.and_eq_true, List.all_eq_true] at h
  have h1 := h.2 i (List.mem_range.2 (Array.getElem?_eq_some_iff.1 ho).1)
  rw [ho] at h1
  simp only [Bool.and_eq_true, List.all_eq_true, decide_eq_true_eq, List.contains_iff_mem, Bool.or_eq_true, List.any_eq_true, List.mem_range] at h1
  obtain ⟨⟨a, b⟩, c⟩ := h1
  refine ⟨fun d hd => ?_, fun j hj => b j hj, fun j p hj hn hp => ?_⟩
  · exact ⟨(a d hd).1.1, (a d hd).1.2, (a d hd).2⟩
  · rcases c j hj with h | h
    · exact absurd h hn
    · rw [hp] at h; exact h

theorem Calm.move {X : Cfg} {ops : Array Oper} {tab : List (List Nat)} {ad : List (Nat × AV)} (h : drawOK ops tab = true) {i : Nat} {post : List Nat} : ∀ {pre : List Nat} {s s' : ASt}, (∀ j ∈ pre, j < i ∧ j ∉ tab.getD i []) → Calm X ops tab ad (pre ++ i :: post) s s' → Calm X ops tab ad (i :: (pre ++ post)) s s'
  | [], _, _, _, hc => hc
  | j :: pre, s, s', hp, hc => by
    obtain ⟨oj, s1, ho, ha1, h1, hb, h2⟩ := hc
    obtain ⟨oi, s2, hoi, ha2, h3, hb', h4⟩ := Calm.move h (fun k hk => hp k (by simp [hk])) h2
    obtain ⟨hlt, hn⟩ := hp j (by simp)
    have hin : i < ops.size := (Array.getElem?_eq_some_iff.1 hoi).1
    have hnj : i ∉ tab.getD j [] := fun hm => by
      have := ((drawOK_spec h ho).2.1 i hm).1
      omega
    have hu1 : unord tab j i = true := by
      simp only [unord, Bool.not_eq_eq_eq_not, Bool.not_true, Bool.or_eq_false_iff, beq_eq_false_iff_ne]
      exact ⟨⟨by omega, by simpa using hnj⟩, by simpa using hn⟩
    have hu2 : unord tab i j = true := by
      simp only [unord, Bool.not_eq_eq_eq_not, Bool.not_true, Bool.or_eq_false_iff, beq_eq_false_iff_ne]
      exact ⟨⟨by omega, by simpa using hn⟩, by simpa using hnj⟩
    have hap := (drawOK_spec h hoi).2.2 j oj hlt hn ho
    obtain ⟨pa, pb, pc⟩ := Oper.apart_spec hap
    have ha2' : adOk X ad i oi s := ha2.congr (ops := ops) fun t ht => (step1_fr h1 t (fun e => pa t e ht)).symm
    have ha1' : ∀ {s1'}, step1 X (gdOf ops.toList) s oi = some s1' → adOk X ad j oj s1' := fun g1 => ha1.congr (ops := ops) fun t ht => step1_fr g1 t (fun e => pc t e ht)
    -- the classical cases
    have old : ∀ (e1 : s1.st = s.st ∨ Calm1 X s1 oi s1.st s.st) (e2 : s2.st = s1.st ∨ (s1.st = s.st ∧ Calm1 X s oj s1.st s2.st)), ∃ s1', step1 X (gdOf ops.toList) s oi = some s1' ∧ step1 X (gdOf ops.toList) s1' oj = some s2 ∧ (s2.st = s1.st → s1'.st = s.st) ∧ (s1.st = s.st → s2.st = s1'.st) := fun e1 e2 => step_swap' hap h1 e1 h3 e2
    rcases hb with hb | hb | ⟨kj, hrj, hsj⟩
    · rcases hb' with hb' | hb' | ⟨ki, hri, hsi⟩
      · obtain ⟨s1', g1, g3, g4, g5⟩ := old (.inl hb) (.inl hb')
        exact ⟨oi, s1', hoi, ha2', g1, .inl (g4 hb'), oj, s2, ho, ha1' g1, g3, .inl (g5 hb), h4⟩
      · obtain ⟨s1', g1, g3, g4, g5⟩ := old (.inl hb) (.inr ⟨hb, hb'.calm ho hu2 ha1⟩)
        refine ⟨oi, s1', hoi, ha2', g1, .inr (.inl ?_), oj, s2, ho, ha1' g1, g3, .inl (g5 hb), h4⟩
        rw [← hb, ← g5 hb]
        exact hb'
      · rcases hsi.calm (s := s) ho hu2 ha1 with hc | ⟨kj, hne, hrj⟩
        · obtain ⟨r, e⟩ := (hri.step (ops := ops) ha2).st h3
          obtain ⟨s1', g1, g3, g4, g5⟩ := old (.inl hb) (.inr ⟨hb, by rw [e]; exact hc _ _⟩)
          exact ⟨oi, s1', hoi, ha2', g1, .inr (.inr ⟨ki, hri, hsi⟩), oj, s2, ho, ha1' g1, g3, .inl (g5 hb), h4⟩
        · obtain ⟨s1', g1, g3, g4, g5⟩ := loc_swap hap (hrj.step (ops := ops) ha1) (hri.step (ops := ops) ha2') hne h1 h3
          exact ⟨oi, s1', hoi, ha2', g1, .inr (.inr ⟨ki, hri, hsi⟩), oj, s2, ho, ha1' g1, g3, .inl (g5 hb), h4⟩
    · -- the first one turned the store
      have hci : Calm1 X s1 oi s.st s1.st := hb.calm hoi hu1 ha2
      have k2 : s2.st = s1.st := step1_calm_st hci h3
      obtain ⟨s1', g1, g3, g4, g5⟩ := old (.inr hci.symm) (.inl k2)
      have k3 := g4 k2
      refine ⟨oi, s1', hoi, ha2', g1, .inl k3, oj, s2, ho, ha1' g1, g3, .inr (.inl ?_), h4⟩
      rw [k3, k2]
      exact hb
    · -- the first one turned a block alone
      obtain ⟨r, e⟩ := (hrj.step (ops := ops) ha1).st h1
      rcases hsj.calm (s := s1) hoi hu1 ha2 with hc | ⟨ki, hne, hri⟩
      · have hci : Calm1 X s1 oi s.st s1.st := by
          rw [e]
          exact hc _ _
        have k2 : s2.st = s1.st := step1_calm_st hci h3
        obtain ⟨s1', g1, g3, g4, g5⟩ := old (.inr hci.symm) (.inl k2)
        exact ⟨oi, s1', hoi, ha2', g1, .inl (g4 k2), oj, s2, ho, ha1' g1, g3, .inr (.inr ⟨kj, hrj, hsj⟩), h4⟩
      · obtain ⟨s1', g1, g3, g4, g5⟩ := loc_swap hap (hrj.step (ops := ops) ha1) (hri.step (ops := ops) ha2') (fun e => hne e.symm) h1 h3
        refine ⟨oi, s1', hoi, ha2', g1, ?_, oj, s2, ho, ha1' g1, g3, .inr (.inr ⟨kj, hrj, hsj⟩), h4⟩
        rcases hb' with hb' | hb' | hb'
        · exact .inl (g4 hb')
        · have k1 : s1.st = s.st := step1_stay (hb'.calm ho hu2 ha1) h1
          right; left
          rw [← k1, ← g5 k1]
          exact hb'
        · exact .inr (.inr hb')

/-- what is not yet listed -/
def rem (n : Nat) (listed : Array Bool) : List Nat := (List.range n).filter fun i => !listed.getD i true

theorem rem_split {n i : Nat} {listed : Array Bool} (hi : i < n) (hs : listed.size = n) (hl : listed.getD i true = false) :
    ∃ pre post, rem n listed = pre ++ i :: post ∧ rem n (listed.setIfInBounds i true) = pre ++ post ∧ ∀ j ∈ pre, j < i ∧ listed.getD j true = false := by
  have e : List.range n = List.range' 0 i ++ i :: List.range' (i + 1) (n - i - 1) := by
    rw [← List.range'_succ, List.range_eq_range']
    have : n = i + (n - i - 1 + 1) := by omega
    conv => lhs; rw [this]
    rw [← List.range'_append_1]
    simp
  have g : ∀ j, (listed.setIfInBounds i true).getD j true = if i = j then true else listed.getD j true := fun j => by
    simp only [Array.getD_eq_getD_getElem?, Array.getElem?_setIfInBounds]
    split
    · rename_i hij
      rw [hs, if_pos (by omega)]
      rfl
    · rfl
  refine ⟨(List.range' 0 i).filter fun j => !listed.getD j true, (List.range' (i + 1) (n - i - 1)).filter fun j => !listed.getD j true, ?_, ?_, fun j hj => ?_⟩
  · rw [rem, e, List.filter_append, List.filter_cons, hl]; rfl
  · rw [rem, e, List.filter_append, List.filter_cons, g i, if_pos rfl]
    congr 1
    · exact List.filter_congr fun j hj => by
        rw [g j, if_neg]
        simp at hj
        omega
    · exact List.filter_congr fun j hj => by
        rw [g j, if_neg]
        simp [List.mem_range'] at hj
        omega
  · simp only [List.mem_filter, List.mem_range'_1, Bool.not_eq_eq_eq_not, Bool.not_true] at hj
    exact ⟨by omega, hj.2⟩

theorem Calm.go {X : Cfg} {ops : Array Oper} {tab : List (List Nat)} {ad : List (Nat × AV)} (h : drawOK ops tab = true) {s' : ASt} : ∀ (fuel t : Nat) (listed : Array Bool) (s : ASt), listed.size = ops.size → (rem ops.size listed).length ≤ fuel →
    (∀ i, listed.getD i true = true → ∀ k ∈ tab.getD i [], listed.getD k true = true) → Calm X ops tab ad (rem ops.size listed) s s' → evIdx X ops.toList (Region.linearise.go .any ops fuel t listed []) s = some s' := by
  intro fuel
  induction fuel with
  | zero =>
    intro t listed s _ hl _ hc
    have : rem ops.size listed = [] := List.eq_nil_of_length_eq_zero (by omega)
    rw [this] at hc
    cases hc
    rfl
  | succ fuel ih =>
    intro t listed s hsz hl hcl hc
    have hready : ∀ i, i ∈ Region.ready .any ops listed ↔ i < ops.size ∧ listed.getD i true = false ∧ ∃ o, ops[i]? = some o ∧ ∀ d ∈ depsOf o, listed.getD d false = true := by
      intro i
      simp only [Region.ready, List.mem_filter, List.mem_range, Bool.and_eq_true, Bool.not_eq_eq_eq_not, Bool.not_true]
      constructor
      · rintro ⟨h1, h2, h3⟩
        refine ⟨h1, h2, ops[i], by simp [h1], fun d hd => ?_⟩
        rw [show ops[i]? = some ops[i] by simp [h1]] at h3
        simp only [Option.map_some, Option.getD_some, Array.all_eq_true', Bool.or_eq_true, Bool.not_eq_eq_eq_not, Bool.not_true] at h3
        simp only [depsOf, List.mem_map, List.mem_filter] at hd
        obtain ⟨e, ⟨he, hb⟩, rfl⟩ := hd
        rcases h3 e (Array.mem_def.2 he) with h | h
        · rw [h] at hb; cases hb
        · exact h
      · rintro ⟨h1, h2, o, h3, h4⟩
        refine ⟨h1, h2, ?_⟩
        rw [h3]
        simp only [Option.map_some, Option.getD_some, Array.all_eq_true', Bool.or_eq_true, Bool.not_eq_eq_eq_not, Bool.not_true]
        intro e he
        cases hb : Region.binds .any e with
        | false => exact .inl rfl
        | true => exact .inr (h4 e.on (by simp only [depsOf, List.mem_map, List.mem_filter]; exact ⟨e, ⟨Array.mem_def.1 he, hb⟩, rfl⟩))
    simp only [Region.linearise.go]
    change evIdx X ops.toList (match (Region.ready .any ops listed)[t % (Region.ready .any ops listed).length]? with
      | some i => Region.linearise.go .any ops fuel (t / (Region.ready .any ops listed).length) (listed.setIfInBounds i true) [i]
      | none => [].reverse) s = some s'
    cases hi : (Region.ready .any ops listed)[t % (Region.ready .any ops listed).length]? with
    | none =>
      have hnil : Region.ready .any ops listed = [] := by
        cases hr : Region.ready .any ops listed with
        | nil => rfl
        | cons x xs =>
          rw [hr] at hi
          have hlt : t % (x :: xs).length < (x :: xs).length := Nat.mod_lt _ (by simp)
          simp at hi
          simp at hlt
          omega
      have hrem : rem ops.size listed = [] := by
        cases hr : rem ops.size listed with
        | nil => rfl
        | cons i0 r =>
          exfalso
          have hmem : i0 ∈ rem ops.size listed := by rw [hr]; simp
          have hmem' := hmem
          simp only [rem, List.mem_filter, List.mem_range, Bool.not_eq_eq_eq_not, Bool.not_true] at hmem'
          have hsort : (rem ops.size listed).Pairwise (· < ·) := List.Pairwise.filter _ (List.pairwise_lt_range)
          have : i0 ∈ Region.ready .any ops listed := by
            rw [hready]
            refine ⟨hmem'.1, hmem'.2, ops[i0]'hmem'.1, by simp [hmem'.1], fun d hd => ?_⟩
            have hdi := ((drawOK_spec h (show ops[i0]? = some (ops[i0]'hmem'.1) by simp [hmem'.1])).1 d hd).1
            cases hld : listed.getD d false with
            | true => rfl
            | false =>
              exfalso
              have hlt : d < listed.size := by omega
              have hd2 : listed.getD d true = false := by
                simp only [Array.getD_eq_getD_getElem?, Array.getElem?_eq_getElem hlt, Option.getD_some] at hld ⊢
                exact hld
              have : d ∈ rem ops.size listed := by
                simp only [rem, List.mem_filter, List.mem_range, Bool.not_eq_eq_eq_not, Bool.not_true]
                exact ⟨by omega, hd2⟩
              rw [hr] at this hsort
              rcases List.mem_cons.1 this with h | h
              · omega
              · have := (List.pairwise_cons.1 hsort).1 d h; omega
          rw [hnil] at this
          cases this
      rw [hrem] at hc
      cases hc
      rfl
    | some i =>
      simp only []
      rw [linearise_go_acc, List.reverse_singleton, List.singleton_append]
      obtain ⟨h1, h2, o, h3, h4⟩ := (hready i).1 (List.mem_of_getElem? hi)
      obtain ⟨pre, post, e1, e2, hpre⟩ := rem_split (n := ops.size) h1 hsz h2
      rw [e1] at hc hl
      have hanc : ∀ k ∈ tab.getD i [], listed.getD k true = true := fun k hk => by
        rcases ((drawOK_spec h h3).2.1 k hk).2 with hd | ⟨d, hd, hk'⟩
        · have := h4 k hd
          simp only [Array.getD_eq_getD_getElem?] at this ⊢
          cases hq : listed[k]? with
          | none => rfl
          | some b => rw [hq] at this; simpa using this
        · have := h4 d hd
          refine hcl d ?_ k hk'
          simp only [Array.getD_eq_getD_getElem?] at this ⊢
          cases hq : listed[d]? with
          | none => rfl
          | some b => rw [hq] at this; simpa using this
      have hc' := Calm.move h (fun j hj => ⟨(hpre j hj).1, fun hm => by
        have := hanc j hm
        rw [(hpre j hj).2] at this
        cases this⟩) hc
      obtain ⟨o', s1, ho', _, hs1, _, hc2⟩ := hc'
      rw [h3] at ho'
      cases ho'
      simp only [evIdx, Array.getElem?_toList, h3, hs1]
      refine ih _ _ s1 (by simp [hsz]) (by rw [e2]; simp at hl ⊢; omega) (fun j hj k hk => ?_) (by rw [e2]; exact hc2)
      have g : ∀ j, (listed.setIfInBounds i true).getD j true = if i = j then true else listed.getD j true := fun j => by
        simp only [Array.getD_eq_getD_getElem?, Array.getElem?_setIfInBounds]
        split
        · rename_i hij
          rw [hsz, if_pos (by omega)]
          rfl
        · rfl
      rw [g] at hj ⊢
      split
      · rfl
      · split at hj
        · rename_i hij
          subst hij
          exact hanc k hk
        · exact hcl j hj k hk

/-- a region that draws, for the evaluator -/
def drawP (X : Cfg) (ops : Array Oper) (tab : List (List Nat)) (ad : List (Nat × AV)) : List Oper → Nat → ASt → (ASt → Prop) → Prop
  | [], _, s, K => K s
  | o :: r, i, s, K => ∃ s1, adOk X ad i o s ∧ step1 X (gdOf ops.toList) s o = some s1 ∧ (s1.st = s.st ∨ steady X ops tab ad i s.st s1.st ∨ ∃ k, locAt X ad i o k ∧ steadyK X ops tab ad i k) ∧ drawP X ops tab ad r (i + 1) s1 K

theorem drawP_calm {X : Cfg} {ops : Array Oper} {tab : List (List Nat)} {ad : List (Nat × AV)} {K : ASt → Prop} : ∀ (l : List Oper) (k : Nat) (s : ASt), (∀ j, l[j]? = ops[k + j]?) → drawP X ops tab ad l k s K → ∃ s', Calm X ops tab ad (List.range' k l.length) s s' ∧ K s'
  | [], k, s, _, h => ⟨s, rfl, h⟩
  | o :: l, k, s, hl, ⟨s1, h0', h1, h2, h3⟩ => by
    have h0 : ops[k]? = some o := by simpa using (hl 0).symm
    obtain ⟨s', h4, h5⟩ := drawP_calm l (k + 1) s1 (fun j => by have := hl (j + 1); simpa [Nat.add_assoc, Nat.add_comm 1 j] using this) h3
    exact ⟨s', ⟨o, s1, h0, h0', h1, h2, h4⟩, h5⟩

theorem drawP_sound {X : Cfg} {ops : Array Oper} {tab : List (List Nat)} {ad : List (Nat × AV)} (hok : drawOK ops tab = true) {s : ASt} {K : ASt → Prop} (h : drawP X ops tab ad ops.toList 0 s K) :
    ∃ s', (∀ t, evIdx X ops.toList (Region.schedule true ops t) s = some s') ∧ K s' := by
  obtain ⟨s', h1, h2⟩ := drawP_calm ops.toList 0 s (by simp) h
  refine ⟨s', fun t => ?_, h2⟩
  simp only [Region.schedule, Bool.true_or, if_true, Region.linearise]
  have hrem : rem ops.size (Array.replicate ops.size false) = List.range ops.size := by
    rw [rem, List.filter_eq_self]
    intro i hi
    simp only [List.mem_range] at hi
    simp [Array.getD, hi]
  refine Calm.go (ad := ad) hok _ _ _ _ (by simp) (by rw [hrem]; simp) (fun i hi k hk => ?_) ?_
  · rcases Nat.lt_or_ge i ops.size with hlt | hge
    · simp [Array.getD, hlt] at hi
    · have ht : tab.length ≤ ops.size := by
        simp only [drawOK, Bool.and_eq_true, decide_eq_true_eq] at hok
        exact hok.1
      rw [List.getD_eq_getElem?_getD, List.getElem?_eq_none (by omega)] at hk
      cases hk
  · rw [hrem, List.range_eq_range', ← Array.length_toList]
    exact h1
end Go.Proofs.YtgpkochbmfhmdaaGreatDoor.Lift
namespace Go.Proofs.YtgpkochbmfhmdaaGreatDoor.Lift
open Go

/-- what it takes for a value to keep what it stands for -/
structure ExtR (G H : Gh) : Prop where
  shape : ∀ (blk : Nat) (c : Array Value) e fz, G.w.heap[blk]? = some (.cells c e fz) → ∃ c', H.w.heap[blk]? = some (.cells c' e fz) ∧ c'.size = c.size
  frozen : ∀ b o, G.φ b o → H.φ b o
  cell : ∀ b o, G.φ b o → ∀ v, G.w.cell? ⟨b, o, none⟩ = some v → H.w.cell? ⟨b, o, none⟩ = some v
  fmap : ∀ (b : Nat) ents ck, G.φ b 0 → G.w.heap[b]? = some (.map ents ck) → H.w.heap[b]? = some (.map ents ck)
  id : ∀ (b : Nat) (k : ABlk), G.σ[b]? = some k → ∃ k' : ABlk, H.σ[b]? = some k' ∧ k.gen ≤ k'.gen ∧ k'.sz = k.sz
  at_ : ∀ (b : Nat) (k : ABlk) (g : Nat), G.σ[b]? = some k → g ≤ k.gen → H.ρ b g = G.ρ b g

theorem HasId.extR {G H : Gh} (x : ExtR G H) {b g : Nat} {sz : Option Nat} (h : HasId G b g sz) : HasId H b g sz := by
  obtain ⟨k, hk, hg, hs⟩ := h
  obtain ⟨k', hk', hg', hs'⟩ := x.id b k hk
  exact ⟨k', hk', Nat.le_trans hg hg', hs'.trans hs⟩
theorem HasId.rhoR {G H : Gh} (x : ExtR G H) {b g : Nat} {sz : Option Nat} (h : HasId G b g sz) : H.ρ b g = G.ρ b g := by
  obtain ⟨k, hk, hg, _⟩ := h
  exact x.at_ b k g hk hg

mutual
theorem Rep.extR {G H : Gh} (x : ExtR G H) {a : AV} {v : Value} (h : Rep G a v) : Rep H a v := by
  match h with
  | .undef v => exact .undef v
  | .bool b => exact .bool b
  | .int k n => exact .int k n
  | .str s => exact .str s
  | .nilp => exact .nilp
  | .ptr h hr => exact .ptr (h.extR x) ((h.rhoR x).trans hr)
  | .rp h => exact .rp (RepCells.extR x h)
  | .snil => exact .snil
  | .sl0 a cap h => exact .sl0 a cap h
  | .sle a cap => exact .sle a cap
  | .sl hl h => exact .sl hl (RepElems.extR x h)
  | .sr0 h hr => exact .sr0 (h.extR x) ((h.rhoR x).trans hr)
  | .sr h hr hl hb hc =>
    obtain ⟨c', hb', hs⟩ := x.shape _ _ _ _ hb
    exact .sr (h.extR x) ((h.rhoR x).trans hr) hl hb' (by rw [hs]; exact hc)
  | .srE h hr ho => exact .srE (h.extR x) ((h.rhoR x).trans hr) ho
  | .fn h1 h2 => exact .fn (RepL.extR x h1) (RepL.extR x h2)
  | .nilf => exact .nilf
  | .nilm => exact .nilm
  | .mv hb hf h => exact .mv (x.fmap _ _ _ hf hb) (x.frozen _ _ hf) (RepE.extR x h)
  | .mv0 => exact .mv0
  | .mr h hr => exact .mr (h.extR x) ((h.rhoR x).trans hr)
  | .agg h => exact .agg (RepL.extR x h)
  | .tup h => exact .tup (RepL.extR x h)
theorem RepL.extR {G H : Gh} (x : ExtR G H) {a : List AV} {v : List Value} (h : RepL G a v) : RepL H a v := by
  match h with
  | .nil => exact .nil
  | .cons h t => exact .cons (Rep.extR x h) (RepL.extR x t)
theorem RepCells.extR {G H : Gh} (x : ExtR G H) {a : List AV} {b o : Nat} (h : RepCells G a b o) : RepCells H a b o := by
  match h with
  | .nil _ _ => exact .nil _ _
  | .cons hf hc h t => exact .cons (x.frozen _ _ hf) (x.cell _ _ hf _ hc) (Rep.extR x h) (RepCells.extR x t)
theorem RepElems.extR {G H : Gh} (x : ExtR G H) {a : List AV} {b o sz : Nat} (h : RepElems G a b o sz) : RepElems H a b o sz := by
  match h with
  | .nil _ _ _ => exact .nil _ _ _
  | .cons hs h t => exact .cons hs (RepCells.extR x h) (RepElems.extR x t)
theorem RepE.extR {G H : Gh} (x : ExtR G H) {a : List (AV × AV)} {v : List MapEntry} (h : RepE G a v) : RepE H a v := by
  match h with
  | .nil => exact .nil
  | .cons hk h1 h2 t => exact .cons hk (Rep.extR x h1) (Rep.extR x h2) (RepE.extR x t)
end


/-- the cells that the store's blocks hold -/
def Held (G : Gh) (b o : Nat) : Prop :=
  (∃ b' sz g lo xs, G.σ[b']? = some (.row sz g lo xs) ∧ G.ρ b' g = some b ∧ o < xs.length * sz)

theorem Held.owned {G : Gh} {b o : Nat} (h : Held G b o) : Owned G b := by
  obtain ⟨b', sz, g, lo, xs, h1, h2, _⟩ := h
  exact ⟨b', _, h1, rfl, h2⟩

theorem elems_of_row {G H : Gh} (hw : H.w = G.w) {xs : List AV} {c : Array Value} {sz blk : Nat} {e : TypeId} {fz : Nat × Nat} (hb : G.w.heap[blk]? = some (.cells c e fz)) (hr : RowAt G xs c sz) {ys : List AV} {off : Nat}
    (hφ : ∀ o, o < xs.length * sz → H.φ blk o) (hy : ∀ (i : Nat) (y : AV), ys[i]? = some y → ∃ x, xs[off + i]? = some x ∧ y.cells.length = x.cells.length ∧ ∀ (j : Nat) (p q : AV) (v : Value), x.cells[j]? = some p → y.cells[j]? = some q → Rep G p v → Rep H q v) :
    RepElems H ys blk (off * sz) sz := by
  refine RepElems.of_get fun i y hyi => ?_
  obtain ⟨x, hx, hl, hc⟩ := hy i y hyi
  obtain ⟨h1, h2⟩ := hr (off + i) x hx
  refine ⟨hl.trans h1, RepCells.of_get fun j q hq => ?_⟩
  have hjlt : j < x.cells.length := by
    have := (List.getElem?_eq_some_iff.1 hq).1
    omega
  obtain ⟨u, h3, h4⟩ := h2 j x.cells[j] (by simp [hjlt])
  have hlt : off + i < xs.length := (List.getElem?_eq_some_iff.1 hx).1
  have hlt2 : (off + i) * sz + j < xs.length * sz := by
    have : (off + i + 1) * sz ≤ xs.length * sz := Nat.mul_le_mul_right _ hlt
    rw [Nat.add_mul, Nat.one_mul] at this
    omega
  have e1 : off * sz + i * sz + j = (off + i) * sz + j := by rw [Nat.add_mul]
  refine ⟨u, ?_, ?_, hc j _ q u (by simp [hjlt]) hq h4⟩
  · rw [e1]; exact hφ _ hlt2
  · rw [e1, hw]
    simp only [World.cell?, hb]
    simpa using h3

/-- what a frozen value needs to keep what it stands for -/
structure ExtF (G H : Gh) : Prop where
  frozen : ∀ b o, G.φ b o → H.φ b o
  cell : ∀ b o, G.φ b o → ∀ v, G.w.cell? ⟨b, o, none⟩ = some v → H.w.cell? ⟨b, o, none⟩ = some v
  fmap : ∀ (b : Nat) ents ck, G.φ b 0 → G.w.heap[b]? = some (.map ents ck) → H.w.heap[b]? = some (.map ents ck)

theorem fz_cells {x : AV} (h : fz x = true) : fzL x.cells = true := by
  cases x <;> simp_all [AV.cells, fz, fzL]

mutual
theorem fz_rep {G H : Gh} (x : ExtF G H) {a : AV} {v : Value} (hz : fz a = true) (h : Rep G a v) : Rep H a v := by
  match h with
  | .undef v => exact .undef v
  | .bool b => exact .bool b
  | .int k n => exact .int k n
  | .str s => exact .str s
  | .nilp => exact .nilp
  | .ptr h hr => cases hz
  | .rp h => exact .rp (fz_repCells x (fz_cells (by simpa [fz] using hz)) h)
  | .snil => exact .snil
  | .sl0 a cap h => exact .sl0 a cap h
  | .sle a cap => exact .sle a cap
  | .sl hl h => exact .sl hl (fz_repElems x (by simpa [fz] using hz) h)
  | .sr0 h hr => cases hz
  | .sr h hr hl hb hc => cases hz
  | .srE h hr ho => cases hz
  | .fn h1 h2 =>
    simp only [fz, Bool.and_eq_true] at hz
    exact .fn (fz_repL x hz.1 h1) (fz_repL x hz.2 h2)
  | .nilf => exact .nilf
  | .nilm => exact .nilm
  | .mv hb hf h => exact .mv (x.fmap _ _ _ hf hb) (x.frozen _ _ hf) (fz_repE x (by simpa [fz] using hz) h)
  | .mv0 => exact .mv0
  | .mr h hr => cases hz
  | .agg h => exact .agg (fz_repL x (by simpa [fz] using hz) h)
  | .tup h => exact .tup (fz_repL x (by simpa [fz] using hz) h)
theorem fz_repL {G H : Gh} (x : ExtF G H) {a : List AV} {v : List Value} (hz : fzL a = true) (h : RepL G a v) : RepL H a v := by
  match h with
  | .nil => exact .nil
  | .cons h t =>
    simp only [fzL, Bool.and_eq_true] at hz
    exact .cons (fz_rep x hz.1 h) (fz_repL x hz.2 t)
theorem fz_repCells {G H : Gh} (x : ExtF G H) {a : List AV} {b o : Nat} (hz : fzL a = true) (h : RepCells G a b o) : RepCells H a b o := by
  match h with
  | .nil _ _ => exact .nil _ _
  | .cons hf hc h t =>
    simp only [fzL, Bool.and_eq_true] at hz
    exact .cons (x.frozen _ _ hf) (x.cell _ _ hf _ hc) (fz_rep x hz.1 h) (fz_repCells x hz.2 t)
theorem fz_repElems {G H : Gh} (x : ExtF G H) {a : List AV} {b o sz : Nat} (hz : fzL a = true) (h : RepElems G a b o sz) : RepElems H a b o sz := by
  match h with
  | .nil _ _ _ => exact .nil _ _ _
  | .cons hs h t =>
    simp only [fzL, Bool.and_eq_true] at hz
    exact .cons hs (fz_repCells x (fz_cells hz.1) h) (fz_repElems x hz.2 t)
theorem fz_repE {G H : Gh} (x : ExtF G H) {a : List (AV × AV)} {v : List MapEntry} (hz : fzE a = true) (h : RepE G a v) : RepE H a v := by
  match h with
  | .nil => exact .nil
  | .cons hk h1 h2 t =>
    simp only [fzE, Bool.and_eq_true] at hz
    exact .cons hk (fz_rep x hz.1.1 h1) (fz_rep x hz.1.2 h2) (fz_repE x hz.2 t)
end

theorem mapO_get {α β : Type} {f : α → Option β} : ∀ {l : List α} {r : List β}, mapO f l = some r → r.length = l.length ∧ ∀ (i : Nat) y, r[i]? = some y → ∃ x, l[i]? = some x ∧ f x = some y
  | [], r, h => by cases h; exact ⟨rfl, fun i y h => by simp at h⟩
  | x :: l, r, h => by
    simp only [mapO] at h
    split at h
    · rename_i a b ha hb
      cases h
      obtain ⟨h1, h2⟩ := mapO_get hb
      refine ⟨by simp [h1], fun i y hy => ?_⟩
      cases i with
      | zero => simp at hy; subst hy; exact ⟨x, rfl, ha⟩
      | succ i => simpa using h2 i y (by simpa using hy)
    · cases h

theorem mapO_repL {G H : Gh} {f : AV → Option AV} {l r : List AV} {vs : List Value} (h : mapO f l = some r) (hf : ∀ x y v, f x = some y → Rep G x v → Rep H y v) (hr : RepL G l vs) : RepL H r vs := by
  obtain ⟨h1, h2⟩ := mapO_get h
  refine RepL.of_get (h1.trans hr.length) fun i y u hy hu => ?_
  obtain ⟨x, hx, hxy⟩ := h2 i y hy
  obtain ⟨u', hu', hr'⟩ := hr.get hx
  rw [hu] at hu'
  cases hu'
  exact hf x y u hxy hr'

theorem peek_fz {st : Sto} {d : Nat} {v : AV} (h : fz v = true) : peek st d v = some v := by
  cases d <;> simp [peek, h]
theorem mapO_mono {α β : Type} {f g : α → Option β} (h : ∀ x y, f x = some y → g x = some y) : ∀ {l : List α} {r : List β}, mapO f l = some r → mapO g l = some r
  | [], _, h' => h'
  | x :: l, r, h' => by
    simp only [mapO] at h' ⊢
    split at h'
    · rename_i a b ha hb
      rw [h _ _ ha, mapO_mono h hb]
      exact h'
    · cases h'
theorem peek_succ (st : Sto) (d : Nat) (v : AV) : peek st (d + 1) v = if fz v then some v else peek1 st (peek st d) v := rfl
theorem peek_mono {st : Sto} : ∀ (d : Nat) (a b : AV), peek st d a = some b → peek st (d + 1) a = some b := by
  intro d
  induction d with
  | zero =>
    intro a b h
    simp only [peek] at h
    split at h
    · cases h; exact peek_fz ‹_›
    · cases h
  | succ d ih =>
    intro a b h
    rw [peek_succ] at h ⊢
    split at h
    · rename_i hz; rw [if_pos hz]; exact h
    · rename_i hz
      rw [if_neg hz]
      cases a with
      | sl xs =>
        simp only [peek1] at h ⊢
        obtain ⟨r, h1, rfl⟩ := Option.map_eq_some_iff.1 h
        simp only [mapO_mono ih h1, Option.map_some]
      | sr b' g off len =>
        simp only [peek1] at h ⊢
        cases hb : st[b']? with
        | none => rw [hb] at h; cases h
        | some k =>
          rw [hb] at h
          cases k with
          | map es => cases h
          | tick _ => cases h
          | dead _ _ => cases h
          | iter _ _ => cases h
          | row sz g' lo xs =>
            simp only at h ⊢
            split at h
            · rename_i hc
              rw [if_pos hc]
              obtain ⟨r, h1, rfl⟩ := Option.map_eq_some_iff.1 h
              simp only [mapO_mono ih h1, Option.map_some]
            · cases h
      | ptr b' g i off =>
        simp only [peek1] at h ⊢
        cases hb : st[b']? with
        | none => rw [hb] at h; cases h
        | some k =>
          rw [hb] at h
          cases k with
          | map es => cases h
          | tick _ => cases h
          | dead _ _ => cases h
          | iter _ _ => cases h
          | row sz g' lo xs =>
            simp only at h ⊢
            split at h
            · rename_i hc
              rw [if_pos hc]
              cases hx : xs[i]? with
              | none => rw [hx] at h; cases h
              | some x =>
                rw [hx] at h
                obtain ⟨r, h1, rfl⟩ := Option.map_eq_some_iff.1 h
                simp only [ih _ _ h1, Option.map_some]
            · cases h
      | fn f a1 b1 =>
        simp only [peek1] at h ⊢
        split at h
        · rename_i a' b' ha hb
          rw [mapO_mono ih ha, mapO_mono ih hb]
          exact h
        · cases h
      | agg cs =>
        simp only [peek1] at h ⊢
        obtain ⟨r, h1, rfl⟩ := Option.map_eq_some_iff.1 h
        simp only [mapO_mono ih h1, Option.map_some]
      | tup cs =>
        simp only [peek1] at h ⊢
        obtain ⟨r, h1, rfl⟩ := Option.map_eq_some_iff.1 h
        simp only [mapO_mono ih h1, Option.map_some]
      | _ => exact h

theorem fzL_mem : ∀ {l : List AV}, fzL l = true → ∀ p ∈ l, fz p = true
  | [], _, p, hp => by cases hp
  | a :: l, hl, p, hp => by
    simp only [fzL, Bool.and_eq_true] at hl
    rcases List.mem_cons.1 hp with rfl | hp
    · exact hl.1
    · exact fzL_mem hl.2 p hp

/-- peek, cell by cell -/
theorem peek_cells {st : Sto} {d : Nat} {x y : AV} (h : peek st d x = some y) : y.cells.length = x.cells.length ∧ ∀ (j : Nat) p q, x.cells[j]? = some p → y.cells[j]? = some q → peek st d p = some q := by
  have one : ∀ {y : AV}, x.cells = [x] → y.cells = [y] → peek st d x = some y → y.cells.length = x.cells.length ∧ ∀ (j : Nat) p q, x.cells[j]? = some p → y.cells[j]? = some q → peek st d p = some q := by
    intro y hx hy h
    rw [hx, hy]
    refine ⟨rfl, fun j p q hp hq => ?_⟩
    cases j with
    | zero => simp at hp hq; subst hp; subst hq; exact h
    | succ j => simp at hp
  by_cases hz : fz x = true
  · rw [peek_fz hz] at h
    cases h
    refine ⟨rfl, fun j p q hp hq => ?_⟩
    rw [hp] at hq
    cases hq
    exact peek_fz (fzL_mem (fz_cells hz) p (List.mem_of_getElem? hp))
  · cases d with
    | zero => simp [peek, hz] at h
    | succ d =>
      have h0 := h
      rw [peek_succ, if_neg hz, peek1.eq_def] at h
      cases x with
      | agg cs =>
        obtain ⟨a, ha, rfl⟩ := Option.map_eq_some_iff.1 h
        obtain ⟨h1, h2⟩ := mapO_get ha
        refine ⟨h1, fun j p q hp hq => ?_⟩
        obtain ⟨x, hx, hf⟩ := h2 j q hq
        simp only [AV.cells] at hp
        rw [hx] at hp
        cases hp
        exact peek_mono _ _ _ hf
      | snil => cases h; exact one rfl rfl h0
      | sl xs => obtain ⟨a, _, rfl⟩ := Option.map_eq_some_iff.1 h; exact one rfl rfl h0
      | tup xs => obtain ⟨a, _, rfl⟩ := Option.map_eq_some_iff.1 h; exact one rfl rfl h0
      | sr b g off len =>
        simp only at h
        split at h
        · split at h
          · obtain ⟨a, _, rfl⟩ := Option.map_eq_some_iff.1 h; exact one rfl rfl h0
          · cases h
        · cases h
      | ptr b g i off =>
        simp only at h
        split at h
        · split at h
          · split at h
            · obtain ⟨a, _, rfl⟩ := Option.map_eq_some_iff.1 h; exact one rfl rfl h0
            · cases h
          · cases h
        · cases h
      | mr b => cases h
      | fn f a b =>
        simp only at h
        split at h
        · cases h; exact one rfl rfl h0
        · cases h
      | _ => cases h

set_option maxHeartbeats 1000000 in
theorem peek_rep {G H : Gh} (inv : Inv G) (x : ExtF G H) (hw : H.w = G.w) (hh : ∀ b o, Held G b o → H.φ b o) : ∀ (d : Nat) {v v' : AV} {u : Value}, peek G.σ d v = some v' → Rep G v u → Rep H v' u := by
  intro d
  induction d with
  | zero =>
    intro v v' u h hr
    simp only [peek] at h
    split at h
    · cases h; exact fz_rep x ‹_› hr
    · cases h
  | succ d ih =>
    intro v v' u h hr
    by_cases hz : fz v = true
    · rw [peek_fz hz] at h
      cases h
      exact fz_rep x hz hr
    rw [peek_succ, if_neg hz, peek1.eq_def] at h
    -- the cells of an element that was read
    have cells : ∀ {p q : AV}, peek G.σ d p = some q → q.cells.length = p.cells.length ∧ ∀ (j : Nat) (a b : AV) (v : Value), p.cells[j]? = some a → q.cells[j]? = some b → Rep G a v → Rep H b v := fun {p q} hpq =>
      ⟨(peek_cells hpq).1, fun j a b v ha hb hr => ih ((peek_cells hpq).2 j a b ha hb) hr⟩
    cases v with
    | snil =>
      cases h
      cases hr
      exact .sl0 _ _ (fun _ => rfl)
    | sl xs =>
      obtain ⟨ys, hys, rfl⟩ := Option.map_eq_some_iff.1 h
      obtain ⟨h1, h2⟩ := mapO_get hys
      cases hr with
      | sl0 a cap hn =>
        cases ys with
        | nil => exact .sl0 _ _ hn
        | cons y ys => simp at h1
      | sl hl hE =>
        rename_i blk o sz cap
        rw [← h1]
        refine .sl (sz := sz) (by omega) (RepElems.of_get fun i y hy => ?_)
        · obtain ⟨p, hp, hpq⟩ := h2 i y hy
          obtain ⟨h3, h4⟩ := hE.get hp
          obtain ⟨h5, h6⟩ := cells hpq
          refine ⟨h5.trans h3, RepCells.of_get fun j q hq => ?_⟩
          have hjlt : j < p.cells.length := by
            have := (List.getElem?_eq_some_iff.1 hq).1
            omega
          obtain ⟨u, g1, g2, g3⟩ := h4.get (i := j) (x := p.cells[j]) (by simp [hjlt])
          exact ⟨u, x.frozen _ _ g1, x.cell _ _ g1 _ g2, h6 j _ q u (by simp [hjlt]) hq g3⟩
    | sr b g off len =>
      simp only at h
      cases hb : G.σ[b]? with
      | none => rw [hb] at h; cases h
      | some k =>
        rw [hb] at h
        cases k with
        | map es => cases h
        | tick _ => cases h
        | dead _ _ => cases h
        | iter _ _ => cases h
        | row sz g' lo xs =>
          simp only at h
          split at h
          · rename_i hc
            obtain ⟨rfl, hlen⟩ := hc
            obtain ⟨ys, hys, rfl⟩ := Option.map_eq_some_iff.1 h
            obtain ⟨h1, h2⟩ := mapO_get hys
            have hyl : ys.length = len := by rw [h1]; simp; omega
            obtain ⟨r1, r2, r3⟩ := inv.rows b sz g lo xs hb
            cases hr with
            | sr0 hI hρ =>
              cases ys with
              | nil => exact .sl0 _ _ (fun _ => rfl)
              | cons y ys => simp at hyl
            | srE hI hρ ho =>
              cases ys with
              | nil => exact .sl0 _ _ (fun e => by cases e)
              | cons y ys => simp at hyl
            | sr hI hρ hl hb' hc' =>
              rename_i sz' blk cap c e fz'
              obtain ⟨k', hk', _, hs'⟩ := hI
              rw [hb] at hk'
              cases hk'
              simp only [ABlk.sz, Option.some.injEq] at hs'
              subst hs'
              obtain ⟨c2, e2, fz2, hb2, _, hrow, _⟩ := r2 blk hρ
              have := elems_of_row (G := G) (H := H) hw hb2 hrow (ys := ys) (off := off) (fun o ho => hh _ _ ⟨b, sz, g, lo, xs, hb, hρ, ho⟩) (fun i y hy => by
                obtain ⟨p, hp, hpq⟩ := h2 i y hy
                obtain ⟨h5, h6⟩ := cells hpq
                refine ⟨p, ?_, h5, h6⟩
                have hi : i < len := by have := (List.getElem?_eq_some_iff.1 hy).1; omega
                simpa [List.getElem?_take, List.getElem?_drop, hi] using hp)
              have h7 := Rep.sl (G := H) (cap := cap) (by omega) this
              rw [hyl] at h7
              exact h7
          · cases h
    | ptr b g i off =>
      simp only at h
      cases hb : G.σ[b]? with
      | none => rw [hb] at h; cases h
      | some k =>
        rw [hb] at h
        cases k with
        | map es => cases h
        | tick _ => cases h
        | dead _ _ => cases h
        | iter _ _ => cases h
        | row sz g' lo xs =>
          simp only at h
          split at h
          · rename_i hc
            subst hc
            cases hx : xs[i]? with
            | none => rw [hx] at h; cases h
            | some p =>
              rw [hx] at h
              obtain ⟨y, hy, rfl⟩ := Option.map_eq_some_iff.1 h
              obtain ⟨r1, r2, r3⟩ := inv.rows b sz g lo xs hb
              cases hr with
              | ptr hI hρ =>
                rename_i sz' blk
                obtain ⟨k', hk', _, hs'⟩ := hI
                rw [hb] at hk'
                cases hk'
                simp only [ABlk.sz, Option.some.injEq] at hs'
                subst hs'
                obtain ⟨c2, e2, fz2, hb2, _, hrow, _⟩ := r2 blk hρ
                have := elems_of_row (G := G) (H := H) hw hb2 hrow (ys := [y]) (off := i) (fun o ho => hh _ _ ⟨b, sz, g, lo, xs, hb, hρ, ho⟩) (fun k z hz => by
                  cases k with
                  | zero =>
                    simp at hz
                    subst hz
                    obtain ⟨h5, h6⟩ := cells hy
                    exact ⟨p, by simpa using hx, h5, h6⟩
                  | succ k => simp at hz)
                have h8 := (this.get (i := 0) (x := y) rfl).2
                simp only [Nat.zero_mul, Nat.add_zero] at h8
                exact .rp h8
          · cases h
    | mr b => cases h
    | fn f a b =>
      simp only at h
      split at h
      · rename_i a' b' ha hb
        cases h
        cases hr with
        | fn h1 h2 => exact .fn (mapO_repL ha (fun _ _ _ h hr => ih h hr) h1) (mapO_repL hb (fun _ _ _ h hr => ih h hr) h2)
      · cases h
    | agg cs =>
      obtain ⟨r, h1, rfl⟩ := Option.map_eq_some_iff.1 h
      cases hr with
      | agg hl => exact .agg (mapO_repL h1 (fun _ _ _ h hr => ih h hr) hl)
    | tup cs =>
      obtain ⟨r, h1, rfl⟩ := Option.map_eq_some_iff.1 h
      cases hr with
      | tup hl => exact .tup (mapO_repL h1 (fun _ _ _ h hr => ih h hr) hl)
    | _ => cases h
end Go.Proofs.YtgpkochbmfhmdaaGreatDoor.Lift
namespace Go.Proofs.YtgpkochbmfhmdaaGreatDoor.Lift
open Go

mutual
theorem flat_rep {G H : Gh} {a : AV} {v : Value} (hz : flat a = true) (h : Rep G a v) : Rep H a v := by
  match h with
  | .undef v => cases hz
  | .bool b => exact .bool b
  | .int k n => exact .int k n
  | .str s => exact .str s
  | .nilp => exact .nilp
  | .ptr h hr => cases hz
  | .rp h => cases hz
  | .snil => exact .snil
  | .sl0 a cap _ => cases hz
  | .sle a cap => exact .sle a cap
  | .sl hl h => cases hz
  | .sr0 h hr => cases hz
  | .sr h hr hl hb hc => cases hz
  | .srE h hr ho => cases hz
  | .fn h1 h2 => cases hz
  | .nilf => exact .nilf
  | .nilm => exact .nilm
  | .mv hb hf h => cases hz
  | .mv0 => cases hz
  | .mr h hr => cases hz
  | .agg h => exact .agg (flat_repL (by simpa [flat] using hz) h)
  | .tup h => exact .tup (flat_repL (by simpa [flat] using hz) h)
theorem flat_repL {G H : Gh} {a : List AV} {v : List Value} (hz : flatL a = true) (h : RepL G a v) : RepL H a v := by
  match h with
  | .nil => exact .nil
  | .cons h t =>
    simp only [flatL, Bool.and_eq_true] at hz
    exact .cons (flat_rep hz.1 h) (flat_repL hz.2 t)
end

def Gh.freeze (G : Gh) : Gh := { w := G.w, φ := fun b o => G.φ b o ∨ Held G b o, ρ := G.ρ, σ := [] }

theorem owned_nil {G : Gh} (h : G.σ = []) (blk : Nat) : ¬ Owned G blk := by
  rintro ⟨b, k, hk, _, _⟩
  rw [h] at hk
  cases hk

theorem Inv.owned_lt {G : Gh} (inv : Inv G) {blk : Nat} (h : Owned G blk) : blk < G.w.heap.size := by
  rcases Nat.lt_or_ge blk G.w.heap.size with hl | hl
  · exact hl
  · rcases inv.owned h with ⟨c, e, fz, hb⟩ | ⟨m, k, hb⟩ | ⟨s, i, hb⟩ <;> rw [Array.getElem?_eq_none hl] at hb <;> cases hb

theorem stable_noFoe : Stable noFoe := fun _ _ _ _ _ _ _ _ _ _ _ _ _ _ _ _ _ _ _ => trivial
theorem inv_nil {G : Gh} (hσ : G.σ = []) (lt : ∀ b o, G.φ b o → b < G.w.heap.size) (hJ : G.J = noFoe := by rfl) (hz : ∀ blk, ¬ G.z blk := by exact fun _ h => h) : Inv G where
  rows := fun b sz g lo xs h => by rw [hσ] at h; cases h
  maps := fun b es h => by rw [hσ] at h; cases h
  inj := fun b b' k k' blk h => by rw [hσ] at h; cases h
  lt := lt
  tks := fun b n h => by rw [hσ] at h; cases h
  held := by rw [hJ]; trivial
  stab := by rw [hJ]; exact stable_noFoe
  zlt := fun blk h => absurd h (hz blk)
  znone := fun _ => hz
  its := fun b s i h => by rw [hσ] at h; cases h
  deads := fun b sz g blk h => by rw [hσ] at h; cases h

theorem inv_freeze {G : Gh} (inv : Inv G) : Inv G.freeze := inv_nil rfl (fun b o h => by
  rcases h with h | h
  · exact inv.lt b o h
  · exact inv.owned_lt h.owned) rfl

theorem extF_freeze (G : Gh) : ExtF G G.freeze := ⟨fun _ _ h => .inl h, fun _ _ _ _ h => h, fun _ _ _ _ h => h⟩
theorem globG_ext {gl : Nat → Option AV} {G H : Gh} (hz : ∀ n v, gl n = some v → fzL v.cells = true) (x : ExtF G H) (h : GlobG gl G) : GlobG gl H := fun n v hv => by
  have := h n v hv
  refine fz_rep x ?_ this
  have h1 := hz n v hv
  cases v <;> simp_all [fz, fzL]

/-- the globals that the evaluator knows are frozen -/
def FzG (gl : Nat → Option AV) : Prop := ∀ n v, gl n = some v → fzL v.cells = true

theorem repR {G H : Gh} (hσ : G.σ = []) (hw : H.w = G.w) (hφ : ∀ b o, G.φ b o → H.φ b o) {a : AV} {v : Value} (h : Rep G a v) : Rep H a v := by
  refine Rep.extR ⟨fun blk c e fz hb => ⟨c, by rw [hw]; exact hb, rfl⟩, hφ, fun b o _ v hv => by rw [hw]; exact hv, fun b ents ck _ hb => by rw [hw]; exact hb, fun b k hk => ?_, fun b k g hk => ?_⟩ h <;> rw [hσ] at hk <;> cases hk

def noMaps (st : Sto) : Bool := st.all fun k => match k with | .map _ => false | _ => true
def frz : ABlk → ABlk
  | .row sz g _ xs => .row sz g xs.length xs
  | k => k
@[simp] theorem frz_gen (k : ABlk) : (frz k).gen = k.gen := by cases k <;> rfl
@[simp] theorem frz_sz (k : ABlk) : (frz k).sz = k.sz := by cases k <;> rfl

mutual
/-- nil slices as empty ones -/
def nz : AV → AV
  | .snil => .sl []
  | .agg cs => .agg (nzL cs)
  | .tup vs => .tup (nzL vs)
  | v => v
def nzL : List AV → List AV
  | [] => []
  | x :: r => nz x :: nzL r
end
mutual
theorem nz_rep {G : Gh} {a : AV} {v : Value} (h : Rep G a v) : Rep G (nz a) v := by
  match h with
  | .undef v => exact .undef v
  | .bool b => exact .bool b
  | .int k n => exact .int k n
  | .str s => exact .str s
  | .nilp => exact .nilp
  | .ptr h hr => exact .ptr h hr
  | .rp h => exact .rp h
  | .snil => exact .sl0 none 0 (fun _ => rfl)
  | .sl0 a cap h => exact .sl0 a cap h
  | .sle a cap => exact .sle a cap
  | .sl hl h => exact .sl hl h
  | .sr0 h hr => exact .sr0 h hr
  | .sr h hr hl hb hc => exact .sr h hr hl hb hc
  | .srE h hr ho => exact .srE h hr ho
  | .fn h1 h2 => exact .fn h1 h2
  | .nilf => exact .nilf
  | .nilm => exact .nilm
  | .mv hb hf h => exact .mv hb hf h
  | .mv0 => exact .mv0
  | .mr h hr => exact .mr h hr
  | .agg h => exact .agg (nz_repL h)
  | .tup h => exact .tup (nz_repL h)
theorem nz_repL {G : Gh} {a : List AV} {v : List Value} (h : RepL G a v) : RepL G (nzL a) v := by
  match h with
  | .nil => exact .nil
  | .cons h t => exact .cons (nz_rep h) (nz_repL t)
end
/-- a pure contract, where there is a store -/
def liftS (d : Nat) (g : List AV → Option AV) : Spec := fun args st =>
  if fzL args then (g args).map fun r => (r, st)
  else if fzL (nzL args) then (g (nzL args)).map fun r => (r, st)
  else match mapO (peek st d) args with
    | none => none
    | some args' => match g args' with
      | none => none
      | some r => if flat r then some (r, st) else some (r, st.map frz)

structure SoundP (P : Program) (gl : Nat → Option AV) (f : Nat) (g : List AV → Option AV) : Prop where
  calls : ∀ (G : Gh) (args : List AV) (vals : List Value) (r : AV), g args = some r → Inv G → G.σ = [] → G.J = noFoe → GlobG gl G → RepL G args vals → CallDone P f vals.toArray G.w (Ret G r [])

theorem done_imp {P : Program} {f : Nat} {args : Array Value} {w : World} {R R' : Ending → World → Prop} (h : CallDone P f args w R) (hr : ∀ e w', R e w' → R' e w') : CallDone P f args w R' := by
  rcases h with ⟨h1, h2⟩ | ⟨v, w', h1, h2⟩
  · exact .inl ⟨h1, fun cs => let ⟨e, w', fr, r, x⟩ := h2 cs; ⟨e, w', fr, hr _ _ r, x⟩⟩
  · exact .inr ⟨v, w', h1, hr _ _ h2⟩
theorem calls_imp {P : Program} {f : FuncId} {args : Array Value} {w : World} {R R' : Ending → World → Prop} (h : Calls P f args w R) (hr : ∀ e w', R e w' → R' e w') : Calls P f args w R' :=
  fun cs => let ⟨e, w', fr, r, x⟩ := h cs; ⟨e, w', fr, hr _ _ r, x⟩

/-- the store's blocks lie as they lay -/
theorem inv_back {G H : Gh} (inv : Inv G) (hρ : H.ρ = G.ρ) (hσ : H.σ = G.σ) (ht : H.t = G.t) (hz : H.z = G.z) (x : Ext G H) (hheap : ∀ blk, blk < G.w.heap.size → H.w.heap[blk]? = G.w.heap[blk]?) (hφ : ∀ b o, b < G.w.heap.size → H.φ b o → G.φ b o) (lt : ∀ b o, H.φ b o → b < H.w.heap.size) : Inv H where
  rows := fun b sz g lo xs h => by
    rw [hσ] at h
    obtain ⟨h1, h2, h3⟩ := inv.rows b sz g lo xs h
    refine ⟨h1, fun blk hb => ?_, by rw [hρ]; exact h3⟩
    rw [hρ] at hb
    obtain ⟨c, e, fz, h4, h5, h6, h7⟩ := h2 blk hb
    have hlt : blk < G.w.heap.size := inv.owned_lt ⟨b, _, h, rfl, hb⟩
    exact ⟨c, e, fz, by rw [hheap blk hlt]; exact h4, h5, fun i y hy => ⟨(h6 i y hy).1, fun j z hz => let ⟨v, h8, h9⟩ := (h6 i y hy).2 j z hz; ⟨v, h8, h9.ext x⟩⟩, fun o ho hf => h7 o ho (hφ _ _ hlt hf)⟩
  maps := fun b es h => by
    rw [hσ] at h
    obtain ⟨blk, ents, ck, h1, h2, h3, h4⟩ := inv.maps b es h
    have hlt : blk < G.w.heap.size := inv.owned_lt ⟨b, _, h, rfl, h1⟩
    exact ⟨blk, ents, ck, by rw [hρ]; exact h1, by rw [hheap blk hlt]; exact h2, h3.ext x, fun o hf => h4 o (hφ _ _ hlt hf)⟩
  inj := fun b b' k k' blk h h' => by
    rw [hσ] at h h'
    rw [hρ]
    exact inv.inj b b' k k' blk h h'
  lt := lt
  tks := fun b n h => by
    rw [hσ] at h
    rw [ht, hρ]
    exact inv.tks b n h
  held := inv.held_ext x ht
  stab := inv.stab_ext x
  zlt := fun blk h => Nat.lt_of_lt_of_le (inv.zlt blk (hz ▸ h)) x.size
  znone := fun h => by rw [hz]; exact inv.znone (x.foe.symm.trans h)
  its := fun b s i h => by
    rw [hσ] at h
    obtain ⟨blk, q1, q2⟩ := inv.its b s i h
    exact ⟨blk, by rw [hρ]; exact q1, (hheap blk (Array.getElem?_eq_some_iff.1 q2).1).trans q2⟩
  deads := fun b sz g blk h hr => by
    rw [hσ] at h
    rw [hρ] at hr
    exact Nat.lt_of_lt_of_le (inv.deads b sz g blk h hr) x.size

set_option maxHeartbeats 1000000 in
theorem SoundP.lift {P : Program} {gl : Nat → Option AV} {f : Nat} {g : List AV → Option AV} (hz : FzG gl) (d : Nat) (h : SoundP P gl f g) : SoundA P gl f (liftS d g) := by
  intro J
  refine ⟨fun G args vals r σ' hs inv _ hg hr => ?_⟩
  -- frozen arguments
  have frozen : ∀ args, RepL G args vals → fzL args = true → ((g args).map fun r => (r, G.σ)) = some (r, σ') → CallDone P f vals.toArray G.w (Ret G r σ') := fun args hr hfz hs => by
    obtain ⟨r', hr', he⟩ := Option.map_eq_some_iff.1 hs
    cases he
    let G1 : Gh := { w := G.w, φ := G.φ, ρ := G.ρ, σ := [] }
    have x1 : ExtF G G1 := ⟨fun _ _ h => h, fun _ _ _ _ h => h, fun _ _ _ _ h => h⟩
    refine done_imp (h.calls G1 args vals r hr' (inv_nil rfl inv.lt) rfl rfl (globG_ext hz x1 hg) (fz_repL x1 hfz hr)) fun e w' he => ?_
    cases e with
    | panicked c => exact he.elim
    | outgrown => exact he.elim
    | returned v =>
      obtain ⟨G1', rfl, hσ, x, inv', hrep⟩ := he
      let G' : Gh := { w := G1'.w, φ := G1'.φ, ρ := G.ρ, σ := G.σ, t := G.t, z := G.z, J := G.J }
      have hheap : ∀ blk, blk < G.w.heap.size → G'.w.heap[blk]? = G.w.heap[blk]? := fun blk hb => x.old blk hb (owned_nil rfl blk) (fun hz => hz.elim)
      have hφ : ∀ b o, b < G.w.heap.size → G'.φ b o → G.φ b o := fun b o hb hf => (x.thaw b o hf hb).resolve_right (owned_nil rfl b)
      have xx : Ext G G' :=
        { os := x.os, tape := x.tape, output := x.output, size := x.size, time := Nat.le_refl _, zin := fun _ h => .inr h, zout := fun _ h => h, foe := rfl, old := fun blk hb _ _ => hheap blk hb, shape := x.shape, frozen := x.frozen, cell := x.cell, fmap := x.fmap
          thaw := fun b o hf hb => .inl (hφ b o hb hf), len := Nat.le_refl _, id := fun _ k h => ⟨k, h, Nat.le_refl _, rfl⟩, at_ := fun _ _ _ _ _ => rfl, own := fun _ h => .inr h }
      exact ⟨G', rfl, rfl, xx, inv_back inv rfl rfl rfl rfl xx hheap hφ inv'.lt, repR (H := G') hσ rfl (fun _ _ h => h) hrep⟩
  unfold liftS at hs
  split at hs
  · rename_i hfz
    exact frozen args hr hfz hs
  split at hs
  · rename_i hfz
    exact frozen (nzL args) (nz_repL hr) hfz hs
  · split at hs
    · cases hs
    · rename_i args' ha
      split at hs
      · cases hs
      · rename_i r' hr'
        have hargs : RepL G.freeze args' vals := mapO_repL ha (fun x y v hxy hx => peek_rep inv (extF_freeze G) rfl (fun b o h => .inr h) d hxy hx) hr
        have hcall := h.calls G.freeze args' vals r' hr' (inv_freeze inv) rfl rfl (globG_ext hz (extF_freeze G) hg) hargs
        split at hs
        · -- a flat result
          rename_i hfl
          cases hs
          refine done_imp hcall fun e w' he => ?_
          cases e with
          | panicked c => exact he.elim
          | outgrown => exact he.elim
          | returned v =>
            obtain ⟨G1', rfl, hσ, x, inv', hrep⟩ := he
            let G' : Gh := { G with w := G1'.w }
            have hheap : ∀ blk, blk < G.w.heap.size → G'.w.heap[blk]? = G.w.heap[blk]? := fun blk hb => x.old blk hb (owned_nil rfl blk) (fun hz => hz.elim)
            have xx : Ext G G' :=
              { os := x.os, tape := x.tape, output := x.output, size := x.size, time := Nat.le_refl _, zin := fun _ h => .inr h, zout := fun _ h => h, foe := rfl, old := fun blk hb _ _ => hheap blk hb, shape := x.shape, frozen := fun _ _ h => h
                cell := fun b o hf => x.cell b o (.inl hf), fmap := fun b ents ck hf => x.fmap b ents ck (.inl hf)
                thaw := fun b o hf hb => .inl hf, len := Nat.le_refl _, id := fun _ k h => ⟨k, h, Nat.le_refl _, rfl⟩, at_ := fun _ _ _ _ _ => rfl, own := fun _ h => .inr h }
            exact ⟨G', rfl, rfl, xx, inv_back inv rfl rfl rfl rfl xx hheap (fun _ _ _ h => h) (fun b o hf => Nat.lt_of_lt_of_le (inv.lt b o hf) x.size), flat_rep hfl hrep⟩
        · -- the store is frozen
          · cases hs
            refine done_imp hcall fun e w' he => ?_
            cases e with
            | panicked c => exact he.elim
            | outgrown => exact he.elim
            | returned v =>
              obtain ⟨G1', rfl, hσ, x, inv', hrep⟩ := he
              let G' : Gh := { w := G1'.w, φ := G1'.φ, ρ := G.ρ, σ := G.σ.map frz, t := G.t, z := G.z, J := G.J }
              have hheap : ∀ blk, blk < G.w.heap.size → G'.w.heap[blk]? = G.w.heap[blk]? := fun blk hb => x.old blk hb (owned_nil rfl blk) (fun hz => hz.elim)
              have hφ : ∀ b o, b < G.w.heap.size → G'.φ b o → G.φ b o ∨ Held G b o := fun b o hb hf => (x.thaw b o hf hb).resolve_right (owned_nil rfl b)
              have hget : ∀ (b : Nat) k, (G.σ.map frz)[b]? = some k → ∃ k0, G.σ[b]? = some k0 ∧ k = frz k0 := fun b k hk => by
                rw [List.getElem?_map] at hk
                cases hb : G.σ[b]? with
                | none => rw [hb] at hk; cases hk
                | some k0 => rw [hb] at hk; cases hk; exact ⟨k0, rfl, rfl⟩
              have xx : Ext G G' :=
                { os := x.os, tape := x.tape, output := x.output, size := x.size, time := Nat.le_refl _, zin := fun _ h => .inr h, zout := fun _ h => h, foe := rfl, old := fun blk hb _ _ => hheap blk hb, shape := x.shape
                  frozen := fun b o hf => x.frozen b o (.inl hf), cell := fun b o hf => x.cell b o (.inl hf), fmap := fun b ents ck hf => x.fmap b ents ck (.inl hf)
                  thaw := fun b o hf hb => (hφ b o hb hf).imp id Held.owned, len := by simp [G']
                  id := fun b k h => ⟨frz k, by simp only [G', List.getElem?_map, h, Option.map_some], Nat.le_of_eq (frz_gen k).symm, frz_sz k⟩, at_ := fun _ _ _ _ _ => rfl
                  own := fun blk h => by
                    obtain ⟨b, k, hk, hlv, hb⟩ := h
                    obtain ⟨k0, hk0, rfl⟩ := hget b k hk
                    rw [frz_gen] at hb
                    exact .inr ⟨b, k0, hk0, (by cases k0 <;> first | rfl | exact hlv), hb⟩ }
              refine ⟨G', rfl, rfl, xx, ⟨fun b sz gg lo xs hk => ?_, fun b es hk => ?_, fun b b' k k' blk hk hk' hb hb' => ?_, inv'.lt, fun b n hk => ?_, inv.held_ext xx rfl, inv.stab, fun blk h => Nat.lt_of_lt_of_le (inv.zlt blk h) xx.size, inv.znone, fun b s i hk => ?_, fun b sz g blk hk hr => ?_⟩, repR (H := G') hσ rfl (fun _ _ h => h) hrep⟩
              · obtain ⟨k0, hk0, he⟩ := hget b _ hk
                cases k0 with
                | map es => cases he
                | tick _ => cases he
                | dead _ _ => cases he
                | iter _ _ => cases he
                | row sz0 g0 lo0 xs0 =>
                  simp only [frz, ABlk.row.injEq] at he
                  obtain ⟨rfl, rfl, rfl, rfl⟩ := he
                  obtain ⟨h1, h2, h3⟩ := inv.rows b _ _ _ _ hk0
                  refine ⟨Nat.le_refl _, fun blk hb => ?_, h3⟩
                  obtain ⟨c, e, fz, h4, h5, h6, h7⟩ := h2 blk hb
                  have hlt : blk < G.w.heap.size := inv.owned_lt ⟨b, _, hk0, rfl, hb⟩
                  refine ⟨c, e, fz, by rw [hheap blk hlt]; exact h4, h5, fun i y hy => ⟨(h6 i y hy).1, fun j z hz => let ⟨v, h8, h9⟩ := (h6 i y hy).2 j z hz; ⟨v, h8, h9.ext xx⟩⟩, fun o ho hf => ?_⟩
                  rcases hφ blk o hlt hf with hf | hf
                  · exact h7 o (Nat.le_trans (Nat.mul_le_mul_right _ h1) ho) hf
                  · obtain ⟨b', sz', g', lo', xs', i1, i2, i3⟩ := hf
                    have := inv.inj b b' _ _ blk hk0 i1 hb i2
                    subst this
                    rw [hk0] at i1
                    cases i1
                    omega
              · obtain ⟨k0, hk0, he⟩ := hget b _ hk
                cases k0 with
                | row sz0 g0 lo0 xs0 => cases he
                | tick _ => cases he
                | dead _ _ => cases he
                | iter _ _ => cases he
                | map es0 =>
                  cases he
                  obtain ⟨blk, ents, ck, h1, h2, h3, h4⟩ := inv.maps b _ hk0
                  have hlt : blk < G.w.heap.size := inv.owned_lt ⟨b, _, hk0, rfl, h1⟩
                  refine ⟨blk, ents, ck, h1, by rw [hheap blk hlt]; exact h2, h3.ext xx, fun o hf => ?_⟩
                  rcases hφ blk o hlt hf with hf | hf
                  · exact h4 o hf
                  · obtain ⟨b', sz', g', lo', xs', i1, i2, i3⟩ := hf
                    have := inv.inj b b' _ _ blk hk0 i1 h1 i2
                    subst this
                    rw [hk0] at i1
                    cases i1
              · obtain ⟨k0, hk0, rfl⟩ := hget b _ hk
                obtain ⟨k1, hk1, rfl⟩ := hget b' _ hk'
                rw [frz_gen] at hb hb'
                exact inv.inj b b' k0 k1 blk hk0 hk1 hb hb'
              · obtain ⟨k0, hk0, he⟩ := hget b _ hk
                cases k0 with
                | row sz0 g0 lo0 xs0 => cases he
                | map es => cases he
                | tick m =>
                  cases he
                  exact inv.tks b _ hk0
                | dead _ _ => cases he
                | iter _ _ => cases he
              · obtain ⟨k0, hk0, he⟩ := hget b _ hk
                cases k0 with
                | row sz0 g0 lo0 xs0 => cases he
                | map es => cases he
                | tick m => cases he
                | dead _ _ => cases he
                | iter s0 i0 =>
                  cases he
                  obtain ⟨blk, q1, q2⟩ := inv.its b _ _ hk0
                  exact ⟨blk, q1, (hheap blk (Array.getElem?_eq_some_iff.1 q2).1).trans q2⟩
              · obtain ⟨k0, hk0, he⟩ := hget b _ hk
                cases k0 with
                | row sz0 g0 lo0 xs0 => cases he
                | map es => cases he
                | tick m => cases he
                | iter _ _ => cases he
                | dead sz0 g0 =>
                  cases he
                  exact Nat.lt_of_lt_of_le (inv.deads b _ _ blk hk0 hr) xx.size
end Go.Proofs.YtgpkochbmfhmdaaGreatDoor.Lift
