/-
  LIFT, 18: THE STATE OF A WALK, and operations in whatever order.
-/
import Derived.Test.YtbjgepnkakcjaaaDoorL17
import Derived.OrdersIn
import Derived.TacticsIn
namespace Go.Proofs.YtbjgepnkakcjaaaDoor.Lift
open Go

/-- the marks that ranges over functions left among the deferred calls -/
def Marks (n0 : Nat) (w : World) (ds : List Deferred) : Prop :=
  ∃ rs : List Nat, ds = rs.map (fun r => ({ target := .collected r, args := #[] } : Deferred)) ∧ rs.Nodup ∧ ∀ r ∈ rs, w.heap[r]? = some (.deferred (some [])) ∧ n0 ≤ r

theorem Inv.owned {G : Gh} (inv : Inv G) {blk : Nat} (h : Owned G blk) : (∃ c e fz, G.w.heap[blk]? = some (.cells c e fz)) ∨ ∃ m k, G.w.heap[blk]? = some (.map m k) := by
  obtain ⟨b, k, hk, hr⟩ := h
  cases k with
  | row sz g lo xs =>
    obtain ⟨c, e, fz, hb, _⟩ := ((inv.rows b sz g lo xs hk).2.1 blk hr)
    exact .inl ⟨c, e, fz, hb⟩
  | map es =>
    obtain ⟨blk', ents, ck, hr', hb, _⟩ := inv.maps b es hk
    simp only [ABlk.gen] at hr
    rw [hr] at hr'
    cases hr'
    exact .inr ⟨ents, ck, hb⟩

theorem Marks.ext {G H : Gh} (x : Ext G H) (inv : Inv G) {n0 : Nat} {ds : List Deferred} (h : Marks n0 G.w ds) : Marks n0 H.w ds := by
  obtain ⟨rs, h1, h2, h3⟩ := h
  refine ⟨rs, h1, h2, fun r hr => ?_⟩
  obtain ⟨h4, h5⟩ := h3 r hr
  refine ⟨?_, h5⟩
  have hlt : r < G.w.heap.size := by
    rcases Nat.lt_or_ge r G.w.heap.size with h | h
    · exact h
    · rw [Array.getElem?_eq_none h] at h4; cases h4
  rw [x.old r hlt ?_, h4]
  intro ho
  rcases inv.owned ho with ⟨c, e, fz, hb⟩ | ⟨m, k, hb⟩ <;> rw [hb] at h4 <;> cases h4

/-- THE STATE OF A WALK: G0 is the ghost at the function's entry -/
def St (X : Cfg) (G0 : Gh) (s : ASt) (a : Act) (w : World) : Prop :=
  ∃ G : Gh, G.w = w ∧ Slots G s a ∧ Inv G ∧ Glob X G ∧ Ext G0 G ∧ Marks G0.w.heap.size G.w a.defers

theorem Slots.ext {G H : Gh} (x : Ext G H) {s : ASt} {a : Act} (h : Slots G s a) : Slots H { s with st := H.σ } a := ⟨h.1, fun t => (h.2.1 t).ext x, rfl⟩

theorem Slots.put {G : Gh} {s s' : ASt} {a : Act} (h : Slots G s a) {dst : Option Nat} {v : AV} {r : Value} (hr : Rep G v r) (hp : s.put dst v = some s') : Slots G s' (a.put dst r) := by
  cases dst with
  | none => cases hp; exact h
  | some d =>
    simp only [ASt.put] at hp
    split at hp
    · rename_i hd
      cases hp
      refine ⟨by simpa [Act.put] using h.1, fun t => ?_, h.2.2⟩
      simp only [upd, Act.put]
      have hlt : d < a.tmps.size := Nat.lt_of_lt_of_le hd h.1
      split
      · rename_i ht
        subst ht
        simpa [Array.getD, hlt] using hr
      · rename_i ht
        have := h.2.1 t
        rw [show (a.tmps.setIfInBounds d r).getD t undef = a.tmps.getD t undef by
          simp only [Array.getD_eq_getD_getElem?, Array.getElem?_setIfInBounds]
          rw [if_neg (fun h => ht h.symm)]]
        exact this
    · cases hp

theorem put_defers (a : Act) (dst : Option Nat) (v : Value) : (a.put dst v).defers = a.defers := by cases dst <;> rfl

/-- operations by their places, one behind the other -/
def evIdx (X : Cfg) (ops : List Oper) : List Nat → ASt → Option ASt
  | [], s => some s
  | i :: r, s => match ops[i]? with
    | some o => match step1 X (gdOf ops) s o with
      | some s' => evIdx X ops r s'
      | none => none
    | none => evIdx X ops r s

theorem wanted_sound {G : Gh} {s : ASt} {a : Act} (hs : Slots G s a) {ops : Array Oper} {o : Oper} {b : Bool} (h : wantedA (gdOf ops.toList) s o = some b) : Region.wanted o (yielded ops a.tmps) = b := by
  unfold wantedA at h
  unfold Region.wanted
  split at h
  · rename_i hg
    cases h
    simp [hg]
  · rename_i j want hg
    simp only [hg]
    split at h
    · rename_i d hd
      have hd' : ops[j]?.bind (·.dst) = some d := by simpa [gdOf] using hd
      have hr := hs.2.1 d
      unfold yielded
      rw [hd', Option.bind_some]
      split at h
      · rename_i c hc
        cases h
        rw [hc] at hr
        generalize hv : a.tmps.getD d undef = v at hr
        cases hr
        have hlt : a.tmps[d]? = some (.bool c) := by
          rw [Array.getD_eq_getD_getElem?] at hv
          cases hq : a.tmps[d]? with
          | none => rw [hq] at hv; cases hv
          | some q => rw [hq] at hv; simp at hv; rw [hv]
        rw [hlt]
        cases c <;> cases want <;> rfl
      · rename_i hc
        cases h
        rw [hc] at hr
        generalize hv : a.tmps.getD d undef = v at hr
        cases hr
        rename_i aa ha
        split
        · rename_i bb hb
          rw [Array.getD_eq_getD_getElem?, hb] at hv
          cases hv
        · rfl
      · cases h
    · cases h

theorem isDefer_no {X : Cfg} {s : ASt} {o : Oper} {r : AV × Sto} (h : evOper X s o = some r) : ∀ c, o.op ≠ .defer c := by
  intro c hc
  unfold evOper at h
  rw [hc] at h
  cases h

theorem step_sound {P : Program} {X : Cfg} (ok : OkX P X) {G0 : Gh} {F : Fence} (hF : FW F) {n : Nat} {ops : Array Oper} {Q : Exit → Act → World → Prop} {o : Oper} {s s' : ASt} (h : step1 X (gdOf ops.toList) s o = some s')
    {a : Act} {w : World} (hst : St X G0 s a w) {K : Act → World → Prop} (hK : ∀ a w, St X G0 s' a w → K a w) :
    if Region.wanted o (yielded ops a.tmps) then o.wpIn F n P a w K Q else (∀ f, o.about P w a.eval = some f → F.fn f) ∧ K (a.put o.dst undef) w := by
  obtain ⟨G, rfl, hs, inv, hg, x, hm⟩ := hst
  unfold step1 at h
  split at h
  · rename_i hw
    rw [wanted_sound hs hw, if_pos rfl]
    split at h
    · rename_i v st hv
      refine ⟨fun f _ => hF.fn f, ?_⟩
      rw [Oper.semAt_eq _ _ _ (isDefer_no hv)]
      cases hc : isCallV o.op with
      | false =>
        obtain ⟨G', hd⟩ := evOper_sound ok.T inv hg hs o hc hv
        rcases hd with ⟨⟨r, h1, h2⟩, h3, h4, h5⟩ | ⟨h1, hv', h3, h4, h5⟩
        · rw [h1, Oper.uponIn_value]
          refine hK _ _ ⟨G', rfl, Slots.put (s := { s with st := st }) (h3 ▸ hs.ext h4) h2 h, h5, hg.ext h4, x.trans h4, ?_⟩
          rw [put_defers]
          exact hm.ext h4 inv
        · rw [h1, Oper.uponIn_skip]
          subst hv'
          refine hK _ _ ⟨G', rfl, Slots.put (s := { s with st := st }) (h3 ▸ hs.ext h4) (.tup .nil) h, h5, hg.ext h4, x.trans h4, ?_⟩
          rw [put_defers]
          exact hm.ext h4 inv
      | true =>
        rcases evCall_sound ok inv hg hs o hc hv with ⟨f, args, h1, h2⟩ | ⟨u, w', h1, h2⟩
        · rw [h1, Oper.uponIn_enter]
          refine ⟨fun hd => ?_, ?_⟩
          · rw [hF.depth] at hd; cases hd
          · refine (hF.calls (n := n - 1) h2).mono fun e w'' he => ?_
            cases e with
            | returned r =>
              obtain ⟨G', rfl, h3, h4, h5, h6⟩ := he
              refine hK _ _ ⟨G', rfl, Slots.put (s := { s with st := st }) (h3 ▸ hs.ext h4) h6 h, h5, hg.ext h4, x.trans h4, ?_⟩
              rw [put_defers]
              exact hm.ext h4 inv
            | panicked c => exact he.elim
            | outgrown => exact he.elim
        · rw [h1, Oper.uponIn_value]
          obtain ⟨G', rfl, h3, h4, h5, h6⟩ := h2
          refine hK _ _ ⟨G', rfl, Slots.put (s := { s with st := st }) (h3 ▸ hs.ext h4) h6 h, h5, hg.ext h4, x.trans h4, ?_⟩
          rw [put_defers]
          exact hm.ext h4 inv
    · cases h
  · rename_i hw
    rw [wanted_sound hs hw, if_neg (by simp)]
    refine ⟨fun f _ => hF.fn f, hK _ _ ⟨G, rfl, hs.put (.tup .nil) h, inv, hg, x, ?_⟩⟩
    rw [put_defers]
    exact hm
  · cases h

theorem idx_sound {P : Program} {X : Cfg} (ok : OkX P X) {G0 : Gh} {F : Fence} (hF : FW F) {n : Nat} {ops : Array Oper} {Q : Exit → Act → World → Prop} {s' : ASt} (hQ : ∀ a w, St X G0 s' a w → Q .normal a w) :
    ∀ (l : List Nat) (s : ASt) (a : Act) (w : World), evIdx X ops.toList l s = some s' → St X G0 s a w → wpOpsIn F n P ops Q l a w := by
  intro l
  induction l with
  | nil => intro s a w h hst; cases h; exact hQ a w hst
  | cons i l ih =>
    intro s a w h hst
    simp only [wpOpsIn]
    simp only [evIdx, Array.getElem?_toList] at h
    cases ho : ops[i]? with
    | none => rw [ho] at h; exact ih s a w h hst
    | some o =>
      rw [ho] at h
      simp only at h ⊢
      split at h
      · rename_i s1 h1
        exact step_sound ok hF h1 hst fun a w hst' => ih s1 a w h hst'
      · cases h

theorem evOps_idx (X : Cfg) (ops : List Oper) : ∀ (l : List Oper) (k : Nat) (s : ASt), (∀ j, l[j]? = ops[k + j]?) → evIdx X ops (List.range' k l.length) s = evOps X (gdOf ops) l s
  | [], k, s, _ => by simp [evIdx, evOps]
  | o :: l, k, s, h => by
    have h0 : ops[k]? = some o := by simpa using (h 0).symm
    have ih := evOps_idx X ops l (k + 1)
    simp only [List.length_cons, List.range'_succ, evIdx, evOps, h0]
    cases step1 X (gdOf ops) s o with
    | none => rfl
    | some s1 => exact ih s1 (fun j => by have := h (j + 1); simpa [Nat.add_assoc, Nat.add_comm 1 j] using this)

theorem region_sound {P : Program} {X : Cfg} (ok : OkX P X) {G0 : Gh} {F : Fence} (hF : FW F) {n : Nat} {id : Nat} {ops : Array Oper} {Q : Exit → Act → World → Prop} {s s' : ASt}
    (h : evOps X (gdOf ops.toList) ops.toList s = some s') {a : Act} {w : World} (hst : St X G0 s a w) (hQ : ∀ a w, St X G0 s' a w → Q .normal a w) : (Code.region id ops false).wpIn F n P Q a w := by
  refine wpIn_region (idx_sound ok hF hQ _ s a w ?_ hst)
  rw [List.range_eq_range', ← Array.length_toList, evOps_idx X ops.toList ops.toList 0 s (by simp)]
  exact h

/-- one draw more -/
def Gh.drew (G : Gh) : Gh := { G with w := { G.w with drawn := G.w.drawn + 1 } }
theorem ext_drew (G : Gh) : Ext G G.drew where
  os := rfl
  tape := rfl
  output := rfl
  size := Nat.le_refl _
  old := fun _ _ _ => rfl
  shape := fun _ c _ _ h => ⟨c, h, rfl⟩
  frozen := fun _ _ h => h
  cell := fun _ _ _ => rfl
  fmap := fun _ _ _ _ h => h
  thaw := fun _ _ h _ => .inl h
  len := Nat.le_refl _
  id := fun _ k h => ⟨k, h, Nat.le_refl _, rfl⟩
  at_ := fun _ _ _ _ _ => rfl
  own := fun _ h => .inr h
theorem inv_drew {G : Gh} (inv : Inv G) : Inv G.drew where
  rows := fun b sz g lo xs h => by
    obtain ⟨h1, h2, h3⟩ := inv.rows b sz g lo xs h
    refine ⟨h1, fun blk hb => ?_, h3⟩
    obtain ⟨c, e, fz, h4, h5, h6, h7⟩ := h2 blk hb
    exact ⟨c, e, fz, h4, h5, fun i x hx => ⟨(h6 i x hx).1, fun j y hy => let ⟨v, h8, h9⟩ := (h6 i x hx).2 j y hy; ⟨v, h8, h9.ext (ext_drew G)⟩⟩, h7⟩
  maps := fun b es h => by
    obtain ⟨blk, ents, ck, h1, h2, h3, h4⟩ := inv.maps b es h
    exact ⟨blk, ents, ck, h1, h2, h3.ext (ext_drew G), h4⟩
  inj := inv.inj
  lt := inv.lt
theorem St.drew {X : Cfg} {G0 : Gh} {s : ASt} {a : Act} {w : World} (h : St X G0 s a w) : St X G0 s a { w with drawn := w.drawn + 1 } := by
  obtain ⟨G, rfl, hs, inv, hg, x, hm⟩ := h
  exact ⟨G.drew, rfl, ⟨hs.1, fun t => (hs.2.1 t).ext (ext_drew G), hs.2.2⟩, inv_drew inv, hg.ext (ext_drew G), x.trans (ext_drew G), hm⟩

theorem draw_sound {P : Program} {X : Cfg} (ok : OkX P X) {G0 : Gh} {F : Fence} (hF : FW F) {n : Nat} {id : Nat} {ops : Array Oper} {Q : Exit → Act → World → Prop} {s s' : ASt}
    (h : ∀ t, evIdx X ops.toList (Region.schedule (P.follows .mixedOrders) ops t) s = some s') {a : Act} {w : World} (hst : St X G0 s a w) (hQ : ∀ a w, St X G0 s' a w → Q .normal a w) : (Code.region id ops true).wpIn F n P Q a w :=
  wpIn_region_draw fun t => idx_sound ok hF hQ _ s a _ (h t) hst.drew
end Go.Proofs.YtbjgepnkakcjaaaDoor.Lift
