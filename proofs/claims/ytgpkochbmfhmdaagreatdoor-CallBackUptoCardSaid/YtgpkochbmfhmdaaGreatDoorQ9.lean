/-
  LIFT, 37: A REGION THAT DRAWS, run where the values are known: blocks are set aside where a call may come before or behind what makes them.
  LIFT, 38: A FUNCTION THAT IS RUN: the evaluator carried through on known values, loops and calls too, for the kernel to compute; and that this is a contract.
  K15: kind.up: the classes above one, yielded.
  K16: kind.Above: the names that kind.up yields, collected.
  K1: contracts of larchbase's helpers: SameTypes, SameTexts, Begins.
  K2: contracts of the library's functions on texts: IndexByte, HasPrefix, CutPrefix.
  K3: contracts of the library's functions on texts: Trim, TrimLeft.
  K4: contracts of the two Class functions (is a text a class's name?).
  K5: contracts of larchref10.One and Parse, of kind's cut, of and Parse: what descriptor does a text begin with?
  K6: contracts of kind's cut, of and Parse: the same as the reference's.
  K7: contracts of kind's Wide, Print, Elem, array.
-/
import Derived.Test.YtgpkochbmfhmdaaGreatDoorQ8
import Derived.Lib.Bytealg
namespace Go.Proofs.YtgpkochbmfhmdaaGreatDoor.Lift
open Go
set_option maxRecDepth 100000

def eqAE : List (AV × AV) → List (AV × AV) → Bool
  | [], [] => true
  | (a, b) :: r, (c, d) :: q => eqA a c && eqA b d && eqAE r q
  | _, _ => false
theorem eqAE_eq : ∀ {a b : List (AV × AV)}, eqAE a b = true → a = b
  | [], [], _ => rfl
  | (a, b) :: r, (c, d) :: q, h => by
    simp only [eqAE, Bool.and_eq_true] at h
    rw [eqA_eq h.1.1, eqA_eq h.1.2, eqAE_eq h.2]
  | [], _ :: _, h => by simp [eqAE] at h
  | _ :: _, [], h => by simp [eqAE] at h
def eqB : ABlk → ABlk → Bool
  | .row sz g lo xs, .row sz' g' lo' xs' => decide (sz = sz') && decide (g = g') && decide (lo = lo') && eqAL xs xs'
  | .map es, .map es' => eqAE es es'
  | .tick n, .tick n' => decide (n = n')
  | .dead sz g, .dead sz' g' => decide (sz = sz') && decide (g = g')
  | .iter s i, .iter s' i' => decide (s = s') && decide (i = i')
  | _, _ => false
theorem eqB_eq {a b : ABlk} (h : eqB a b = true) : a = b := by
  cases a <;> cases b <;> simp_all [eqB]
  · exact eqAL_eq h.2
  · exact eqAE_eq h
def eqS : Sto → Sto → Bool
  | [], [] => true
  | a :: r, b :: q => eqB a b && eqS r q
  | _, _ => false
theorem eqS_eq : ∀ {a b : Sto}, eqS a b = true → a = b
  | [], [], _ => rfl
  | a :: r, b :: q, h => by
    simp only [eqS, Bool.and_eq_true] at h
    rw [eqB_eq h.1, eqS_eq h.2]
  | [], _ :: _, h => by simp [eqS] at h
  | _ :: _, [], h => by simp [eqS] at h
def eqOB : Option ABlk → Option ABlk → Bool
  | none, none => true
  | some a, some b => eqB a b
  | _, _ => false
theorem eqOB_eq {a b : Option ABlk} (h : eqOB a b = true) : a = b := by
  cases a <;> cases b <;> simp_all [eqOB]
  exact eqB_eq h

/-! blocks that are set aside -/
def isRowB : ABlk → Bool
  | .row .. => true
  | _ => false
theorem inv_grow_tick {G : Gh} (inv : Inv G) (hl : G.σ ≠ []) (x : Ext G (G.grow G.w none (.tick 0))) : Inv (G.grow G.w none (.tick 0)) := by
  have hρ : ∀ b g k, G.σ[b]? = some k → (G.grow G.w none (.tick 0)).ρ b g = G.ρ b g := fun b g k h => by
    simp only [Gh.grow]
    rw [if_neg (by have := (List.getElem?_eq_some_iff.1 h).1; omega)]
  refine { rows := fun b s g lo ys h => ?_, maps := fun b es h => ?_, inj := fun b b' k k' blk h h' hr hr' => ?_, lt := inv.lt, tks := fun b n h => ?_, held := inv.held_ext x rfl, stab := inv.stab, zlt := inv.zlt, znone := inv.znone, its := fun b s i h => ?_, deads := fun b sz g blk h hr => ?_ }
  · rcases sto_append_cases h with ⟨hb, h⟩ | ⟨hb, h⟩
    · obtain ⟨r1, r2, r3⟩ := inv.rows b s g lo ys h
      rw [hρ b g _ h]
      refine ⟨r1, fun blk hblk => ?_, r3⟩
      obtain ⟨c, e, fz, q1, q2, q3, q4⟩ := r2 blk hblk
      exact ⟨c, e, fz, q1, q2, q3.ext x, q4⟩
    · cases h
  · rcases sto_append_cases h with ⟨hb, h⟩ | ⟨hb, h⟩
    · obtain ⟨blk, ents, ck, q1, q2, q3, q4⟩ := inv.maps b es h
      exact ⟨blk, ents, ck, (hρ b 1 _ h).trans q1, q2, q3.ext x, q4⟩
    · cases h
  · have nn : ∀ b k bk, (G.σ ++ [.tick 0])[b]? = some k → (G.grow G.w none (.tick 0)).ρ b k.gen = some bk → G.σ[b]? = some k ∧ G.ρ b k.gen = some bk := fun b k bk h hr => by
      rcases sto_append_cases h with ⟨hb, h⟩ | ⟨hb, h⟩
      · rw [hρ b _ _ h] at hr
        exact ⟨h, hr⟩
      · simp only [Gh.grow] at hr
        rw [if_pos hb] at hr
        cases hr
    obtain ⟨q1, q2⟩ := nn b k blk h hr
    obtain ⟨q3, q4⟩ := nn b' k' blk h' hr'
    exact inv.inj b b' k k' blk q1 q3 q2 q4
  · rcases sto_append_cases h with ⟨hb, h⟩ | ⟨hb, h⟩
    · obtain ⟨q1, q2⟩ := inv.tks b n h
      exact ⟨q1, fun g => (hρ b g _ h).trans (q2 g)⟩
    · refine ⟨fun h0 => ?_, fun g => ?_⟩
      · subst h0
        exact absurd (List.eq_nil_of_length_eq_zero hb.symm) hl
      · simp only [Gh.grow]
        rw [if_pos hb]
  · rcases sto_append_cases h with ⟨hb, h⟩ | ⟨hb, h⟩
    · obtain ⟨blk, q1, q2⟩ := inv.its b s i h
      exact ⟨blk, (hρ b 0 _ h).trans q1, q2⟩
    · cases h
  · rcases sto_append_cases h with ⟨hb, h⟩ | ⟨hb, h⟩
    · rw [hρ b g _ h] at hr
      exact inv.deads b sz g blk h hr
    · cases h
theorem St.resv {X : Cfg} {G0 : Gh} : ∀ (bl : List ABlk) {s : ASt} {a : Act} {w : World}, bl.all resvOk = true → (s.st ≠ [] ∨ bl.all isRowB = true) → St X G0 s a w → St X G0 { s with st := s.st ++ bl } a w
  | [], s, a, w, _, _, h => by simpa using h
  | k :: bl, s, a, w, hk, ht, h => by
    simp only [List.all_cons, Bool.and_eq_true] at hk ht
    obtain ⟨G, hw, hs, inv, hg, x, hm⟩ := h
    have x1 : Ext G (G.grow G.w none k) := ext_grow inv G.w none _ rfl rfl rfl (Nat.le_refl _) (fun _ _ => rfl) (fun _ h => by cases h)
    have inv1 : Inv (G.grow G.w none k) := by
      cases k with
      | row sz g lo xs =>
        cases g with
        | succ g => simp [resvOk] at hk
        | zero =>
          cases lo with
          | succ lo => simp [resvOk] at hk
          | zero =>
            cases xs with
            | cons _ _ => simp [resvOk] at hk
            | nil => exact inv_grow_row inv G.w none sz [] x1 (fun _ _ => rfl) (fun _ h => by cases h) (fun _ => rfl)
      | tick n =>
        cases n with
        | succ n => simp [resvOk] at hk
        | zero =>
          refine inv_grow_tick inv ?_ x1
          rcases ht with ht | ht
          · rw [hs.2.2]; exact ht
          · simp [isRowB] at ht
      | map es => simp [resvOk] at hk
      | dead _ _ => simp [resvOk] at hk
      | iter _ _ => simp [resvOk] at hk
    have h1 : St X G0 { s with st := s.st ++ [k] } a w := ⟨G.grow G.w none k, hw, by
      have := hs.ext x1
      refine ⟨this.1, this.2.1, ?_⟩
      show G.σ ++ [k] = s.st ++ [k]
      rw [hs.2.2], inv1, hg.ext x1, x.trans x1, hm.ext x1 inv⟩
    have h2 := St.resv bl hk.2 (ht.imp (fun _ => by simp) (·.2)) h1
    simpa using h2
theorem ev_drawD {P : Program} {X : Cfg} {G0 : Gh} {s : ASt} {Q : Exit → ASt → Prop} (ok : OkX P X) (hm : P.follows .mixedOrders = true) {id : Nat} {ops : Array Oper} {tab : List (List Nat)} {ad : List (Nat × AV)} {ds : List Nat} {A : List (Nat × Nat)} {bl : List ABlk} (hok : drawOK ops tab = true)
    (hbl : bl.all resvOk = true) (ht : s.st ≠ [] ∨ bl.all isRowB = true) (h : drawPD { X with A := A } ops tab ad ds ops.toList 0 { s with st := s.st ++ bl } (Q .normal)) : Ev P X G0 (.region id ops true) s Q := fun F n a w hF hs => by
  have ok' : OkX P { X with A := A } := ⟨ok.T, ok.E, ok.Y⟩
  obtain ⟨s', h1, h2⟩ := drawPD_sound hok h
  exact draw_sound (X := { X with A := A }) (G0 := G0) ok' hF.1 (fun t => by rw [hm]; exact h1 t) (St.resv bl hbl ht hs) fun a w h => ⟨s', h2, h⟩

/-! what is asked, as truth values -/
/-- the block that an operation on these operands sees and turns alone -/
def locOf (X : Cfg) (o : Oper) (us : List AV) : Option Nat := match bornOf X o us with
  | some x => some x.1
  | none => match o.op with
    | .lookup _ m _ _ => (match ASt.ev X ⟨0, frOf o.op.operands.toList us, []⟩ m with | .mr b => some b | _ => none)
    | .indexAddr _ x _ => (match ASt.ev X ⟨0, frOf o.op.operands.toList us, []⟩ x with | .sr b _ _ _ => some b | _ => none)
    | _ => none
theorem locOf_loc {X : Cfg} {o : Oper} {us : List AV} {k : Nat} (h : locOf X o us = some k) : (∀ t a, o.op ≠ .load t a) ∧ isLoc X o k (.tup us) := by
  unfold locOf at h
  split at h
  · rename_i x hx
    cases h
    obtain ⟨k, b0, b1, u⟩ := x
    exact ⟨bornOf_load hx, bornOf_loc hx⟩
  · split at h
    · rename_i t m kx okx he
      split at h
      · rename_i b hb
        cases h
        refine ⟨fun t a e => (by rw [he] at e; cases e), fun st v st' hv => ?_⟩
        obtain ⟨dst, op, type, pos, after, guard⟩ := o
        simp only at he
        subst he
        have hb' : ∀ st : Sto, ASt.ev X ⟨0, frOf (Op.lookup t m kx okx).operands.toList us, st⟩ m = .mr k := fun st => (ev_nost _ st [] m).trans hb
        have e1 : ∀ st st2 : Sto, st2[k]? = st[k]? → entsOf st2 (.mr k) = entsOf st (.mr k) := fun st st2 h => by simp only [entsOf, h]
        have key : ∀ st2 : Sto, st2[k]? = st[k]? → evOper X ⟨0, frOf (Op.lookup t m kx okx).operands.toList us, st2⟩ ⟨dst, .lookup t m kx okx, type, pos, after, guard⟩ = some (v, st2) ∧ st' = st := fun st2 h2 => by
          simp only [evOper, hb'] at hv ⊢
          rw [e1 st st2 h2, ev_nost _ st2 st kx]
          split at hv
          · split at hv
            · split at hv
              · rename_i h6
                rw [if_pos h6]
                split at hv
                · cases hv
                  exact ⟨rfl, rfl⟩
                · cases hv
              · cases hv
            · cases hv
          · cases hv
        refine ⟨none, (key st rfl).2, fun st2 h2 => (key st2 h2).1⟩
      · cases h
    · rename_i t x ix he
      split at h
      · rename_i b g off len hb
        cases h
        refine ⟨fun t a e => (by rw [he] at e; cases e), fun st v st' hv => ?_⟩
        obtain ⟨dst, op, type, pos, after, guard⟩ := o
        simp only at he
        subst he
        have hb' : ∀ st : Sto, ASt.ev X ⟨0, frOf (Op.indexAddr t x ix).operands.toList us, st⟩ x = .sr k g off len := fun st => (ev_nost _ st [] x).trans hb
        have key : ∀ st2 : Sto, st2[k]? = st[k]? → evOper X ⟨0, frOf (Op.indexAddr t x ix).operands.toList us, st2⟩ ⟨dst, .indexAddr t x ix, type, pos, after, guard⟩ = some (v, st2) ∧ st' = st := fun st2 h2 => by
          simp only [evOper, hb'] at hv ⊢
          rw [h2, ev_nost _ st2 st ix]
          split at hv
          · split at hv
            · split at hv
              · split at hv
                · rename_i h6
                  rw [if_pos h6]
                  split at hv
                  · split at hv
                    · rename_i h7
                      rw [if_pos h7]
                      cases hv
                      exact ⟨rfl, rfl⟩
                    · cases hv
                  · cases hv
                · cases hv
              · cases hv
            · cases hv
          · (repeat' split at hv) <;> cases hv
          · cases hv
        refine ⟨none, (key st rfl).2, fun st2 h2 => (key st2 h2).1⟩
      · cases h
    · cases h
/-- an operation that answers the same in each store, and leaves it -/
def blindB (X : Cfg) (o : Oper) (us : List AV) : Bool := match o.op with
  | .build .. | .makeFunc .. | .index .. => (evOper X ⟨0, frOf o.op.operands.toList us, []⟩ o).isSome
  | .indexAddr _ x _ => (match ASt.ev X ⟨0, frOf o.op.operands.toList us, []⟩ x with | .sl _ | .ptr .. | .rp .. => true | _ => false) && (evOper X ⟨0, frOf o.op.operands.toList us, []⟩ o).isSome
  | _ => false
theorem blindB_blind {X : Cfg} {o : Oper} {us : List AV} (h : blindB X o us = true) : (∀ t a, o.op ≠ .load t a) ∧ blind X o (.tup us) := by
  unfold blindB at h
  obtain ⟨dst, op, type, pos, after, guard⟩ := o
  cases op <;> simp only [Bool.false_eq_true] at h
  case build t parts =>
    refine ⟨fun t a e => (by cases e), ?_⟩
    obtain ⟨⟨v, st⟩, hv⟩ := Option.isSome_iff_exists.1 h
    refine ⟨v, fun st2 => ?_⟩
    have e1 : (parts.toList.map fun p => ASt.ev X ⟨0, frOf (Op.build t parts).operands.toList us, st2⟩ p.2) = (parts.toList.map fun p => ASt.ev X ⟨0, frOf (Op.build t parts).operands.toList us, []⟩ p.2) := List.map_congr_left fun p _ => ev_nost _ _ _ _
    have e2 : (parts.toList.map fun p => (p.1, ASt.ev X ⟨0, frOf (Op.build t parts).operands.toList us, st2⟩ p.2)) = (parts.toList.map fun p => (p.1, ASt.ev X ⟨0, frOf (Op.build t parts).operands.toList us, []⟩ p.2)) := List.map_congr_left fun p _ => by rw [ev_nost _ st2 [] p.2]
    simp only [evOper] at hv ⊢
    rw [e1, e2]
    split at hv
    · split at hv
      · rename_i h1
        rw [if_pos h1]
        split at hv
        · cases hv; rfl
        · cases hv
      · cases hv
    · split at hv
      · split at hv
        · rename_i h2
          rw [if_pos h2]
          split at hv
          · cases hv; rfl
          · cases hv
        · cases hv
      · cases hv
    · cases hv
  case makeFunc f a b =>
    refine ⟨fun t a e => (by cases e), ?_⟩
    refine ⟨.fn f (a.toList.map (ASt.ev X ⟨0, frOf (Op.makeFunc f a b).operands.toList us, []⟩)) (b.toList.map (ASt.ev X ⟨0, frOf (Op.makeFunc f a b).operands.toList us, []⟩)), fun st2 => ?_⟩
    have q : ∀ l : List Operand, l.map (ASt.ev X ⟨0, frOf (Op.makeFunc f a b).operands.toList us, st2⟩) = l.map (ASt.ev X ⟨0, frOf (Op.makeFunc f a b).operands.toList us, []⟩) := fun l => List.map_congr_left fun p _ => ev_nost _ _ _ _
    simp only [evOper]
    rw [q, q]
  case indexAddr t x ix =>
    refine ⟨fun t a e => (by cases e), ?_⟩
    rw [Bool.and_eq_true] at h
    obtain ⟨hk, h⟩ := h
    obtain ⟨⟨v, st⟩, hv⟩ := Option.isSome_iff_exists.1 h
    refine ⟨v, fun st2 => ?_⟩
    simp only [evOper] at hv ⊢
    rw [ev_nost _ st2 [] x, ev_nost _ st2 [] ix]
    generalize ASt.ev X ⟨0, frOf (Op.indexAddr t x ix).operands.toList us, []⟩ x = vx at *
    generalize ASt.ev X ⟨0, frOf (Op.indexAddr t x ix).operands.toList us, []⟩ ix = vi at *
    cases vx <;> simp only [Bool.false_eq_true] at hk
    all_goals
      simp only at hv ⊢
      split at hv
      · split at hv
        · split at hv
          · first
              | (cases hv; done)
              | (split at hv
                 · rename_i h1
                   rw [if_pos h1]
                   split at hv
                   · split at hv
                     · rename_i h2
                       rw [if_pos h2]
                       cases hv; rfl
                     · cases hv
                   · cases hv
                 · cases hv)
          · cases hv
        · cases hv
      · split at hv
        · split at hv
          · split at hv
            · rename_i h1
              rw [if_pos h1]
              first | (cases hv; rfl) | (cases hv; done)
            · cases hv
          · cases hv
        · cases hv
      · cases hv
  case index t x ix =>
    refine ⟨fun t a e => (by cases e), ?_⟩
    obtain ⟨⟨v, st⟩, hv⟩ := Option.isSome_iff_exists.1 h
    refine ⟨v, fun st2 => ?_⟩
    simp only [evOper] at hv ⊢
    rw [ev_nost _ st2 [] x, ev_nost _ st2 [] ix]
    generalize ASt.ev X ⟨0, frOf (Op.index t x ix).operands.toList us, []⟩ x = vx at *
    generalize ASt.ev X ⟨0, frOf (Op.index t x ix).operands.toList us, []⟩ ix = vi at *
    split at hv
    · split at hv
      · split at hv
        · rename_i h1
          rw [if_pos h1]
          split at hv
          · cases hv; rfl
          · cases hv
        · cases hv
      · cases hv
    · split at hv
      · split at hv
        · split at hv
          · rename_i h2
            rw [if_pos h2]
            obtain ⟨y, hy, e⟩ := Option.map_eq_some_iff.1 hv
            rw [hy]
            cases e; rfl
          · cases hv
        · cases hv
      · cases hv
    · cases hv

def farB (k : Nat) : AV → Bool
  | .ptr b _ _ _ => decide (b ≠ k)
  | .rp .. => true
  | _ => false
theorem farB_far {k : Nat} {p : AV} (h : farB k p = true) : farP k p := by
  cases p <;> simp_all [farB, farP]
def seesNot (X : Cfg) (ad : List (Nat × AV)) (k j : Nat) (o : Oper) : Bool := silent o || match o.op, ad.lookup j with
  | .load _ _, some p => farB k p
  | _, some (.tup us) => blindB X o us || (match locOf X o us with | some kj => decide (kj ≠ k) | none => false)
  | _, _ => false
def steadyKDB (X : Cfg) (ops : Array Oper) (tab : List (List Nat)) (ad : List (Nat × AV)) (ds : List Nat) (i k : Nat) : Bool :=
  (List.range ops.size).all fun j => !(unord tab i j) || ds.contains j || (match ops[j]? with | some o => seesNot X ad k j o | none => true)
theorem steadyKDB_of {X : Cfg} {ops : Array Oper} {tab : List (List Nat)} {ad : List (Nat × AV)} {ds : List Nat} {i k : Nat} (h : steadyKDB X ops tab ad ds i k = true) : steadyKD X ops tab ad ds i k := fun j o ho hu hd => by
  simp only [steadyKDB, List.all_eq_true, List.mem_range] at h
  have h1 := h j (Array.getElem?_eq_some_iff.1 ho).1
  have hd' : ds.contains j = false := by simpa using hd
  rw [ho, hu, hd'] at h1
  simp only [Bool.not_true, Bool.false_or, seesNot, Bool.or_eq_true] at h1
  rcases h1 with h1 | h1
  · exact .inl h1
  · split at h1
    · rename_i t a p he hl
      exact .inr (.inl ⟨t, a, p, he, hl, farB_far h1⟩)
    · rename_i us hl hn
      simp only [Bool.or_eq_true] at h1
      rcases h1 with h1 | h1
      · obtain ⟨q1, q2⟩ := blindB_blind h1
        exact .inr (.inr (.inl ⟨_, q1, hl, q2⟩))
      · split at h1
        · rename_i kj hk
          obtain ⟨q1, q2⟩ := locOf_loc hk
          exact .inr (.inr (.inr ⟨kj, of_decide_eq_true h1, _, hl, q1, q2⟩))
        · cases h1
    · cases h1

/-- the pairs of stores that a call may stand between -/
noncomputable def varsOf : List (Nat × ABlk × ABlk × AV) → List (Sto × Sto) → List (Sto × Sto)
  | [], T => T
  | (k, b0, b1, _) :: r, T => varsOf r (T ++ T.map fun x => match x.1[k]? with
    | some b => if b.gen = b0.gen then (x.1.set k b1, x.2.set k b1) else (x.1.set k b0, x.2.set k b0)
    | none => x)
noncomputable def bornAt (X : Cfg) (ops : Array Oper) (ad : List (Nat × AV)) (j : Nat) : Option (Nat × ABlk × ABlk × AV) := match ops[j]?, ad.lookup j with
  | some o, some (.tup us) => if o.guard.isNone = true then bornOf X o us else none
  | _, _ => none
def inT (T : List (Sto × Sto)) (a a' : Sto) : Bool := T.any fun y => eqS y.1 a && eqS y.2 a'
theorem inT_mem {T : List (Sto × Sto)} {a a' : Sto} (h : inT T a a' = true) : (a, a') ∈ T := by
  obtain ⟨y, hy, h⟩ := List.any_eq_true.1 h
  rw [Bool.and_eq_true] at h
  obtain ⟨y1, y2⟩ := y
  have e1 := eqS_eq h.1
  have e2 := eqS_eq h.2
  simp only at e1 e2
  subst e1 e2
  exact hy
noncomputable def closeB (T : List (Sto × Sto)) (k : Nat) (b0 b1 : ABlk) : Bool := T.all fun x => eqOB (x.1[k]?) (x.2[k]?) && (match x.1[k]? with
  | some b => (decide (b.gen ≠ b0.gen) || inT T (x.1.set k b1) (x.2.set k b1)) && (decide (b.gen ≠ b1.gen) || inT T (x.1.set k b0) (x.2.set k b0))
  | none => true)
noncomputable def calmB (X : Cfg) (ad : List (Nat × AV)) (T : List (Sto × Sto)) (j : Nat) (o : Oper) : Bool := silent o || match o.op, ad.lookup j with
  | .load t _, some p => (match X.T t with | some ti => T.all fun x => eqO (loadAt ti x.1 p) (loadAt ti x.2 p) | none => true)
  | _, some (.tup us) => blindB X o us
  | _, _ => false
/-- the call i, between st and st2, with its variants -/
noncomputable def DokB (X : Cfg) (ops : Array Oper) (tab : List (List Nat)) (ad : List (Nat × AV)) (ds : List Nat) (T : List (Sto × Sto)) (i : Nat) (o : Oper) : Bool :=
  o.guard.isNone && (match o.op, ad.lookup i with
    | .call _, some (.tup vs) => (match evOperF X ⟨0, frOf o.op.operands.toList vs, (T.headD ([], [])).1⟩ o with
      | some (v, _) => T.all fun x => (match evOperF X ⟨0, frOf o.op.operands.toList vs, x.1⟩ o with | some (v', a') => eqA v' v && eqS a' x.2 | none => false)
      | none => false)
    | _, _ => false) &&
  (List.range ops.size).all fun j => !(unord tab i j) || (!(ds.contains j) && (match ops[j]? with
    | some oj => (match bornAt X ops ad j with
      | some (k, b0, b1, _) => closeB T k b0 b1 && steadyKDB X ops tab ad ds j k
      | none => calmB X ad T j oj)
    | none => true))
theorem DokB_of {X : Cfg} {ops : Array Oper} {tab : List (List Nat)} {ad : List (Nat × AV)} {ds : List Nat} {T : List (Sto × Sto)} {i : Nat} {o : Oper} {st st' : Sto} (hm : (st, st') ∈ T) (h : DokB X ops tab ad ds T i o = true) : DOk X ops tab ad ds i o st st' := by
  simp only [DokB, Bool.and_eq_true] at h
  obtain ⟨⟨h1, h2⟩, h3⟩ := h
  split at h2
  · rename_i c vs hop hlk
    split at h2
    · rename_i v w hv
      refine ⟨Option.isNone_iff_eq_none.1 h1, fun t a e => (by rw [hop] at e; cases e), vs, v, T, hlk, hm, fun x hx => ?_, fun j oj hoj hu => ?_⟩
      · have := List.all_eq_true.1 h2 x hx
        rw [hop] at this ⊢
        simp only [evOperF_eq] at this
        split at this
        · rename_i v' a' he
          rw [Bool.and_eq_true] at this
          rw [he, eqA_eq this.1, eqS_eq this.2]
        · cases this
      · simp only [List.all_eq_true, List.mem_range] at h3
        have h4 := h3 j (Array.getElem?_eq_some_iff.1 hoj).1
        rw [hu, hoj] at h4
        simp only [Bool.not_true, Bool.false_or, Bool.and_eq_true, Bool.not_eq_true'] at h4
        obtain ⟨h5, h6⟩ := h4
        refine ⟨by simpa using h5, ?_⟩
        split at h6
        · rename_i k b0 b1 u hb
          rw [Bool.and_eq_true] at h6
          right
          unfold bornAt at hb
          rw [hoj] at hb
          split at hb
          · rename_i o2 us e1 hl
            cases e1
            simp only [Option.ite_none_right_eq_some] at hb
            refine ⟨Option.isNone_iff_eq_none.1 hb.1, us, k, b0, b1, u, hl, hb.2, steadyKDB_of h6.2, fun x hx => ?_⟩
            have h7 := List.all_eq_true.1 h6.1 x hx
            rw [Bool.and_eq_true] at h7
            have e0 := eqOB_eq h7.1
            refine ⟨e0, fun hk => ?_, fun hk => ?_⟩
            · rw [hk] at h7
              simp only [ne_eq, not_true_eq_false, decide_false, Bool.false_or, Bool.and_eq_true] at h7
              exact inT_mem h7.2.1
            · rw [hk] at h7
              simp only [ne_eq, not_true_eq_false, decide_false, Bool.false_or, Bool.and_eq_true] at h7
              exact inT_mem h7.2.2
          · cases hb
        · left
          intro x hx
          simp only [calmB, Bool.or_eq_true] at h6
          rcases h6 with h6 | h6
          · exact .inl h6
          · split at h6
            · rename_i t a p he hl
              refine .inr (.inl ⟨t, a, p, he, hl, fun ti ht => ?_⟩)
              rw [ht] at h6
              exact eqO_eq (List.all_eq_true.1 h6 x hx)
            · rename_i us hl hn
              obtain ⟨q1, q2⟩ := blindB_blind h6
              exact .inr (.inr ⟨_, q1, hl, .inl q2⟩)
            · cases h6
    · cases h2
  · cases h2

def bornLike (o : Oper) : Bool := o.guard.isNone && o.dst.isSome && (match o.op with | .alloc _ | .box .. | .makeMap _ none => true | _ => false)
def isLoad (o : Oper) : Bool := match o.op with | .load .. => true | _ => false
def isCallO (o : Oper) : Bool := match o.op with | .call ⟨.value _, _, _⟩ => true | _ => false
/-- the operations for which blocks are set aside -/
noncomputable def resvs (ops : Array Oper) (tab : List (List Nat)) : List Nat := (List.range ops.size).filter fun j => match ops[j]? with
  | some o => bornLike o && (List.range ops.size).any fun i => unord tab j i && (match ops[i]? with | some oi => !(silent oi) && !(isLoad oi) | none => false)
  | none => false
noncomputable def resvBlk (X : Cfg) (ops : Array Oper) (j : Nat) : ABlk := match ops[j]? with
  | some o => (match o.op with
    | .alloc t => (match X.T t with | some ti => .row ti.size 0 0 [] | none => .row 0 0 0 [])
    | .box t _ => (match X.T t with | some ti => .row ti.size 0 0 [] | none => .row 0 0 0 [])
    | .makeMap .. => .tick 0
    | _ => .row 0 0 0 [])
  | none => .row 0 0 0 []
noncomputable def resvA (ops : Array Oper) : List Nat → Nat → List (Nat × Nat)
  | [], _ => []
  | j :: r, n => match ops[j]? with
    | some o => (match o.dst with | some d => (d, n) :: resvA ops r (n + 1) | none => resvA ops r (n + 1))
    | none => resvA ops r (n + 1)
/-- the calls that may come before or behind them -/
noncomputable def dsOf (ops : Array Oper) (tab : List (List Nat)) (rs : List Nat) : List Nat := (List.range ops.size).filter fun i => match ops[i]? with
  | some o => isCallO o && rs.any fun j => unord tab i j
  | none => false
noncomputable def condB (X : Cfg) (ops : Array Oper) (tab : List (List Nat)) (ad : List (Nat × AV)) (ds rs : List Nat) (i : Nat) (o : Oper) (st st' : Sto) : Bool :=
  if ds.contains i = true then DokB X ops tab ad ds (varsOf ((rs.filter fun j => unord tab i j).filterMap (bornAt X ops ad)) [(st, st')]) i o
  else keeps o || barrier ops tab i || (steadyB X ops tab i st st' ad && barrierL ops tab ad i) || (match ad.lookup i with
    | some (.tup us) => (match bornOf X o us with | some x => steadyKDB X ops tab ad ds i x.1 | none => false)
    | _ => false)
theorem varsOf_mem {x : Sto × Sto} : ∀ (l : List (Nat × ABlk × ABlk × AV)) (T : List (Sto × Sto)), x ∈ T → x ∈ varsOf l T
  | [], _, h => h
  | (k, b0, b1, u) :: r, T, h => varsOf_mem r _ (List.mem_append_left _ h)
theorem condB_of {X : Cfg} {ops : Array Oper} {tab : List (List Nat)} {ad : List (Nat × AV)} {ds rs : List Nat} {i : Nat} {o : Oper} {s s1 : ASt} (h1 : step1 X (gdOf ops.toList) s o = some s1) (h : condB X ops tab ad ds rs i o s.st s1.st = true) : CondD X ops tab ad ds i o s.st s1.st := by
  unfold condB at h
  split at h
  · rename_i hd
    exact .inl ⟨by simpa using hd, DokB_of (varsOf_mem _ _ (by simp)) h⟩
  · rename_i hd
    refine .inr ⟨by simpa using hd, ?_⟩
    rw [Bool.or_eq_true, Bool.or_eq_true, Bool.or_eq_true, Bool.and_eq_true] at h
    rcases h with ((h | h) | h) | h
    · exact .inl (step1_keeps h h1)
    · exact .inr (.inl (steady_of_barrier h))
    · exact .inr (.inl (steady_of_B h.2 h.1))
    · split at h
      · rename_i us hl
        split at h
        · rename_i x hx
          obtain ⟨k, b0, b1, u⟩ := x
          exact .inr (.inr ⟨k, ⟨_, hl, bornOf_load hx, bornOf_loc hx⟩, steadyKDB_of h⟩)
        · cases h
      · cases h
noncomputable def rdD (X : Cfg) (ops : Array Oper) (tab : List (List Nat)) (ad : List (Nat × AV)) (ds rs : List Nat) : List Oper → Nat → ASt → Option ASt
  | [], _, s => some s
  | o :: r, i, s => match step1F X (gdOf ops.toList) s o with
    | some s1 => if condB X ops tab ad ds rs i o s.st s1.st = true then rdD X ops tab ad ds rs r (i + 1) s1 else none
    | none => none
theorem rdD_drawP {X : Cfg} {ops : Array Oper} {tab : List (List Nat)} {ad : List (Nat × AV)} {ds rs : List Nat} {K : ASt → Prop} : ∀ (l : List Oper) (i : Nat) (s : ASt) (s' : ASt), (∀ j, i ≤ j → ad.lookup j = (adRun X ops.toList l i s).lookup j) → rdD X ops tab ad ds rs l i s = some s' → K s' → drawPD X ops tab ad ds l i s K
  | [], _, s, s', _, h, hk => by cases h; exact hk
  | o :: l, i, s, s', ha, h, hk => by
    unfold rdD at h
    split at h
    · rename_i s1 h1
      simp only [Option.ite_none_right_eq_some] at h
      obtain ⟨ht, h⟩ := h
      unfold adRun at ha
      rw [h1] at ha
      simp only at ha
      rw [step1F_eq] at h1
      have hi := ha i (Nat.le_refl _)
      rw [List.lookup_cons, beq_self_eq_true] at hi
      refine ⟨s1, ⟨fun t a p he hp => ?_, fun p he hp => ?_⟩, h1, condB_of h1 ht, rdD_drawP l (i + 1) s1 s' (fun j hj => ?_) h hk⟩
      · rw [hi] at hp
        cases hp
        unfold opV
        rw [he]
      · rw [hi] at hp
        cases hp
        unfold opV
        split
        · rename_i t a e; exact absurd e (he t a)
        · rfl
      · rw [ha j (by omega), List.lookup_cons]
        have : (j == i) = false := by simp; omega
        rw [this]
    · cases h
/-- a region that draws, with blocks set aside -/
noncomputable def drawE (X : Cfg) (ops : Array Oper) (tab : List (List Nat)) (s : ASt) : Option ASt :=
  if (((resvs ops tab).map (resvBlk X ops)).all resvOk && (decide (s.st.length ≠ 0) || ((resvs ops tab).map (resvBlk X ops)).all isRowB)) = true then
    rdD { X with A := resvA ops (resvs ops tab) s.st.length } ops tab (adRun { X with A := resvA ops (resvs ops tab) s.st.length } ops.toList ops.toList 0 { s with st := s.st ++ (resvs ops tab).map (resvBlk X ops) }) (dsOf ops tab (resvs ops tab)) (resvs ops tab) ops.toList 0 { s with st := s.st ++ (resvs ops tab).map (resvBlk X ops) }
  else none
theorem drawE_ev {P : Program} {X : Cfg} {G0 : Gh} {s s' : ASt} {Q : Exit → ASt → Prop} (ok : OkX P X) (hm : P.follows .mixedOrders = true) {id : Nat} {ops : Array Oper} {tab : List (List Nat)} (hok : drawOK ops tab = true) (h : drawE X ops tab s = some s') (hq : Q .normal s') : Ev P X G0 (.region id ops true) s Q := by
  unfold drawE at h
  simp only [Option.ite_none_right_eq_some, Bool.and_eq_true, Bool.or_eq_true, decide_eq_true_eq] at h
  obtain ⟨⟨h1, h2⟩, h3⟩ := h
  exact ev_drawD ok hm hok h1 (h2.imp (fun h e => h (by rw [e]; rfl)) (fun h => h)) (rdD_drawP _ 0 _ s' (fun _ _ => rfl) h3 hq)
end Go.Proofs.YtgpkochbmfhmdaaGreatDoor.Lift
namespace Go.Proofs.YtgpkochbmfhmdaaGreatDoor.Lift
open Go
set_option maxRecDepth 100000

/-- a region that draws -/
noncomputable def drawC (X : Cfg) (ops : Array Oper) (tab : List (List Nat)) (s : ASt) : Option ASt :=
  if (resvs ops tab).isEmpty = true then rdC X ops tab (adRun X ops.toList ops.toList 0 s) ops.toList 0 s else drawE X ops tab s
/-- rounds of a loop -/
def rounds (f : ASt → Option (Exit × ASt)) : Nat → ASt → Option (Exit × ASt)
  | 0, _ => none
  | m + 1, s => match f s with
    | some (.normal, s') => rounds f m (tidy s')
    | r => r
/-- CODE THAT IS RUN (m: so many rounds of a loop at most) -/
noncomputable def rc (X : Cfg) (m : Nat) : Code → ASt → Option (Exit × ASt)
  | .skip, s => some (.normal, s)
  | .label _, s => some (.normal, s)
  | .exit id, s => some (.exit id, s)
  | .goto l, s => some (.goto l, s)
  | .ret, s => some (.ret, s)
  | .seq x y, s => match rc X m x s with
    | some (.normal, s') => rc X m y s'
    | r => r
  | .cond c x y, s => match s.ev X c with
    | .bool true => rc X m x s
    | .bool false => rc X m y s
    | _ => none
  | .block id c, s => match rc X m c s with
    | some (.exit id', s') => if id' = id then some (.normal, s') else some (.exit id', s')
    | r => r
  | .scope c, s => match rc X m c s with
    | some (.goto _, _) => none
    | r => r
  | .region _ ops false, s => match evOpsF X (gdOf ops.toList) ops.toList s with
    | some s' => some (.normal, s')
    | none => none
  | .region _ ops true, s => if drawOK ops (ancTab ops.toList []) = true then (match drawC X ops (ancTab ops.toList []) s with
    | some s' => some (.normal, s')
    | none => none) else none
  | .loop c, s => rounds (rc X m c) m s
  | _, _ => none

theorem rounds_Rounds {P : Program} {X : Cfg} {G0 : Gh} {c : Code} {f : ASt → Option (Exit × ASt)} {e : Exit} {s' : ASt} {Q : Exit → ASt → Prop} (hf : ∀ (s : ASt) (e : Exit) (s' : ASt) (Q : Exit → ASt → Prop), f s = some (e, s') → Q e s' → Ev P X G0 c s Q) (hne : e ≠ .normal) (hq : Q e s') :
    ∀ (m : Nat) (s : ASt), rounds f m s = some (e, s') → Rounds P X G0 c Q m s
  | 0, s, h => by cases h
  | m + 1, s, h => by
    unfold rounds at h
    split at h
    · rename_i s1 h1
      exact hf s .normal s1 _ h1 (rounds_weak (tidy_weak s1).less (rounds_Rounds hf hne hq m (tidy s1) h))
    · refine hf s e s' _ h ?_
      cases e <;> first | exact absurd rfl hne | exact hq
theorem rounds_ne {f : ASt → Option (Exit × ASt)} {e : Exit} {s' : ASt} : ∀ {m : Nat} {s : ASt}, rounds f m s = some (e, s') → e ≠ .normal
  | 0, s, h => by cases h
  | m + 1, s, h => by
    unfold rounds at h
    split at h
    · exact rounds_ne h
    · rename_i hn
      intro he
      subst he
      exact hn s' h
theorem rc_ev {P : Program} {X : Cfg} {G0 : Gh} (ok : OkX P X) (hm : P.follows .mixedOrders = true) (m : Nat) : ∀ (c : Code) (s : ASt) (e : Exit) (s' : ASt) (Q : Exit → ASt → Prop), rc X m c s = some (e, s') → Q e s' → Ev P X G0 c s Q := by
  intro c
  induction c with
  | skip => intro s e s' Q h hq; cases h; exact ev_skip hq
  | label l => intro s e s' Q h hq; cases h; exact ev_label hq
  | exit l => intro s e s' Q h hq; cases h; exact ev_exit hq
  | goto l => intro s e s' Q h hq; cases h; exact ev_goto hq
  | ret => intro s e s' Q h hq; cases h; exact ev_ret hq
  | seq x y ihx ihy =>
    intro s e s' Q h hq
    unfold rc at h
    split at h
    · rename_i s1 h1
      exact ev_seq (ihx s .normal s1 _ h1 (ihy s1 e s' Q h hq))
    · rename_i hn
      refine ev_seq (ihx s e s' _ h ?_)
      cases e with
      | normal => exact absurd h (hn s')
      | _ => exact hq
  | cond c x y ihx ihy =>
    intro s e s' Q h hq
    unfold rc at h
    split at h
    · rename_i hc
      exact ev_cond trivial hc (fun _ => ihx s e s' Q h hq) (fun h => by cases h)
    · rename_i hc
      exact ev_cond trivial hc (fun h => by cases h) (fun _ => ihy s e s' Q h hq)
    · cases h
  | block id c ih =>
    intro s e s' Q h hq
    unfold rc at h
    split at h
    · rename_i id' s1 h1
      refine ev_block (ih s _ s1 _ h1 ?_)
      simp only [blockQ]
      split at h
      · rename_i hid
        cases h
        rw [if_pos hid]; exact hq
      · rename_i hid
        cases h
        rw [if_neg hid]; exact hq
    · rename_i hn
      refine ev_block (ih s e s' _ h ?_)
      cases e with
      | exit id' => exact absurd h (hn id' s')
      | _ => exact hq
  | scope c ih =>
    intro s e s' Q h hq
    unfold rc at h
    split at h
    · cases h
    · rename_i hn
      refine ev_scope (ih s e s' _ h ?_)
      cases e with
      | goto l => exact absurd h (hn l s')
      | _ => exact hq
  | region id ops d =>
    intro s e s' Q h hq
    cases d with
    | false =>
      unfold rc at h
      split at h
      · rename_i s1 h1
        cases h
        rw [evOpsF_eq] at h1
        exact ev_region ok ⟨_, h1, hq⟩
      · cases h
    | true =>
      unfold rc at h
      simp only [Option.ite_none_right_eq_some] at h
      obtain ⟨hok, h⟩ := h
      split at h
      · rename_i s1 h1
        cases h
        unfold drawC at h1
        split at h1
        · exact ev_draw ok hm hok (rdC_drawP _ 0 s _ (fun _ _ => rfl) h1 hq)
        · exact drawE_ev ok hm hok h1 hq
      · cases h
  | loop c ih =>
    intro s e s' Q h hq
    unfold rc at h
    exact ev_rounds m (rounds_Rounds (fun s e s' Q h hq => ih s e s' Q h hq) (rounds_ne h) hq m s h)
  | _ => intro s e s' Q h hq; simp [rc] at h

/-- a contract with a store: the newest blocks are left at the end -/
theorem soundD_of_ev {E : Env} {B : List Nat} (ok : OkX Tryz.prog (XB E B)) (hm : Tryz.prog.follows .mixedOrders = true) {f : Nat} {fn : Func} (hf : Tryz.prog.funcs[f]? = some fn) (hb : fn.body.isSome = true) (hn : (fn.name == "runtime.NumGoroutine") = false) {S : Spec}
    (h : ∀ args st r st', S args st = some (r, st') → st.all (blwB st.length) = true → st.length ≤ st'.length ∧ st'.all (blwB st'.length) = true ∧ blw st'.length r = true ∧ ∀ G0 : { G : Gh // G.σ = st }, Ev Tryz.prog (XB E B) G0.1 (fn.body.get hb) (entry fn args st) (fun e s => (e = .normal ∨ e = .ret) ∧ resAs (XB E B) s fn.results.toList = some r ∧ s.st.take st'.length = st')) : SoundF Tryz.prog gl f S where
  calls := fun G args vals r σ' hr inv hJ hg hargs => by
    obtain ⟨hlen, hall, hblw, hw⟩ := h args G.σ r σ' hr inv.shut
    have hev := hw ⟨G, rfl⟩
    have hst := entry_st (X := XB E B) (fn := fn) inv hg hJ hargs
    have hc : fn.body = some (fn.body.get hb) := by simp
    refine .inl ⟨run_callFunc hf (by rw [← Option.not_isSome, hb]; rfl) hn _ _, (callsIn_wide (n := 0)).1 (callsIn_of_wp_marks hf hc trivial ?_)⟩
    refine wpIn_mono (hev Fence.wide 0 _ _ ⟨.inl rfl, .inr rfl⟩ hst) fun e a' w' ⟨s', ⟨he, h1, h2⟩, h3⟩ => ?_
    obtain ⟨G1, rfl, hs, inv1, hg1, x1, hJ1, rs, hd, hnd, hne, hrs⟩ := h3
    have key : LeavesInM Fence.wide 0 Tryz.prog fn a'.tmps (Ret G r σ') a'.defers .returning G1.w := by
      rw [hd]
      refine leaves_marks rs G1.w hnd (fun r hr => (hrs r hr).1) fun w' hp => ?_
      obtain ⟨G2, rfl, e2, x2, inv2, tr⟩ := hp.ext rfl (fun r hr => (hrs r hr).2.1) (fun h => hJ1.trans (hne h).1) inv1 x1
      have hs2 : Slots G2 s' a' := ⟨hs.1, fun t => tr _ _ (hs.2.1 t), e2.trans hs.2.2⟩
      obtain ⟨u, h4, h5⟩ := run_results (X := XB E B) rfl inv2 hs2 h1
      have hcut : s'.st = σ' ++ s'.st.drop σ'.length := by conv => lhs; rw [← List.take_append_drop σ'.length s'.st, h2]
      have hg2 : Glob (XB E B) G2 := fun g v hv => (hg g v hv).ext x2
      obtain ⟨_, inv3, _, x3⟩ := drop_at (X := XB E B) (a := a') (n := s'.n) (fr := fun _ => .undef) fz_gl hlen rfl hcut hall (fun _ => .inl rfl) hs2 inv2 hg2 x2
      refine ⟨u, h4, { G2 with σ := σ' }, rfl, rfl, x3, inv3, ?_⟩
      refine Rep.cut (k := σ'.length) (G := G2) (H := { G2 with σ := σ' }) ⟨rfl, rfl, rfl, fun b hb => ?_⟩ hblw h5
      show σ'[b]? = G2.σ[b]?
      rw [hs2.2.2, hcut, List.getElem?_append_left hb]
    rcases he with rfl | rfl <;> exact key

def isEnd : Exit → Bool
  | .normal | .ret => true
  | _ => false
theorem isEnd_iff {e : Exit} (h : isEnd e = true) : e = .normal ∨ e = .ret := by cases e <;> simp_all [isEnd]
/-- a function that is run: all its blocks stay -/
noncomputable def runK (X : Cfg) (m : Nat) (fn : Func) (c : Code) : Spec := fun args st =>
  match rc X m c (tidy (entry fn args st)) with
  | some (e, s') => if isEnd e = true then (match resAs X s' fn.results.toList with
    | some r => some (r, s'.st)
    | none => none) else none
  | none => none
noncomputable def mayDrop (st : Sto) (r : AV) (st' : Sto) : Bool := blw st.length r && decide (st.length ≤ st'.length) && (st'.take st.length).all (blwB st.length)
/-- .. its new blocks are left at the end -/
noncomputable def runD (X : Cfg) (m : Nat) (fn : Func) (c : Code) : Spec := fun args st =>
  match rc X m c (tidy (entry fn args st)) with
  | some (e, s') => if isEnd e = true then (match resAs X s' fn.results.toList with
    | some r => if mayDrop st r s'.st = true then some (r, s'.st.take st.length) else none
    | none => none) else none
  | none => none
/-- A FUNCTION THAT IS RUN (drop: its new blocks are left at the end, if nothing holds them) -/
noncomputable def runS (X : Cfg) (m : Nat) (fn : Func) (c : Code) (drop : Bool) : Spec := fun args st =>
  match rc X m c (tidy (entry fn args st)) with
  | some (e, s') => if isEnd e = true then (match resAs X s' fn.results.toList with
    | some r => if drop = true ∧ mayDrop st r s'.st = true then some (r, s'.st.take st.length) else some (r, s'.st)
    | none => none) else none
  | none => none
section
variable {E : Env} {B : List Nat} {f : Nat} {fn : Func}
theorem sound_runK (ok : OkX Tryz.prog (XB E B)) (m : Nat) (hf : Tryz.prog.funcs[f]? = some fn) (hb : fn.body.isSome = true) (hn : (fn.name == "runtime.NumGoroutine") = false) : SoundF Tryz.prog gl f (runK (XB E B) m fn (fn.body.get hb)) := by
  refine soundF_of_ev' (X := XB E B) rfl hf (c := fn.body.get hb) (by simp) hn fun args st r st' h G0 hσ => ?_
  unfold runK at h
  split at h
  · rename_i e s1 h1
    simp only [Option.ite_none_right_eq_some] at h
    obtain ⟨he, h⟩ := h
    split at h
    · rename_i r1 h2
      cases h
      exact ev_weak (tidy_weak _).less (rc_ev ok mixed m _ _ e s1 _ h1 ⟨isEnd_iff he, h2, rfl⟩)
    · cases h
  · cases h
theorem sound_runD (ok : OkX Tryz.prog (XB E B)) (m : Nat) (hf : Tryz.prog.funcs[f]? = some fn) (hb : fn.body.isSome = true) (hn : (fn.name == "runtime.NumGoroutine") = false) : SoundF Tryz.prog gl f (runD (XB E B) m fn (fn.body.get hb)) := by
  refine soundD_of_ev ok mixed hf hb hn fun args st r st' h hsh => ?_
  unfold runD at h
  split at h
  · rename_i e s1 h1
    simp only [Option.ite_none_right_eq_some] at h
    obtain ⟨he, h⟩ := h
    split at h
    · rename_i r1 h2
      simp only [Option.ite_none_right_eq_some, mayDrop, Bool.and_eq_true, decide_eq_true_eq] at h
      obtain ⟨⟨⟨h3, h4⟩, h5⟩, h6⟩ := h
      cases h6
      have hl : (s1.st.take st.length).length = st.length := by rw [List.length_take]; omega
      refine ⟨by omega, by rw [hl]; exact h5, by rw [hl]; exact h3, fun G0 => ?_⟩
      exact ev_weak (tidy_weak _).less (rc_ev ok mixed m _ _ e s1 _ h1 ⟨isEnd_iff he, h2, by rw [hl]⟩)
    · cases h
  · cases h
theorem sound_runS (ok : OkX Tryz.prog (XB E B)) (m : Nat) (drop : Bool) (hf : Tryz.prog.funcs[f]? = some fn) (hb : fn.body.isSome = true) (hn : (fn.name == "runtime.NumGoroutine") = false) : SoundF Tryz.prog gl f (runS (XB E B) m fn (fn.body.get hb) drop) where
  calls := fun G args vals r σ' h inv hJ hg hargs => by
    unfold runS at h
    split at h
    · rename_i e s1 h1
      simp only [Option.ite_none_right_eq_some] at h
      obtain ⟨he, h⟩ := h
      split at h
      · rename_i r1 h2
        split at h
        · rename_i hd
          cases h
          refine (sound_runD ok m hf hb hn).calls G args vals _ _ ?_ inv hJ hg hargs
          unfold runD
          rw [h1]
          simp only [he, if_true, h2, hd.2]
        · cases h
          refine (sound_runK ok m hf hb hn).calls G args vals _ _ ?_ inv hJ hg hargs
          unfold runK
          rw [h1]
          simp only [he, if_true, h2]
      · cases h
    · cases h
end
/-- a pure contract out of a run -/
theorem soundP_run {E : Env} {B : List Nat} (ok : OkX Tryz.prog (XB E B)) (m : Nat) {f : Nat} {fn : Func} (hf : Tryz.prog.funcs[f]? = some fn) (hb : fn.body.isSome = true) (hn : (fn.name == "runtime.NumGoroutine") = false) {g : List AV → Option AV}
    (h : ∀ args r, g args = some r → fz r = true ∧ ∃ st', runK (XB E B) m fn (fn.body.get hb) args [] = some (r, st')) : SoundP Tryz.prog gl f g := by
  refine soundP_of_ev (X := XB E B) rfl hf (c := fn.body.get hb) (by simp) hn fun args r hr G0 => ?_
  obtain ⟨hz, st', h2⟩ := h args r hr
  unfold runK at h2
  split at h2
  · rename_i e s1 h1
    simp only [Option.ite_none_right_eq_some] at h2
    obtain ⟨he, h2⟩ := h2
    split at h2
    · rename_i r1 h3
      cases h2
      exact ev_weak (tidy_weak _).less (rc_ev ok mixed m _ _ e s1 _ h1 ⟨isEnd_iff he, 0, r, h3, peek_fz hz⟩)
    · cases h2
  · cases h2
end Go.Proofs.YtgpkochbmfhmdaaGreatDoor.Lift
namespace Go.Proofs.YtgpkochbmfhmdaaGreatDoor.Lift
open Go
set_option maxRecDepth 100000

/-- a pointer to something frozen -/
def cRp {α : Type} (c : Cod α) : Cod α where
  enc := fun x => .rp (c.enc x) 0
  dec := fun v => match v with | .rp x 0 => c.dec x | _ => none
  de := c.de
  ed := fun v x h => by
    split at h
    · rw [c.ed _ _ h]
    · cases h
  fz := fun x => c.fz x
/-- a closure with one captured variable -/
def cFn1 {α : Type} (f : Nat) (c : Cod α) : Cod α where
  enc := fun x => .fn (.func f) [] [c.enc x]
  dec := fun v => match v with | .fn (.func g) [] [x] => if g = f then c.dec x else none | _ => none
  de := fun x => by simp [c.de]
  ed := fun v x h => by
    split at h
    · rename_i g y
      split at h
      · rename_i e; subst e; rw [c.ed _ _ h]
      · cases h
    · cases h
  fz := fun x => by simp [fz, fzL, c.fz]
@[simp] theorem cRp_dec {α : Type} (c : Cod α) (x : AV) : (cRp c).dec (.rp x 0) = c.dec x := rfl
@[simp] theorem cRp_enc {α : Type} (c : Cod α) (x : α) : (cRp c).enc x = .rp (c.enc x) 0 := rfl
@[simp] theorem cFn1_dec {α : Type} (f : Nat) (c : Cod α) (x : AV) : (cFn1 f c).dec (.fn (.func f) [] [x]) = c.dec x := by simp [cFn1]
@[simp] theorem cFn1_enc {α : Type} (f : Nat) (c : Cod α) (x : α) : (cFn1 f c).enc x = .fn (.func f) [] [c.enc x] := rfl

theorem p_up11 : SoundP Tryz.prog gl 104 (fn2 cClass (cRp cStr) encBool fun c s => some (decide (c.name = s))) := by
  refine soundP_of_wk okX_nil mixed Tryz.func104 rfl rfl fun args r h G0 => ?_
  obtain ⟨c, s, e, rfl, he, rfl⟩ := fn2_inv h
  cases he
  simp [Tryz.f104, entry]
  exact finS_fz (by simp)

/-- the place of the first class of a name -/
def placeOf (l : List AClass) (s : Str) : Nat := l.findIdx fun c => decide (c.name = s)
def placeInt (l : List AClass) (s : Str) : Int := if placeOf l s < l.length then placeOf l s else -1
theorem p_IndexFuncUp : SoundP Tryz.prog gl 103 (fn2 (cL cClass) (cFn1 104 (cRp cStr)) encInt fun l s => if l.length < 1099511627776 then some (placeInt l s) else none) := by
  have okx := okX_nil.addP p_up11
  refine soundP_of_wk okx mixed Tryz.func103 rfl rfl fun args r h G0 => ?_
  obtain ⟨l, s, e, rfl, he, rfl⟩ := fn2_inv h
  simp only [Option.ite_none_right_eq_some, Option.some.injEq] at he
  obtain ⟨hs, rfl⟩ := he
  simp [Tryz.f103, entry]
  refine lp_of okx mixed (fun (i : Nat) => ⟨19, frL [(0, .sl (l.map encClass)), (1, .fn (.func 104) [] [.rp (.str s) 0]), (7, .int .i64 l.length), (8, .int .i64 i)], []⟩) (fun i => i ≤ l.length ∧ ∀ (j : Nat) (h : j < l.length), j < i → ¬ l[j].name = s) (fun i => l.length - i) 0 (by simp) (weak_frL rfl rfl (by simp)) ?_
  intro i ⟨hi, hn⟩
  simp
  refine br_dec (fun h3 => ?_) (fun h3 => ?_)
  · have hx : l[i]? = some l[i] := by simp [h3]
    have hw := wrap_i64 (show (-9223372036854775808 : Int) ≤ (i : Int) + 1 by omega) (by omega)
    simp [hx]
    refine br_dec (fun h4 => ?_) (fun h4 => ?_)
    · have hp : placeOf l s = i := by
        unfold placeOf
        rw [List.findIdx_eq h3]
        exact ⟨by simpa using h4, fun j hj => by simpa using hn j (by omega) hj⟩
      simp
      exact finS_eq (by simp [placeInt, hp, h3]) rfl
    · simp [hw]
      refine nextQ_of (i + 1) ⟨h3, fun j hj hji => ?_⟩ (by omega) (weak_frL rfl rfl (by simp))
      rcases Nat.lt_or_ge j i with h5 | h5
      · exact hn j hj h5
      · have : j = i := by omega
        subst this
        exact h4
  · have hi' : i = l.length := by omega
    have hp : placeOf l s = l.length := by
      unfold placeOf
      rw [List.findIdx_eq_length]
      intro c hc
      obtain ⟨j, hj, rfl⟩ := List.getElem_of_mem hc
      simpa using hn j hj (by omega)
    simp
    exact finS_eq (by simp [placeInt, hp]) rfl

/-- what is above a class at once -/
def superOf (l : List AClass) (s : Str) : Str := if h : placeOf l s < l.length then l[placeOf l s].super else []
/-- how many classes' supers were not met -/
def unmet (l : List AClass) (met : List Str) : Nat := (l.filter fun c => decide (c.super ∉ met)).length
theorem superOf_mem {l : List AClass} {s : Str} (h : superOf l s ≠ []) : ∃ c ∈ l, c.super = superOf l s := by
  unfold superOf at h ⊢
  split
  · exact ⟨_, List.getElem_mem _, rfl⟩
  · rename_i h'; rw [dif_neg h'] at h; exact absurd rfl h
theorem filter_lt {α : Type} {p q : α → Bool} {l : List α} (hpq : ∀ x, q x = true → p x = true) {a : α} (ha : a ∈ l) (h1 : p a = true) (h2 : q a = false) : (l.filter q).length < (l.filter p).length := by
  induction l with
  | nil => cases ha
  | cons b l ih =>
    have hle : (l.filter q).length ≤ (l.filter p).length := by
      clear ih ha
      induction l with
      | nil => simp
      | cons c l ih =>
        simp only [List.filter_cons]
        cases hq : q c with
        | true => simp [hpq c hq, ih]
        | false => cases p c <;> simp <;> omega
    simp only [List.filter_cons]
    rcases List.mem_cons.1 ha with rfl | hb
    · simp [h1, h2]; omega
    · have := ih hb
      cases hq : q b with
      | true => simp [hpq b hq, this]
      | false => cases p b <;> simp <;> omega
theorem unmet_lt {l : List AClass} {met : List Str} {s : Str} (h : superOf l s ≠ []) (h' : superOf l s ∉ met) : unmet l (met ++ [superOf l s]) < unmet l met := by
  obtain ⟨c, hc, e⟩ := superOf_mem h
  refine filter_lt (a := c) (fun x hx => ?_) hc (by simpa [e] using h') (by simp [e])
  simp at hx ⊢
  exact hx.1
/-- the classes above one: 10.2 -/
def aboveOf (l : List AClass) (met : List Str) (s : Str) : List Str :=
  if h : superOf l s = [] ∨ superOf l s ∈ met then [] else superOf l s :: aboveOf l (met ++ [superOf l s]) (superOf l s)
termination_by unmet l met
decreasing_by exact unmet_lt (fun e => h (.inl e)) (fun e => h (.inr e))
theorem aboveOf_nil {l : List AClass} {met : List Str} {s : Str} (h : superOf l s = [] ∨ superOf l s ∈ met) : aboveOf l met s = [] := by rw [aboveOf]; simp [h]
theorem aboveOf_cons {l : List AClass} {met : List Str} {s : Str} (h : superOf l s ≠ []) (h' : superOf l s ∉ met) : aboveOf l met s = superOf l s :: aboveOf l (met ++ [superOf l s]) (superOf l s) := by
  conv => lhs; rw [aboveOf]
  rw [dif_neg fun e => e.elim h h']

/-- kind.up makes an iterator of what it takes -/
def sUp : Spec := fun args st => match args with
  | [.sl xs, .str s] => some (.fn (.func 102) [] [.ptr (st.length + 1) 0 0 0, .ptr st.length 0 0 0], st ++ [.row 1 0 0 [.sl xs], .row 1 0 0 [.str s]])
  | _ => none
theorem a_up : SoundA Tryz.prog gl 59 sUp := by
  refine soundA_of_wk okA_nil mixed Tryz.func59 rfl rfl fun args st r st' h J okx G0 => ?_
  unfold sUp at h
  split at h
  · cases h
    simp [Tryz.f59, entry]
  · cases h

/-- what kind.up's iterator yields -/
def gUp : List AV → Sto → Option (List (List AV)) := fun cap own => match cap, own with
  | [.ptr 2 0 0 0, .ptr 1 0 0 0], [.row 1 0 0 [.sl xs], .row 1 0 0 [.str s]] => match mapO decClass xs with
    | some l => if l.length < 1099511627776 then some ((aboveOf l [s] s).map fun n => [.str n]) else none
    | none => none
  | _, _ => none
theorem yieldS_eq {xs : List (List AV)} {k t : Nat} {args : List AV} {r : Sto} (h1 : t ≤ k) (h2 : xs[t]? = some args) : yieldS xs k args (.tick t :: r) = some (.bool (decide (t ≠ k)), .tick (t + 1) :: r) := by
  unfold yieldS
  exact if_pos ⟨h1, h2⟩
/-- the names that were met, as a map -/
def metMap (met : List Str) : List (AV × AV) := met.map fun s => (.str s, .bool true)
@[simp] theorem mget_met (s : Str) : ∀ met : List Str, mget (metMap met) (.str s) = some (if s ∈ met then some (.bool true) else none)
  | [] => rfl
  | m :: met => by
    have ih := mget_met s met
    simp only [metMap, List.map_cons, mget, keyEq] at ih ⊢
    by_cases h : m = s
    · simp [h]
    · have : ¬ s = m := fun e => h e.symm
      simp [h, this, ih]
theorem mset_met {s : Str} : ∀ {met : List Str}, s ∉ met → mset (metMap met) (.str s) (.bool true) = some (metMap (met ++ [s]))
  | [], _ => rfl
  | m :: met, h => by
    simp only [List.mem_cons, not_or] at h
    have ih := mset_met h.2
    have : ¬ m = s := fun e => h.1 e.symm
    simp only [metMap, List.map_cons, List.cons_append, mset, keyEq] at ih ⊢
    simp [this, ih]
theorem i_up : SoundI Tryz.prog gl 102 gUp := by
  refine soundI_of_wk (okA_nil.addP p_IndexFuncUp) mixed Tryz.func102 rfl rfl rfl fun cap own xs h J l k okx G0 => ?_
  unfold gUp at h
  split at h
  · rename_i ys s
    split at h
    · rename_i cs hcs
      split at h
      · rename_i hlen
        cases h
        have hys := mapO_inv edClass _ _ hcs
        subst hys
        simp [Tryz.f102, entry]
        refine lp_of okx mixed (fun (x : Nat × List Str × Str) => ⟨32, frL [(0, .fn (.yield l) [] []), (1, .ptr 2 0 0 0), (2, .ptr 1 0 0 0), (4, .mr 3)], [.tick x.1, .row 1 0 0 [.sl (cs.map encClass)], .row 1 0 0 [.str x.2.2], .map (metMap x.2.1)]⟩)
          (fun x => x.1 ≤ k ∧ x.1 ≤ (aboveOf cs [s] s).length ∧ (aboveOf cs [s] s).drop x.1 = aboveOf cs x.2.1 x.2.2) (fun x => unmet cs x.2.1) (0, [s], s) ⟨by simp, by simp, by simp⟩ (weak_frL rfl rfl (by simp)) ?_
        rintro ⟨t, met, nm⟩ ⟨htk, htl, hdr⟩
        simp only at htk htl hdr ⊢
        by_cases hp : placeOf cs nm < cs.length
        · have hpi : placeInt cs nm = placeOf cs nm := by simp [placeInt, hp]
          have hsup : superOf cs nm = cs[placeOf cs nm].super := by simp [superOf, hp]
          have hx : cs[placeOf cs nm]? = some cs[placeOf cs nm] := by simp [hp]
          have hneg : ((placeOf cs nm : Int) < 0) = False := by simp
          by_cases h1 : superOf cs nm = []
          · have h1' : cs[placeOf cs nm].super = [] := by rw [← hsup]; exact h1
            have hnil := aboveOf_nil (l := cs) (met := met) (s := nm) (.inl h1)
            have hlen' : t = (aboveOf cs [s] s).length := by
              rw [hnil] at hdr
              have := congrArg List.length hdr
              simp at this
              omega
            simp [hlen, hpi, hx, h1', hneg]
            omega
          · have h1' : ¬ cs[placeOf cs nm].super = [] := by rw [← hsup]; exact h1
            by_cases h2 : superOf cs nm ∈ met
            · have h2' : cs[placeOf cs nm].super ∈ met := by rw [← hsup]; exact h2
              have hnil := aboveOf_nil (l := cs) (met := met) (s := nm) (.inr h2)
              have hlen' : t = (aboveOf cs [s] s).length := by
                rw [hnil] at hdr
                have := congrArg List.length hdr
                simp at this
                omega
              simp [hlen, hpi, hx, h1', hneg, h2']
              omega
            · have h2' : ¬ cs[placeOf cs nm].super ∈ met := by rw [← hsup]; exact h2
              have hcons := aboveOf_cons h1 h2
              have hms := mset_met h2'
              have hget : ((aboveOf cs [s] s).map fun n => [AV.str n])[t]? = some [.str cs[placeOf cs nm].super] := by
                have : ((aboveOf cs [s] s).drop t)[0]? = some (superOf cs nm) := by rw [hdr, hcons]; first | done | rfl
                rw [List.getElem?_drop] at this
                simp only [Nat.add_zero] at this
                rw [List.getElem?_map, this, hsup]
                rfl
              have hlt : t < (aboveOf cs [s] s).length := by
                have := (List.getElem?_eq_some_iff.1 hget).1
                simpa using this
              have hy := fun r => yieldS_eq (r := r) htk hget
              by_cases h3 : t = k
              · subst h3
                simp [hlen, hpi, hx, h1', hneg, h2', hms, hy]
                omega
              · simp [hlen, hpi, hx, h1', hneg, h2', hms, hy, h3]
                refine nextQ_of (t + 1, met ++ [superOf cs nm], superOf cs nm) ⟨by omega, by omega, ?_⟩ (unmet_lt h1 h2) (weak_frL rfl ?_ (by simp))
                · rw [hcons] at hdr
                  have := congrArg List.tail hdr
                  simpa [List.tail_drop] using this
                · simp [hsup]
        · have hpi : placeInt cs nm = -1 := by simp [placeInt, hp]
          have hnil := aboveOf_nil (l := cs) (met := met) (s := nm) (.inl (by simp [superOf, hp]))
          have hlen' : t = (aboveOf cs [s] s).length := by
            rw [hnil] at hdr
            have := congrArg List.length hdr
            simp at this
            omega
          simp [hlen, hpi]
          omega
      · cases h
    · cases h
  · cases h
end Go.Proofs.YtgpkochbmfhmdaaGreatDoor.Lift
namespace Go.Proofs.YtgpkochbmfhmdaaGreatDoor.Lift
open Go
set_option maxRecDepth 100000

theorem unmet_le (l : List AClass) (met : List Str) : unmet l met ≤ l.length := List.length_filter_le _ _
theorem aboveOf_len (l : List AClass) : ∀ (n : Nat) (met : List Str) (s : Str), unmet l met ≤ n → (aboveOf l met s).length ≤ unmet l met := by
  intro n
  induction n with
  | zero =>
    intro met s h
    by_cases h1 : superOf l s = [] ∨ superOf l s ∈ met
    · rw [aboveOf_nil h1]; simp
    · have := unmet_lt (fun e => h1 (.inl e)) (fun e => h1 (.inr e))
      omega
  | succ n ih =>
    intro met s h
    by_cases h1 : superOf l s = [] ∨ superOf l s ∈ met
    · rw [aboveOf_nil h1]; simp
    · have hlt := unmet_lt (fun e => h1 (.inl e)) (fun e => h1 (.inr e))
      rw [aboveOf_cons (fun e => h1 (.inl e)) (fun e => h1 (.inr e))]
      have := ih (met ++ [superOf l s]) (superOf l s) (by omega)
      simp
      omega
theorem aboveOf_le (l : List AClass) (met : List Str) (s : Str) : (aboveOf l met s).length ≤ l.length := Nat.le_trans (aboveOf_len l _ met s (Nat.le_refl _)) (unmet_le l met)

@[simp] theorem blwL_strs (k : Nat) : ∀ l : List Str, blwL k (l.map .str) = true
  | [] => rfl
  | _ :: l => by simp [blwL_strs k l]
@[simp] theorem fzL_strs : ∀ l : List Str, fzL (l.map .str) = true
  | [] => rfl
  | _ :: l => by simp [fzL_strs l]
/-- the collected names, and where they lie -/
def upRes : List Str → AV
  | [] => .snil
  | _ :: r => .sr 4 r.length 0 (r.length + 1)
def upSto : List Str → Sto
  | [] => [.dead 1 0, .dead 1 0, .row 1 0 0 [.snil]]
  | x :: r => [.dead 1 0, .dead 1 0, .row 1 0 0 [.sr 4 r.length 0 (r.length + 1)], .row 1 0 0 [.str x], .row 1 r.length 0 ((x :: r).map .str)]
@[simp] theorem upRes_nil : upRes [] = .snil := rfl
@[simp] theorem upRes_cons (x : Str) (r : List Str) : upRes (x :: r) = .sr 4 r.length 0 (r.length + 1) := rfl
@[simp] theorem upSto_nil : upSto [] = [.dead 1 0, .dead 1 0, .row 1 0 0 [.snil]] := rfl
@[simp] theorem upSto_cons (x : Str) (r : List Str) : upSto (x :: r) = [.dead 1 0, .dead 1 0, .row 1 0 0 [.sr 4 r.length 0 (r.length + 1)], .row 1 0 0 [.str x], .row 1 r.length 0 (.str x :: r.map .str)] := rfl
/-- slices.AppendSeq of nothing and of kind.up's iterator -/
def sAppendUp : Spec := fun args st => match args, st with
  | [.snil, .fn (.func 102) [] [.ptr 1 0 0 0, .ptr 0 0 0 0]], [.row 1 0 0 [.sl xs], .row 1 0 0 [.str s]] => match mapO decClass xs with
    | some l => if l.length < 1099511627776 then some (upRes (aboveOf l [s] s), upSto (aboveOf l [s] s)) else none
    | none => none
  | _, _ => none

theorem f_AppendUp : SoundF Tryz.prog gl 121 sAppendUp := by
  refine soundF_of_wk okX_nil mixed Tryz.func121 rfl rfl fun args st r st' h G0 => ?_
  unfold sAppendUp at h
  split at h
  · rename_i ys s
    split at h
    · rename_i cs hcs
      split at h
      · rename_i hlen
        cases h
        have hys := mapO_inv edClass _ _ hcs
        subst hys
        have hxs : gUp [.ptr 2 0 0 0, .ptr 1 0 0 0] [.row 1 0 0 [.sl (cs.map encClass)], .row 1 0 0 [.str s]] = some ((aboveOf cs [s] s).map fun n => [.str n]) := by simp [gUp, hlen]
        have hb := aboveOf_le cs [s] s
        generalize hnames : aboveOf cs [s] s = names at *
        simp [Tryz.f121, entry]
        refine rf_of okX_nil mixed [0, 1] i_up [(2, .ptr 2 0 0 0)] (names.map fun n => [.str n]) names.length .ret (fun t => upSto (names.take t)) rfl (by decide) rfl (by simp [fzB]) rfl hxs (by simp) (.inl rfl) (by simp [kill, deadOf]) (by simp) (by simp) (by simp) (fun t x hx ht G1 => ?_) (fun _ => ?_) (fun h => by simp at h)
        · obtain ⟨n, hn, rfl⟩ := by simpa using hx
          have hlt : t < names.length := (List.getElem?_eq_some_iff.1 hn).1
          simp [setPs]
          intro G2 hG2
          have hgt : names[t]? = some names[t] := by simp [hlt]
          rw [hgt] at hn
          cases hn
          have hI : upSto (names.take (t + 1)) = upSto (names.take t ++ [names[t]]) := by rw [List.take_succ_eq_append_getElem hlt]
          have htl : (names.take t).length = t := by simp; omega
          generalize hq : names.take t = q at *
          cases q with
          | nil =>
            simp
            exact roundEnd_on hlt _ hI (by simp [hq]) (by simp) (by simp)
          | cons y ys =>
            simp at htl
            have hbb : (ys.length + 1 + 1) * 16 ≤ 140737488355328 := by omega
            simp [hbb]
            exact roundEnd_on hlt _ hI (by simp [hq]) (by simp) (by simp)
        · cases names with
          | nil => simp
          | cons y ys => simp
      · cases h
    · cases h
  · cases h
/-- slices.Collect of kind.up's iterator -/
def sCollectUp : Spec := fun args st => sAppendUp (.snil :: args) st
theorem f_CollectUp : SoundF Tryz.prog gl 105 sCollectUp := by
  refine soundF_of_wk (okX_nil.add f_AppendUp) mixed Tryz.func105 rfl rfl fun args st r st' h G0 => ?_
  unfold sCollectUp at h
  have h' := h
  unfold sAppendUp at h
  split at h
  · rename_i e
    cases e
    simp [Tryz.f105, entry, h']
  · cases h

theorem p_Above : SoundP Tryz.prog gl 70 (fn2 (cL cClass) cStr (cL cStr).enc fun l s => if l.length < 1099511627776 then some (aboveOf l [s] s) else none) := by
  refine soundP_of_wk ((okX_nil.add f_CollectUp).add (a_up _)) mixed Tryz.func70 rfl rfl fun args r h G0 => ?_
  obtain ⟨l, s, e, rfl, he, rfl⟩ := fn2_inv h
  simp only [Option.ite_none_right_eq_some, Option.some.injEq] at he
  obtain ⟨hs, rfl⟩ := he
  simp [Tryz.f70, entry, sUp, sCollectUp, sAppendUp, hs]
  cases aboveOf l [s] s with
  | nil =>
    simp
    exact finS_of 9 (by simp)
  | cons x ys =>
    simp
    exact finS_of 9 (by simp)
end Go.Proofs.YtgpkochbmfhmdaaGreatDoor.Lift
namespace Go.Proofs.YtgpkochbmfhmdaaGreatDoor.Lift
open Go
set_option maxRecDepth 100000

end Go.Proofs.YtgpkochbmfhmdaaGreatDoor.Lift
namespace Go.Proofs.YtgpkochbmfhmdaaGreatDoor.Lift
open Go
set_option maxRecDepth 100000

theorem p_IndexByteString : SoundP Tryz.prog gl 148 (fn2 cStr cByte encInt fun s c => some (Lib.indexByte s c)) where
  calls := fun G args vals r h inv hσ hJ hg hr => by
    obtain ⟨s, c, e, rfl, he, rfl⟩ := fn2_inv h
    cases he
    cases hr with
    | cons h1 t => cases t with
      | cons h2 t => cases t with
        | nil =>
          simp at h1 h2
          cases h1
          cases h2
          rename_i b
          refine .inr ⟨_, G.w, ?_, G, rfl, hσ, Ext.refl G, inv, .int _ _⟩
          rw [run_callFunc_extern Tryz.func148 (by kernel_rfl) (by kernel_rfl) (by kernel_rfl) (e := Extern.BytealgIndexByte.indexByte) (by kernel_rfl)]
          erw [Lib.run_indexByteString]
          simp [Result.andThen]
noncomputable abbrev E2a : Env := [(148, liftS 9 (fn2 cStr cByte encInt fun s c => some (Lib.indexByte s c)))]
theorem ok2a : OkX Tryz.prog (XE E2a) := okX_nil.addP p_IndexByteString

theorem p_slIndexByte : SoundP Tryz.prog gl 126 (fn2 cStr cByte encInt fun s c => some (Lib.indexByte s c)) := by
  refine soundP_of_wk ok2a mixed Tryz.func126 rfl rfl fun args r h G0 => ?_
  obtain ⟨s, c, e, rfl, he, rfl⟩ := fn2_inv h
  cases he
  simp [Tryz.f126, entry]
  exact finS_fz (by simp)
noncomputable abbrev E2b : Env := (126, liftS 9 (fn2 cStr cByte encInt fun s c => some (Lib.indexByte s c))) :: E2a
theorem ok2b : OkX Tryz.prog (XE E2b) := ok2a.addP p_slIndexByte

theorem p_IndexByte : SoundP Tryz.prog gl 107 (fn2 cStr cByte encInt fun s c => some (Lib.indexByte s c)) := by
  refine soundP_of_wk ok2b mixed Tryz.func107 rfl rfl fun args r h G0 => ?_
  obtain ⟨s, c, e, rfl, he, rfl⟩ := fn2_inv h
  cases he
  simp [Tryz.f107, entry]
  exact finS_fz (by simp)

theorem prefix_dec (p s : Str) : decide (p <+: s) = decide (s.take p.length = p) := decide_eq_decide.2 (by rw [List.prefix_iff_eq_take, eq_comm])
theorem p_HasPrefix : SoundP Tryz.prog gl 120 (fn2 cStr cStr encBool fun s p => some (decide (p <+: s))) := by
  refine soundP_of_wk okX_nil mixed Tryz.func120 rfl rfl fun args r h G0 => ?_
  obtain ⟨s, p, e, rfl, he, rfl⟩ := fn2_inv h
  cases he
  by_cases hl : p.length ≤ s.length
  · simp [Tryz.f120, entry, hl]
    rw [prefix_dec]
    exact finS_fz (by simp)
  · have : ¬ p <+: s := fun h => hl h.length_le
    simp [Tryz.f120, entry, hl, this]
    exact finS_fz (by simp)
noncomputable abbrev E2c : Env := [(120, liftS 9 (fn2 cStr cStr encBool fun s p => some (decide (p <+: s))))]
theorem ok2c : OkX Tryz.prog (XE E2c) := okX_nil.addP p_HasPrefix
theorem p_stringsHasPrefix : SoundP Tryz.prog gl 100 (fn2 cStr cStr encBool fun s p => some (decide (p <+: s))) := by
  refine soundP_of_wk ok2c mixed Tryz.func100 rfl rfl fun args r h G0 => ?_
  obtain ⟨s, p, e, rfl, he, rfl⟩ := fn2_inv h
  cases he
  simp [Tryz.f100, entry]
  exact finS_fz (by simp)

/-- a text and a truth value -/
@[simp] def encSB (x : Str × Bool) : AV := .tup [.str x.1, .bool x.2]
def cutPrefix (s p : Str) : Str × Bool := if p <+: s then (s.drop p.length, true) else (s, false)
theorem p_slCutPrefix : SoundP Tryz.prog gl 127 (fn2 cStr cStr encSB fun s p => some (cutPrefix s p)) := by
  refine soundP_of_wk ok2c mixed Tryz.func127 rfl rfl fun args r h G0 => ?_
  obtain ⟨s, p, e, rfl, he, rfl⟩ := fn2_inv h
  cases he
  by_cases hp : p <+: s
  · simp [Tryz.f127, entry, hp, cutPrefix, hp.length_le]
    exact finS_fz (by simp)
  · simp [Tryz.f127, entry, hp, cutPrefix]
    exact finS_fz (by simp)
noncomputable abbrev E2d : Env := [(127, liftS 9 (fn2 cStr cStr encSB fun s p => some (cutPrefix s p)))]
theorem ok2d : OkX Tryz.prog (XE E2d) := okX_nil.addP p_slCutPrefix
theorem p_CutPrefix : SoundP Tryz.prog gl 108 (fn2 cStr cStr encSB fun s p => some (cutPrefix s p)) := by
  refine soundP_of_wk ok2d mixed Tryz.func108 rfl rfl fun args r h G0 => ?_
  obtain ⟨s, p, e, rfl, he, rfl⟩ := fn2_inv h
  cases he
  simp [Tryz.f108, entry]
  exact finS_fz (by simp)
end Go.Proofs.YtgpkochbmfhmdaaGreatDoor.Lift
namespace Go.Proofs.YtgpkochbmfhmdaaGreatDoor.Lift
open Go
set_option maxRecDepth 100000

/-- a pointer to a set of bytes -/
@[simp] def encSet (l : List Bool) : AV := .rp (.agg (l.map encBool)) 0
@[simp] def decSet : AV → Option (List Bool)
  | .rp (.agg cs) 0 => mapO decBool cs
  | _ => none
theorem decSet_ed (v : AV) (l : List Bool) (h : decSet v = some l) : v = encSet l := by
  unfold decSet at h
  split at h
  · rw [encSet, ← mapO_inv (show ∀ v x, decBool v = some x → v = encBool x from cBool.ed) _ _ h]
  · cases h
def cSet : Cod (List Bool) := ⟨encSet, decSet, fun l => by simp, decSet_ed, fun l => by simp⟩
@[simp] theorem cSet_dec : cSet.dec = decSet := rfl
@[simp] theorem cSet_enc : cSet.enc = encSet := rfl

/-- is a byte in a set? -/
def inSet (l : List Bool) (c : UInt8) : Bool := l.getD c.toNat false

theorem p_contains : SoundP Tryz.prog gl 145 (fn2 cSet cByte encBool fun l c => if l.length = 256 then some (inSet l c) else none) := by
  refine soundP_of_wk okX_nil mixed Tryz.func145 rfl rfl fun args r h G0 => ?_
  obtain ⟨l, c, e, rfl, he, rfl⟩ := fn2_inv h
  simp only [Option.ite_none_right_eq_some, Option.some.injEq] at he
  obtain ⟨hl, rfl⟩ := he
  have hc : (c.toNat : Int) < 256 := by have := c.toNat_lt; omega
  have hx : l[c.toNat]? = some (inSet l c) := by
    have : c.toNat < l.length := by omega
    simp [inSet, this]
  simp [Tryz.f145, entry, hc, hx]
  exact finS_fz (by simp)
noncomputable abbrev E3a : Env := [(145, liftS 9 (fn2 cSet cByte encBool fun l c => if l.length = 256 then some (inSet l c) else none))]
theorem ok3a : OkX Tryz.prog (XE E3a) := okX_nil.addP p_contains

theorem p_trimLeftASCII : SoundP Tryz.prog gl 124 (fn2 cStr cSet encStr fun s l => if l.length = 256 then some (s.dropWhile (inSet l)) else none) := by
  refine soundP_of_wk ok3a mixed Tryz.func124 rfl rfl fun args r h G0 => ?_
  obtain ⟨s, l, e, rfl, he, rfl⟩ := fn2_inv h
  simp only [Option.ite_none_right_eq_some, Option.some.injEq] at he
  obtain ⟨hl, rfl⟩ := he
  simp [Tryz.f124, entry]
  refine lp_of ok3a mixed (fun (t : Str) => ⟨16, frL [(0, .str t), (1, encSet l), (4, .str [])], []⟩) (fun t => t.dropWhile (inSet l) = s.dropWhile (inSet l)) (fun t => t.length) s rfl (weak_frL rfl rfl (by simp)) ?_
  intro t ht
  cases t with
  | nil =>
    simp
    rw [← ht]
    exact finS_fz (by simp)
  | cons c t =>
    simp [hl]
    refine br_bool (fun h => ?_) (fun h => ?_)
    · simp at h
      simp [h] at ht
      simp
      rw [← ht]
      exact finS_fz (by simp)
    · simp at h
      simp [h] at ht
      simp
      exact nextQ_of t ht (by simp) (weak_frL rfl rfl (by simp))

/-- a text without the bytes of a set at its end -/
def dropEnd (p : UInt8 → Bool) (s : Str) : Str := (s.reverse.dropWhile p).reverse
theorem dropEnd_concat (p : UInt8 → Bool) (s : Str) (c : UInt8) : dropEnd p (s ++ [c]) = if p c then dropEnd p s else s ++ [c] := by
  simp [dropEnd, List.dropWhile_cons]
  split <;> simp

theorem p_trimRightASCII : SoundP Tryz.prog gl 134 (fn2 cStr cSet encStr fun s l => if l.length = 256 ∧ s.length < 1099511627776 then some (dropEnd (inSet l) s) else none) := by
  refine soundP_of_wk ok3a mixed Tryz.func134 rfl rfl fun args r h G0 => ?_
  obtain ⟨s, l, e, rfl, he, rfl⟩ := fn2_inv h
  simp only [Option.ite_none_right_eq_some, Option.some.injEq] at he
  obtain ⟨⟨hl, hs⟩, rfl⟩ := he
  simp [Tryz.f134, entry]
  refine lp_of ok3a mixed (fun (t : Str) => ⟨22, frL [(0, .str t), (1, encSet l), (4, .str [])], []⟩) (fun t => t.length ≤ s.length ∧ dropEnd (inSet l) t = dropEnd (inSet l) s) (fun t => t.length) s ⟨by simp, rfl⟩ (weak_frL rfl rfl (by simp)) ?_
  intro t ⟨hts, ht⟩
  rcases List.eq_nil_or_concat t with rfl | ⟨u, c, rfl⟩
  · simp
    rw [← ht]
    exact finS_fz (by simp [dropEnd])
  · simp at hts
    simp only [List.concat_eq_append, dropEnd_concat] at ht
    have hw : IntKind.wrap .i64 (u.length : Int) = u.length := wrap_i64 (by omega) (by omega)
    have hpos : (0 : Int) < (u.length : Int) + 1 := by omega
    simp [hl, hw, hpos]
    refine br_bool (fun h => ?_) (fun h => ?_)
    · simp at h
      simp [h] at ht
      simp
      rw [← ht]
      exact finS_fz (by simp)
    · simp at h
      simp [h] at ht
      simp [hw]
      exact nextQ_of u ⟨by omega, ht⟩ (by simp) (weak_frL rfl rfl (by simp))

/-- the set of a text's bytes -/
def setOf (s : Str) : List Bool := (List.range 256).map fun i => s.any fun c => decide (c.toNat = i)
@[simp] theorem setOf_length (s : Str) : (setOf s).length = 256 := by simp [setOf]
theorem inSet_setOf (s : Str) (c : UInt8) : inSet (setOf s) c = s.contains c := by
  have hc := c.toNat_lt
  have : c.toNat < (List.range 256).length := by simp; omega
  simp only [inSet, setOf, List.getD_eq_getElem?_getD, List.getElem?_map, List.getElem?_range (show c.toNat < 256 by omega), Option.map_some, Option.getD_some, List.contains_eq_any_beq]
  congr 1
  funext d
  rw [Bool.eq_iff_iff]
  simp only [decide_eq_true_eq, beq_iff_eq]
  constructor
  · intro h; exact (UInt8.toNat_inj.1 h).symm
  · intro h; rw [h]
theorem setOf_snoc (s : Str) (c : UInt8) : splice ((setOf s).map encBool) c.toNat [.bool true] = (setOf (s ++ [c])).map encBool := by
  have hc := c.toNat_lt
  refine List.ext_getElem? fun i => ?_
  rw [splice_get _ _ _ _ (by simp; omega)]
  simp only [List.length_singleton, List.getElem?_map, setOf]
  rcases Nat.lt_or_ge i 256 with hi | hi
  · rw [List.getElem?_range hi]
    split
    · rename_i h
      have : i = c.toNat := by omega
      subst this
      simp
    · rename_i h
      have : c.toNat ≠ i := by omega
      simp [this]
  · rw [if_neg (by omega), List.getElem?_eq_none (by simpa using hi)]
    simp

/-- are all bytes of a text ASCII? -/
def Ascii (s : Str) : Prop := ∀ c ∈ s, c.toNat < 128
instance (s : Str) : Decidable (Ascii s) := by unfold Ascii; infer_instance
/-- a set, and a truth value -/
@[simp] def encSetB (x : List Bool × Bool) : AV := .tup [.agg (x.1.map encBool), .bool x.2]
theorem p_makeASCIISet : SoundP Tryz.prog gl 123 (fn1 cStr encSetB fun s => if s.length < 1099511627776 ∧ Ascii s then some (setOf s, true) else none) := by
  refine soundP_of_wk okX_nil mixed Tryz.func123 rfl rfl fun args r h G0 => ?_
  obtain ⟨s, e, rfl, he, rfl⟩ := fn1_inv h
  simp only [Option.ite_none_right_eq_some, Option.some.injEq] at he
  obtain ⟨⟨hs, hall⟩, rfl⟩ := he
  simp [Tryz.f123, entry]
  refine lp_of okX_nil mixed (fun (i : Nat) => ⟨21, frL [(0, .str s), (2, .ptr 0 0 0 0), (3, .bool false), (4, .int .i64 i)], [.row 256 0 0 [.agg ((setOf (s.take i)).map encBool)]]⟩) (fun i => i ≤ s.length) (fun i => s.length - i) 0 (by simp) (weak_frL rfl ?_ (by simp)) ?_
  · simp only [List.take_zero]
    congr 3
  · intro i hi
    simp
    refine br_dec (fun h3 => ?_) (fun h3 => ?_)
    · have hx : s[i]? = some s[i] := by simp [h3]
      have hlt := hall s[i] (List.getElem_mem h3)
      have h128 : ¬ (128 : Int) ≤ (s[i].toNat : Int) := by omega
      have h256 : (s[i].toNat : Int) < 256 := by omega
      have h257 : s[i].toNat + 1 ≤ 256 := by omega
      simp [hx, h128, h256, h257, wrap_i64 (show (-9223372036854775808 : Int) ≤ i + 1 by omega) (by omega)]
      refine nextQ_of (i + 1) h3 (by omega) (weak_frL rfl ?_ (by simp))
      simp only [List.take_succ_eq_append_getElem h3, ← setOf_snoc]
      simp
    · have hi' : i = s.length := by omega
      subst hi'
      have hd : List.drop 256 ((setOf s).map encBool) = [] := by simp
      simp [hd]
      exact finS_fz (by simp)

noncomputable abbrev E3b : Env := (124, liftS 9 (fn2 cStr cSet encStr fun s l => if l.length = 256 then some (s.dropWhile (inSet l)) else none)) :: (134, liftS 9 (fn2 cStr cSet encStr fun s l => if l.length = 256 ∧ s.length < 1099511627776 then some (dropEnd (inSet l) s) else none)) :: (123, liftS 9 (fn1 cStr encSetB fun s => if s.length < 1099511627776 ∧ Ascii s then some (setOf s, true) else none)) :: E3a
theorem ok3b : OkX Tryz.prog (XE E3b) := ((ok3a.addP p_makeASCIISet).addP p_trimRightASCII).addP p_trimLeftASCII

/-- strings.Trim, of a set of two bytes or more -/
def trimSet (cut s : Str) : Str := (dropEnd (inSet (setOf cut)) s).dropWhile (inSet (setOf cut))
theorem dropEnd_length (p : UInt8 → Bool) (s : Str) : (dropEnd p s).length ≤ s.length := by
  simp only [dropEnd, List.length_reverse]
  have := (List.dropWhile_sublist p (l := s.reverse)).length_le
  simpa using this
theorem p_Trim : SoundP Tryz.prog gl 114 (fn2 cStr cStr encStr fun s cut => if s.length < 1099511627776 ∧ cut.length < 1099511627776 ∧ 2 ≤ cut.length ∧ Ascii cut then some (trimSet cut s) else none) := by
  refine soundP_of_wk ok3b mixed Tryz.func114 rfl rfl fun args r h G0 => ?_
  obtain ⟨s, cut, e, rfl, he, rfl⟩ := fn2_inv h
  simp only [Option.ite_none_right_eq_some, Option.some.injEq] at he
  obtain ⟨⟨hs, hc, h2, hall⟩, rfl⟩ := he
  have hne : cut ≠ [] := by rintro rfl; simp at h2
  have h1 : ¬ (cut.length : Int) = 1 := by omega
  by_cases hsn : s = []
  · subst hsn
    simp [Tryz.f114, entry]
    exact finS_fz (by simp)
  · have hd : List.drop 256 ((setOf cut).map encBool) = [] := by simp
    have hde : (dropEnd (inSet (setOf cut)) s).length < 1099511627776 := Nat.lt_of_le_of_lt (dropEnd_length _ _) hs
    simp [Tryz.f114, entry, hsn, hne, h1, hc, hs, hall, hd, hde]
    exact finS_fz (by simp)

theorem p_trimLeftByte : SoundP Tryz.prog gl 122 (fn2 cStr cByte encStr fun s c => some (s.dropWhile (· == c))) := by
  refine soundP_of_wk okX_nil mixed Tryz.func122 rfl rfl fun args r h G0 => ?_
  obtain ⟨s, c, e, rfl, he, rfl⟩ := fn2_inv h
  cases he
  simp [Tryz.f122, entry]
  refine lp_of okX_nil mixed (fun (t : Str) => ⟨17, frL [(0, .str t), (1, .int .u8 c.toNat), (4, .str [])], []⟩) (fun t => t.dropWhile (· == c) = s.dropWhile (· == c)) (fun t => t.length) s rfl (weak_frL rfl rfl (by simp)) ?_
  intro t ht
  cases t with
  | nil =>
    simp
    rw [← ht]
    exact finS_fz (by simp)
  | cons d t =>
    by_cases hd : d = c
    · subst hd
      simp at ht
      simp
      exact nextQ_of t ht (by simp) (weak_frL rfl rfl (by simp))
    · have hd' : ¬ (d.toNat : Int) = (c.toNat : Int) := fun h => hd (UInt8.toNat_inj.1 (by omega))
      have : (d :: t).dropWhile (· == c) = d :: t := by simp [hd]
      rw [this] at ht
      simp [hd']
      rw [← ht]
      exact finS_fz (by simp)
noncomputable abbrev E3c : Env := [(122, liftS 9 (fn2 cStr cByte encStr fun s c => some (s.dropWhile (· == c))))]
theorem ok3c : OkX Tryz.prog (XE E3c) := okX_nil.addP p_trimLeftByte

/-- strings.TrimLeft, of one byte -/
def trimLeft1 (s cut : Str) : Option Str := match cut with
  | [c] => if c.toNat < 128 then some (s.dropWhile (· == c)) else none
  | _ => none
theorem p_TrimLeft : SoundP Tryz.prog gl 106 (fn2 cStr cStr encStr trimLeft1) := by
  refine soundP_of_wk ok3c mixed Tryz.func106 rfl rfl fun args r h G0 => ?_
  obtain ⟨s, cut, e, rfl, he, rfl⟩ := fn2_inv h
  unfold trimLeft1 at he
  split at he
  · rename_i c
    simp only [Option.ite_none_right_eq_some, Option.some.injEq] at he
    obtain ⟨hc, rfl⟩ := he
    have hc' : (c.toNat : Int) < 128 := by omega
    by_cases hsn : s = []
    · subst hsn
      simp [Tryz.f106, entry]
      exact finS_fz (by simp)
    · simp [Tryz.f106, entry, hsn, hc']
      exact finS_fz (by simp)
  · cases he
end Go.Proofs.YtgpkochbmfhmdaaGreatDoor.Lift
namespace Go.Proofs.YtgpkochbmfhmdaaGreatDoor.Lift
open Go
set_option maxRecDepth 100000

/-- a letter -/
def isLetter (c : UInt8) : Bool := (decide (97 ≤ c.toNat) && decide (c.toNat ≤ 122)) || (decide (65 ≤ c.toNat) && decide (c.toNat ≤ 90))
/-- not a letter, but of a class's name behind the first byte -/
def isMore (c : UInt8) : Bool := (decide (48 ≤ c.toNat) && decide (c.toNat ≤ 57)) || decide (c.toNat = 95) || decide (c.toNat = 36) || decide (c.toNat = 47)
/-- may a byte stand at a place of a class's name? -/
def okAt (i : Nat) (c : UInt8) : Bool := isLetter c || (decide (i ≠ 0) && isMore c)
/-- a class's name -/
def allAt : Nat → Str → Bool
  | _, [] => true
  | i, c :: r => okAt i c && allAt (i + 1) r
def isClass (s : Str) : Bool := allAt 0 s && (decide (1 ≤ s.length) && decide (s.length ≤ 60))
theorem allAt_iff : ∀ (s : Str) (k : Nat), allAt k s = true ↔ ∀ (i : Nat) c, s[i]? = some c → okAt (k + i) c = true
  | [], k => by simp [allAt]
  | c :: s, k => by
    simp only [allAt, Bool.and_eq_true, allAt_iff s (k + 1)]
    constructor
    · rintro ⟨h1, h2⟩ i d hd
      cases i with
      | zero => simp at hd; subst hd; exact h1
      | succ i => simp at hd; have := h2 i d hd; rwa [show k + 1 + i = k + (i + 1) by omega] at this
    · intro h
      exact ⟨h 0 c rfl, fun i d hd => by have := h (i + 1) d (by simpa using hd); rwa [show k + (i + 1) = k + 1 + i by omega] at this⟩

theorem dropWhile_nil (p : UInt8 → Bool) : ∀ l : Str, l.dropWhile p = [] ↔ ∀ c ∈ l, p c = true
  | [] => by simp
  | c :: l => by
    cases h : p c with
    | true => simp [h, dropWhile_nil p l]
    | false => simp [h]
theorem dropEnd_all (p : UInt8 → Bool) (s : Str) : (∀ c ∈ dropEnd p s, p c = true) ↔ ∀ c ∈ s, p c = true := by
  constructor
  · intro h
    simp only [dropEnd, List.mem_reverse] at h
    have : s.reverse.dropWhile p = [] := by
      cases hq : s.reverse.dropWhile p with
      | nil => rfl
      | cons a l =>
        have h1 := h a (by rw [hq]; simp)
        have h2 := List.head?_dropWhile_not p s.reverse
        rw [hq] at h2
        simp at h2
        rw [h1] at h2
        cases h2
    rw [dropWhile_nil] at this
    exact fun c hc => this c (by simpa using hc)
  · intro h c hc
    simp only [dropEnd, List.mem_reverse] at hc
    exact h c (by simpa using (List.dropWhile_sublist p).mem hc)
theorem trimSet_nil (cut s : Str) : trimSet cut s = [] ↔ ∀ c ∈ s, c ∈ cut := by
  rw [trimSet, dropWhile_nil, dropEnd_all]
  simp only [inSet_setOf, List.contains_iff_mem]
theorem indexByte_mem (l : Str) (c : UInt8) : 0 ≤ Lib.indexByte l c ↔ c ∈ l := by
  induction l with
  | nil => simp [Lib.indexByte]
  | cons b l ih =>
    unfold Lib.indexByte
    split
    · rename_i h
      simp at h
      simp [h]
    · rename_i h
      have h' : c ≠ b := fun e => h (by simp [e])
      have ge := Lib.indexByte_ge l c
      split
      · rename_i h2
        have : ¬ 0 ≤ Lib.indexByte l c := by
          have : Lib.indexByte l c = -1 := by simpa using h2
          omega
        rw [ih] at this
        simp [h', this]
      · rename_i h2
        have h2' : ¬ Lib.indexByte l c = -1 := by simpa using h2
        have : 0 ≤ Lib.indexByte l c := by omega
        simp only [List.mem_cons, h', false_or, ← ih, this, iff_true]
        omega

/-- the letters -/
def letters : Str := [97, 98, 99, 100, 101, 102, 103, 104, 105, 106, 107, 108, 109, 110, 111, 112, 113, 114, 115, 116, 117, 118, 119, 120, 121, 122, 65, 66, 67, 68, 69, 70, 71, 72, 73, 74, 75, 76, 77, 78, 79, 80, 81, 82, 83, 84, 85, 86, 87, 88, 89, 90]
def others : Str := [48, 49, 50, 51, 52, 53, 54, 55, 56, 57, 95, 36, 47]
def nameBytes : Str := [97, 98, 99, 100, 101, 102, 103, 104, 105, 106, 107, 108, 109, 110, 111, 112, 113, 114, 115, 116, 117, 118, 119, 120, 121, 122, 65, 66, 67, 68, 69, 70, 71, 72, 73, 74, 75, 76, 77, 78, 79, 80, 81, 82, 83, 84, 85, 86, 87, 88, 89, 90, 48, 49, 50, 51, 52, 53, 54, 55, 56, 57, 95, 36, 47]
theorem fold_letters : ([97, 98, 99, 100, 101, 102, 103, 104, 105, 106, 107, 108, 109, 110, 111, 112, 113, 114, 115, 116, 117, 118, 119, 120, 121, 122, 65, 66, 67, 68, 69, 70, 71, 72, 73, 74, 75, 76, 77, 78, 79, 80, 81, 82, 83, 84, 85, 86, 87, 88, 89, 90] : List UInt8) = letters := rfl
theorem fold_name : ([97, 98, 99, 100, 101, 102, 103, 104, 105, 106, 107, 108, 109, 110, 111, 112, 113, 114, 115, 116, 117, 118, 119, 120, 121, 122, 65, 66, 67, 68, 69, 70, 71, 72, 73, 74, 75, 76, 77, 78, 79, 80, 81, 82, 83, 84, 85, 86, 87, 88, 89, 90, 48, 49, 50, 51, 52, 53, 54, 55, 56, 57, 95, 36, 47] : List UInt8) = nameBytes := rfl
theorem nameBytes_eq : nameBytes = letters ++ others := rfl
theorem of_bytes {p : UInt8 → Prop} (h : ∀ n : Nat, n < 256 → p (UInt8.ofNat n)) (c : UInt8) : p c := by
  have := h c.toNat c.toNat_lt
  simpa using this
theorem isLetter_iff (c : UInt8) : isLetter c = true ↔ c ∈ letters := of_bytes (p := fun c => isLetter c = true ↔ c ∈ letters) (by decide +kernel) c
theorem isMore_iff (c : UInt8) : isMore c = true ↔ c ∈ others := of_bytes (p := fun c => isMore c = true ↔ c ∈ others) (by decide +kernel) c

theorem p_kindClass : SoundP Tryz.prog gl 83 (fn1 cStr encBool fun s => if s.length < 1099511627776 then some (isClass s) else none) := by
  refine soundP_of_wk (((okX_nil.addP p_IndexByte)).addP p_Trim) mixed Tryz.func83 rfl rfl fun args r h G0 => ?_
  obtain ⟨s, e, rfl, he, rfl⟩ := fn1_inv h
  simp only [Option.ite_none_right_eq_some, Option.some.injEq] at he
  obtain ⟨hs, rfl⟩ := he
  cases s with
  | nil =>
    simp [Tryz.f83, entry, isClass]
    exact finS_fz (by simp)
  | cons c t =>
    have hA : Ascii nameBytes := by decide
    have hB : nameBytes.length = 65 := rfl
    have hsn := hs
    simp at hs
    by_cases h60 : ((t.length : Int) + 1 ≤ 60)
    · by_cases ht : trimSet nameBytes (c :: t) = []
      · have hall := (trimSet_nil _ _).1 ht
        have : isClass (c :: t) = decide (0 ≤ Lib.indexByte letters c) := by
          have h1 : allAt 1 t = true := (allAt_iff t 1).2 fun i d hd => by
            have := hall d (by simp [List.mem_of_getElem? hd])
            rw [nameBytes_eq, List.mem_append, ← isLetter_iff, ← isMore_iff] at this
            simp only [okAt, Bool.or_eq_true, Bool.and_eq_true, decide_eq_true_eq]
            rcases this with h | h
            · exact .inl h
            · exact .inr ⟨by omega, h⟩
          have h2 : isLetter c = decide (0 ≤ Lib.indexByte letters c) := by
            rw [Bool.eq_iff_iff, isLetter_iff, decide_eq_true_eq, indexByte_mem]
          simp [isClass, allAt, h1, okAt, h2]
          omega
        simp [Tryz.f83, entry, h60, hs, fold_letters, fold_name, hA, hB, ht, this]
        exact finS_fz (by simp)
      · have : isClass (c :: t) = false := by
          cases hq : allAt 0 (c :: t) with
          | false => simp [isClass, hq]
          | true =>
            exfalso
            refine ht ((trimSet_nil _ _).2 fun d hd => ?_)
            obtain ⟨i, hi⟩ := List.mem_iff_getElem?.1 hd
            have := (allAt_iff _ 0).1 hq i d hi
            rw [nameBytes_eq, List.mem_append, ← isLetter_iff, ← isMore_iff]
            simp only [okAt, Bool.or_eq_true, Bool.and_eq_true] at this
            rcases this with h | h
            · exact .inl h
            · exact .inr h.2
        simp [Tryz.f83, entry, h60, hs, fold_letters, fold_name, hA, hB, ht, this]
        exact finS_fz (by simp)
    · have : isClass (c :: t) = false := by
        simp [isClass]
        omega
      simp [Tryz.f83, entry, h60, this]
      exact finS_fz (by simp)
end Go.Proofs.YtgpkochbmfhmdaaGreatDoor.Lift
namespace Go.Proofs.YtgpkochbmfhmdaaGreatDoor.Lift
open Go
set_option maxRecDepth 100000

/-- a recursive function: from the contract on what is smaller to that on what is a little larger -/
theorem soundP_rec {f : Nat} {g : List AV → Option AV} (G : Nat → List AV → Option AV) (h0 : ∀ args, G 0 args = none) (hs : ∀ k, SoundP Tryz.prog gl f (G k) → SoundP Tryz.prog gl f (G (k + 1))) (hc : ∀ args r, g args = some r → ∃ k, G k args = some r) : SoundP Tryz.prog gl f g where
  calls := fun H args vals r hr => by
    obtain ⟨k, hk⟩ := hc args r hr
    have : ∀ k, SoundP Tryz.prog gl f (G k) := fun k => by
      induction k with
      | zero => exact ⟨fun H args vals r h => by rw [h0] at h; cases h⟩
      | succ k ih => exact hs k ih
    exact (this k).calls H args vals r hk

/-- where does the class's name behind an L end? -/
def refLen (r : Str) : Nat := if 0 ≤ Lib.indexByte r 59 ∧ isClass (r.take (Lib.indexByte r 59).toNat) = true then (Lib.indexByte r 59).toNat + 2 else 0
/-- how long is the descriptor that a text begins with (a: how many [ were ahead)? 0: there is none -/
def descLen : Str → Nat → Nat
  | [], _ => 0
  | c :: r, a => if 8 < a then 0 else if c = 73 ∨ c = 74 then 1 else if c = 76 then refLen r else if c = 91 then (if r.head? = some 66 ∧ a < 8 then 2 else if descLen r (a + 1) = 0 then 0 else descLen r (a + 1) + 1) else 0
/-- a descriptor's type -/
def tyOf : Str → ATy
  | [] => ⟨4, []⟩
  | c :: r => if c = 73 then ⟨1, []⟩ else if c = 74 then ⟨2, []⟩ else if c = 76 then ⟨4, r.dropLast⟩ else ⟨4, c :: r⟩

theorem indexByte_lt (r : Str) (c : UInt8) : Lib.indexByte r c < r.length ∨ Lib.indexByte r c = -1 := by
  induction r with
  | nil => exact .inr rfl
  | cons b r ih =>
    simp only [Lib.indexByte, List.length_cons]
    split
    · left; omega
    · split
      · exact .inr rfl
      · rename_i h
        have : ¬ Lib.indexByte r c = -1 := by simpa using h
        left; omega
theorem refLen_le (r : Str) : refLen r ≤ r.length + 1 := by
  unfold refLen
  split
  · have := indexByte_lt r 59; omega
  · omega
theorem descLen_le : ∀ (s : Str) (a : Nat), descLen s a ≤ s.length
  | [], _ => by simp [descLen]
  | c :: r, a => by
    have h1 := refLen_le r
    have h2 := descLen_le r (a + 1)
    simp only [descLen, List.length_cons]
    split
    · omega
    · split
      · omega
      · split
        · omega
        · split
          · split
            · rename_i h
              cases r with
              | nil => simp at h
              | cons d r => simp
            · split <;> omega
          · omega
theorem indexByte_first {c : UInt8} : ∀ {r : Str} {j : Nat}, r[j]? = some c → (∀ i, i < j → r[i]? ≠ some c) → Lib.indexByte r c = j
  | [], j, h, _ => by simp at h
  | b :: r, 0, h, _ => by simp at h; simp [Lib.indexByte, h]
  | b :: r, j + 1, h, hn => by
    have h0 : b ≠ c := fun e => hn 0 (by omega) (by simp [e])
    have ih := indexByte_first (r := r) (j := j) (by simpa using h) (fun i hi => by simpa using hn (i + 1) (by omega))
    simp only [Lib.indexByte, beq_iff_eq, h0, if_false, ih]
    rw [if_neg (by omega)]
    omega

@[simp] def encTyInt (x : ATy × Int) : AV := .tup [encTy x.1, .int .i64 x.2]
def oneRes (s : Str) (a : Nat) : ATy × Int := if descLen s a = 0 then (⟨0, []⟩, 0) else (tyOf (s.take (descLen s a)), descLen s a)
def gOne (k : Nat) (s : Str) (a : Int) : Option (ATy × Int) := if s.length < k ∧ s.length < 1099511627776 ∧ 0 ≤ a ∧ a ≤ 9 then some (oneRes s a.toNat) else none

def gOneT (s : Str) (a : Int) : Option (ATy × Int) := if s.length < 1099511627776 ∧ 0 ≤ a ∧ a ≤ 9 then some (oneRes s a.toNat) else none
@[simp] def encTyErr (x : ATy × Int) : AV := .tup [encTy x.1, .int .i64 x.2]
/-- Parse: 10.1 -/
def parse (s : Str) : ATy × Int := if descLen s 0 = 0 ∨ descLen s 0 ≠ s.length then (⟨0, []⟩, 100) else (tyOf s, 0)
end Go.Proofs.YtgpkochbmfhmdaaGreatDoor.Lift
namespace Go.Proofs.YtgpkochbmfhmdaaGreatDoor.Lift
open Go
set_option maxRecDepth 100000

/-- how long is the descriptor behind the [ (b: was there one)? -/
def size1 (rest : Str) (b : Bool) : Nat := match rest with
  | [] => 0
  | c :: r => if c = 73 ∨ c = 74 then 1 else if c = 66 ∧ b = true then 1 else if c = 76 then refLen r else 0
theorem descLen_split : ∀ (m : Nat) (rest : Str) (a : Nat), rest.head? ≠ some 91 → descLen (List.replicate m 91 ++ rest) a = if 8 < m + a then 0 else if size1 rest (decide (0 < m)) = 0 then 0 else m + size1 rest (decide (0 < m))
  | 0, rest, a, h => by
    cases rest with
    | nil => simp [descLen, size1]
    | cons c r =>
      have h91 : ¬ c = 91 := by simpa using h
      simp only [List.replicate_zero, List.nil_append, descLen, size1, Nat.zero_add, Nat.lt_irrefl, decide_false, Bool.false_eq_true, and_false, if_false, h91]
      split
      · rfl
      · split
        · rfl
        · split
          · split <;> simp_all
          · rfl
  | m + 1, rest, a, h => by
    have ih := descLen_split m rest (a + 1) h
    simp only [List.replicate_succ, List.cons_append, descLen]
    rw [ih]
    by_cases ha : 8 < a
    · rw [if_pos ha, if_pos (by omega)]
    · rw [if_neg ha, if_neg (by decide), if_neg (by decide), if_pos trivial]
      cases m with
      | zero =>
        simp only [List.replicate_zero, List.nil_append, Nat.zero_add, Nat.lt_irrefl, decide_false, Nat.zero_lt_one, decide_true]
        by_cases h66 : rest.head? = some 66 ∧ a < 8
        · rw [if_pos h66, if_neg (by omega)]
          obtain ⟨h1, _⟩ := h66
          cases rest with
          | nil => simp at h1
          | cons c r => simp at h1; subst h1; simp [size1]
        · rw [if_neg h66, Nat.add_comm 1 a]
          have : size1 rest true = size1 rest false ∨ 8 < a + 1 := by
            cases rest with
            | nil => exact .inl rfl
            | cons c r =>
              by_cases ha8 : 8 < a + 1
              · exact .inr ha8
              · have : ¬ c = 66 := fun e => h66 ⟨by simp [e], by omega⟩
                exact .inl (by simp [size1, this])
          by_cases ha8 : 8 < a + 1
          · simp [ha8]
          · have hq := this.resolve_right ha8
            simp only [if_neg ha8, hq]
            by_cases hz : size1 rest false = 0
            · simp [hz]
            · simp only [if_neg hz]
              omega
      | succ m =>
        have : ¬ ((List.replicate (m + 1) 91 ++ rest).head? = some (66 : UInt8) ∧ a < 8) := by simp [List.replicate_succ]
        rw [if_neg this]
        simp only [Nat.succ_pos, decide_true]
        by_cases h8 : 8 < m + 1 + (a + 1)
        · simp only [if_pos h8]
          rw [if_pos (by omega : 8 < m + 1 + 1 + a)]
          simp
        · simp only [if_neg h8]
          rw [if_neg (by omega : ¬ 8 < m + 1 + 1 + a)]
          by_cases hz : size1 rest true = 0
          · simp [hz]
          · simp only [if_neg hz]
            rw [if_neg (by omega)]
            omega

theorem split91 (s : Str) : ∃ m, s = List.replicate m 91 ++ s.dropWhile (· == 91) ∧ (s.dropWhile (· == 91)).head? ≠ some 91 := by
  induction s with
  | nil => exact ⟨0, by simp⟩
  | cons c s ih =>
    by_cases h : c = 91
    · subst h
      obtain ⟨m, h1, h2⟩ := ih
      refine ⟨m + 1, ?_, by simpa using h2⟩
      simp only [List.replicate_succ, List.cons_append, List.dropWhile_cons, beq_self_eq_true, if_true]
      rw [← h1]
    · exact ⟨0, by simp [h]⟩

@[simp] def encSS (x : Str × Str) : AV := .tup [.str x.1, .str x.2]
/-- the descriptor that a text begins with, and the rest -/
def cut (s : Str) : Str × Str := if descLen s 0 = 0 then ([], s) else (s.take (descLen s 0), s.drop (descLen s 0))
theorem p_cut : SoundP Tryz.prog gl 71 (fn1 cStr encSS fun s => if s.length < 1099511627776 then some (cut s) else none) := by
  refine soundP_of_wk (((okX_nil.addP p_kindClass).addP p_IndexByte).addP p_TrimLeft) mixed Tryz.func71 rfl rfl fun args r h G0 => ?_
  obtain ⟨s, e, rfl, he, rfl⟩ := fn1_inv h
  simp only [Option.ite_none_right_eq_some, Option.some.injEq] at he
  obtain ⟨hs, rfl⟩ := he
  obtain ⟨m, h1, h2⟩ := split91 s
  have hdl := descLen_split m (s.dropWhile (· == 91)) 0 h2
  rw [← h1] at hdl
  have hlen : s.length = m + (s.dropWhile (· == 91)).length := by
    conv => lhs; rw [h1]
    simp
  have htl : trimLeft1 s [91] = some (s.dropWhile (· == 91)) := by simp [trimLeft1]
  have hdrop : ∀ z, s.drop (m + z) = (s.dropWhile (· == 91)).drop z := fun z => by
    conv => lhs; rw [h1]
    rw [List.drop_append, List.length_replicate]
    simp
  generalize s.dropWhile (· == 91) = rest at *
  have hw := wrap_i64 (show (-9223372036854775808 : Int) ≤ (m : Int) by omega) (by omega)
  have hw' : IntKind.wrap .i64 ((m : Int) + (rest.length : Int) - (rest.length : Int)) = m := by rw [show (m : Int) + (rest.length : Int) - (rest.length : Int) = m by omega]; exact hw
  -- none
  by_cases h8 : 8 < m
  · have e1 : ((8 : Int) < (m : Int)) = True := by simp; omega
    have hc : cut s = ([], s) := by simp [cut, hdl, h8]
    simp [Tryz.f71, entry, htl, hlen, hw, hw', e1, hc]
    exact finS_fz (by simp)
  · have e1 : ((8 : Int) < (m : Int)) = False := by simp; omega
    cases rest with
    | nil =>
      have hc : cut s = ([], s) := by simp [cut, hdl, size1]
      simp [Tryz.f71, entry, htl, hlen, hw, hw', e1, hc]
      exact finS_fz (by simp)
    | cons c r =>
      have none_ : size1 (c :: r) (decide (0 < m)) = 0 → cut s = ([], s) := fun h => by simp [cut, hdl, h]
      have some_ : ∀ z, size1 (c :: r) (decide (0 < m)) = z → z ≠ 0 → cut s = (s.take (m + z), (c :: r).drop z) := fun z hz h0 => by
        rw [cut, hdl, hz]
        simp [h8, h0, hdrop]
      simp at hlen
      have hlen' : (s.length : Int) = (m : Int) + ((r.length : Int) + 1) := by omega
      have hw2 : IntKind.wrap .i64 ((m : Int) + ((r.length : Int) + 1) - ((r.length : Int) + 1)) = m := by rw [show (m : Int) + ((r.length : Int) + 1) - ((r.length : Int) + 1) = m by omega]; exact hw
      have hw3 := wrap_i64 (show (-9223372036854775808 : Int) ≤ (m : Int) + 1 by omega) (by omega)
      have e3 : (0 ≤ (m : Int) + 1) = True := by simp; omega
      have e4 : ((m : Int) + 1).toNat = m + 1 := by omega
      have e5 : m + 1 ≤ s.length := by omega
      by_cases h73 : c = 73
      · subst h73
        have hc := some_ 1 (by simp [size1]) (by simp)
        simp [Tryz.f71, entry, htl, hlen', hw, e1, hc]
        refine dk_of (by decide) ?_
        simp [hw3, e3, e4, e5]
        exact finS_fz (by simp)
      · have n73 : ((c.toNat : Int) = 73) = False := by simp; intro h; exact h73 (UInt8.toNat_inj.1 (by simp; omega))
        by_cases h74 : c = 74
        · subst h74
          have hc := some_ 1 (by simp [size1]) (by simp)
          simp [Tryz.f71, entry, htl, hlen', hw, e1, hc]
          refine dk_of (by decide) ?_
          simp [hw3, e3, e4, e5]
          exact finS_fz (by simp)
        · have n74 : ((c.toNat : Int) = 74) = False := by simp; intro h; exact h74 (UInt8.toNat_inj.1 (by simp; omega))
          by_cases h66 : c = 66
          · subst h66
            by_cases hm : 0 < m
            · have em : ((0 : Int) < (m : Int)) = True := by simp; omega
              have hc := some_ 1 (by simp [size1, hm]) (by simp)
              simp [Tryz.f71, entry, htl, hlen', hw, e1, hc, hm]
              refine dk_of (by decide) ?_
              simp [hw3, e3, e4, e5]
              exact finS_fz (by simp)
            · have em : ((0 : Int) < (m : Int)) = False := by simp; omega
              have hc := none_ (by simp [size1, hm])
              simp [Tryz.f71, entry, htl, hlen', hw, e1, hc, hm]
              exact finS_fz (by simp)
          · have n66 : ((c.toNat : Int) = 66) = False := by simp; intro h; exact h66 (UInt8.toNat_inj.1 (by simp; omega))
            by_cases h76 : c = 76
            · subst h76
              rcases indexByte_lt r 59 with hlt | hlt
              · by_cases hge : 0 ≤ Lib.indexByte r 59
                · obtain ⟨j, hj⟩ : ∃ j : Nat, Lib.indexByte r 59 = j := ⟨(Lib.indexByte r 59).toNat, by omega⟩
                  rw [hj] at hlt
                  have hidx : Lib.indexByte (76 :: r) 59 = (j : Int) + 1 := by simp [Lib.indexByte, hj] <;> omega
                  have f1 : ((0 : Int) < (j : Int) + 1) = True := by simp <;> omega
                  have f2 : ((0 : Int) ≤ (j : Int) + 1) = True := by simp <;> omega
                  have f3 : ((j : Int) + 1).toNat = j + 1 := by omega
                  have f4 : j ≤ r.length := by omega
                  have f5 : j < 1099511627776 := by omega
                  have f6 := wrap_i64 (show (-9223372036854775808 : Int) ≤ (j : Int) + 1 + 1 by omega) (by omega)
                  have f7 : ((j : Int) + 1 + 1 = 0) = False := by simp <;> omega
                  have f8 := wrap_i64 (show (-9223372036854775808 : Int) ≤ (m : Int) + ((j : Int) + 1 + 1) by omega) (by omega)
                  have f9 : ((m : Int) + ((j : Int) + 1 + 1)).toNat = m + (j + 2) := by omega
                  have f10 : (0 ≤ (m : Int) + ((j : Int) + 1 + 1)) = True := by simp <;> omega
                  have f11 : m + (j + 2) ≤ s.length := by omega
                  have f12 : ((j : Int) + 1 + 1).toNat = j + 2 := by omega
                  have f13 : (0 ≤ (j : Int) + 1 + 1) = True := by simp <;> omega
                  have f14 : j + 1 ≤ r.length := by omega
                  cases hcl : isClass (r.take j) with
                  | true =>
                    have hz : refLen r = j + 2 := by simp [refLen, hj, hcl]
                    have hc := some_ (j + 2) (by simp [size1, hz]) (by simp)
                    simp [Tryz.f71, entry, htl, hlen', hw, e1, hc, hidx, f1, f2, f3, f4, f5, hcl, f6, f7]
                    refine dk_of (by decide) ?_
                    simp [f8, f9, f10, f11, f12, f13, f14]
                    exact finS_fz (by simp)
                  | false =>
                    have hz : refLen r = 0 := by simp [refLen, hj, hcl]
                    have hc := none_ (by simp [size1, hz])
                    simp [Tryz.f71, entry, htl, hlen', hw, e1, hc, hidx, f1, f2, f3, f4, f5, hcl]
                    exact finS_fz (by simp)
                · have hz : refLen r = 0 := by simp [refLen, hge]
                  have hc := none_ (by simp [size1, hz])
                  have hge' := Lib.indexByte_ge r 59
                  have h1' : Lib.indexByte r 59 = -1 := by omega
                  have hidx : Lib.indexByte (76 :: r) 59 = -1 := by simp [Lib.indexByte, h1']
                  simp [Tryz.f71, entry, htl, hlen', hw, e1, hc, hidx]
                  exact finS_fz (by simp)
              · have hz : refLen r = 0 := by simp [refLen, hlt]
                have hc := none_ (by simp [size1, hz])
                have hidx : Lib.indexByte (76 :: r) 59 = -1 := by simp [Lib.indexByte, hlt]
                simp [Tryz.f71, entry, htl, hlen', hw, e1, hc, hidx]
                exact finS_fz (by simp)
            · have n76 : ((c.toNat : Int) = 76) = False := by simp; intro h; exact h76 (UInt8.toNat_inj.1 (by simp; omega))
              have hc := none_ (by simp [size1, h73, h74, h66, h76])
              simp [Tryz.f71, entry, htl, hlen', hw, e1, hc, n73, n74, n66, n76]
              exact finS_fz (by simp)

/-- what 'of' asks of a descriptor -/
def OfOk (s : Str) : Prop := s ≠ [] ∧ (s.head? = some 76 → 2 ≤ s.length)
instance (s : Str) : Decidable (OfOk s) := by unfold OfOk; infer_instance
theorem p_of : SoundP Tryz.prog gl 72 (fn1 cStr encTy fun s => if s.length < 1099511627776 ∧ OfOk s then some (tyOf s) else none) := by
  refine soundP_of_wk okX_nil mixed Tryz.func72 rfl rfl fun args r h G0 => ?_
  obtain ⟨s, e, rfl, he, rfl⟩ := fn1_inv h
  simp only [Option.ite_none_right_eq_some, Option.some.injEq] at he
  obtain ⟨⟨hs, hne, h2⟩, rfl⟩ := he
  cases s with
  | nil => exact absurd rfl hne
  | cons c r =>
    by_cases h73 : c = 73
    · subst h73
      simp [Tryz.f72, entry, tyOf]
      exact finS_fz (by simp)
    · have n73 : ((c.toNat : Int) = 73) = False := by simp; intro h; exact h73 (UInt8.toNat_inj.1 (by simp; omega))
      by_cases h74 : c = 74
      · subst h74
        simp [Tryz.f72, entry, tyOf]
        exact finS_fz (by simp)
      · have n74 : ((c.toNat : Int) = 74) = False := by simp; intro h; exact h74 (UInt8.toNat_inj.1 (by simp; omega))
        by_cases h76 : c = 76
        · subst h76
          simp at h2 hs
          have hw := wrap_i64 (show (-9223372036854775808 : Int) ≤ (r.length : Int) by omega) (by omega)
          have hr : 1 ≤ r.length := by omega
          have hdl : List.drop 1 (List.take r.length (76 :: r)) = r.dropLast := by
            cases r with
            | nil => simp at hr
            | cons d r => simp [List.dropLast_eq_take]
          have hty : tyOf (76 :: r) = ⟨4, r.dropLast⟩ := rfl
          simp [Tryz.f72, entry, hw, hr, hdl, hty]
          exact finS_fz (by simp)
        · have n76 : ((c.toNat : Int) = 76) = False := by simp; intro h; exact h76 (UInt8.toNat_inj.1 (by simp; omega))
          simp [Tryz.f72, entry, n73, n74, n76, tyOf, h73, h74, h76]
          exact finS_fz (by simp)

theorem refLen_ge (r : Str) (h : refLen r ≠ 0) : 2 ≤ refLen r := by
  unfold refLen at h ⊢
  split at h
  · rename_i hc; rw [if_pos hc]; omega
  · exact absurd rfl h
/-- what 'of' asks of a descriptor -/
theorem of_ok {s : Str} (h : descLen s 0 ≠ 0) : OfOk (s.take (descLen s 0)) := by
  cases s with
  | nil => simp [descLen] at h
  | cons c r =>
    refine ⟨by simp [h], fun h2 => ?_⟩
    have hc : c = 76 := by
      cases hq : descLen (c :: r) 0 with
      | zero => exact absurd hq h
      | succ n => rw [hq] at h2; simpa using h2
    subst hc
    have e : descLen (76 :: r) 0 = refLen r := by simp [descLen]
    have := refLen_ge r (by rw [← e]; exact h)
    have := descLen_le (76 :: r) 0
    simp only [List.length_take]
    omega

theorem p_kindParse : SoundP Tryz.prog gl 39 (fn1 cStr encTyErr fun s => if s.length < 1099511627776 then some (parse s) else none) := by
  refine soundP_of_wk ((okX_nil.addP p_of).addP p_cut) mixed Tryz.func39 rfl rfl fun args r h G0 => ?_
  obtain ⟨s, e, rfl, he, rfl⟩ := fn1_inv h
  simp only [Option.ite_none_right_eq_some, Option.some.injEq] at he
  obtain ⟨hs, rfl⟩ := he
  by_cases h0 : descLen s 0 = 0
  · have hc : cut s = ([], s) := by simp [cut, h0]
    have hp : parse s = (⟨0, []⟩, 100) := by simp [parse, h0]
    simp [Tryz.f39, entry, hs, hc, hp]
    exact finS_fz (by simp)
  · have hc : cut s = (s.take (descLen s 0), s.drop (descLen s 0)) := by simp [cut, h0]
    have o := of_ok h0
    have o1 := o.1
    have hle := descLen_le s 0
    by_cases h1 : descLen s 0 = s.length
    · have hp : parse s = (tyOf s, 0) := by rw [parse, if_neg (fun h => h.elim h0 (fun h => h h1))]
      rw [h1, List.take_length] at o1 o
      rw [h1, List.take_length, List.drop_length] at hc
      simp [Tryz.f39, entry, hs, hc, hp, o1, o]
      exact finS_fz (by simp)
    · have hp : parse s = (⟨0, []⟩, 100) := by simp [parse, h1]
      have hd : s.drop (descLen s 0) ≠ [] := by
        intro h
        have := congrArg List.length h
        simp at this
        omega
      generalize hq : s.drop (descLen s 0) = q at hd hc
      generalize hq' : s.take (descLen s 0) = q' at o1 o hc
      simp [Tryz.f39, entry, hs, hc, hp, hd, o1]
      exact finS_fz (by simp)
end Go.Proofs.YtgpkochbmfhmdaaGreatDoor.Lift
namespace Go.Proofs.YtgpkochbmfhmdaaGreatDoor.Lift
open Go
set_option maxRecDepth 100000

/-- how many of the types are longs -/
def longs (l : List ATy) : Nat := (l.filter fun x => decide (x.kind = 2)).length
theorem longs_le (l : List ATy) : longs l ≤ l.length := List.length_filter_le _ _
theorem longs_succ (l : List ATy) (i : Nat) (h : i < l.length) : longs (l.take (i + 1)) = longs (l.take i) + if l[i].kind = 2 then 1 else 0 := by
  rw [List.take_succ_eq_append_getElem h]
  simp only [longs, List.filter_append, List.length_append, List.filter_cons, List.filter_nil]
  split <;> rename_i h' <;> simp at h' <;> simp [h']
/-- how wide types are together -/
def wide (l : List ATy) : Int := (l.length + longs l : Nat)

theorem p_kindWide : SoundP Tryz.prog gl 76 (fn1 (cL cTy) encInt fun l => if l.length < 1099511627776 then some (wide l) else none) := by
  refine soundP_of_wk okX_nil mixed Tryz.func76 rfl rfl fun args r h G0 => ?_
  obtain ⟨l, e, rfl, he, rfl⟩ := fn1_inv h
  simp only [Option.ite_none_right_eq_some, Option.some.injEq] at he
  obtain ⟨hs, rfl⟩ := he
  simp [Tryz.f76, entry]
  refine lp_of okX_nil mixed (fun (i : Nat) => ⟨21, frL [(3, .int .i64 ((l.length + longs (l.take i) : Nat) : Int)), (8, .sl (l.map encTy)), (9, .int .i64 l.length), (10, .int .i64 i)], []⟩) (fun i => i ≤ l.length) (fun i => l.length - i) 0 (by simp) (weak_frL rfl rfl (by simp [longs])) ?_
  intro i hi
  simp
  refine br_dec (fun h3 => ?_) (fun h3 => ?_)
  · have hx : l[i]? = some l[i] := by simp [h3]
    have hle := longs_le (l.take i)
    have hl := List.length_take_le i l
    have hw := wrap_i64 (show (-9223372036854775808 : Int) ≤ (i : Int) + 1 by omega) (by omega)
    have hw2 := wrap_i64 (show (-9223372036854775808 : Int) ≤ (l.length : Int) + (longs (l.take i) : Int) + 1 by omega) (by omega)
    have hsucc := longs_succ l i h3
    by_cases h2 : l[i].kind = 2
    · simp [hx, h2, hw, hw2]
      refine nextQ_less (i + 1) h3 (by omega) (less_frL fz_gl (st2 := [_]) (by simp [G0.2]) rfl rfl rfl ?_)
      simp [hsucc, h2]
      omega
    · simp [hx, h2, hw]
      refine nextQ_less (i + 1) h3 (by omega) (less_frL fz_gl (st2 := [_]) (by simp [G0.2]) rfl rfl rfl ?_)
      simp [hsucc, h2]
  · have : i = l.length := by omega
    subst this
    simp [wide]
    exact finS_fz (by simp)

theorem p_array : SoundP Tryz.prog gl 57 (fn1 cStr encBool fun s => some (decide (s.head? = some 91))) := by
  refine soundP_of_wk (okX_nil.addP p_stringsHasPrefix) mixed Tryz.func57 rfl rfl fun args r h G0 => ?_
  obtain ⟨s, e, rfl, he, rfl⟩ := fn1_inv h
  cases he
  have : (([91] : Str) <+: s) = (s.head? = some 91) := by
    cases s with
    | nil => simp
    | cons c s => simp [List.cons_prefix_cons, eq_comm]
  simp [Tryz.f57, entry, this]
  exact finS_fz (by simp)

/-- the text of a type, if it has one -/
def texty (x : ATy) : Str := if x.kind = 1 then [73] else if x.kind = 2 then [74] else if x.kind = 4 then (if x.name.head? = some 91 then x.name else 76 :: (x.name ++ [59])) else []
/-- Print: 10.1 -/
def print (x : ATy) : Str × Int := if parse (texty x) = (x, 0) then (texty x, 0) else ([], 100)
@[simp] def encSErr (x : Str × Int) : AV := .tup [.str x.1, .int .i64 x.2]

theorem p_kindPrint : SoundP Tryz.prog gl 101 (fn1 cTy encSErr fun x => if x.name.length < 1099511600000 then some (print x) else none) := by
  refine soundP_of_wk ((okX_nil.addP p_array).addP p_kindParse) mixed Tryz.func101 rfl rfl fun args r h G0 => ?_
  obtain ⟨x, e, rfl, he, rfl⟩ := fn1_inv h
  simp only [Option.ite_none_right_eq_some, Option.some.injEq] at he
  obtain ⟨hs, rfl⟩ := he
  obtain ⟨k, nm⟩ := x
  simp at hs
  by_cases h1 : k = 1
  · subst h1
    cases hp : parse [73] with
    | mk ty er =>
      obtain ⟨tk, tn⟩ := ty
      by_cases he : er = 0
      · subst he
        by_cases hk : tk = 1
        · by_cases hn : tn = nm
          · have hpr : print ⟨1, nm⟩ = ([73], 0) := by simp [print, texty, hp, hk, hn]
            subst hn
            simp [Tryz.f101, entry, hp, hk, hpr]
            exact finS_fz (by simp)
          · have hpr : print ⟨1, nm⟩ = ([], 100) := by simp [print, texty, hp, hn]
            simp [Tryz.f101, entry, hp, hk, hn, hpr]
            exact finS_fz (by simp)
        · have hpr : print ⟨1, nm⟩ = ([], 100) := by simp [print, texty, hp, hk]
          simp [Tryz.f101, entry, hp, hk, hpr]
          exact finS_fz (by simp)
      · have hpr : print ⟨1, nm⟩ = ([], 100) := by simp [print, texty, hp, he]
        simp [Tryz.f101, entry, hp, he, hpr]
        exact finS_fz (by simp)
  · by_cases h2 : k = 2
    · subst h2
      cases hp : parse [74] with
      | mk ty er =>
        obtain ⟨tk, tn⟩ := ty
        by_cases he : er = 0
        · subst he
          by_cases hk : tk = 2
          · by_cases hn : tn = nm
            · have hpr : print ⟨2, nm⟩ = ([74], 0) := by simp [print, texty, hp, hk, hn]
              subst hn
              simp [Tryz.f101, entry, hp, hk, hpr]
              exact finS_fz (by simp)
            · have hpr : print ⟨2, nm⟩ = ([], 100) := by simp [print, texty, hp, hn]
              simp [Tryz.f101, entry, hp, hk, hn, hpr]
              exact finS_fz (by simp)
          · have hpr : print ⟨2, nm⟩ = ([], 100) := by simp [print, texty, hp, hk]
            simp [Tryz.f101, entry, hp, hk, hpr]
            exact finS_fz (by simp)
        · have hpr : print ⟨2, nm⟩ = ([], 100) := by simp [print, texty, hp, he]
          simp [Tryz.f101, entry, hp, he, hpr]
          exact finS_fz (by simp)
    · by_cases h4 : k = 4
      · subst h4
        by_cases ha : nm.head? = some 91
        · have hs2 : nm.length < 1099511627776 := by omega
          cases hp : parse nm with
          | mk ty er =>
            obtain ⟨tk, tn⟩ := ty
            by_cases he : er = 0
            · subst he
              by_cases hk : tk = 4
              · by_cases hn : tn = nm
                · have hpr : print ⟨4, nm⟩ = (nm, 0) := by simp [print, texty, hp, hk, hn, ha]
                  subst hn
                  simp [Tryz.f101, entry, ha, hs2, hp, hk, hpr]
                  exact finS_fz (by simp)
                · have hpr : print ⟨4, nm⟩ = ([], 100) := by simp [print, texty, hp, hn, ha]
                  simp [Tryz.f101, entry, ha, hs2, hp, hk, hn, hpr]
                  exact finS_fz (by simp)
              · have hpr : print ⟨4, nm⟩ = ([], 100) := by simp [print, texty, hp, hk, ha]
                simp [Tryz.f101, entry, ha, hs2, hp, hk, hpr]
                exact finS_fz (by simp)
            · have hpr : print ⟨4, nm⟩ = ([], 100) := by simp [print, texty, hp, he, ha]
              simp [Tryz.f101, entry, ha, hs2, hp, he, hpr]
              exact finS_fz (by simp)
        · have hs2 : nm.length + 1 + 1 < 1099511627776 := by omega
          have hs3 : 1 + nm.length ≤ 4611686018427387904 := by omega
          have hs4 : nm.length + 1 + 1 ≤ 4611686018427387904 := by omega
          cases hp : parse (76 :: (nm ++ [59])) with
          | mk ty er =>
            obtain ⟨tk, tn⟩ := ty
            by_cases he : er = 0
            · subst he
              by_cases hk : tk = 4
              · by_cases hn : tn = nm
                · have hpr : print ⟨4, nm⟩ = ((76 :: (nm ++ [59])), 0) := by simp [print, texty, hp, hk, hn, ha]
                  subst hn
                  simp [Tryz.f101, entry, ha, hs2, hs3, hs4, hp, hk, hpr]
                  exact finS_fz (by simp)
                · have hpr : print ⟨4, nm⟩ = ([], 100) := by simp [print, texty, hp, hn, ha]
                  simp [Tryz.f101, entry, ha, hs2, hs3, hs4, hp, hk, hn, hpr]
                  exact finS_fz (by simp)
              · have hpr : print ⟨4, nm⟩ = ([], 100) := by simp [print, texty, hp, hk, ha]
                simp [Tryz.f101, entry, ha, hs2, hs3, hs4, hp, hk, hpr]
                exact finS_fz (by simp)
            · have hpr : print ⟨4, nm⟩ = ([], 100) := by simp [print, texty, hp, he, ha]
              simp [Tryz.f101, entry, ha, hs2, hs3, hs4, hp, he, hpr]
              exact finS_fz (by simp)
      · have hpr : print ⟨k, nm⟩ = ([], 100) := by simp [print, texty, h1, h2, h4, parse, descLen]
        have hp : parse [] = (⟨0, []⟩, 100) := rfl
        simp [Tryz.f101, entry, h1, h2, h4, hp, hpr]
        exact finS_fz (by simp)
end Go.Proofs.YtgpkochbmfhmdaaGreatDoor.Lift
