/-
  M1: larchlaw11's light, classes, works; larchbase's SameFrame; ShapeSizes' function is true.
  M3: larchlaw11's own, as what it puts into memory; and ShapeSelf.
  LIFT, Z: FROM A PURE CONTRACT TO A STATEMENT: a reading of the arguments stands behind the call, whatever else is spared.
  LIFT, Y: THE ARGUMENTS OF A STATEMENT, OPENED: what a reading reads is a typed value that lies there.
  LIFT, R0: how the program's structs are read out of a statement's arguments.
  LIFT, R1: the structs of a class's places, instructions and frames, and larchlaw11's.
-/
import Derived.Test.YtollfopbmbjnhaaDoorQ9
import Derived.ChangeSame
import Derived.ChangeReads
import Derived.Below
import Derived.OpenShut
import Derived.RowKit
import Derived.ProofKit
import Derived.Test.YtollfopbmbjnhaaDoorRows
import Derived.ChangeArms
import Derived.ChangeMaps5
import Derived.KernelRfl
namespace Go.Proofs.YtollfopbmbjnhaaDoor.Lift
open Go
set_option maxRecDepth 100000

theorem p_light : SoundP Tryd.prog gl 6 (fn1 cFrame encBool fun f => some (decide (f.locals.length ≤ 100) && decide (f.stack.length ≤ 100))) := by
  refine soundP_of_wk okX_nil mixed Tryd.func6 rfl rfl fun args r h G0 => ?_
  obtain ⟨f, e, rfl, he, rfl⟩ := fn1_inv h
  cases he
  by_cases h1 : f.locals.length ≤ 100
  · have h2 : ((f.locals.length : Int) ≤ 100) = True := eq_true (by omega)
    by_cases h3 : f.stack.length ≤ 100
    · have h4 : ((f.stack.length : Int) ≤ 100) = True := eq_true (by omega)
      simp [Tryd.f6, entry, h1, h2, h3, h4]
      exact finS_fz (by simp)
    · have h4 : ((f.stack.length : Int) ≤ 100) = False := eq_false (by omega)
      simp [Tryd.f6, entry, h1, h2, h3, h4]
      exact finS_fz (by simp)
  · have h2 : ((f.locals.length : Int) ≤ 100) = False := eq_false (by omega)
    simp [Tryd.f6, entry, h1, h2]
    exact finS_fz (by simp)
def classes30 (l : List APair) : List AClass := (l.take 30).map bare
theorem p_classes11 : SoundP Tryd.prog gl 8 (fn1 (cL cPair) (cL cClass).enc fun l => if l.length < 1099511627776 then some (classes30 l) else none) := by
  refine soundP_of_wk okX_nil mixed Tryd.func8 rfl rfl fun args r h G0 => ?_
  obtain ⟨l, e, rfl, he, rfl⟩ := fn1_inv h
  simp only [Option.ite_none_right_eq_some, Option.some.injEq] at he
  obtain ⟨hs, rfl⟩ := he
  simp [Tryd.f8, entry]
  refine lp_of okX_nil mixed (fun (i : Nat) => ⟨31, frL [(0, .sl (l.map encPair)), (3, .sr 0 i 0 i), (4, .int .i64 i)], [.row 5 i 0 ((l.take i).map bareRaw)]⟩) (fun i => i ≤ l.length ∧ i ≤ 30) (fun i => l.length - i) 0 (by simp) (weak_frL rfl rfl (by simp)) ?_
  intro i ⟨hi, hi40⟩
  have htl : min i l.length = i := by omega
  have endd : ¬ (i < l.length ∧ i < 30) → l.take 30 = l.take i := fun hn => by
    by_cases h1 : i < l.length
    · have : i = 30 := by omega
      rw [this]
    · rw [List.take_of_length_le (by omega), List.take_of_length_le (by omega)]
  by_cases h3 : i < l.length
  · by_cases h4 : i < 30
    · have hx : l[i]? = some l[i] := by simp [h3]
      have hw := wrap_i64 (show (-9223372036854775808 : Int) ≤ (i : Int) + 1 by omega) (by omega)
      have e1 : ((i : Int) < 30) = True := by simp; omega
      have hb : (i + 1) * 104 ≤ 140737488355328 := by omega
      simp [h3, e1]
      refine dk_of (by decide) ?_
      simp [hx]
      refine sd_of (by decide) ?_
      simp [hb, htl]
      refine sd_of (by decide) ?_
      simp [hw]
      have hstep : List.take i (List.take i (l.map bareRaw)) ++ [AV.agg [.snil, .str l[i].name, .str l[i].super, .snil, .snil]] = List.take (i + 1) (l.map bareRaw) := by
        rw [take_bare, ← List.map_take, List.take_succ_eq_append_getElem h3, List.map_append]
        rfl
      refine nextQ_less (i + 1) ⟨h3, h4⟩ (by omega) (less_take fz_gl G0.2 rfl (by simp [hstep]) (by simp) (by simp))
    · have e1 : ((i : Int) < 30) = False := by simp; omega
      simp [h3, e1]
      refine finS_of 9 ?_
      simp [htl, peek_bare', classes30, endd (fun h => h4 h.2)]
  · simp [h3]
    refine finS_of 9 ?_
    simp [htl, peek_bare', classes30, endd (fun h => h3 h.1)]
theorem p_SameFrame : SoundP Tryd.prog gl 9 (fn2 cFrame cFrame encBool fun a b => if a.locals.length < 1099511627776 ∧ a.stack.length < 1099511627776 then some (decide (a = b)) else none) := by
  refine soundP_of_wk (okX_nil.addP p_SameTypes) mixed Tryd.func9 rfl rfl fun args r h G0 => ?_
  obtain ⟨a, b, e, rfl, he, rfl⟩ := fn2_inv h
  simp only [Option.ite_none_right_eq_some, Option.some.injEq] at he
  obtain ⟨⟨h1, h2⟩, rfl⟩ := he
  obtain ⟨al, ast⟩ := a
  obtain ⟨bl, bs⟩ := b
  simp only at h1 h2
  by_cases hl : al = bl
  · subst hl
    simp [Tryd.f9, entry, h1, h2]
    exact finS_eq (by simp) rfl
  · simp [Tryd.f9, entry, h1, hl]
    exact finS_eq (by simp) rfl

theorem step_w1 : gStep [] ⟨[], [], [], [], []⟩ ⟨0, []⟩ ⟨0, 133, 0, 0, []⟩ ⟨[], [⟨1, []⟩]⟩ 4 = some (⟨[], [⟨2, []⟩]⟩, 0) := by
  simp [gStep, stepO, handO, plainT, plainO, effectT, effTab, doesO, popsO, lettersT, letterT, popR, pop1, topO, gMayT, may_self, mustT, pushR, pushO, wide, longs]
theorem step_w2 : gStep [] ⟨[], [], [], [], []⟩ ⟨0, []⟩ ⟨0, 96, 0, 0, []⟩ ⟨[], [⟨1, []⟩, ⟨1, []⟩]⟩ 4 = some (⟨[], [⟨1, []⟩]⟩, 0) := by
  simp [gStep, stepO, handO, plainT, plainO, effectT, effTab, doesO, popsO, lettersT, letterT, popR, pop1, topO, gMayT, may_self, mustT, pushR, pushO, wide, longs]
theorem may_JI : may [] ⟨2, []⟩ ⟨1, []⟩ = false := by rw [may_eq]; simp
theorem step_w3 : gStep [] ⟨[], [], [], [], []⟩ ⟨0, []⟩ ⟨0, 96, 0, 0, []⟩ ⟨[], [⟨1, []⟩, ⟨2, []⟩]⟩ 4 = some (⟨[], []⟩, 110) := by
  simp [gStep, stepO, handO, plainT, plainO, effectT, effTab, doesO, popsO, lettersT, letterT, popR, pop1, topO, gMayT, may_self, may_JI, mustT, pushR, pushO, wide, longs]
theorem p_works11 : SoundP Tryd.prog gl 5 (fn0 encBool (some true)) := by
  refine soundP_of_wk (((okX_nil.addP p_Step).addP p_SameTypes).b [16, 27, 38, 49, 60]) mixed Tryd.func5 rfl rfl fun args r h G0 => ?_
  obtain ⟨e, rfl, he, rfl⟩ := fn0_inv h
  cases he
  simp [Tryd.f5, entry, step_w1, step_w2, step_w3]
  exact finS_fz (by simp)
end Go.Proofs.YtollfopbmbjnhaaDoor.Lift
namespace Go.Proofs.YtollfopbmbjnhaaDoor.Lift
open Go
set_option maxRecDepth 100000

/-- own: two new lists, behind the frame's box and the answer's -/
@[simp] def sOwn : Spec := fun args st => match args with
  | [x] => (decFrame x).bind fun f => if f.locals.length < 1099511627776 ∧ f.stack.length < 1099511627776 then
      some (.agg [.sr (st.length + 2) 2 0 f.locals.length, .sr (st.length + 3) 2 0 f.stack.length], st ++ [.row 2 0 0 [encFrame f], .row 2 0 0 [.agg [.sr (st.length + 2) 2 0 f.locals.length, .sr (st.length + 3) 2 0 f.stack.length]], .row 2 2 0 (f.locals.map encTy), .row 2 2 0 (f.stack.map encTy)]) else none
  | _ => none
set_option maxHeartbeats 4000000 in
theorem f_own : SoundF Tryd.prog gl 11 sOwn := by
  refine soundF_of_wk okX_nil mixed Tryd.func11 rfl rfl fun args st r st' hs G0 => ?_
  unfold sOwn at hs
  split at hs
  · rename_i x
    obtain ⟨f, hf, hs2⟩ := Option.bind_eq_some_iff.1 hs
    obtain rfl := edFrame _ _ hf
    clear hs
    split at hs2
    case isFalse => cases hs2
    rename_i hb
    cases hs2
    obtain ⟨h1, h2⟩ := hb
    clear hf
    obtain ⟨xs, ys⟩ := f
    replace h1 : xs.length < 1099511627776 := h1
    replace h2 : ys.length < 1099511627776 := h2
    have b1 : xs.length * 24 ≤ 140737488355328 := by omega
    have b2 : ys.length * 24 ≤ 140737488355328 := by omega
    simp [Tryd.f11, entry]
    refine dk_ofA [(3, st.length + 2), (7, st.length + 3)] [2, 2] [(0, .tup []), (2, .ptr st.length 0 0 0), (3, .tup [.sr (st.length + 2) 1 0 0, .sl (xs.map encTy)]), (4, .tup []), (6, .ptr st.length 0 0 1), (7, .tup [.sr (st.length + 3) 1 0 0, .sl (ys.map encTy)])] (by decide) ?_
    simp [List.lookup]
    refine sdA_loc rfl rfl rfl ?_ ?_
    · simp (decide := true) [steadyKL, farP, locKey, frOf, appKey, flatV, List.lookup, blind]
    simp [List.lookup, b1, b2]
    refine sdA_loc rfl rfl rfl ?_ ?_
    · simp (decide := true) [steadyKL, farP, locKey, frOf, appKey, flatV, List.lookup, blind]
    simp [List.lookup, b1, b2]
    refine sdA_loc rfl rfl rfl ?_ ?_
    · simp (decide := true) [steadyKL, farP, locKey, frOf, appKey, flatV, List.lookup, blind]
    simp [List.lookup, b1, b2]
    refine sdA_loc rfl rfl rfl ?_ ?_
    · simp (decide := true) [steadyKL, farP, locKey, frOf, appKey, flatV, List.lookup, blind]
    simp [List.lookup, b1, b2]
    refine sdA_of (by decide) ?_
    simp
  · cases hs

theorem mayAll_self (l : List AClass) : ∀ xs : List ATy, mayAll l xs xs = true
  | [] => rfl
  | x :: xs => by simp [mayAll, may_self, mayAll_self l xs]
theorem mayAll_tops (l : List AClass) : ∀ xs : List ATy, mayAll l xs (List.replicate xs.length ⟨0, []⟩) = true
  | [] => rfl
  | x :: xs => by
    have : may l x ⟨0, []⟩ = true := by rw [may_eq, if_pos (.inl rfl)]
    simp [List.replicate_succ, mayAll, this, mayAll_tops l xs]
theorem mayAll_more (l : List AClass) (xs ys : List ATy) (h : xs.length ≠ ys.length) : mayAll l xs ys = false := by
  cases hq : mayAll l xs ys with
  | false => rfl
  | true => exact absurd (mayAll_length hq) h
theorem zero_tys (n : Nat) : List.replicate n (AV.agg [.int .i64 0, .str []]) = (List.replicate n (⟨0, []⟩ : ATy)).map encTy := by simp
theorem more_tys (l : List ATy) : l.map encTy ++ [AV.agg [.int .i64 0, .str []]] = (l ++ [(⟨0, []⟩ : ATy)]).map encTy := by simp
def gSelf (p : List APair) (f : AFrame) : Option Bool :=
  if p.length < 1099511627776 ∧ (∀ x ∈ f.locals, x.name.length < 1099511600000) ∧ (∀ x ∈ f.stack, x.name.length < 1099511600000) then some true else none
theorem ok_self : OkX Tryd.prog (XE [(5, liftS 9 (fn0 encBool (some true))), (6, liftS 9 (fn1 cFrame encBool fun f => some (decide (f.locals.length ≤ 100) && decide (f.stack.length ≤ 100)))),
    (8, liftS 9 (fn1 (cL cPair) (cL cClass).enc fun l => if l.length < 1099511627776 then some (classes30 l) else none)), (11, sOwn),
    (12, liftS 9 (fn3 (cL cClass) cFrame cFrame encBool gFrameMay))]) :=
  ((((okX_nil.addP p_shapeMay).add f_own).addP p_classes11).addP p_light).addP p_works11
set_option maxHeartbeats 4000000 in
theorem p_ShapeSelf : SoundP Tryd.prog gl 4 (fn2 (cL cPair) cFrame encBool gSelf) := by
  refine soundP_of_wk ok_self mixed Tryd.func4 rfl rfl fun args r h G0 => ?_
  obtain ⟨p, f, e, rfl, he, rfl⟩ := fn2_inv h
  clear h
  unfold gSelf at he
  simp only [Option.ite_none_right_eq_some, Option.some.injEq] at he
  obtain ⟨⟨h1, h2, h3⟩, rfl⟩ := he
  by_cases hL : (decide (f.locals.length ≤ 100) && decide (f.stack.length ≤ 100)) = true
  · have hL2 := hL
    simp only [Bool.and_eq_true, decide_eq_true_eq] at hL2
    have hcl : (classes30 p).length < 1099511627776 := by unfold classes30; simp; omega
    have m1 : gFrameMay (classes30 p) f f = some true := by
      unfold gFrameMay gMayAll
      rw [if_pos ⟨by omega, hcl, h2, h2⟩, if_pos ⟨by omega, hcl, h3, h3⟩, mayAll_self, mayAll_self]
      rfl
    have m2 : gFrameMay (classes30 p) f ⟨List.replicate f.locals.length ⟨0, []⟩, List.replicate f.stack.length ⟨0, []⟩⟩ = some true := by
      unfold gFrameMay gMayAll
      rw [if_pos ⟨by omega, hcl, h2, by simp⟩, if_pos ⟨by omega, hcl, h3, by simp⟩, mayAll_tops, mayAll_tops]
      rfl
    have h3' : ∀ x ∈ f.stack ++ [(⟨0, []⟩ : ATy)], x.name.length < 1099511600000 := fun x hx => by
      rcases List.mem_append.1 hx with hx | hx
      · exact h3 x hx
      · simp only [List.mem_singleton] at hx
        subst hx
        decide
    have m3 : gFrameMay (classes30 p) f ⟨f.locals, f.stack ++ [⟨0, []⟩]⟩ = some false := by
      unfold gFrameMay gMayAll
      rw [if_pos ⟨by omega, hcl, h2, h2⟩, if_pos ⟨by omega, hcl, h3, h3'⟩, mayAll_more _ f.stack _ (by simp)]
      simp
    have m4 : gFrameMay (classes30 p) ⟨f.locals, f.stack ++ [⟨0, []⟩]⟩ f = some false := by
      unfold gFrameMay gMayAll
      rw [if_pos ⟨show f.locals.length < _ by omega, hcl, h2, h2⟩, if_pos ⟨by simp; omega, hcl, h3', h3⟩, mayAll_more _ _ f.stack (by simp)]
      simp
    obtain ⟨xs, ys⟩ := f
    simp only at *
    have b1 : xs.length < 1099511627776 := by omega
    have b2 : ys.length < 1099511627776 := by omega
    have b3 : xs.length * 24 ≤ 140737488355328 := by omega
    have b4 : ys.length * 24 ≤ 140737488355328 := by omega
    have b5 : (xs.length : Int) * 24 ≤ 140737488355328 := by omega
    have b6 : (ys.length : Int) * 24 ≤ 140737488355328 := by omega
    have b7 : (ys.length + 1) * 24 ≤ 140737488355328 := by omega
    have b8 : (xs.length : Int) ≤ 140737488355328 := by omega
    have b9 : (ys.length : Int) ≤ 140737488355328 := by omega
    simp [Tryd.f4, entry, hL, h1]
    refine dk_ofA [(18, 1), (22, 2), (6, 3)] [2, 2, 2] [(1, .ptr 0 0 0 0), (2, .tup [.sl (xs.map encTy)]), (6, .tup [.sl (ys.map encTy)]), (8, .tup [.sr 1 1 0 xs.length, .sr 2 1 0 ys.length]), (3, .tup [.int .i64 xs.length, .int .i64 xs.length]), (5, .ptr 0 0 0 1), (7, .tup [.int .i64 ys.length, .int .i64 ys.length]), (9, .tup [])] (by decide) ?_
    simp [List.lookup, b3, b4, b5, b6, b8, b9]
    refine sdA_loc rfl rfl rfl ?_ ?_
    · simp (decide := true) [steadyKL, farP, locKey, frOf, List.lookup, blind]
    simp [List.lookup, b3, b4, b5, b6, b8, b9]
    refine sdA_loc rfl rfl rfl ?_ ?_
    · simp (decide := true) [steadyKL, farP, locKey, frOf, List.lookup, blind]
    simp [List.lookup, b3, b4, b5, b6, b8, b9]
    refine sdA_loc rfl rfl rfl ?_ ?_
    · simp (decide := true) [steadyKL, farP, locKey, frOf, List.lookup, blind]
    simp [List.lookup]
    refine sdA_of (by decide) ?_
    have z1 := zero_tys xs.length
    have z2 := zero_tys ys.length
    have z3 := more_tys ys
    have t1 : List.take xs.length (List.map encTy (List.replicate xs.length (⟨0, []⟩ : ATy))) = List.map encTy (List.replicate xs.length ⟨0, []⟩) := List.take_of_length_le (by simp)
    have t2 : List.take ys.length (List.map encTy (List.replicate ys.length (⟨0, []⟩ : ATy))) = List.map encTy (List.replicate ys.length ⟨0, []⟩) := List.take_of_length_le (by simp)
    have t3 : List.take (ys.length + 1) (List.map encTy (ys ++ [(⟨0, []⟩ : ATy)])) = List.map encTy (ys ++ [⟨0, []⟩]) := List.take_of_length_le (by simp)
    simp [-List.map_replicate, -List.map_append, b1, b2, b7, z1, z2, z3, t1, t2, t3, m1, m2, m3, m4]
    exact finS_fz (by simp)
  · have hL' : (decide (f.locals.length ≤ 100) && decide (f.stack.length ≤ 100)) = false := by simpa using hL
    simp [Tryd.f4, entry, hL']
    exact finS_fz (by simp)
end Go.Proofs.YtollfopbmbjnhaaDoor.Lift
namespace Go.Proofs.YtollfopbmbjnhaaDoor.Lift
open Go

/-- the types of the table: what they are made of is in the table; no slice's elements are of no size -/
def kidsOk (P : Program) (n : Nat) : TypeDesc → Bool
  | .pointer e => decide (e < n)
  | .slice e => decide (e < n) && decide (0 < P.cellsOf e)
  | .array _ e => decide (e < n)
  | .map _ e => decide (e < n)
  | .struct fs => fs.toList.all fun f => decide (f.type < n)
  | _ => true
def NoNull (P : Program) : Prop := (List.range P.types.size).all (fun t => match P.underlying t with | some d => kidsOk P P.types.size d | none => true) = true
theorem NoNull.kids {P : Program} (h : NoNull P) {t : TypeId} (ht : t < P.types.size) {d : TypeDesc} (hd : P.underlying t = some d) : kidsOk P P.types.size d = true := by
  have := List.all_eq_true.1 h t (List.mem_range.2 ht)
  simpa only [hd] using this

section
variable {H : Type} {enc : TypeId × Value → H} {P : Program} {w : World} {base : Nat} {sp : Nat → Bool}

theorem trodStep_spare (hn : NoNull P) {r r' : TypeId → List Value → Option (DataW H × List MemPlace)}
    (hr : ∀ t cs x, t < P.types.size → r t cs = some x → (∀ p ∈ x.2, sp p.block = true) → r' t cs = some x) {t : TypeId} (htn : t < P.types.size) {cs : List Value} {x : DataW H × List MemPlace}
    (h : DataW.trodStep enc P w base (fun _ => true) true r t cs = some x) (hs : ∀ p ∈ x.2, sp p.block = true) : DataW.trodStep enc P w base sp true r' t cs = some x := by
  unfold DataW.trodStep at h ⊢
  split at h
  case h_1 => exact h
  case h_2 => exact h
  case h_3 => exact h
  case h_4 => exact h
  case h_5 => exact h
  case h_6 e a hu =>
    have hk := hn.kids htn hu
    simp only [kidsOk, decide_eq_true_eq] at hk
    simp only [Option.map_eq_some_iff, Option.bind_eq_some_iff] at h ⊢
    obtain ⟨y, ⟨cs', hc, hy⟩, rfl⟩ := h
    exact ⟨y, ⟨cs', hc, hr _ _ _ hk hy (fun p hp => hs p (by simp [hp]))⟩, rfl⟩
  case h_7 => exact h
  case h_8 e a len cap hu =>
    have hk := hn.kids htn hu
    simp only [kidsOk, Bool.and_eq_true, decide_eq_true_eq] at hk
    simp only at h ⊢
    split at h
    · rename_i hc
      rw [if_pos hc]
      simp only [if_true, Option.map_eq_some_iff, Option.bind_eq_some_iff] at h ⊢
      obtain ⟨elems, he, rest, hrest, rfl⟩ := h
      have hel := mapM_some_length he
      have hrl := mapM_some_length hrest
      simp only [List.length_range] at hel hrl
      have conv : ∀ {l : List Nat} {z : List (DataW H × List MemPlace)} {f : Nat → Nat}, (l.mapM fun i => (w.cells? base (a.add (f i * P.cellsOf e)) (P.cellsOf e)).bind (r e)) = some z → (∀ y ∈ z, ∀ p ∈ y.2, sp p.block = true) →
          (l.mapM fun i => (w.cells? base (a.add (f i * P.cellsOf e)) (P.cellsOf e)).bind (r' e)) = some z := fun hz hsz => mapM_carry hz fun i y _ hy hiy => by
        simp only [Option.bind_eq_some_iff] at hiy ⊢
        obtain ⟨cs', h1, h2⟩ := hiy
        exact ⟨cs', h1, hr _ _ _ hk.1 h2 (hsz y hy)⟩
      have h1 : ∀ y ∈ elems, ∀ p ∈ y.2, sp p.block = true := fun y hy p hp => hs p (by
        simp only [List.mem_append, List.mem_flatMap]
        exact .inr ⟨y, .inl hy, hp⟩)
      have h2 : ∀ y ∈ rest, ∀ p ∈ y.2, sp p.block = true := fun y hy p hp => hs p (by
        simp only [List.mem_append, List.mem_flatMap]
        exact .inr ⟨y, .inr hy, hp⟩)
      refine ⟨elems, conv (f := id) he h1, rest, ?_, rfl⟩
      cases hsp : sp a.block with
      | true => exact conv (f := fun j => len + j) hrest h2
      | false =>
        -- then there is no place at all: nothing is spared
        have : cap = 0 := by
          apply Classical.byContradiction
          intro hcap
          have hpos := hk.2
          have hmem : MemPlace.cell a.block a.off ∈ MemPlace.row a ((elems.length + rest.length) * P.cellsOf e) := MemPlace.mem_row.2 ⟨0, by
            rw [hel, hrl]
            have : len + (cap - len) = cap := by omega
            rw [this]
            exact Nat.mul_pos (by omega) hpos, by simp⟩
          have := hs (MemPlace.cell a.block a.off) (by simp only [List.mem_append]; exact .inl hmem)
          simp only [MemPlace.block] at this
          rw [hsp] at this
          cases this
        have hlen : cap - len = 0 := by omega
        rw [hlen] at hrest
        simp at hrest
        simp [hrest]
    · cases h
  case h_9 fs cs' hu =>
    have hk := hn.kids htn hu
    simp only [kidsOk, List.all_eq_true, decide_eq_true_eq] at hk
    split at h
    · rename_i hc
      rw [if_pos hc]
      simp only [Option.map_eq_some_iff] at h ⊢
      obtain ⟨xs, hx, rfl⟩ := h
      exact ⟨xs, mapM_carry hx (fun f y hf hy hv => hr _ _ _ (hk f hf) hv (fun p hp => hs p (List.mem_flatMap.2 ⟨y, hy, hp⟩))), rfl⟩
    · cases h
  case h_10 m e cs' hu =>
    have hk := hn.kids htn hu
    simp only [kidsOk, decide_eq_true_eq] at hk
    split at h
    · rename_i hc
      rw [if_pos hc]
      simp only [Option.map_eq_some_iff] at h ⊢
      obtain ⟨xs, hx, rfl⟩ := h
      exact ⟨xs, mapM_carry hx (fun f y _ hy hv => hr _ _ _ hk hv (fun p hp => hs p (List.mem_flatMap.2 ⟨y, hy, hp⟩))), rfl⟩
    · cases h
  case h_11 => exact h
  case h_12 => exact h
  case h_13 => exact h
  case h_14 k e b hu =>
    have hk' := hn.kids htn hu
    simp only [kidsOk, decide_eq_true_eq] at hk'
    split at h
    · rename_i es clock hb
      split at h
      · rename_i hc
        simp only [Option.bind_eq_some_iff] at h
        obtain ⟨entries, he, hd⟩ := h
        split at hd
        · rename_i hris
          have hx := Option.some.inj hd
          subst hx
          simp only [if_pos hc, Option.bind_eq_some_iff]
          refine ⟨entries, mapM_carry he (fun x y _ hy hv => ?_), by simp [hris]⟩
          simp only [Option.bind_eq_some_iff] at hv ⊢
          obtain ⟨key, hk, hz⟩ := hv
          refine ⟨key, hk, ?_⟩
          split at hz
          · rename_i hf
            rw [if_pos hf]
            simp only [Option.map_eq_some_iff] at hz ⊢
            obtain ⟨q, hq, rfl⟩ := hz
            exact ⟨q, hr _ _ _ hk' hq (fun p hp => hs p (by simp only [List.mem_cons, List.mem_flatMap]; right; exact ⟨_, hy, hp⟩)), rfl⟩
          · cases hz
        · cases hd
      · cases h
    · cases h
  case h_15 => exact h
  case h_16 => exact h
  case h_17 => exact h
  case h_18 => exact h
  case h_19 => exact h
  case h_20 => exact h
  case h_21 => cases h

theorem trod_spare (hn : NoNull P) : ∀ (n : Nat) (t : TypeId) (cs : List Value) (x : DataW H × List MemPlace), t < P.types.size →
    DataW.trod enc P w base (fun _ => true) true n t cs = some x → (∀ p ∈ x.2, sp p.block = true) → DataW.trod enc P w base sp true n t cs = some x := by
  intro n
  induction n with
  | zero => intro t cs x _ h; simp [DataW.trod] at h
  | succ n ih =>
    intro t cs x htn h hs
    rw [DataW.trod_step] at h ⊢
    exact trodStep_spare hn ih htn h hs

/-- the arguments read behind the call as they read before -/
theorem trodAll_behind {w' : World} (hn : NoNull P) : ∀ {ts : List TypeId} {vs : List Value} {ds : List (DataW H)} {ps : List MemPlace}, (∀ t ∈ ts, t < P.types.size) → DataW.TrodAll enc P w 0 (fun _ => true) true ts vs ds ps →
    (∀ p ∈ ps, w.sameAt w' p) → (∀ p ∈ ps, sp p.block = true) → DataW.TrodAll enc P w' 0 sp true ts vs ds ps
  | [], [], [], _, _, h, _, _ => h
  | _ :: _, _ :: _, _ :: _, _, ht, ⟨p, q, ⟨n, h1⟩, h2, e⟩, h3, h4 => by
    subst e
    refine ⟨p, q, ⟨n, trod_spare hn n _ _ _ (ht _ (by simp)) (DataW.trod_carry n _ _ _ h1 fun x hx => h3 x (by simp [hx])) fun x hx => h4 x (by simp [hx])⟩, trodAll_behind hn (fun t htm => ht t (by simp [htm])) h2 (fun x hx => h3 x (by simp [hx])) (fun x hx => h4 x (by simp [hx])), rfl⟩
end

theorem below_of_ext {G G' : Gh} (hσ : G.σ = []) (hz : ∀ blk, ¬ G.z blk) (x : Ext G G') : RowKit.Below G.w.heap.size G.w G'.w := ⟨x.os, x.tape, x.output, x.size, fun k hk => x.old k hk (owned_nil hσ k) (fun h => absurd h (hz k))⟩

/-- where a statement's walk begins: all that there is is frozen -/
def startG (W : World) : Gh := { w := W, φ := fun b _ => b < W.heap.size, ρ := fun _ _ => none, σ := [] }
theorem inv_start (W : World) : Inv (startG W) := inv_nil rfl (fun _ _ h => h)

open Go.ChangeShapes Go.WideShapes in
/-- A LAW THAT RETURNS true AND LEAVES ITS ARGUMENTS AS THEY WERE, from a pure contract -/
theorem post_true {H : Type} {enc : TypeId × Value → H} {P : Program} (hn : NoNull P) {f : Nat} {fn : Func} {g : List AV → Option AV} (hp : SoundP P (fun _ => none) f g) (hfn : P.funcs[f]? = some fn) (hbody : fn.body.isNone = false) (hname : (fn.name == "runtime.NumGoroutine") = false) {tb : TypeId} (htb : P.underlying tb = some .bool)
    (hres : fn.resultTypes = #[tb]) {s : ChangeSpec} (hvars : s.vars = []) (hpt : ∀ t ∈ fn.params.toList, t < P.types.size) {apart fresh handsOn again : Bool} {W : World} {args : Array Value} {ds gs : List (DataW H)} {before : List MemPlace}
    (hW : DataW.Whole enc P fn.params.toList s.vars apart W args.toList ds gs before) (hs : s.fn H (ds ++ gs) = { results := [.lit (.bool true)], args := ds })
    {aargs : List AV} (hrep : RepL (startG W) aargs args.toList) (hg : g aargs = some (.bool true)) :
    Calls P f args W fun e W' => ∃ v, e = .returned v ∧ s.post enc P fn apart fresh handsOn again W args v W' := by
  have hc := hp.calls (startG W) aargs args.toList (.bool true) hg (inv_start W) rfl rfl (fun _ _ h => by cases h) hrep
  rw [Array.toArray_toList] at hc
  have hcalls : Calls P f args W (Ret (startG W) (.bool true) []) := by
    rcases hc with ⟨_, h⟩ | ⟨v, w', h, _⟩
    · exact h
    · rw [run_callFunc hfn hbody hname] at h
      cases h
  refine calls_imp hcalls fun e W' he => ?_
  cases e with
  | panicked c => exact he.elim
  | outgrown => exact he.elim
  | returned v =>
    obtain ⟨G', rfl, hσ, x, inv', hr⟩ := he
    cases hr
    have hb : RowKit.Below W.heap.size W G'.w := below_of_ext (G := startG W) rfl (fun _ h => h) x
    have hW' := hW
    obtain ⟨p, q, h1, h2, rfl, hz, hnd⟩ := hW
    rw [hvars] at h2
    obtain ⟨rfl, rfl⟩ := trodVars_none h2
    have hargs : ∀ sp : Nat → Bool, (∀ y ∈ p ++ [], sp y.block = true) → DataW.TrodAll enc P G'.w 0 sp true fn.params.toList args.toList (s.fn H (ds ++ [])).args p := fun sp hsp => by
      rw [hs]
      exact trodAll_behind hn hpt h1 (fun y hy => hb.same (hW'.lt y (by simpa using hy))) (fun y hy => hsp y (by simpa using hy))
    have hresd : ∀ (b : Nat) (sp : Nat → Bool) (hd : Bool), DataW.TrodAll enc P G'.w b sp hd fn.resultTypes.toList ((Value.bool true).resultList fn.resultTypes.size) (s.fn H (ds ++ [])).results [] := fun b sp hd => by
      rw [hs, hres]
      exact trodAll_cons_mk (RowKit.shut_bool htb true) trodAll_mk0
    have hold : ∀ y ∈ p ++ [], (fun b => decide (b < W.heap.size)) y.block = true := fun y hy => by simpa using hW'.lt y hy
    have hvd : ∀ sp : Nat → Bool, DataW.TrodVars enc P G'.w sp s.vars (s.fn H (ds ++ [])).vars [] := fun sp => by
      rw [hs, hvars]
      exact rfl
    refine ⟨_, rfl, ds, [], p ++ [], [], p, [], hW', hresd _ _ _, hargs _ hold, hvd _, hb.frame _, fun _ => ⟨?_, _, _, ([] ++ p) ++ [], ⟨[] ++ p, [], trodAll_append (hargs _ (fun _ _ => rfl)) (hresd _ _ _), hvd _, rfl, ?_, ?_⟩, ?_⟩⟩
    · intro j t r h3 h4
      rw [hres] at h3 h4
      cases j with
      | zero =>
        simp only [List.getElem?_toArray, List.getElem?_cons_zero, Option.some.injEq] at h3
        subst h3
        simp [Value.resultList] at h4
        subst h4
        exact RowKit.okWide_bool_mk htb true
      | succ j => simp at h3
    · intro b off hp'
      have hlt := hW'.lt _ (show MemPlace.cell b off ∈ p ++ [] by simpa using hp')
      rw [hb.frozen (p := ⟨b, off, none⟩) hlt]
      exact hz b off (by simpa using hp')
    · intro ha
      simpa using hnd ha
    · intro y hy _
      simpa using hy
end Go.Proofs.YtollfopbmbjnhaaDoor.Lift
namespace Go.Proofs.YtollfopbmbjnhaaDoor.Lift
open Go

/-- what is read of a type lies there as a typed value (z: how much it is) -/
structure Reads (P : Program) (t : TypeId) {α : Type} (c : Cod α) (z : α → Nat) : Prop where
  read : ∀ {H : Type} {enc : TypeId × Value → H} {W : World} {base : Nat} {sp : Nat → Bool} {n : Nat} {cs : List Value} {x : DataW H × List MemPlace}, DataW.trod enc P W base sp true n t cs = some x → ∃ a : α, RepL (startG W) (c.enc a).cells cs ∧ z a ≤ Rows.uptoBulk x.1
  top : ∀ {W W' : World} {r : Reach} {b : Nat} {a : α} {v : Value}, Value.okWide P W' r b t v → RepL (startG W) (c.enc a).cells v.cells.toList → Rep (startG W) (c.enc a) v
  size : ∀ a, (c.enc a).cells.length = P.cellsOf t

theorem repL_length {G : Gh} : ∀ {xs : List AV} {vs : List Value}, RepL G xs vs → xs.length = vs.length
  | _, _, .nil => rfl
  | _, _, .cons _ t => by simp [repL_length t]
theorem repL_append {G : Gh} : ∀ {xs ys : List AV} {vs ws : List Value}, RepL G xs vs → RepL G ys ws → RepL G (xs ++ ys) (vs ++ ws)
  | _, _, _, _, .nil, h => h
  | _, _, _, _, .cons h t, h' => .cons h (repL_append t h')

theorem reads_int {P : Program} {t : TypeId} (ht : P.underlying t = some (.int .i64)) (hc : P.cellsOf t = 1) : Reads P t cInt (fun _ => 1) where
  read := fun h => by
    obtain ⟨n, rfl, rfl, _⟩ := DataW.trod_int ht h
    exact ⟨n, .cons (.int _ _) .nil, by simp [Rows.uptoBulk]⟩
  top := fun hv h => by
    obtain ⟨n, rfl⟩ := WideShapes.okWide_int ht hv
    cases h with
    | cons h _ => exact h
  size := fun a => by rw [hc]; rfl
theorem reads_bool {P : Program} {t : TypeId} (ht : P.underlying t = some .bool) (hc : P.cellsOf t = 1) : Reads P t cBool (fun _ => 1) where
  read := fun h => by
    obtain ⟨n, rfl, rfl⟩ := DataW.trod_bool ht h
    exact ⟨n, .cons (.bool _) .nil, by simp [Rows.uptoBulk]⟩
  top := fun hv h => by
    obtain ⟨n, rfl⟩ := WideShapes.okWide_bool ht hv
    cases h with
    | cons h _ => exact h
  size := fun a => by rw [hc]; rfl
theorem reads_str {P : Program} {t : TypeId} (ht : P.underlying t = some .string) (hc : P.cellsOf t = 1) : Reads P t cStr (fun s => s.length + 1) where
  read := fun h => by
    obtain ⟨s, rfl, rfl, _⟩ := DataW.trod_string ht h
    exact ⟨s.data.toList, .cons (.str s) .nil, by simp [Rows.uptoBulk]⟩
  top := fun hv h => by
    obtain ⟨n, rfl⟩ := WideShapes.okWide_string ht hv
    cases h with
    | cons h _ => exact h
  size := fun a => by rw [hc]; rfl
theorem reads_byte {P : Program} {t : TypeId} (ht : P.underlying t = some (.int .u8)) (hc : P.cellsOf t = 1) : Reads P t cByte (fun _ => 1) where
  read := fun h => by
    obtain ⟨n, rfl, rfl, hw⟩ := DataW.trod_int ht h
    have hw' : 0 ≤ n ∧ n < 256 := by
      simp [Lit.wf, IntKind.has, IntKind.min, IntKind.max, IntKind.bits, IntKind.signed] at hw
      omega
    refine ⟨UInt8.ofNat n.toNat, ?_, by simp [Rows.uptoBulk]⟩
    have : (cByte.enc (UInt8.ofNat n.toNat)) = .int .u8 n := by
      show AV.int .u8 _ = _
      congr 1
      rw [UInt8.toNat_ofNat_of_lt' (by show n.toNat < 256; omega)]
      omega
    rw [this]
    exact .cons (.int _ _) .nil
  top := fun hv h => by
    obtain ⟨n, rfl⟩ := WideShapes.okWide_int ht hv
    cases h with
    | cons h _ => exact h
  size := fun a => by rw [hc]; rfl

/-- what a list is -/
def zL {α : Type} (z : α → Nat) (l : List α) : Nat := (l.map z).sum + 1

theorem repCells_start {W : World} : ∀ {xs : List AV} {cs : List Value} {b o : Nat}, RepL (startG W) xs cs → (∀ (i : Nat) v, cs[i]? = some v → W.cell? ⟨b, o + i, none⟩ = some v) → RepCells (startG W) xs b o
  | _, _, b, o, .nil, _ => .nil b o
  | _, _, b, o, .cons h t, hc => by
    have h0 := hc 0 _ rfl
    refine .cons ?_ h0 h (repCells_start t fun i v hv => by have := hc (i + 1) v (by simpa using hv); rwa [show o + (i + 1) = o + 1 + i by omega] at this)
    show b < W.heap.size
    apply Classical.byContradiction
    intro hb
    have : W.heap[b]? = none := by simp; omega
    simp [World.cell?, this] at h0

theorem cells_start {P : Program} {W : World} {base : Nat} {a : Addr} {n : Nat} {cs : List Value} {xs : List AV} (hn : 0 < n) (h : W.cells? base a n = some cs) (hr : RepL (startG W) xs cs) : a.spot = none ∧ RepCells (startG W) xs a.block a.off := by
  unfold World.cells? at h
  split at h
  · have hg : ∀ i, i < n → W.cell? (a.add i) = cs[i]? := fun i hi => by
      have := mapM_some_get h i i (by simp [hi])
      exact this
    have hl : cs.length = n := by have := mapM_some_length h; simpa using this
    have h0 : a.spot = none := by
      have := hg 0 hn
      rw [show a.add 0 = a from rfl] at this
      have h1 : cs[0]? = some cs[0] := by simp
      rw [h1] at this
      unfold World.cell? at this
      split at this
      · split at this
        · cases this
        · rename_i hs; simpa using hs
      · cases this
    refine ⟨h0, repCells_start hr fun i v hv => ?_⟩
    have hi : i < n := by rw [← hl]; exact (List.getElem?_eq_some_iff.1 hv).1
    have := hg i hi
    rw [hv] at this
    have e : a.add i = ⟨a.block, a.off + i, none⟩ := by
      unfold Addr.add
      split
      · rename_i hz; subst hz; cases a; simp_all
      · rfl
    rwa [e] at this
  · cases h

theorem reads_slice {P : Program} {t e : TypeId} {α : Type} {c : Cod α} {z : α → Nat} (ht : P.underlying t = some (.slice e)) (he : Reads P e c z) (hc : P.cellsOf t = 1) (hpos0 : decide (0 < P.cellsOf e) = true) : Reads P t (cL c) (zL z) where
  read := fun {H} {enc} {W} {base} {sp} {n} {cs} {x} h => by
    have hpos := of_decide_eq_true hpos0
    rcases DataW.trod_slice ht h with ⟨rfl, rfl⟩ | ⟨a, len, cap, elems, rest, m, _, rfl, rfl, _, hlc, _, hl, hel, _, _⟩
    · exact ⟨[], .cons (.sl0 none 0 (fun _ => rfl)) .nil, by simp [Rows.uptoBulk, zL]⟩
    · have key : ∀ k, k ≤ len → ∃ l : List α, l.length = k ∧ (0 < k → a.spot = none ∨ k < len) ∧ RepElems (startG W) (l.map c.enc) a.block (a.off + (len - k) * P.cellsOf e) (P.cellsOf e) ∧ (l.map z).sum ≤ Rows.uptoBulkAll ((elems.drop (len - k)).map (·.1)) := by
        intro k
        induction k with
        | zero => exact fun _ => ⟨[], rfl, fun h => absurd h (by omega), .nil _ _ _, by simp⟩
        | succ k ih =>
          intro hk
          obtain ⟨l, h1, h2, h3, h4⟩ := ih (by omega)
          have hi : len - (k + 1) < len := by omega
          have hlt : len - (k + 1) < elems.length := by omega
          have hget := hel (len - (k + 1)) hi
          rw [List.getElem?_eq_getElem hlt] at hget
          simp only [Option.bind_eq_some_iff] at hget
          obtain ⟨cs', hcs, htr⟩ := hget
          obtain ⟨y, hy, hz⟩ := he.read htr
          obtain ⟨hs, hcells⟩ := cells_start (P := P) hpos hcs hy
          have hsz := he.size y
          have e1 : (a.add ((len - (k + 1)) * P.cellsOf e)).block = a.block := by unfold Addr.add; split <;> rfl
          have e2 : (a.add ((len - (k + 1)) * P.cellsOf e)).off = a.off + (len - (k + 1)) * P.cellsOf e := by
            unfold Addr.add
            split
            · rename_i hz; rw [hz]; rfl
            · rfl
          rw [e1, e2] at hcells
          have e3 : a.off + (len - (k + 1)) * P.cellsOf e + P.cellsOf e = a.off + (len - k) * P.cellsOf e := by
            have : len - k = (len - (k + 1)) + 1 := by omega
            rw [this, Nat.add_mul]
            omega
          refine ⟨y :: l, by simp [h1], fun _ => ?_, ?_, ?_⟩
          · by_cases hk' : k + 1 < len
            · exact .inr hk'
            · left
              have : len - (k + 1) = 0 := by omega
              rw [this, Nat.zero_mul] at hs
              exact hs
          · rw [List.map_cons]
            refine .cons hsz hcells ?_
            rw [e3]
            exact h3
          · rw [List.drop_eq_getElem_cons hlt, List.map_cons, List.map_cons, List.sum_cons]
            simp only [Rows.uptoBulkAll]
            have : len - (k + 1) + 1 = len - k := by omega
            rw [this]
            omega
      obtain ⟨l, h1, h2, h3, h4⟩ := key len (Nat.le_refl _)
      rw [Nat.sub_self, Nat.zero_mul, Nat.add_zero] at h3
      rw [Nat.sub_self, List.drop_zero] at h4
      refine ⟨l, .cons ?_ .nil, ?_⟩
      · show Rep (startG W) (.sl (l.map c.enc)) _
        by_cases h0 : len = 0
        · have : l = [] := List.eq_nil_of_length_eq_zero (by omega)
          subst this h0
          exact .sl0 (some a) cap (fun e => by cases e)
        · have hs := (h2 (by omega)).resolve_right (by omega)
          have ea : a = ⟨a.block, a.off, none⟩ := by cases a; simp_all
          have hlen : (l.map c.enc).length = len := by simp [h1]
          rw [ea, ← hlen]
          exact .sl (by omega) h3
      · simp only [Rows.uptoBulk, zL]
        omega
  top := fun hv h => by
    obtain ⟨a, len, cap, rfl⟩ := WideShapes.okWide_slice ht hv
    cases h with
    | cons h _ => exact h
  size := fun a => by rw [hc]; rfl

/-- the fields of a struct, from one on -/
def ReadsF (P : Program) (tot off : Nat) (fs : List Field) {T : Type} (f : T → List AV) (z : T → Nat) : Prop :=
  ∀ {H : Type} {enc : TypeId × Value → H} {W : World} {base : Nat} {sp : Nat → Bool} {n : Nat} {cs : List Value} {xs : List (DataW H × List MemPlace)}, cs.length = tot → xs.length = fs.length →
    (∀ (i : Nat) (g : Field), fs[i]? = some g → DataW.trod enc P W base sp true n g.type ((cs.drop g.offset).take (P.cellsOf g.type)) = xs[i]?) → ∃ a : T, RepL (startG W) (f a) (cs.drop off) ∧ z a ≤ Rows.uptoBulkAll (xs.map (·.1))
theorem readsF_nil {P : Program} {tot : Nat} : ReadsF P tot tot [] (fun _ : Unit => []) (fun _ => 0) := by
  intro H enc W base sp n cs xs h1 _ _
  refine ⟨(), ?_, Nat.zero_le _⟩
  rw [← h1, List.drop_length]
  exact .nil
theorem readsF_cons {P : Program} {tot off off' : Nat} {g : Field} {fs : List Field} {α T : Type} {c : Cod α} {zc : α → Nat} {f : T → List AV} {z : T → Nat} (h : Reads P g.type c zc) (ho : g.offset = off) (ho' : off + P.cellsOf g.type = off') (r : ReadsF P tot off' fs f z) :
    ReadsF P tot off (g :: fs) (fun x : α × T => (c.enc x.1).cells ++ f x.2) (fun x => zc x.1 + z x.2) := by
  intro H enc W base sp n cs xs h1 h2 h3
  cases xs with
  | nil => simp at h2
  | cons y ys =>
    have h0 := h3 0 g rfl
    simp only [List.getElem?_cons_zero] at h0
    obtain ⟨a, ha, hza⟩ := h.read h0
    obtain ⟨b, hb, hzb⟩ := r h1 (by simpa using h2) (fun i g' hg => by have := h3 (i + 1) g' (by simpa using hg); simpa using this)
    refine ⟨(a, b), ?_, ?_⟩
    · have := repL_append ha hb
      rw [ho, ← ho', ← List.drop_drop, List.take_append_drop] at this
      exact this
    · simp only [List.map_cons, Rows.uptoBulkAll]
      omega
theorem reads_struct {P : Program} {t : TypeId} {fs : Array Field} {α T : Type} {c : Cod α} {f : T → List AV} {z : T → Nat} (mk : T → α) (zc : α → Nat) (ht : P.underlying t = some (.struct fs)) (r : ReadsF P (P.cellsOf t) 0 fs.toList f z) (hf : ∀ x, c.enc (mk x) = .agg (f x)) (hz : ∀ x, zc (mk x) = z x + 1)
    (hagg : ∀ a, (c.enc a).isAgg = true) (hs : ∀ a, (c.enc a).cells.length = P.cellsOf t) : Reads P t c zc where
  read := fun {H} {enc} {W} {base} {sp} {n} {cs} {x} h => by
    obtain ⟨xs, m, rfl, rfl, hl, hxl, hfs⟩ := DataW.trod_struct ht h
    obtain ⟨a, ha, hza⟩ := r hl (by simpa using hxl) (fun i g hg => hfs i g (by simpa using hg))
    refine ⟨mk a, ?_, ?_⟩
    · rw [hf]; exact ha
    · rw [hz]; simp only [Rows.uptoBulk]; omega
  top := fun {W} {W'} {r} {b} {a} {v} hv h => by
    obtain ⟨cs, rfl, _⟩ := WideShapes.okWide_struct ht hv
    have := hagg a
    generalize c.enc a = q at *
    cases q with
    | agg xs => exact .agg h
    | _ => simp at this
  size := hs

theorem zL_len {α : Type} {z : α → Nat} (h : ∀ a, 1 ≤ z a) (l : List α) : l.length + 1 ≤ zL z l := by
  unfold zL
  induction l with
  | nil => simp
  | cons a l ih => have := h a; simp at ih ⊢; omega
theorem zL_mem {α : Type} {z : α → Nat} {a : α} : ∀ {l : List α}, a ∈ l → z a + 1 ≤ zL z l
  | b :: l, h => by
    unfold zL
    rcases List.mem_cons.1 h with rfl | h
    · simp
    · have := zL_mem (z := z) h; unfold zL at this; simp; omega
end Go.Proofs.YtollfopbmbjnhaaDoor.Lift
namespace Go.Proofs.YtollfopbmbjnhaaDoor.Lift
open Go
set_option maxRecDepth 100000

theorem rd_int : Reads Tryd.prog 3 cInt (fun _ => 1) := reads_int Tryd.underlying3 (by kernel_rfl)
theorem rd_str : Reads Tryd.prog 9 cStr (fun s => s.length + 1) := reads_str Tryd.underlying9 (by kernel_rfl)
theorem rd_bool : Reads Tryd.prog 4 cBool (fun _ => 1) := reads_bool Tryd.underlying4 (by kernel_rfl)

def zTy (x : ATy) : Nat := 1 + (x.name.length + 1) + 1
theorem rd_Ty : Reads Tryd.prog 25 cTy zTy :=
  reads_struct (fun x : Int × Str × Unit => ⟨x.1, x.2.1⟩) zTy Tryd.underlying25
    (readsF_cons rd_int rfl (off' := 1) (by kernel_rfl) (readsF_cons rd_str rfl (by kernel_rfl) readsF_nil)) (fun _ => rfl) (fun _ => by simp [zTy]) (fun _ => rfl) (fun _ => by show 2 = _; kernel_rfl)
theorem rd_Tys : Reads Tryd.prog 31 (cL cTy) (zL zTy) := reads_slice Tryd.underlying31 rd_Ty (by kernel_rfl) (by kernel_rfl)
theorem zTy_pos (x : ATy) : 1 ≤ zTy x := by unfold zTy; omega
end Go.Proofs.YtollfopbmbjnhaaDoor.Lift
namespace Go.Proofs.YtollfopbmbjnhaaDoor.Lift
open Go
set_option maxRecDepth 100000

def zPair (x : APair) : Nat := (x.name.length + 1) + (x.super.length + 1) + 1
theorem zPair_pos (x : APair) : 1 ≤ zPair x := by unfold zPair; omega
theorem rd_Pair11 : Reads Tryd.prog 65 cPair zPair :=
  reads_struct (fun x : Str × Str × Unit => ⟨x.1, x.2.1⟩) zPair Tryd.underlying65
    (readsF_cons rd_str rfl (off' := 1) (by kernel_rfl) (readsF_cons rd_str rfl (by kernel_rfl) readsF_nil)) (fun _ => rfl) (fun _ => by simp [zPair]) (fun _ => rfl) (fun _ => by show 2 = _; kernel_rfl)
theorem rd_Pairs11 : Reads Tryd.prog 22 (cL cPair) (zL zPair) := reads_slice Tryd.underlying22 rd_Pair11 (by kernel_rfl) (by kernel_rfl)
def zEntry (x : AEntry) : Nat := 1 + ((x.text.length + 1) + (1 + (1 + 1))) + 1
theorem zEntry_pos (x : AEntry) : 1 ≤ zEntry x := by unfold zEntry; omega
theorem rd_Entry : Reads Tryd.prog 123 cEntry zEntry :=
  reads_struct (fun x : Int × Str × Int × Int × Int × Unit => ⟨x.1, x.2.1, x.2.2.1, x.2.2.2.1, x.2.2.2.2.1⟩) zEntry Tryd.underlying123
    (readsF_cons rd_int rfl (off' := 1) (by kernel_rfl) (readsF_cons rd_str rfl (off' := 2) (by kernel_rfl) (readsF_cons rd_int rfl (off' := 3) (by kernel_rfl) (readsF_cons rd_int rfl (off' := 4) (by kernel_rfl) (readsF_cons rd_int rfl (by kernel_rfl) readsF_nil))))) (fun _ => rfl) (fun _ => by simp [zEntry]) (fun _ => rfl) (fun _ => by show 5 = _; kernel_rfl)
theorem rd_Entries : Reads Tryd.prog 23 (cL cEntry) (zL zEntry) := reads_slice Tryd.underlying23 rd_Entry (by kernel_rfl) (by kernel_rfl)
def zPlace (x : APlace) : Nat := zL zPair x.classes + (zL zEntry x.pool + (zTy x.back + 1)) + 1
theorem rd_Place : Reads Tryd.prog 27 cPlace zPlace :=
  reads_struct (fun x : List APair × List AEntry × ATy × Int × Unit => ⟨x.1, x.2.1, x.2.2.1, x.2.2.2.1⟩) zPlace Tryd.underlying27
    (readsF_cons rd_Pairs11 rfl (off' := 1) (by kernel_rfl) (readsF_cons rd_Entries rfl (off' := 2) (by kernel_rfl) (readsF_cons rd_Ty rfl (off' := 4) (by kernel_rfl) (readsF_cons rd_int rfl (by kernel_rfl) readsF_nil)))) (fun _ => rfl) (fun _ => by simp [zPlace]) (fun _ => rfl) (fun _ => by show 5 = _; kernel_rfl)
def zCase (x : ACase) : Nat := 1 + 1 + 1
theorem zCase_pos (x : ACase) : 1 ≤ zCase x := by unfold zCase; omega
theorem rd_Case : Reads Tryd.prog 164 cCase zCase :=
  reads_struct (fun x : Int × Int × Unit => ⟨x.1, x.2.1⟩) zCase Tryd.underlying164
    (readsF_cons rd_int rfl (off' := 1) (by kernel_rfl) (readsF_cons rd_int rfl (by kernel_rfl) readsF_nil)) (fun _ => rfl) (fun _ => by simp [zCase]) (fun _ => rfl) (fun _ => by show 2 = _; kernel_rfl)
theorem rd_Cases : Reads Tryd.prog 28 (cL cCase) (zL zCase) := reads_slice Tryd.underlying28 rd_Case (by kernel_rfl) (by kernel_rfl)
def zInstr (x : AInstr) : Nat := 1 + (1 + (1 + (1 + zL zCase x.cases))) + 1
theorem rd_Instr : Reads Tryd.prog 30 cInstr zInstr :=
  reads_struct (fun x : Int × Int × Int × Int × List ACase × Unit => ⟨x.1, x.2.1, x.2.2.1, x.2.2.2.1, x.2.2.2.2.1⟩) zInstr Tryd.underlying30
    (readsF_cons rd_int rfl (off' := 1) (by kernel_rfl) (readsF_cons rd_int rfl (off' := 2) (by kernel_rfl) (readsF_cons rd_int rfl (off' := 3) (by kernel_rfl) (readsF_cons rd_int rfl (off' := 4) (by kernel_rfl) (readsF_cons rd_Cases rfl (by kernel_rfl) readsF_nil))))) (fun _ => rfl) (fun _ => by simp [zInstr]) (fun _ => rfl) (fun _ => by show 5 = _; kernel_rfl)
def zFrame (x : AFrame) : Nat := zL zTy x.locals + zL zTy x.stack + 1
theorem rd_Frame : Reads Tryd.prog 33 cFrame zFrame :=
  reads_struct (fun x : List ATy × List ATy × Unit => ⟨x.1, x.2.1⟩) zFrame Tryd.underlying33
    (readsF_cons rd_Tys rfl (off' := 1) (by kernel_rfl) (readsF_cons rd_Tys rfl (by kernel_rfl) readsF_nil)) (fun _ => rfl) (fun _ => by simp [zFrame]) (fun _ => rfl) (fun _ => by show 2 = _; kernel_rfl)
theorem zName_mem {l : List ATy} {x : ATy} (h : x ∈ l) : x.name.length ≤ zL zTy l := by have := zL_mem (z := zTy) h; have e : zTy x = 1 + (x.name.length + 1) + 1 := rfl; omega
end Go.Proofs.YtollfopbmbjnhaaDoor.Lift
