/-
  S1: shape's hand: how it lies in the store; must, top, push, ref, single.
  S2: shape's hand, 2: ref, single, pop.
  LIFT, 31: A SLICE OF WHICH IT IS NOT KNOWN WHETHER IT IS NIL: a function that clones, by cases.
  LIFT, 32: THE RUNES OF A TEXT: a byte below 128 is its own rune; another one's rune is no less than 128.
  S3: shape's small functions: named, letter, what a type will do for, Clone, EqualFunc, May, Words.
  S4: shape's hand, 3: pop, local, elems, set.
  P3: THE PLAIN LAW OF ShapeSizes: how much wider a stack may become.
  P4: THE BOUNDS: a step comes to something wherever names and lists are not beyond any machine.
  S5: shape's hand, 4: elems, set, constant (over the pool's contract), kindOf, class, answers.
  K30: contracts of the pool's functions: they are the plain ones (P1).
-/
import Derived.Test.YtollfopbmbjnhaaDoorQ7
import Derived.Lib.TrimUEq
namespace Go.Proofs.YtollfopbmbjnhaaDoor.Lift
open Go
set_option maxRecDepth 100000

/-- how it lies: behind five blocks of shape.Step (p), ahead of others (q) -/
def handSto (p0 p1 p2 p3 p4 : ABlk) (h : AHand) (q : Sto) : Sto :=
  p0 :: p1 :: p2 :: p3 :: p4 :: .row 2 1 0 (h.loc.map encTy) :: .row 2 h.g 0 ((h.stk ++ h.junk).map encTy) :: .row 4 0 0 [.agg [.sl (h.cl.map encClass), .sr 5 1 0 h.loc.length, .sr 6 h.g 0 h.stk.length, .bool h.bad]] :: q
open Classical in
/-- a method of a hand -/
noncomputable def handS (f : List AV → Sto → AHand → Option (AV × AHand)) : Spec := fun args st => match args with
  | .ptr 7 0 0 0 :: av =>
    if h : ∃ x : (ABlk × ABlk × ABlk × ABlk × ABlk) × AHand × Sto, st = handSto x.1.1 x.1.2.1 x.1.2.2.1 x.1.2.2.2.1 x.1.2.2.2.2 x.2.1 x.2.2 then
      (f av h.choose.2.2 h.choose.2.1).map fun r => (r.1, handSto h.choose.1.1 h.choose.1.2.1 h.choose.1.2.2.1 h.choose.1.2.2.2.1 h.choose.1.2.2.2.2 r.2 h.choose.2.2)
    else none
  | _ => none
theorem encTy_inj {a b : ATy} (h : encTy a = encTy b) : a = b := by
  cases a; cases b
  simp at h
  simp [h]
theorem encClass_inj {a b : AClass} (h : encClass a = encClass b) : a = b := by
  cases a; cases b
  have := congrArg decClass h
  simpa using this
theorem handSto_inj {p0 p1 p2 p3 p4 p0' p1' p2' p3' p4' : ABlk} {h h' : AHand} {q q' : Sto} (e : handSto p0 p1 p2 p3 p4 h q = handSto p0' p1' p2' p3' p4' h' q') :
    p0 = p0' ∧ p1 = p1' ∧ p2 = p2' ∧ p3 = p3' ∧ p4 = p4' ∧ h = h' ∧ q = q' := by
  obtain ⟨cl, loc, stk, bad, g, junk⟩ := h
  obtain ⟨cl', loc', stk', bad', g', junk'⟩ := h'
  simp only [handSto, List.cons.injEq, ABlk.row.injEq, AV.agg.injEq, AV.sl.injEq, AV.sr.injEq, AV.bool.injEq, true_and, and_true] at e
  obtain ⟨e0, e1, e2, e3, e4, e5, ⟨e6, e7⟩, ⟨e8, e9, ⟨_, e10⟩, e11⟩, e12⟩ := e
  have i1 : loc = loc' := (List.map_inj_right (fun _ _ h => encTy_inj h)).1 e5
  have i2 : stk ++ junk = stk' ++ junk' := (List.map_inj_right (fun _ _ h => encTy_inj h)).1 e7
  have i3 : cl = cl' := (List.map_inj_right (fun _ _ h => encClass_inj h)).1 e8
  obtain ⟨i4, i5⟩ := List.append_inj i2 e10
  subst i1 i3 i4 i5 e6 e11
  exact ⟨e0, e1, e2, e3, e4, rfl, e12⟩
theorem handS_eq {f : List AV → Sto → AHand → Option (AV × AHand)} {av : List AV} {p0 p1 p2 p3 p4 : ABlk} {h : AHand} {q : Sto} :
    handS f (.ptr 7 0 0 0 :: av) (handSto p0 p1 p2 p3 p4 h q) = (f av q h).map fun r => (r.1, handSto p0 p1 p2 p3 p4 r.2 q) := by
  unfold handS
  simp only
  have hex : ∃ x : (ABlk × ABlk × ABlk × ABlk × ABlk) × AHand × Sto, handSto p0 p1 p2 p3 p4 h q = handSto x.1.1 x.1.2.1 x.1.2.2.1 x.1.2.2.2.1 x.1.2.2.2.2 x.2.1 x.2.2 := ⟨((p0, p1, p2, p3, p4), h, q), rfl⟩
  rw [dif_pos hex]
  obtain ⟨i0, i1, i2, i3, i4, i5, i6⟩ := handSto_inj hex.choose_spec
  rw [← i0, ← i1, ← i2, ← i3, ← i4, ← i5, ← i6]
theorem handS_inv {f : List AV → Sto → AHand → Option (AV × AHand)} {args : List AV} {st st' : Sto} {r : AV} (h : handS f args st = some (r, st')) :
    ∃ av p0 p1 p2 p3 p4 hh q h', args = .ptr 7 0 0 0 :: av ∧ st = handSto p0 p1 p2 p3 p4 hh q ∧ f av q hh = some (r, h') ∧ st' = handSto p0 p1 p2 p3 p4 h' q := by
  unfold handS at h
  split at h
  · rename_i av
    split at h
    · rename_i hex
      obtain ⟨x, hx, e⟩ := Option.map_eq_some_iff.1 h
      cases e
      exact ⟨av, _, _, _, _, _, hex.choose.2.1, hex.choose.2.2, x.2, rfl, hex.choose_spec, hx, rfl⟩
    · cases h
  · cases h
theorem blwL_tys (k : Nat) (l : List ATy) : blwL k (l.map encTy) = true := blwL_map cTy.fz k l
/-- it stays shut, whatever the hand is -/
theorem hand_shut {p0 p1 p2 p3 p4 : ABlk} {h h' : AHand} {q : Sto} (hc : (handSto p0 p1 p2 p3 p4 h q).all (blwB (handSto p0 p1 p2 p3 p4 h q).length) = true) :
    (handSto p0 p1 p2 p3 p4 h' q).all (blwB (handSto p0 p1 p2 p3 p4 h' q).length) = true := by
  have e : (handSto p0 p1 p2 p3 p4 h' q).length = (handSto p0 p1 p2 p3 p4 h q).length := rfl
  rw [e]
  simp only [handSto, List.all_cons, Bool.and_eq_true] at hc ⊢
  obtain ⟨h0, h1, h2, h3, h4, _, _, _, h5⟩ := hc
  refine ⟨h0, h1, h2, h3, h4, ?_, ?_, ?_, h5⟩
  · exact blwL_tys _ _
  · exact blwL_tys _ _
  · simp

/-- a method's contract, from its walk -/
theorem hand_of_wk {E : Env} {B : List Nat} (ok : OkX Tryd.prog (XB E B)) {f : Nat} {fn : Func} (hf : Tryd.prog.funcs[f]? = some fn) (hb : fn.body.isSome = true) (hn : (fn.name == "runtime.NumGoroutine") = false) {m : List AV → Sto → AHand → Option (AV × AHand)}
    (h : ∀ av q hh r h', m av q hh = some (r, h') → fz r = true ∧ ∀ (p0 p1 p2 p3 p4 : ABlk),
      ∀ G0 : { G : Gh // G.σ = handSto p0 p1 p2 p3 p4 hh q }, wk Tryd.prog (XB E B) G0.1 (fun e s => (e = .normal ∨ e = .ret) ∧ resAs (XB E B) s fn.results.toList = some r ∧ s.st.take (q.length + 8) = handSto p0 p1 p2 p3 p4 h' q) (fn.body.get hb) [] (entry fn (.ptr 7 0 0 0 :: av) (handSto p0 p1 p2 p3 p4 hh q))) : SoundF Tryd.prog gl f (handS m) :=
  soundD_of_wk ok mixed hf hb hn fun args st r st' hs hc => by
    obtain ⟨av, p0, p1, p2, p3, p4, hh, q, h', rfl, rfl, hm, rfl⟩ := handS_inv hs
    obtain ⟨h1, h2⟩ := h av q hh r h' hm
    exact ⟨Nat.le_refl _, hand_shut hc, fz_blw h1, fun G0 => h2 p0 p1 p2 p3 p4 G0⟩

/-- must -/
def hMust (av : List AV) (_ : Sto) (h : AHand) : Option (AV × AHand) := match av with
  | [.bool b] => some (.tup [], mustT b h)
  | _ => none
theorem f_must : SoundF Tryd.prog gl 44 (handS hMust) := by
  refine hand_of_wk okX_nil Tryd.func44 rfl rfl fun av q hh r h' hm => ?_
  unfold hMust at hm
  split at hm
  · rename_i b
    cases hm
    refine ⟨rfl, fun p0 p1 p2 p3 p4 G0 => ?_⟩
    cases hbad : hh.bad with
    | true => simp [Tryd.f44, entry, handSto, mustT, hbad]
    | false => cases b <;> simp [Tryd.f44, entry, handSto, mustT, hbad]
  · cases hm
/-- top -/
def hTop (av : List AV) (_ : Sto) (h : AHand) : Option (AV × AHand) := match av with
  | [] => (topO h).map fun r => (encTy r.1, r.2)
  | _ => none
theorem f_top : SoundF Tryd.prog gl 41 (handS hTop) := by
  refine hand_of_wk okX_nil Tryd.func41 rfl rfl fun av q hh r h' hm => ?_
  obtain ⟨cl, loc, stk, bad, g, junk⟩ := hh
  unfold hTop topO at hm
  split at hm
  · obtain ⟨⟨r, h2⟩, hm2, he⟩ := Option.map_eq_some_iff.1 hm
    clear hm
    cases he
    simp only [Option.ite_none_right_eq_some] at hm2
    obtain ⟨hl, hm⟩ := hm2
    rcases List.eq_nil_or_concat stk with rfl | ⟨s, x, rfl⟩
    · simp only [List.getLast?_nil] at hm
      cases hm
      refine ⟨rfl, fun p0 p1 p2 p3 p4 G0 => ?_⟩
      have hw := wrap_i64 (show (-9223372036854775808 : Int) ≤ 0 - 1 by omega) (by omega)
      simp at hw
      simp [Tryd.f41, entry, handSto, hw]
    · simp only [List.concat_eq_append, List.getLast?_append, List.getLast?_singleton, Option.some_or, List.dropLast_concat] at hm
      cases hm
      refine ⟨cTy.fz r, fun p0 p1 p2 p3 p4 G0 => ?_⟩
      have hw := wrap_i64 (show (-9223372036854775808 : Int) ≤ (s.length : Int) by omega) (by simp at hl; omega)
      have hx : (List.map encTy s ++ encTy r :: List.map encTy junk)[s.length]? = some (encTy r) := by simp
      have hneg : ((s.length : Int) < 0) = False := by simp
      have hlt1 : ((s.length : Int) < (s.length : Int) + 1) = True := by simp; omega
      simp at hl
      simp [Tryd.f41, entry, handSto, hw, hneg, hlt1]
  · cases hm
/-- push -/
def decTys : AV → Option (List ATy)
  | .sl xs => mapO decTy xs
  | _ => none
def hPush (av : List AV) (_ : Sto) (h : AHand) : Option (AV × AHand) := match av with
  | [x] => (decTys x).bind fun l => (pushO l h).map fun h' => (.tup [], h')
  | _ => none
theorem decTys_inv {x : AV} {l : List ATy} (h : decTys x = some l) : x = .sl (l.map encTy) := by
  unfold decTys at h
  split at h
  · rw [mapO_inv cTy.ed _ _ h]; rfl
  · cases h
theorem f_push : SoundF Tryd.prog gl 32 (handS hPush) := by
  refine hand_of_wk okX_nil Tryd.func32 rfl rfl fun av q hh r h' hm => ?_
  obtain ⟨cl, loc, stk, bad, g, junk⟩ := hh
  unfold hPush at hm
  split at hm
  · rename_i x
    obtain ⟨l, hl, hm2⟩ := Option.bind_eq_some_iff.1 hm
    obtain ⟨h2, hm3, he⟩ := Option.map_eq_some_iff.1 hm2
    clear hm hm2
    cases he
    have := decTys_inv hl
    subst this
    simp only [pushO, Option.ite_none_right_eq_some, Option.some.injEq] at hm3
    obtain ⟨hb, rfl⟩ := hm3
    refine ⟨rfl, fun p0 p1 p2 p3 p4 G0 => ?_⟩
    have hb2 : (stk.length + l.length) * 24 ≤ 140737488355328 := by omega
    simp [Tryd.f32, entry, handSto, hb2]
  · cases hm
end Go.Proofs.YtollfopbmbjnhaaDoor.Lift
namespace Go.Proofs.YtollfopbmbjnhaaDoor.Lift
open Go
set_option maxRecDepth 100000

section
variable {p0 p1 p2 p3 p4 : ABlk} {h : AHand} {q r : Sto}
@[simp high] theorem hs_len : (handSto p0 p1 p2 p3 p4 h q).length = q.length + 8 := rfl
@[simp high] theorem hs_app : handSto p0 p1 p2 p3 p4 h q ++ r = handSto p0 p1 p2 p3 p4 h (q ++ r) := rfl
@[simp high] theorem hs_get (n : Nat) : (handSto p0 p1 p2 p3 p4 h q)[n + 8]? = q[n]? := rfl
@[simp high] theorem hs_set (n : Nat) (x : ABlk) : (handSto p0 p1 p2 p3 p4 h q).set (n + 8) x = handSto p0 p1 p2 p3 p4 h (q.set n x) := rfl
@[simp high] theorem hs_7 : (handSto p0 p1 p2 p3 p4 h q)[7]? = some (.row 4 0 0 [.agg [.sl (h.cl.map encClass), .sr 5 1 0 h.loc.length, .sr 6 h.g 0 h.stk.length, .bool h.bad]]) := rfl
@[simp high] theorem hs_take : List.take (q.length + 8) (handSto p0 p1 p2 p3 p4 h (q ++ r)) = handSto p0 p1 p2 p3 p4 h q := by unfold handSto; simp
@[simp high] theorem hs_take0 : List.take (q.length + 8) (handSto p0 p1 p2 p3 p4 h q) = handSto p0 p1 p2 p3 p4 h q := by unfold handSto; simp
@[simp high] theorem app_get0 : (q ++ r)[q.length]? = r[0]? := by rw [List.getElem?_append_right (Nat.le_refl _), Nat.sub_self]
@[simp high] theorem app_get (k : Nat) : (q ++ r)[q.length + k]? = r[k]? := by rw [List.getElem?_append_right (by omega)]; congr 1; omega
@[simp high] theorem app_set0 (x : ABlk) : (q ++ r).set q.length x = q ++ r.set 0 x := by rw [List.set_append_right _ _ (Nat.le_refl _), Nat.sub_self]
@[simp high] theorem app_set (k : Nat) (x : ABlk) : (q ++ r).set (q.length + k) x = q ++ r.set k x := by
  rw [List.set_append_right _ _ (by omega)]; congr 2; omega
end

/-- ref -/
def hRef (av : List AV) (_ : Sto) (h : AHand) : Option (AV × AHand) := match av with
  | [] => (refO h).map fun r => (encTy r.1, r.2)
  | _ => none
theorem ok_ref : OkX Tryd.prog (XE [(44, handS hMust), (41, handS hTop)]) := (okX_nil.add f_top).add f_must
theorem f_ref : SoundF Tryd.prog gl 30 (handS hRef) := by
  refine hand_of_wk ok_ref Tryd.func30 rfl rfl fun av q hh r h' hm => ?_
  unfold hRef refO at hm
  split at hm
  · simp only [Option.map_map] at hm
    obtain ⟨⟨t, h1⟩, ht, he⟩ := Option.map_eq_some_iff.1 hm
    clear hm
    cases he
    refine ⟨cTy.fz t, fun p0 p1 p2 p3 p4 G0 => ?_⟩
    by_cases h3 : t.kind = 3
    · simp [Tryd.f30, entry, handS_eq, hTop, hMust, ht, h3]
    · simp [Tryd.f30, entry, handS_eq, hTop, hMust, ht, h3]
  · cases hm

/-- single -/
def hSingle (av : List AV) (_ : Sto) (h : AHand) : Option (AV × AHand) := match av with
  | [] => (singleO h).map fun r => (encTy r.1, r.2)
  | _ => none
theorem f_single : SoundF Tryd.prog gl 40 (handS hSingle) := by
  refine hand_of_wk ok_ref Tryd.func40 rfl rfl fun av q hh r h' hm => ?_
  unfold hSingle singleO at hm
  split at hm
  · simp only [Option.map_map] at hm
    obtain ⟨⟨t, h1⟩, ht, he⟩ := Option.map_eq_some_iff.1 hm
    clear hm
    cases he
    refine ⟨cTy.fz t, fun p0 p1 p2 p3 p4 G0 => ?_⟩
    simp [Tryd.f40, entry, handS_eq, hTop, hMust, ht]
  · cases hm

/-- slices.Backward -/
def sBack : Spec := fun args st => match args with
  | [.sl xs] => some (.fn (.func 67) [] [.ptr st.length 0 0 0], st ++ [.row 1 0 0 [.sl xs]])
  | _ => none
theorem a_Backward : SoundA Tryd.prog gl 56 sBack := by
  refine soundA_of_wk okA_nil mixed Tryd.func56 rfl rfl fun args st r st' h J okx G0 => ?_
  unfold sBack at h
  split at h
  · cases h
    simp [Tryd.f56, entry]
  · cases h
/-- what it yields -/
def backRow (l : List ATy) : List (List AV) := l.zipIdx.reverse.map fun p => [.int .i64 p.2, encTy p.1]
def gBack : List AV → Sto → Option (List (List AV)) := fun cap own => match cap, own with
  | [.ptr 1 0 0 0], [.row 1 0 0 [.sl xs]] => match mapO decTy xs with
    | some l => if l.length < 1099511627776 then some (backRow l) else none
    | none => none
  | _, _ => none
theorem backRow_length (l : List ATy) : (backRow l).length = l.length := by simp [backRow]
theorem backRow_get (l : List ATy) (t : Nat) (h : t < l.length) : (backRow l)[t]? = some [.int .i64 ((l.length - 1 - t : Nat) : Int), encTy (l[l.length - 1 - t]'(by omega))] := by
  unfold backRow
  rw [List.getElem?_map, List.getElem?_reverse (by simpa using h), List.length_zipIdx, List.getElem?_zipIdx]
  rw [List.getElem?_eq_getElem (by omega)]
  simp
theorem i_Backward : SoundI Tryd.prog gl 67 gBack := by
  refine soundI_of_wk okA_nil mixed Tryd.func67 rfl rfl rfl fun cap own xs h J l k okx G0 => ?_
  unfold gBack at h
  split at h
  · rename_i ys
    split at h
    · rename_i cs hcs
      split at h
      · rename_i hlen
        cases h
        have hys : ys = cs.map encTy := mapO_inv cTy.ed _ _ hcs
        subst hys
        have hw0 := wrap_i64 (show (-9223372036854775808 : Int) ≤ (cs.length : Int) - 1 by omega) (by omega)
        simp [Tryd.f67, entry, hw0]
        refine lp_of okx mixed (fun (t : Nat) => ⟨19, frL [(0, .fn (.yield l) [] []), (1, .ptr 1 0 0 0), (3, .int .i64 ((cs.length : Int) - 1 - t))], [.tick t, .row 1 0 0 [.sl (cs.map encTy)]]⟩)
          (fun t => t ≤ k ∧ t ≤ cs.length) (fun t => cs.length - t) 0 ⟨by simp, by simp⟩ (weak_frL rfl rfl (by simp)) ?_
        intro t ⟨htk, htl⟩
        simp
        by_cases hlt : t < cs.length
        · have e0 : ((t : Int) ≤ (cs.length : Int) - 1) = True := by simp; omega
          have e1 : ((cs.length : Int) - 1 - t).toNat = cs.length - 1 - t := by omega
          have hx : cs[cs.length - 1 - t]? = some (cs[cs.length - 1 - t]'(by omega)) := List.getElem?_eq_getElem (by omega)
          have hget := backRow_get cs t hlt
          have e2 : (((cs.length - 1 - t : Nat)) : Int) = (cs.length : Int) - 1 - t := by omega
          rw [e2] at hget
          have hy := fun r => yieldS_eq (r := r) htk hget
          simp only [encTy] at hy
          have hw := wrap_i64 (show (-9223372036854775808 : Int) ≤ (cs.length : Int) - 1 - t - 1 by omega) (by omega)
          by_cases h3 : t = k
          · subst h3
            have hm : min cs.length (t + 1) = t + 1 := by omega
            simp [e0, e1, hx, hy, backRow_length, hm]
          · simp [e0, e1, hx, hy, h3, hw]
            exact nextQ_of (t + 1) ⟨by omega, by omega⟩ (by omega) (weak_frL rfl rfl (by simp; omega))
        · have e0 : ((t : Int) ≤ (cs.length : Int) - 1) = False := by simp; omega
          have hm : min cs.length (k + 1) = t := by omega
          simp [e0, backRow_length, hm]
      · cases h
    · cases h
  · cases h
end Go.Proofs.YtollfopbmbjnhaaDoor.Lift
namespace Go.Proofs.YtollfopbmbjnhaaDoor.Lift
open Go
set_option maxRecDepth 100000

@[simp] def sCloneNil : Spec := fun args st => match args with
  | [.snil] => some (.snil, st)
  | _ => none
@[simp] def sCloneE (sz : Nat) : Spec := fun args st => match args with
  | [.sle] => some (.sr st.length 1 0 0, st ++ [.row sz 1 0 []])
  | _ => none
@[simp] def sCloneX (sz : Nat) (c : List AV → Bool) : Spec := fun args st => match args with
  | [.sl (x :: xs)] => if c (x :: xs) = true then some (.sr st.length 1 0 (xs.length + 1), st ++ [.row sz 1 0 (x :: xs)]) else none
  | _ => none
/-- a clone: a new block, with a generation of one (one append) -/
@[simp] def sClone (sz : Nat) (c : List AV → Bool) : Spec := fun args st => match args with
  | [.sl xs] => if c xs = true then some (.sr st.length 1 0 xs.length, st ++ [.row sz 1 0 xs]) else none
  | _ => none

/-- nothing new in memory: a row without elements more -/
theorem grow_none {G : Gh} (inv : Inv G) (sz : Nat) : ∃ H : Gh, H.w = G.w ∧ H.σ = G.σ ++ [.row sz 1 0 []] ∧ Ext G H ∧ Inv H ∧ H.ρ G.σ.length 1 = none := by
  let G1 := G.grow G.w none (.row sz 0 0 [])
  have x1 : Ext G G1 := ext_grow inv G.w none _ rfl rfl rfl (Nat.le_refl _) (fun _ _ => rfl) (fun _ h => by cases h)
  have inv1 : Inv G1 := inv_grow_row inv G.w none sz [] x1 (fun _ _ => rfl) (fun _ h => by cases h) (fun _ => rfl)
  have hb : G1.σ[G.σ.length]? = some (.row sz 0 0 []) := by simp [G1, Gh.grow]
  have x2 : Ext G1 (G1.turn G.w G.σ.length (.row sz (0 + 1) 0 []) none) := ext_move inv1 none hb rfl rfl rfl (Nat.le_refl _) (fun _ _ => rfl) (fun _ h => by cases h)
  have inv2 := inv_move (ys := []) inv1 none hb x2 (fun _ _ => rfl) (fun _ h => by cases h) (fun _ => rfl) (Nat.le_refl _)
  refine ⟨G1.turn G.w G.σ.length (.row sz (0 + 1) 0 []) none, rfl, ?_, x1.trans x2, inv2, ?_⟩
  · simp [Gh.turn, G1, Gh.grow]
  · simp [Gh.turn]

theorem clone_join {P : Program} {gl : Nat → Option AV} {J : Foe} {f sz : Nat} {c : List AV → Bool} (h0 : SoundJ P gl J f sCloneNil) (h1 : SoundJ P gl J f (sCloneE sz)) (h2 : SoundJ P gl J f (sCloneX sz c)) : SoundJ P gl J f (sClone sz c) where
  calls := fun G args vals r σ' hs inv hJ hg hargs => by
    unfold sClone at hs
    split at hs
    · rename_i xs
      cases xs with
      | cons x xs => exact h2.calls G [.sl (x :: xs)] vals r σ' hs inv hJ hg hargs
      | nil =>
        split at hs
        · rename_i hc
          cases hs
          cases hargs with
          | cons hv ht =>
            have nilcase : ∀ v, v = Value.slice none 0 0 → RepL G [.sl []] [v] → CallDone P f [v].toArray G.w (Ret G (.sr G.σ.length 1 0 0) (G.σ ++ [.row sz 1 0 []])) := fun v hv _ => by
              subst hv
              refine done_imp (h0.calls G [.snil] _ _ _ rfl inv hJ hg (.cons .snil .nil)) fun e w' he => ?_
              cases e with
              | panicked c => exact he.elim
              | outgrown => exact he.elim
              | returned u =>
                obtain ⟨G', rfl, hσ, x, inv', hr⟩ := he
                obtain ⟨H, e1, e2, x2, inv2, e3⟩ := grow_none inv' sz
                refine ⟨H, e1, by rw [e2, hσ], x.trans x2, inv2, ?_⟩
                cases hr
                rw [← hσ]
                exact .sr0 (sz := sz) ⟨.row sz 1 0 [], by rw [e2]; simp, Nat.le_refl _, rfl⟩ e3
            have otherwise_ : ∀ v, Rep G .sle v → CallDone P f [v].toArray G.w (Ret G (.sr G.σ.length 1 0 0) (G.σ ++ [.row sz 1 0 []])) := fun v hv =>
              h1.calls G [.sle] _ _ _ rfl inv hJ hg (.cons hv .nil)
            cases ht
            cases hv with
            | sl0 a cap h =>
              cases a with
              | none => have := h rfl; subst this; exact nilcase _ rfl (.cons (.sl0 none 0 h) .nil)
              | some a => exact otherwise_ _ (.sle a cap)
            | sl hl h => exact otherwise_ _ (.sle _ _)
        · cases hs
    · cases hs
end Go.Proofs.YtollfopbmbjnhaaDoor.Lift
namespace Go.Proofs.YtollfopbmbjnhaaDoor.Lift
open Go

theorem runeAt_N (s : List UInt8) (i : Nat) : runeAt s i = Lib.decodeN (s.length - i) (s.getD i 0).toNat (s.getD (i + 1) 0).toNat (s.getD (i + 2) 0).toNat (s.getD (i + 3) 0).toNat := by
  unfold runeAt
  rw [Lib.decode_N]
theorem runeAt_ascii {s : List UInt8} {i : Nat} {c : UInt8} (h : s[i]? = some c) (hc : c.toNat < 128) : runeAt s i = (c.toNat, 1) := by
  rw [runeAt_N]
  have : s.getD i 0 = c := by rw [List.getD_eq_getElem?_getD, h]; rfl
  rw [this]
  unfold Lib.decodeN
  rw [if_pos hc]
theorem runeAt_big {s : List UInt8} {i : Nat} {c : UInt8} (h : s[i]? = some c) (hc : 128 ≤ c.toNat) : 128 ≤ (runeAt s i).1 := by
  rw [runeAt_N]
  have : s.getD i 0 = c := by rw [List.getD_eq_getElem?_getD, h]; rfl
  rw [this]
  unfold Lib.decodeN
  rw [if_neg (by omega)]
  split
  · split <;> simp only <;> omega
  · split
    · split <;> simp only <;> omega
    · split
      · split <;> simp only <;> omega
      · simp only; omega
/-- a function without captured variables -/
def cF0 (f : Nat) : Cod Unit where
  enc := fun _ => .fn (.func f) [] []
  dec := fun v => match v with | .fn (.func g) [] [] => if g = f then some () else none | _ => none
  de := fun x => by simp
  ed := fun v x h => by
    split at h
    · split at h
      · rename_i e; subst e; rfl
      · cases h
    · cases h
  fz := fun x => by simp [fz, fzL]
@[simp] theorem cF0_dec (f : Nat) : (cF0 f).dec (.fn (.func f) [] []) = some () := by simp [cF0]
@[simp] theorem cF0_enc (f : Nat) (x : Unit) : (cF0 f).enc x = .fn (.func f) [] [] := rfl
@[simp] def decRune : AV → Option Int
  | .int .i32 n => some n
  | _ => none
@[simp] def encRune (n : Int) : AV := .int .i32 n
def cRune : Cod Int := ⟨encRune, decRune, fun _ => rfl, fun v x h => by
  cases v with
  | int k n => cases k <;> simp_all
  | _ => simp_all, fun _ => rfl⟩
@[simp] theorem cRune_dec : cRune.dec = decRune := rfl
@[simp] theorem cRune_enc : cRune.enc = encRune := rfl

end Go.Proofs.YtollfopbmbjnhaaDoor.Lift
namespace Go.Proofs.YtollfopbmbjnhaaDoor.Lift
open Go
set_option maxRecDepth 100000

theorem p_named : SoundP Tryd.prog gl 47 (fn1 cStr encTy fun s => some (namedT s)) := by
  refine soundP_of_wk okX_nil mixed Tryd.func47 rfl rfl fun args r h G0 => ?_
  obtain ⟨s, e, rfl, he, rfl⟩ := fn1_inv h
  cases he
  simp [Tryd.f47, entry]
  exact finS_fz (by simp)
theorem p_letterT : SoundP Tryd.prog gl 27 (fn1 cRune encTy fun c => some (letterT c)) := by
  refine soundP_of_wk (okX_nil.addP p_named) mixed Tryd.func27 rfl rfl fun args r h G0 => ?_
  obtain ⟨c, e, rfl, he, rfl⟩ := fn1_inv h
  cases he
  simp [Tryd.f27, entry]
  refine br_dec (fun h1 => ?_) (fun h1 => ?_)
  · simp [h1]; exact finS_eq (by simp [letterT]) (by simp)
  simp [h1]
  refine br_dec (fun h2 => ?_) (fun h2 => ?_)
  · simp [h2]; exact finS_eq (by simp [letterT]) (by simp)
  simp [h2]
  refine br_dec (fun h3 => ?_) (fun h3 => ?_)
  · simp [h3]; exact finS_eq (by simp [letterT]) (by simp)
  simp [h3]
  refine br_dec (fun h4 => ?_) (fun h4 => ?_)
  · simp [h4]; exact finS_eq (by simp [letterT, namedT]) (by simp)
  simp [h4]
  refine br_dec (fun h5 => ?_) (fun h5 => ?_)
  · simp [h5]; exact finS_eq (by simp [letterT, namedT]) (by simp)
  simp [h5]
  refine br_dec (fun h6 => ?_) (fun h6 => ?_)
  · simp [h6]; exact finS_eq (by simp [letterT, namedT]) (by simp)
  simp [h6]
  refine br_dec (fun h7 => ?_) (fun h7 => ?_)
  · simp [h7]; exact finS_eq (by simp [letterT, namedT]) (by simp)
  simp [h7]
  exact finS_eq (by simp [letterT, h1, h2, h3, h4, h5, h6, h7]) (by simp)
theorem p_isRef : SoundP Tryd.prog gl 37 (fn1 cTy encBool fun x => some (isRefT x)) := by
  refine soundP_of_wk okX_nil mixed Tryd.func37 rfl rfl fun args r h G0 => ?_
  obtain ⟨x, e, rfl, he, rfl⟩ := fn1_inv h
  cases he
  simp [Tryd.f37, entry]
  exact finS_fz (by simp)
theorem p_anything : SoundP Tryd.prog gl 43 (fn1 cTy encBool fun _ => some true) := by
  refine soundP_of_wk okX_nil mixed Tryd.func43 rfl rfl fun args r h G0 => ?_
  obtain ⟨x, e, rfl, he, rfl⟩ := fn1_inv h
  cases he
  simp [Tryd.f43, entry]
  exact finS_fz (by simp)
theorem ty_eq_dec (x y : ATy) : (decide (x.kind = y.kind) && decide (x.name = y.name)) = decide (x = y) := by
  cases x; cases y
  simp [← Bool.decide_and]
theorem p_moves1 : SoundP Tryd.prog gl 34 (fn2 cTy (cRp cTy) encBool fun x y => some (decide (x = y))) := by
  refine soundP_of_wk okX_nil mixed Tryd.func34 rfl rfl fun args r h G0 => ?_
  obtain ⟨x, y, e, rfl, he, rfl⟩ := fn2_inv h
  cases he
  simp [Tryd.f34, entry]
  exact finS_eq (by simp [ty_eq_dec]) (by simp)
theorem p_moves2 : SoundP Tryd.prog gl 35 (fn2 cTy (cRp cTy) encBool fun x y => some (decide (x = y))) := by
  refine soundP_of_wk okX_nil mixed Tryd.func35 rfl rfl fun args r h G0 => ?_
  obtain ⟨x, y, e, rfl, he, rfl⟩ := fn2_inv h
  cases he
  simp [Tryd.f35, entry]
  exact finS_eq (by simp [ty_eq_dec]) (by simp)
theorem p_moves4 : SoundP Tryd.prog gl 38 (fn2 cTy (cRp cTy) encBool fun x y => some (decide (x = y))) := by
  refine soundP_of_wk okX_nil mixed Tryd.func38 rfl rfl fun args r h G0 => ?_
  obtain ⟨x, y, e, rfl, he, rfl⟩ := fn2_inv h
  cases he
  simp [Tryd.f38, entry]
  exact finS_eq (by simp [ty_eq_dec]) (by simp)
theorem p_moves3 : SoundP Tryd.prog gl 36 (fn1 cTy encBool fun x => some (decide (x.kind = 4) || decide (x.kind = 3))) := by
  refine soundP_of_wk (okX_nil.addP p_isRef) mixed Tryd.func36 rfl rfl fun args r h G0 => ?_
  obtain ⟨x, e, rfl, he, rfl⟩ := fn1_inv h
  cases he
  by_cases h4 : x.kind = 4
  · simp [Tryd.f36, entry, isRefT, h4]
    exact finS_fz (by simp)
  · simp [Tryd.f36, entry, isRefT, h4]
    exact finS_fz (by simp)

/-- a list of types that may be cloned -/
def cloneOk (xs : List AV) : Bool := match mapO decTy xs with
  | some l => decide (l.length < 1099511627776)
  | none => false
theorem cloneOk_tys (l : List ATy) : cloneOk (l.map encTy) = decide (l.length < 1099511627776) := by simp [cloneOk]
theorem cloneOk_inv {xs : List AV} (h : cloneOk xs = true) : ∃ l : List ATy, xs = l.map encTy ∧ l.length < 1099511627776 := by
  unfold cloneOk at h
  split at h
  · rename_i l hl
    exact ⟨l, mapO_inv cTy.ed _ _ hl, of_decide_eq_true h⟩
  · cases h
theorem a_Clone : SoundA Tryd.prog gl 14 (sClone 2 cloneOk) := by
  intro J
  refine clone_join (soundA_of_wk okA_nil mixed Tryd.func14 rfl rfl (fun args st r st' h J okx G0 => ?_) J) (soundA_of_wk okA_nil mixed Tryd.func14 rfl rfl (fun args st r st' h J okx G0 => ?_) J) (soundA_of_wk okA_nil mixed Tryd.func14 rfl rfl (fun args st r st' h J okx G0 => ?_) J)
  · unfold sCloneNil at h
    split at h
    · cases h
      simp [Tryd.f14, entry]
    · cases h
  · unfold sCloneE at h
    split at h
    · cases h
      simp [Tryd.f14, entry]
    · cases h
  · unfold sCloneX at h
    split at h
    · rename_i x xs
      split at h
      · rename_i hc
        obtain ⟨l, hl, hb⟩ := cloneOk_inv hc
        cases l with
        | nil => cases hl
        | cons y l =>
          simp only [List.map_cons, List.cons.injEq] at hl
          obtain ⟨rfl, rfl⟩ := hl
          cases h
          simp only [List.length_cons] at hb
          have hb : (l.length + 1) * 24 ≤ 140737488355328 := by omega
          simp [Tryd.f14, entry, hb]
      · cases h
    · cases h

theorem p_May1 : SoundP Tryd.prog gl 22 (fn3 cTy cTy (cRp (cL cClass)) encBool fun x y l => gMayT l x y) := by
  refine soundP_of_wk (okX_nil.addP p_kindMay) mixed Tryd.func22 rfl rfl fun args r h G0 => ?_
  obtain ⟨x, y, l, e, rfl, he, rfl⟩ := fn3_inv h
  simp [Tryd.f22, entry, he]
  exact finS_fz (by simp)
/-- may each stand for the other list's? -/
def mayAll (l : List AClass) : List ATy → List ATy → Bool
  | [], [] => true
  | x :: xs, y :: ys => may l x y && mayAll l xs ys
  | _, _ => false
def gMayAll (l : List AClass) (xs ys : List ATy) : Option Bool :=
  if xs.length < 1099511627776 ∧ l.length < 1099511627776 ∧ (∀ x ∈ xs, x.name.length < 1099511600000) ∧ (∀ y ∈ ys, y.name.length < 1099511600000) then some (mayAll l xs ys) else none
theorem mayAll_length {l : List AClass} : ∀ {xs ys : List ATy}, mayAll l xs ys = true → xs.length = ys.length
  | [], [], _ => rfl
  | x :: xs, y :: ys, h => by
    simp only [mayAll, Bool.and_eq_true] at h
    simp [mayAll_length h.2]
  | [], _ :: _, h => by cases h
  | _ :: _, [], h => by cases h
theorem mayAll_drop {l : List AClass} {xs ys : List ATy} {i : Nat} (h1 : i < xs.length) (h2 : i < ys.length) : mayAll l (xs.drop i) (ys.drop i) = (may l xs[i] ys[i] && mayAll l (xs.drop (i + 1)) (ys.drop (i + 1))) := by
  rw [List.drop_eq_getElem_cons h1, List.drop_eq_getElem_cons h2]
  rfl
theorem p_EqualFunc : SoundP Tryd.prog gl 24 (fn3 (cL cTy) (cL cTy) (cFn1 22 (cRp (cL cClass))) encBool fun xs ys l => gMayAll l xs ys) := by
  have okx := okX_nil.addP p_May1
  refine soundP_of_wk okx mixed Tryd.func24 rfl rfl fun args r h G0 => ?_
  obtain ⟨xs, ys, l, e, rfl, he, rfl⟩ := fn3_inv h
  simp only [gMayAll, Option.ite_none_right_eq_some, Option.some.injEq] at he
  obtain ⟨⟨h1, h2, h3, h4⟩, rfl⟩ := he
  simp [Tryd.f24, entry]
  rw [← decide_not]
  refine br_dec (fun hl => ?_) (fun hl => ?_)
  · have : mayAll l xs ys = false := by
      cases hq : mayAll l xs ys with
      | false => rfl
      | true => exact absurd (by rw [mayAll_length hq]) hl
    simp [this]
    exact finS_fz (by simp)
  · have hle : xs.length = ys.length := by have := Classical.not_not.1 hl; omega
    simp
    refine lp_of okx mixed (fun (i : Nat) => ⟨32, frL [(1, .sl (ys.map encTy)), (2, .fn (.func 22) [] [.rp (.sl (l.map encClass)) 0]), (6, .bool false), (15, .sl (xs.map encTy)), (16, .int .i64 xs.length), (17, .int .i64 i)], []⟩) (fun i => i ≤ xs.length ∧ mayAll l xs ys = mayAll l (xs.drop i) (ys.drop i)) (fun i => xs.length - i) 0 (by simp) (weak_frL rfl rfl (by simp)) ?_
    intro i ⟨hi, he⟩
    simp
    refine br_dec (fun h5 => ?_) (fun h5 => ?_)
    · have h6 : i < ys.length := by omega
      have hx : xs[i]? = some xs[i] := by simp [h5]
      have hy : ys[i]? = some ys[i] := by simp [h6]
      rw [mayAll_drop h5 h6] at he
      have hm : gMayT l xs[i] ys[i] = some (may l xs[i] ys[i]) := by
        unfold gMayT
        rw [if_pos ⟨h2, h3 _ (List.getElem_mem _), h4 _ (List.getElem_mem _)⟩]
      have hw := wrap_i64 (show (-9223372036854775808 : Int) ≤ (i : Int) + 1 by omega) (by omega)
      simp [hx, hy, hm]
      refine br_bool (fun hq => ?_) (fun hq => ?_)
      · simp at hq
        simp [hq] at he
        simp [he]
        exact finS_fz (by simp)
      · simp at hq
        simp [hq] at he
        simp [hw]
        refine nextQ_less (i + 1) ⟨h5, he⟩ (by omega) (less_take fz_gl G0.2 rfl rfl (by simp) (by simp))
    · have e1 : i = xs.length := by omega
      rw [e1, List.drop_length, hle, List.drop_length] at he
      simp [he, mayAll]
      exact finS_fz (by simp)
/-- May: 11.2 -/
def frameMay (l : List AClass) (a b : AFrame) : Bool := mayAll l a.locals b.locals && mayAll l a.stack b.stack
def gFrameMay (l : List AClass) (a b : AFrame) : Option Bool := (gMayAll l a.locals b.locals).bind fun x => (gMayAll l a.stack b.stack).map fun y => x && y
theorem p_shapeMay : SoundP Tryd.prog gl 12 (fn3 (cL cClass) cFrame cFrame encBool gFrameMay) := by
  refine soundP_of_wk (okX_nil.addP p_EqualFunc) mixed Tryd.func12 rfl rfl fun args r h G0 => ?_
  obtain ⟨l, a, b, e, rfl, he, rfl⟩ := fn3_inv h
  obtain ⟨x, hx, hxy⟩ := Option.bind_eq_some_iff.1 he
  obtain ⟨y, hy, rfl⟩ := Option.map_eq_some_iff.1 hxy
  clear hxy
  cases x with
  | true =>
    simp [Tryd.f12, entry, hx, hy]
    exact finS_fz (by simp)
  | false =>
    simp [Tryd.f12, entry, hx]
    exact finS_fz (by simp)
theorem p_Words : SoundP Tryd.prog gl 10 (fn1 cFrame encInt fun f => if f.stack.length < 1099511627776 then some (wide f.stack) else none) := by
  refine soundP_of_wk (okX_nil.addP p_kindWide) mixed Tryd.func10 rfl rfl fun args r h G0 => ?_
  obtain ⟨f, e, rfl, he, rfl⟩ := fn1_inv h
  simp only [Option.ite_none_right_eq_some, Option.some.injEq] at he
  obtain ⟨hs, rfl⟩ := he
  simp [Tryd.f10, entry, hs]
  exact finS_fz (by simp)
end Go.Proofs.YtollfopbmbjnhaaDoor.Lift
namespace Go.Proofs.YtollfopbmbjnhaaDoor.Lift
open Go
set_option maxRecDepth 100000

@[simp high] theorem hs_5 {p0 p1 p2 p3 p4 : ABlk} {h : AHand} {q : Sto} : (handSto p0 p1 p2 p3 p4 h q)[5]? = some (.row 2 1 0 (h.loc.map encTy)) := rfl
@[simp high] theorem hs_6 {p0 p1 p2 p3 p4 : ABlk} {h : AHand} {q : Sto} : (handSto p0 p1 p2 p3 p4 h q)[6]? = some (.row 2 h.g 0 ((h.stk ++ h.junk).map encTy)) := rfl
@[simp high] theorem hs_5' {p0 p1 p2 p3 p4 : ABlk} {h : AHand} {q : Sto} (hl : 5 < (handSto p0 p1 p2 p3 p4 h q).length) : (handSto p0 p1 p2 p3 p4 h q)[5] = .row 2 1 0 (h.loc.map encTy) := rfl
@[simp high] theorem hs_6' {p0 p1 p2 p3 p4 : ABlk} {h : AHand} {q : Sto} (hl : 6 < (handSto p0 p1 p2 p3 p4 h q).length) : (handSto p0 p1 p2 p3 p4 h q)[6] = .row 2 h.g 0 ((h.stk ++ h.junk).map encTy) := rfl
@[simp high] theorem hs_7' {p0 p1 p2 p3 p4 : ABlk} {h : AHand} {q : Sto} (hl : 7 < (handSto p0 p1 p2 p3 p4 h q).length) : (handSto p0 p1 p2 p3 p4 h q)[7] = .row 4 0 0 [.agg [.sl (h.cl.map encClass), .sr 5 1 0 h.loc.length, .sr 6 h.g 0 h.stk.length, .bool h.bad]] := rfl
@[simp high] theorem hs_takeN {p0 p1 p2 p3 p4 : ABlk} {h : AHand} {q : Sto} (n : Nat) : List.take (n + 8) (handSto p0 p1 p2 p3 p4 h q) = handSto p0 p1 p2 p3 p4 h (List.take n q) := by unfold handSto; simp
@[simp high] theorem app_take {q r : Sto} (k : Nat) : List.take (q.length + k) (q ++ r) = q ++ r.take k := by rw [List.take_append, List.take_of_length_le (by omega), Nat.add_sub_cancel_left]
mutual
theorem blw_mono {j k : Nat} (hjk : j ≤ k) : ∀ {v : AV}, blw j v = true → blw k v = true
  | .undef, h => rfl
  | .bool _, h => rfl
  | .int .., h => rfl
  | .str _, h => rfl
  | .nilp, h => rfl
  | .ptr .., h => by simp only [blw, decide_eq_true_eq] at h ⊢; omega
  | .rp x _, h => by simp only [blw] at h ⊢; exact blw_mono hjk h
  | .snil, h => rfl
  | .sle, h => rfl
  | .sl xs, h => by simp only [blw] at h ⊢; exact blwL_mono hjk h
  | .sr .., h => by simp only [blw, decide_eq_true_eq] at h ⊢; omega
  | .fn f a b, h => by simp only [blw, Bool.and_eq_true] at h ⊢; exact ⟨blwL_mono hjk h.1, blwL_mono hjk h.2⟩
  | .nilf, h => rfl
  | .nilm, h => rfl
  | .mv es, h => by simp only [blw] at h ⊢; exact blwE_mono hjk h
  | .mr _, h => by simp only [blw, decide_eq_true_eq] at h ⊢; omega
  | .agg cs, h => by simp only [blw] at h ⊢; exact blwL_mono hjk h
  | .tup vs, h => by simp only [blw] at h ⊢; exact blwL_mono hjk h
theorem blwL_mono {j k : Nat} (hjk : j ≤ k) : ∀ {l : List AV}, blwL j l = true → blwL k l = true
  | [], _ => rfl
  | x :: r, h => by simp only [blwL, Bool.and_eq_true] at h ⊢; exact ⟨blw_mono hjk h.1, blwL_mono hjk h.2⟩
theorem blwE_mono {j k : Nat} (hjk : j ≤ k) : ∀ {l : List (AV × AV)}, blwE j l = true → blwE k l = true
  | [], _ => rfl
  | (a, b) :: r, h => by simp only [blwE, Bool.and_eq_true] at h ⊢; exact ⟨⟨blw_mono hjk h.1.1, blw_mono hjk h.1.2⟩, blwE_mono hjk h.2⟩
end
theorem blwB_mono {j k : Nat} (hjk : j ≤ k) {b : ABlk} (h : blwB j b = true) : blwB k b = true := by
  cases b with
  | row sz g lo xs => exact blwL_mono hjk h
  | map es => exact blwE_mono hjk h
  | tick n => rfl
  | dead sz g => rfl
  | iter s i => rfl
/-- a shut store stays shut, ahead of more blocks -/
theorem shut_app {σ τ : Sto} (h : σ.all (blwB σ.length) = true) (h2 : τ.all (blwB (σ ++ τ).length) = true) : (σ ++ τ).all (blwB (σ ++ τ).length) = true := by
  rw [List.all_append, Bool.and_eq_true]
  exact ⟨List.all_eq_true.2 fun b hb => blwB_mono (by simp) (List.all_eq_true.1 h b hb), h2⟩
theorem hand_shut_app {p0 p1 p2 p3 p4 : ABlk} {h h' : AHand} {q τ : Sto} (hc : (handSto p0 p1 p2 p3 p4 h q).all (blwB (handSto p0 p1 p2 p3 p4 h q).length) = true) (h2 : τ.all (blwB (q.length + τ.length + 8)) = true) :
    (handSto p0 p1 p2 p3 p4 h' (q ++ τ)).all (blwB (handSto p0 p1 p2 p3 p4 h' (q ++ τ)).length) = true := by
  have e : handSto p0 p1 p2 p3 p4 h' (q ++ τ) = handSto p0 p1 p2 p3 p4 h' q ++ τ := rfl
  rw [e]
  refine shut_app (hand_shut hc) ?_
  rw [← e]
  simpa using h2

/-- a method's contract, from its walk; the store is shut -/
theorem hand_of_wk' {E : Env} {B : List Nat} (ok : OkX Tryd.prog (XB E B)) {f : Nat} {fn : Func} (hf : Tryd.prog.funcs[f]? = some fn) (hb : fn.body.isSome = true) (hn : (fn.name == "runtime.NumGoroutine") = false) {m : List AV → Sto → AHand → Option (AV × AHand)}
    (h : ∀ av q hh r h', m av q hh = some (r, h') → fz r = true ∧ ∀ (p0 p1 p2 p3 p4 : ABlk), (handSto p0 p1 p2 p3 p4 hh q).all (blwB (handSto p0 p1 p2 p3 p4 hh q).length) = true →
      ∀ G0 : { G : Gh // G.σ = handSto p0 p1 p2 p3 p4 hh q }, wk Tryd.prog (XB E B) G0.1 (fun e s => (e = .normal ∨ e = .ret) ∧ resAs (XB E B) s fn.results.toList = some r ∧ s.st.take (q.length + 8) = handSto p0 p1 p2 p3 p4 h' q) (fn.body.get hb) [] (entry fn (.ptr 7 0 0 0 :: av) (handSto p0 p1 p2 p3 p4 hh q))) : SoundF Tryd.prog gl f (handS m) :=
  soundD_of_wk ok mixed hf hb hn fun args st r st' hs hc => by
    obtain ⟨av, p0, p1, p2, p3, p4, hh, q, h', rfl, rfl, hm, rfl⟩ := handS_inv hs
    obtain ⟨h1, h2⟩ := h av q hh r h' hm
    exact ⟨Nat.le_refl _, hand_shut hc, fz_blw h1, fun G0 => h2 p0 p1 p2 p3 p4 hc G0⟩

theorem popR_append : ∀ (l m : List ATy) (h : AHand), popR (l ++ m) h = (popR l h).bind (popR m)
  | [], m, h => rfl
  | x :: l, m, h => by
    simp only [List.cons_append, popR]
    cases pop1 x h with
    | none => rfl
    | some h1 => exact popR_append l m h1
/-- the hand behind some pops -/
def popAt (l : List ATy) (h : AHand) (t : Nat) : AHand := (popR (l.reverse.take t) h).getD h
theorem popAt_zero (l : List ATy) (h : AHand) : popAt l h 0 = h := rfl
theorem popAt_end {l : List ATy} {h h' : AHand} (e : popO l h = some h') : popAt l h l.length = h' := by
  unfold popAt
  rw [show l.length = l.reverse.length by simp, List.take_length]
  unfold popO at e
  rw [e]
  rfl
theorem popAt_succ {l : List ATy} {h h' : AHand} (e : popO l h = some h') {t : Nat} (ht : t < l.length) : pop1 (l[l.length - 1 - t]'(by omega)) (popAt l h t) = some (popAt l h (t + 1)) := by
  have hr : t < l.reverse.length := by simpa using ht
  have e1 : l.reverse = l.reverse.take t ++ l.reverse[t] :: l.reverse.drop (t + 1) := by
    rw [← List.drop_eq_getElem_cons hr, List.take_append_drop]
  unfold popO at e
  rw [e1, popR_append] at e
  obtain ⟨h1, q1, q2⟩ := Option.bind_eq_some_iff.1 e
  simp only [popR] at q2
  obtain ⟨h2, q3, q4⟩ := Option.bind_eq_some_iff.1 q2
  have e2 : popAt l h t = h1 := by unfold popAt; rw [q1]; rfl
  have e3 : popAt l h (t + 1) = h2 := by
    unfold popAt
    rw [List.take_succ_eq_append_getElem hr, popR_append, q1, Option.bind_some]
    simp only [popR]
    rw [q3]
    rfl
  rw [e2, e3, ← q3]
  congr 1
  rw [List.getElem_reverse]
theorem popR_len : ∀ {l : List ATy} {h h' : AHand}, popR l h = some h' → h'.cl = h.cl ∧ h'.loc = h.loc
  | [], h, h', e => by cases e; exact ⟨rfl, rfl⟩
  | x :: r, h, h', e => by
    obtain ⟨h1, he1, he2⟩ := Option.bind_eq_some_iff.1 e
    obtain ⟨⟨t, h2⟩, q1, q2⟩ := Option.bind_eq_some_iff.1 he1
    obtain ⟨b, _, rfl⟩ := Option.map_eq_some_iff.1 q2
    have q3 : h2.cl = h.cl ∧ h2.loc = h.loc := by
      unfold topO at q1
      split at q1
      · split at q1 <;> cases q1 <;> exact ⟨rfl, rfl⟩
      · cases q1
    have := popR_len he2
    exact ⟨this.1.trans q3.1, this.2.trans q3.2⟩
theorem topO_cl {h h' : AHand} {t : ATy} (e : topO h = some (t, h')) : h'.cl = h.cl ∧ h'.loc = h.loc := by
  unfold topO at e
  split at e
  · split at e <;> cases e <;> exact ⟨rfl, rfl⟩
  · cases e

theorem kill_one {b : Nat} {st : Sto} {k : ABlk} (h : st[b]? = some k) : kill [b] st = st.set b (deadOf k) := by
  refine List.ext_getElem? fun i => ?_
  unfold kill
  rw [List.getElem?_mapIdx, List.getElem?_set]
  by_cases hi : b = i
  · subst hi
    obtain ⟨h1, rfl⟩ := List.getElem?_eq_some_iff.1 h
    simp [h1]
  · rw [if_neg hi]
    have : ¬ i ∈ [b] := by simp; omega
    simp only [this, if_false]
    cases st[i]? <;> rfl
theorem backRow_flat (l : List ATy) : ∀ x ∈ backRow l, flatL x = true := fun x hx => by
  obtain ⟨p, _, rfl⟩ := List.mem_map.1 hx
  simp
theorem backRow_two (l : List ATy) : ∀ x ∈ backRow l, x.length = 2 := fun x hx => by
  obtain ⟨p, _, rfl⟩ := List.mem_map.1 hx
  rfl
def hPop (av : List AV) (_ : Sto) (h : AHand) : Option (AV × AHand) := match av with
  | [x] => (decTys x).bind fun l => if l.length < 1099511627776 then (popO l h).map fun h' => (.tup [], h') else none
  | _ => none
theorem ok_pop : OkX Tryd.prog (XE [(56, sBack), (44, handS hMust), (41, handS hTop), (23, liftS 9 (fn3 (cL cClass) cTy cTy encBool gMayT))]) :=
  (((okX_nil.addP p_kindMay).add f_top).add f_must).add (a_Backward _)
set_option maxHeartbeats 1000000 in
theorem f_pop : SoundF Tryd.prog gl 31 (handS hPop) := by
  refine hand_of_wk' ok_pop Tryd.func31 rfl rfl fun av q hh r h' hm => ?_
  unfold hPop at hm
  split at hm
  · rename_i x
    obtain ⟨l, hl, hm2⟩ := Option.bind_eq_some_iff.1 hm
    have hx := decTys_inv hl
    subst hx
    split at hm2
    · rename_i hll
      obtain ⟨h2, hm3, he⟩ := Option.map_eq_some_iff.1 hm2
      cases he
      clear hm hm2 hl
      refine ⟨rfl, fun p0 p1 p2 p3 p4 hc G0 => ?_⟩
      have hxs : gBack [.ptr 1 0 0 0] [.row 1 0 0 [.sl (l.map encTy)]] = some (backRow l) := by
        simp [gBack, hll]
      simp [Tryd.f31, entry, sBack]
      refine rf_of ok_pop mixed [q.length + 9] i_Backward [(0, .ptr 7 0 0 0), (2, .ptr (q.length + 8) 0 0 0)] (backRow l) l.length .ret
        (fun t => handSto p0 p1 p2 p3 p4 (popAt l hh t) (q ++ [.row 1 0 0 [.ptr 7 0 0 0], .dead 1 0]))
        rfl (by simp) (by simp) (by simp [fzB, fzL_map]) (by simp [reb, posOf]) hxs (by simp) (.inl rfl) ?_ (by simp) (backRow_flat l) (backRow_two l) (fun t z hz ht G1 => ?_) (fun hle => ?_) (fun hlt => ?_)
      · rw [kill_one (k := .row 1 0 0 [.sl (l.map encTy)]) (by simp)]
        simp [popAt_zero, deadOf]
      · have htl : t < l.length := by have := (List.getElem?_eq_some_iff.1 hz).1; rwa [backRow_length] at this
        rw [backRow_get l t htl] at hz
        cases hz
        have hp := popAt_succ hm3 htl
        obtain ⟨⟨ty, h1⟩, ht1, hp2⟩ := Option.bind_eq_some_iff.1 hp
        obtain ⟨b, hb, hp3⟩ := Option.map_eq_some_iff.1 hp2
        simp only at hb hp3
        have hcl := (topO_cl ht1).1
        generalize l[l.length - 1 - t]'(by omega) = x at *
        simp [setPs]
        intro G2 hG2
        refine dk_ofL [(0, .ptr (q.length + 8) 0 0 0), (1, .ptr (q.length + 8) 0 0 0), (4, .ptr 7 0 0 0), (7, .ptr (q.length + 2 + 8) 0 0 0)] (by decide) ?_
        simp [handS_eq, hTop, ht1, List.lookup]
        refine sd_ofL rfl ?_ ?_
        · simp [steadyL, ldEq, hcl]

        have hb' : gMayT (popAt l hh t).cl { kind := ty.kind, name := ty.name } { kind := x.kind, name := x.name } = some b := by rw [← hcl]; exact hb
        simp [handS_eq, hMust, hb', List.lookup]
        refine sd_of (by decide) ?_
        simp
        have hmst : mustT b h1 = popAt l hh (t + 1) := hp3
        exact roundEnd_on htl _ rfl (by simp) (by rw [← hmst]; simp) (hand_shut_app hc (by simp))
      · simp [backRow_length] at hle ⊢
        rw [popAt_end hm3]
      · simp [backRow_length] at hlt
    · cases hm2
  · cases hm

/-- what a function value says of a type (q: the blocks behind the hand) -/
def willOf (fn : AV) (q : Sto) : Option (ATy → Bool) := match fn with
  | .fn (.func f) [] [] => if f = 36 then some (fun x => decide (x.kind = 4) || decide (x.kind = 3)) else if f = 37 then some isRefT else if f = 43 then some (fun _ => true) else none
  | .fn (.func f) [] [.ptr b 0 0 0] => if (f = 34 ∨ f = 35 ∨ f = 38) ∧ 8 ≤ b then (match q[b - 8]? with
      | some (.row 2 0 0 [x]) => (decTy x).map fun t => fun y => decide (y = t)
      | _ => none) else none
  | _ => none
noncomputable abbrev Ewill : Env := [(34, liftS 9 (fn2 cTy (cRp cTy) encBool fun x y => some (decide (x = y)))), (35, liftS 9 (fn2 cTy (cRp cTy) encBool fun x y => some (decide (x = y)))), (38, liftS 9 (fn2 cTy (cRp cTy) encBool fun x y => some (decide (x = y)))),
  (36, liftS 9 (fn1 cTy encBool fun x => some (decide (x.kind = 4) || decide (x.kind = 3)))), (37, liftS 9 (fn1 cTy encBool fun x => some (isRefT x))), (43, liftS 9 (fn1 cTy encBool fun _ => some true))]
theorem ok_will : OkX Tryd.prog (XE Ewill) := (((((okX_nil.addP p_anything).addP p_isRef).addP p_moves3).addP p_moves4).addP p_moves2).addP p_moves1
/-- a function value's contract -/
theorem willOf_inv {fn : AV} {q : Sto} {will : ATy → Bool} (h : willOf fn q = some will) : ∃ f cap, fn = .fn (.func f) [] cap ∧ ∃ S, Env.look Ewill f = some S ∧ ∀ (p0 p1 p2 p3 p4 : ABlk) (hh : AHand) (τ : Sto) (x : ATy), S (encTy x :: cap) (handSto p0 p1 p2 p3 p4 hh (q ++ τ)) = some (.bool (will x), handSto p0 p1 p2 p3 p4 hh (q ++ τ)) := by
  unfold willOf at h
  split at h
  · rename_i f
    refine ⟨f, [], rfl, ?_⟩
    split at h
    · rename_i e; subst e; cases h
      exact ⟨_, rfl, fun p0 p1 p2 p3 p4 hh τ x => by simp⟩
    split at h
    · rename_i e; subst e; cases h
      exact ⟨_, rfl, fun p0 p1 p2 p3 p4 hh τ x => by simp⟩
    split at h
    · rename_i e; subst e; cases h
      exact ⟨_, rfl, fun p0 p1 p2 p3 p4 hh τ x => by simp⟩
    · cases h
  · rename_i f b
    refine ⟨f, [.ptr b 0 0 0], rfl, ?_⟩
    split at h
    · rename_i e
      obtain ⟨e, hb⟩ := e
      split at h
      · rename_i y hq
        obtain ⟨t, ht, rfl⟩ := Option.map_eq_some_iff.1 h
        have hy : y = encTy t := cTy.ed _ _ ht
        subst hy
        obtain ⟨k, rfl⟩ : ∃ k, b = k + 8 := ⟨b - 8, by omega⟩
        simp only [Nat.add_sub_cancel] at hq
        have hk : k < q.length := (List.getElem?_eq_some_iff.1 hq).1
        have hq2 : ∀ τ : Sto, (q ++ τ)[k]? = some (.row 2 0 0 [encTy t]) := fun τ => by rw [List.getElem?_append_left hk]; exact hq
        rcases e with e | e | e <;> subst e
        · exact ⟨_, rfl, fun p0 p1 p2 p3 p4 hh τ x => by have := hq2 τ; simp at this; simp [this, ty_eq_dec]⟩
        · exact ⟨_, rfl, fun p0 p1 p2 p3 p4 hh τ x => by have := hq2 τ; simp at this; simp [this, ty_eq_dec]⟩
        · exact ⟨_, rfl, fun p0 p1 p2 p3 p4 hh τ x => by have := hq2 τ; simp at this; simp [this, ty_eq_dec]⟩
      · cases h
    · cases h
  · cases h

def hLocal (av : List AV) (q : Sto) (h : AHand) : Option (AV × AHand) := match av with
  | [.int .i64 k, fn] => (willOf fn q).map fun will => (encTy (localT will k h).1, (localT will k h).2)
  | _ => none
theorem f_local : SoundF Tryd.prog gl 33 (handS hLocal) := by
  have ok := ok_will
  generalize hE : Ewill = E0 at ok
  refine hand_of_wk' ok Tryd.func33 rfl rfl fun av q hh r h' hm => ?_
  unfold hLocal at hm
  split at hm
  · rename_i k fn
    obtain ⟨will, hw, he⟩ := Option.map_eq_some_iff.1 hm
    cases he
    refine ⟨cTy.fz _, fun p0 p1 p2 p3 p4 hc G0 => ?_⟩
    obtain ⟨f, cap, rfl, S, hS, hcall⟩ := willOf_inv hw
    rw [hE] at hS
    by_cases h0 : k < 0
    · simp [Tryd.f33, entry, h0]
      simp [localT, show ¬ 0 ≤ k by omega]
      simp [handSto]
    · by_cases h1 : k < hh.loc.length
      · have h2 : ¬ (hh.loc.length : Int) ≤ k := by omega
        have h3 : 0 ≤ k := by omega
        have hlt : k.toNat < hh.loc.length := by omega
        have hx : hh.loc[k.toNat]? = some hh.loc[k.toNat] := List.getElem?_eq_getElem hlt
        have hl : localT will k hh = if will hh.loc[k.toNat] = true then (hh.loc[k.toNat], hh) else (⟨0, []⟩, { hh with bad := true }) := by
          unfold localT
          rw [List.getD_eq_getElem?_getD, hx]
          simp only [h3, h1, true_and, Option.getD_some]
        rw [hl]
        have hq := fun τ => hcall p0 p1 p2 p3 p4 hh τ hh.loc[k.toNat]
        simp only [encTy] at hq
        cases hb : will hh.loc[k.toNat] with
        | true =>
          simp [Tryd.f33, entry, h0, h1, h2, h3, hS, hq, hb]
        | false =>
          simp [Tryd.f33, entry, h0, h1, h2, h3, hS, hq, hb]
          simp [handSto]
      · have h2 : (hh.loc.length : Int) ≤ k := by omega
        simp [Tryd.f33, entry, h0, h2]
        simp [localT, h1]
        simp [handSto]
  · cases hm
end Go.Proofs.YtollfopbmbjnhaaDoor.Lift
namespace Go.Proofs.YtollfopbmbjnhaaDoor.Lift
open Go

theorem longs_append (l m : List ATy) : longs (l ++ m) = longs l + longs m := by simp [longs]
theorem wide_append (l m : List ATy) : wide (l ++ m) = wide l + wide m := by simp [wide, longs_append]; omega
theorem wide_nil : wide [] = 0 := rfl
theorem wide_one (x : ATy) : wide [x] = wide1 x := by
  unfold wide wide1 longs
  by_cases h : x.kind = 2 <;> simp [h]
theorem wide_cons (x : ATy) (l : List ATy) : wide (x :: l) = wide1 x + wide l := by rw [show x :: l = [x] ++ l from rfl, wide_append, wide_one]
theorem wide1_pos (x : ATy) : 1 ≤ wide1 x := by unfold wide1; split <;> omega
theorem wide1_le (x : ATy) : wide1 x ≤ 2 := by unfold wide1; split <;> omega
theorem wide1_single {x : ATy} (h : x.kind ≠ 2) : wide1 x = 1 := by unfold wide1; rw [if_neg h]

/-- what is done keeps the number of locals; and if nothing is bad, the stack is at most so much wider -/
def Grow (k : Int) (h h' : AHand) : Prop := h'.loc.length = h.loc.length ∧ (h'.bad = false → h.bad = false ∧ wide h'.stk ≤ wide h.stk + k)
theorem Grow.refl (h : AHand) : Grow 0 h h := ⟨rfl, fun hb => ⟨hb, by omega⟩⟩
theorem Grow.trans {j k : Int} {a b c : AHand} (x : Grow j a b) (y : Grow k b c) : Grow (j + k) a c :=
  ⟨y.1.trans x.1, fun hb => by
    obtain ⟨h1, h2⟩ := y.2 hb
    obtain ⟨h3, h4⟩ := x.2 h1
    exact ⟨h3, by omega⟩⟩
theorem Grow.mono {j k : Int} {a b : AHand} (x : Grow j a b) (h : j ≤ k) : Grow k a b := ⟨x.1, fun hb => ⟨(x.2 hb).1, by have := (x.2 hb).2; omega⟩⟩
theorem Grow.must {k : Int} {a b : AHand} (x : Grow k a b) (c : Bool) : Grow k a (mustT c b) := ⟨x.1, fun hb => by
  simp only [mustT, Bool.or_eq_false_iff] at hb
  exact x.2 hb.1⟩
theorem Grow.bad {k : Int} {a b : AHand} (x : Grow k a b) : Grow k a { b with bad := true } := ⟨x.1, fun hb => by cases hb⟩
theorem Grow.isBad {j k : Int} {a b : AHand} (x : Grow j a b) (h : b.bad = true) : Grow k a b := ⟨x.1, fun hb => by rw [h] at hb; cases hb⟩

theorem topO_grow {h h' : AHand} {t : ATy} (e : topO h = some (t, h')) : Grow (-(wide1 t : Int)) h h' := by
  unfold topO at e
  split at e
  · split at e
    · cases e
      exact ⟨rfl, fun hb => by cases hb⟩
    · rename_i x hx
      cases e
      refine ⟨rfl, fun hb => ⟨hb, ?_⟩⟩
      obtain ⟨s, hs⟩ := List.getLast?_eq_some_iff.1 hx
      simp only [hs, List.dropLast_concat, wide_append, wide_one]
      omega
  · cases e
theorem topO_grow1 {h h' : AHand} {t : ATy} (e : topO h = some (t, h')) : Grow (-1) h h' := (topO_grow e).mono (by have := wide1_pos t; omega)
theorem pushO_grow {h h' : AHand} {l : List ATy} (e : pushO l h = some h') : Grow (wide l) h h' := by
  unfold pushO at e
  split at e
  · cases e
    exact ⟨rfl, fun hb => ⟨hb, by simp only [wide_append]; omega⟩⟩
  · cases e
theorem refO_grow {h h' : AHand} {t : ATy} (e : refO h = some (t, h')) : Grow (-1) h h' := by
  obtain ⟨⟨t1, h1⟩, hr, he⟩ := Option.map_eq_some_iff.1 e
  cases he
  exact (topO_grow1 hr).must _
theorem singleO_grow {h h' : AHand} {t : ATy} (e : singleO h = some (t, h')) : Grow (-1) h h' ∧ (h'.bad = false → wide1 t = 1) := by
  obtain ⟨⟨t1, h1⟩, hr, he⟩ := Option.map_eq_some_iff.1 e
  cases he
  refine ⟨(topO_grow1 hr).must _, fun hb => ?_⟩
  simp only [mustT, Bool.or_eq_false_iff, Bool.not_eq_false', decide_eq_true_eq] at hb
  exact wide1_single hb.2
theorem pop1_grow {h h' : AHand} {x : ATy} (e : pop1 x h = some h') : Grow (-1) h h' := by
  obtain ⟨⟨t1, h1⟩, hr, he⟩ := Option.bind_eq_some_iff.1 e
  obtain ⟨b, hb, rfl⟩ := Option.map_eq_some_iff.1 he
  exact (topO_grow1 hr).must _
theorem popR_grow : ∀ {l : List ATy} {h h' : AHand}, popR l h = some h' → Grow 0 h h'
  | [], h, h', e => by cases e; exact Grow.refl h
  | x :: r, h, h', e => by
    obtain ⟨h1, he1, he2⟩ := Option.bind_eq_some_iff.1 e
    exact ((pop1_grow he1).trans (popR_grow he2)).mono (by omega)
theorem pushR_grow : ∀ {l : List ATy} {h h' : AHand}, pushR l h = some h' → Grow (wide l) h h'
  | [], h, h', e => by cases e; exact Grow.refl h
  | x :: r, h, h', e => by
    obtain ⟨h1, he1, he2⟩ := Option.bind_eq_some_iff.1 e
    rw [wide_cons, ← wide_one]
    exact (pushO_grow he1).trans (pushR_grow he2)
theorem elemsO_grow {will : ATy → Bool} {h h' : AHand} {t : ATy} (e : elemsO will h = some (t, h')) : Grow (-1) h h' := by
  obtain ⟨⟨t1, h1⟩, hr, he⟩ := Option.bind_eq_some_iff.1 e
  simp only at he
  split at he
  · cases he; exact refO_grow hr
  · split at he
    · cases he; exact (refO_grow hr).must _
    · cases he
theorem localT_grow (will : ATy → Bool) (k : Int) (h : AHand) : Grow 0 h (localT will k h).2 := by
  unfold localT
  split
  · exact Grow.refl h
  · exact (Grow.refl h).bad
theorem setL_length (k : Nat) (x : ATy) (l : List ATy) : (setL k x l).length = l.length := by
  unfold setL
  simp only
  have h1 : (if 0 < k ∧ (l.getD (k - 1) ⟨0, []⟩).kind = 2 then l.set (k - 1) ⟨0, []⟩ else l).length = l.length := by split <;> simp only [List.length_set]
  split <;> simp only [List.length_set, h1]
theorem putO_grow {k : Int} {x : ATy} {h h' : AHand} (e : putO k x h = some h') : Grow 0 h h' := by
  unfold putO at e
  split at e
  · cases e
    split
    · exact (Grow.refl h).bad
    · exact ⟨setL_length _ _ _, fun hb => ⟨hb, by show wide h.stk ≤ wide h.stk + 0; omega⟩⟩
  · cases e
theorem doesO_grow {pops pushes : Str} {h h' : AHand} (hw : wide (lettersT pushes) ≤ 2) (e : doesO pops pushes h = some h') : Grow 2 h h' := by
  obtain ⟨h1, he1, he2⟩ := Option.bind_eq_some_iff.1 e
  have hp := pushR_grow he2
  refine ((?_ : Grow 0 h h1).trans hp).mono (by omega)
  unfold popsO at he1
  split at he1
  · obtain ⟨⟨t, a⟩, ha, hb⟩ := Option.bind_eq_some_iff.1 he1
    simp only at hb
    split at hb
    · cases hb; exact (refO_grow ha).mono (by omega)
    · obtain ⟨⟨t2, b⟩, hb1, rfl⟩ := Option.map_eq_some_iff.1 hb
      exact ((refO_grow ha).trans (refO_grow hb1)).mono (by omega)
  · exact popR_grow he1
theorem effTab_wide : ∀ e ∈ effTab, wide (lettersT e.2.2) ≤ 2 := by decide
theorem effectT_wide {op : Int} {e : Str × Str} (h : effectT op = some e) : wide (lettersT e.2) ≤ 2 := by
  obtain ⟨x, hx, rfl⟩ := Option.map_eq_some_iff.1 h
  exact effTab_wide x (List.mem_of_find?_eq_some hx)
theorem one_le2 (x : ATy) : wide [x] ≤ 2 := by rw [wide_one]; have := wide1_le x; omega

theorem movesO_grow {op a : Int} {h h' : AHand} {b : Bool} (e : movesO op a h = some (b, h')) : Grow 2 h h' := by
  unfold movesO at e
  by_cases q : op = 21
  · rw [if_pos q] at e
    obtain ⟨h1, hp, he⟩ := Option.map_eq_some_iff.1 e
    cases he
    exact ((localT_grow _ _ _).trans (pushO_grow hp)).mono (by have := one_le2 (localT (fun x => decide (x = tI)) a h).1; omega)
  rw [if_neg q] at e
  by_cases q : op = 22
  · rw [if_pos q] at e
    obtain ⟨h1, hp, he⟩ := Option.map_eq_some_iff.1 e
    cases he
    exact ((localT_grow _ _ _).trans (pushO_grow hp)).mono (by have := one_le2 (localT (fun x => decide (x = tJ)) a h).1; omega)
  rw [if_neg q] at e
  by_cases q : op = 25
  · rw [if_pos q] at e
    obtain ⟨h1, hp, he⟩ := Option.map_eq_some_iff.1 e
    cases he
    exact ((localT_grow _ _ _).trans (pushO_grow hp)).mono (by have := one_le2 (localT (fun x => decide (x.kind = 4) || decide (x.kind = 3)) a h).1; omega)
  rw [if_neg q] at e
  by_cases q : op = 132
  · rw [if_pos q] at e
    cases e
    exact (localT_grow _ _ _).mono (by omega)
  rw [if_neg q] at e
  by_cases q : op = 54
  · rw [if_pos q] at e
    obtain ⟨h1, hp, he⟩ := Option.map_eq_some_iff.1 e
    cases he
    obtain ⟨h2, hp1, hp2⟩ := Option.bind_eq_some_iff.1 hp
    exact ((pop1_grow hp1).trans (putO_grow hp2)).mono (by omega)
  rw [if_neg q] at e
  by_cases q : op = 55
  · rw [if_pos q] at e
    obtain ⟨h1, hp, he⟩ := Option.map_eq_some_iff.1 e
    cases he
    obtain ⟨h2, hp1, hp2⟩ := Option.bind_eq_some_iff.1 hp
    exact ((pop1_grow hp1).trans (putO_grow hp2)).mono (by omega)
  rw [if_neg q] at e
  by_cases q : op = 58
  · rw [if_pos q] at e
    obtain ⟨h1, hp, he⟩ := Option.map_eq_some_iff.1 e
    cases he
    obtain ⟨⟨t, h2⟩, hp1, hp2⟩ := Option.bind_eq_some_iff.1 hp
    exact ((refO_grow hp1).trans (putO_grow hp2)).mono (by omega)
  rw [if_neg q] at e
  by_cases q : op = 87
  · rw [if_pos q] at e
    obtain ⟨⟨t, h1⟩, hp, he⟩ := Option.map_eq_some_iff.1 e
    cases he
    exact (singleO_grow hp).1.mono (by omega)
  rw [if_neg q] at e
  by_cases q : op = 88
  · rw [if_pos q] at e
    obtain ⟨⟨t, h1⟩, hp, he⟩ := Option.bind_eq_some_iff.1 e
    simp only at he
    split at he
    · cases he; exact (topO_grow1 hp).mono (by omega)
    · obtain ⟨⟨t2, h2⟩, hp2, he2⟩ := Option.map_eq_some_iff.1 he
      cases he2
      exact ((topO_grow1 hp).trans (singleO_grow hp2).1).mono (by omega)
  rw [if_neg q] at e
  by_cases q : op = 89
  · rw [if_pos q] at e
    obtain ⟨⟨t, h1⟩, hp, he⟩ := Option.bind_eq_some_iff.1 e
    obtain ⟨h2, hp2, he2⟩ := Option.map_eq_some_iff.1 he
    cases he2
    cases hb : h1.bad with
    | false =>
      have := (singleO_grow hp).2 hb
      refine ((singleO_grow hp).1.trans (pushO_grow hp2)).mono ?_
      simp only [wide_cons, wide_nil, this]
      omega
    | true =>
      have hg := (singleO_grow hp).1
      have : h'.bad = true := by
        cases hq : h'.bad with
        | true => rfl
        | false => have := ((pushO_grow hp2).2 hq).1; rw [hb] at this; cases this
      exact (hg.trans (pushO_grow hp2)).isBad this
  rw [if_neg q] at e
  by_cases q : op = 90
  · rw [if_pos q] at e
    obtain ⟨⟨t, h1⟩, hp, he⟩ := Option.bind_eq_some_iff.1 e
    obtain ⟨⟨t2, h2⟩, hp2, he⟩ := Option.bind_eq_some_iff.1 he
    obtain ⟨h3, hp3, he3⟩ := Option.map_eq_some_iff.1 he
    cases he3
    have g := (singleO_grow hp).1.trans ((singleO_grow hp2).1.trans (pushO_grow hp3))
    refine ⟨g.1, fun hb => ?_⟩
    have b2 := ((pushO_grow hp3).2 hb).1
    have b1 := ((singleO_grow hp2).1.2 b2).1
    have e1 := (singleO_grow hp).2 b1
    have e2 := (singleO_grow hp2).2 b2
    obtain ⟨q1, q2⟩ := g.2 hb
    simp only [wide_cons, wide_nil, e1, e2] at q2
    exact ⟨q1, by omega⟩
  rw [if_neg q] at e
  by_cases q : op = 95
  · rw [if_pos q] at e
    obtain ⟨⟨t, h1⟩, hp, he⟩ := Option.bind_eq_some_iff.1 e
    obtain ⟨⟨t2, h2⟩, hp2, he⟩ := Option.bind_eq_some_iff.1 he
    obtain ⟨h3, hp3, he3⟩ := Option.map_eq_some_iff.1 he
    cases he3
    have g := (singleO_grow hp).1.trans ((singleO_grow hp2).1.trans (pushO_grow hp3))
    refine ⟨g.1, fun hb => ?_⟩
    have b2 := ((pushO_grow hp3).2 hb).1
    have b1 := ((singleO_grow hp2).1.2 b2).1
    have e1 := (singleO_grow hp).2 b1
    have e2 := (singleO_grow hp2).2 b2
    obtain ⟨q1, q2⟩ := g.2 hb
    simp only [wide_cons, wide_nil, e1, e2] at q2
    exact ⟨q1, by omega⟩
  rw [if_neg q] at e
  by_cases q : op = 92
  · rw [if_pos q] at e
    obtain ⟨⟨t, h1⟩, hp, he⟩ := Option.bind_eq_some_iff.1 e
    simp only at he
    split at he
    · rename_i hk
      obtain ⟨h3, hp3, he3⟩ := Option.map_eq_some_iff.1 he
      cases he3
      refine ((topO_grow hp).trans (pushO_grow hp3)).mono ?_
      simp only [wide_cons, wide_nil, wide1, hk, if_pos]
      omega
    · rename_i hk
      obtain ⟨⟨t2, h2⟩, hp2, he⟩ := Option.bind_eq_some_iff.1 he
      obtain ⟨h3, hp3, he3⟩ := Option.map_eq_some_iff.1 he
      cases he3
      have g := (topO_grow1 hp).trans ((singleO_grow hp2).1.trans (pushO_grow hp3))
      refine ⟨g.1, fun hb => ?_⟩
      have b2 := ((pushO_grow hp3).2 hb).1
      have e1 := wide1_single hk
      have e2 := (singleO_grow hp2).2 b2
      obtain ⟨q1, q2⟩ := g.2 hb
      simp only [wide_cons, wide_nil, e1, e2] at q2
      exact ⟨q1, by omega⟩
  rw [if_neg q] at e
  by_cases q : op = 50
  · rw [if_pos q] at e
    obtain ⟨h1, hp, he⟩ := Option.bind_eq_some_iff.1 e
    obtain ⟨⟨t2, h2⟩, hp2, he⟩ := Option.bind_eq_some_iff.1 he
    obtain ⟨h3, hp3, he3⟩ := Option.map_eq_some_iff.1 he
    cases he3
    exact ((pop1_grow hp).trans ((elemsO_grow hp2).trans (pushO_grow hp3))).mono (by have := one_le2 t2; simp only; omega)
  rw [if_neg q] at e
  by_cases q : op = 83
  · rw [if_pos q] at e
    obtain ⟨⟨t1, h1⟩, hp, he⟩ := Option.bind_eq_some_iff.1 e
    obtain ⟨h2, hp2, he⟩ := Option.bind_eq_some_iff.1 he
    obtain ⟨⟨t3, h3⟩, hp3, he3⟩ := Option.map_eq_some_iff.1 he
    cases he3
    exact ((refO_grow hp).trans ((pop1_grow hp2).trans (elemsO_grow hp3))).mono (by omega)
  rw [if_neg q] at e
  by_cases q : op = 190
  · rw [if_pos q] at e
    obtain ⟨⟨t1, h1⟩, hp, he⟩ := Option.bind_eq_some_iff.1 e
    obtain ⟨h2, hp2, he2⟩ := Option.map_eq_some_iff.1 he
    cases he2
    exact ((elemsO_grow hp).trans (pushO_grow hp2)).mono (by have := one_le2 tI; omega)
  rw [if_neg q] at e
  cases e; exact (Grow.refl h).mono (by omega)

theorem constH_grow (p : List AEntry) (k tag : Int) (h : AHand) : Grow 0 h (constH p k tag h).2 := (Grow.refl h).must _
theorem classH_grow {p : List AEntry} {k : Int} {h h' : AHand} {s : Str} (e : classH p k h = some (s, h')) : Grow 0 h h' := by
  unfold classH at e
  split at e
  · cases e; exact (constH_grow _ _ _ _).must _
  · cases e
theorem kindH_grow {s : Str} {h h' : AHand} {t : ATy} (e : kindH s h = some (t, h')) : Grow 0 h h' := by
  unfold kindH at e
  split at e
  · cases e; exact (Grow.refl h).must _
  · cases e
theorem answersO_grow {op : Int} {back : ATy} {h h' : AHand} {b : Bool} (e : answersO op back h = some (b, h')) : Grow 2 h h' := by
  unfold answersO at e
  split at e
  · cases e; exact ((Grow.refl h).must _).mono (by omega)
  split at e
  · obtain ⟨h1, hp, he⟩ := Option.map_eq_some_iff.1 e
    cases he
    exact (((Grow.refl h).must _).trans (pop1_grow hp)).mono (by omega)
  · cases e; exact (Grow.refl h).mono (by omega)
theorem Grow.loc {k : Int} {h h' : AHand} (g : Grow k h h') : h'.loc.length = h.loc.length := g.1
theorem boundO_grow {p : List AEntry} {op a : Int} {h h' : AHand} {b : Bool} (e : boundO p op a h = some (b, h')) : h'.loc.length = h.loc.length ∧ (h'.bad = false → h.bad = false) ∧ (op = 182 ∨ op = 183 ∨ op = 184 ∨ Grow 2 h h') := by
  have fin : ∀ {h'' : AHand}, Grow 2 h h'' → h''.loc.length = h.loc.length ∧ (h''.bad = false → h.bad = false) ∧ (op = 182 ∨ op = 183 ∨ op = 184 ∨ Grow 2 h h'') := fun g => ⟨g.1, fun hb => (g.2 hb).1, .inr (.inr (.inr g))⟩
  unfold boundO at e
  by_cases q : op = 18
  · rw [if_pos q] at e
    obtain ⟨h1, hp, he⟩ := Option.map_eq_some_iff.1 e
    cases he
    exact fin (((constH_grow _ _ _ _).trans (pushO_grow hp)).mono (by have := one_le2 tI; omega))
  rw [if_neg q] at e
  by_cases q : op = 20
  · rw [if_pos q] at e
    obtain ⟨h1, hp, he⟩ := Option.map_eq_some_iff.1 e
    cases he
    exact fin (((constH_grow _ _ _ _).trans (pushO_grow hp)).mono (by have := one_le2 tJ; omega))
  rw [if_neg q] at e
  by_cases q : op = 178
  · rw [if_pos q] at e
    obtain ⟨⟨t, h1⟩, hp, he⟩ := Option.bind_eq_some_iff.1 e
    obtain ⟨h2, hp2, he2⟩ := Option.map_eq_some_iff.1 he
    cases he2
    exact fin (((constH_grow _ _ _ _).trans ((kindH_grow hp).trans (pushO_grow hp2))).mono (by have := one_le2 t; simp only; omega))
  rw [if_neg q] at e
  by_cases q : op = 179
  · rw [if_pos q] at e
    obtain ⟨⟨t, h1⟩, hp, he⟩ := Option.bind_eq_some_iff.1 e
    obtain ⟨h2, hp2, he2⟩ := Option.map_eq_some_iff.1 he
    cases he2
    exact fin (((constH_grow _ _ _ _).trans ((kindH_grow hp).trans (pop1_grow hp2))).mono (by omega))
  rw [if_neg q] at e
  by_cases q : op = 180
  · rw [if_pos q] at e
    obtain ⟨⟨t, h1⟩, hp, he⟩ := Option.bind_eq_some_iff.1 e
    obtain ⟨h2, hp2, he⟩ := Option.bind_eq_some_iff.1 he
    obtain ⟨h3, hp3, he3⟩ := Option.map_eq_some_iff.1 he
    cases he3
    exact fin (((constH_grow _ _ _ _).trans ((kindH_grow hp).trans ((pop1_grow hp2).trans (pushO_grow hp3)))).mono (by have := one_le2 t; simp only; omega))
  rw [if_neg q] at e
  by_cases q : op = 181
  · rw [if_pos q] at e
    obtain ⟨⟨t, h1⟩, hp, he⟩ := Option.bind_eq_some_iff.1 e
    obtain ⟨h2, hp2, he⟩ := Option.bind_eq_some_iff.1 he
    obtain ⟨h3, hp3, he3⟩ := Option.map_eq_some_iff.1 he
    cases he3
    exact fin (((constH_grow _ _ _ _).trans ((kindH_grow hp).trans ((pop1_grow hp2).trans (pop1_grow hp3)))).mono (by omega))
  rw [if_neg q] at e
  by_cases hop : op = 182 ∨ op = 183 ∨ op = 184
  · rw [if_pos hop] at e
    split at e
    · obtain ⟨h1, hp, he⟩ := Option.bind_eq_some_iff.1 e
      obtain ⟨h2, hp2, he⟩ := Option.bind_eq_some_iff.1 he
      obtain ⟨h3, hp3, he3⟩ := Option.map_eq_some_iff.1 he
      cases he3
      have g1 : Grow 0 h h1 := (((constH_grow _ _ _ _).must _).trans (popR_grow hp)).mono (by omega)
      have g2 : Grow 0 h1 h2 := by
        split at hp2
        · cases hp2; exact Grow.refl _
        · exact (pop1_grow hp2).mono (by omega)
      have g3 : Grow 2 h2 h' := by
        split at hp3
        · cases hp3; exact (Grow.refl _).mono (by omega)
        · exact (pushO_grow hp3).mono (one_le2 _)
      have g := g1.trans (g2.trans g3)
      exact ⟨g.1, fun hb => (g.2 hb).1, by rcases hop with h | h | h <;> simp [h]⟩
    · cases e
  rw [if_neg hop] at e
  by_cases q : op = 187
  · rw [if_pos q] at e
    obtain ⟨⟨s, h1⟩, hp, he⟩ := Option.bind_eq_some_iff.1 e
    obtain ⟨⟨t, h2⟩, hp2, he⟩ := Option.bind_eq_some_iff.1 he
    obtain ⟨h3, hp3, he3⟩ := Option.map_eq_some_iff.1 he
    cases he3
    exact fin (((classH_grow hp).must _).trans ((kindH_grow hp2).trans (pushO_grow hp3)) |>.mono (by have := one_le2 t; simp only; omega))
  rw [if_neg q] at e
  by_cases q : op = 188
  · rw [if_pos q] at e
    obtain ⟨h1, hp, he⟩ := Option.bind_eq_some_iff.1 e
    obtain ⟨h2, hp2, he2⟩ := Option.map_eq_some_iff.1 he
    cases he2
    exact fin ((((pop1_grow hp).must _).trans (pushO_grow hp2)).mono (by have := one_le2 (letterT (if a = 8 then 98 else if a = 10 then 105 else if a = 11 then 106 else 0)); omega))
  rw [if_neg q] at e
  by_cases q : op = 189
  · rw [if_pos q] at e
    obtain ⟨h1, hp, he⟩ := Option.bind_eq_some_iff.1 e
    obtain ⟨⟨s, h2⟩, hp2, he⟩ := Option.bind_eq_some_iff.1 he
    obtain ⟨⟨t, h3⟩, hp3, he⟩ := Option.bind_eq_some_iff.1 he
    obtain ⟨h4, hp4, he4⟩ := Option.map_eq_some_iff.1 he
    cases he4
    exact fin (((pop1_grow hp).trans ((classH_grow hp2).trans ((kindH_grow hp3).trans (pushO_grow hp4)))).mono (by have := one_le2 t; simp only; omega))
  rw [if_neg q] at e
  by_cases q : op = 192
  · rw [if_pos q] at e
    obtain ⟨⟨t1, h1⟩, hp, he⟩ := Option.bind_eq_some_iff.1 e
    obtain ⟨⟨s, h2⟩, hp2, he⟩ := Option.bind_eq_some_iff.1 he
    obtain ⟨⟨t, h3⟩, hp3, he⟩ := Option.bind_eq_some_iff.1 he
    obtain ⟨h4, hp4, he4⟩ := Option.map_eq_some_iff.1 he
    cases he4
    exact fin (((refO_grow hp).trans ((classH_grow hp2).trans ((kindH_grow hp3).trans (pushO_grow hp4)))).mono (by have := one_le2 t; simp only; omega))
  rw [if_neg q] at e
  by_cases q : op = 193
  · rw [if_pos q] at e
    obtain ⟨⟨s, h1⟩, hp, he⟩ := Option.bind_eq_some_iff.1 e
    obtain ⟨h2, hp2, he2⟩ := Option.map_eq_some_iff.1 he
    cases he2
    exact fin (((classH_grow hp).trans (doesO_grow (by decide) hp2)).mono (by omega))
  rw [if_neg q] at e
  cases e; exact fin ((Grow.refl h).mono (by omega))

/-- it says true -/
def AllTrue (o : Option (Bool × AHand)) : Prop := ∀ b k, o = some (b, k) → b = true
theorem AllTrue.map {α : Type} (o : Option α) (f : α → AHand) : AllTrue (o.map fun x => (true, f x)) := fun b k h => by
  obtain ⟨x, _, e⟩ := Option.map_eq_some_iff.1 h
  cases e; rfl
theorem AllTrue.bind {α : Type} (o : Option α) {f : α → Option (Bool × AHand)} (hf : ∀ x, AllTrue (f x)) : AllTrue (o.bind f) := fun b k h => by
  obtain ⟨x, _, e⟩ := Option.bind_eq_some_iff.1 h
  exact hf x b k e
theorem AllTrue.ite {c : Prop} [Decidable c] {x y : Option (Bool × AHand)} (hx : AllTrue x) (hy : AllTrue y) : AllTrue (if c then x else y) := by split <;> assumption
theorem AllTrue.some (h : AHand) : AllTrue (some (true, h)) := fun b k e => by cases e; rfl
/-- it says true, or leaves all as it was -/
def Dich (h : AHand) (o : Option (Bool × AHand)) : Prop := o = some (false, h) ∨ AllTrue o
theorem Dich.ite {h : AHand} {c : Prop} [Decidable c] {x y : Option (Bool × AHand)} (hx : Dich h x) (hy : Dich h y) : Dich h (if c then x else y) := by split <;> assumption
theorem movesO_dich (op a : Int) (h : AHand) : Dich h (movesO op a h) := by
  unfold movesO
  repeat' (first
    | exact .inl rfl
    | refine Dich.ite ?_ ?_
    | (refine .inr ?_
       repeat' (first | exact AllTrue.some _ | exact AllTrue.map _ _ | (refine AllTrue.bind _ fun _ => ?_) | refine AllTrue.ite ?_ ?_)))
theorem movesO_false {op a : Int} {h k : AHand} (e : movesO op a h = some (false, k)) : k = h := by
  rcases movesO_dich op a h with h1 | h1
  · rw [h1] at e; cases e; rfl
  · cases h1 _ _ e
theorem answersO_false {op : Int} {back : ATy} {h k : AHand} (e : answersO op back h = some (false, k)) : k = h := by
  have no : ∀ {o : Option (Bool × AHand)}, AllTrue o → o = some (false, k) → False := fun h1 h2 => by cases h1 _ _ h2
  unfold answersO at e
  split at e
  · cases e
  · split at e
    · exact (no (AllTrue.map _ _) e).elim
    · cases e; rfl
theorem plainO_call {op a : Int} (h : (plainO op a).1 = 182 ∨ (plainO op a).1 = 183 ∨ (plainO op a).1 = 184) : 182 ≤ op ∧ op ≤ 184 := by
  unfold plainO at h
  repeat' (split at h)
  all_goals first | (simp only at h; omega)
/-- ShapeSizes, plainly -/
theorem stepO_sizes {cl : List AClass} {p : List AEntry} {back : ATy} {i : AInstr} {f : AFrame} {most : Int} {x : AFrame} {e : Int} (h : stepO cl p back i f most = some (x, e)) :
    (e ≠ 0 → x = ⟨[], []⟩) ∧ (e = 0 → x.locals.length = f.locals.length ∧ wide x.stack ≤ most ∧ (wide x.stack ≤ wide f.stack + 2 ∨ (182 ≤ i.op ∧ i.op ≤ 184))) := by
  unfold stepO at h
  obtain ⟨h1, hh, he⟩ := Option.bind_eq_some_iff.1 h
  split at he
  · cases he; exact ⟨fun _ => rfl, fun e => by cases e⟩
  · rename_i hb
    simp only [Bool.not_eq_true] at hb
    split at he
    · split at he
      · cases he; exact ⟨fun _ => rfl, fun e => by cases e⟩
      · rename_i hm
        cases he
        refine ⟨fun h => absurd rfl h, fun _ => ?_⟩
        unfold handO at hh
        split at hh
        · rename_i ef hef
          have g := doesO_grow (effectT_wide hef) hh
          exact ⟨g.1, by simp only; omega, .inl (g.2 hb).2⟩
        · obtain ⟨⟨b1, k1⟩, q1, hh⟩ := Option.bind_eq_some_iff.1 hh
          have g1 := movesO_grow q1
          simp only at hh
          split at hh
          · cases hh; exact ⟨g1.1, by simp only; omega, .inl (g1.2 hb).2⟩
          · rename_i hb1
            have hb1' : b1 = false := by simpa using hb1
            subst hb1'
            have := movesO_false q1
            subst this
            obtain ⟨⟨b2, k2⟩, q2, hh⟩ := Option.bind_eq_some_iff.1 hh
            have g2 := answersO_grow q2
            simp only at hh
            split at hh
            · cases hh; exact ⟨g2.1, by simp only; omega, .inl (g2.2 hb).2⟩
            · rename_i hb2
              have hb2' : b2 = false := by simpa using hb2
              subst hb2'
              have := answersO_false q2
              subst this
              obtain ⟨⟨b3, k3⟩, q3, hh⟩ := Option.map_eq_some_iff.1 hh
              obtain ⟨g3, _, g4⟩ := boundO_grow q3
              simp only at hh
              split at hh
              · subst hh
                refine ⟨g3, by simp only; omega, ?_⟩
                rcases g4 with g | g | g | g
                · exact .inr (plainO_call (.inl g))
                · exact .inr (plainO_call (.inr (.inl g)))
                · exact .inr (plainO_call (.inr (.inr g)))
                · exact .inl (g.2 hb).2
              · subst hh
                cases hb
    · cases he
end Go.Proofs.YtollfopbmbjnhaaDoor.Lift
namespace Go.Proofs.YtollfopbmbjnhaaDoor.Lift
open Go

/-- a name that is not too long -/
def NameOk (x : ATy) : Prop := x.name.length ≤ 1099511500000
/-- a hand that is not too large -/
structure HB (n : Nat) (h : AHand) : Prop where
  cl : h.cl.length < 1099511627776
  stk : h.stk.length ≤ n
  loc : h.loc.length < 1099511627776
  nstk : ∀ x ∈ h.stk, NameOk x
  nloc : ∀ x ∈ h.loc, NameOk x
theorem HB.mono {n m : Nat} {h : AHand} (b : HB n h) (hm : n ≤ m) : HB m h := ⟨b.cl, Nat.le_trans b.stk hm, b.loc, b.nstk, b.nloc⟩
theorem HB.must {n : Nat} {h : AHand} (b : HB n h) (c : Bool) : HB n (mustT c h) := ⟨b.cl, b.stk, b.loc, b.nstk, b.nloc⟩
theorem HB.isBad {n : Nat} {h : AHand} (b : HB n h) : HB n { h with bad := true } := ⟨b.cl, b.stk, b.loc, b.nstk, b.nloc⟩
theorem nameOk_none : NameOk ⟨0, []⟩ := by unfold NameOk; simp
theorem nameOk_tI : NameOk tI := by unfold NameOk tI; simp
theorem nameOk_tJ : NameOk tJ := by unfold NameOk tJ; simp
theorem topO_ok {n : Nat} {h : AHand} (b : HB n h) (hn : n < 1099511627776) : ∃ t h', topO h = some (t, h') ∧ HB n h' ∧ NameOk t := by
  unfold topO
  have := b.stk
  rw [if_pos (by omega)]
  cases hl : h.stk.getLast? with
  | none => exact ⟨_, _, rfl, b.isBad, nameOk_none⟩
  | some x =>
    refine ⟨_, _, rfl, ⟨b.cl, ?_, b.loc, fun y hy => b.nstk y (List.dropLast_subset _ hy), b.nloc⟩, b.nstk x (List.mem_of_getLast? hl)⟩
    simp only [List.length_dropLast]
    omega
theorem pushO_ok {n : Nat} {h : AHand} {l : List ATy} (b : HB n h) (hl : ∀ x ∈ l, NameOk x) (hn : n + l.length < 1099511627776) : ∃ h', pushO l h = some h' ∧ HB (n + l.length) h' := by
  unfold pushO
  have := b.stk
  rw [if_pos (by omega)]
  refine ⟨_, rfl, b.cl, ?_, b.loc, fun y hy => ?_, b.nloc⟩
  · simp only [List.length_append]; omega
  · rcases List.mem_append.1 hy with h | h
    · exact b.nstk y h
    · exact hl y h
theorem refO_ok {n : Nat} {h : AHand} (b : HB n h) (hn : n < 1099511627776) : ∃ t h', refO h = some (t, h') ∧ HB n h' ∧ NameOk t := by
  obtain ⟨t, h', e, b', ht⟩ := topO_ok b hn
  exact ⟨t, mustT (decide (t.kind = 3) || decide (t.kind = 4)) h', by simp only [refO, e, Option.map_some], b'.must _, ht⟩
theorem singleO_ok {n : Nat} {h : AHand} (b : HB n h) (hn : n < 1099511627776) : ∃ t h', singleO h = some (t, h') ∧ HB n h' ∧ NameOk t := by
  obtain ⟨t, h', e, b', ht⟩ := topO_ok b hn
  exact ⟨t, mustT (decide (t.kind ≠ 2)) h', by simp only [singleO, e, Option.map_some], b'.must _, ht⟩
theorem gMayT_ok {l : List AClass} {x y : ATy} (hl : l.length < 1099511627776) (hx : NameOk x) (hy : NameOk y) : gMayT l x y = some (may l x y) := by
  unfold gMayT
  unfold NameOk at hx hy
  rw [if_pos ⟨hl, by omega, by omega⟩]
theorem pop1_ok {n : Nat} {h : AHand} {x : ATy} (b : HB n h) (hx : NameOk x) (hn : n < 1099511627776) : ∃ h', pop1 x h = some h' ∧ HB n h' := by
  obtain ⟨t, h', e, b', ht⟩ := topO_ok b hn
  exact ⟨mustT (may h'.cl t x) h', by simp only [pop1, e, Option.bind_some, gMayT_ok b'.cl ht hx, Option.map_some], b'.must _⟩
theorem popR_ok {n : Nat} (hn : n < 1099511627776) : ∀ {l : List ATy} {h : AHand}, HB n h → (∀ x ∈ l, NameOk x) → ∃ h', popR l h = some h' ∧ HB n h'
  | [], h, b, _ => ⟨h, rfl, b⟩
  | x :: r, h, b, hl => by
    obtain ⟨h1, e1, b1⟩ := pop1_ok b (hl x (by simp)) hn
    obtain ⟨h2, e2, b2⟩ := popR_ok (l := r) hn b1 (fun y hy => hl y (List.mem_cons_of_mem _ hy))
    exact ⟨h2, by simp only [popR, e1, Option.bind_some, e2], b2⟩
theorem pushR_ok : ∀ {l : List ATy} {n : Nat} {h : AHand}, HB n h → (∀ x ∈ l, NameOk x) → n + l.length < 1099511627776 → ∃ h', pushR l h = some h' ∧ HB (n + l.length) h'
  | [], n, h, b, _, _ => ⟨h, rfl, b⟩
  | x :: r, n, h, b, hl, hn => by
    simp only [List.length_cons] at hn
    obtain ⟨h1, e1, b1⟩ := pushO_ok (l := [x]) b (fun y hy => hl y (by simp at hy; simp [hy])) (by simp; omega)
    obtain ⟨h2, e2, b2⟩ := pushR_ok (l := r) b1 (fun y hy => hl y (List.mem_cons_of_mem _ hy)) (by simp; omega)
    exact ⟨h2, by simp only [pushR, e1, Option.bind_some, e2], b2.mono (by simp; omega)⟩
theorem elem_name (x : ATy) (hx : NameOk x) : NameOk (elem x).1 := by
  unfold NameOk at *
  unfold elem
  split
  · rename_i h
    split
    · simp
    · have h1 := tyOf_len ((print x).1.drop 1)
      have h2 : x.name = (print x).1 := congrArg ATy.name (print_array (x := x) (t := (print x).1) (by rw [← h.1]) h.2)
      rw [← h2] at h1 ⊢
      simp at h1 ⊢
      omega
  · simp
theorem elemsO_ok {n : Nat} {will : ATy → Bool} {h : AHand} (b : HB n h) (hn : n < 1099511627776) : ∃ t h', elemsO will h = some (t, h') ∧ HB n h' ∧ NameOk t := by
  obtain ⟨t, h', e, b', ht⟩ := refO_ok b hn
  unfold elemsO
  rw [e, Option.bind_some]
  simp only
  split
  · exact ⟨_, _, rfl, b', ht⟩
  · have : t.name.length < 1099511600000 := by unfold NameOk at ht; omega
    rw [if_pos this]
    exact ⟨_, _, rfl, b'.must _, elem_name t ht⟩
theorem letterT_ok (c : Int) : NameOk (letterT c) := by
  unfold letterT NameOk
  repeat' split
  all_goals simp
theorem lettersT_ok (s : Str) : ∀ x ∈ lettersT s, NameOk x := fun x hx => by
  obtain ⟨c, _, rfl⟩ := List.mem_map.1 hx
  exact letterT_ok _
theorem localT_ok {n : Nat} {will : ATy → Bool} {k : Int} {h : AHand} (b : HB n h) : HB n (localT will k h).2 ∧ NameOk (localT will k h).1 := by
  unfold localT
  split
  · rename_i hc
    refine ⟨b, ?_⟩
    rw [List.getD_eq_getElem?_getD, List.getElem?_eq_getElem (by omega)]
    exact b.nloc _ (List.getElem_mem _)
  · exact ⟨b.isBad, nameOk_none⟩
theorem setL_mem {k : Nat} {x y : ATy} {l : List ATy} (h : y ∈ setL k x l) : y = x ∨ y = ⟨0, []⟩ ∨ y ∈ l := by
  have set : ∀ {l : List ATy} {k : Nat} {z : ATy}, y ∈ l.set k z → y = z ∨ y ∈ l := fun h => (List.mem_or_eq_of_mem_set h).symm
  unfold setL at h
  simp only at h
  have h2 : y ∈ (if 0 < k ∧ (l.getD (k - 1) ⟨0, []⟩).kind = 2 then l.set (k - 1) ⟨0, []⟩ else l).set k x ∨ y = ⟨0, []⟩ := by
    split at h
    · rcases set h with h | h
      · exact .inr h
      · exact .inl h
    · exact .inl h
  rcases h2 with h2 | h2
  · rcases set h2 with h2 | h2
    · exact .inl h2
    · split at h2
      · rcases set h2 with h2 | h2
        · exact .inr (.inl h2)
        · exact .inr (.inr h2)
      · exact .inr (.inr h2)
  · exact .inr (.inl h2)
theorem putO_ok {n : Nat} {k : Int} {x : ATy} {h : AHand} (b : HB n h) (hx : NameOk x) : ∃ h', putO k x h = some h' ∧ HB n h' := by
  unfold putO
  rw [if_pos b.loc]
  refine ⟨_, rfl, ?_⟩
  split
  · exact b.isBad
  · refine ⟨b.cl, b.stk, by simp only [setL_length]; exact b.loc, b.nstk, fun y hy => ?_⟩
    rcases setL_mem hy with rfl | rfl | hy
    · exact hx
    · exact nameOk_none
    · exact b.nloc y hy
theorem doesO_ok {n : Nat} {pops pushes : Str} {h : AHand} (b : HB n h) (hn : n + pushes.length < 1099511627776) : ∃ h', doesO pops pushes h = some h' ∧ HB (n + pushes.length) h' := by
  have h1 : ∃ h1, popsO pops h = some h1 ∧ HB n h1 := by
    unfold popsO
    by_cases hq : pops.getLast? = some 82
    · rw [if_pos hq]
      obtain ⟨t, h', e, b', _⟩ := refO_ok b (by omega)
      rw [e, Option.bind_some]
      by_cases hr : pops.dropLast = []
      · rw [if_pos hr]; exact ⟨_, rfl, b'⟩
      · rw [if_neg hr]
        obtain ⟨t2, h2, e2, b2, _⟩ := refO_ok b' (by omega)
        exact ⟨h2, by simp only [e2, Option.map_some], b2⟩
    · rw [if_neg hq]
      exact popR_ok (by omega) b (lettersT_ok _)
  obtain ⟨h1, e1, b1⟩ := h1
  obtain ⟨h2, e2, b2⟩ := pushR_ok (l := lettersT pushes) b1 (lettersT_ok _) (by simpa [lettersT] using hn)
  refine ⟨h2, ?_, by simpa [lettersT] using b2⟩
  unfold doesO
  rw [e1, Option.bind_some, e2]

theorem putO_ok' {n : Nat} {k : Int} {x : ATy} {h : AHand} (b : HB n h) (hx : NameOk x) : ∃ h', (putO k x h).map (fun h => (true, h)) = some (true, h') ∧ HB n h' := by
  obtain ⟨h', e, b'⟩ := putO_ok (k := k) b hx
  exact ⟨h', by rw [e]; rfl, b'⟩
/-- what is pushed at an instruction's end -/
theorem pushB_ok {n m : Nat} {h : AHand} {l : List ATy} (b : HB n h) (hl : ∀ x ∈ l, NameOk x) (hm : n + l.length ≤ m) (hn : m < 1099511627776) : ∃ r, (pushO l h).map (fun h => (true, h)) = some r ∧ HB m r.2 := by
  obtain ⟨h', e, b'⟩ := pushO_ok b hl (by omega)
  exact ⟨(true, h'), by rw [e]; rfl, b'.mono hm⟩
theorem all2 {x y : ATy} (hx : NameOk x) (hy : NameOk y) : ∀ w ∈ [x, y], NameOk w := fun w hw => by
  simp only [List.mem_cons, List.not_mem_nil, or_false] at hw
  rcases hw with e | e <;> rw [e] <;> assumption
theorem all3 {x y z : ATy} (hx : NameOk x) (hy : NameOk y) (hz : NameOk z) : ∀ w ∈ [x, y, z], NameOk w := fun w hw => by
  simp only [List.mem_cons, List.not_mem_nil, or_false] at hw
  rcases hw with e | e | e <;> rw [e] <;> assumption
theorem all4 {x y z v : ATy} (hx : NameOk x) (hy : NameOk y) (hz : NameOk z) (hv : NameOk v) : ∀ w ∈ [x, y, z, v], NameOk w := fun w hw => by
  simp only [List.mem_cons, List.not_mem_nil, or_false] at hw
  rcases hw with e | e | e | e <;> rw [e] <;> assumption
theorem all1 {x : ATy} (hx : NameOk x) : ∀ y ∈ [x], NameOk y := fun y hy => by simp at hy; rw [hy]; exact hx

theorem movesO_ok {n : Nat} {op a : Int} {h : AHand} (b : HB n h) (hn : n + 4 < 1099511627776) : ∃ r, movesO op a h = some r ∧ HB (n + 4) r.2 := by
  unfold movesO
  have hn' : n < 1099511627776 := by omega
  by_cases h1 : op = 21
  · rw [if_pos h1]
    have := localT_ok (will := fun x => decide (x = tI)) (k := a) b
    exact pushB_ok this.1 (all1 this.2) (by simp) hn
  rw [if_neg h1]
  by_cases h1 : op = 22
  · rw [if_pos h1]
    have := localT_ok (will := fun x => decide (x = tJ)) (k := a) b
    exact pushB_ok this.1 (all1 this.2) (by simp) hn
  rw [if_neg h1]
  by_cases h1 : op = 25
  · rw [if_pos h1]
    have := localT_ok (will := fun x => decide (x.kind = 4) || decide (x.kind = 3)) (k := a) b
    exact pushB_ok this.1 (all1 this.2) (by simp) hn
  rw [if_neg h1]
  by_cases h1 : op = 132
  · rw [if_pos h1]
    exact ⟨_, rfl, (localT_ok b).1.mono (by omega)⟩
  rw [if_neg h1]
  by_cases h1 : op = 54
  · rw [if_pos h1]
    obtain ⟨h1, e1, b1⟩ := pop1_ok b nameOk_tI hn'
    rw [e1, Option.bind_some]
    obtain ⟨h2, e2, b2⟩ := putO_ok' (k := a) b1 nameOk_tI
    exact ⟨_, e2, b2.mono (by omega)⟩
  rw [if_neg h1]
  by_cases h1 : op = 55
  · rw [if_pos h1]
    obtain ⟨h1, e1, b1⟩ := pop1_ok b nameOk_tJ hn'
    rw [e1, Option.bind_some]
    obtain ⟨h2, e2, b2⟩ := putO_ok' (k := a) b1 nameOk_tJ
    exact ⟨_, e2, b2.mono (by omega)⟩
  rw [if_neg h1]
  by_cases h1 : op = 58
  · rw [if_pos h1]
    obtain ⟨t, h1, e1, b1, q1⟩ := refO_ok b hn'
    rw [e1, Option.bind_some]
    obtain ⟨h2, e2, b2⟩ := putO_ok' (k := a) b1 q1
    exact ⟨_, e2, b2.mono (by omega)⟩
  rw [if_neg h1]
  by_cases h1 : op = 87
  · rw [if_pos h1]
    obtain ⟨t, h1, e1, b1, q1⟩ := singleO_ok b hn'
    rw [e1]
    exact ⟨_, rfl, b1.mono (by omega)⟩
  rw [if_neg h1]
  by_cases h1 : op = 88
  · rw [if_pos h1]
    obtain ⟨t, h1, e1, b1, q1⟩ := topO_ok b hn'
    rw [e1, Option.bind_some]
    by_cases h2 : t.kind = 2
    · simp only [h2, if_true]
      exact ⟨_, rfl, b1.mono (by omega)⟩
    · simp only [h2, if_false]
      obtain ⟨t, h1, e1, b1, q1⟩ := singleO_ok b1 hn'
      rw [e1]
      exact ⟨_, rfl, b1.mono (by omega)⟩
  rw [if_neg h1]
  by_cases h1 : op = 89
  · rw [if_pos h1]
    obtain ⟨t, h1, e1, b1, q1⟩ := singleO_ok b hn'
    rw [e1, Option.bind_some]
    exact pushB_ok b1 (all2 q1 q1) (by simp) hn
  rw [if_neg h1]
  by_cases h1 : op = 90
  · rw [if_pos h1]
    obtain ⟨t, h1, e1, b1, q1⟩ := singleO_ok b hn'
    rw [e1, Option.bind_some]
    obtain ⟨t2, h2, e2, b2, q2⟩ := singleO_ok b1 hn'
    simp only [e2, Option.bind_some]
    exact pushB_ok b2 (all3 q1 q2 q1) (by simp) hn
  rw [if_neg h1]
  by_cases h1 : op = 95
  · rw [if_pos h1]
    obtain ⟨t, h1, e1, b1, q1⟩ := singleO_ok b hn'
    rw [e1, Option.bind_some]
    obtain ⟨t2, h2, e2, b2, q2⟩ := singleO_ok b1 hn'
    simp only [e2, Option.bind_some]
    exact pushB_ok b2 (all2 q1 q2) (by simp) hn
  rw [if_neg h1]
  by_cases h1 : op = 92
  · rw [if_pos h1]
    obtain ⟨t, h1, e1, b1, q1⟩ := topO_ok b hn'
    rw [e1, Option.bind_some]
    by_cases h2 : t.kind = 2
    · simp only [h2, if_true]
      exact pushB_ok b1 (all2 q1 q1) (by simp) hn
    · simp only [h2, if_false]
      obtain ⟨t2, h2, e2, b2, q2⟩ := singleO_ok b1 hn'
      simp only [e2, Option.bind_some]
      exact pushB_ok b2 (all4 q2 q1 q2 q1) (by simp) hn
  rw [if_neg h1]
  by_cases h1 : op = 50
  · rw [if_pos h1]
    obtain ⟨h1, e1, b1⟩ := pop1_ok b nameOk_tI hn'
    rw [e1, Option.bind_some]
    obtain ⟨t2, h2, e2, b2, q2⟩ := elemsO_ok (will := isRefT) b1 hn'
    simp only [e2, Option.bind_some]
    exact pushB_ok b2 (all1 q2) (by simp) hn
  rw [if_neg h1]
  by_cases h1 : op = 83
  · rw [if_pos h1]
    obtain ⟨t, h1, e1, b1, q1⟩ := refO_ok b hn'
    rw [e1, Option.bind_some]
    obtain ⟨h2, e2, b2⟩ := pop1_ok b1 nameOk_tI hn'
    simp only [e2, Option.bind_some]
    obtain ⟨t3, h3, e3, b3, q3⟩ := elemsO_ok (will := isRefT) b2 hn'
    simp only [e3]
    exact ⟨_, rfl, b3.mono (by omega)⟩
  rw [if_neg h1]
  by_cases h1 : op = 190
  · rw [if_pos h1]
    obtain ⟨t2, h2, e2, b2, q2⟩ := elemsO_ok (will := fun _ => true) b hn'
    simp only [e2, Option.bind_some]
    exact pushB_ok b2 (all1 nameOk_tI) (by simp) hn
  rw [if_neg h1]
  exact ⟨_, rfl, b.mono (by omega)⟩

/-- which entries of a right pool are right -/
theorem fits_of_check {p : List AEntry} (h : checkPool p = 0) : ∀ i, i < p.length → (p.getD i noEntry).tag ≠ 0 → 1 ≤ i → fitsE p i = true := by
  unfold checkPool at h
  split at h
  · cases h
  split at h
  · rename_i h0 hs
    intro i
    induction i with
    | zero => intro _ _ h1; omega
    | succ i ih =>
      intro hi ht _
      have hsi := hs (i + 1) hi (by omega)
      unfold sits at hsi
      simp only [Nat.add_sub_cancel, Bool.or_eq_true, decide_eq_true_eq] at hsi
      rcases hsi with h5 | h5
      · exfalso
        have hi1 : 1 ≤ i := by
          rcases Nat.eq_zero_or_pos i with rfl | hp
          · have : p.getD 0 noEntry = noEntry := Classical.byContradiction fun hc => h0 (.inr (.inr hc))
            rw [this] at h5
            cases h5
          · exact hp
        have hf := ih (by omega) (by rw [h5]; decide) hi1
        unfold fitsE fitsX at hf
        simp only [h5] at hf
        simp at hf
        apply ht
        rw [List.getD_eq_getElem?_getD, hf.2]
        rfl
      · exact h5
  · cases h
theorem entAt_tag {p : List AEntry} {i : Int} (h : tagAt p i ≠ 0) : 0 ≤ i ∧ i.toNat < p.length ∧ entAt p i = p.getD i.toNat noEntry := by
  unfold tagAt entAt at h
  unfold entAt
  split at h
  · exact absurd rfl h
  · rename_i hi
    refine ⟨by omega, ?_, by rw [if_neg hi]⟩
    apply Classical.byContradiction
    intro hl
    apply h
    rw [List.getD_eq_getElem?_getD, List.getElem?_eq_none (by omega)]
    rfl
theorem ent_fits {p : List AEntry} (hc : checkPool p = 0) {i : Int} (h : tagAt p i ≠ 0) : fitsX p i.toNat (entAt p i) = true := by
  obtain ⟨h0, h1, h2⟩ := entAt_tag h
  have ht : (p.getD i.toNat noEntry).tag ≠ 0 := by rw [← h2]; exact h
  rw [h2]
  refine fits_of_check hc _ h1 ht ?_
  rcases Nat.eq_zero_or_pos i.toNat with hz | hp
  · exfalso
    unfold checkPool at hc
    split at hc
    · cases hc
    · rename_i h3
      have : p.getD 0 noEntry = noEntry := Classical.byContradiction fun hq => h3 (.inr (.inr hq))
      rw [hz, this] at ht
      exact ht rfl
  · exact hp
theorem text_len {p : List AEntry} (hc : checkPool p = 0) {i : Int} (h : tagAt p i = 1) : (entAt p i).text.length ≤ 255 := by
  have hf := ent_fits hc (i := i) (by rw [h]; decide)
  have ht : (entAt p i).tag = 1 := h
  simp [fitsX, ht, rightT] at hf
  exact hf.2.1
theorem class_tag {p : List AEntry} (hc : checkPool p = 0) {i : Int} (h : tagAt p i = 7) : tagAt p (entAt p i).a = 1 := by
  have hf := ent_fits hc (i := i) (by rw [h]; decide)
  have ht : (entAt p i).tag = 7 := h
  simp [fitsX, ht] at hf
  exact hf.2
theorem name_tag {p : List AEntry} (hc : checkPool p = 0) {i : Int} (h : tagAt p i = 12) : tagAt p (entAt p i).a = 1 ∧ tagAt p (entAt p i).b = 1 := by
  have hf := ent_fits hc (i := i) (by rw [h]; decide)
  have ht : (entAt p i).tag = 12 := h
  simp [fitsX, ht] at hf
  exact hf.2
theorem ref_tag {p : List AEntry} (hc : checkPool p = 0) {i : Int} (h : tagAt p i = 9 ∨ tagAt p i = 10) : tagAt p (entAt p i).a = 7 ∧ tagAt p (entAt p i).b = 12 := by
  have hf := ent_fits hc (i := i) (by rcases h with h | h <;> rw [h] <;> decide)
  rcases h with h | h
  · have ht : (entAt p i).tag = 9 := h
    simp [fitsX, ht] at hf
    exact hf.2
  · have ht : (entAt p i).tag = 10 := h
    simp [fitsX, ht] at hf
    exact hf.2
/-- a constant's texts are short -/
theorem constT_len (p : List AEntry) (k : Int) : (constT p k).1.cls.length ≤ 255 ∧ (constT p k).1.name.length ≤ 255 ∧ (constT p k).1.type.length ≤ 255 := by
  have hm : checkPool p = 0 → (meanC p k).cls.length ≤ 255 ∧ (meanC p k).name.length ≤ 255 ∧ (meanC p k).type.length ≤ 255 := fun hc => by
    unfold meanC
    simp only
    split
    · simp
    split
    · rename_i h7
      exact ⟨text_len hc (class_tag hc h7), by simp, by simp⟩
    split
    · rename_i h9
      obtain ⟨h1, h2⟩ := ref_tag hc h9
      obtain ⟨h3, h4⟩ := name_tag hc h2
      exact ⟨text_len hc (class_tag hc h1), text_len hc h3, text_len hc h4⟩
    · simp [noConst]
  unfold constT
  split
  · rename_i hc
    split <;> exact hm hc
  · simp [noConst]
theorem constH_ok {n : Nat} {p : List AEntry} {k tag : Int} {h : AHand} (b : HB n h) : HB n (constH p k tag h).2 ∧ (constH p k tag h).1.cls.length ≤ 255 ∧ (constH p k tag h).1.type.length ≤ 255 := by
  unfold constH
  simp only
  refine ⟨b.must _, ?_⟩
  split
  · simp [noConst]
  · exact ⟨(constT_len p k).1, (constT_len p k).2.2⟩
theorem texty_len (x : ATy) : (texty x).length ≤ x.name.length + 2 := by
  unfold texty
  repeat' split
  all_goals simp
theorem print_len2 (x : ATy) : (print x).1.length ≤ x.name.length + 2 := by
  unfold print
  split
  · exact texty_len x
  · simp
theorem classH_ok {n : Nat} {p : List AEntry} {k : Int} {h : AHand} (b : HB n h) : ∃ s h', classH p k h = some (s, h') ∧ HB n h' ∧ s.length ≤ 257 := by
  obtain ⟨b1, l1, _⟩ := constH_ok (p := p) (k := k) (tag := 7) b
  unfold classH
  rw [if_pos (by omega)]
  refine ⟨_, _, rfl, b1.must _, ?_⟩
  have := print_len2 ⟨4, (constH p k 7 h).1.cls⟩
  simp only at this ⊢
  omega
theorem parse_name (s : Str) : (parse s).1.name.length ≤ s.length := by
  unfold parse
  split
  · simp
  · exact tyOf_len s
theorem kindH_ok {n : Nat} {s : Str} {h : AHand} (b : HB n h) (hs : s.length ≤ 1000) : ∃ t h', kindH s h = some (t, h') ∧ HB n h' ∧ NameOk t := by
  unfold kindH
  rw [if_pos (by omega)]
  exact ⟨_, _, rfl, b.must _, by have := parse_name s; unfold NameOk; omega⟩
theorem answersO_ok {n : Nat} {op : Int} {back : ATy} {h : AHand} (b : HB n h) (hb : NameOk back) (hn : n < 1099511627776) : ∃ r, answersO op back h = some r ∧ HB n r.2 := by
  unfold answersO
  split
  · exact ⟨_, rfl, b.must _⟩
  split
  · obtain ⟨h', e, b'⟩ := pop1_ok (b.must (decide (back.kind = if op = 172 then 1 else if op = 173 then 2 else 4) && (decide ((if op = 172 then 1 else if op = 173 then 2 else 4 : Int) = 4) || decide (back.name = [])))) hb hn
    simp only
    rw [e]
    exact ⟨_, rfl, b'⟩
  · exact ⟨_, rfl, b⟩
theorem typesOf_names : ∀ (n : Nat) (s : Str), s.length ≤ n → ∀ x ∈ (typesOf s).1, x.name.length ≤ s.length
  | 0, s, h, x, hx => by
    have : s = [] := List.length_eq_zero_iff.1 (by omega)
    subst this
    rw [typesOf_none rfl] at hx
    cases hx
  | n + 1, s, h, x, hx => by
    by_cases hd : descLen s 0 = 0
    · rw [typesOf_none hd] at hx; cases hx
    · rw [typesOf_some hd] at hx
      rcases List.mem_cons.1 hx with rfl | hx
      · have := tyOf_len (s.take (descLen s 0))
        simp at this ⊢
        omega
      · have h1 : 0 < s.length := List.length_pos_iff.2 (fun e => hd (by rw [e]; simp [descLen]))
        have := typesOf_names n (s.drop (descLen s 0)) (by simp; omega) x hx
        simp at this
        omega
theorem method_names (s : Str) : (∀ x ∈ (method s).1, x.name.length ≤ s.length) ∧ (method s).2.1.name.length ≤ s.length := by
  have h1 : ∀ x ∈ (typesOf (s.drop 1)).1, x.name.length ≤ s.length := fun x hx => by
    have := typesOf_names _ _ (Nat.le_refl _) x hx
    simp only [List.length_drop] at this
    omega
  have hl : (typesOf (s.drop 1)).2.length ≤ s.length := by
    have key : ∀ (n : Nat) (s : Str), s.length ≤ n → (typesOf s).2.length ≤ s.length := by
      intro n
      induction n with
      | zero =>
        intro s h
        have : s = [] := List.length_eq_zero_iff.1 (by omega)
        subst this
        rw [typesOf_none rfl]
        simp
      | succ n ih =>
        intro s h
        by_cases hd : descLen s 0 = 0
        · rw [typesOf_none hd]; exact Nat.le_refl _
        · rw [typesOf_some hd]
          have h1 : 0 < s.length := List.length_pos_iff.2 (fun e => hd (by rw [e]; simp [descLen]))
          have := ih (s.drop (descLen s 0)) (by simp; omega)
          simp at this ⊢
          omega
    have := key _ _ (Nat.le_refl (s.drop 1).length)
    simp only [List.length_drop] at this
    omega
  have h2 := parse_name ((typesOf (s.drop 1)).2.drop 1)
  simp only [List.length_drop] at h2
  unfold method
  split
  · simp only
    split
    · split
      · split
        · simp
        · exact ⟨h1, by simp⟩
      split
      · simp
      split
      · simp
      · exact ⟨h1, by simp only; omega⟩
    · simp
  · simp
theorem boundO_ok {n : Nat} {p : List AEntry} {op a : Int} {h : AHand} (b : HB n h) (hn : n + 4 < 1099511627776) : ∃ r, boundO p op a h = some r ∧ HB (n + 4) r.2 := by
  have hn' : n < 1099511627776 := by omega
  have cn : ∀ {tag : Int}, NameOk (namedT (constH p a tag h).1.cls) := fun {tag} => by
    have := (constH_ok (p := p) (k := a) (tag := tag) b).2.1
    unfold NameOk namedT
    simp only
    omega
  unfold boundO
  by_cases h1 : op = 18
  · rw [if_pos h1]
    exact pushB_ok (constH_ok b).1 (all1 nameOk_tI) (by simp) hn
  rw [if_neg h1]
  by_cases h1 : op = 20
  · rw [if_pos h1]
    exact pushB_ok (constH_ok b).1 (all1 nameOk_tJ) (by simp) hn
  rw [if_neg h1]
  by_cases h1 : op = 178
  · rw [if_pos h1]
    obtain ⟨c1, c2, c3⟩ := constH_ok (p := p) (k := a) (tag := 9) b
    obtain ⟨t, h1, e1, b1, q1⟩ := kindH_ok c1 (show (constH p a 9 h).1.type.length ≤ 1000 by omega)
    rw [e1, Option.bind_some]
    exact pushB_ok b1 (all1 q1) (by simp) hn
  rw [if_neg h1]
  by_cases h1 : op = 179
  · rw [if_pos h1]
    obtain ⟨c1, c2, c3⟩ := constH_ok (p := p) (k := a) (tag := 9) b
    obtain ⟨t, h1, e1, b1, q1⟩ := kindH_ok c1 (show (constH p a 9 h).1.type.length ≤ 1000 by omega)
    rw [e1, Option.bind_some]
    obtain ⟨h2, e2, b2⟩ := pop1_ok b1 q1 hn'
    simp only [e2]
    exact ⟨_, rfl, b2.mono (by omega)⟩
  rw [if_neg h1]
  by_cases h1 : op = 180
  · rw [if_pos h1]
    obtain ⟨c1, c2, c3⟩ := constH_ok (p := p) (k := a) (tag := 9) b
    obtain ⟨t, h1, e1, b1, q1⟩ := kindH_ok c1 (show (constH p a 9 h).1.type.length ≤ 1000 by omega)
    rw [e1, Option.bind_some]
    obtain ⟨h2, e2, b2⟩ := pop1_ok b1 (cn (tag := 9)) hn'
    simp only [e2, Option.bind_some]
    exact pushB_ok b2 (all1 q1) (by simp) hn
  rw [if_neg h1]
  by_cases h1 : op = 181
  · rw [if_pos h1]
    obtain ⟨c1, c2, c3⟩ := constH_ok (p := p) (k := a) (tag := 9) b
    obtain ⟨t, h1, e1, b1, q1⟩ := kindH_ok c1 (show (constH p a 9 h).1.type.length ≤ 1000 by omega)
    rw [e1, Option.bind_some]
    obtain ⟨h2, e2, b2⟩ := pop1_ok b1 q1 hn'
    simp only [e2, Option.bind_some]
    obtain ⟨h3, e3, b3⟩ := pop1_ok b2 (cn (tag := 9)) hn'
    simp only [e3]
    exact ⟨_, rfl, b3.mono (by omega)⟩
  rw [if_neg h1]
  by_cases h1 : op = 182 ∨ op = 183 ∨ op = 184
  · rw [if_pos h1]
    obtain ⟨c1, c2, c3⟩ := constH_ok (p := p) (k := a) (tag := 10) b
    rw [if_pos (by omega)]
    have hm := method_names (constH p a 10 h).1.type
    have hl1 : ∀ x ∈ (method (constH p a 10 h).1.type).1.reverse, NameOk x := fun x hx => by
      have := hm.1 x (List.mem_reverse.1 hx)
      unfold NameOk
      omega
    obtain ⟨h1, e1, b1⟩ := popR_ok hn' (c1.must (decide ((method (constH p a 10 h).1.type).2.2 = 0))) hl1
    simp only [popO, e1, Option.bind_some]
    have h2 : ∃ h2, (if op = 184 then some h1 else pop1 (namedT (constH p a 10 h).1.cls) h1) = some h2 ∧ HB n h2 := by
      split
      · exact ⟨_, rfl, b1⟩
      · exact pop1_ok b1 (cn (tag := 10)) hn'
    obtain ⟨h2, e2, b2⟩ := h2
    simp only [e2, Option.bind_some]
    split
    · exact ⟨_, rfl, b2.mono (by omega)⟩
    · exact pushB_ok b2 (all1 (by have := hm.2; unfold NameOk; omega)) (by simp) hn
  rw [if_neg h1]
  by_cases h1 : op = 187
  · rw [if_pos h1]
    obtain ⟨s, h1, e1, b1, l1⟩ := classH_ok (p := p) (k := a) b
    rw [e1, Option.bind_some]
    obtain ⟨t, h2, e2, b2, q2⟩ := kindH_ok (b1.must (decide (([76] : Str) <+: s))) (show s.length ≤ 1000 by omega)
    simp only [e2, Option.bind_some]
    exact pushB_ok b2 (all1 q2) (by simp) hn
  rw [if_neg h1]
  by_cases h1 : op = 188
  · rw [if_pos h1]
    obtain ⟨h1, e1, b1⟩ := pop1_ok b nameOk_tI hn'
    rw [e1, Option.bind_some]
    exact pushB_ok (b1.must _) (all1 (letterT_ok _)) (by simp) hn
  rw [if_neg h1]
  by_cases h1 : op = 189
  · rw [if_pos h1]
    obtain ⟨h1, e1, b1⟩ := pop1_ok b nameOk_tI hn'
    rw [e1, Option.bind_some]
    obtain ⟨s, h2, e2, b2, l2⟩ := classH_ok (p := p) (k := a) b1
    simp only [e2, Option.bind_some]
    obtain ⟨t, h3, e3, b3, q3⟩ := kindH_ok b2 (show (91 :: s).length ≤ 1000 by simp; omega)
    simp only [e3, Option.bind_some]
    exact pushB_ok b3 (all1 q3) (by simp) hn
  rw [if_neg h1]
  by_cases h1 : op = 192
  · rw [if_pos h1]
    obtain ⟨t1, h1, e1, b1, _⟩ := refO_ok b hn'
    rw [e1, Option.bind_some]
    obtain ⟨s, h2, e2, b2, l2⟩ := classH_ok (p := p) (k := a) b1
    simp only [e2, Option.bind_some]
    obtain ⟨t, h3, e3, b3, q3⟩ := kindH_ok b2 (show s.length ≤ 1000 by omega)
    simp only [e3, Option.bind_some]
    exact pushB_ok b3 (all1 q3) (by simp) hn
  rw [if_neg h1]
  by_cases h1 : op = 193
  · rw [if_pos h1]
    obtain ⟨s, h2, e2, b2, l2⟩ := classH_ok (p := p) (k := a) b
    rw [e2, Option.bind_some]
    obtain ⟨h3, e3, b3⟩ := doesO_ok (pops := [82]) (pushes := [73]) b2 (by simp; omega)
    simp only [e3]
    exact ⟨_, rfl, b3.mono (by simp)⟩
  rw [if_neg h1]
  exact ⟨_, rfl, b.mono (by omega)⟩
theorem effTab_len : ∀ e ∈ effTab, e.2.2.length ≤ 1 := by decide
theorem handO_ok {n : Nat} {p : List AEntry} {back : ATy} {op a : Int} {h : AHand} (b : HB n h) (hb : NameOk back) (hn : n + 8 < 1099511627776) : ∃ h', handO p back op a h = some h' ∧ HB (n + 8) h' := by
  unfold handO
  split
  · rename_i e he
    have hl : e.2.length ≤ 1 := by
      obtain ⟨x, hx, rfl⟩ := Option.map_eq_some_iff.1 he
      exact effTab_len x (List.mem_of_find?_eq_some hx)
    obtain ⟨h', e1, b1⟩ := doesO_ok (pops := e.1) (pushes := e.2) b (by omega)
    exact ⟨h', e1, b1.mono (by omega)⟩
  · obtain ⟨r1, e1, b1⟩ := movesO_ok (op := op) (a := a) b (by omega)
    rw [e1, Option.bind_some]
    split
    · exact ⟨_, rfl, b1.mono (by omega)⟩
    · obtain ⟨r2, e2, b2⟩ := answersO_ok (op := op) b1 hb (by omega)
      rw [e2, Option.bind_some]
      split
      · exact ⟨_, rfl, b2.mono (by omega)⟩
      · obtain ⟨r3, e3, b3⟩ := boundO_ok (p := p) (op := op) (a := a) b2 (by omega)
        rw [e3, Option.map_some]
        refine ⟨_, rfl, ?_⟩
        split
        · exact b3
        · exact b3.isBad
/-- a frame that is not too large -/
structure FrOk (n : Nat) (f : AFrame) : Prop where
  loc : f.locals.length < 1099511627776
  stk : f.stack.length ≤ n
  nloc : ∀ x ∈ f.locals, NameOk x
  nstk : ∀ x ∈ f.stack, NameOk x
theorem stepO_ok {n : Nat} {cl : List AClass} {p : List AEntry} {back : ATy} {i : AInstr} {f : AFrame} {most : Int} (hcl : cl.length < 1099511627776) (hb : NameOk back) (hf : FrOk n f) (hn : n + 8 < 1099511627776) :
    ∃ x e, stepO cl p back i f most = some (x, e) ∧ FrOk (n + 8) x := by
  obtain ⟨h', e, b⟩ := handO_ok (p := p) (back := back) (op := (plainT i).op) (a := (plainT i).a) (h := ⟨cl, f.locals, f.stack, false, 1, []⟩) (n := n) ⟨hcl, hf.stk, hf.loc, hf.nstk, hf.nloc⟩ hb hn
  have none : FrOk (n + 8) ⟨[], []⟩ := ⟨by simp, by simp, fun x hx => (by cases hx), fun x hx => (by cases hx)⟩
  unfold stepO
  rw [e, Option.bind_some]
  split
  · exact ⟨_, _, rfl, none⟩
  · have := b.stk
    rw [if_pos (by omega)]
    split
    · exact ⟨_, _, rfl, none⟩
    · exact ⟨_, _, rfl, b.loc, b.stk, b.nloc, b.nstk⟩
end Go.Proofs.YtollfopbmbjnhaaDoor.Lift
namespace Go.Proofs.YtollfopbmbjnhaaDoor.Lift
open Go
set_option maxRecDepth 100000

def willE (f : Nat) : Option (ATy → Bool) := if f = 37 then some isRefT else if f = 43 then some (fun _ => true) else none
def hElems (av : List AV) (_ : Sto) (h : AHand) : Option (AV × AHand) := match av with
  | [.fn (.func f) [] []] => (willE f).bind fun will => (elemsO will h).map fun r => (encTy r.1, r.2)
  | _ => none
theorem ok_elems : OkX Tryd.prog (XE [(37, liftS 9 (fn1 cTy encBool fun x => some (isRefT x))), (43, liftS 9 (fn1 cTy encBool fun _ => some true)), (52, liftS 9 (fn1 cTy encTyErr fun x => if x.name.length < 1099511600000 then some (elem x) else none)),
    (44, handS hMust), (30, handS hRef)]) := ((((okX_nil.add f_ref).add f_must).addP p_kindElem).addP p_anything).addP p_isRef
set_option maxHeartbeats 1000000 in
theorem f_elems : SoundF Tryd.prog gl 42 (handS hElems) := by
  refine hand_of_wk' ok_elems Tryd.func42 rfl rfl fun av q hh r h' hm => ?_
  unfold hElems at hm
  split at hm
  · rename_i f
    obtain ⟨will, hw, hm2⟩ := Option.bind_eq_some_iff.1 hm
    obtain ⟨⟨t, h1⟩, he, hr⟩ := Option.map_eq_some_iff.1 hm2
    clear hm hm2
    cases hr
    refine ⟨cTy.fz _, fun p0 p1 p2 p3 p4 hc G0 => ?_⟩
    unfold elemsO at he
    obtain ⟨⟨x, h2⟩, hx, he2⟩ := Option.bind_eq_some_iff.1 he
    simp only at he2
    by_cases h3 : x.kind = 3
    · rw [if_pos h3] at he2
      cases he2
      simp [Tryd.f42, entry, handS_eq, hRef, hx, h3]
    · rw [if_neg h3] at he2
      split at he2
      · rename_i hn
        cases he2
        cases hel : elem x with
        | mk y er =>
          by_cases her : er = 0
          · unfold willE at hw
            split at hw
            · rename_i e; subst e; cases hw
              simp [Tryd.f42, entry, handS_eq, hRef, hx, h3, hn, hel, her, hMust, isRefT]
            · split at hw
              · rename_i e; subst e; cases hw
                simp [Tryd.f42, entry, handS_eq, hRef, hx, h3, hn, hel, her, hMust]
              · cases hw
          · simp [Tryd.f42, entry, handS_eq, hRef, hx, h3, hn, hel, her, hMust]
      · cases he2
  · cases hm

@[simp high] theorem hs_set5 {p0 p1 p2 p3 p4 : ABlk} {h : AHand} {q : Sto} {l : List ATy} (hl : l.length = h.loc.length) : (handSto p0 p1 p2 p3 p4 h q).set 5 (.row 2 1 0 (l.map encTy)) = handSto p0 p1 p2 p3 p4 { h with loc := l } q := by
  unfold handSto
  simp [hl]
attribute [-simp] List.map_set
@[simp] theorem set_mkTy (l : List ATy) (i : Nat) (k : Int) (s : Str) : (l.map encTy).set i (.agg [.int .i64 k, .str s]) = (l.set i ⟨k, s⟩).map encTy := by rw [List.map_set]; rfl
/-- a list of types in the hand's locals is set -/
def hSet (av : List AV) (_ : Sto) (h : AHand) : Option (AV × AHand) := match av with
  | [.int .i64 k, x] => (decTy x).bind fun x => (putO k x h).map fun h' => (.tup [], h')
  | _ => none
theorem wide_single (x : ATy) : wide [x] = if x.kind = 2 then 2 else 1 := by
  rw [wide_one]
  unfold wide1
  split <;> rfl
theorem ok_set : OkX Tryd.prog (XE [(21, liftS 9 (fn1 (cL cTy) encInt fun l => if l.length < 1099511627776 then some (wide l) else none))]) := okX_nil.addP p_kindWide
set_option maxHeartbeats 1000000 in
theorem f_set : SoundF Tryd.prog gl 39 (handS hSet) := by
  refine hand_of_wk' (ok_set.b [8]) Tryd.func39 rfl rfl fun av q hh r h' hm => ?_
  unfold hSet at hm
  split at hm
  · rename_i k xv
    obtain ⟨⟨xk, xn⟩, hxv, hm2⟩ := Option.bind_eq_some_iff.1 hm
    have := cTy.ed _ _ hxv
    subst this
    generalize hxx : (⟨xk, xn⟩ : ATy) = x at *
    obtain ⟨h1, he, hr⟩ := Option.map_eq_some_iff.1 hm2
    clear hm hm2
    cases hr
    refine ⟨rfl, fun p0 p1 p2 p3 p4 hc G0 => ?_⟩
    unfold putO at he
    split at he
    · rename_i hl
      cases he
      have hwide : wide [x] = wide1 x := wide_one x
      have hw1 := wide1_pos x
      have hw2 := wide1_le x
      have hws := wrap_i64 (show (-9223372036854775808 : Int) ≤ (hh.loc.length : Int) - wide1 x by omega) (by omega)
      by_cases h0 : k < 0
      · simp [Tryd.f39, entry, h0, hwide]
        simp [handSto]
      · by_cases h2 : (hh.loc.length : Int) - wide1 x < k
        · simp [Tryd.f39, entry, h0, h2, hwide, hws]
          simp [handSto]
        · simp [Tryd.f39, entry, h0, h2, hwide, hws]
          obtain ⟨n, rfl⟩ : ∃ n : Nat, k = n := ⟨k.toNat, by omega⟩
          have hn : n < hh.loc.length := by omega
          have hx : hh.loc[n]? = some hh.loc[n] := List.getElem?_eq_getElem hn
          have hwk : (wide1 x : Int) = if x.kind = 2 then 2 else 1 := by unfold wide1; split <;> rfl
          subst hxx
          by_cases hk : xk = 2
          · subst hk
            rw [if_pos rfl] at hwk
            rw [hwk] at h2
            have hn1 : n + 1 < hh.loc.length := by omega
            have hw3 := wrap_i64 (show (-9223372036854775808 : Int) ≤ (n : Int) + 1 by omega) (by omega)
            have hnn : (0 : Int) ≤ (n : Int) + 1 := by omega
            have hn2 : ((n : Int) + 1).toNat = n + 1 := by omega
            have hn3 : ((n : Int) + 1 < hh.loc.length) = True := eq_true (by omega)
            cases n with
            | zero =>
              have hw4 : IntKind.wrap .i64 1 = 1 := by decide
              have hn4 : ((1 : Int) < hh.loc.length) = True := eq_true (by omega)
              simp [hwk]
              refine dk_of (by decide) ?_
              simp [hn]
              refine sd_of (by decide) ?_
              have hx1 : hh.loc[1]? = some (hh.loc[1]'(by omega)) := List.getElem?_eq_getElem (by omega)
              simp [hw4, hn4, hx1]
              simp [setL]
            | succ m =>
              have hm1 : m < hh.loc.length := by omega
              have hwm := wrap_i64 (show (-9223372036854775808 : Int) ≤ (m : Int) by omega) (by omega)
              have hm2 : ((m : Int) + 1 < hh.loc.length) = True := eq_true (by omega)
              have hpos : ((0 : Int) < (m : Int) + 1) = True := eq_true (by omega)
              have hge : ((0 : Int) ≤ (m : Int) + 1) = True := eq_true (by omega)
              have ht1 : ((m : Int) + 1).toNat = m + 1 := by omega
              have hx2 : hh.loc[m + 1 + 1]? = some (hh.loc[m + 1 + 1]'(by omega)) := List.getElem?_eq_getElem (by omega)
              have hx3 : (hh.loc.set m ⟨0, []⟩)[m + 1 + 1]? = some (hh.loc[m + 1 + 1]'(by omega)) := by rw [List.getElem?_set_ne (by omega)]; exact hx2
              simp at hw3 hn3 hnn hn2
              by_cases hp : hh.loc[m].kind = 2
              · simp [hwk, hpos, hwm, hm1, hp]
                refine dk_of (by decide) ?_
                simp [hm2, hge, ht1, hx]
                refine sd_of (by decide) ?_
                simp [hw3, hn3, hnn, hn2, hx3]
                simp [setL, hm1, hp]
              · simp [hwk, hpos, hwm, hm1, hp]
                refine dk_of (by decide) ?_
                simp [hm2, hge, ht1, hx]
                refine sd_of (by decide) ?_
                simp [hw3, hn3, hnn, hn2, hx2]
                simp [setL, hm1, hp]
          · rw [if_neg hk] at hwk
            cases n with
            | zero =>
              simp [hwk]
              refine dk_of (by decide) ?_
              simp [hn]
              refine sd_of (by decide) ?_
              simp
              simp [setL, hk]
            | succ m =>
              have hm1 : m < hh.loc.length := by omega
              have hwm := wrap_i64 (show (-9223372036854775808 : Int) ≤ (m : Int) by omega) (by omega)
              have hm2 : ((m : Int) + 1 < hh.loc.length) = True := eq_true (by omega)
              have hpos : ((0 : Int) < (m : Int) + 1) = True := eq_true (by omega)
              have hge : ((0 : Int) ≤ (m : Int) + 1) = True := eq_true (by omega)
              have ht1 : ((m : Int) + 1).toNat = m + 1 := by omega
              by_cases hp : hh.loc[m].kind = 2
              · simp [hwk, hpos, hwm, hm1, hp]
                refine dk_of (by decide) ?_
                simp [hm2, hge, ht1, hx]
                refine sd_of (by decide) ?_
                simp
                simp [setL, hm1, hp, hk]
              · simp [hwk, hpos, hwm, hm1, hp]
                refine dk_of (by decide) ?_
                simp [hm2, hge, ht1, hx]
                refine sd_of (by decide) ?_
                simp
                simp [setL, hm1, hp, hk]
    · cases he
  · cases hm
end Go.Proofs.YtollfopbmbjnhaaDoor.Lift
namespace Go.Proofs.YtollfopbmbjnhaaDoor.Lift
open Go
set_option maxRecDepth 100000

theorem p_small : SoundP Tryd.prog gl 87 (fn1 cInt encBool fun n => some (smallN n)) := by
  refine soundP_of_wk okX_nil mixed Tryd.func87 rfl rfl fun args r h G0 => ?_
  obtain ⟨n, e, rfl, he, rfl⟩ := fn1_inv h
  cases he
  simp [Tryd.f87, entry]
  exact finS_fz (by simp)
theorem p_right1 : SoundP Tryd.prog gl 95 (fn1 cRune encBool fun c => some (decide (c < 33) || decide (126 < c))) := by
  refine soundP_of_wk okX_nil mixed Tryd.func95 rfl rfl fun args r h G0 => ?_
  obtain ⟨c, e, rfl, he, rfl⟩ := fn1_inv h
  cases he
  by_cases h1 : c < 33
  · simp [Tryd.f95, entry, h1]
    exact finS_fz (by simp)
  · simp [Tryd.f95, entry, h1]
    exact finS_fz (by simp)
/-- a byte that may not stand in a pool's text -/
def badB (c : UInt8) : Bool := decide (c.toNat < 33) || decide (126 < c.toNat)
def badIdx (s : Str) : Int := if s.findIdx badB < s.length then s.findIdx badB else -1
theorem p_indexFunc : SoundP Tryd.prog gl 102 (fn3 cStr (cF0 95) cBool encInt fun s _ b => if b = true ∧ s.length < 1099511627776 then some (badIdx s) else none) := by
  have okx := okX_nil.addP p_right1
  refine soundP_of_wk okx mixed Tryd.func102 rfl rfl fun args r h G0 => ?_
  obtain ⟨s, u, b, e, rfl, he, rfl⟩ := fn3_inv h
  simp only [Option.ite_none_right_eq_some, Option.some.injEq] at he
  obtain ⟨⟨rfl, hs⟩, rfl⟩ := he
  simp [Tryd.f102, entry]
  refine lp_of okx mixed (fun (i : Nat) => ⟨21, frL [(1, .fn (.func 95) [] []), (2, .bool true), (6, .int .i64 0), (10, .ptr 0 0 0 0)], [.iter s i]⟩) (fun i => i ≤ s.length ∧ ∀ (j : Nat) (h : j < s.length), j < i → badB s[j] = false) (fun i => s.length - i) 0 (by simp) (weak_frL rfl rfl (by simp)) ?_
  intro i ⟨hi, hn⟩
  by_cases h3 : i < s.length
  · have hx : s[i]? = some s[i] := by simp [h3]
    by_cases hb : badB s[i] = true
    · have hidx : s.findIdx badB = i := by
        rw [List.findIdx_eq h3]
        exact ⟨hb, fun j hj => hn j (by omega) hj⟩
      have hres : badIdx s = i := by unfold badIdx; rw [hidx, if_pos h3]
      have hr : (decide (((runeAt s i).1 : Int) < 33) || decide (126 < ((runeAt s i).1 : Int))) = true := by
        by_cases hc : s[i].toNat < 128
        · rw [runeAt_ascii hx hc]
          simp only [badB, Bool.or_eq_true, decide_eq_true_eq] at hb ⊢
          omega
        · have := runeAt_big hx (by omega)
          simp only [Bool.or_eq_true, decide_eq_true_eq]
          omega
      simp [h3, hr, hres]
      exact finS_fz (by simp)
    · have hb' : badB s[i] = false := by simpa using hb
      have hc : 33 ≤ s[i].toNat ∧ s[i].toNat ≤ 126 := by
        simp only [badB, Bool.or_eq_false_iff, decide_eq_false_iff_not] at hb'
        omega
      have hra := runeAt_ascii hx (by omega)
      have n1 : ((s[i].toNat : Int) < 33) = False := eq_false (by omega)
      have n2 : (126 < (s[i].toNat : Int)) = False := eq_false (by omega)
      simp [h3, hra, n1, n2]
      refine nextQ_of (i + 1) ⟨h3, fun j hj hji => ?_⟩ (by omega) (weak_frL rfl rfl (by simp))
      by_cases hj2 : j = i
      · subst hj2; exact hb'
      · exact hn j hj (by omega)
  · have hres : badIdx s = -1 := by
      unfold badIdx
      rw [if_neg]
      intro hlt
      have := List.findIdx_getElem (w := hlt)
      rw [hn _ hlt (by omega)] at this
      cases this
    simp [h3, hres]
    exact finS_fz (by simp)
theorem p_IndexFuncS : SoundP Tryd.prog gl 99 (fn2 cStr (cF0 95) encInt fun s _ => if s.length < 1099511627776 then some (badIdx s) else none) := by
  refine soundP_of_wk (okX_nil.addP p_indexFunc) mixed Tryd.func99 rfl rfl fun args r h G0 => ?_
  obtain ⟨s, u, e, rfl, he, rfl⟩ := fn2_inv h
  simp only [Option.ite_none_right_eq_some, Option.some.injEq] at he
  obtain ⟨hs, rfl⟩ := he
  simp [Tryd.f99, entry, hs]
  exact finS_fz (by simp)
theorem badIdx_neg (s : Str) : (0 ≤ badIdx s) = ¬ goodT s = true := by
  unfold goodT
  have key : (s.all fun c => decide (33 ≤ c.toNat) && decide (c.toNat ≤ 126)) = true ↔ ¬ s.findIdx badB < s.length := by
    rw [List.all_eq_true]
    constructor
    · intro h hlt
      have h1 := List.findIdx_getElem (w := hlt)
      have h2 := h _ (List.getElem_mem hlt)
      simp only [badB, Bool.or_eq_true, Bool.and_eq_true, decide_eq_true_eq] at h1 h2
      omega
    · intro h c hc
      have : badB c = false := by
        cases hq : badB c with
        | false => rfl
        | true => exact absurd (List.findIdx_lt_length_of_exists ⟨c, hc, hq⟩) h
      simp only [badB, Bool.or_eq_false_iff, decide_eq_false_iff_not] at this
      simp only [Bool.and_eq_true, decide_eq_true_eq]
      omega
  unfold badIdx
  refine propext ⟨fun h h2 => ?_, fun h => ?_⟩
  · rw [if_neg (key.1 h2)] at h
    omega
  · by_cases hlt : s.findIdx badB < s.length
    · rw [if_pos hlt]; omega
    · exact absurd (key.2 hlt) h
theorem p_ContainsFuncS : SoundP Tryd.prog gl 94 (fn2 cStr (cF0 95) encBool fun s _ => if s.length < 1099511627776 then some (!goodT s) else none) := by
  refine soundP_of_wk (okX_nil.addP p_IndexFuncS) mixed Tryd.func94 rfl rfl fun args r h G0 => ?_
  obtain ⟨s, u, e, rfl, he, rfl⟩ := fn2_inv h
  simp only [Option.ite_none_right_eq_some, Option.some.injEq] at he
  obtain ⟨hs, rfl⟩ := he
  have hb := badIdx_neg s
  simp [Tryd.f94, entry, hs, hb]
  exact finS_fz (by simp)
theorem p_right : SoundP Tryd.prog gl 86 (fn1 cStr encBool fun s => some (rightT s)) := by
  refine soundP_of_wk (okX_nil.addP p_ContainsFuncS) mixed Tryd.func86 rfl rfl fun args r h G0 => ?_
  obtain ⟨s, e, rfl, he, rfl⟩ := fn1_inv h
  cases he
  by_cases h1 : s.length ≤ 255
  · have h2 : s.length < 1099511627776 := by omega
    have h3 : (s.length : Int) ≤ 255 := by omega
    simp [Tryd.f86, entry, h2, h3]
    refine finS_eq ?_ rfl
    simp [rightT, h1]
  · have h3 : ¬ (s.length : Int) ≤ 255 := by omega
    simp [Tryd.f86, entry, h3]
    refine finS_eq ?_ rfl
    simp [rightT, h1]
theorem p_tag : SoundP Tryd.prog gl 78 (fn2 (cL cEntry) cInt encInt fun p i => some (tagAt p i)) := by
  refine soundP_of_wk okX_nil mixed Tryd.func78 rfl rfl fun args r h G0 => ?_
  obtain ⟨p, i, e, rfl, he, rfl⟩ := fn2_inv h
  cases he
  by_cases h0 : i < 0
  · simp [Tryd.f78, entry, h0]
    exact finS_eq (by simp [tagAt, entAt, h0, noEntry]) (by simp)
  · by_cases h1 : (p.length : Int) ≤ i
    · simp [Tryd.f78, entry, h0, h1]
      have : p.length ≤ i.toNat := by omega
      exact finS_eq (by simp [tagAt, entAt, h0, noEntry, this]) (by simp)
    · have h2 : 0 ≤ i := by omega
      have h3 : i.toNat < p.length := by omega
      simp [Tryd.f78, entry, h0, h1, h2, h3]
      exact finS_eq (by simp [tagAt, entAt, h0, h3]) (by simp)
end Go.Proofs.YtollfopbmbjnhaaDoor.Lift
