/-
  K14: larchlaw10.KindReads and KindTells are true.
  K19: the reference's May; classes; larchlaw10.KindStands is true.
  K20: classes; larchlaw10.KindStands is true.
  K21: does going up end? what may stand for what is an order; larchlaw10.KindOrder is true.
  K22: larchlaw10.ends and KindOrder are as the plain law says.
  K23: larchlaw10.KindOrder is true.
  LIFT, Z: FROM A PURE CONTRACT TO A STATEMENT: a reading of the arguments stands behind the call, whatever else is spared.
  LIFT, Y: THE ARGUMENTS OF A STATEMENT, OPENED: what a reading reads is a typed value that lies there.
  LIFT, R: how the program's structs are read out of a statement's arguments.
-/
import Derived.Test.YtbjgepnkakcjaaaDoorQ6
import Derived.ChangeSame
import Derived.ChangeReads
import Derived.Below
import Derived.OpenShut
import Derived.RowKit
import Derived.ProofKit
import Derived.Test.YtbjgepnkakcjaaaDoorRows
import Derived.ChangeArms
import Derived.ChangeMaps5
import Derived.KernelRfl
namespace Go.Proofs.YtbjgepnkakcjaaaDoor.Lift
open Go
set_option maxRecDepth 100000

theorem typesOf_len : ∀ (n : Nat) (s : Str), s.length ≤ n → (typesOf s).1.length ≤ s.length := by
  intro n
  induction n with
  | zero =>
    intro s h
    have : s = [] := List.eq_nil_of_length_eq_zero (by omega)
    subst this
    rw [typesOf_none (by simp [descLen])]
    simp
  | succ n ih =>
    intro s h
    by_cases h0 : descLen s 0 = 0
    · rw [typesOf_none h0]; simp
    · have hle := descLen_le s 0
      have := ih (s.drop (descLen s 0)) (by simp; omega)
      rw [typesOf_some h0]
      simp at this ⊢
      omega
theorem method_len (s : Str) : (method s).1.length ≤ s.length := by
  have h := typesOf_len _ (s.drop 1) (Nat.le_refl _)
  simp only [List.length_drop] at h
  unfold method
  generalize typesOf (s.drop 1) = q at *
  split
  · dsimp only
    split
    · split
      · split <;> simp <;> omega
      · split
        · simp
        · split <;> simp <;> omega
    · simp
  · simp

theorem p_KindReads : SoundP Tryd.prog gl 3 (fn1 cStr encBool fun _ => some true) := by
  refine soundP_of_wk ((((((((okX_nil.addP p_works).addP p_refClass).addP p_kindClass).addP p_SameTypes).addP p_refMethod).addP p_kindMethod).addP p_refParse).addP p_kindParse) mixed Tryd.func3 rfl rfl fun args r h G0 => ?_
  obtain ⟨s, e, rfl, he, rfl⟩ := fn1_inv h
  cases he
  by_cases h1 : 2000 < s.length
  · have e1 : ((2000 : Int) < (s.length : Int)) = True := by simp; omega
    have hl : (s.take 2000).length = 2000 := by simp; omega
    have hle : 2000 ≤ s.length := by omega
    generalize hq : s.take 2000 = t at *
    cases hp : parse t with
    | mk a er =>
      obtain ⟨ak, an⟩ := a
      have hm := method_len t
      cases hq2 : method t with
      | mk l z =>
        obtain ⟨x, er2⟩ := z
        obtain ⟨xk, xn⟩ := x
        rw [hq2] at hm
        simp only at hm
        have hm' : l.length < 1099511627776 := by omega
        simp [Tryd.f3, entry, e1, hle, hq, hl, hp, hq2, hm']
        exact finS_fz (by simp)
  · have e1 : ((2000 : Int) < (s.length : Int)) = False := by simp; omega
    have hl : s.length < 1099511627776 := by omega
    cases hp : parse s with
    | mk a er =>
      obtain ⟨ak, an⟩ := a
      have hm := method_len s
      cases hq2 : method s with
      | mk l z =>
        obtain ⟨x, er2⟩ := z
        obtain ⟨xk, xn⟩ := x
        rw [hq2] at hm
        simp only at hm
        have hm' : l.length < 1099511627776 := by omega
        simp [Tryd.f3, entry, e1, hl, hp, hq2, hm']
        exact finS_fz (by simp)

theorem print_len {x : ATy} {t : Str} {er : Int} (h : print x = (t, er)) : t.length ≤ x.name.length + 2 := by
  rcases print_fst h with ⟨_, h⟩ | ⟨_, h⟩ <;> subst h
  · unfold texty
    split
    · simp
    · split
      · simp
      · split
        · split <;> simp
        · simp
  · simp

theorem p_KindTells : SoundP Tryd.prog gl 5 (fn2 cTy (cL cTy) encBool fun _ l => if l.length < 1099511627776 then some true else none) := by
  refine soundP_of_wk (((((((okX_nil.addP p_works).addP p_refWide).addP p_kindWide).addP p_refElem).addP p_kindElem).addP p_refPrint).addP p_kindPrint) mixed Tryd.func5 rfl rfl fun args r h G0 => ?_
  obtain ⟨x, l, e, rfl, he, rfl⟩ := fn2_inv h
  simp only [Option.ite_none_right_eq_some, Option.some.injEq] at he
  obtain ⟨hl, rfl⟩ := he
  obtain ⟨k, s⟩ := x
  have hb : l.length * 24 ≤ 140737488355328 := by omega
  by_cases h1 : 2000 < s.length
  · have e1 : ((2000 : Int) < (s.length : Int)) = True := by simp; omega
    have hl2 : (s.take 2000).length = 2000 := by simp; omega
    have hle : 2000 ≤ s.length := by omega
    generalize hq : s.take 2000 = t at *
    cases hp : print ⟨k, t⟩ with
    | mk a er =>
      cases hq2 : elem ⟨k, t⟩ with
      | mk c er2 =>
        obtain ⟨ck, cn⟩ := c
        simp [Tryd.f5, entry, e1, hle, hq, hl2, hp, hq2, hl, hb]
        exact finS_fz (by simp)
  · have e1 : ((2000 : Int) < (s.length : Int)) = False := by simp; omega
    have hs : s.length < 1099511600000 := by omega
    cases hp : print ⟨k, s⟩ with
    | mk a er =>
      cases hq2 : elem ⟨k, s⟩ with
      | mk c er2 =>
        obtain ⟨ck, cn⟩ := c
        simp [Tryd.f5, entry, e1, hs, hp, hq2, hl, hb]
        exact finS_fz (by simp)
end Go.Proofs.YtbjgepnkakcjaaaDoor.Lift
namespace Go.Proofs.YtbjgepnkakcjaaaDoor.Lift
open Go
set_option maxRecDepth 100000

theorem p_kindMay : SoundP Tryd.prog gl 28 (fn3 (cL cClass) cTy cTy encBool gMayT) := by
  refine soundP_rec (fun k => fn3 (cL cClass) cTy cTy encBool (gMay k)) (fun args => ?_) p_kindMay_step fun args r h => ?_
  · cases hq : fn3 (cL cClass) cTy cTy encBool (gMay 0) args with
    | none => rfl
    | some r =>
      obtain ⟨l, x, y, e, _, he, _⟩ := fn3_inv hq
      simp [gMay] at he
  · obtain ⟨l, x, y, e, rfl, he, rfl⟩ := fn3_inv h
    refine ⟨x.name.length + 1, ?_⟩
    unfold gMayT at he
    simp only [Option.ite_none_right_eq_some, Option.some.injEq] at he
    obtain ⟨⟨h1, h2, h3⟩, rfl⟩ := he
    simp [gMay, h1, h2, h3]

theorem p_refMay_step (k : Nat) (ih : SoundP Tryd.prog gl 29 (fn3 (cL cClass) cTy cTy encBool (gMay k))) : SoundP Tryd.prog gl 29 (fn3 (cL cClass) cTy cTy encBool (gMay (k + 1))) := by
  have okx := (((okX_nil.addP ih).addP p_refArray).addP p_refElem).addP p_refAbove
  refine soundP_of_wk okx mixed Tryd.func29 rfl rfl fun args r h G0 => ?_
  obtain ⟨l, x, y, e, rfl, he, rfl⟩ := fn3_inv h
  unfold gMay at he
  simp only [Option.ite_none_right_eq_some, Option.some.injEq] at he
  obtain ⟨⟨hk, hl, hx, hy⟩, rfl⟩ := he
  obtain ⟨kx, nx⟩ := x
  obtain ⟨ky, ny⟩ := y
  simp only at hk hx hy
  have hm := may_eq l ⟨kx, nx⟩ ⟨ky, ny⟩
  simp only [ATy.mk.injEq] at hm
  generalize may l ⟨kx, nx⟩ ⟨ky, ny⟩ = res at hm ⊢
  by_cases h0 : ky = 0
  · have hres : res = true := by rw [hm, if_pos (.inl h0)]
    subst hres
    simp [Tryd.f29, entry, h0]
    exact finS_fz (by simp)
  · by_cases hxy : kx = ky ∧ nx = ny
    · have hres : res = true := by rw [hm, if_pos (.inr (.inl hxy))]
      obtain ⟨rfl, rfl⟩ := hxy
      subst hres
      simp [Tryd.f29, entry, h0]
      exact finS_fz (by simp)
    · have hxy' : (decide (kx = ky) && decide (nx = ny)) = false := by rw [← Bool.decide_and]; simpa using hxy
      by_cases hy4 : ky = 4
      · by_cases h3 : kx = 3
        · have hres : res = true := by rw [hm, if_pos (.inr (.inr ⟨h3, hy4⟩))]
          subst hres hy4
          simp [Tryd.f29, entry, hxy', h3]
          exact finS_fz (by simp)
        · rw [if_neg (fun e => e.elim h0 fun e => e.elim hxy fun e => h3 e.1)] at hm
          subst hy4
          by_cases h4 : kx = 4
          · subst h4
            have hn : ¬ nx = ny := fun e => hxy ⟨rfl, e⟩
            rw [if_neg (by simp)] at hm
            unfold objName at hm
            by_cases ho : ny = [79, 98, 106, 101, 99, 116]
            · rw [if_pos ho] at hm
              subst hm ho
              simp [Tryd.f29, entry, hn]
              exact finS_fz (by simp)
            · rw [if_neg ho] at hm
              by_cases a1 : nx.head? = some 91
              · by_cases a2 : ny.head? = some 91
                · rw [if_pos ⟨a1, a2⟩] at hm
                  cases he1 : elem ⟨4, nx⟩ with
                  | mk a e1 =>
                    cases he2 : elem ⟨4, ny⟩ with
                    | mk b e2 =>
                      obtain ⟨ka, na⟩ := a
                      obtain ⟨kb, nb⟩ := b
                      rw [he1, he2] at hm
                      simp only at hm
                      have go : ∀ P : Prop, [Decidable P] → ¬ P → (e1 = 0 ∧ e2 = 0 ∧ ka = 4 ∧ kb = 4 → P) → res = false := fun P _ hP hi => by rw [hm, if_neg (fun h => hP (hi h))]
                      by_cases q1 : e1 = 0
                      · by_cases q2 : e2 = 0
                        · by_cases q3 : ka = 4
                          · by_cases q4 : kb = 4
                            · rw [if_pos ⟨q1, q2, q3, q4⟩] at hm
                              subst hm q1 q2 q3 q4
                              have l1 : na.length < nx.length := by
                                have := elem_lt (x := ⟨4, nx⟩) (by rw [he1]) a1
                                rw [he1] at this
                                exact this
                              have l2 : nb.length < ny.length := by
                                have := elem_lt (x := ⟨4, ny⟩) (by rw [he2]) a2
                                rw [he2] at this
                                exact this
                              have hg : gMay k l ⟨4, na⟩ ⟨4, nb⟩ = some (may l ⟨4, na⟩ ⟨4, nb⟩) := by
                                unfold gMay
                                exact if_pos ⟨by simp only; omega, hl, by simp only; omega, by simp only; omega⟩
                              simp [Tryd.f29, entry, hn, ho, a1, a2, hx, hy, he1, he2, hg]
                              exact finS_fz (by simp)
                            · have := go _ q4 (fun h => h.2.2.2)
                              subst this
                              simp [Tryd.f29, entry, hn, ho, a1, a2, hx, hy, he1, he2, q1, q2, q3, q4]
                              exact finS_fz (by simp)
                          · have := go _ q3 (fun h => h.2.2.1)
                            subst this
                            simp [Tryd.f29, entry, hn, ho, a1, a2, hx, hy, he1, he2, q1, q2, q3]
                            exact finS_fz (by simp)
                        · have := go _ q2 (fun h => h.2.1)
                          subst this
                          simp [Tryd.f29, entry, hn, ho, a1, a2, hx, hy, he1, he2, q1, q2]
                          exact finS_fz (by simp)
                      · have := go _ q1 (fun h => h.1)
                        subst this
                        simp [Tryd.f29, entry, hn, ho, a1, a2, hx, hy, he1, he2, q1]
                        exact finS_fz (by simp)
                · rw [if_neg (fun e => a2 e.2), if_pos (.inl a1)] at hm
                  subst hm
                  simp [Tryd.f29, entry, hn, ho, a1, a2]
                  exact finS_fz (by simp)
              · by_cases a2 : ny.head? = some 91
                · rw [if_neg (fun e => a1 e.1), if_pos (.inr a2)] at hm
                  subst hm
                  simp [Tryd.f29, entry, hn, ho, a1, a2]
                  exact finS_fz (by simp)
                · rw [if_neg (fun e => a1 e.1), if_neg (fun e => e.elim a1 a2)] at hm
                  subst hm
                  have hlen := aboveOf_le l [nx] nx
                  generalize hnames : aboveOf l [nx] nx = names at *
                  simp [Tryd.f29, entry, hn, ho, a1, a2, hl, hnames]
                  refine lp_of okx mixed (fun (i : Nat) => ⟨107, frL [(5, .ptr 1 0 0 0), (6, .bool false), (11, .sl (names.map .str)), (12, .int .i64 i)], [.row 2 0 0 [.agg [.int .i64 4, .str nx]], .row 2 0 0 [.agg [.int .i64 4, .str ny]]]⟩)
                    (fun i => i ≤ names.length ∧ ∀ (j : Nat) (h : j < names.length), j < i → ¬ names[j] = ny) (fun i => names.length - i) 0 (by simp) (weak_frL rfl rfl (by simp)) ?_
                  intro i ⟨hi, hni⟩
                  simp
                  refine br_dec (fun h6 => ?_) (fun h6 => ?_)
                  · have hxi : names[i]? = some names[i] := by simp [h6]
                    have hw := wrap_i64 (show (-9223372036854775808 : Int) ≤ (i : Int) + 1 by omega) (by omega)
                    simp
                    refine dk_of (by decide) ?_
                    simp [hxi]
                    refine br_dec (fun h7 => ?_) (fun h7 => ?_)
                    · have hin : ny ∈ names := by rw [← h7]; exact List.getElem_mem _
                      simp [hin]
                      exact finS_fz (by simp)
                    · simp [hw]
                      refine nextQ_of (i + 1) ⟨h6, fun j hj hji => ?_⟩ (by omega) (weak_frL rfl rfl (by simp))
                      rcases Nat.lt_or_ge j i with h8 | h8
                      · exact hni j hj h8
                      · have : j = i := by omega
                        subst this
                        exact h7
                  · have hnot : ny ∉ names := fun hm => by
                      obtain ⟨j, hj, e⟩ := List.getElem_of_mem hm
                      exact hni j hj (by omega) e
                    simp [hnot]
                    exact finS_fz (by simp)
          · rw [if_pos (.inl h4)] at hm
            subst hm
            simp [Tryd.f29, entry, hxy', h3, h4]
            exact finS_fz (by simp)
      · have hres : res = false := by rw [hm, if_neg (fun e => e.elim h0 fun e => e.elim hxy fun e => hy4 e.2), if_pos (.inr hy4)]
        subst hres
        by_cases h3 : kx = 3
        · subst h3
          simp [Tryd.f29, entry, h0, hxy', hy4]
          exact finS_fz (by simp)
        · by_cases h4 : kx = 4
          · subst h4
            simp [Tryd.f29, entry, h0, hxy', hy4]
            exact finS_fz (by simp)
          · simp [Tryd.f29, entry, h0, hxy', hy4, h3, h4]
            exact finS_fz (by simp)
theorem p_refMay : SoundP Tryd.prog gl 29 (fn3 (cL cClass) cTy cTy encBool gMayT) := by
  refine soundP_rec (fun k => fn3 (cL cClass) cTy cTy encBool (gMay k)) (fun args => ?_) p_refMay_step fun args r h => ?_
  · cases hq : fn3 (cL cClass) cTy cTy encBool (gMay 0) args with
    | none => rfl
    | some r =>
      obtain ⟨l, x, y, e, _, he, _⟩ := fn3_inv hq
      simp [gMay] at he
  · obtain ⟨l, x, y, e, rfl, he, rfl⟩ := fn3_inv h
    refine ⟨x.name.length + 1, ?_⟩
    unfold gMayT at he
    simp only [Option.ite_none_right_eq_some, Option.some.injEq] at he
    obtain ⟨⟨h1, h2, h3⟩, rfl⟩ := he
    simp [gMay, h1, h2, h3]
end Go.Proofs.YtbjgepnkakcjaaaDoor.Lift
namespace Go.Proofs.YtbjgepnkakcjaaaDoor.Lift
open Go
set_option maxRecDepth 100000

/-- a class without members -/
def bare (p : APair) : AClass := ⟨[], p.name, p.super, [], []⟩
def bareRaw (p : APair) : AV := .agg [.snil, .str p.name, .str p.super, .snil, .snil]
def classesOf (l : List APair) : List AClass := (l.take 40).map bare
theorem peek_bare (st : Sto) (l : List APair) : mapO (peek st 8) (l.map bareRaw) = some ((l.map bare).map encClass) := by
  induction l with
  | nil => rfl
  | cons p l ih =>
    simp only [List.map_cons, mapO, ih]
    simp [bareRaw, bare]
@[simp] theorem blwL_bare (k : Nat) : ∀ l : List APair, blwL k (l.map bareRaw) = true
  | [] => rfl
  | p :: l => by simp [blwL_bare k l, bareRaw]

theorem take_bare (i : Nat) (l : List APair) : List.take i (List.take i (l.map bareRaw)) = (l.take i).map bareRaw := by rw [List.take_take, Nat.min_self, List.map_take]
@[simp] theorem blwL_bare' (k i : Nat) (l : List APair) : blwL k (List.take i (l.map bareRaw)) = true := by rw [← List.map_take]; exact blwL_bare k _
theorem peek_bare' (st : Sto) (i : Nat) (l : List APair) : mapO (peek st 8) (List.take i (List.take i (l.map bareRaw))) = some (List.take i (l.map (encClass ∘ bare))) := by
  rw [take_bare, peek_bare, ← List.map_take, List.map_map]
theorem p_classes : SoundP Tryd.prog gl 24 (fn1 (cL cPair) (cL cClass).enc fun l => if l.length < 1099511627776 then some (classesOf l) else none) := by
  refine soundP_of_wk okX_nil mixed Tryd.func24 rfl rfl fun args r h G0 => ?_
  obtain ⟨l, e, rfl, he, rfl⟩ := fn1_inv h
  simp only [Option.ite_none_right_eq_some, Option.some.injEq] at he
  obtain ⟨hs, rfl⟩ := he
  simp [Tryd.f24, entry]
  refine lp_of okX_nil mixed (fun (i : Nat) => ⟨31, frL [(0, .sl (l.map encPair)), (3, .sr 0 i 0 i), (4, .int .i64 i)], [.row 5 i 0 ((l.take i).map bareRaw)]⟩) (fun i => i ≤ l.length ∧ i ≤ 40) (fun i => l.length - i) 0 (by simp) (weak_frL rfl rfl (by simp)) ?_
  intro i ⟨hi, hi40⟩
  have htl : min i l.length = i := by omega
  have endd : ¬ (i < l.length ∧ i < 40) → l.take 40 = l.take i := fun hn => by
    by_cases h1 : i < l.length
    · have : i = 40 := by omega
      rw [this]
    · rw [List.take_of_length_le (by omega), List.take_of_length_le (by omega)]
  by_cases h3 : i < l.length
  · by_cases h4 : i < 40
    · have hx : l[i]? = some l[i] := by simp [h3]
      have hw := wrap_i64 (show (-9223372036854775808 : Int) ≤ (i : Int) + 1 by omega) (by omega)
      have e1 : ((i : Int) < 40) = True := by simp; omega
      have hb : (i + 1) * 104 ≤ 140737488355328 := by omega
      simp [h3, e1]
      refine dk_of (by decide) ?_
      simp [hx]
      refine sd_of (by decide) ?_
      simp [hb, htl]
      refine sd_of (by decide) ?_
      simp [hw]
      have hstep : List.take i (List.take i (l.map bareRaw)) ++ [AV.agg [.snil, .str l[i].name, .str l[i].super, .snil, .snil]] = List.take (i + 1) (l.map bareRaw) := by
        rw [take_bare, ← List.map_take, List.take_succ_eq_append_getElem h3, List.map_append]
        rfl
      refine nextQ_less (i + 1) ⟨h3, h4⟩ (by omega) (less_take fz_gl G0.2 rfl (by simp [hstep]) (by simp) (by simp))
    · have e1 : ((i : Int) < 40) = False := by simp; omega
      simp [h3, e1]
      refine finS_of 9 ?_
      simp [htl, peek_bare', classesOf, endd (fun h => h4 h.2)]
  · simp [h3]
    refine finS_of 9 ?_
    simp [htl, peek_bare', classesOf, endd (fun h => h3 h.1)]

theorem p_KindStands : SoundP Tryd.prog gl 7 (fn3 (cL cPair) cTy cTy encBool fun l x y => if l.length < 1099511627776 ∧ x.name.length < 1099511600000 ∧ y.name.length < 1099511600000 then some true else none) := by
  refine soundP_of_wk (((((((okX_nil.addP p_works).addP p_refMay).addP p_kindMay).addP p_SameTexts).addP p_refAbove).addP p_Above).addP p_classes) mixed Tryd.func7 rfl rfl fun args r h G0 => ?_
  obtain ⟨l, x, y, e, rfl, he, rfl⟩ := fn3_inv h
  simp only [Option.ite_none_right_eq_some, Option.some.injEq] at he
  obtain ⟨⟨hl, hx, hy⟩, rfl⟩ := he
  obtain ⟨kx, nx⟩ := x
  obtain ⟨ky, ny⟩ := y
  simp only at hx hy
  have hc : (classesOf l).length < 1099511627776 := by simp [classesOf]; omega
  generalize hcl : classesOf l = c at *
  have hab := aboveOf_le c [nx] nx
  have hab' : (aboveOf c [nx] nx).length < 1099511627776 := by omega
  have hg : gMayT c ⟨kx, nx⟩ ⟨ky, ny⟩ = some (may c ⟨kx, nx⟩ ⟨ky, ny⟩) := by unfold gMayT; exact if_pos ⟨hc, hx, hy⟩
  simp [Tryd.f7, entry, hl, hcl]
  refine dk_of (by decide) ?_
  simp [hc, hab', hg]
  exact finS_fz (by simp)
end Go.Proofs.YtbjgepnkakcjaaaDoor.Lift
namespace Go.Proofs.YtbjgepnkakcjaaaDoor.Lift
open Go
set_option maxRecDepth 100000

/-- the last one of a chain -/
def lastOr : List Str → Str → Str
  | [], d => d
  | x :: r, _ => lastOr r x
theorem lastOr_eq (l : List Str) : ∀ d : Str, lastOr l d = (l[l.length - 1]?).getD d := by
  induction l with
  | nil => intro d; rfl
  | cons x r ih =>
    intro d
    rw [lastOr, ih]
    cases r with
    | nil => rfl
    | cons y r => simp
/-- where does going up from a class end? -/
def topOf (l : List AClass) (s : Str) : Str := lastOr (aboveOf l [s] s) s
/-- does going up end, from each class? -/
def endsOf (l : List AClass) : Bool := l.all fun c => decide (superOf l (topOf l c.name) = [])

/-- what is above by a chain that ends is above by each other that begins there -/
theorem above_sub (l : List AClass) : ∀ (n : Nat) (met : List Str) (s : Str), unmet l met ≤ n → superOf l (lastOr (aboveOf l met s) s) = [] → ∀ met' z, z ∈ aboveOf l met' s → z ∈ aboveOf l met s := by
  intro n
  induction n with
  | zero =>
    intro met s hn he met' z hz
    by_cases h1 : superOf l s = [] ∨ superOf l s ∈ met
    · rw [aboveOf_nil h1] at he ⊢
      have he' : superOf l s = [] := he
      rw [aboveOf_nil (.inl he')] at hz
      exact hz
    · have := unmet_lt (fun e => h1 (.inl e)) (fun e => h1 (.inr e)); omega
  | succ n ih =>
    intro met s hn he met' z hz
    by_cases h1 : superOf l s = [] ∨ superOf l s ∈ met
    · rw [aboveOf_nil h1] at he ⊢
      have he' : superOf l s = [] := he
      rw [aboveOf_nil (.inl he')] at hz
      exact hz
    · have hlt := unmet_lt (fun e => h1 (.inl e)) (fun e => h1 (.inr e))
      rw [aboveOf_cons (fun e => h1 (.inl e)) (fun e => h1 (.inr e))] at he ⊢
      by_cases h2 : superOf l s = [] ∨ superOf l s ∈ met'
      · rw [aboveOf_nil h2] at hz; cases hz
      · rw [aboveOf_cons (fun e => h2 (.inl e)) (fun e => h2 (.inr e))] at hz
        rcases List.mem_cons.1 hz with rfl | hz
        · exact List.mem_cons_self
        · exact List.mem_cons_of_mem _ (ih _ _ (by omega) he _ z hz)
theorem above_trans (l : List AClass) : ∀ (n : Nat) (met : List Str) (s : Str), unmet l met ≤ n → superOf l (lastOr (aboveOf l met s) s) = [] → ∀ y, y ∈ aboveOf l met s → ∀ met' z, z ∈ aboveOf l met' y → z ∈ aboveOf l met s := by
  intro n
  induction n with
  | zero =>
    intro met s hn he y hy met' z hz
    by_cases h1 : superOf l s = [] ∨ superOf l s ∈ met
    · rw [aboveOf_nil h1] at hy; cases hy
    · have := unmet_lt (fun e => h1 (.inl e)) (fun e => h1 (.inr e)); omega
  | succ n ih =>
    intro met s hn he y hy met' z hz
    by_cases h1 : superOf l s = [] ∨ superOf l s ∈ met
    · rw [aboveOf_nil h1] at hy; cases hy
    · have hlt := unmet_lt (fun e => h1 (.inl e)) (fun e => h1 (.inr e))
      rw [aboveOf_cons (fun e => h1 (.inl e)) (fun e => h1 (.inr e))] at he hy ⊢
      rcases List.mem_cons.1 hy with rfl | hy
      · exact List.mem_cons_of_mem _ (above_sub l _ _ _ (Nat.le_refl _) he _ z hz)
      · exact List.mem_cons_of_mem _ (ih _ _ (by omega) he y hy _ z hz)
theorem above_order {l : List AClass} (he : endsOf l = true) {x y z : Str} (hy : y ∈ aboveOf l [x] x) (hz : z ∈ aboveOf l [y] y) : z ∈ aboveOf l [x] x := by
  have hp : placeOf l x < l.length := by
    apply Classical.byContradiction
    intro h
    rw [aboveOf_nil (.inl (by simp [superOf, h]))] at hy
    cases hy
  have hn : l[placeOf l x].name = x := by
    have := List.findIdx_getElem (w := hp)
    exact of_decide_eq_true this
  have h1 := List.all_eq_true.1 he _ (List.getElem_mem hp)
  rw [hn] at h1
  exact above_trans l _ _ _ (Nat.le_refl _) (of_decide_eq_true h1) y hy _ z hz

theorem may_self (l : List AClass) (x : ATy) : may l x x = true := by rw [may_eq, if_pos (.inr (.inl rfl))]
theorem print_kind {x : ATy} (h : (print x).2 = 0) : x = ⟨1, []⟩ ∨ x = ⟨2, []⟩ ∨ x.kind = 4 := by
  rcases print_cases x with ⟨t, h1, h2⟩ | h1
  · obtain ⟨k, nm⟩ := x
    have ht : t = texty ⟨k, nm⟩ := by
      rcases print_fst h1 with ⟨_, e⟩ | ⟨e, _⟩
      · exact e
      · cases e
    by_cases k1 : k = 1
    · subst k1
      have : t = [73] := by rw [ht]; rfl
      subst this
      have e : parse [73] = (⟨1, []⟩, 0) := by decide
      rw [e] at h2
      cases h2
      exact .inl rfl
    · by_cases k2 : k = 2
      · subst k2
        have : t = [74] := by rw [ht]; rfl
        subst this
        have e : parse [74] = (⟨2, []⟩, 0) := by decide
        rw [e] at h2
        cases h2
        exact .inr (.inl rfl)
      · by_cases k4 : k = 4
        · exact .inr (.inr k4)
        · have : t = [] := by rw [ht]; simp [texty, k1, k2, k4]
          subst this
          have e : parse [] = (⟨0, []⟩, 100) := rfl
          rw [e] at h2
          cases h2
  · rw [h1] at h; cases h

/-- an array's elements can be told -/
theorem elem_print {x : ATy} (h : (elem x).2 = 0) : (print (elem x).1).2 = 0 := by
  unfold elem at h ⊢
  cases hq : print x with
  | mk t er =>
    rw [hq] at h
    simp only at h ⊢
    by_cases hc : er = 0 ∧ t.head? = some 91
    · rw [if_pos hc]
      obtain ⟨rfl, ha⟩ := hc
      have hx := print_array hq ha
      by_cases hB : t = [91, 66]
      · rw [if_pos hB]
        decide
      · rw [if_neg hB]
        have hp := print_ok hq
        rw [hx] at hp
        rw [print_parse (parse_tail hp ha hB)]
    · rw [if_neg hc] at h
      cases h

theorem objName_not : objName.head? ≠ some 91 := by decide
theorem may_trans {l : List AClass} (hO : superOf l objName = []) (he : endsOf l = true) : ∀ (n : Nat) (x y z : ATy), x.name.length < n → (print x).2 = 0 → (print y).2 = 0 → (print z).2 = 0 → may l x y = true → may l y z = true → may l x z = true := by
  intro n
  induction n with
  | zero =>
    intro x y z hn
    omega
  | succ n ih =>
    intro x y z hn px py pz h1 h2
    by_cases exy : x = y
    · subst exy; exact h2
    · by_cases eyz : y = z
      · subst eyz; exact h1
      · -- none is KTop or KNull: all three are references
        have nk : ∀ {w : ATy}, (print w).2 = 0 → w.kind ≠ 0 ∧ w.kind ≠ 3 := fun {w} hw => by
          rcases print_kind hw with rfl | rfl | h
          · simp
          · simp
          · rw [h]; simp
        rw [may_eq] at h1 h2
        rw [if_neg (fun h => h.elim (nk py).1 fun h => h.elim exy fun h => (nk px).2 h.1)] at h1
        rw [if_neg (fun h => h.elim (nk pz).1 fun h => h.elim eyz fun h => (nk py).2 h.1)] at h2
        by_cases k1 : x.kind ≠ 4 ∨ y.kind ≠ 4
        · rw [if_pos k1] at h1; cases h1
        · by_cases k2 : y.kind ≠ 4 ∨ z.kind ≠ 4
          · rw [if_pos k2] at h2; cases h2
          · rw [if_neg k1] at h1
            rw [if_neg k2] at h2
            have hx4 : x.kind = 4 := Classical.byContradiction fun h => k1 (.inl h)
            have hy4 : y.kind = 4 := Classical.byContradiction fun h => k1 (.inr h)
            have hz4 : z.kind = 4 := Classical.byContradiction fun h => k2 (.inr h)
            by_cases exz : x = z
            · subst exz; exact may_self l x
            · rw [may_eq, if_neg (fun h => h.elim (nk pz).1 fun h => h.elim exz fun h => (nk px).2 h.1), if_neg (fun h => h.elim (fun h => h hx4) fun h => h hz4)]
              by_cases oz : z.name = objName
              · rw [if_pos oz]
              · rw [if_neg oz] at h2 ⊢
                by_cases oy : y.name = objName
                · -- nothing is above Object
                  exfalso
                  rw [oy] at h2
                  rw [if_neg (fun h => objName_not h.1)] at h2
                  by_cases az : z.name.head? = some 91
                  · rw [if_pos (.inr az)] at h2; cases h2
                  · rw [if_neg (fun h => h.elim objName_not az), aboveOf_nil (.inl hO)] at h2
                    cases h2
                · rw [if_neg oy] at h1
                  by_cases ay : y.name.head? = some 91
                  · by_cases ax : x.name.head? = some 91
                    · by_cases az : z.name.head? = some 91
                      · rw [if_pos ⟨ax, ay⟩] at h1
                        rw [if_pos ⟨ay, az⟩] at h2
                        rw [if_pos ⟨ax, az⟩]
                        by_cases c1 : (elem x).2 = 0 ∧ (elem y).2 = 0 ∧ (elem x).1.kind = 4 ∧ (elem y).1.kind = 4
                        · by_cases c2 : (elem y).2 = 0 ∧ (elem z).2 = 0 ∧ (elem y).1.kind = 4 ∧ (elem z).1.kind = 4
                          · rw [if_pos c1] at h1
                            rw [if_pos c2] at h2
                            rw [if_pos ⟨c1.1, c2.2.1, c1.2.2.1, c2.2.2.2⟩]
                            have := elem_lt c1.1 ax
                            exact ih _ _ _ (by omega) (elem_print c1.1) (elem_print c1.2.1) (elem_print c2.2.1) h1 h2
                          · rw [if_neg c2] at h2; cases h2
                        · rw [if_neg c1] at h1; cases h1
                      · rw [if_neg (fun h => az h.2), if_pos (.inl ay)] at h2; cases h2
                    · rw [if_neg (fun h => ax h.1), if_pos (.inr ay)] at h1; cases h1
                  · by_cases ax : x.name.head? = some 91
                    · rw [if_neg (fun h => ay h.2), if_pos (.inl ax)] at h1; cases h1
                    · by_cases az : z.name.head? = some 91
                      · rw [if_neg (fun h => ay h.1), if_pos (.inr az)] at h2; cases h2
                      · rw [if_neg (fun h => ax h.1), if_neg (fun h => h.elim ax ay)] at h1
                        rw [if_neg (fun h => ay h.1), if_neg (fun h => h.elim ay az)] at h2
                        rw [if_neg (fun h => ax h.1), if_neg (fun h => h.elim ax az)]
                        exact decide_eq_true (above_order he (of_decide_eq_true h1) (of_decide_eq_true h2))
end Go.Proofs.YtbjgepnkakcjaaaDoor.Lift
namespace Go.Proofs.YtbjgepnkakcjaaaDoor.Lift
open Go
set_option maxRecDepth 100000

/-- is a class the first one of its name, ahead of a place? -/
def noneAhead (cs : List AClass) (s : Str) (j : Nat) : Bool := (cs.take j).all fun c => decide (¬ c.name = s)
theorem noneAhead_succ {cs : List AClass} {s : Str} {j : Nat} (h : j < cs.length) : noneAhead cs s (j + 1) = (noneAhead cs s j && decide (¬ cs[j].name = s)) := by
  unfold noneAhead
  rw [List.take_succ_eq_append_getElem h, List.all_append]
  simp
theorem noneAhead_spec {cs : List AClass} {s : Str} {k : Nat} (h : k < cs.length) (hk : cs[k].name = s) (hn : noneAhead cs s k = true) : superOf cs s = cs[k].super := by
  have hp : placeOf cs s = k := by
    unfold placeOf
    rw [List.findIdx_eq h]
    refine ⟨by simpa using hk, fun j hj => ?_⟩
    have hjl : j < cs.length := by omega
    have := List.all_eq_true.1 hn cs[j] (by
      have : cs[j] = (cs.take k)[j]'(by simp; omega) := by simp
      rw [this]
      exact List.getElem_mem _)
    simpa using this
  unfold superOf
  simp only [hp, h, dif_pos]
theorem super_of_none {cs : List AClass} {s : Str} (h : ∀ (k : Nat) (hk : k < cs.length), cs[k].name = s → noneAhead cs s k = true → cs[k].super = []) : superOf cs s = [] := by
  by_cases hp : placeOf cs s < cs.length
  · have e1 : cs[placeOf cs s].name = s := of_decide_eq_true (List.findIdx_getElem (w := hp))
    have e2 : noneAhead cs s (placeOf cs s) = true := by
      refine List.all_eq_true.2 fun c hc => ?_
      obtain ⟨j, hj, rfl⟩ := List.getElem_of_mem hc
      have hj' : j < placeOf cs s := by simp at hj; omega
      have := List.not_of_lt_findIdx (p := fun c => decide (c.name = s)) (xs := cs) hj'
      simpa using this
    have := h _ hp e1 e2
    unfold superOf
    rw [dif_pos hp]
    exact this
  · unfold superOf
    rw [dif_neg hp]

set_option maxHeartbeats 1000000 in
theorem p_ends : SoundP Tryd.prog gl 30 (fn1 (cL cClass) encBool fun l => if l.length < 1099511627776 then some (endsOf l) else none) := by
  have okx := okX_nil.addP p_Above
  refine soundP_of_wk okx mixed Tryd.func30 rfl rfl fun args r h G0 => ?_
  obtain ⟨cs, e, rfl, he, rfl⟩ := fn1_inv h
  simp only [Option.ite_none_right_eq_some, Option.some.injEq] at he
  obtain ⟨hs, rfl⟩ := he
  simp [Tryd.f30, entry]
  refine lp_of okx mixed (fun (i : Nat) => ⟨73, frL [(0, .sl (cs.map encClass)), (2, .bool false), (3, .int .i64 i)], []⟩) (fun i => i ≤ cs.length ∧ ∀ (j : Nat) (h : j < cs.length), j < i → superOf cs (topOf cs cs[j].name) = []) (fun i => cs.length - i) 0 (by simp) (weak_frL rfl rfl (by simp)) ?_
  intro i ⟨hi, hn⟩
  simp
  refine br_dec (fun h3 => ?_) (fun h3 => ?_)
  · have hx : cs[i]? = some cs[i] := by simp [h3]
    have hw := wrap_i64 (show (-9223372036854775808 : Int) ≤ (i : Int) + 1 by omega) (by omega)
    have hstop : ∀ {k : Nat} (hk : k < cs.length), cs[k].name = topOf cs cs[i].name → noneAhead cs (topOf cs cs[i].name) k = true → ¬ cs[k].super = [] → endsOf cs = false := fun {k} hk h1 h2 h4 => by
      cases hq : endsOf cs with
      | false => rfl
      | true =>
        have := of_decide_eq_true (List.all_eq_true.1 hq cs[i] (List.getElem_mem _))
        rw [noneAhead_spec hk h1 h2] at this
        exact absurd this h4
    have htop : topOf cs cs[i].name = ((aboveOf cs [cs[i].name] cs[i].name)[(aboveOf cs [cs[i].name] cs[i].name).length - 1]?).getD cs[i].name := lastOr_eq _ _
    have hlen := aboveOf_le cs [cs[i].name] cs[i].name
    generalize htp : topOf cs cs[i].name = top at *
    generalize hnm : aboveOf cs [cs[i].name] cs[i].name = names at *
    simp [hx, hs, hnm]
    refine br_dec (fun h4 => ?_) (fun h4 => ?_)
    · have hlt : names.length - 1 < names.length := by omega
      have hget : names[names.length - 1]? = some top := by
        rw [htop, List.getElem?_eq_getElem hlt]
        rfl
      have hwl : IntKind.wrap .i64 ((names.length : Int) - 1) = (names.length : Int) - 1 := wrap_i64 (by omega) (by omega)
      have hnat : ((names.length : Int) - 1).toNat = names.length - 1 := by omega
      have hpos : (0 ≤ (names.length : Int) - 1) = True := by simp; omega
      have hpos1 : (1 ≤ (names.length : Int)) = True := by simp; omega
      simp [hwl, hnat, hpos, hpos1, hget]
      refine lp_of okx mixed (fun (k : Nat) => ⟨73, frL [(0, .sl (cs.map encClass)), (2, .bool false), (3, .int .i64 i), (5, .str top), (6, .int .i64 k)], []⟩)
        (fun k => k ≤ cs.length ∧ ∀ (k' : Nat) (h : k' < cs.length), k' < k → cs[k'].name = top → noneAhead cs top k' = true → cs[k'].super = []) (fun k => cs.length - k) 0 (by simp) (weak_frL rfl rfl (by simp)) ?_
      intro k ⟨hk, hkn⟩
      simp
      refine br_dec (fun h5 => ?_) (fun h5 => ?_)
      · have hxk : cs[k]? = some cs[k] := by simp [h5]
        have hwk := wrap_i64 (show (-9223372036854775808 : Int) ≤ (k : Int) + 1 by omega) (by omega)
        have next : (cs[k].name = top → noneAhead cs top k = true → cs[k].super = []) → k + 1 ≤ cs.length ∧ ∀ (k' : Nat) (h : k' < cs.length), k' < k + 1 → cs[k'].name = top → noneAhead cs top k' = true → cs[k'].super = [] := fun hq => ⟨h5, fun k' hk' hlt => by
          rcases Nat.lt_or_ge k' k with h8 | h8
          · exact hkn k' hk' h8
          · have : k' = k := by omega
            subst this
            exact hq⟩
        by_cases h6 : cs[k].name = top
        · by_cases h7 : cs[k].super = []
          · simp [hxk, h6, h7, hwk]
            exact nextQ_of (k + 1) (next fun _ _ => h7) (by omega) (weak_frL rfl rfl (by simp))
          · simp [hxk, h6, h7]
            refine lp_of okx mixed (fun (j : Nat) => ⟨73, frL [(0, .sl (cs.map encClass)), (2, .bool false), (3, .int .i64 i), (5, .str top), (6, .int .i64 k), (7, .bool (noneAhead cs top j)), (8, .int .i64 j)], []⟩)
              (fun j => j ≤ k) (fun j => k - j) 0 (Nat.zero_le _) (weak_frL rfl rfl (by simp [noneAhead])) ?_
            intro j hj
            simp
            refine br_dec (fun h8 => ?_) (fun h8 => ?_)
            · have hjl : j < cs.length := by omega
              have hxj : cs[j]? = some cs[j] := by simp [hjl]
              have hwj := wrap_i64 (show (-9223372036854775808 : Int) ≤ (j : Int) + 1 by omega) (by omega)
              have hsucc := noneAhead_succ (s := top) hjl
              cases hf : noneAhead cs top j with
              | true =>
                rw [hf] at hsucc
                simp [hxj, hwj]
                exact nextQ_of (j + 1) h8 (by omega) (weak_frL rfl rfl (by simp [hsucc]))
              | false =>
                rw [hf] at hsucc
                simp [hwj]
                exact nextQ_of (j + 1) h8 (by omega) (weak_frL rfl rfl (by simp [hsucc]))
            · have : j = k := by omega
              subst this
              simp
              refine br_bool (fun h9 => ?_) (fun h9 => ?_)
              · have := hstop h5 h6 h9 h7
                simp [this]
                exact finS_fz (by simp)
              · simp [hwk]
                exact nextQ_of (j + 1) (next fun _ h => by rw [h9] at h; cases h) (by omega) (weak_frL rfl rfl (by simp))
        · simp [hxk, h6, hwk]
          exact nextQ_of (k + 1) (next fun h => absurd h h6) (by omega) (weak_frL rfl rfl (by simp))
      · have hk' : k = cs.length := by omega
        have htop0 : superOf cs top = [] := super_of_none fun k' hk' h1 h2 => hkn k' hk' (by omega) h1 h2
        simp [hw]
        refine nextQ_of (i + 1) ⟨h3, fun j hj hji => ?_⟩ (by omega) (weak_frL rfl rfl (by simp))
        rcases Nat.lt_or_ge j i with h8 | h8
        · exact hn j hj h8
        · have : j = i := by omega
          subst this
          rw [htp]
          exact htop0
    · have h0 : names = [] := List.eq_nil_of_length_eq_zero (by omega)
      have hnm' : cs[i].name = top := by rw [htop, h0]; rfl
      simp [hx, hnm']
      refine lp_of okx mixed (fun (k : Nat) => ⟨73, frL [(0, .sl (cs.map encClass)), (2, .bool false), (3, .int .i64 i), (5, .str top), (6, .int .i64 k)], []⟩)
        (fun k => k ≤ cs.length ∧ ∀ (k' : Nat) (h : k' < cs.length), k' < k → cs[k'].name = top → noneAhead cs top k' = true → cs[k'].super = []) (fun k => cs.length - k) 0 (by simp) (weak_frL rfl rfl (by simp)) ?_
      intro k ⟨hk, hkn⟩
      simp
      refine br_dec (fun h5 => ?_) (fun h5 => ?_)
      · have hxk : cs[k]? = some cs[k] := by simp [h5]
        have hwk := wrap_i64 (show (-9223372036854775808 : Int) ≤ (k : Int) + 1 by omega) (by omega)
        have next : (cs[k].name = top → noneAhead cs top k = true → cs[k].super = []) → k + 1 ≤ cs.length ∧ ∀ (k' : Nat) (h : k' < cs.length), k' < k + 1 → cs[k'].name = top → noneAhead cs top k' = true → cs[k'].super = [] := fun hq => ⟨h5, fun k' hk' hlt => by
          rcases Nat.lt_or_ge k' k with h8 | h8
          · exact hkn k' hk' h8
          · have : k' = k := by omega
            subst this
            exact hq⟩
        by_cases h6 : cs[k].name = top
        · by_cases h7 : cs[k].super = []
          · simp [hxk, h6, h7, hwk]
            exact nextQ_of (k + 1) (next fun _ _ => h7) (by omega) (weak_frL rfl rfl (by simp))
          · simp [hxk, h6, h7]
            refine lp_of okx mixed (fun (j : Nat) => ⟨73, frL [(0, .sl (cs.map encClass)), (2, .bool false), (3, .int .i64 i), (5, .str top), (6, .int .i64 k), (7, .bool (noneAhead cs top j)), (8, .int .i64 j)], []⟩)
              (fun j => j ≤ k) (fun j => k - j) 0 (Nat.zero_le _) (weak_frL rfl rfl (by simp [noneAhead])) ?_
            intro j hj
            simp
            refine br_dec (fun h8 => ?_) (fun h8 => ?_)
            · have hjl : j < cs.length := by omega
              have hxj : cs[j]? = some cs[j] := by simp [hjl]
              have hwj := wrap_i64 (show (-9223372036854775808 : Int) ≤ (j : Int) + 1 by omega) (by omega)
              have hsucc := noneAhead_succ (s := top) hjl
              cases hf : noneAhead cs top j with
              | true =>
                rw [hf] at hsucc
                simp [hxj, hwj]
                exact nextQ_of (j + 1) h8 (by omega) (weak_frL rfl rfl (by simp [hsucc]))
              | false =>
                rw [hf] at hsucc
                simp [hwj]
                exact nextQ_of (j + 1) h8 (by omega) (weak_frL rfl rfl (by simp [hsucc]))
            · have : j = k := by omega
              subst this
              simp
              refine br_bool (fun h9 => ?_) (fun h9 => ?_)
              · have := hstop h5 h6 h9 h7
                simp [this]
                exact finS_fz (by simp)
              · simp [hwk]
                exact nextQ_of (j + 1) (next fun _ h => by rw [h9] at h; cases h) (by omega) (weak_frL rfl rfl (by simp))
        · simp [hxk, h6, hwk]
          exact nextQ_of (k + 1) (next fun h => absurd h h6) (by omega) (weak_frL rfl rfl (by simp))
      · have hk' : k = cs.length := by omega
        have htop0 : superOf cs top = [] := super_of_none fun k' hk' h1 h2 => hkn k' hk' (by omega) h1 h2
        simp [hw]
        refine nextQ_of (i + 1) ⟨h3, fun j hj hji => ?_⟩ (by omega) (weak_frL rfl rfl (by simp))
        rcases Nat.lt_or_ge j i with h8 | h8
        · exact hn j hj h8
        · have : j = i := by omega
          subst this
          rw [htp]
          exact htop0
  · have hi' : i = cs.length := by omega
    have : endsOf cs = true := List.all_eq_true.2 fun c hc => by
      obtain ⟨j, hj, rfl⟩ := List.getElem_of_mem hc
      exact decide_eq_true (hn j hj (by omega))
    simp [this]
    exact finS_fz (by simp)
end Go.Proofs.YtbjgepnkakcjaaaDoor.Lift
namespace Go.Proofs.YtbjgepnkakcjaaaDoor.Lift
open Go
set_option maxRecDepth 100000

set_option maxHeartbeats 1000000 in
theorem p_KindOrder : SoundP Tryd.prog gl 8 (fn4 (cL cPair) cTy cTy cTy encBool fun l x y z => if l.length < 1099511627776 ∧ x.name.length < 1099511600000 ∧ y.name.length < 1099511600000 ∧ z.name.length < 1099511600000 then some true else none) := by
  have okx := ((((okX_nil.addP p_works).addP p_kindMay).addP p_ends).addP p_kindPrint).addP p_classes
  refine soundP_of_wk okx mixed Tryd.func8 rfl rfl fun args r h G0 => ?_
  obtain ⟨l, x, y, z, e, rfl, he, rfl⟩ := fn4_inv h
  simp only [Option.ite_none_right_eq_some, Option.some.injEq] at he
  obtain ⟨⟨hl, hx, hy, hz⟩, rfl⟩ := he
  obtain ⟨kx, nx⟩ := x
  obtain ⟨ky, ny⟩ := y
  obtain ⟨kz, nz⟩ := z
  simp only at hx hy hz
  have hc : (classesOf l).length < 1099511627776 := by simp [classesOf]; omega
  generalize hcl : classesOf l = c at *
  have g : ∀ {a b : ATy}, a.name.length < 1099511600000 → b.name.length < 1099511600000 → gMayT c a b = some (may c a b) := fun {a b} h1 h2 => by unfold gMayT; exact if_pos ⟨hc, h1, h2⟩
  have gxx := g (a := ⟨kx, nx⟩) (b := ⟨kx, nx⟩) hx hx
  have gxy := g (a := ⟨kx, nx⟩) (b := ⟨ky, ny⟩) hx hy
  have gyz := g (a := ⟨ky, ny⟩) (b := ⟨kz, nz⟩) hy hz
  have gxz := g (a := ⟨kx, nx⟩) (b := ⟨kz, nz⟩) hx hz
  rw [may_self] at gxx
  cases hpx : print ⟨kx, nx⟩ with
  | mk tx ex =>
    cases hpy : print ⟨ky, ny⟩ with
    | mk ty ey =>
      cases hpz : print ⟨kz, nz⟩ with
      | mk tz ez =>
        by_cases h1 : ex = 0
        · by_cases h2 : ey = 0
          · by_cases h3 : ez = 0
            · subst h1 h2 h3
              simp [Tryd.f8, entry, hl, hcl, hx, hy, hz, hpx, hpy, hpz]
              refine lp_of okx mixed (fun (i : Nat) => ⟨99, frL [(5, .ptr 0 0 0 0), (6, .ptr 1 0 0 0), (7, .ptr 2 0 0 0), (8, .bool false), (9, .sl (c.map encClass)), (16, .int .i64 i)], [.row 2 0 0 [encTy ⟨kx, nx⟩], .row 2 0 0 [encTy ⟨ky, ny⟩], .row 2 0 0 [encTy ⟨kz, nz⟩]]⟩)
                (fun i => i ≤ c.length ∧ ∀ (j : Nat) (h : j < c.length), j < i → c[j].name = objName → c[j].super = []) (fun i => c.length - i) 0 (by simp) (weak_frL rfl rfl (by simp)) ?_
              intro i ⟨hi, hn⟩
              simp
              refine br_dec (fun h4 => ?_) (fun h4 => ?_)
              · have hxi : c[i]? = some c[i] := by simp [h4]
                have hw := wrap_i64 (show (-9223372036854775808 : Int) ≤ (i : Int) + 1 by omega) (by omega)
                have next : (c[i].name = objName → c[i].super = []) → i + 1 ≤ c.length ∧ ∀ (j : Nat) (h : j < c.length), j < i + 1 → c[j].name = objName → c[j].super = [] := fun hq => ⟨h4, fun j hj hlt => by
                  rcases Nat.lt_or_ge j i with h8 | h8
                  · exact hn j hj h8
                  · have : j = i := by omega
                    subst this
                    exact hq⟩
                by_cases h5 : c[i].name = [79, 98, 106, 101, 99, 116]
                · by_cases h6 : c[i].super = []
                  · simp [hxi, h5, h6, hw]
                    exact nextQ_of (i + 1) (next fun _ => h6) (by omega) (weak_frL rfl rfl (by simp))
                  · simp [hxi, h5, h6]
                    exact finS_fz (by simp)
                · simp [hxi, h5, hw]
                  exact nextQ_of (i + 1) (next fun h => absurd h h5) (by omega) (weak_frL rfl rfl (by simp))
              · have hO : superOf c objName = [] := by
                  by_cases hp : placeOf c objName < c.length
                  · have e1 : c[placeOf c objName].name = objName := of_decide_eq_true (List.findIdx_getElem (w := hp))
                    unfold superOf
                    rw [dif_pos hp]
                    exact hn _ hp (by omega) e1
                  · unfold superOf
                    rw [dif_neg hp]
                cases m1 : may c ⟨kx, nx⟩ ⟨ky, ny⟩ with
                | false =>
                  simp [gxx, gxy, m1]
                  exact finS_fz (by simp)
                | true =>
                  cases m2 : may c ⟨ky, ny⟩ ⟨kz, nz⟩ with
                  | false =>
                    simp [gxx, gxy, gyz, m1, m2]
                    exact finS_fz (by simp)
                  | true =>
                    cases m3 : may c ⟨kx, nx⟩ ⟨kz, nz⟩ with
                    | true =>
                      simp [gxx, gxy, gyz, gxz, m1, m2, m3]
                      exact finS_fz (by simp)
                    | false =>
                      have hends : endsOf c = false := by
                        cases hq : endsOf c with
                        | false => rfl
                        | true =>
                          have := may_trans hO hq _ _ _ _ (Nat.lt_succ_self _) (by rw [hpx]) (by rw [hpy]) (by rw [hpz]) m1 m2
                          rw [m3] at this
                          cases this
                      simp [gxx, gxy, gyz, gxz, m1, m2, m3, hc, hends]
                      exact finS_fz (by simp)
            · simp [Tryd.f8, entry, hl, hcl, hx, hy, hz, hpx, hpy, hpz, h1, h2, h3, gxx]
              exact finS_fz (by simp)
          · simp [Tryd.f8, entry, hl, hcl, hx, hy, hz, hpx, hpy, hpz, h1, h2, gxx]
            exact finS_fz (by simp)
        · simp [Tryd.f8, entry, hl, hcl, hx, hy, hz, hpx, hpy, hpz, h1, gxx]
          exact finS_fz (by simp)
end Go.Proofs.YtbjgepnkakcjaaaDoor.Lift
namespace Go.Proofs.YtbjgepnkakcjaaaDoor.Lift
open Go

/-- the types of the table: what they are made of is in the table; no slice's elements are of no size -/
def kidsOk (P : Program) (n : Nat) : TypeDesc → Bool
  | .pointer e => decide (e < n)
  | .slice e => decide (e < n) && decide (0 < P.cellsOf e)
  | .array _ e => decide (e < n)
  | .map _ e => decide (e < n)
  | .struct fs => fs.toList.all fun f => decide (f.type < n)
  | _ => true
def NoNull (P : Program) : Prop := (List.range P.types.size).all (fun t => match P.underlying t with | some d => kidsOk P P.types.size d | none => true) = true
theorem NoNull.kids {P : Program} (h : NoNull P) {t : TypeId} (ht : t < P.types.size) {d : TypeDesc} (hd : P.underlying t = some d) : kidsOk P P.types.size d = true := by
  have := List.all_eq_true.1 h t (List.mem_range.2 ht)
  simpa only [hd] using this

section
variable {H : Type} {enc : TypeId × Value → H} {P : Program} {w : World} {base : Nat} {sp : Nat → Bool}

theorem trodStep_spare (hn : NoNull P) {r r' : TypeId → List Value → Option (DataW H × List MemPlace)}
    (hr : ∀ t cs x, t < P.types.size → r t cs = some x → (∀ p ∈ x.2, sp p.block = true) → r' t cs = some x) {t : TypeId} (htn : t < P.types.size) {cs : List Value} {x : DataW H × List MemPlace}
    (h : DataW.trodStep enc P w base (fun _ => true) true r t cs = some x) (hs : ∀ p ∈ x.2, sp p.block = true) : DataW.trodStep enc P w base sp true r' t cs = some x := by
  unfold DataW.trodStep at h ⊢
  split at h
  case h_1 => exact h
  case h_2 => exact h
  case h_3 => exact h
  case h_4 => exact h
  case h_5 => exact h
  case h_6 e a hu =>
    have hk := hn.kids htn hu
    simp only [kidsOk, decide_eq_true_eq] at hk
    simp only [Option.map_eq_some_iff, Option.bind_eq_some_iff] at h ⊢
    obtain ⟨y, ⟨cs', hc, hy⟩, rfl⟩ := h
    exact ⟨y, ⟨cs', hc, hr _ _ _ hk hy (fun p hp => hs p (by simp [hp]))⟩, rfl⟩
  case h_7 => exact h
  case h_8 e a len cap hu =>
    have hk := hn.kids htn hu
    simp only [kidsOk, Bool.and_eq_true, decide_eq_true_eq] at hk
    simp only at h ⊢
    split at h
    · rename_i hc
      rw [if_pos hc]
      simp only [if_true, Option.map_eq_some_iff, Option.bind_eq_some_iff] at h ⊢
      obtain ⟨elems, he, rest, hrest, rfl⟩ := h
      have hel := mapM_some_length he
      have hrl := mapM_some_length hrest
      simp only [List.length_range] at hel hrl
      have conv : ∀ {l : List Nat} {z : List (DataW H × List MemPlace)} {f : Nat → Nat}, (l.mapM fun i => (w.cells? base (a.add (f i * P.cellsOf e)) (P.cellsOf e)).bind (r e)) = some z → (∀ y ∈ z, ∀ p ∈ y.2, sp p.block = true) →
          (l.mapM fun i => (w.cells? base (a.add (f i * P.cellsOf e)) (P.cellsOf e)).bind (r' e)) = some z := fun hz hsz => mapM_carry hz fun i y _ hy hiy => by
        simp only [Option.bind_eq_some_iff] at hiy ⊢
        obtain ⟨cs', h1, h2⟩ := hiy
        exact ⟨cs', h1, hr _ _ _ hk.1 h2 (hsz y hy)⟩
      have h1 : ∀ y ∈ elems, ∀ p ∈ y.2, sp p.block = true := fun y hy p hp => hs p (by
        simp only [List.mem_append, List.mem_flatMap]
        exact .inr ⟨y, .inl hy, hp⟩)
      have h2 : ∀ y ∈ rest, ∀ p ∈ y.2, sp p.block = true := fun y hy p hp => hs p (by
        simp only [List.mem_append, List.mem_flatMap]
        exact .inr ⟨y, .inr hy, hp⟩)
      refine ⟨elems, conv (f := id) he h1, rest, ?_, rfl⟩
      cases hsp : sp a.block with
      | true => exact conv (f := fun j => len + j) hrest h2
      | false =>
        -- then there is no place at all: nothing is spared
        have : cap = 0 := by
          apply Classical.byContradiction
          intro hcap
          have hpos := hk.2
          have hmem : MemPlace.cell a.block a.off ∈ MemPlace.row a ((elems.length + rest.length) * P.cellsOf e) := MemPlace.mem_row.2 ⟨0, by
            rw [hel, hrl]
            have : len + (cap - len) = cap := by omega
            rw [this]
            exact Nat.mul_pos (by omega) hpos, by simp⟩
          have := hs (MemPlace.cell a.block a.off) (by simp only [List.mem_append]; exact .inl hmem)
          simp only [MemPlace.block] at this
          rw [hsp] at this
          cases this
        have hlen : cap - len = 0 := by omega
        rw [hlen] at hrest
        simp at hrest
        simp [hrest]
    · cases h
  case h_9 fs cs' hu =>
    have hk := hn.kids htn hu
    simp only [kidsOk, List.all_eq_true, decide_eq_true_eq] at hk
    split at h
    · rename_i hc
      rw [if_pos hc]
      simp only [Option.map_eq_some_iff] at h ⊢
      obtain ⟨xs, hx, rfl⟩ := h
      exact ⟨xs, mapM_carry hx (fun f y hf hy hv => hr _ _ _ (hk f hf) hv (fun p hp => hs p (List.mem_flatMap.2 ⟨y, hy, hp⟩))), rfl⟩
    · cases h
  case h_10 m e cs' hu =>
    have hk := hn.kids htn hu
    simp only [kidsOk, decide_eq_true_eq] at hk
    split at h
    · rename_i hc
      rw [if_pos hc]
      simp only [Option.map_eq_some_iff] at h ⊢
      obtain ⟨xs, hx, rfl⟩ := h
      exact ⟨xs, mapM_carry hx (fun f y _ hy hv => hr _ _ _ hk hv (fun p hp => hs p (List.mem_flatMap.2 ⟨y, hy, hp⟩))), rfl⟩
    · cases h
  case h_11 => exact h
  case h_12 => exact h
  case h_13 => exact h
  case h_14 k e b hu =>
    have hk' := hn.kids htn hu
    simp only [kidsOk, decide_eq_true_eq] at hk'
    split at h
    · rename_i es clock hb
      split at h
      · rename_i hc
        simp only [Option.bind_eq_some_iff] at h
        obtain ⟨entries, he, hd⟩ := h
        split at hd
        · rename_i hris
          have hx := Option.some.inj hd
          subst hx
          simp only [if_pos hc, Option.bind_eq_some_iff]
          refine ⟨entries, mapM_carry he (fun x y _ hy hv => ?_), by simp [hris]⟩
          simp only [Option.bind_eq_some_iff] at hv ⊢
          obtain ⟨key, hk, hz⟩ := hv
          refine ⟨key, hk, ?_⟩
          split at hz
          · rename_i hf
            rw [if_pos hf]
            simp only [Option.map_eq_some_iff] at hz ⊢
            obtain ⟨q, hq, rfl⟩ := hz
            exact ⟨q, hr _ _ _ hk' hq (fun p hp => hs p (by simp only [List.mem_cons, List.mem_flatMap]; right; exact ⟨_, hy, hp⟩)), rfl⟩
          · cases hz
        · cases hd
      · cases h
    · cases h
  case h_15 => exact h
  case h_16 => exact h
  case h_17 => exact h
  case h_18 => exact h
  case h_19 => exact h
  case h_20 => exact h
  case h_21 => cases h

theorem trod_spare (hn : NoNull P) : ∀ (n : Nat) (t : TypeId) (cs : List Value) (x : DataW H × List MemPlace), t < P.types.size →
    DataW.trod enc P w base (fun _ => true) true n t cs = some x → (∀ p ∈ x.2, sp p.block = true) → DataW.trod enc P w base sp true n t cs = some x := by
  intro n
  induction n with
  | zero => intro t cs x _ h; simp [DataW.trod] at h
  | succ n ih =>
    intro t cs x htn h hs
    rw [DataW.trod_step] at h ⊢
    exact trodStep_spare hn ih htn h hs

/-- the arguments read behind the call as they read before -/
theorem trodAll_behind {w' : World} (hn : NoNull P) : ∀ {ts : List TypeId} {vs : List Value} {ds : List (DataW H)} {ps : List MemPlace}, (∀ t ∈ ts, t < P.types.size) → DataW.TrodAll enc P w 0 (fun _ => true) true ts vs ds ps →
    (∀ p ∈ ps, w.sameAt w' p) → (∀ p ∈ ps, sp p.block = true) → DataW.TrodAll enc P w' 0 sp true ts vs ds ps
  | [], [], [], _, _, h, _, _ => h
  | _ :: _, _ :: _, _ :: _, _, ht, ⟨p, q, ⟨n, h1⟩, h2, e⟩, h3, h4 => by
    subst e
    refine ⟨p, q, ⟨n, trod_spare hn n _ _ _ (ht _ (by simp)) (DataW.trod_carry n _ _ _ h1 fun x hx => h3 x (by simp [hx])) fun x hx => h4 x (by simp [hx])⟩, trodAll_behind hn (fun t htm => ht t (by simp [htm])) h2 (fun x hx => h3 x (by simp [hx])) (fun x hx => h4 x (by simp [hx])), rfl⟩
end

theorem below_of_ext {G G' : Gh} (hσ : G.σ = []) (hz : ∀ blk, ¬ G.z blk) (x : Ext G G') : RowKit.Below G.w.heap.size G.w G'.w := ⟨x.os, x.tape, x.output, x.size, fun k hk => x.old k hk (owned_nil hσ k) (fun h => absurd h (hz k))⟩

/-- where a statement's walk begins: all that there is is frozen -/
def startG (W : World) : Gh := { w := W, φ := fun b _ => b < W.heap.size, ρ := fun _ _ => none, σ := [] }
theorem inv_start (W : World) : Inv (startG W) := inv_nil rfl (fun _ _ h => h)

open Go.ChangeShapes Go.WideShapes in
/-- A LAW THAT RETURNS true AND LEAVES ITS ARGUMENTS AS THEY WERE, from a pure contract -/
theorem post_true {H : Type} {enc : TypeId × Value → H} {P : Program} (hn : NoNull P) {f : Nat} {fn : Func} {g : List AV → Option AV} (hp : SoundP P (fun _ => none) f g) (hfn : P.funcs[f]? = some fn) (hbody : fn.body.isNone = false) (hname : (fn.name == "runtime.NumGoroutine") = false) {tb : TypeId} (htb : P.underlying tb = some .bool)
    (hres : fn.resultTypes = #[tb]) {s : ChangeSpec} (hvars : s.vars = []) (hpt : ∀ t ∈ fn.params.toList, t < P.types.size) {apart fresh handsOn again : Bool} {W : World} {args : Array Value} {ds gs : List (DataW H)} {before : List MemPlace}
    (hW : DataW.Whole enc P fn.params.toList s.vars apart W args.toList ds gs before) (hs : s.fn H (ds ++ gs) = { results := [.lit (.bool true)], args := ds })
    {aargs : List AV} (hrep : RepL (startG W) aargs args.toList) (hg : g aargs = some (.bool true)) :
    Calls P f args W fun e W' => ∃ v, e = .returned v ∧ s.post enc P fn apart fresh handsOn again W args v W' := by
  have hc := hp.calls (startG W) aargs args.toList (.bool true) hg (inv_start W) rfl rfl (fun _ _ h => by cases h) hrep
  rw [Array.toArray_toList] at hc
  have hcalls : Calls P f args W (Ret (startG W) (.bool true) []) := by
    rcases hc with ⟨_, h⟩ | ⟨v, w', h, _⟩
    · exact h
    · rw [run_callFunc hfn hbody hname] at h
      cases h
  refine calls_imp hcalls fun e W' he => ?_
  cases e with
  | panicked c => exact he.elim
  | outgrown => exact he.elim
  | returned v =>
    obtain ⟨G', rfl, hσ, x, inv', hr⟩ := he
    cases hr
    have hb : RowKit.Below W.heap.size W G'.w := below_of_ext (G := startG W) rfl (fun _ h => h) x
    have hW' := hW
    obtain ⟨p, q, h1, h2, rfl, hz, hnd⟩ := hW
    rw [hvars] at h2
    obtain ⟨rfl, rfl⟩ := trodVars_none h2
    have hargs : ∀ sp : Nat → Bool, (∀ y ∈ p ++ [], sp y.block = true) → DataW.TrodAll enc P G'.w 0 sp true fn.params.toList args.toList (s.fn H (ds ++ [])).args p := fun sp hsp => by
      rw [hs]
      exact trodAll_behind hn hpt h1 (fun y hy => hb.same (hW'.lt y (by simpa using hy))) (fun y hy => hsp y (by simpa using hy))
    have hresd : ∀ (b : Nat) (sp : Nat → Bool) (hd : Bool), DataW.TrodAll enc P G'.w b sp hd fn.resultTypes.toList ((Value.bool true).resultList fn.resultTypes.size) (s.fn H (ds ++ [])).results [] := fun b sp hd => by
      rw [hs, hres]
      exact trodAll_cons_mk (RowKit.shut_bool htb true) trodAll_mk0
    have hold : ∀ y ∈ p ++ [], (fun b => decide (b < W.heap.size)) y.block = true := fun y hy => by simpa using hW'.lt y hy
    have hvd : ∀ sp : Nat → Bool, DataW.TrodVars enc P G'.w sp s.vars (s.fn H (ds ++ [])).vars [] := fun sp => by
      rw [hs, hvars]
      exact rfl
    refine ⟨_, rfl, ds, [], p ++ [], [], p, [], hW', hresd _ _ _, hargs _ hold, hvd _, hb.frame _, fun _ => ⟨?_, _, _, ([] ++ p) ++ [], ⟨[] ++ p, [], trodAll_append (hargs _ (fun _ _ => rfl)) (hresd _ _ _), hvd _, rfl, ?_, ?_⟩, ?_⟩⟩
    · intro j t r h3 h4
      rw [hres] at h3 h4
      cases j with
      | zero =>
        simp only [List.getElem?_toArray, List.getElem?_cons_zero, Option.some.injEq] at h3
        subst h3
        simp [Value.resultList] at h4
        subst h4
        exact RowKit.okWide_bool_mk htb true
      | succ j => simp at h3
    · intro b off hp'
      have hlt := hW'.lt _ (show MemPlace.cell b off ∈ p ++ [] by simpa using hp')
      rw [hb.frozen (p := ⟨b, off, none⟩) hlt]
      exact hz b off (by simpa using hp')
    · intro ha
      simpa using hnd ha
    · intro y hy _
      simpa using hy
end Go.Proofs.YtbjgepnkakcjaaaDoor.Lift
namespace Go.Proofs.YtbjgepnkakcjaaaDoor.Lift
open Go

/-- what is read of a type lies there as a typed value (z: how much it is) -/
structure Reads (P : Program) (t : TypeId) {α : Type} (c : Cod α) (z : α → Nat) : Prop where
  read : ∀ {H : Type} {enc : TypeId × Value → H} {W : World} {base : Nat} {sp : Nat → Bool} {n : Nat} {cs : List Value} {x : DataW H × List MemPlace}, DataW.trod enc P W base sp true n t cs = some x → ∃ a : α, RepL (startG W) (c.enc a).cells cs ∧ z a ≤ Rows.uptoBulk x.1
  top : ∀ {W W' : World} {r : Reach} {b : Nat} {a : α} {v : Value}, Value.okWide P W' r b t v → RepL (startG W) (c.enc a).cells v.cells.toList → Rep (startG W) (c.enc a) v
  size : ∀ a, (c.enc a).cells.length = P.cellsOf t

theorem repL_length {G : Gh} : ∀ {xs : List AV} {vs : List Value}, RepL G xs vs → xs.length = vs.length
  | _, _, .nil => rfl
  | _, _, .cons _ t => by simp [repL_length t]
theorem repL_append {G : Gh} : ∀ {xs ys : List AV} {vs ws : List Value}, RepL G xs vs → RepL G ys ws → RepL G (xs ++ ys) (vs ++ ws)
  | _, _, _, _, .nil, h => h
  | _, _, _, _, .cons h t, h' => .cons h (repL_append t h')

theorem reads_int {P : Program} {t : TypeId} (ht : P.underlying t = some (.int .i64)) (hc : P.cellsOf t = 1) : Reads P t cInt (fun _ => 1) where
  read := fun h => by
    obtain ⟨n, rfl, rfl, _⟩ := DataW.trod_int ht h
    exact ⟨n, .cons (.int _ _) .nil, by simp [Rows.uptoBulk]⟩
  top := fun hv h => by
    obtain ⟨n, rfl⟩ := WideShapes.okWide_int ht hv
    cases h with
    | cons h _ => exact h
  size := fun a => by rw [hc]; rfl
theorem reads_bool {P : Program} {t : TypeId} (ht : P.underlying t = some .bool) (hc : P.cellsOf t = 1) : Reads P t cBool (fun _ => 1) where
  read := fun h => by
    obtain ⟨n, rfl, rfl⟩ := DataW.trod_bool ht h
    exact ⟨n, .cons (.bool _) .nil, by simp [Rows.uptoBulk]⟩
  top := fun hv h => by
    obtain ⟨n, rfl⟩ := WideShapes.okWide_bool ht hv
    cases h with
    | cons h _ => exact h
  size := fun a => by rw [hc]; rfl
theorem reads_str {P : Program} {t : TypeId} (ht : P.underlying t = some .string) (hc : P.cellsOf t = 1) : Reads P t cStr (fun s => s.length + 1) where
  read := fun h => by
    obtain ⟨s, rfl, rfl, _⟩ := DataW.trod_string ht h
    exact ⟨s.data.toList, .cons (.str s) .nil, by simp [Rows.uptoBulk]⟩
  top := fun hv h => by
    obtain ⟨n, rfl⟩ := WideShapes.okWide_string ht hv
    cases h with
    | cons h _ => exact h
  size := fun a => by rw [hc]; rfl
theorem reads_byte {P : Program} {t : TypeId} (ht : P.underlying t = some (.int .u8)) (hc : P.cellsOf t = 1) : Reads P t cByte (fun _ => 1) where
  read := fun h => by
    obtain ⟨n, rfl, rfl, hw⟩ := DataW.trod_int ht h
    have hw' : 0 ≤ n ∧ n < 256 := by
      simp [Lit.wf, IntKind.has, IntKind.min, IntKind.max, IntKind.bits, IntKind.signed] at hw
      omega
    refine ⟨UInt8.ofNat n.toNat, ?_, by simp [Rows.uptoBulk]⟩
    have : (cByte.enc (UInt8.ofNat n.toNat)) = .int .u8 n := by
      show AV.int .u8 _ = _
      congr 1
      rw [UInt8.toNat_ofNat_of_lt' (by show n.toNat < 256; omega)]
      omega
    rw [this]
    exact .cons (.int _ _) .nil
  top := fun hv h => by
    obtain ⟨n, rfl⟩ := WideShapes.okWide_int ht hv
    cases h with
    | cons h _ => exact h
  size := fun a => by rw [hc]; rfl

/-- what a list is -/
def zL {α : Type} (z : α → Nat) (l : List α) : Nat := (l.map z).sum + 1

theorem repCells_start {W : World} : ∀ {xs : List AV} {cs : List Value} {b o : Nat}, RepL (startG W) xs cs → (∀ (i : Nat) v, cs[i]? = some v → W.cell? ⟨b, o + i, none⟩ = some v) → RepCells (startG W) xs b o
  | _, _, b, o, .nil, _ => .nil b o
  | _, _, b, o, .cons h t, hc => by
    have h0 := hc 0 _ rfl
    refine .cons ?_ h0 h (repCells_start t fun i v hv => by have := hc (i + 1) v (by simpa using hv); rwa [show o + (i + 1) = o + 1 + i by omega] at this)
    show b < W.heap.size
    apply Classical.byContradiction
    intro hb
    have : W.heap[b]? = none := by simp; omega
    simp [World.cell?, this] at h0

theorem cells_start {P : Program} {W : World} {base : Nat} {a : Addr} {n : Nat} {cs : List Value} {xs : List AV} (hn : 0 < n) (h : W.cells? base a n = some cs) (hr : RepL (startG W) xs cs) : a.spot = none ∧ RepCells (startG W) xs a.block a.off := by
  unfold World.cells? at h
  split at h
  · have hg : ∀ i, i < n → W.cell? (a.add i) = cs[i]? := fun i hi => by
      have := mapM_some_get h i i (by simp [hi])
      exact this
    have hl : cs.length = n := by have := mapM_some_length h; simpa using this
    have h0 : a.spot = none := by
      have := hg 0 hn
      rw [show a.add 0 = a from rfl] at this
      have h1 : cs[0]? = some cs[0] := by simp
      rw [h1] at this
      unfold World.cell? at this
      split at this
      · split at this
        · cases this
        · rename_i hs; simpa using hs
      · cases this
    refine ⟨h0, repCells_start hr fun i v hv => ?_⟩
    have hi : i < n := by rw [← hl]; exact (List.getElem?_eq_some_iff.1 hv).1
    have := hg i hi
    rw [hv] at this
    have e : a.add i = ⟨a.block, a.off + i, none⟩ := by
      unfold Addr.add
      split
      · rename_i hz; subst hz; cases a; simp_all
      · rfl
    rwa [e] at this
  · cases h

theorem reads_slice {P : Program} {t e : TypeId} {α : Type} {c : Cod α} {z : α → Nat} (ht : P.underlying t = some (.slice e)) (he : Reads P e c z) (hc : P.cellsOf t = 1) (hpos0 : decide (0 < P.cellsOf e) = true) : Reads P t (cL c) (zL z) where
  read := fun {H} {enc} {W} {base} {sp} {n} {cs} {x} h => by
    have hpos := of_decide_eq_true hpos0
    rcases DataW.trod_slice ht h with ⟨rfl, rfl⟩ | ⟨a, len, cap, elems, rest, m, _, rfl, rfl, _, hlc, _, hl, hel, _, _⟩
    · exact ⟨[], .cons (.sl0 none 0) .nil, by simp [Rows.uptoBulk, zL]⟩
    · have key : ∀ k, k ≤ len → ∃ l : List α, l.length = k ∧ (0 < k → a.spot = none ∨ k < len) ∧ RepElems (startG W) (l.map c.enc) a.block (a.off + (len - k) * P.cellsOf e) (P.cellsOf e) ∧ (l.map z).sum ≤ Rows.uptoBulkAll ((elems.drop (len - k)).map (·.1)) := by
        intro k
        induction k with
        | zero => exact fun _ => ⟨[], rfl, fun h => absurd h (by omega), .nil _ _ _, by simp⟩
        | succ k ih =>
          intro hk
          obtain ⟨l, h1, h2, h3, h4⟩ := ih (by omega)
          have hi : len - (k + 1) < len := by omega
          have hlt : len - (k + 1) < elems.length := by omega
          have hget := hel (len - (k + 1)) hi
          rw [List.getElem?_eq_getElem hlt] at hget
          simp only [Option.bind_eq_some_iff] at hget
          obtain ⟨cs', hcs, htr⟩ := hget
          obtain ⟨y, hy, hz⟩ := he.read htr
          obtain ⟨hs, hcells⟩ := cells_start (P := P) hpos hcs hy
          have hsz := he.size y
          have e1 : (a.add ((len - (k + 1)) * P.cellsOf e)).block = a.block := by unfold Addr.add; split <;> rfl
          have e2 : (a.add ((len - (k + 1)) * P.cellsOf e)).off = a.off + (len - (k + 1)) * P.cellsOf e := by
            unfold Addr.add
            split
            · rename_i hz; rw [hz]; rfl
            · rfl
          rw [e1, e2] at hcells
          have e3 : a.off + (len - (k + 1)) * P.cellsOf e + P.cellsOf e = a.off + (len - k) * P.cellsOf e := by
            have : len - k = (len - (k + 1)) + 1 := by omega
            rw [this, Nat.add_mul]
            omega
          refine ⟨y :: l, by simp [h1], fun _ => ?_, ?_, ?_⟩
          · by_cases hk' : k + 1 < len
            · exact .inr hk'
            · left
              have : len - (k + 1) = 0 := by omega
              rw [this, Nat.zero_mul] at hs
              exact hs
          · rw [List.map_cons]
            refine .cons hsz hcells ?_
            rw [e3]
            exact h3
          · rw [List.drop_eq_getElem_cons hlt, List.map_cons, List.map_cons, List.sum_cons]
            simp only [Rows.uptoBulkAll]
            have : len - (k + 1) + 1 = len - k := by omega
            rw [this]
            omega
      obtain ⟨l, h1, h2, h3, h4⟩ := key len (Nat.le_refl _)
      rw [Nat.sub_self, Nat.zero_mul, Nat.add_zero] at h3
      rw [Nat.sub_self, List.drop_zero] at h4
      refine ⟨l, .cons ?_ .nil, ?_⟩
      · show Rep (startG W) (.sl (l.map c.enc)) _
        by_cases h0 : len = 0
        · have : l = [] := List.eq_nil_of_length_eq_zero (by omega)
          subst this h0
          exact .sl0 (some a) cap
        · have hs := (h2 (by omega)).resolve_right (by omega)
          have ea : a = ⟨a.block, a.off, none⟩ := by cases a; simp_all
          have hlen : (l.map c.enc).length = len := by simp [h1]
          rw [ea, ← hlen]
          exact .sl (by omega) h3
      · simp only [Rows.uptoBulk, zL]
        omega
  top := fun hv h => by
    obtain ⟨a, len, cap, rfl⟩ := WideShapes.okWide_slice ht hv
    cases h with
    | cons h _ => exact h
  size := fun a => by rw [hc]; rfl

/-- the fields of a struct, from one on -/
def ReadsF (P : Program) (tot off : Nat) (fs : List Field) {T : Type} (f : T → List AV) (z : T → Nat) : Prop :=
  ∀ {H : Type} {enc : TypeId × Value → H} {W : World} {base : Nat} {sp : Nat → Bool} {n : Nat} {cs : List Value} {xs : List (DataW H × List MemPlace)}, cs.length = tot → xs.length = fs.length →
    (∀ (i : Nat) (g : Field), fs[i]? = some g → DataW.trod enc P W base sp true n g.type ((cs.drop g.offset).take (P.cellsOf g.type)) = xs[i]?) → ∃ a : T, RepL (startG W) (f a) (cs.drop off) ∧ z a ≤ Rows.uptoBulkAll (xs.map (·.1))
theorem readsF_nil {P : Program} {tot : Nat} : ReadsF P tot tot [] (fun _ : Unit => []) (fun _ => 0) := by
  intro H enc W base sp n cs xs h1 _ _
  refine ⟨(), ?_, Nat.zero_le _⟩
  rw [← h1, List.drop_length]
  exact .nil
theorem readsF_cons {P : Program} {tot off off' : Nat} {g : Field} {fs : List Field} {α T : Type} {c : Cod α} {zc : α → Nat} {f : T → List AV} {z : T → Nat} (h : Reads P g.type c zc) (ho : g.offset = off) (ho' : off + P.cellsOf g.type = off') (r : ReadsF P tot off' fs f z) :
    ReadsF P tot off (g :: fs) (fun x : α × T => (c.enc x.1).cells ++ f x.2) (fun x => zc x.1 + z x.2) := by
  intro H enc W base sp n cs xs h1 h2 h3
  cases xs with
  | nil => simp at h2
  | cons y ys =>
    have h0 := h3 0 g rfl
    simp only [List.getElem?_cons_zero] at h0
    obtain ⟨a, ha, hza⟩ := h.read h0
    obtain ⟨b, hb, hzb⟩ := r h1 (by simpa using h2) (fun i g' hg => by have := h3 (i + 1) g' (by simpa using hg); simpa using this)
    refine ⟨(a, b), ?_, ?_⟩
    · have := repL_append ha hb
      rw [ho, ← ho', ← List.drop_drop, List.take_append_drop] at this
      exact this
    · simp only [List.map_cons, Rows.uptoBulkAll]
      omega
theorem reads_struct {P : Program} {t : TypeId} {fs : Array Field} {α T : Type} {c : Cod α} {f : T → List AV} {z : T → Nat} (mk : T → α) (zc : α → Nat) (ht : P.underlying t = some (.struct fs)) (r : ReadsF P (P.cellsOf t) 0 fs.toList f z) (hf : ∀ x, c.enc (mk x) = .agg (f x)) (hz : ∀ x, zc (mk x) = z x + 1)
    (hagg : ∀ a, (c.enc a).isAgg = true) (hs : ∀ a, (c.enc a).cells.length = P.cellsOf t) : Reads P t c zc where
  read := fun {H} {enc} {W} {base} {sp} {n} {cs} {x} h => by
    obtain ⟨xs, m, rfl, rfl, hl, hxl, hfs⟩ := DataW.trod_struct ht h
    obtain ⟨a, ha, hza⟩ := r hl (by simpa using hxl) (fun i g hg => hfs i g (by simpa using hg))
    refine ⟨mk a, ?_, ?_⟩
    · rw [hf]; exact ha
    · rw [hz]; simp only [Rows.uptoBulk]; omega
  top := fun {W} {W'} {r} {b} {a} {v} hv h => by
    obtain ⟨cs, rfl, _⟩ := WideShapes.okWide_struct ht hv
    have := hagg a
    generalize c.enc a = q at *
    cases q with
    | agg xs => exact .agg h
    | _ => simp at this
  size := hs

theorem zL_len {α : Type} {z : α → Nat} (h : ∀ a, 1 ≤ z a) (l : List α) : l.length + 1 ≤ zL z l := by
  unfold zL
  induction l with
  | nil => simp
  | cons a l ih => have := h a; simp at ih ⊢; omega
theorem zL_mem {α : Type} {z : α → Nat} {a : α} : ∀ {l : List α}, a ∈ l → z a + 1 ≤ zL z l
  | b :: l, h => by
    unfold zL
    rcases List.mem_cons.1 h with rfl | h
    · simp
    · have := zL_mem (z := z) h; unfold zL at this; simp; omega
end Go.Proofs.YtbjgepnkakcjaaaDoor.Lift
namespace Go.Proofs.YtbjgepnkakcjaaaDoor.Lift
open Go
set_option maxRecDepth 100000

theorem rd_int : Reads Tryd.prog 3 cInt (fun _ => 1) := reads_int Tryd.underlying3 (by kernel_rfl)
theorem rd_str : Reads Tryd.prog 9 cStr (fun s => s.length + 1) := reads_str Tryd.underlying9 (by kernel_rfl)
theorem rd_bool : Reads Tryd.prog 4 cBool (fun _ => 1) := reads_bool Tryd.underlying4 (by kernel_rfl)

def zTy (x : ATy) : Nat := 1 + (x.name.length + 1) + 1
theorem rd_Ty : Reads Tryd.prog 23 cTy zTy :=
  reads_struct (fun x : Int × Str × Unit => ⟨x.1, x.2.1⟩) zTy Tryd.underlying23
    (readsF_cons rd_int rfl (off' := 1) (by kernel_rfl) (readsF_cons rd_str rfl (by kernel_rfl) readsF_nil)) (fun _ => rfl) (fun _ => by simp [zTy]) (fun _ => rfl) (fun _ => by show 2 = _; kernel_rfl)
theorem rd_Tys : Reads Tryd.prog 27 (cL cTy) (zL zTy) := reads_slice Tryd.underlying27 rd_Ty (by kernel_rfl) (by kernel_rfl)
def zPair (x : APair) : Nat := (x.name.length + 1) + (x.super.length + 1) + 1
theorem rd_Pair : Reads Tryd.prog 68 cPair zPair :=
  reads_struct (fun x : Str × Str × Unit => ⟨x.1, x.2.1⟩) zPair Tryd.underlying68
    (readsF_cons rd_str rfl (off' := 1) (by kernel_rfl) (readsF_cons rd_str rfl (by kernel_rfl) readsF_nil)) (fun _ => rfl) (fun _ => by simp [zPair]) (fun _ => rfl) (fun _ => by show 2 = _; kernel_rfl)
theorem rd_Pairs : Reads Tryd.prog 42 (cL cPair) (zL zPair) := reads_slice Tryd.underlying42 rd_Pair (by kernel_rfl) (by kernel_rfl)
theorem zPair_pos (x : APair) : 1 ≤ zPair x := by unfold zPair; omega
theorem zTy_pos (x : ATy) : 1 ≤ zTy x := by unfold zTy; omega
end Go.Proofs.YtbjgepnkakcjaaaDoor.Lift
