/-
  K31: contracts of the pool's fits, Check, mean, Const.
  S6: shape's hand, 5: constant, kindOf, class, answers.
  S7: effects: letters one behind the other, Reverse, Cut, does; effect.
  S8: Reverse, Cut, does; effect.
  S9: shape's hand, 6: moves.
  S10: shape's hand, 7: bound.
  S11: code.Plain; shape.Step.
  S12: shape.Step.
  K20: classes; larchlaw10.KindStands is true.
  K21: does going up end? what may stand for what is an order; larchlaw10.KindOrder is true.
  LIFT, P: larchlaw11's Place as a Lean structure (printed with tools/structs.py).
-/
import Derived.Test.YtollfopbmbjnhaaDoorQ8
namespace Go.Proofs.YtollfopbmbjnhaaDoor.Lift
open Go
set_option maxRecDepth 100000

theorem ok_fits : OkX Tryd.prog (XE [(86, liftS 9 (fn1 cStr encBool fun s => some (rightT s))), (87, liftS 9 (fn1 cInt encBool fun n => some (smallN n))), (78, liftS 9 (fn2 (cL cEntry) cInt encInt fun p i => some (tagAt p i)))]) := ((okX_nil.addP p_tag).addP p_small).addP p_right
set_option maxHeartbeats 4000000 in
theorem p_fits : SoundP Tryd.prog gl 77 (fn2 (cL cEntry) cInt encBool fun p i => if 0 ≤ i ∧ i < p.length ∧ p.length < 1099511627776 then some (fitsE p i.toNat) else none) := by
  refine soundP_of_wk ok_fits mixed Tryd.func77 rfl rfl fun args r h G0 => ?_
  obtain ⟨p, i, e, rfl, he, rfl⟩ := fn2_inv h
  simp only [Option.ite_none_right_eq_some, Option.some.injEq] at he
  obtain ⟨⟨hi, hl, hs⟩, rfl⟩ := he
  have hlt : i.toNat < p.length := by omega
  have hfx : fitsE p i.toNat = fitsX p i.toNat p[i.toNat] := by
    unfold fitsE
    rw [List.getD_eq_getElem?_getD, List.getElem?_eq_getElem hlt]
    rfl
  rw [hfx]
  have hx : p[i.toNat]? = some p[i.toNat] := List.getElem?_eq_getElem hlt
  have hxx : ∃ x, p[i.toNat] = x := ⟨_, rfl⟩
  obtain ⟨⟨tg, tx, n, a, b⟩, hxx⟩ := hxx
  rw [hxx] at hx ⊢
  clear hfx
  by_cases t1 : tg = 1
  · subst t1
    by_cases qn : n = 0
    · subst qn
      by_cases qa : a = 0
      · subst qa
        by_cases qb : b = 0
        · subst qb
          simp [Tryd.f77, entry, hi, hl, hxx]
          exact finS_eq (by simp [fitsX]) rfl
        · simp [Tryd.f77, entry, hi, hl, hxx, qb]
          exact finS_eq (by simp [fitsX, qb]) rfl
      · simp [Tryd.f77, entry, hi, hl, hxx, qa]
        exact finS_eq (by simp [fitsX, qa]) rfl
    · simp [Tryd.f77, entry, hi, hl, hxx, qn]
      exact finS_eq (by simp [fitsX, qn]) rfl
  by_cases t3 : tg = 3
  · subst t3
    by_cases qtx : tx = []
    · subst qtx
      by_cases qa : a = 0
      · subst qa
        by_cases qb : b = 0
        · subst qb
          simp [Tryd.f77, entry, hi, hl, hxx]
          exact finS_eq (by simp [fitsX]) rfl
        · simp [Tryd.f77, entry, hi, hl, hxx, qb]
          exact finS_eq (by simp [fitsX, qb]) rfl
      · simp [Tryd.f77, entry, hi, hl, hxx, qa]
        exact finS_eq (by simp [fitsX, qa]) rfl
    · simp [Tryd.f77, entry, hi, hl, hxx, qtx]
      exact finS_eq (by simp [fitsX, qtx]) rfl
  by_cases t5 : tg = 5
  · subst t5
    by_cases qtx : tx = []
    · subst qtx
      by_cases qa : a = 0
      · subst qa
        by_cases qb : b = 0
        · subst qb
          have hw := wrap_i64 (show (-9223372036854775808 : Int) ≤ i + 1 by omega) (by omega)
          by_cases h2 : i.toNat + 1 < p.length
          · have h3 : i + 1 < p.length := by omega
            have h4 : (i + 1).toNat = i.toNat + 1 := by omega
            have h5 : 0 ≤ i + 1 := by omega
            have hy : p[i.toNat + 1]? = some p[i.toNat + 1] := List.getElem?_eq_getElem h2
            have hyy : ∃ y, p[i.toNat + 1] = y := ⟨_, rfl⟩
            obtain ⟨⟨yt, yx, yn, ya, yb⟩, hyy⟩ := hyy
            rw [hyy] at hy
            simp [Tryd.f77, entry, hi, hl, hxx, hw, h3, h4, h5, hy]
            exact finS_eq (by simp [fitsX, hy, noEntry]) rfl
          · have h3 : ¬ i + 1 < p.length := by omega
            have hy : p[i.toNat + 1]? = none := List.getElem?_eq_none (by omega)
            simp [Tryd.f77, entry, hi, hl, hxx, hw, h3]
            exact finS_eq (by simp [fitsX, hy]) rfl
        · simp [Tryd.f77, entry, hi, hl, hxx, qb]
          exact finS_eq (by simp [fitsX, qb]) rfl
      · simp [Tryd.f77, entry, hi, hl, hxx, qa]
        exact finS_eq (by simp [fitsX, qa]) rfl
    · simp [Tryd.f77, entry, hi, hl, hxx, qtx]
      exact finS_eq (by simp [fitsX, qtx]) rfl
  by_cases t7 : tg = 7
  · subst t7
    by_cases qtx : tx = []
    · subst qtx
      by_cases qn : n = 0
      · subst qn
        by_cases qb : b = 0
        · subst qb
          simp [Tryd.f77, entry, hi, hl, hxx]
          exact finS_eq (by simp [fitsX]) rfl
        · simp [Tryd.f77, entry, hi, hl, hxx, qb]
          exact finS_eq (by simp [fitsX, qb]) rfl
      · simp [Tryd.f77, entry, hi, hl, hxx, qn]
        exact finS_eq (by simp [fitsX, qn]) rfl
    · simp [Tryd.f77, entry, hi, hl, hxx, qtx]
      exact finS_eq (by simp [fitsX, qtx]) rfl
  have hnot : ¬ tg = 9 → ¬ tg = 10 → ¬ tg = 12 → fitsX p i.toNat ⟨tg, tx, n, a, b⟩ = false := fun h9 h10 h12 => by simp [fitsX, t1, t3, t5, t7, h9, h10, h12]
  by_cases t9 : tg = 9
  · subst t9
    simp [Tryd.f77, entry, hi, hl, hxx]
    refine dk_ofL [(3, .ptr 0 0 0 4)] (by decide) ?_
    simp [List.lookup]
    refine sd_ofL rfl ?_ ?_
    · simp [steadyL, ldEq]
    simp [List.lookup]
    refine sd_of (by decide) ?_
    by_cases qtx : tx = []
    · by_cases qn : n = 0
      · subst qtx qn
        by_cases qa : tagAt p a = 7
        · simp [qa]
          exact finS_eq (by simp [fitsX, qa]) rfl
        · simp [qa]
          exact finS_eq (by simp [fitsX, qa]) rfl
      · simp [qtx, qn]
        exact finS_eq (by simp [fitsX, qn]) rfl
    · simp [qtx]
      exact finS_eq (by simp [fitsX, qtx]) rfl
  by_cases t10 : tg = 10
  · subst t10
    simp [Tryd.f77, entry, hi, hl, hxx]
    refine dk_ofL [(3, .ptr 0 0 0 4)] (by decide) ?_
    simp [List.lookup]
    refine sd_ofL rfl ?_ ?_
    · simp [steadyL, ldEq]
    simp [List.lookup]
    refine sd_of (by decide) ?_
    by_cases qtx : tx = []
    · by_cases qn : n = 0
      · subst qtx qn
        by_cases qa : tagAt p a = 7
        · simp [qa]
          exact finS_eq (by simp [fitsX, qa]) rfl
        · simp [qa]
          exact finS_eq (by simp [fitsX, qa]) rfl
      · simp [qtx, qn]
        exact finS_eq (by simp [fitsX, qn]) rfl
    · simp [qtx]
      exact finS_eq (by simp [fitsX, qtx]) rfl
  by_cases t12 : tg = 12
  · subst t12
    simp [Tryd.f77, entry, hi, hl, hxx]
    refine dk_ofL [(3, .ptr 0 0 0 4)] (by decide) ?_
    simp [List.lookup]
    refine sd_ofL rfl ?_ ?_
    · simp [steadyL, ldEq]
    simp [List.lookup]
    refine sd_of (by decide) ?_
    by_cases qtx : tx = []
    · by_cases qn : n = 0
      · subst qtx qn
        by_cases qa : tagAt p a = 1
        · simp [qa]
          exact finS_eq (by simp [fitsX, qa]) rfl
        · simp [qa]
          exact finS_eq (by simp [fitsX, qa]) rfl
      · simp [qtx, qn]
        exact finS_eq (by simp [fitsX, qn]) rfl
    · simp [qtx]
      exact finS_eq (by simp [fitsX, qtx]) rfl
  rw [hnot t9 t10 t12]
  simp [Tryd.f77, entry, hi, hl, hxx, t1, t3, t5, t7]
  refine dk_ofL [(3, .ptr 0 0 0 4)] (by decide) ?_
  simp [List.lookup]
  refine sd_ofL rfl ?_ ?_
  · simp [steadyL, ldEq]
  simp [List.lookup]
  refine sd_of (by decide) ?_
  simp [t9, t10, t12]
  exact finS_eq rfl rfl

theorem p_Check : SoundP Tryd.prog gl 68 (fn1 (cL cEntry) encInt fun p => if p.length < 1099511627776 then some (checkPool p) else none) := by
  have okx := okX_nil.addP p_fits
  refine soundP_of_wk okx mixed Tryd.func68 rfl rfl fun args r h G0 => ?_
  obtain ⟨p, e, rfl, he, rfl⟩ := fn1_inv h
  simp only [Option.ite_none_right_eq_some, Option.some.injEq] at he
  obtain ⟨hs, rfl⟩ := he
  by_cases h0 : p = []
  · subst h0
    simp [Tryd.f68, entry]
    exact finS_eq (by simp [checkPool]) rfl
  · have hpos : 0 < p.length := List.length_pos_iff.2 h0
    by_cases h1 : 1024 < p.length
    · have hc : checkPool p = 70 := by unfold checkPool; rw [if_pos (.inr (.inl h1))]
      have h1' : (1024 : Int) < p.length := by omega
      have hne : ((p.length : Int) = 0) = False := eq_false (by omega)
      simp [Tryd.f68, entry, h0, h1', hc]
      exact finS_eq rfl rfl
    · have h1' : ¬ (1024 : Int) < p.length := by omega
      have hne : ((p.length : Int) = 0) = False := eq_false (by omega)
      have hx : p[0]? = some p[0] := List.getElem?_eq_getElem hpos
      by_cases hz : p[0] = noEntry
      · simp [Tryd.f68, entry, h0, h1', hx, hz, noEntry]
        refine lp_of okx mixed (fun (i : Nat) => ⟨38, frL [(2, .int .i64 0), (3, .sl (p.map encEntry)), (4, .int .i64 i)], []⟩) (fun i => 1 ≤ i ∧ i ≤ p.length ∧ ∀ (j : Nat), j < i → 1 ≤ j → sits p j = true) (fun i => p.length - i) 1 ⟨Nat.le_refl _, hpos, fun j h1 h2 => by omega⟩ (weak_frL rfl rfl (by simp)) ?_
        intro i ⟨hi1, hi, hn⟩
        by_cases h3 : i < p.length
        · obtain ⟨k, rfl⟩ : ∃ k, i = k + 1 := ⟨i - 1, by omega⟩
          have hk : k < p.length := by omega
          have hw0 := wrap_i64 (show (-9223372036854775808 : Int) ≤ (k : Int) by omega) (by omega)
          have hw := wrap_i64 (show (-9223372036854775808 : Int) ≤ (k : Int) + 1 + 1 by omega) (by omega)
          have hpk : p[k]? = some p[k] := List.getElem?_eq_getElem hk
          have h3' : ((k : Int) + 1 < p.length) = True := eq_true (by omega)
          have hge : ((0 : Int) ≤ (k : Int) + 1) = True := eq_true (by omega)
          have htn : ((k : Int) + 1).toNat = k + 1 := by omega
          have next : sits p (k + 1) = true → (∀ (j : Nat), j < k + 1 + 1 → 1 ≤ j → sits p j = true) := fun hq j hj1 hj2 => by
            by_cases hj : j = k + 1
            · subst hj; exact hq
            · exact hn j (by omega) hj2
          have hsits : sits p (k + 1) = (decide (p[k].tag = 5) || fitsE p (k + 1)) := by
            unfold sits
            rw [Nat.add_sub_cancel, List.getD_eq_getElem?_getD, hpk]
            rfl
          by_cases h5 : p[k].tag = 5
          · rw [h5] at hsits
            simp [h3', hw0, hk, h5, hw]
            refine nextQ_of (k + 1 + 1) ⟨by omega, by omega, next hsits⟩ (by omega) (weak_frL rfl rfl (by simp))
          · cases hf : fitsE p (k + 1) with
            | true =>
              rw [hf, Bool.or_true] at hsits
              simp [h3', hw0, hk, h5, hs, hge, htn, hf, hw]
              refine nextQ_of (k + 1 + 1) ⟨by omega, by omega, next hsits⟩ (by omega) (weak_frL rfl rfl (by simp))
            | false =>
              have hc : checkPool p = 70 := by
                unfold checkPool
                split
                · rfl
                · rw [if_neg]
                  intro hall
                  have := hall (k + 1) h3 (by omega)
                  rw [hsits, hf] at this
                  simp [h5] at this
              simp [h3', hw0, hk, h5, hs, hge, htn, hf, hc]
              exact finS_eq rfl rfl
        · have hc : checkPool p = 0 := by
            unfold checkPool
            rw [if_neg (by
              rintro (h | h | h)
              · omega
              · omega
              · rw [List.getD_eq_getElem?_getD, hx] at h; exact h hz), if_pos (fun j hj hj1 => hn j (by omega) hj1)]
          have h3' : ((i : Int) < p.length) = False := eq_false (by omega)
          simp [h3', hc]
          exact finS_eq rfl rfl
      · have hc : checkPool p = 70 := by
          have hq : p.getD 0 noEntry ≠ noEntry := by
            rw [List.getD_eq_getElem?_getD, hx]
            exact hz
          exact if_pos (.inr (.inr hq))
        rw [hc]
        have hxx : ∃ x, p[0] = x := ⟨_, rfl⟩
        obtain ⟨⟨tg, tx, n, a, b⟩, hxx⟩ := hxx
        rw [hxx] at hx hz
        by_cases q1 : tg = 0
        · by_cases q2 : tx = []
          · by_cases q3 : n = 0
            · by_cases q4 : a = 0
              · by_cases q5 : b = 0
                · exact absurd (by rw [q1, q2, q3, q4, q5]; rfl) hz
                · simp [Tryd.f68, entry, h0, h1', hx, q5]
                  exact finS_eq rfl rfl
              · simp [Tryd.f68, entry, h0, h1', hx, q4]
                exact finS_eq rfl rfl
            · simp [Tryd.f68, entry, h0, h1', hx, q3]
              exact finS_eq rfl rfl
          · simp [Tryd.f68, entry, h0, h1', hx, q2]
            exact finS_eq rfl rfl
        · simp [Tryd.f68, entry, h0, h1', hx, q1]
          exact finS_eq rfl rfl

/-- the contract of mean, to a depth of k -/
def gMean (k : Nat) (p : List AEntry) (i : Int) : Option AConst := if checkPool p = 0 ∧ (k = 0 → tagAt p i = 7) then some (meanC p i) else none
theorem mean_step {k : Nat} {E : Env} (okx : OkX Tryd.prog (XE E)) (ht : E.look 78 = some (liftS 9 (fn2 (cL cEntry) cInt encInt fun p i => some (tagAt p i))))
    (hm : k ≠ 0 → E.look 69 = some (liftS 9 (fn2 (cL cEntry) cInt encConst (gMean 0)))) : SoundP Tryd.prog gl 69 (fn2 (cL cEntry) cInt encConst (gMean k)) := by
  refine soundP_of_wk okx mixed Tryd.func69 rfl rfl fun args r h G0 => ?_
  obtain ⟨p, i, e, rfl, he, rfl⟩ := fn2_inv h
  simp only [gMean, Option.ite_none_right_eq_some, Option.some.injEq] at he
  obtain ⟨⟨hc, hk⟩, rfl⟩ := he
  by_cases h0 : tagAt p i = 0
  · have hr : meanC p i = noConst := by
      have : (entAt p i).tag = 0 := h0
      simp [meanC, this]
    rw [hr]
    simp [Tryd.f69, entry, ht, h0]
    exact finS_eq (by simp [noConst]) rfl
  · obtain ⟨hi, hlt, hent⟩ := entAt_tag h0
    have hfit := ent_fits hc h0
    have hx : p[i.toNat]? = some p[i.toNat] := List.getElem?_eq_getElem hlt
    have hxe : p[i.toNat] = entAt p i := by rw [hent, List.getD_eq_getElem?_getD, hx]; rfl
    have htag : tagAt p i = (entAt p i).tag := rfl
    have h7 := fun h => class_tag hc (i := i) h
    have h9 := fun h => ref_tag hc (i := i) h
    have fact : ∀ {j : Int}, tagAt p j ≠ 0 → 0 ≤ j ∧ ∃ hj : j.toNat < p.length, p[j.toNat]? = some p[j.toNat] ∧ p[j.toNat] = entAt p j := fun {j} hj => by
      obtain ⟨q1, q2, q3⟩ := entAt_tag hj
      exact ⟨q1, q2, List.getElem?_eq_getElem q2, by rw [q3, List.getD_eq_getElem?_getD, List.getElem?_eq_getElem q2]; rfl⟩
    have hmc : meanC p i = meanC p i := rfl
    conv at hmc => rhs; unfold meanC
    simp only at hmc
    generalize hX : entAt p i = X at *
    obtain ⟨tg, tx, n, a, b⟩ := X
    simp only at htag hmc h7 h9
    rw [htag] at h7 h9
    by_cases t3 : tg = 3
    · subst t3
      rw [if_pos (.inl rfl)] at hmc
      rw [hmc]
      simp [Tryd.f69, entry, ht, htag, hi, hx, hxe]
      exact finS_eq rfl rfl
    by_cases t5 : tg = 5
    · subst t5
      rw [if_pos (.inr rfl)] at hmc
      rw [hmc]
      simp [Tryd.f69, entry, ht, htag, hi, hx, hxe]
      exact finS_eq rfl rfl
    rw [if_neg (by rintro (h | h) <;> contradiction)] at hmc
    by_cases t7 : tg = 7
    · subst t7
      rw [if_pos rfl] at hmc
      rw [hmc]
      have ha := h7 rfl
      obtain ⟨g1, g2, g3, g4⟩ := fact (j := a) (by rw [ha]; decide)
      simp [Tryd.f69, entry, ht, htag, hi, hx, hxe, g1, g3, g4]
      exact finS_eq rfl rfl
    rw [if_neg t7] at hmc
    by_cases t910 : tg = 9 ∨ tg = 10
    · rw [if_pos t910] at hmc
      rw [hmc]
      obtain ⟨ha, hb⟩ := h9 t910
      have hb2 := name_tag hc hb
      have hm' := hm (fun e => by have := hk e; rw [htag] at this; contradiction)
      have hma : meanC p a = ⟨7, 0, (entAt p (entAt p a).a).text, [], []⟩ := by
        have : (entAt p a).tag = 7 := ha
        simp [meanC, this]
      obtain ⟨g1, g2, g3, g4⟩ := fact (j := b) (by rw [hb]; decide)
      generalize hY : entAt p b = Y at *
      obtain ⟨yt, yx, yn, ya, yb⟩ := Y
      obtain ⟨u1, u2, u3, u4⟩ := fact (j := ya) (by rw [hb2.1]; decide)
      obtain ⟨v1, v2, v3, v4⟩ := fact (j := yb) (by rw [hb2.2]; decide)
      have ne0 : ¬ tg = 0 := by rcases t910 with h | h <;> rw [h] <;> decide
      rcases t910 with h | h <;> subst h
      · simp [Tryd.f69, entry, ht, htag, hi, hx, hxe]
        refine dk_ofA [(7, 2), (8, 3)] [5, 5] [(9, .tup []), (10, .tup []), (2, .ptr 1 0 0 3), (3, .tup [.fn (.func 69) [] [], .sl (p.map encEntry), .int .i64 a]), (6, .ptr 1 0 0 4), (7, .tup [.sl (p.map encEntry), .int .i64 b]), (8, .rp (encEntry ⟨yt, yx, yn, ya, yb⟩) 0)] (by decide) ?_
        simp [List.lookup, hm', gMean, hc, ha, g1, g3, g4, hma]
        refine sdA_loc rfl rfl rfl ?_ ?_
        · simp (decide := true) [steadyKL, farP, locKey, List.lookup, blind, hm', gMean, hc, ha, hma, g1, g3, g4]
        simp [List.lookup]
        refine sdA_loc rfl rfl rfl ?_ ?_
        · simp (decide := true) [steadyKL, farP, locKey, List.lookup, blind, hm', gMean, hc, ha, hma, g1, g3, g4]
        simp [List.lookup]
        refine sdA_ofL rfl ?_ ?_
        · simp (decide := true) [steadyL, ldEq, blind, hm', gMean, hc, ha, hma, g1, g3, g4]
        simp [List.lookup]
        refine sdA_of (by decide) ?_
        simp
        refine dk_of (by decide) ?_
        simp [u1, u3, u4, v1, v3, v4]
        refine sd_of (by decide) ?_
        simp
        exact finS_eq rfl rfl
      · simp [Tryd.f69, entry, ht, htag, hi, hx, hxe]
        refine dk_ofA [(7, 2), (8, 3)] [5, 5] [(9, .tup []), (10, .tup []), (2, .ptr 1 0 0 3), (3, .tup [.fn (.func 69) [] [], .sl (p.map encEntry), .int .i64 a]), (6, .ptr 1 0 0 4), (7, .tup [.sl (p.map encEntry), .int .i64 b]), (8, .rp (encEntry ⟨yt, yx, yn, ya, yb⟩) 0)] (by decide) ?_
        simp [List.lookup, hm', gMean, hc, ha, g1, g3, g4, hma]
        refine sdA_loc rfl rfl rfl ?_ ?_
        · simp (decide := true) [steadyKL, farP, locKey, List.lookup, blind, hm', gMean, hc, ha, hma, g1, g3, g4]
        simp [List.lookup]
        refine sdA_loc rfl rfl rfl ?_ ?_
        · simp (decide := true) [steadyKL, farP, locKey, List.lookup, blind, hm', gMean, hc, ha, hma, g1, g3, g4]
        simp [List.lookup]
        refine sdA_ofL rfl ?_ ?_
        · simp (decide := true) [steadyL, ldEq, blind, hm', gMean, hc, ha, hma, g1, g3, g4]
        simp [List.lookup]
        refine sdA_of (by decide) ?_
        simp
        refine dk_of (by decide) ?_
        simp [u1, u3, u4, v1, v3, v4]
        refine sd_of (by decide) ?_
        simp
        exact finS_eq rfl rfl
    rw [if_neg t910] at hmc
    rw [hmc]
    have n9 : ¬ tg = 9 := fun h => t910 (.inl h)
    have n10 : ¬ tg = 10 := fun h => t910 (.inr h)
    have ne0 : ¬ tg = 0 := by rw [← htag]; exact h0
    simp [Tryd.f69, entry, ht, htag, hi, hx, hxe, t3, t5, t7, n9, n10, ne0]
    exact finS_eq rfl rfl
theorem p_mean0 : SoundP Tryd.prog gl 69 (fn2 (cL cEntry) cInt encConst (gMean 0)) := mean_step (k := 0) (okX_nil.addP p_tag) rfl (fun h => absurd rfl h)
theorem p_mean : SoundP Tryd.prog gl 69 (fn2 (cL cEntry) cInt encConst (gMean 1)) := mean_step (k := 1) ((okX_nil.addP p_tag).addP p_mean0) rfl (fun _ => rfl)
theorem p_poolConst : SoundP Tryd.prog gl 57 (fn2 (cL cEntry) cInt (fun r : AConst × Int => .tup [encConst r.1, .int .i64 r.2]) fun p i => if p.length < 1099511627776 then some (constT p i) else none) := by
  refine soundP_of_wk ((okX_nil.addP p_mean).addP p_Check) mixed Tryd.func57 rfl rfl fun args r h G0 => ?_
  obtain ⟨p, i, e, rfl, he, rfl⟩ := fn2_inv h
  simp only [Option.ite_none_right_eq_some, Option.some.injEq] at he
  obtain ⟨hs, rfl⟩ := he
  by_cases hc : checkPool p = 0
  · have hg : gMean 1 p i = some (meanC p i) := by unfold gMean; rw [if_pos ⟨hc, fun h => by cases h⟩]
    by_cases h0 : (meanC p i).tag = 0
    · have hr : constT p i = (meanC p i, 2) := by unfold constT; rw [if_pos hc, if_pos h0]
      rw [hr]
      simp [Tryd.f57, entry, hs, hc, hg, h0]
      exact finS_eq (by simp) rfl
    · have hr : constT p i = (meanC p i, 0) := by unfold constT; rw [if_pos hc, if_neg h0]
      rw [hr]
      simp [Tryd.f57, entry, hs, hc, hg, h0]
      exact finS_eq rfl rfl
  · have h70 : checkPool p = 70 := by
      unfold checkPool at hc ⊢
      split
      · rfl
      · split
        · rename_i h1 h2
          rw [if_neg h1, if_pos h2] at hc
          exact absurd rfl hc
        · rfl
    have hr : constT p i = (noConst, 70) := by unfold constT; rw [if_neg hc]
    rw [hr]
    simp [Tryd.f57, entry, hs, h70]
    exact finS_eq (by simp [noConst]) rfl
end Go.Proofs.YtollfopbmbjnhaaDoor.Lift
namespace Go.Proofs.YtollfopbmbjnhaaDoor.Lift
open Go
set_option maxRecDepth 100000

def hConst (av : List AV) (_ : Sto) (h : AHand) : Option (AV × AHand) := match av with
  | [c, .int .i64 k, .int .i64 tag] => (decClass c).bind fun c => if c.pool.length < 1099511627776 then some (encConst (constH c.pool k tag h).1, (constH c.pool k tag h).2) else none
  | _ => none
theorem ok_const : OkX Tryd.prog (XE [(57, liftS 9 (fn2 (cL cEntry) cInt (fun r : AConst × Int => .tup [encConst r.1, .int .i64 r.2]) fun p i => if p.length < 1099511627776 then some (constT p i) else none)), (44, handS hMust)]) := (okX_nil.add f_must).addP p_poolConst
set_option maxHeartbeats 1000000 in
theorem f_constant : SoundF Tryd.prog gl 45 (handS hConst) := by
  refine hand_of_wk' ok_const Tryd.func45 rfl rfl fun av q hh r h' hm => ?_
  unfold hConst at hm
  split at hm
  · rename_i cv k tag
    obtain ⟨c, hc, hm2⟩ := Option.bind_eq_some_iff.1 hm
    have := cClass.ed _ _ hc
    subst this
    clear hc hm
    split at hm2
    · rename_i hlen
      cases hm2
      refine ⟨cConst.fz _, fun p0 p1 p2 p3 p4 hc G0 => ?_⟩
      unfold constH
      simp only
      cases hct : constT c.pool k with
      | mk x e =>
        obtain ⟨xt, xn, xc, xm, xy⟩ := x
        by_cases h0 : e = 0
        · by_cases h1 : xt = tag
          · cases hb : hh.bad with
            | true =>
              simp [Tryd.f45, entry, handS_eq, hMust, hlen, hct, h0, h1, mustT, hb, noConst]
            | false =>
              simp [Tryd.f45, entry, handS_eq, hMust, hlen, hct, h0, h1, mustT, hb]
          · simp [Tryd.f45, entry, handS_eq, hMust, hlen, hct, h0, h1, mustT, noConst]
        · simp [Tryd.f45, entry, handS_eq, hMust, hlen, hct, h0, mustT, noConst]
    · cases hm2
  · cases hm

def hKind (av : List AV) (_ : Sto) (h : AHand) : Option (AV × AHand) := match av with
  | [.str s] => (kindH s h).map fun r => (encTy r.1, r.2)
  | _ => none
theorem ok_kindOf : OkX Tryd.prog (XE [(58, liftS 9 (fn1 cStr encTyErr fun s => if s.length < 1099511627776 then some (parse s) else none)), (44, handS hMust)]) := (okX_nil.add f_must).addP p_kindParse
theorem f_kindOf : SoundF Tryd.prog gl 46 (handS hKind) := by
  refine hand_of_wk' ok_kindOf Tryd.func46 rfl rfl fun av q hh r h' hm => ?_
  unfold hKind at hm
  split at hm
  · rename_i s
    obtain ⟨⟨t, h1⟩, he, hr⟩ := Option.map_eq_some_iff.1 hm
    cases hr
    refine ⟨cTy.fz _, fun p0 p1 p2 p3 p4 hc G0 => ?_⟩
    unfold kindH at he
    split at he
    · rename_i hs
      cases he
      cases hp : parse s with
      | mk x e =>
        obtain ⟨xk, xn⟩ := x
        simp [Tryd.f46, entry, handS_eq, hMust, hs, hp]
    · cases he
  · cases hm

def hClass (av : List AV) (_ : Sto) (h : AHand) : Option (AV × AHand) := match av with
  | [c, .int .i64 k] => (decClass c).bind fun c => if c.pool.length < 1099511627776 then (classH c.pool k h).map fun r => (.str r.1, r.2) else none
  | _ => none
theorem ok_class : OkX Tryd.prog (XE [(61, liftS 9 (fn1 cTy encSErr fun x => if x.name.length < 1099511600000 then some (print x) else none)), (47, liftS 9 (fn1 cStr encTy fun s => some (namedT s))), (45, handS hConst), (44, handS hMust)]) :=
  (((okX_nil.add f_must).add f_constant).addP p_named).addP p_kindPrint
set_option maxHeartbeats 1000000 in
theorem f_class : SoundF Tryd.prog gl 49 (handS hClass) := by
  refine hand_of_wk' ok_class Tryd.func49 rfl rfl fun av q hh r h' hm => ?_
  unfold hClass at hm
  split at hm
  · rename_i cv k
    obtain ⟨c, hc, hm2⟩ := Option.bind_eq_some_iff.1 hm
    have := cClass.ed _ _ hc
    subst this
    clear hc hm
    split at hm2
    · rename_i hlen
      obtain ⟨⟨s, h1⟩, he, hr⟩ := Option.map_eq_some_iff.1 hm2
      cases hr
      refine ⟨rfl, fun p0 p1 p2 p3 p4 hc G0 => ?_⟩
      unfold classH at he
      generalize hk : constH c.pool k 7 hh = kk at he
      obtain ⟨⟨xt, xn, xc, xm, xy⟩, h2⟩ := kk
      simp only at he
      split at he
      · rename_i hl
        cases he
        cases hp : print ⟨4, xc⟩ with
        | mk s e =>
          simp [Tryd.f49, entry, handS_eq, hMust, hConst, hlen, hk, namedT, hl, hp]
      · cases he
    · cases hm2
  · cases hm

def hAnswers (av : List AV) (_ : Sto) (h : AHand) : Option (AV × AHand) := match av with
  | [i, b] => (decInstr i).bind fun i => (decTy b).bind fun b => (answersO i.op b h).map fun r => (.bool r.1, r.2)
  | _ => none
theorem ok_answers : OkX Tryd.prog (XE [(31, handS hPop), (44, handS hMust)]) := (okX_nil.add f_must).add f_pop
@[simp] theorem decTys_sl (xs : List AV) : decTys (.sl xs) = mapO decTy xs := rfl
theorem popO_one (x : ATy) (h : AHand) : popO [x] h = pop1 x h := by
  simp only [popO, List.reverse_singleton, popR]
  cases pop1 x h <;> rfl
set_option maxHeartbeats 1000000 in
theorem f_answers : SoundF Tryd.prog gl 19 (handS hAnswers) := by
  refine hand_of_wk' (ok_answers.b [41]) Tryd.func19 rfl rfl fun av q hh r h' hm => ?_
  unfold hAnswers at hm
  split at hm
  · rename_i iv bv
    obtain ⟨i, hi, hm2⟩ := Option.bind_eq_some_iff.1 hm
    have := cInstr.ed _ _ hi
    subst this
    obtain ⟨b, hb, hm3⟩ := Option.bind_eq_some_iff.1 hm2
    have := cTy.ed _ _ hb
    subst this
    clear hi hm hm2 hb
    obtain ⟨⟨rb, h1⟩, he, hr⟩ := Option.map_eq_some_iff.1 hm3
    cases hr
    refine ⟨rfl, fun p0 p1 p2 p3 p4 hc G0 => ?_⟩
    obtain ⟨bk, bn⟩ := b
    unfold answersO at he
    by_cases h177 : i.op = 177
    · rw [if_pos h177] at he
      cases he
      simp [Tryd.f19, entry, handS_eq, hMust, h177]
    · rw [if_neg h177] at he
      have key : ∀ (o w : Int), i.op = o → (o = 172 ∧ w = 1 ∨ o = 173 ∧ w = 2 ∨ o = 176 ∧ w = 4) → ∃ h2, pop1 ⟨bk, bn⟩ (mustT (decide (bk = w) && (decide (w = 4) || decide (bn = []))) hh) = some h2 ∧ rb = true ∧ h1 = h2 := fun o w ho hw => by
        have hop : i.op = 172 ∨ i.op = 173 ∨ i.op = 176 := by rcases hw with h | h | h <;> omega
        rw [if_pos hop] at he
        obtain ⟨h2, q1, q2⟩ := Option.map_eq_some_iff.1 he
        cases q2
        refine ⟨_, ?_, rfl, rfl⟩
        rw [← q1]
        rcases hw with ⟨e1, e2⟩ | ⟨e1, e2⟩ | ⟨e1, e2⟩ <;> subst e1 e2 <;> simp [ho]
      by_cases h172 : i.op = 172
      · obtain ⟨h2, q1, rfl, rfl⟩ := key 172 1 h172 (.inl ⟨rfl, rfl⟩)
        by_cases hk : bk = 1
        · simp [hk] at q1
          simp [Tryd.f19, entry, handS_eq, hMust, hPop, popO_one, h172, hk, q1]
        · simp [hk] at q1
          simp [Tryd.f19, entry, handS_eq, hMust, hPop, popO_one, h172, hk, q1]
      by_cases h173 : i.op = 173
      · obtain ⟨h2, q1, rfl, rfl⟩ := key 173 2 h173 (.inr (.inl ⟨rfl, rfl⟩))
        by_cases hk : bk = 2
        · simp [hk] at q1
          simp [Tryd.f19, entry, handS_eq, hMust, hPop, popO_one, h173, hk, q1]
        · simp [hk] at q1
          simp [Tryd.f19, entry, handS_eq, hMust, hPop, popO_one, h173, hk, q1]
      by_cases h176 : i.op = 176
      · obtain ⟨h2, q1, rfl, rfl⟩ := key 176 4 h176 (.inr (.inr ⟨rfl, rfl⟩))
        by_cases hk : bk = 4
        · simp [hk] at q1
          simp [Tryd.f19, entry, handS_eq, hMust, hPop, popO_one, h176, hk, q1]
        · simp [hk] at q1
          simp [Tryd.f19, entry, handS_eq, hMust, hPop, popO_one, h176, hk, q1]
      rw [if_neg (by omega)] at he
      cases he
      simp [Tryd.f19, entry, h172, h173, h176, h177]
  · cases hm
end Go.Proofs.YtollfopbmbjnhaaDoor.Lift
namespace Go.Proofs.YtollfopbmbjnhaaDoor.Lift
open Go
set_option maxRecDepth 100000

/-- a text of bytes below 128 -/
def asciiT (s : Str) : Bool := s.all fun c => decide (c.toNat < 128)
theorem asciiT_get {s : Str} (h : asciiT s = true) {i : Nat} (hi : i < s.length) : s[i].toNat < 128 := of_decide_eq_true (List.all_eq_true.1 h _ (List.getElem_mem hi))
theorem lettersT_drop {s : Str} {i : Nat} (hi : i < s.length) : lettersT (s.drop i) = letterT s[i].toNat :: lettersT (s.drop (i + 1)) := by
  rw [List.drop_eq_getElem_cons hi]
  rfl
/-- each letter's type is popped, or pushed -/
noncomputable def eachS : Spec := fun args st => match args with
  | [.str s, .fn (.func f) [p] []] => if asciiT s = true ∧ s.length < 1099511627776 then
      (if f = 31 then handS (fun _ _ h => (popR (lettersT s) h).map fun h' => (.tup [], h')) [p] st
       else if f = 32 then handS (fun _ _ h => (pushR (lettersT s) h).map fun h' => (.tup [], h')) [p] st else none) else none
  | _ => none
theorem eachS_pop {s : Str} {p : AV} {st : Sto} (h : asciiT s = true) (hl : s.length < 1099511627776) : eachS [.str s, .fn (.func 31) [p] []] st = handS (fun _ _ h => (popR (lettersT s) h).map fun h' => (.tup [], h')) [p] st := by
  simp [eachS, h, hl]
theorem eachS_push {s : Str} {p : AV} {st : Sto} (h : asciiT s = true) (hl : s.length < 1099511627776) : eachS [.str s, .fn (.func 32) [p] []] st = handS (fun _ _ h => (pushR (lettersT s) h).map fun h' => (.tup [], h')) [p] st := by
  simp [eachS, h, hl]
theorem ok_each : OkX Tryd.prog (XE [(31, handS hPop), (32, handS hPush), (27, liftS 9 (fn1 cRune encTy fun c => some (letterT c)))]) := ((okX_nil.addP p_letterT).add f_push).add f_pop
set_option maxHeartbeats 1000000 in
theorem f_each : SoundF Tryd.prog gl 26 eachS := by
  refine soundD_of_wk (ok_each.b [14]) mixed Tryd.func26 rfl rfl fun args st r st' hs hc => ?_
  unfold eachS at hs
  split at hs
  · rename_i s f p
    split at hs
    · rename_i hsl
      obtain ⟨ha, hl⟩ := hsl
      split at hs
      · rename_i hf
        subst hf
        obtain ⟨av, p0, p1, p2, p3, p4, hh, q, h', hav, rfl, hm, rfl⟩ := handS_inv hs
        cases hav
        obtain ⟨h2, hm, he⟩ := Option.map_eq_some_iff.1 hm
        cases he
        refine ⟨Nat.le_refl _, hand_shut hc, rfl, fun G0 => ?_⟩
        simp [Tryd.f26, entry]
        refine lp_of (ok_each.b [14]) mixed (fun (x : Nat × AHand) => ⟨16, frL [(1, .fn (.func 31) [.ptr 7 0 0 0] []), (7, .ptr (q.length + 8) 0 0 0)], handSto p0 p1 p2 p3 p4 x.2 (q ++ [.iter s x.1])⟩) (fun x => x.1 ≤ s.length ∧ popR (lettersT (s.drop x.1)) x.2 = some h') (fun x => s.length - x.1) (0, hh) ⟨Nat.zero_le _, hm⟩ (weak_frL rfl rfl (by simp)) ?_
        rintro ⟨i, hi⟩ ⟨hil, hfold⟩
        simp only at hil hfold ⊢
        by_cases h3 : i < s.length
        · have hx : s[i]? = some s[i] := by simp [h3]
          have hra := runeAt_ascii hx (asciiT_get ha h3)
          rw [lettersT_drop h3] at hfold
          simp only [popR] at hfold
          obtain ⟨h4, q1, q2⟩ := Option.bind_eq_some_iff.1 hfold
          simp [h3, hra, handS_eq, hPop, popO_one, q1]
          exact nextQ_of (i + 1, h4) ⟨h3, q2⟩ (by simp only; omega) (weak_frL rfl rfl (by simp))
        · have : i = s.length := by omega
          subst this
          rw [List.drop_length] at hfold
          cases hfold
          simp
      · split at hs
        · rename_i hf
          subst hf
          obtain ⟨av, p0, p1, p2, p3, p4, hh, q, h', hav, rfl, hm, rfl⟩ := handS_inv hs
          cases hav
          obtain ⟨h2, hm, he⟩ := Option.map_eq_some_iff.1 hm
          cases he
          refine ⟨Nat.le_refl _, hand_shut hc, rfl, fun G0 => ?_⟩
          simp [Tryd.f26, entry]
          refine lp_of (ok_each.b [14]) mixed (fun (x : Nat × AHand) => ⟨16, frL [(1, .fn (.func 32) [.ptr 7 0 0 0] []), (7, .ptr (q.length + 8) 0 0 0)], handSto p0 p1 p2 p3 p4 x.2 (q ++ [.iter s x.1])⟩) (fun x => x.1 ≤ s.length ∧ pushR (lettersT (s.drop x.1)) x.2 = some h') (fun x => s.length - x.1) (0, hh) ⟨Nat.zero_le _, hm⟩ (weak_frL rfl rfl (by simp)) ?_
          rintro ⟨i, hi⟩ ⟨hil, hfold⟩
          simp only at hil hfold ⊢
          by_cases h3 : i < s.length
          · have hx : s[i]? = some s[i] := by simp [h3]
            have hra := runeAt_ascii hx (asciiT_get ha h3)
            rw [lettersT_drop h3] at hfold
            simp only [pushR] at hfold
            obtain ⟨h4, q1, q2⟩ := Option.bind_eq_some_iff.1 hfold
            simp [h3, hra, handS_eq, hPush, q1]
            exact nextQ_of (i + 1, h4) ⟨h3, q2⟩ (by simp only; omega) (weak_frL rfl rfl (by simp))
          · have : i = s.length := by omega
            subst this
            rw [List.drop_length] at hfold
            cases hfold
            simp
        · cases hs
    · cases hs
  · cases hs

end Go.Proofs.YtollfopbmbjnhaaDoor.Lift
namespace Go.Proofs.YtollfopbmbjnhaaDoor.Lift
open Go
set_option maxRecDepth 100000

/-- a list of which the first and the last i are swapped -/
def revAt (l : Str) (i : Nat) : Str := List.ofFn fun k : Fin l.length => if k.val < i ∨ l.length - i ≤ k.val then l[l.length - 1 - k.val]'(by omega) else l[k.val]
theorem revAt_length (l : Str) (i : Nat) : (revAt l i).length = l.length := by simp [revAt]
theorem revAt_get {l : Str} {i k : Nat} (h : k < l.length) : (revAt l i)[k]? = some (if k < i ∨ l.length - i ≤ k then l[l.length - 1 - k]'(by omega) else l[k]) := by
  unfold revAt
  rw [List.getElem?_ofFn, dif_pos h]
theorem revAt_zero (l : Str) : revAt l 0 = l := by
  refine List.ext_getElem? fun k => ?_
  by_cases hk : k < l.length
  · rw [revAt_get hk, if_neg (by omega), List.getElem?_eq_getElem hk]
  · rw [List.getElem?_eq_none (by rw [revAt_length]; omega), List.getElem?_eq_none (by omega)]
theorem revAt_end {l : Str} {i : Nat} (h : l.length ≤ 2 * i + 1) : revAt l i = l.reverse := by
  refine List.ext_getElem? fun k => ?_
  by_cases hk : k < l.length
  · rw [revAt_get hk, List.getElem?_reverse hk]
    split
    · rw [List.getElem?_eq_getElem]
    · have : l.length - 1 - k = k := by omega
      rw [List.getElem?_eq_getElem (by omega)]
      simp only [this]
  · rw [List.getElem?_eq_none (by rw [revAt_length]; omega), List.getElem?_eq_none (by simp; omega)]
theorem revAt_succ {l : Str} {i : Nat} (h : 2 * i + 1 < l.length) : ((revAt l i).set i (l[l.length - 1 - i]'(by omega))).set (l.length - 1 - i) (l[i]'(by omega)) = revAt l (i + 1) := by
  refine List.ext_getElem? fun k => ?_
  by_cases hk : k < l.length
  · rw [revAt_get hk, List.getElem?_set, List.getElem?_set, List.length_set, revAt_length]
    by_cases h1 : l.length - 1 - i = k
    · subst h1
      rw [if_pos rfl, if_pos (by omega), if_pos (by omega)]
      have : l.length - 1 - (l.length - 1 - i) = i := by omega
      simp only [this]
    · rw [if_neg h1]
      by_cases h2 : i = k
      · subst h2
        rw [if_pos rfl, if_pos (by omega), if_pos (by omega)]
      · rw [if_neg h2, revAt_get hk]
        by_cases h3 : k < i ∨ l.length - i ≤ k
        · rw [if_pos h3, if_pos (by omega)]
        · rw [if_neg h3, if_neg (by omega)]
  · rw [List.getElem?_eq_none (by simp [revAt_length]; omega), List.getElem?_eq_none (by rw [revAt_length]; omega)]

/-- Reverse of bytes in the store -/
def sRev : Spec := fun args st => match args with
  | [.sr b g 0 n] => match st[b]? with
    | some (.row 1 g' 0 xs) => match mapO decByte xs with
      | some l => if g' = g ∧ l.length = n ∧ n < 1099511627776 then some (.tup [], st.set b (.row 1 g 0 (l.reverse.map encByte))) else none
      | none => none
    | _ => none
  | _ => none
attribute [-simp] List.map_set
@[simp] theorem set_byte (l : Str) (i : Nat) (c : UInt8) : (l.map encByte).set i (.int .u8 c.toNat) = (l.set i c).map encByte := by rw [List.map_set]; rfl
theorem set_set_same (st : Sto) (b : Nat) (x y : ABlk) : (st.set b x).set b y = st.set b y := List.set_set _
set_option maxHeartbeats 1000000 in
theorem f_Reverse : SoundF Tryd.prog gl 28 sRev := by
  refine soundF_of_wk okX_nil mixed Tryd.func28 rfl rfl fun args st r st' hs G0 => ?_
  unfold sRev at hs
  split at hs
  · rename_i b g n
    split at hs
    · rename_i g' xs hb
      split at hs
      · rename_i l hl
        split at hs
        · rename_i hc
          obtain ⟨rfl, rfl, hn⟩ := hc
          cases hs
          have := mapO_inv decByte_ed _ _ hl
          subst this
          have hblt : b < st.length := (List.getElem?_eq_some_iff.1 hb).1
          have hw0 := wrap_i64 (show (-9223372036854775808 : Int) ≤ (l.length : Int) - 1 by omega) (by omega)
          have hst0 : st = st.set b (.row 1 g' 0 ((revAt l 0).map encByte)) := by
            rw [revAt_zero]
            obtain ⟨h1, h2⟩ := List.getElem?_eq_some_iff.1 hb
            have e : (ABlk.row 1 g' 0 (l.map encByte)) = st[b] := h2.symm
            rw [e, List.set_getElem_self]
          simp [Tryd.f28, entry, hw0]
          refine lp_of okX_nil mixed (fun (i : Nat) => ⟨28, frL [(0, .sr b g' 0 l.length), (2, .int .i64 i), (3, .int .i64 ((l.length : Int) - 1 - i))], st.set b (.row 1 g' 0 ((revAt l i).map encByte))⟩) (fun i => 2 * i ≤ l.length + 1) (fun i => l.length - i) 0 (by omega) (weak_frL rfl hst0 (by simp)) ?_
          intro i hi
          by_cases h3 : 2 * i + 1 < l.length
          · have hc1 : ((i : Int) < (l.length : Int) - 1 - i) = True := eq_true (by omega)
            have hi1 : i < l.length := by omega
            have hj1 : ((l.length : Int) - 1 - i < l.length) = True := eq_true (by omega)
            have hj2 : (0 ≤ (l.length : Int) - 1 - i) = True := eq_true (by omega)
            have hj3 : ((l.length : Int) - 1 - i).toNat = l.length - 1 - i := by omega
            have hgi : (revAt l i)[i]? = some l[i] := by rw [revAt_get hi1, if_neg (by omega)]
            have hgj : (revAt l i)[l.length - 1 - i]? = some (l[l.length - 1 - i]'(by omega)) := by rw [revAt_get (by omega), if_neg (by omega)]
            simp [hc1]
            refine dk_of (by decide) ?_
            have hj4 : ((i : Int) ≤ (l.length : Int) - 1) = True := eq_true (by omega)
            have hlr : ∀ k, (revAt l k).length = l.length := revAt_length l
            have hw1 := wrap_i64 (show (-9223372036854775808 : Int) ≤ (i : Int) + 1 by omega) (by omega)
            have hw2 := wrap_i64 (show (-9223372036854775808 : Int) ≤ (l.length : Int) - 1 - i - 1 by omega) (by omega)
            simp [hblt, hj1, hj3, hj4, hi1, hgi, hgj]
            refine sd_of (by decide) ?_
            have hgj2 : ((revAt l i).set i (l[l.length - 1 - i]'(by omega)))[l.length - 1 - i]? = some (l[l.length - 1 - i]'(by omega)) := by rw [List.getElem?_set_ne (by omega)]; exact hgj
            simp [hblt, hj1, hj3, hj4, hgj2]
            refine sd_of (by decide) ?_
            simp [hw1, hw2]
            refine nextQ_of (i + 1) (by omega) (by omega) (weak_frL rfl ?_ ?_)
            · simp only [revAt_succ h3]
            · simp
              omega
          · have hc1 : ((i : Int) < (l.length : Int) - 1 - i) = False := eq_false (by omega)
            have hrev : List.map encByte (revAt l i) = (List.map encByte l).reverse := by rw [revAt_end (l := l) (i := i) (by omega), List.map_reverse]
            simp [hc1, hrev]
        · cases hs
      · cases hs
    · cases hs
  · cases hs

theorem indexByte_self (c : UInt8) : Lib.indexByte [c] c = 0 := by simp [Lib.indexByte]
theorem p_Index1 : SoundP Tryd.prog gl 66 (fn2 cStr cStr encInt fun s p => match p with | [c] => if s.length < 1099511627776 then some (Lib.indexByte s c) else none | _ => none) := by
  refine soundP_of_wk (okX_nil.addP p_slIndexByte) mixed Tryd.func66 rfl rfl fun args r h G0 => ?_
  obtain ⟨s, p, e, rfl, he, rfl⟩ := fn2_inv h
  split at he
  · rename_i c
    simp only [Option.ite_none_right_eq_some, Option.some.injEq] at he
    obtain ⟨hs, rfl⟩ := he
    by_cases hq : s = [c]
    · subst hq
      simp [Tryd.f66, entry, indexByte_self]
      exact finS_eq (by simp) rfl
    · have hq' : ¬ [c] = s := fun e => hq e.symm
      simp [Tryd.f66, entry, hq']
      exact finS_fz (by simp)
  · cases he
@[simp] def encSSB (x : Str × Str × Bool) : AV := .tup [.str x.1, .str x.2.1, .bool x.2.2]
def cutAt (s : Str) (c : UInt8) : Str × Str × Bool := if 0 ≤ Lib.indexByte s c then (s.take (Lib.indexByte s c).toNat, s.drop ((Lib.indexByte s c).toNat + 1), true) else (s, [], false)
def gCut (s p : Str) : Option (Str × Str × Bool) := match p with | [c] => if s.length < 1099511627776 then some (cutAt s c) else none | _ => none
theorem p_slCut : SoundP Tryd.prog gl 54 (fn2 cStr cStr encSSB gCut) := by
  refine soundP_of_wk (okX_nil.addP p_Index1) mixed Tryd.func54 rfl rfl fun args r h G0 => ?_
  obtain ⟨s, p, e, rfl, he, rfl⟩ := fn2_inv h
  unfold gCut at he
  split at he
  · rename_i c
    simp only [Option.ite_none_right_eq_some, Option.some.injEq] at he
    obtain ⟨hs, rfl⟩ := he
    unfold cutAt
    rcases indexByte_lt s c with hlt | hlt
    · by_cases hi : 0 ≤ Lib.indexByte s c
      · rw [if_pos hi]
        obtain ⟨j, hj⟩ : ∃ j : Nat, Lib.indexByte s c = j := ⟨(Lib.indexByte s c).toNat, by omega⟩
        rw [hj] at hlt ⊢
        have hw := wrap_i64 (show (-9223372036854775808 : Int) ≤ (j : Int) + 1 by omega) (by omega)
        have h1 : j ≤ s.length := by omega
        have h2 : j + 1 ≤ s.length := by omega
        have h3 : (0 ≤ (j : Int) + 1) = True := eq_true (by omega)
        have h4 : ((j : Int) + 1).toNat = j + 1 := by omega
        simp [Tryd.f54, entry, hs, hj]
        refine dk_of (by decide) ?_
        simp [hw, h1, h2, h3, h4]
        exact finS_fz (by simp)
      · rw [if_neg hi]
        simp [Tryd.f54, entry, hs, hi]
        exact finS_fz (by simp)
    · rw [if_neg (by omega)]
      simp [Tryd.f54, entry, hs, hlt]
      exact finS_fz (by simp)
  · cases he
theorem p_Cut : SoundP Tryd.prog gl 25 (fn2 cStr cStr encSSB gCut) := by
  refine soundP_of_wk (okX_nil.addP p_slCut) mixed Tryd.func25 rfl rfl fun args r h G0 => ?_
  obtain ⟨s, p, e, rfl, he, rfl⟩ := fn2_inv h
  simp [Tryd.f25, entry, he]
  exact finS_fz (by simp)
/-- a text that is cut where it was put together -/
theorem indexByte_app {a b : Str} {c : UInt8} (h : c ∉ a) : Lib.indexByte (a ++ c :: b) c = a.length := by
  induction a with
  | nil => simp [Lib.indexByte]
  | cons x a ih =>
    simp only [List.mem_cons, not_or] at h
    have h1 : (x == c) = false := by simpa using fun e => h.1 e.symm
    simp only [List.cons_append, Lib.indexByte, h1, ih h.2, List.length_cons]
    have : ((a.length : Int) == -1) = false := by simp
    rw [this]
    simp
theorem cutAt_app {a b : Str} {c : UInt8} (h : c ∉ a) : cutAt (a ++ c :: b) c = (a, b, true) := by
  unfold cutAt
  rw [indexByte_app h, if_pos (by omega)]
  simp
/-- an effect's text -/
def hDoes (av : List AV) (_ : Sto) (h : AHand) : Option (AV × AHand) := match av with
  | [.str e] => if (cutAt e 62).2.2 = true ∧ asciiT (cutAt e 62).1 = true ∧ asciiT (cutAt e 62).2.1 = true ∧ e.length < 1000 then (doesO (cutAt e 62).1 (cutAt e 62).2.1 h).map fun h' => (.tup [], h') else none
  | _ => none
@[simp] theorem map_byte_eq (l : Str) : (l.map fun c : UInt8 => AV.int .u8 (c.toNat : Int)) = l.map encByte := rfl
@[simp] theorem bytesOf_enc : ∀ l : Str, bytesOf (l.map encByte) = some l
  | [] => rfl
  | c :: l => by simp [bytesOf_enc l]
theorem asciiT_reverse (s : Str) : asciiT s.reverse = asciiT s := by simp [asciiT]
theorem pre82 (s : Str) : (([82] : Str) <+: s.reverse) = (s.getLast? = some 82) := by
  rcases List.eq_nil_or_concat s with rfl | ⟨u, c, rfl⟩
  · simp
  · simp [List.cons_prefix_cons, eq_comm]
theorem ok_does : OkX Tryd.prog (XE [(25, liftS 9 (fn2 cStr cStr encSSB gCut)), (29, liftS 9 (fn2 cStr cStr encSB fun s p => some (cutPrefix s p))), (28, sRev), (26, eachS), (30, handS hRef)]) :=
  ((((okX_nil.add f_ref).add f_each).add f_Reverse).addP p_CutPrefix).addP p_Cut
set_option maxHeartbeats 1000000 in
theorem f_does : SoundF Tryd.prog gl 17 (handS hDoes) := by
  refine hand_of_wk' ok_does Tryd.func17 rfl rfl fun av q hh r h' hm => ?_
  unfold hDoes at hm
  split at hm
  · rename_i e
    split at hm
    · rename_i hc
      obtain ⟨h1, h2, h3, h4⟩ := hc
      obtain ⟨h'', hd, he⟩ := Option.map_eq_some_iff.1 hm
      cases he
      clear hm
      refine ⟨rfl, fun p0 p1 p2 p3 p4 hc G0 => ?_⟩
      have hlen : e.length < 1099511627776 := by omega
      have hcut : gCut e [62] = some (cutAt e 62) := by simp [gCut, hlen]
      have hl1 : (cutAt e 62).1.length < 1099511627776 ∧ (cutAt e 62).2.1.length < 1099511627776 := by
        unfold cutAt
        split
        · simp; omega
        · simp; omega
      generalize cutAt e 62 = x at *
      obtain ⟨pops, pushes, ok⟩ := x
      simp only at h1 h2 h3 hd hl1
      subst h1
      obtain ⟨h5, hp, hq⟩ := Option.bind_eq_some_iff.1 hd
      unfold popsO at hp
      have hby : bytesOf (List.take pops.length (List.map encByte pops).reverse) = some pops.reverse := by
        rw [← List.map_reverse, List.take_of_length_le (by simp), bytesOf_enc]
      by_cases hR : pops.getLast? = some 82
      · rw [if_pos hR] at hp
        have hcp : cutPrefix pops.reverse [82] = (pops.reverse.drop 1, true) := by unfold cutPrefix; exact if_pos (by rw [pre82]; exact hR)
        obtain ⟨⟨ta, ha⟩, hr1, hr2⟩ := Option.bind_eq_some_iff.1 hp
        simp only at hr2
        by_cases hdl : pops.dropLast = []
        · rw [if_pos hdl] at hr2
          cases hr2
          have hdr : pops.reverse.drop 1 = [] := by rw [List.drop_one, List.tail_reverse, hdl]; rfl
          simp [Tryd.f17, entry, hcut, sRev, hl1, hby, hcp, hdr, handS_eq, hRef, hr1, eachS_push h3 hl1.2, hq]
        · rw [if_neg hdl] at hr2
          obtain ⟨⟨tb, hb⟩, hr3, hr4⟩ := Option.map_eq_some_iff.1 hr2
          cases hr4
          have hdr : ¬ pops.reverse.drop 1 = [] := by rw [List.drop_one, List.tail_reverse]; simpa using hdl
          simp at hdr
          simp [Tryd.f17, entry, hcut, sRev, hl1, hby, hcp, hdr, handS_eq, hRef, hr1, hr3, eachS_push h3 hl1.2, hq]
      · rw [if_neg hR] at hp
        have hcp : cutPrefix pops.reverse [82] = (pops.reverse, false) := by unfold cutPrefix; exact if_neg (by rw [pre82]; exact hR)
        simp [Tryd.f17, entry, hcut, sRev, hl1, hby, hcp, handS_eq, eachS_pop ((asciiT_reverse pops).trans h2) (show pops.reverse.length < 1099511627776 by simpa using hl1.1), hp, eachS_push h3 hl1.2, hq]
    · cases hm
  · cases hm
/-- effect: its text -/
def effectS (op : Int) : Str × Bool := match effectT op with
  | some e => (e.1 ++ 62 :: e.2, true)
  | none => ([], false)
set_option maxHeartbeats 4000000 in
theorem p_effect : SoundP Tryd.prog gl 16 (fn1 cInt encSB fun op => some (effectS op)) := by
  refine soundP_of_wk okX_nil mixed Tryd.func16 rfl rfl fun args r h G0 => ?_
  obtain ⟨op, e, rfl, he, rfl⟩ := fn1_inv h
  cases he
  clear h
  simp [Tryd.f16, entry]
  refine br_dec (fun h => ?_) (fun h0 => ?_)
  · subst h
    simp
    exact finS_eq rfl rfl
  simp
  refine br_dec (fun h => ?_) (fun h167 => ?_)
  · subst h
    simp
    exact finS_eq rfl rfl
  simp
  refine br_dec (fun h => ?_) (fun h1 => ?_)
  · subst h
    simp
    exact finS_eq rfl rfl
  simp
  refine br_dec (fun h => ?_) (fun h9 => ?_)
  · subst h
    simp
    exact finS_eq rfl rfl
  simp
  refine br_dec (fun h => ?_) (fun h17 => ?_)
  · subst h
    simp
    exact finS_eq rfl rfl
  simp
  refine br_dec (fun h => ?_) (fun h46 => ?_)
  · subst h
    simp
    exact finS_eq rfl rfl
  simp
  refine br_dec (fun h => ?_) (fun h47 => ?_)
  · subst h
    simp
    exact finS_eq rfl rfl
  simp
  refine br_dec (fun h => ?_) (fun h51 => ?_)
  · subst h
    simp
    exact finS_eq rfl rfl
  simp
  refine br_dec (fun h => ?_) (fun h79 => ?_)
  · subst h
    simp
    exact finS_eq rfl rfl
  simp
  refine br_dec (fun h => ?_) (fun h80 => ?_)
  · subst h
    simp
    exact finS_eq rfl rfl
  simp
  refine br_dec (fun h => ?_) (fun h84 => ?_)
  · subst h
    simp
    exact finS_eq rfl rfl
  simp
  refine br_dec (fun h => ?_) (fun h96 => ?_)
  · subst h
    simp
    exact finS_eq rfl rfl
  simp
  refine br_dec (fun h => ?_) (fun h100 => ?_)
  · subst h
    simp
    exact finS_eq rfl rfl
  simp
  refine br_dec (fun h => ?_) (fun h104 => ?_)
  · subst h
    simp
    exact finS_eq rfl rfl
  simp
  refine br_dec (fun h => ?_) (fun h108 => ?_)
  · subst h
    simp
    exact finS_eq rfl rfl
  simp
  refine br_dec (fun h => ?_) (fun h112 => ?_)
  · subst h
    simp
    exact finS_eq rfl rfl
  simp
  refine br_dec (fun h => ?_) (fun h120 => ?_)
  · subst h
    simp
    exact finS_eq rfl rfl
  simp
  refine br_dec (fun h => ?_) (fun h122 => ?_)
  · subst h
    simp
    exact finS_eq rfl rfl
  simp
  refine br_dec (fun h => ?_) (fun h124 => ?_)
  · subst h
    simp
    exact finS_eq rfl rfl
  simp
  refine br_dec (fun h => ?_) (fun h126 => ?_)
  · subst h
    simp
    exact finS_eq rfl rfl
  simp
  refine br_dec (fun h => ?_) (fun h128 => ?_)
  · subst h
    simp
    exact finS_eq rfl rfl
  simp
  refine br_dec (fun h => ?_) (fun h130 => ?_)
  · subst h
    simp
    exact finS_eq rfl rfl
  simp
  refine br_dec (fun h => ?_) (fun h97 => ?_)
  · subst h
    simp
    exact finS_eq rfl rfl
  simp
  refine br_dec (fun h => ?_) (fun h101 => ?_)
  · subst h
    simp
    exact finS_eq rfl rfl
  simp
  refine br_dec (fun h => ?_) (fun h105 => ?_)
  · subst h
    simp
    exact finS_eq rfl rfl
  simp
  refine br_dec (fun h => ?_) (fun h109 => ?_)
  · subst h
    simp
    exact finS_eq rfl rfl
  simp
  refine br_dec (fun h => ?_) (fun h113 => ?_)
  · subst h
    simp
    exact finS_eq rfl rfl
  simp
  refine br_dec (fun h => ?_) (fun h127 => ?_)
  · subst h
    simp
    exact finS_eq rfl rfl
  simp
  refine br_dec (fun h => ?_) (fun h129 => ?_)
  · subst h
    simp
    exact finS_eq rfl rfl
  simp
  refine br_dec (fun h => ?_) (fun h131 => ?_)
  · subst h
    simp
    exact finS_eq rfl rfl
  simp
  refine br_dec (fun h => ?_) (fun h121 => ?_)
  · subst h
    simp
    exact finS_eq rfl rfl
  simp
  refine br_dec (fun h => ?_) (fun h123 => ?_)
  · subst h
    simp
    exact finS_eq rfl rfl
  simp
  refine br_dec (fun h => ?_) (fun h125 => ?_)
  · subst h
    simp
    exact finS_eq rfl rfl
  simp
  refine br_dec (fun h => ?_) (fun h116 => ?_)
  · subst h
    simp
    exact finS_eq rfl rfl
  simp
  refine br_dec (fun h => ?_) (fun h145 => ?_)
  · subst h
    simp
    exact finS_eq rfl rfl
  simp
  refine br_dec (fun h => ?_) (fun h146 => ?_)
  · subst h
    simp
    exact finS_eq rfl rfl
  simp
  refine br_dec (fun h => ?_) (fun h147 => ?_)
  · subst h
    simp
    exact finS_eq rfl rfl
  simp
  refine br_dec (fun h => ?_) (fun h117 => ?_)
  · subst h
    simp
    exact finS_eq rfl rfl
  simp
  refine br_dec (fun h => ?_) (fun h133 => ?_)
  · subst h
    simp
    exact finS_eq rfl rfl
  simp
  refine br_dec (fun h => ?_) (fun h136 => ?_)
  · subst h
    simp
    exact finS_eq rfl rfl
  simp
  refine br_dec (fun h => ?_) (fun h148 => ?_)
  · subst h
    simp
    exact finS_eq rfl rfl
  simp
  refine br_dec (fun h => ?_) (fun h153 => ?_)
  · subst h
    simp
    exact finS_eq rfl rfl
  simp
  refine br_dec (fun h => ?_) (fun h154 => ?_)
  · subst h
    simp
    exact finS_eq rfl rfl
  simp
  refine br_dec (fun h => ?_) (fun h155 => ?_)
  · subst h
    simp
    exact finS_eq rfl rfl
  simp
  refine br_dec (fun h => ?_) (fun h156 => ?_)
  · subst h
    simp
    exact finS_eq rfl rfl
  simp
  refine br_dec (fun h => ?_) (fun h157 => ?_)
  · subst h
    simp
    exact finS_eq rfl rfl
  simp
  refine br_dec (fun h => ?_) (fun h158 => ?_)
  · subst h
    simp
    exact finS_eq rfl rfl
  simp
  refine br_dec (fun h => ?_) (fun h170 => ?_)
  · subst h
    simp
    exact finS_eq rfl rfl
  simp
  refine br_dec (fun h => ?_) (fun h171 => ?_)
  · subst h
    simp
    exact finS_eq rfl rfl
  simp
  refine br_dec (fun h => ?_) (fun h159 => ?_)
  · subst h
    simp
    exact finS_eq rfl rfl
  simp
  refine br_dec (fun h => ?_) (fun h160 => ?_)
  · subst h
    simp
    exact finS_eq rfl rfl
  simp
  refine br_dec (fun h => ?_) (fun h161 => ?_)
  · subst h
    simp
    exact finS_eq rfl rfl
  simp
  refine br_dec (fun h => ?_) (fun h162 => ?_)
  · subst h
    simp
    exact finS_eq rfl rfl
  simp
  refine br_dec (fun h => ?_) (fun h163 => ?_)
  · subst h
    simp
    exact finS_eq rfl rfl
  simp
  refine br_dec (fun h => ?_) (fun h164 => ?_)
  · subst h
    simp
    exact finS_eq rfl rfl
  simp
  refine br_dec (fun h => ?_) (fun h165 => ?_)
  · subst h
    simp
    exact finS_eq rfl rfl
  simp
  refine br_dec (fun h => ?_) (fun h166 => ?_)
  · subst h
    simp
    exact finS_eq rfl rfl
  simp
  refine br_dec (fun h => ?_) (fun h194 => ?_)
  · subst h
    simp
    exact finS_eq rfl rfl
  simp
  refine br_dec (fun h => ?_) (fun h195 => ?_)
  · subst h
    simp
    exact finS_eq rfl rfl
  simp
  refine br_dec (fun h => ?_) (fun h198 => ?_)
  · subst h
    simp
    exact finS_eq rfl rfl
  simp
  refine br_dec (fun h => ?_) (fun h199 => ?_)
  · subst h
    simp
    exact finS_eq rfl rfl
  simp
  refine br_dec (fun h => ?_) (fun h191 => ?_)
  · subst h
    simp
    exact finS_eq rfl rfl
  simp
  have hn : effectT op = none := by simp [effectT, effTab, h0, h167, h1, h9, h17, h46, h47, h51, h79, h80, h84, h96, h100, h104, h108, h112, h120, h122, h124, h126, h128, h130, h97, h101, h105, h109, h113, h127, h129, h131, h121, h123, h125, h116, h145, h146, h147, h117, h133, h136, h148, h153, h154, h155, h156, h157, h158, h170, h171, h159, h160, h161, h162, h163, h164, h165, h166, h194, h195, h198, h199, h191]
  exact finS_eq (by simp [effectS, hn]) rfl
end Go.Proofs.YtollfopbmbjnhaaDoor.Lift
namespace Go.Proofs.YtollfopbmbjnhaaDoor.Lift
open Go
set_option maxRecDepth 100000

theorem letterT_I : letterT 73 = ⟨1, []⟩ := rfl
theorem letterT_J : letterT 74 = ⟨2, []⟩ := rfl
def hMoves (av : List AV) (_ : Sto) (h : AHand) : Option (AV × AHand) := match av with
  | [i] => (decInstr i).bind fun i => (movesO i.op i.a h).map fun r => (.bool r.1, r.2)
  | _ => none
theorem ok_moves : OkX Tryd.prog (XE [(31, handS hPop), (32, handS hPush), (30, handS hRef), (40, handS hSingle), (41, handS hTop),
    (33, handS hLocal), (42, handS hElems), (39, handS hSet), (27, liftS 9 (fn1 cRune encTy fun c => some (letterT c)))]) :=
  ((((((((okX_nil.addP p_letterT).add f_set).add f_elems).add f_local).add f_top).add f_single).add f_ref).add f_push).add f_pop
set_option maxHeartbeats 4000000 in
theorem f_moves : SoundF Tryd.prog gl 18 (handS hMoves) := by
  refine hand_of_wk' (ok_moves.b [26, 36, 45, 58, 69, 103, 115, 126, 138, 147, 153, 158, 166, 176]) Tryd.func18 rfl rfl fun av q hh r h' hm => ?_
  unfold hMoves at hm
  split at hm
  · rename_i iv
    obtain ⟨i, hi, hm2⟩ := Option.bind_eq_some_iff.1 hm
    have := cInstr.ed _ _ hi
    subst this
    obtain ⟨⟨rb, h1⟩, he, hr⟩ := Option.map_eq_some_iff.1 hm2
    cases hr
    clear hm hm2 hi
    refine ⟨rfl, fun p0 p1 p2 p3 p4 hc G0 => ?_⟩
    obtain ⟨iat, op, a, b, cs⟩ := i
    simp only at he
    unfold movesO tI tJ at he
    simp [Tryd.f18, entry, letterT_I, letterT_J]
    refine br_dec (fun h => ?_) (fun h21 => ?_)
    · rw [if_pos h] at he
      subst h
      obtain ⟨h2, q1, q2⟩ := Option.map_eq_some_iff.1 he
      cases q2
      simp [handS_eq, hLocal, hPush, willOf, q1]
    rw [if_neg h21] at he
    simp
    refine br_dec (fun h => ?_) (fun h22 => ?_)
    · rw [if_pos h] at he
      subst h
      obtain ⟨h2, q1, q2⟩ := Option.map_eq_some_iff.1 he
      cases q2
      simp [handS_eq, hLocal, hPush, willOf, q1]
    rw [if_neg h22] at he
    simp
    refine br_dec (fun h => ?_) (fun h25 => ?_)
    · rw [if_pos h] at he
      subst h
      obtain ⟨h2, q1, q2⟩ := Option.map_eq_some_iff.1 he
      cases q2
      simp [handS_eq, hLocal, hPush, willOf, q1]
    rw [if_neg h25] at he
    simp
    refine br_dec (fun h => ?_) (fun h132 => ?_)
    · rw [if_pos h] at he
      subst h
      cases he
      simp [handS_eq, hLocal, willOf]
    rw [if_neg h132] at he
    simp
    refine br_dec (fun h => ?_) (fun h54 => ?_)
    · rw [if_pos h] at he
      subst h
      obtain ⟨h2, q1, q2⟩ := Option.map_eq_some_iff.1 he
      cases q2
      obtain ⟨h3, q3, q4⟩ := Option.bind_eq_some_iff.1 q1
      simp [handS_eq, hPop, hSet, popO_one, q3, q4]
    rw [if_neg h54] at he
    simp
    refine br_dec (fun h => ?_) (fun h55 => ?_)
    · rw [if_pos h] at he
      subst h
      obtain ⟨h2, q1, q2⟩ := Option.map_eq_some_iff.1 he
      cases q2
      obtain ⟨h3, q3, q4⟩ := Option.bind_eq_some_iff.1 q1
      simp [handS_eq, hPop, hSet, popO_one, q3, q4]
    rw [if_neg h55] at he
    simp
    refine br_dec (fun h => ?_) (fun h58 => ?_)
    · rw [if_pos h] at he
      subst h
      obtain ⟨h2, q1, q2⟩ := Option.map_eq_some_iff.1 he
      cases q2
      obtain ⟨⟨t, h3⟩, q3, q4⟩ := Option.bind_eq_some_iff.1 q1
      simp
      refine dk_ofL [(2, .ptr (q.length + 8) 0 0 2)] (by decide) ?_
      simp [List.lookup, handS_eq, hRef, q3]
      refine sd_ofL rfl ?_ ?_
      · simp [steadyL, ldEq]
      simp [List.lookup, handS_eq, hSet, q4]
      refine sd_of (by decide) ?_
      simp
    rw [if_neg h58] at he
    simp
    refine br_dec (fun h => ?_) (fun h87 => ?_)
    · rw [if_pos h] at he
      subst h
      obtain ⟨⟨t, h2⟩, q1, q2⟩ := Option.map_eq_some_iff.1 he
      cases q2
      simp [handS_eq, hSingle, q1]
    rw [if_neg h87] at he
    simp
    refine br_dec (fun h => ?_) (fun h88 => ?_)
    · rw [if_pos h] at he
      subst h
      obtain ⟨⟨t, h2⟩, q1, q2⟩ := Option.bind_eq_some_iff.1 he
      simp only at q2
      by_cases hk : t.kind = 2
      · rw [if_pos hk] at q2
        cases q2
        simp [handS_eq, hTop, q1, hk]
      · rw [if_neg hk] at q2
        obtain ⟨⟨t3, h3⟩, q3, q4⟩ := Option.map_eq_some_iff.1 q2
        cases q4
        simp [handS_eq, hSingle, hTop, q1, hk, q3]
    rw [if_neg h88] at he
    simp
    refine br_dec (fun h => ?_) (fun h89 => ?_)
    · rw [if_pos h] at he
      subst h
      obtain ⟨⟨t, h2⟩, q1, q2⟩ := Option.bind_eq_some_iff.1 he
      obtain ⟨h3, q3, q4⟩ := Option.map_eq_some_iff.1 q2
      cases q4
      simp [handS_eq, hPush, hSingle, q1, q3]
    rw [if_neg h89] at he
    simp
    refine br_dec (fun h => ?_) (fun h90 => ?_)
    · rw [if_pos h] at he
      subst h
      obtain ⟨⟨t, h2⟩, q1, q2⟩ := Option.bind_eq_some_iff.1 he
      obtain ⟨⟨t3, h3⟩, q3, q4⟩ := Option.bind_eq_some_iff.1 q2
      obtain ⟨h4, q5, q6⟩ := Option.map_eq_some_iff.1 q4
      cases q6
      simp [handS_eq, hPush, hSingle, q1, q3, q5]
    rw [if_neg h90] at he
    simp
    refine br_dec (fun h => ?_) (fun h95 => ?_)
    · rw [if_pos h] at he
      subst h
      obtain ⟨⟨t, h2⟩, q1, q2⟩ := Option.bind_eq_some_iff.1 he
      obtain ⟨⟨t3, h3⟩, q3, q4⟩ := Option.bind_eq_some_iff.1 q2
      obtain ⟨h4, q5, q6⟩ := Option.map_eq_some_iff.1 q4
      cases q6
      simp [handS_eq, hPush, hSingle, q1, q3, q5]
    rw [if_neg h95] at he
    simp
    refine br_dec (fun h => ?_) (fun h92 => ?_)
    · rw [if_pos h] at he
      subst h
      obtain ⟨⟨t, h2⟩, q1, q2⟩ := Option.bind_eq_some_iff.1 he
      simp only at q2
      by_cases hk : t.kind = 2
      · rw [if_pos hk] at q2
        obtain ⟨h3, q3, q4⟩ := Option.map_eq_some_iff.1 q2
        cases q4
        obtain ⟨tk, tn⟩ := t
        simp only at hk
        subst hk
        simp [handS_eq, hPush, hTop, q1, q3]
      · rw [if_neg hk] at q2
        obtain ⟨⟨t3, h3⟩, q3, q4⟩ := Option.bind_eq_some_iff.1 q2
        obtain ⟨h4, q5, q6⟩ := Option.map_eq_some_iff.1 q4
        cases q6
        simp [handS_eq, hPush, hSingle, hTop, q1, hk, q3, q5]
    rw [if_neg h92] at he
    simp
    refine br_dec (fun h => ?_) (fun h50 => ?_)
    · rw [if_pos h] at he
      subst h
      obtain ⟨h2, q1, q2⟩ := Option.bind_eq_some_iff.1 he
      obtain ⟨⟨t3, h3⟩, q3, q4⟩ := Option.bind_eq_some_iff.1 q2
      obtain ⟨h4, q5, q6⟩ := Option.map_eq_some_iff.1 q4
      cases q6
      simp [handS_eq, hPush, hPop, hElems, willE, popO_one, q1, q3, q5]
    rw [if_neg h50] at he
    simp
    refine br_dec (fun h => ?_) (fun h83 => ?_)
    · rw [if_pos h] at he
      subst h
      obtain ⟨⟨t, h2⟩, q1, q2⟩ := Option.bind_eq_some_iff.1 he
      obtain ⟨h3, q3, q4⟩ := Option.bind_eq_some_iff.1 q2
      obtain ⟨⟨t4, h4⟩, q5, q6⟩ := Option.map_eq_some_iff.1 q4
      cases q6
      simp [handS_eq, hPop, hRef, hElems, willE, popO_one, q1, q3, q5]
    rw [if_neg h83] at he
    simp
    refine br_dec (fun h => ?_) (fun h190 => ?_)
    · rw [if_pos h] at he
      subst h
      obtain ⟨⟨t, h2⟩, q1, q2⟩ := Option.bind_eq_some_iff.1 he
      obtain ⟨h3, q3, q4⟩ := Option.map_eq_some_iff.1 q2
      cases q4
      simp [handS_eq, hPush, hElems, willE, q1, q3]
    rw [if_neg h190] at he
    simp
    cases he
    simp
  · cases hm
end Go.Proofs.YtollfopbmbjnhaaDoor.Lift
namespace Go.Proofs.YtollfopbmbjnhaaDoor.Lift
open Go
set_option maxRecDepth 100000

def hBound (av : List AV) (_ : Sto) (h : AHand) : Option (AV × AHand) := match av with
  | [c, i] => (decClass c).bind fun c => (decInstr i).bind fun i => if c.pool.length < 1099511627776 then (boundO c.pool i.op i.a h).map fun r => (.bool r.1, r.2) else none
  | _ => none
theorem ok_bound : OkX Tryd.prog (XE [(31, handS hPop), (32, handS hPush), (30, handS hRef), (44, handS hMust), (17, handS hDoes),
    (45, handS hConst), (46, handS hKind), (49, handS hClass), (27, liftS 9 (fn1 cRune encTy fun c => some (letterT c))), (47, liftS 9 (fn1 cStr encTy fun s => some (namedT s))),
    (48, liftS 9 (fn1 cStr encMethodR fun s => if s.length < 1099511627776 then some (method s) else none)), (50, liftS 9 (fn2 cStr cStr encBool fun s p => some (decide (p <+: s))))]) :=
  (((((((((((okX_nil.addP p_stringsHasPrefix).addP p_kindMethod).addP p_named).addP p_letterT).add f_class).add f_kindOf).add f_constant).add f_does).add f_must).add f_ref).add f_push).add f_pop
theorem kindH_len {s : Str} {h : AHand} {r : ATy × AHand} (e : kindH s h = some r) : s.length < 1099511627776 := by
  unfold kindH at e
  split at e
  · assumption
  · cases e
theorem cut_I : cutAt [62, 73] 62 = ([], [73], true) := by decide
theorem cut_J : cutAt [62, 74] 62 = ([], [74], true) := by decide
theorem cut_RI : cutAt [82, 62, 73] 62 = ([82], [73], true) := by decide
theorem does_I (h : AHand) : doesO [] [73] h = pushO [tI] h := by
  show (pushO [tI] h).bind (fun h => some h) = _
  cases pushO [tI] h <;> rfl
theorem does_J (h : AHand) : doesO [] [74] h = pushO [tJ] h := by
  show (pushO [tJ] h).bind (fun h => some h) = _
  cases pushO [tJ] h <;> rfl
set_option maxHeartbeats 4000000 in
theorem f_bound : SoundF Tryd.prog gl 20 (handS hBound) := by
  refine hand_of_wk' (ok_bound.b [56, 64, 71, 102, 109, 126, 132, 149, 155, 166, 180]) Tryd.func20 rfl rfl fun av q hh r h' hm => ?_
  unfold hBound at hm
  split at hm
  · rename_i cv iv
    obtain ⟨c, hc, hm2⟩ := Option.bind_eq_some_iff.1 hm
    have := cClass.ed _ _ hc
    subst this
    obtain ⟨i, hi, hm3⟩ := Option.bind_eq_some_iff.1 hm2
    have := cInstr.ed _ _ hi
    subst this
    split at hm3
    · rename_i hpool
      obtain ⟨⟨rb, h1⟩, he, hr⟩ := Option.map_eq_some_iff.1 hm3
      cases hr
      clear hm hm2 hm3 hc hi
      refine ⟨rfl, fun p0 p1 p2 p3 p4 hc G0 => ?_⟩
      obtain ⟨iat, op, a, b, cs⟩ := i
      simp only at he
      unfold boundO at he
      simp [Tryd.f20, entry]
      refine br_dec (fun h => ?_) (fun h18 => ?_)
      · rw [if_pos h] at he
        subst h
        generalize hk : constH c.pool a 3 hh = kk at he
        obtain ⟨⟨xt, xn, xc, xm, xy⟩, hx⟩ := kk
        obtain ⟨h2, q1, q2⟩ := Option.map_eq_some_iff.1 he
        cases q2
        simp [handS_eq, hConst, hDoes, hpool, namedT, hk, cut_I, asciiT, does_I, q1]
      rw [if_neg h18] at he
      simp
      refine br_dec (fun h => ?_) (fun h20 => ?_)
      · rw [if_pos h] at he
        subst h
        generalize hk : constH c.pool a 5 hh = kk at he
        obtain ⟨⟨xt, xn, xc, xm, xy⟩, hx⟩ := kk
        obtain ⟨h2, q1, q2⟩ := Option.map_eq_some_iff.1 he
        cases q2
        simp [handS_eq, hConst, hDoes, hpool, namedT, hk, cut_J, asciiT, does_J, q1]
      rw [if_neg h20] at he
      simp
      refine br_dec (fun h => ?_) (fun h178 => ?_)
      · rw [if_pos h] at he
        subst h
        generalize hk : constH c.pool a 9 hh = kk at he
        obtain ⟨⟨xt, xn, xc, xm, xy⟩, hx⟩ := kk
        obtain ⟨⟨t, h3⟩, q3, q4⟩ := Option.bind_eq_some_iff.1 he
        obtain ⟨h2, q1, q2⟩ := Option.map_eq_some_iff.1 q4
        cases q2
        simp [handS_eq, hConst, hKind, hPush, hpool, namedT, hk, q3, q1]
      rw [if_neg h178] at he
      simp
      refine br_dec (fun h => ?_) (fun h179 => ?_)
      · rw [if_pos h] at he
        subst h
        generalize hk : constH c.pool a 9 hh = kk at he
        obtain ⟨⟨xt, xn, xc, xm, xy⟩, hx⟩ := kk
        obtain ⟨⟨t, h3⟩, q3, q4⟩ := Option.bind_eq_some_iff.1 he
        obtain ⟨h2, q1, q2⟩ := Option.map_eq_some_iff.1 q4
        cases q2
        simp [handS_eq, hConst, hKind, hPop, popO_one, hpool, namedT, hk, q3, q1]
      rw [if_neg h179] at he
      simp
      refine br_dec (fun h => ?_) (fun h180 => ?_)
      · rw [if_pos h] at he
        subst h
        generalize hk : constH c.pool a 9 hh = kk at he
        obtain ⟨⟨xt, xn, xc, xm, xy⟩, hx⟩ := kk
        obtain ⟨⟨t, h3⟩, q3, q4⟩ := Option.bind_eq_some_iff.1 he
        obtain ⟨h4, q5, q6⟩ := Option.bind_eq_some_iff.1 q4
        unfold namedT at q5
        obtain ⟨h2, q1, q2⟩ := Option.map_eq_some_iff.1 q6
        cases q2
        simp [handS_eq, hConst, hKind, hPush, hPop, popO_one, hpool, namedT, hk, q3, q5, q1]
      rw [if_neg h180] at he
      simp
      refine br_dec (fun h => ?_) (fun h181 => ?_)
      · rw [if_pos h] at he
        subst h
        generalize hk : constH c.pool a 9 hh = kk at he
        obtain ⟨⟨xt, xn, xc, xm, xy⟩, hx⟩ := kk
        obtain ⟨⟨t, h3⟩, q3, q4⟩ := Option.bind_eq_some_iff.1 he
        obtain ⟨h4, q5, q6⟩ := Option.bind_eq_some_iff.1 q4
        obtain ⟨h2, q1, q2⟩ := Option.map_eq_some_iff.1 q6
        cases q2
        unfold namedT at q1
        simp [handS_eq, hConst, hKind, hPop, popO_one, hpool, namedT, hk, q3, q5, q1]
      rw [if_neg h181] at he
      simp
      refine br_dec (fun h => ?_) (fun h182 => ?_)
      · rw [if_pos (.inl h)] at he
        subst h
        generalize hk : constH c.pool a 10 hh = kk at he
        obtain ⟨⟨xt, xn, xc, xm, xy⟩, hx⟩ := kk
        simp only at he
        split at he
        · rename_i hl
          cases hmth : method xy with
          | mk ml mr =>
            obtain ⟨⟨mk, mn⟩, me⟩ := mr
            rw [hmth] at he
            simp only at he
            obtain ⟨h3, q3, q4⟩ := Option.bind_eq_some_iff.1 he
            have hml : ml.length < 1099511627776 := by
              have := method_len xy
              rw [hmth] at this
              simp only at this
              omega
            simp only [show (182 : Int) ≠ 184 by decide, if_false] at q4
            obtain ⟨h4, q7, q8⟩ := Option.bind_eq_some_iff.1 q4
            unfold namedT at q7
            by_cases h0 : mk = 0
            · rw [if_pos h0] at q8
              cases q8
              simp [handS_eq, hConst, hPop, hMust, popO_one, hpool, namedT, hk, hl, hmth, hml, q3, h0, q7]
            · rw [if_neg h0] at q8
              obtain ⟨h5, q5, q6⟩ := Option.map_eq_some_iff.1 q8
              cases q6
              simp [handS_eq, hConst, hPush, hPop, hMust, popO_one, hpool, namedT, hk, hl, hmth, hml, q3, h0, q7, q5]
        · cases he
      simp
      refine br_dec (fun h => ?_) (fun h183 => ?_)
      · rw [if_pos (.inr (.inl h))] at he
        subst h
        generalize hk : constH c.pool a 10 hh = kk at he
        obtain ⟨⟨xt, xn, xc, xm, xy⟩, hx⟩ := kk
        simp only at he
        split at he
        · rename_i hl
          cases hmth : method xy with
          | mk ml mr =>
            obtain ⟨⟨mk, mn⟩, me⟩ := mr
            rw [hmth] at he
            simp only at he
            obtain ⟨h3, q3, q4⟩ := Option.bind_eq_some_iff.1 he
            have hml : ml.length < 1099511627776 := by
              have := method_len xy
              rw [hmth] at this
              simp only at this
              omega
            simp only [show (183 : Int) ≠ 184 by decide, if_false] at q4
            obtain ⟨h4, q7, q8⟩ := Option.bind_eq_some_iff.1 q4
            unfold namedT at q7
            by_cases h0 : mk = 0
            · rw [if_pos h0] at q8
              cases q8
              simp [handS_eq, hConst, hPop, hMust, popO_one, hpool, namedT, hk, hl, hmth, hml, q3, h0, q7]
            · rw [if_neg h0] at q8
              obtain ⟨h5, q5, q6⟩ := Option.map_eq_some_iff.1 q8
              cases q6
              simp [handS_eq, hConst, hPush, hPop, hMust, popO_one, hpool, namedT, hk, hl, hmth, hml, q3, h0, q7, q5]
        · cases he
      simp
      refine br_dec (fun h => ?_) (fun h184 => ?_)
      · rw [if_pos (.inr (.inr h))] at he
        subst h
        generalize hk : constH c.pool a 10 hh = kk at he
        obtain ⟨⟨xt, xn, xc, xm, xy⟩, hx⟩ := kk
        simp only at he
        split at he
        · rename_i hl
          cases hmth : method xy with
          | mk ml mr =>
            obtain ⟨⟨mk, mn⟩, me⟩ := mr
            rw [hmth] at he
            simp only at he
            obtain ⟨h3, q3, q4⟩ := Option.bind_eq_some_iff.1 he
            have hml : ml.length < 1099511627776 := by
              have := method_len xy
              rw [hmth] at this
              simp only at this
              omega
            simp only [if_true, Option.bind_some] at q4
            by_cases h0 : mk = 0
            · rw [if_pos h0] at q4
              cases q4
              simp [handS_eq, hConst, hPop, hMust, hpool, namedT, hk, hl, hmth, hml, q3, h0]
            · rw [if_neg h0] at q4
              obtain ⟨h5, q5, q6⟩ := Option.map_eq_some_iff.1 q4
              cases q6
              simp [handS_eq, hConst, hPush, hPop, hMust, hpool, namedT, hk, hl, hmth, hml, q3, h0, q5]
        · cases he
      rw [if_neg (by rintro (h | h | h) <;> contradiction)] at he
      simp
      refine br_dec (fun h => ?_) (fun h187 => ?_)
      · rw [if_pos h] at he
        subst h
        obtain ⟨⟨s, h3⟩, q3, q4⟩ := Option.bind_eq_some_iff.1 he
        obtain ⟨⟨t, h4⟩, q5, q6⟩ := Option.bind_eq_some_iff.1 q4
        obtain ⟨h2, q1, q2⟩ := Option.map_eq_some_iff.1 q6
        cases q2
        simp [handS_eq, hKind, hClass, hPush, hMust, hpool, namedT, q3, q5, q1]
      rw [if_neg h187] at he
      simp
      refine br_dec (fun h => ?_) (fun h188 => ?_)
      · rw [if_pos h] at he
        subst h
        obtain ⟨h3, q3, q4⟩ := Option.bind_eq_some_iff.1 he
        unfold tI at q3
        obtain ⟨h2, q1, q2⟩ := Option.map_eq_some_iff.1 q4
        cases q2
        by_cases a8 : a = 8
        · subst a8
          simp at q1
          simp [handS_eq, hPush, hPop, hMust, popO_one, namedT, letterT_I, q3, q1]
        by_cases a10 : a = 10
        · subst a10
          simp at q1
          simp [handS_eq, hPush, hPop, hMust, popO_one, namedT, letterT_I, q3, q1]
        by_cases a11 : a = 11
        · subst a11
          simp at q1
          simp [handS_eq, hPush, hPop, hMust, popO_one, namedT, letterT_I, q3, q1]
        have b8 : ¬ 8 = a := fun e => a8 e.symm
        have b10 : ¬ 10 = a := fun e => a10 e.symm
        have b11 : ¬ 11 = a := fun e => a11 e.symm
        simp [a8, a10, a11] at q1
        simp [handS_eq, hPush, hPop, hMust, popO_one, namedT, letterT_I, q3, q1, b8, b10, b11]
      rw [if_neg h188] at he
      simp
      refine br_dec (fun h => ?_) (fun h189 => ?_)
      · rw [if_pos h] at he
        subst h
        obtain ⟨h5, q7, q8⟩ := Option.bind_eq_some_iff.1 he
        unfold tI at q7
        obtain ⟨⟨s, h3⟩, q3, q4⟩ := Option.bind_eq_some_iff.1 q8
        obtain ⟨⟨t, h4⟩, q5, q6⟩ := Option.bind_eq_some_iff.1 q4
        obtain ⟨h2, q1, q2⟩ := Option.map_eq_some_iff.1 q6
        cases q2
        have hsl : 1 + s.length ≤ 4611686018427387904 := by
          have := kindH_len q5
          simp at this
          omega
        simp [handS_eq, hKind, hClass, hPush, hPop, popO_one, hpool, namedT, letterT_I, q7, q3, q5, q1, hsl]
      rw [if_neg h189] at he
      simp
      refine br_dec (fun h => ?_) (fun h192 => ?_)
      · rw [if_pos h] at he
        subst h
        obtain ⟨⟨t0, h5⟩, q7, q8⟩ := Option.bind_eq_some_iff.1 he
        obtain ⟨⟨s, h3⟩, q3, q4⟩ := Option.bind_eq_some_iff.1 q8
        obtain ⟨⟨t, h4⟩, q5, q6⟩ := Option.bind_eq_some_iff.1 q4
        obtain ⟨h2, q1, q2⟩ := Option.map_eq_some_iff.1 q6
        cases q2
        simp [handS_eq, hKind, hClass, hPush, hRef, hpool, namedT, q7, q3, q5, q1]
      rw [if_neg h192] at he
      simp
      refine br_dec (fun h => ?_) (fun h193 => ?_)
      · rw [if_pos h] at he
        subst h
        obtain ⟨⟨s, h3⟩, q3, q4⟩ := Option.bind_eq_some_iff.1 he
        obtain ⟨h2, q1, q2⟩ := Option.map_eq_some_iff.1 q4
        cases q2
        simp [handS_eq, hClass, hDoes, hpool, namedT, q3, cut_RI, asciiT, q1]
      rw [if_neg h193] at he
      simp
      cases he
      simp
    · cases hm3
  · cases hm
end Go.Proofs.YtollfopbmbjnhaaDoor.Lift
namespace Go.Proofs.YtollfopbmbjnhaaDoor.Lift
open Go
set_option maxRecDepth 100000

def plPairs : List (Int × Int) := [(26, 21), (30, 22), (42, 25), (59, 54), (63, 55), (75, 58)]
def plStep (op : Int) (x p : Int × Int) : Int × Int := if p.1 ≤ op ∧ op < p.1 + 4 then (p.2, op - p.1) else x
def plain0 (op a : Int) : Int × Int := if 2 ≤ op ∧ op ≤ 8 then (17, op - 3) else if op = 10 then (9, 1) else if op = 16 then (17, a) else if op = 19 then (18, a) else (op, a)
theorem plain_fold (op a : Int) : plPairs.foldl (plStep op) (plain0 op a) = plainO op a := by
  simp only [plPairs, List.foldl_cons, List.foldl_nil, plStep, plain0, plainO]
  by_cases h1 : 2 ≤ op ∧ op ≤ 8
  · rw [if_neg (by omega), if_neg (by omega), if_neg (by omega), if_neg (by omega), if_neg (by omega), if_neg (by omega), if_pos h1, if_pos h1]
  by_cases h2 : op = 10
  · rw [if_neg (by omega), if_neg (by omega), if_neg (by omega), if_neg (by omega), if_neg (by omega), if_neg (by omega), if_neg h1, if_pos h2, if_neg h1, if_pos h2]
  by_cases h3 : op = 16
  · rw [if_neg (by omega), if_neg (by omega), if_neg (by omega), if_neg (by omega), if_neg (by omega), if_neg (by omega), if_neg h1, if_neg h2, if_pos h3, if_neg h1, if_neg h2, if_pos h3]
  by_cases h4 : op = 19
  · rw [if_neg (by omega), if_neg (by omega), if_neg (by omega), if_neg (by omega), if_neg (by omega), if_neg (by omega), if_neg h1, if_neg h2, if_neg h3, if_pos h4, if_neg h1, if_neg h2, if_neg h3, if_pos h4]
  simp only [if_neg h1, if_neg h2, if_neg h3, if_neg h4]
  by_cases h5 : 26 ≤ op ∧ op < 30
  · rw [if_neg (by omega), if_neg (by omega), if_neg (by omega), if_neg (by omega), if_neg (by omega), if_pos (by omega), if_pos (by omega)]
  by_cases h6 : 30 ≤ op ∧ op < 34
  · rw [if_neg (by omega), if_neg (by omega), if_neg (by omega), if_neg (by omega), if_pos (by omega), if_neg (by omega), if_pos (by omega)]
  by_cases h7 : 42 ≤ op ∧ op < 46
  · rw [if_neg (by omega), if_neg (by omega), if_neg (by omega), if_pos (by omega), if_neg (by omega), if_neg (by omega), if_pos (by omega)]
  by_cases h8 : 59 ≤ op ∧ op < 63
  · rw [if_neg (by omega), if_neg (by omega), if_pos (by omega), if_neg (by omega), if_neg (by omega), if_neg (by omega), if_pos (by omega)]
  by_cases h9 : 63 ≤ op ∧ op < 67
  · rw [if_neg (by omega), if_pos (by omega), if_neg (by omega), if_neg (by omega), if_neg (by omega), if_neg (by omega), if_pos (by omega)]
  by_cases h10 : 75 ≤ op ∧ op < 79
  · rw [if_pos (by omega), if_neg (by omega), if_neg (by omega), if_neg (by omega), if_neg (by omega), if_neg (by omega), if_pos (by omega)]
  rw [if_neg (by omega), if_neg (by omega), if_neg (by omega), if_neg (by omega), if_neg (by omega), if_neg (by omega), if_neg (by omega), if_neg (by omega), if_neg (by omega), if_neg (by omega), if_neg (by omega), if_neg (by omega)]
def pairAV (p : Int × Int) : AV := .agg [.int .i64 p.1, .int .i64 p.2]
@[simp] theorem blwL_pairs (k : Nat) : blwL k (plPairs.map pairAV) = true := rfl
theorem plPairs_get {k : Nat} (h : k < 6) : ∃ p, plPairs[k]? = some p ∧ plPairs.drop k = p :: plPairs.drop (k + 1) ∧ 0 ≤ p.1 ∧ p.1 < 100 := by
  have hl : k < plPairs.length := h
  refine ⟨plPairs[k], List.getElem?_eq_getElem hl, List.drop_eq_getElem_cons hl, ?_⟩
  have : ∀ p ∈ plPairs, 0 ≤ p.1 ∧ p.1 < 100 := by decide
  exact this _ (List.getElem_mem hl)
set_option maxHeartbeats 4000000 in
theorem p_Plain : SoundP Tryd.prog gl 15 (fn1 cInstr encInstr fun i => some (plainT i)) := by
  refine soundP_of_wk (okX_nil.b [38]) mixed Tryd.func15 rfl rfl fun args r h G0 => ?_
  obtain ⟨i, e, rfl, he, rfl⟩ := fn1_inv h
  cases he
  clear h
  obtain ⟨iat, op, a, b, cs⟩ := i
  by_cases h1 : 2 ≤ op
  · by_cases h2 : op ≤ 8
    · have wop := wrap_i64 (show (-9223372036854775808 : Int) ≤ op - 3 by omega) (by omega)
      simp [Tryd.f15, entry, h1, h2, wop]
      refine lp_of (okX_nil.b [38]) mixed (fun (x : Nat × Int × Int) => ⟨65, frL [(1, .ptr 0 0 0 0), (2, .ptr 1 0 0 0), (3, .int .i64 op), (38, .sl (plPairs.map pairAV)), (39, .int .i64 6), (40, .int .i64 x.1)], [.row 5 0 0 [.agg [.int .i64 iat, .int .i64 x.2.1, .int .i64 x.2.2, .int .i64 b, .sl (cs.map encCase)]], .row 5 0 0 [.agg [.int .i64 0, .int .i64 0, .int .i64 0, .int .i64 0, .snil]]]⟩)
        (fun x => x.1 ≤ 6 ∧ (plPairs.drop x.1).foldl (plStep op) x.2 = plainO op a) (fun x => 6 - x.1) (0, 17, op - 3) ⟨by simp, by rw [← plain_fold op a, show plain0 op a = (17, op - 3) from if_pos ⟨h1, h2⟩]; rfl⟩ (weak_frL rfl rfl (by simp [plPairs, pairAV])) ?_
      rintro ⟨k, o1, a1⟩ ⟨hk, hf⟩
      simp only at hk hf ⊢
      by_cases h6 : k < 6
      · obtain ⟨⟨lo, to⟩, hp, hd, hlo, hhi⟩ := plPairs_get h6
        simp only at hlo hhi
        rw [hd, List.foldl_cons] at hf
        have w4 := wrap_i64 (show (-9223372036854775808 : Int) ≤ lo + 4 by omega) (by omega)
        have wk1 := wrap_i64 (show (-9223372036854775808 : Int) ≤ (k : Int) + 1 by omega) (by omega)
        have h6' : ((k : Int) < 6) = True := eq_true (by omega)
        by_cases g1 : lo ≤ op
        · by_cases g2 : op < lo + 4
          · have hs : plStep op (o1, a1) (lo, to) = (to, op - lo) := if_pos ⟨g1, g2⟩
            rw [hs] at hf
            have wd := wrap_i64 (show (-9223372036854775808 : Int) ≤ op - lo by omega) (by omega)
            simp [h6', hp, pairAV, g1, g2, w4]
            refine dk_ofL [(3, .tup [.ptr 2 0 0 0, .int .i64 0]), (4, .ptr 2 0 0 0)] (by decide) ?_
            simp [List.lookup, wd]
            refine sd_ofL rfl ?_ ?_
            · simp [steadyL, ldEq, blind]
            simp [List.lookup]
            refine sd_of (by decide) ?_
            simp [wk1]
            exact nextQ_less (k + 1, to, op - lo) ⟨by simp only; omega, hf⟩ (by simp only; omega) (less_take fz_gl G0.2 rfl rfl (by simp) (by simp))
          · have hs : plStep op (o1, a1) (lo, to) = (o1, a1) := if_neg (fun h => g2 h.2)
            rw [hs] at hf
            simp [h6', hp, pairAV, g1, g2, w4, wk1]
            exact nextQ_less (k + 1, o1, a1) ⟨by simp only; omega, hf⟩ (by simp only; omega) (less_take fz_gl G0.2 rfl rfl (by simp) (by simp))
        · have hs : plStep op (o1, a1) (lo, to) = (o1, a1) := if_neg (fun h => g1 h.1)
          rw [hs] at hf
          simp [h6', hp, pairAV, g1, wk1]
          exact nextQ_less (k + 1, o1, a1) ⟨by simp only; omega, hf⟩ (by simp only; omega) (less_take fz_gl G0.2 rfl rfl (by simp) (by simp))
      · have h6' : ((k : Int) < 6) = False := eq_false (by omega)
        have hk6 : k = 6 := by omega
        subst hk6
        have hf' : (o1, a1) = plainO op a := hf
        simp
        exact finS_eq (by simp [plainT, ← hf']) (by simp)
    · by_cases h10 : op = 10
      · subst h10
        simp [Tryd.f15, entry]
        refine lp_of (okX_nil.b [38]) mixed (fun (x : Nat × Int × Int) => ⟨65, frL [(1, .ptr 0 0 0 0), (2, .ptr 1 0 0 0), (3, .int .i64 10), (38, .sl (plPairs.map pairAV)), (39, .int .i64 6), (40, .int .i64 x.1)], [.row 5 0 0 [.agg [.int .i64 iat, .int .i64 x.2.1, .int .i64 x.2.2, .int .i64 b, .sl (cs.map encCase)]], .row 5 0 0 [.agg [.int .i64 0, .int .i64 0, .int .i64 0, .int .i64 0, .snil]]]⟩)
          (fun x => x.1 ≤ 6 ∧ (plPairs.drop x.1).foldl (plStep 10) x.2 = plainO 10 a) (fun x => 6 - x.1) (0, 9, 1) ⟨by simp, by rw [← plain_fold 10 a, show plain0 10 a = (9, 1) from rfl]; rfl⟩ (weak_frL rfl rfl (by simp [plPairs, pairAV])) ?_
        rintro ⟨k, o1, a1⟩ ⟨hk, hf⟩
        simp only at hk hf ⊢
        by_cases h6 : k < 6
        · obtain ⟨⟨lo, to⟩, hp, hd, hlo, hhi⟩ := plPairs_get h6
          simp only at hlo hhi
          rw [hd, List.foldl_cons] at hf
          have w4 := wrap_i64 (show (-9223372036854775808 : Int) ≤ lo + 4 by omega) (by omega)
          have wk1 := wrap_i64 (show (-9223372036854775808 : Int) ≤ (k : Int) + 1 by omega) (by omega)
          have h6' : ((k : Int) < 6) = True := eq_true (by omega)
          by_cases g1 : lo ≤ 10
          · by_cases g2 : 10 < lo + 4
            · have hs : plStep 10 (o1, a1) (lo, to) = (to, 10 - lo) := if_pos ⟨g1, g2⟩
              rw [hs] at hf
              have wd := wrap_i64 (show (-9223372036854775808 : Int) ≤ 10 - lo by omega) (by omega)
              simp [h6', hp, pairAV, g1, g2, w4]
              refine dk_ofL [(3, .tup [.ptr 2 0 0 0, .int .i64 0]), (4, .ptr 2 0 0 0)] (by decide) ?_
              simp [List.lookup, wd]
              refine sd_ofL rfl ?_ ?_
              · simp [steadyL, ldEq, blind]
              simp [List.lookup]
              refine sd_of (by decide) ?_
              simp [wk1]
              exact nextQ_less (k + 1, to, 10 - lo) ⟨by simp only; omega, hf⟩ (by simp only; omega) (less_take fz_gl G0.2 rfl rfl (by simp) (by simp))
            · have hs : plStep 10 (o1, a1) (lo, to) = (o1, a1) := if_neg (fun h => g2 h.2)
              rw [hs] at hf
              simp [h6', hp, pairAV, g1, g2, w4, wk1]
              exact nextQ_less (k + 1, o1, a1) ⟨by simp only; omega, hf⟩ (by simp only; omega) (less_take fz_gl G0.2 rfl rfl (by simp) (by simp))
          · have hs : plStep 10 (o1, a1) (lo, to) = (o1, a1) := if_neg (fun h => g1 h.1)
            rw [hs] at hf
            simp [h6', hp, pairAV, g1, wk1]
            exact nextQ_less (k + 1, o1, a1) ⟨by simp only; omega, hf⟩ (by simp only; omega) (less_take fz_gl G0.2 rfl rfl (by simp) (by simp))
        · have h6' : ((k : Int) < 6) = False := eq_false (by omega)
          have hk6 : k = 6 := by omega
          subst hk6
          have hf' : (o1, a1) = plainO 10 a := hf
          simp
          exact finS_eq (by simp [plainT, ← hf']) (by simp)
      by_cases h16 : op = 16
      · subst h16
        simp [Tryd.f15, entry]
        refine lp_of (okX_nil.b [38]) mixed (fun (x : Nat × Int × Int) => ⟨65, frL [(1, .ptr 0 0 0 0), (2, .ptr 1 0 0 0), (3, .int .i64 16), (38, .sl (plPairs.map pairAV)), (39, .int .i64 6), (40, .int .i64 x.1)], [.row 5 0 0 [.agg [.int .i64 iat, .int .i64 x.2.1, .int .i64 x.2.2, .int .i64 b, .sl (cs.map encCase)]], .row 5 0 0 [.agg [.int .i64 0, .int .i64 0, .int .i64 0, .int .i64 0, .snil]]]⟩)
          (fun x => x.1 ≤ 6 ∧ (plPairs.drop x.1).foldl (plStep 16) x.2 = plainO 16 a) (fun x => 6 - x.1) (0, 17, a) ⟨by simp, by rw [← plain_fold 16 a, show plain0 16 a = (17, a) from rfl]; rfl⟩ (weak_frL rfl rfl (by simp [plPairs, pairAV])) ?_
        rintro ⟨k, o1, a1⟩ ⟨hk, hf⟩
        simp only at hk hf ⊢
        by_cases h6 : k < 6
        · obtain ⟨⟨lo, to⟩, hp, hd, hlo, hhi⟩ := plPairs_get h6
          simp only at hlo hhi
          rw [hd, List.foldl_cons] at hf
          have w4 := wrap_i64 (show (-9223372036854775808 : Int) ≤ lo + 4 by omega) (by omega)
          have wk1 := wrap_i64 (show (-9223372036854775808 : Int) ≤ (k : Int) + 1 by omega) (by omega)
          have h6' : ((k : Int) < 6) = True := eq_true (by omega)
          by_cases g1 : lo ≤ 16
          · by_cases g2 : 16 < lo + 4
            · have hs : plStep 16 (o1, a1) (lo, to) = (to, 16 - lo) := if_pos ⟨g1, g2⟩
              rw [hs] at hf
              have wd := wrap_i64 (show (-9223372036854775808 : Int) ≤ 16 - lo by omega) (by omega)
              simp [h6', hp, pairAV, g1, g2, w4]
              refine dk_ofL [(3, .tup [.ptr 2 0 0 0, .int .i64 0]), (4, .ptr 2 0 0 0)] (by decide) ?_
              simp [List.lookup, wd]
              refine sd_ofL rfl ?_ ?_
              · simp [steadyL, ldEq, blind]
              simp [List.lookup]
              refine sd_of (by decide) ?_
              simp [wk1]
              exact nextQ_less (k + 1, to, 16 - lo) ⟨by simp only; omega, hf⟩ (by simp only; omega) (less_take fz_gl G0.2 rfl rfl (by simp) (by simp))
            · have hs : plStep 16 (o1, a1) (lo, to) = (o1, a1) := if_neg (fun h => g2 h.2)
              rw [hs] at hf
              simp [h6', hp, pairAV, g1, g2, w4, wk1]
              exact nextQ_less (k + 1, o1, a1) ⟨by simp only; omega, hf⟩ (by simp only; omega) (less_take fz_gl G0.2 rfl rfl (by simp) (by simp))
          · have hs : plStep 16 (o1, a1) (lo, to) = (o1, a1) := if_neg (fun h => g1 h.1)
            rw [hs] at hf
            simp [h6', hp, pairAV, g1, wk1]
            exact nextQ_less (k + 1, o1, a1) ⟨by simp only; omega, hf⟩ (by simp only; omega) (less_take fz_gl G0.2 rfl rfl (by simp) (by simp))
        · have h6' : ((k : Int) < 6) = False := eq_false (by omega)
          have hk6 : k = 6 := by omega
          subst hk6
          have hf' : (o1, a1) = plainO 16 a := hf
          simp
          exact finS_eq (by simp [plainT, ← hf']) (by simp)
      by_cases h19 : op = 19
      · subst h19
        simp [Tryd.f15, entry]
        refine lp_of (okX_nil.b [38]) mixed (fun (x : Nat × Int × Int) => ⟨65, frL [(1, .ptr 0 0 0 0), (2, .ptr 1 0 0 0), (3, .int .i64 19), (38, .sl (plPairs.map pairAV)), (39, .int .i64 6), (40, .int .i64 x.1)], [.row 5 0 0 [.agg [.int .i64 iat, .int .i64 x.2.1, .int .i64 x.2.2, .int .i64 b, .sl (cs.map encCase)]], .row 5 0 0 [.agg [.int .i64 0, .int .i64 0, .int .i64 0, .int .i64 0, .snil]]]⟩)
          (fun x => x.1 ≤ 6 ∧ (plPairs.drop x.1).foldl (plStep 19) x.2 = plainO 19 a) (fun x => 6 - x.1) (0, 18, a) ⟨by simp, by rw [← plain_fold 19 a, show plain0 19 a = (18, a) from rfl]; rfl⟩ (weak_frL rfl rfl (by simp [plPairs, pairAV])) ?_
        rintro ⟨k, o1, a1⟩ ⟨hk, hf⟩
        simp only at hk hf ⊢
        by_cases h6 : k < 6
        · obtain ⟨⟨lo, to⟩, hp, hd, hlo, hhi⟩ := plPairs_get h6
          simp only at hlo hhi
          rw [hd, List.foldl_cons] at hf
          have w4 := wrap_i64 (show (-9223372036854775808 : Int) ≤ lo + 4 by omega) (by omega)
          have wk1 := wrap_i64 (show (-9223372036854775808 : Int) ≤ (k : Int) + 1 by omega) (by omega)
          have h6' : ((k : Int) < 6) = True := eq_true (by omega)
          by_cases g1 : lo ≤ 19
          · by_cases g2 : 19 < lo + 4
            · have hs : plStep 19 (o1, a1) (lo, to) = (to, 19 - lo) := if_pos ⟨g1, g2⟩
              rw [hs] at hf
              have wd := wrap_i64 (show (-9223372036854775808 : Int) ≤ 19 - lo by omega) (by omega)
              simp [h6', hp, pairAV, g1, g2, w4]
              refine dk_ofL [(3, .tup [.ptr 2 0 0 0, .int .i64 0]), (4, .ptr 2 0 0 0)] (by decide) ?_
              simp [List.lookup, wd]
              refine sd_ofL rfl ?_ ?_
              · simp [steadyL, ldEq, blind]
              simp [List.lookup]
              refine sd_of (by decide) ?_
              simp [wk1]
              exact nextQ_less (k + 1, to, 19 - lo) ⟨by simp only; omega, hf⟩ (by simp only; omega) (less_take fz_gl G0.2 rfl rfl (by simp) (by simp))
            · have hs : plStep 19 (o1, a1) (lo, to) = (o1, a1) := if_neg (fun h => g2 h.2)
              rw [hs] at hf
              simp [h6', hp, pairAV, g1, g2, w4, wk1]
              exact nextQ_less (k + 1, o1, a1) ⟨by simp only; omega, hf⟩ (by simp only; omega) (less_take fz_gl G0.2 rfl rfl (by simp) (by simp))
          · have hs : plStep 19 (o1, a1) (lo, to) = (o1, a1) := if_neg (fun h => g1 h.1)
            rw [hs] at hf
            simp [h6', hp, pairAV, g1, wk1]
            exact nextQ_less (k + 1, o1, a1) ⟨by simp only; omega, hf⟩ (by simp only; omega) (less_take fz_gl G0.2 rfl rfl (by simp) (by simp))
        · have h6' : ((k : Int) < 6) = False := eq_false (by omega)
          have hk6 : k = 6 := by omega
          subst hk6
          have hf' : (o1, a1) = plainO 19 a := hf
          simp
          exact finS_eq (by simp [plainT, ← hf']) (by simp)
      have hp0 : plain0 op a = (op, a) := by unfold plain0; rw [if_neg (by omega), if_neg h10, if_neg h16, if_neg h19]
      simp [Tryd.f15, entry, h1, h2, h10, h16, h19]
      refine lp_of (okX_nil.b [38]) mixed (fun (x : Nat × Int × Int) => ⟨65, frL [(1, .ptr 0 0 0 0), (2, .ptr 1 0 0 0), (3, .int .i64 op), (38, .sl (plPairs.map pairAV)), (39, .int .i64 6), (40, .int .i64 x.1)], [.row 5 0 0 [.agg [.int .i64 iat, .int .i64 x.2.1, .int .i64 x.2.2, .int .i64 b, .sl (cs.map encCase)]], .row 5 0 0 [.agg [.int .i64 0, .int .i64 0, .int .i64 0, .int .i64 0, .snil]]]⟩)
        (fun x => x.1 ≤ 6 ∧ (plPairs.drop x.1).foldl (plStep op) x.2 = plainO op a) (fun x => 6 - x.1) (0, op, a) ⟨by simp, by rw [← plain_fold op a, show plain0 op a = (op, a) from hp0]; rfl⟩ (weak_frL rfl rfl (by simp [plPairs, pairAV])) ?_
      rintro ⟨k, o1, a1⟩ ⟨hk, hf⟩
      simp only at hk hf ⊢
      by_cases h6 : k < 6
      · obtain ⟨⟨lo, to⟩, hp, hd, hlo, hhi⟩ := plPairs_get h6
        simp only at hlo hhi
        rw [hd, List.foldl_cons] at hf
        have w4 := wrap_i64 (show (-9223372036854775808 : Int) ≤ lo + 4 by omega) (by omega)
        have wk1 := wrap_i64 (show (-9223372036854775808 : Int) ≤ (k : Int) + 1 by omega) (by omega)
        have h6' : ((k : Int) < 6) = True := eq_true (by omega)
        by_cases g1 : lo ≤ op
        · by_cases g2 : op < lo + 4
          · have hs : plStep op (o1, a1) (lo, to) = (to, op - lo) := if_pos ⟨g1, g2⟩
            rw [hs] at hf
            have wd := wrap_i64 (show (-9223372036854775808 : Int) ≤ op - lo by omega) (by omega)
            simp [h6', hp, pairAV, g1, g2, w4]
            refine dk_ofL [(3, .tup [.ptr 2 0 0 0, .int .i64 0]), (4, .ptr 2 0 0 0)] (by decide) ?_
            simp [List.lookup, wd]
            refine sd_ofL rfl ?_ ?_
            · simp [steadyL, ldEq, blind]
            simp [List.lookup]
            refine sd_of (by decide) ?_
            simp [wk1]
            exact nextQ_less (k + 1, to, op - lo) ⟨by simp only; omega, hf⟩ (by simp only; omega) (less_take fz_gl G0.2 rfl rfl (by simp) (by simp))
          · have hs : plStep op (o1, a1) (lo, to) = (o1, a1) := if_neg (fun h => g2 h.2)
            rw [hs] at hf
            simp [h6', hp, pairAV, g1, g2, w4, wk1]
            exact nextQ_less (k + 1, o1, a1) ⟨by simp only; omega, hf⟩ (by simp only; omega) (less_take fz_gl G0.2 rfl rfl (by simp) (by simp))
        · have hs : plStep op (o1, a1) (lo, to) = (o1, a1) := if_neg (fun h => g1 h.1)
          rw [hs] at hf
          simp [h6', hp, pairAV, g1, wk1]
          exact nextQ_less (k + 1, o1, a1) ⟨by simp only; omega, hf⟩ (by simp only; omega) (less_take fz_gl G0.2 rfl rfl (by simp) (by simp))
      · have h6' : ((k : Int) < 6) = False := eq_false (by omega)
        have hk6 : k = 6 := by omega
        subst hk6
        have hf' : (o1, a1) = plainO op a := hf
        simp
        exact finS_eq (by simp [plainT, ← hf']) (by simp)
  · have h10 : ¬ op = 10 := by omega
    have h16 : ¬ op = 16 := by omega
    have h19 : ¬ op = 19 := by omega
    have hp0 : plain0 op a = (op, a) := by unfold plain0; rw [if_neg (by omega), if_neg h10, if_neg h16, if_neg h19]
    simp [Tryd.f15, entry, h1, h10, h16, h19]
    refine lp_of (okX_nil.b [38]) mixed (fun (x : Nat × Int × Int) => ⟨65, frL [(1, .ptr 0 0 0 0), (2, .ptr 1 0 0 0), (3, .int .i64 op), (38, .sl (plPairs.map pairAV)), (39, .int .i64 6), (40, .int .i64 x.1)], [.row 5 0 0 [.agg [.int .i64 iat, .int .i64 x.2.1, .int .i64 x.2.2, .int .i64 b, .sl (cs.map encCase)]], .row 5 0 0 [.agg [.int .i64 0, .int .i64 0, .int .i64 0, .int .i64 0, .snil]]]⟩)
      (fun x => x.1 ≤ 6 ∧ (plPairs.drop x.1).foldl (plStep op) x.2 = plainO op a) (fun x => 6 - x.1) (0, op, a) ⟨by simp, by rw [← plain_fold op a, show plain0 op a = (op, a) from hp0]; rfl⟩ (weak_frL rfl rfl (by simp [plPairs, pairAV])) ?_
    rintro ⟨k, o1, a1⟩ ⟨hk, hf⟩
    simp only at hk hf ⊢
    by_cases h6 : k < 6
    · obtain ⟨⟨lo, to⟩, hp, hd, hlo, hhi⟩ := plPairs_get h6
      simp only at hlo hhi
      rw [hd, List.foldl_cons] at hf
      have w4 := wrap_i64 (show (-9223372036854775808 : Int) ≤ lo + 4 by omega) (by omega)
      have wk1 := wrap_i64 (show (-9223372036854775808 : Int) ≤ (k : Int) + 1 by omega) (by omega)
      have h6' : ((k : Int) < 6) = True := eq_true (by omega)
      by_cases g1 : lo ≤ op
      · by_cases g2 : op < lo + 4
        · have hs : plStep op (o1, a1) (lo, to) = (to, op - lo) := if_pos ⟨g1, g2⟩
          rw [hs] at hf
          have wd := wrap_i64 (show (-9223372036854775808 : Int) ≤ op - lo by omega) (by omega)
          simp [h6', hp, pairAV, g1, g2, w4]
          refine dk_ofL [(3, .tup [.ptr 2 0 0 0, .int .i64 0]), (4, .ptr 2 0 0 0)] (by decide) ?_
          simp [List.lookup, wd]
          refine sd_ofL rfl ?_ ?_
          · simp [steadyL, ldEq, blind]
          simp [List.lookup]
          refine sd_of (by decide) ?_
          simp [wk1]
          exact nextQ_less (k + 1, to, op - lo) ⟨by simp only; omega, hf⟩ (by simp only; omega) (less_take fz_gl G0.2 rfl rfl (by simp) (by simp))
        · have hs : plStep op (o1, a1) (lo, to) = (o1, a1) := if_neg (fun h => g2 h.2)
          rw [hs] at hf
          simp [h6', hp, pairAV, g1, g2, w4, wk1]
          exact nextQ_less (k + 1, o1, a1) ⟨by simp only; omega, hf⟩ (by simp only; omega) (less_take fz_gl G0.2 rfl rfl (by simp) (by simp))
      · have hs : plStep op (o1, a1) (lo, to) = (o1, a1) := if_neg (fun h => g1 h.1)
        rw [hs] at hf
        simp [h6', hp, pairAV, g1, wk1]
        exact nextQ_less (k + 1, o1, a1) ⟨by simp only; omega, hf⟩ (by simp only; omega) (less_take fz_gl G0.2 rfl rfl (by simp) (by simp))
    · have h6' : ((k : Int) < 6) = False := eq_false (by omega)
      have hk6 : k = 6 := by omega
      subst hk6
      have hf' : (o1, a1) = plainO op a := hf
      simp
      exact finS_eq (by simp [plainT, ← hf']) (by simp)
end Go.Proofs.YtollfopbmbjnhaaDoor.Lift
namespace Go.Proofs.YtollfopbmbjnhaaDoor.Lift
open Go
set_option maxRecDepth 100000

section
variable {α β γ δ ε ζ η : Type}
def fn6 (ca : Cod α) (cb : Cod β) (cc : Cod γ) (cd : Cod δ) (ce : Cod ε) (cf : Cod ζ) (er : η → AV) (g : α → β → γ → δ → ε → ζ → Option η) : List AV → Option AV
  | [x, y, z, w, u, v] => (ca.dec x).bind fun a => (cb.dec y).bind fun b => (cc.dec z).bind fun c => (cd.dec w).bind fun d => (ce.dec u).bind fun e => (cf.dec v).bind fun f => (g a b c d e f).map er
  | _ => none
variable {ca : Cod α} {cb : Cod β} {cc : Cod γ} {cd : Cod δ} {ce : Cod ε} {cf : Cod ζ} {er : η → AV}
@[simp] theorem fn6_eq {g : α → β → γ → δ → ε → ζ → Option η} {x y z w u v : AV} : fn6 ca cb cc cd ce cf er g [x, y, z, w, u, v] = (ca.dec x).bind fun a => (cb.dec y).bind fun b => (cc.dec z).bind fun c => (cd.dec w).bind fun d => (ce.dec u).bind fun e => (cf.dec v).bind fun f => (g a b c d e f).map er := rfl
theorem fn6_inv {g : α → β → γ → δ → ε → ζ → Option η} {args : List AV} {r : AV} (h : fn6 ca cb cc cd ce cf er g args = some r) : ∃ a b c d e f x, args = [ca.enc a, cb.enc b, cc.enc c, cd.enc d, ce.enc e, cf.enc f] ∧ g a b c d e f = some x ∧ r = er x := by
  unfold fn6 at h
  split at h
  · simp only [Option.bind_eq_some_iff, Option.map_eq_some_iff] at h
    obtain ⟨a, ha, b, hb, c, hc, d, hd, e, he, f, hf, x, hx, rfl⟩ := h
    exact ⟨a, b, c, d, e, f, x, by rw [ca.ed _ _ ha, cb.ed _ _ hb, cc.ed _ _ hc, cd.ed _ _ hd, ce.ed _ _ he, cf.ed _ _ hf], hx, rfl⟩
  · cases h
end
section
variable {p0 p1 p2 p3 p4 : ABlk} {h : AHand} {q : Sto}
@[simp high] theorem hs_0 : (handSto p0 p1 p2 p3 p4 h q)[0]? = some p0 := rfl
@[simp high] theorem hs_1 : (handSto p0 p1 p2 p3 p4 h q)[1]? = some p1 := rfl
@[simp high] theorem hs_2 : (handSto p0 p1 p2 p3 p4 h q)[2]? = some p2 := rfl
@[simp high] theorem hs_3 : (handSto p0 p1 p2 p3 p4 h q)[3]? = some p3 := rfl
@[simp high] theorem hs_4 : (handSto p0 p1 p2 p3 p4 h q)[4]? = some p4 := rfl
@[simp high] theorem hs_0' (hl : 0 < (handSto p0 p1 p2 p3 p4 h q).length) : (handSto p0 p1 p2 p3 p4 h q)[0] = p0 := rfl
@[simp high] theorem hs_1' (hl : 1 < (handSto p0 p1 p2 p3 p4 h q).length) : (handSto p0 p1 p2 p3 p4 h q)[1] = p1 := rfl
@[simp high] theorem hs_2' (hl : 2 < (handSto p0 p1 p2 p3 p4 h q).length) : (handSto p0 p1 p2 p3 p4 h q)[2] = p2 := rfl
@[simp high] theorem hs_3' (hl : 3 < (handSto p0 p1 p2 p3 p4 h q).length) : (handSto p0 p1 p2 p3 p4 h q)[3] = p3 := rfl
@[simp high] theorem hs_4' (hl : 4 < (handSto p0 p1 p2 p3 p4 h q).length) : (handSto p0 p1 p2 p3 p4 h q)[4] = p4 := rfl
@[simp high] theorem hs_set2 (x : ABlk) : (handSto p0 p1 p2 p3 p4 h q).set 2 x = handSto p0 p1 x p3 p4 h q := rfl
@[simp high] theorem hs_set4 (x : ABlk) : (handSto p0 p1 p2 p3 p4 h q).set 4 x = handSto p0 p1 p2 p3 x h q := rfl
@[simp high] theorem hs_set7 (b : Bool) : (handSto p0 p1 p2 p3 p4 h q).set 7 (.row 4 0 0 [.agg [.sl (h.cl.map encClass), .sr 5 1 0 h.loc.length, .sr 6 h.g 0 h.stk.length, .bool b]]) = handSto p0 p1 p2 p3 p4 { h with bad := b } q := rfl
theorem to_hand {cl : List AClass} {l s : List ATy} : p0 :: p1 :: p2 :: p3 :: p4 :: ABlk.row 2 1 0 (l.map encTy) :: .row 2 1 0 (s.map encTy) :: .row 4 0 0 [.agg [.sl (cl.map encClass), .sr 5 1 0 l.length, .sr 6 1 0 s.length, .bool false]] :: q = handSto p0 p1 p2 p3 p4 ⟨cl, l, s, false, 1, []⟩ q := by simp [handSto]
end
@[simp] theorem take_stk (s j : List ATy) : List.take s.length (s.map encTy ++ j.map encTy) = s.map encTy := by rw [List.take_append]; simp
theorem effTab_does : ∀ e ∈ effTab, cutAt (e.2.1 ++ 62 :: e.2.2) 62 = (e.2.1, e.2.2, true) ∧ asciiT e.2.1 = true ∧ asciiT e.2.2 = true ∧ (e.2.1 ++ 62 :: e.2.2).length < 1000 := by decide
theorem effectT_does {op : Int} {e : Str × Str} (h : effectT op = some e) (q : Sto) (hh : AHand) : hDoes [.str (e.1 ++ 62 :: e.2)] q hh = (doesO e.1 e.2 hh).map fun h' => (.tup [], h') := by
  obtain ⟨x, hx, rfl⟩ := Option.map_eq_some_iff.1 h
  obtain ⟨h1, h2, h3, h4⟩ := effTab_does x (List.mem_of_find?_eq_some hx)
  simp only [hDoes, h1, h2, h3, h4, and_self, if_true]
@[simp] def encFE (x : AFrame × Int) : AV := .tup [encFrame x.1, .int .i64 x.2]
def gStep (cl : List AClass) (c : AClass) (back : ATy) (i : AInstr) (f : AFrame) (most : Int) : Option (AFrame × Int) :=
  if c.pool.length < 1099511627776 ∧ f.locals.length < 1099511627776 ∧ f.stack.length < 1099511627776 then stepO cl c.pool back i f most else none
theorem ok_step : OkX Tryd.prog (XE [(14, sClone 2 cloneOk), (15, liftS 9 (fn1 cInstr encInstr fun i => some (plainT i))), (16, liftS 9 (fn1 cInt encSB fun op => some (effectS op))),
    (17, handS hDoes), (18, handS hMoves), (19, handS hAnswers), (20, handS hBound), (21, liftS 9 (fn1 (cL cTy) encInt fun l => if l.length < 1099511627776 then some (wide l) else none))]) :=
  (((((((okX_nil.addP p_kindWide).add f_bound).add f_answers).add f_moves).add f_does).addP p_effect).addP p_Plain).add (a_Clone _)
set_option maxHeartbeats 4000000 in
theorem p_Step : SoundP Tryd.prog gl 7 (fn6 (cL cClass) cClass cTy cInstr cFrame cInt encFE gStep) := by
  refine soundP_of_wk ok_step mixed Tryd.func7 rfl rfl fun args r h G0 => ?_
  obtain ⟨cl, c, back, i, f, most, e, rfl, he, rfl⟩ := fn6_inv h
  clear h
  unfold gStep at he
  simp only [Option.ite_none_right_eq_some] at he
  obtain ⟨⟨hc, hl, hs⟩, he⟩ := he
  simp [Tryd.f7, entry]
  refine dk_ofL [(5, .ptr 3 0 0 1)] (by decide) ?_
  simp [List.lookup, cloneOk_tys, hl]
  refine sd_ofL rfl ?_ ?_
  · simp [steadyL, ldEq]
  simp [List.lookup, cloneOk_tys, hs]
  refine sd_of (by decide) ?_
  simp [List.lookup]
  refine sd_of (by decide) ?_
  simp [List.lookup, to_hand]
  unfold stepO at he
  obtain ⟨h1, hh, he2⟩ := Option.bind_eq_some_iff.1 he
  clear he
  obtain ⟨iat, iop, ia, ib, ics⟩ := i
  generalize plainT ⟨iat, iop, ia, ib, ics⟩ = I at *
  obtain ⟨jat, jop, ja, jb, jcs⟩ := I
  simp only at hh
  unfold handO at hh
  cases hef : effectT jop with
  | some ef =>
    rw [hef] at hh
    simp only at hh
    have h1' : effectS jop = (ef.1 ++ 62 :: ef.2, true) := by simp [effectS, hef]
    have hd := fun q hx => effectT_does hef q hx
    simp [h1']
    by_cases hb : h1.bad = true
    · rw [if_pos hb] at he2
      cases he2
      simp [handS_eq, hd, hh, hb]
      refine finS_of 9 (by simp)
    · rw [if_neg hb] at he2
      have hb' : h1.bad = false := by simpa using hb
      split at he2
      · rename_i hlen
        by_cases hm : most < wide h1.stk
        · rw [if_pos hm] at he2
          cases he2
          simp [handS_eq, hd, hh, hb', hlen, hm]
          refine finS_of 9 (by simp)
        · rw [if_neg hm] at he2
          cases he2
          simp [handS_eq, hd, hh, hb', hlen, hm]
          refine dk_of (by decide) ?_
          simp
          refine sd_of (by decide) ?_
          simp
          refine finS_of 9 (by simp)
      · cases he2
  | none =>
    rw [hef] at hh
    simp only at hh
    have h1' : effectS jop = ([], false) := by simp [effectS, hef]
    obtain ⟨⟨b1, k1⟩, m1, hh⟩ := Option.bind_eq_some_iff.1 hh
    simp only at hh
    cases b1 with
    | true =>
      simp only [if_true] at hh
      cases hh
      simp [h1']
      by_cases hb : h1.bad = true
      · rw [if_pos hb] at he2
        cases he2
        simp [handS_eq, hMoves, m1, hb]
        refine finS_of 9 (by simp)
      · rw [if_neg hb] at he2
        have hb' : h1.bad = false := by simpa using hb
        split at he2
        · rename_i hlen
          by_cases hm : most < wide h1.stk
          · rw [if_pos hm] at he2
            cases he2
            simp [handS_eq, hMoves, m1, hb', hlen, hm]
            refine finS_of 9 (by simp)
          · rw [if_neg hm] at he2
            cases he2
            simp [handS_eq, hMoves, m1, hb', hlen, hm]
            refine dk_of (by decide) ?_
            simp
            refine sd_of (by decide) ?_
            simp
            refine finS_of 9 (by simp)
        · cases he2
    | false =>
      simp only [Bool.false_eq_true, if_false] at hh
      obtain ⟨⟨b2, k2⟩, m2, hh⟩ := Option.bind_eq_some_iff.1 hh
      simp only at hh
      cases b2 with
      | true =>
        simp only [if_true] at hh
        cases hh
        simp [h1']
        by_cases hb : h1.bad = true
        · rw [if_pos hb] at he2
          cases he2
          simp [handS_eq, hMoves, hAnswers, m1, m2, hb]
          refine finS_of 9 (by simp)
        · rw [if_neg hb] at he2
          have hb' : h1.bad = false := by simpa using hb
          split at he2
          · rename_i hlen
            by_cases hm : most < wide h1.stk
            · rw [if_pos hm] at he2
              cases he2
              simp [handS_eq, hMoves, hAnswers, m1, m2, hb', hlen, hm]
              refine finS_of 9 (by simp)
            · rw [if_neg hm] at he2
              cases he2
              simp [handS_eq, hMoves, hAnswers, m1, m2, hb', hlen, hm]
              refine dk_of (by decide) ?_
              simp
              refine sd_of (by decide) ?_
              simp
              refine finS_of 9 (by simp)
          · cases he2
      | false =>
        simp only [Bool.false_eq_true, if_false] at hh
        obtain ⟨⟨b3, k3⟩, m3, hh⟩ := Option.map_eq_some_iff.1 hh
        simp only at hh
        cases b3 with
        | true =>
          simp only [if_true] at hh
          obtain rfl : h1 = k3 := hh.symm
          simp [h1']
          by_cases hb : h1.bad = true
          · rw [if_pos hb] at he2
            cases he2
            simp [handS_eq, hMoves, hAnswers, hBound, hc, m1, m2, m3, hb]
            refine finS_of 9 (by simp)
          · rw [if_neg hb] at he2
            have hb' : h1.bad = false := by simpa using hb
            split at he2
            · rename_i hlen
              by_cases hm : most < wide h1.stk
              · rw [if_pos hm] at he2
                cases he2
                simp [handS_eq, hMoves, hAnswers, hBound, hc, m1, m2, m3, hb', hlen, hm]
                refine finS_of 9 (by simp)
              · rw [if_neg hm] at he2
                cases he2
                simp [handS_eq, hMoves, hAnswers, hBound, hc, m1, m2, m3, hb', hlen, hm]
                refine dk_of (by decide) ?_
                simp
                refine sd_of (by decide) ?_
                simp
                refine finS_of 9 (by simp)
            · cases he2
        | false =>
          simp only [Bool.false_eq_true, if_false] at hh
          subst hh
          rw [if_pos rfl] at he2
          cases he2
          simp [h1', handS_eq, hMoves, hAnswers, hBound, hc, m1, m2, m3]
          refine finS_of 9 (by simp)
end Go.Proofs.YtollfopbmbjnhaaDoor.Lift
namespace Go.Proofs.YtollfopbmbjnhaaDoor.Lift
open Go
set_option maxRecDepth 100000

/-- a class without members -/
def bare (p : APair) : AClass := ⟨[], p.name, p.super, [], []⟩
def bareRaw (p : APair) : AV := .agg [.snil, .str p.name, .str p.super, .snil, .snil]
def classesOf (l : List APair) : List AClass := (l.take 40).map bare
theorem peek_bare (st : Sto) (l : List APair) : mapO (peek st 8) (l.map bareRaw) = some ((l.map bare).map encClass) := by
  induction l with
  | nil => rfl
  | cons p l ih =>
    simp only [List.map_cons, mapO, ih]
    simp [bareRaw, bare]
@[simp] theorem blwL_bare (k : Nat) : ∀ l : List APair, blwL k (l.map bareRaw) = true
  | [] => rfl
  | p :: l => by simp [blwL_bare k l, bareRaw]

theorem take_bare (i : Nat) (l : List APair) : List.take i (List.take i (l.map bareRaw)) = (l.take i).map bareRaw := by rw [List.take_take, Nat.min_self, List.map_take]
@[simp] theorem blwL_bare' (k i : Nat) (l : List APair) : blwL k (List.take i (l.map bareRaw)) = true := by rw [← List.map_take]; exact blwL_bare k _
theorem peek_bare' (st : Sto) (i : Nat) (l : List APair) : mapO (peek st 8) (List.take i (List.take i (l.map bareRaw))) = some (List.take i (l.map (encClass ∘ bare))) := by
  rw [take_bare, peek_bare, ← List.map_take, List.map_map]
end Go.Proofs.YtollfopbmbjnhaaDoor.Lift
namespace Go.Proofs.YtollfopbmbjnhaaDoor.Lift
open Go
set_option maxRecDepth 100000

/-- the last one of a chain -/
def lastOr : List Str → Str → Str
  | [], d => d
  | x :: r, _ => lastOr r x
theorem lastOr_eq (l : List Str) : ∀ d : Str, lastOr l d = (l[l.length - 1]?).getD d := by
  induction l with
  | nil => intro d; rfl
  | cons x r ih =>
    intro d
    rw [lastOr, ih]
    cases r with
    | nil => rfl
    | cons y r => simp
/-- where does going up from a class end? -/
def topOf (l : List AClass) (s : Str) : Str := lastOr (aboveOf l [s] s) s
/-- does going up end, from each class? -/
def endsOf (l : List AClass) : Bool := l.all fun c => decide (superOf l (topOf l c.name) = [])

/-- what is above by a chain that ends is above by each other that begins there -/
theorem above_sub (l : List AClass) : ∀ (n : Nat) (met : List Str) (s : Str), unmet l met ≤ n → superOf l (lastOr (aboveOf l met s) s) = [] → ∀ met' z, z ∈ aboveOf l met' s → z ∈ aboveOf l met s := by
  intro n
  induction n with
  | zero =>
    intro met s hn he met' z hz
    by_cases h1 : superOf l s = [] ∨ superOf l s ∈ met
    · rw [aboveOf_nil h1] at he ⊢
      have he' : superOf l s = [] := he
      rw [aboveOf_nil (.inl he')] at hz
      exact hz
    · have := unmet_lt (fun e => h1 (.inl e)) (fun e => h1 (.inr e)); omega
  | succ n ih =>
    intro met s hn he met' z hz
    by_cases h1 : superOf l s = [] ∨ superOf l s ∈ met
    · rw [aboveOf_nil h1] at he ⊢
      have he' : superOf l s = [] := he
      rw [aboveOf_nil (.inl he')] at hz
      exact hz
    · have hlt := unmet_lt (fun e => h1 (.inl e)) (fun e => h1 (.inr e))
      rw [aboveOf_cons (fun e => h1 (.inl e)) (fun e => h1 (.inr e))] at he ⊢
      by_cases h2 : superOf l s = [] ∨ superOf l s ∈ met'
      · rw [aboveOf_nil h2] at hz; cases hz
      · rw [aboveOf_cons (fun e => h2 (.inl e)) (fun e => h2 (.inr e))] at hz
        rcases List.mem_cons.1 hz with rfl | hz
        · exact List.mem_cons_self
        · exact List.mem_cons_of_mem _ (ih _ _ (by omega) he _ z hz)
theorem above_trans (l : List AClass) : ∀ (n : Nat) (met : List Str) (s : Str), unmet l met ≤ n → superOf l (lastOr (aboveOf l met s) s) = [] → ∀ y, y ∈ aboveOf l met s → ∀ met' z, z ∈ aboveOf l met' y → z ∈ aboveOf l met s := by
  intro n
  induction n with
  | zero =>
    intro met s hn he y hy met' z hz
    by_cases h1 : superOf l s = [] ∨ superOf l s ∈ met
    · rw [aboveOf_nil h1] at hy; cases hy
    · have := unmet_lt (fun e => h1 (.inl e)) (fun e => h1 (.inr e)); omega
  | succ n ih =>
    intro met s hn he y hy met' z hz
    by_cases h1 : superOf l s = [] ∨ superOf l s ∈ met
    · rw [aboveOf_nil h1] at hy; cases hy
    · have hlt := unmet_lt (fun e => h1 (.inl e)) (fun e => h1 (.inr e))
      rw [aboveOf_cons (fun e => h1 (.inl e)) (fun e => h1 (.inr e))] at he hy ⊢
      rcases List.mem_cons.1 hy with rfl | hy
      · exact List.mem_cons_of_mem _ (above_sub l _ _ _ (Nat.le_refl _) he _ z hz)
      · exact List.mem_cons_of_mem _ (ih _ _ (by omega) he y hy _ z hz)
theorem above_order {l : List AClass} (he : endsOf l = true) {x y z : Str} (hy : y ∈ aboveOf l [x] x) (hz : z ∈ aboveOf l [y] y) : z ∈ aboveOf l [x] x := by
  have hp : placeOf l x < l.length := by
    apply Classical.byContradiction
    intro h
    rw [aboveOf_nil (.inl (by simp [superOf, h]))] at hy
    cases hy
  have hn : l[placeOf l x].name = x := by
    have := List.findIdx_getElem (w := hp)
    exact of_decide_eq_true this
  have h1 := List.all_eq_true.1 he _ (List.getElem_mem hp)
  rw [hn] at h1
  exact above_trans l _ _ _ (Nat.le_refl _) (of_decide_eq_true h1) y hy _ z hz

theorem may_self (l : List AClass) (x : ATy) : may l x x = true := by rw [may_eq, if_pos (.inr (.inl rfl))]
theorem print_kind {x : ATy} (h : (print x).2 = 0) : x = ⟨1, []⟩ ∨ x = ⟨2, []⟩ ∨ x.kind = 4 := by
  rcases print_cases x with ⟨t, h1, h2⟩ | h1
  · obtain ⟨k, nm⟩ := x
    have ht : t = texty ⟨k, nm⟩ := by
      rcases print_fst h1 with ⟨_, e⟩ | ⟨e, _⟩
      · exact e
      · cases e
    by_cases k1 : k = 1
    · subst k1
      have : t = [73] := by rw [ht]; rfl
      subst this
      have e : parse [73] = (⟨1, []⟩, 0) := by decide
      rw [e] at h2
      cases h2
      exact .inl rfl
    · by_cases k2 : k = 2
      · subst k2
        have : t = [74] := by rw [ht]; rfl
        subst this
        have e : parse [74] = (⟨2, []⟩, 0) := by decide
        rw [e] at h2
        cases h2
        exact .inr (.inl rfl)
      · by_cases k4 : k = 4
        · exact .inr (.inr k4)
        · have : t = [] := by rw [ht]; simp [texty, k1, k2, k4]
          subst this
          have e : parse [] = (⟨0, []⟩, 100) := rfl
          rw [e] at h2
          cases h2
  · rw [h1] at h; cases h

/-- an array's elements can be told -/
theorem elem_print {x : ATy} (h : (elem x).2 = 0) : (print (elem x).1).2 = 0 := by
  unfold elem at h ⊢
  cases hq : print x with
  | mk t er =>
    rw [hq] at h
    simp only at h ⊢
    by_cases hc : er = 0 ∧ t.head? = some 91
    · rw [if_pos hc]
      obtain ⟨rfl, ha⟩ := hc
      have hx := print_array hq ha
      by_cases hB : t = [91, 66]
      · rw [if_pos hB]
        decide
      · rw [if_neg hB]
        have hp := print_ok hq
        rw [hx] at hp
        rw [print_parse (parse_tail hp ha hB)]
    · rw [if_neg hc] at h
      cases h

theorem objName_not : objName.head? ≠ some 91 := by decide
theorem may_trans {l : List AClass} (hO : superOf l objName = []) (he : endsOf l = true) : ∀ (n : Nat) (x y z : ATy), x.name.length < n → (print x).2 = 0 → (print y).2 = 0 → (print z).2 = 0 → may l x y = true → may l y z = true → may l x z = true := by
  intro n
  induction n with
  | zero =>
    intro x y z hn
    omega
  | succ n ih =>
    intro x y z hn px py pz h1 h2
    by_cases exy : x = y
    · subst exy; exact h2
    · by_cases eyz : y = z
      · subst eyz; exact h1
      · -- none is KTop or KNull: all three are references
        have nk : ∀ {w : ATy}, (print w).2 = 0 → w.kind ≠ 0 ∧ w.kind ≠ 3 := fun {w} hw => by
          rcases print_kind hw with rfl | rfl | h
          · simp
          · simp
          · rw [h]; simp
        rw [may_eq] at h1 h2
        rw [if_neg (fun h => h.elim (nk py).1 fun h => h.elim exy fun h => (nk px).2 h.1)] at h1
        rw [if_neg (fun h => h.elim (nk pz).1 fun h => h.elim eyz fun h => (nk py).2 h.1)] at h2
        by_cases k1 : x.kind ≠ 4 ∨ y.kind ≠ 4
        · rw [if_pos k1] at h1; cases h1
        · by_cases k2 : y.kind ≠ 4 ∨ z.kind ≠ 4
          · rw [if_pos k2] at h2; cases h2
          · rw [if_neg k1] at h1
            rw [if_neg k2] at h2
            have hx4 : x.kind = 4 := Classical.byContradiction fun h => k1 (.inl h)
            have hy4 : y.kind = 4 := Classical.byContradiction fun h => k1 (.inr h)
            have hz4 : z.kind = 4 := Classical.byContradiction fun h => k2 (.inr h)
            by_cases exz : x = z
            · subst exz; exact may_self l x
            · rw [may_eq, if_neg (fun h => h.elim (nk pz).1 fun h => h.elim exz fun h => (nk px).2 h.1), if_neg (fun h => h.elim (fun h => h hx4) fun h => h hz4)]
              by_cases oz : z.name = objName
              · rw [if_pos oz]
              · rw [if_neg oz] at h2 ⊢
                by_cases oy : y.name = objName
                · -- nothing is above Object
                  exfalso
                  rw [oy] at h2
                  rw [if_neg (fun h => objName_not h.1)] at h2
                  by_cases az : z.name.head? = some 91
                  · rw [if_pos (.inr az)] at h2; cases h2
                  · rw [if_neg (fun h => h.elim objName_not az), aboveOf_nil (.inl hO)] at h2
                    cases h2
                · rw [if_neg oy] at h1
                  by_cases ay : y.name.head? = some 91
                  · by_cases ax : x.name.head? = some 91
                    · by_cases az : z.name.head? = some 91
                      · rw [if_pos ⟨ax, ay⟩] at h1
                        rw [if_pos ⟨ay, az⟩] at h2
                        rw [if_pos ⟨ax, az⟩]
                        by_cases c1 : (elem x).2 = 0 ∧ (elem y).2 = 0 ∧ (elem x).1.kind = 4 ∧ (elem y).1.kind = 4
                        · by_cases c2 : (elem y).2 = 0 ∧ (elem z).2 = 0 ∧ (elem y).1.kind = 4 ∧ (elem z).1.kind = 4
                          · rw [if_pos c1] at h1
                            rw [if_pos c2] at h2
                            rw [if_pos ⟨c1.1, c2.2.1, c1.2.2.1, c2.2.2.2⟩]
                            have := elem_lt c1.1 ax
                            exact ih _ _ _ (by omega) (elem_print c1.1) (elem_print c1.2.1) (elem_print c2.2.1) h1 h2
                          · rw [if_neg c2] at h2; cases h2
                        · rw [if_neg c1] at h1; cases h1
                      · rw [if_neg (fun h => az h.2), if_pos (.inl ay)] at h2; cases h2
                    · rw [if_neg (fun h => ax h.1), if_pos (.inr ay)] at h1; cases h1
                  · by_cases ax : x.name.head? = some 91
                    · rw [if_neg (fun h => ay h.2), if_pos (.inl ax)] at h1; cases h1
                    · by_cases az : z.name.head? = some 91
                      · rw [if_neg (fun h => ay h.1), if_pos (.inr az)] at h2; cases h2
                      · rw [if_neg (fun h => ax h.1), if_neg (fun h => h.elim ax ay)] at h1
                        rw [if_neg (fun h => ay h.1), if_neg (fun h => h.elim ay az)] at h2
                        rw [if_neg (fun h => ax h.1), if_neg (fun h => h.elim ax az)]
                        exact decide_eq_true (above_order he (of_decide_eq_true h1) (of_decide_eq_true h2))
end Go.Proofs.YtollfopbmbjnhaaDoor.Lift
namespace Go.Proofs.YtollfopbmbjnhaaDoor.Lift
open Go

structure APlace where
  classes : List APair
  pool : List AEntry
  back : ATy
  most : Int
  deriving DecidableEq, Inhabited

@[simp] def encPlace (x : APlace) : AV := .agg [.sl (x.classes.map encPair), .sl (x.pool.map encEntry), .int .i64 x.back.kind, .str x.back.name, .int .i64 x.most]

@[simp] def decPlace : AV → Option APlace
  | .agg [.sl classes, .sl pool, .int .i64 back_kind, .str back_name, .int .i64 most] => (mapO decPair classes).bind fun classes => (mapO decEntry pool).bind fun pool => some ⟨classes, pool, ⟨back_kind, back_name⟩, most⟩
  | _ => none

theorem edPlace (v : AV) (x : APlace) (h : decPlace v = some x) : v = encPlace x := by
  unfold decPlace at h
  split at h
  · simp only [Option.bind_eq_some_iff, Option.some.injEq] at h
    obtain ⟨q_classes, h_classes, q_pool, h_pool, rfl⟩ := h
    simp only [encPlace, ← mapO_inv edPair _ _ h_classes, ← mapO_inv edEntry _ _ h_pool]
  · cases h

def cPlace : Cod APlace := ⟨encPlace, decPlace, fun x => by simp, edPlace, fun x => by simp⟩
@[simp] theorem cPlace_dec : cPlace.dec = decPlace := rfl
@[simp] theorem cPlace_enc : cPlace.enc = encPlace := rfl
@[simp] theorem mapO_Place (l : List APlace) : mapO decPlace (l.map encPlace) = some l := mapO_map cPlace.de l
@[simp] theorem fzL_Place (l : List APlace) : fzL (l.map encPlace) = true := fzL_map cPlace.fz l
@[simp] theorem blwL_Place (k : Nat) (l : List APlace) : blwL k (l.map encPlace) = true := blwL_map cPlace.fz k l

end Go.Proofs.YtollfopbmbjnhaaDoor.Lift
