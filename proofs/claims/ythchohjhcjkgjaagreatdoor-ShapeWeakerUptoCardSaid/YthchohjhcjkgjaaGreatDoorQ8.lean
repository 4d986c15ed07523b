/-
  K13: contracts of the reference's Wide, array, Method, Print, Elem: they are wide, print, method, elem.
  K18: SameTexts; what may stand for what: kind.May.
  K14: larchlaw10.KindReads and KindTells are true.
  K19: the reference's May; classes; larchlaw10.KindStands is true.
  P2: THE SHAPE, plainly: what an instruction does to a hand (a frame on which it is done).
  S1: shape's hand: how it lies in the store; must, top, push, ref, single.
  S2: shape's hand, 2: ref, single, pop.
  LIFT, 31: A SLICE OF WHICH IT IS NOT KNOWN WHETHER IT IS NIL: a function that clones, by cases.
  LIFT, 32: THE RUNES OF A TEXT: a byte below 128 is its own rune; another one's rune is no less than 128.
  S3: shape's small functions: named, letter, what a type will do for, Clone, EqualFunc, May, Words.
  S4: shape's hand, 3: pop, local, elems, set.
-/
import Derived.Test.YthchohjhcjkgjaaGreatDoorQ7
import Derived.Lib.TrimUEq
namespace Go.Proofs.YthchohjhcjkgjaaGreatDoor.Lift
open Go
set_option maxRecDepth 100000

theorem p_refWide : SoundP Tryz.prog gl 55 (fn1 (cL cTy) encInt fun l => if l.length < 1099511627776 then some (wide l) else none) := by
  refine soundP_of_wk okX_nil mixed Tryz.func55 rfl rfl fun args r h G0 => ?_
  obtain ⟨l, e, rfl, he, rfl⟩ := fn1_inv h
  simp only [Option.ite_none_right_eq_some, Option.some.injEq] at he
  obtain ⟨hs, rfl⟩ := he
  simp [Tryz.f55, entry]
  refine lp_of okX_nil mixed (fun (i : Nat) => ⟨22, frL [(0, .sl (l.map encTy)), (3, .int .i64 ((i + longs (l.take i) : Nat) : Int)), (4, .int .i64 i)], []⟩) (fun i => i ≤ l.length) (fun i => l.length - i) 0 (by simp) (weak_frL rfl rfl (by simp [longs])) ?_
  intro i hi
  simp
  refine br_dec (fun h3 => ?_) (fun h3 => ?_)
  · have hx : l[i]? = some l[i] := by simp [h3]
    have hle := longs_le (l.take i)
    have hl := List.length_take_le i l
    have hw := wrap_i64 (show (-9223372036854775808 : Int) ≤ (i : Int) + 1 by omega) (by omega)
    have hw2 := wrap_i64 (show (-9223372036854775808 : Int) ≤ (i : Int) + (longs (l.take i) : Int) + 1 by omega) (by omega)
    have hw3 := wrap_i64 (show (-9223372036854775808 : Int) ≤ (i : Int) + (longs (l.take i) : Int) + 1 + 1 by omega) (by omega)
    have hsucc := longs_succ l i h3
    by_cases h2 : l[i].kind = 2
    · simp [hx, h2, hw, hw2, hw3]
      refine nextQ_of (i + 1) h3 (by omega) (weak_frL rfl rfl ?_)
      simp [hsucc, h2]
      omega
    · simp [hx, h2, hw, hw2]
      refine nextQ_of (i + 1) h3 (by omega) (weak_frL rfl rfl ?_)
      simp [hsucc, h2]
      omega
  · have : i = l.length := by omega
    subst this
    simp [wide]
    exact finS_fz (by simp)

theorem p_refArray : SoundP Tryz.prog gl 71 (fn1 cStr encBool fun s => some (decide (s.head? = some 91))) := by
  refine soundP_of_wk okX_nil mixed Tryz.func71 rfl rfl fun args r h G0 => ?_
  obtain ⟨s, e, rfl, he, rfl⟩ := fn1_inv h
  cases he
  cases s with
  | nil =>
    simp [Tryz.f71, entry]
    exact finS_fz (by simp)
  | cons c s =>
    by_cases hc : c = 91
    · subst hc
      simp [Tryz.f71, entry]
      exact finS_fz (by simp)
    · have n91 : ((c.toNat : Int) = 91) = False := by simp; intro h; exact hc (UInt8.toNat_inj.1 (by simp; omega))
      simp [Tryz.f71, entry, hc, n91]
      exact finS_fz (by simp)

theorem p_refPrint : SoundP Tryz.prog gl 38 (fn1 cTy encSErr fun x => if x.name.length < 1099511600000 then some (print x) else none) := by
  refine soundP_of_wk ((okX_nil.addP p_refArray).addP p_refParse) mixed Tryz.func38 rfl rfl fun args r h G0 => ?_
  obtain ⟨x, e, rfl, he, rfl⟩ := fn1_inv h
  simp only [Option.ite_none_right_eq_some, Option.some.injEq] at he
  obtain ⟨hs, rfl⟩ := he
  obtain ⟨k, nm⟩ := x
  simp at hs
  have hp0 : parse [] = (⟨0, []⟩, 100) := rfl
  by_cases h1 : k = 1
  · subst h1
    have hp : parse [73] = (⟨1, []⟩, 0) := by decide
    by_cases hn : nm = []
    · subst hn
      have hpr : print ⟨1, []⟩ = ([73], 0) := by decide
      simp [Tryz.f38, entry, hp, hpr]
      exact finS_fz (by simp)
    · have hn' : ¬ [] = nm := fun e => hn e.symm
      have hpr : print ⟨1, nm⟩ = ([], 100) := by simp [print, texty, hp, hn']
      simp [Tryz.f38, entry, hn, hp0, hpr]
      exact finS_fz (by simp)
  · by_cases h2 : k = 2
    · subst h2
      have hp : parse [74] = (⟨2, []⟩, 0) := by decide
      by_cases hn : nm = []
      · subst hn
        have hpr : print ⟨2, []⟩ = ([74], 0) := by decide
        simp [Tryz.f38, entry, hp, hpr]
        exact finS_fz (by simp)
      · have hn' : ¬ [] = nm := fun e => hn e.symm
        have hpr : print ⟨2, nm⟩ = ([], 100) := by simp [print, texty, hp, hn']
        simp [Tryz.f38, entry, hn, hp0, hpr]
        exact finS_fz (by simp)
    · by_cases h4 : k = 4
      · subst h4
        by_cases ha : nm.head? = some 91
        · have hs2 : nm.length < 1099511627776 := by omega
          cases hp : parse nm with
          | mk ty er =>
            obtain ⟨tk, tn⟩ := ty
            by_cases he : er = 0
            · subst he
              by_cases hk : tk = 4
              · by_cases hn : tn = nm
                · have hpr : print ⟨4, nm⟩ = (nm, 0) := by simp [print, texty, hp, hk, hn, ha, hs2]
                  subst hn
                  simp [Tryz.f38, entry, ha, hs2, hp, hk, hpr]
                  exact finS_fz (by simp)
                · have hpr : print ⟨4, nm⟩ = ([], 100) := by simp [print, texty, hp, hn, ha, hs2]
                  simp [Tryz.f38, entry, ha, hs2, hp, hk, hn, hpr]
                  exact finS_fz (by simp)
              · have hpr : print ⟨4, nm⟩ = ([], 100) := by simp [print, texty, hp, hk, ha, hs2]
                simp [Tryz.f38, entry, ha, hs2, hp, hk, hpr]
                exact finS_fz (by simp)
            · have hpr : print ⟨4, nm⟩ = ([], 100) := by simp [print, texty, hp, he, ha, hs2]
              simp [Tryz.f38, entry, ha, hs2, hp, he, hpr]
              exact finS_fz (by simp)
        · have hs2 : nm.length + 1 + 1 < 1099511627776 := by omega
          have hs3 : 1 + nm.length ≤ 4611686018427387904 := by omega
          have hs4 : nm.length + 1 + 1 ≤ 4611686018427387904 := by omega
          cases hp : parse (76 :: (nm ++ [59])) with
          | mk ty er =>
            obtain ⟨tk, tn⟩ := ty
            by_cases he : er = 0
            · subst he
              by_cases hk : tk = 4
              · by_cases hn : tn = nm
                · have hpr : print ⟨4, nm⟩ = ((76 :: (nm ++ [59])), 0) := by simp [print, texty, hp, hk, hn, ha, hs2, hs3, hs4]
                  subst hn
                  simp [Tryz.f38, entry, ha, hs2, hs3, hs4, hp, hk, hpr]
                  exact finS_fz (by simp)
                · have hpr : print ⟨4, nm⟩ = ([], 100) := by simp [print, texty, hp, hn, ha, hs2, hs3, hs4]
                  simp [Tryz.f38, entry, ha, hs2, hs3, hs4, hp, hk, hn, hpr]
                  exact finS_fz (by simp)
              · have hpr : print ⟨4, nm⟩ = ([], 100) := by simp [print, texty, hp, hk, ha, hs2, hs3, hs4]
                simp [Tryz.f38, entry, ha, hs2, hs3, hs4, hp, hk, hpr]
                exact finS_fz (by simp)
            · have hpr : print ⟨4, nm⟩ = ([], 100) := by simp [print, texty, hp, he, ha, hs2, hs3, hs4]
              simp [Tryz.f38, entry, ha, hs2, hs3, hs4, hp, he, hpr]
              exact finS_fz (by simp)
      · have hpr : print ⟨k, nm⟩ = ([], 100) := by simp [print, texty, h1, h2, h4, parse, descLen]
        simp [Tryz.f38, entry, h1, h2, h4, hp0, hpr]
        exact finS_fz (by simp)

theorem print_fst {x : ATy} {t : Str} {er : Int} (h : print x = (t, er)) : (er = 0 ∧ t = texty x) ∨ (er = 100 ∧ t = []) := by
  unfold print at h
  split at h <;> cases h
  · exact .inl ⟨rfl, rfl⟩
  · exact .inr ⟨rfl, rfl⟩

/-- a name of kind 4 that is an array's is its own text -/
theorem elem_not {k : Int} {nm : Str} (h : (print ⟨k, nm⟩).2 ≠ 0 ∨ k ≠ 4 ∨ nm.head? ≠ some 91) : elem ⟨k, nm⟩ = (⟨0, []⟩, 100) := by
  unfold elem
  rw [if_neg]
  rintro ⟨h1, h2⟩
  have := print_array (x := ⟨k, nm⟩) (t := (print ⟨k, nm⟩).1) (by rw [← h1]) h2
  simp only [ATy.mk.injEq] at this
  obtain ⟨h3, h4⟩ := this
  rcases h with h | h | h
  · exact h h1
  · exact h h3
  · exact h (by rw [h4]; exact h2)

/-- the elements of an array, by the reference's road: they are read anew -/
theorem parse_tail {nm : Str} (h : parse nm = (⟨4, nm⟩, 0)) (h1 : nm.head? = some 91) (h2 : nm ≠ [91, 66]) : parse (nm.drop 1) = (tyOf (nm.drop 1), 0) := by
  cases nm with
  | nil => simp at h1
  | cons c r =>
    simp at h1
    subst h1
    simp only [List.drop_succ_cons, List.drop_zero]
    unfold parse at h
    split at h
    · simp at h
    · rename_i hc
      have h0 : descLen (91 :: r) 0 ≠ 0 := fun h => hc (.inl h)
      have hl : descLen (91 :: r) 0 = (91 :: r).length := Classical.byContradiction fun h => hc (.inr h)
      obtain ⟨m, e1, e2⟩ := split91 r
      have d0 := descLen_split (m + 1) (r.dropWhile (· == 91)) 0 e2
      have d1 := descLen_split m (r.dropWhile (· == 91)) 0 e2
      rw [List.replicate_succ, List.cons_append, ← e1] at d0
      rw [← e1] at d1
      generalize hrest : r.dropWhile (· == 91) = rest at *
      have hlr : r.length = m + rest.length := by
        conv => lhs; rw [e1]
        simp
      have hpos : (decide (0 < m + 1)) = true := by simp
      rw [hpos] at d0
      rw [d0] at h0 hl
      by_cases h8 : 8 < m + 1 + 0
      · rw [if_pos h8] at h0; exact absurd rfl h0
      · rw [if_neg h8] at h0 hl
        by_cases hz : size1 rest true = 0
        · rw [if_pos hz] at h0; exact absurd rfl h0
        · rw [if_neg hz] at hl
          simp only [List.length_cons] at hl
          have hq : size1 rest (decide (0 < m)) = size1 rest true := by
            cases m with
            | succ m => simp
            | zero =>
              cases rest with
              | nil => rfl
              | cons c q =>
                by_cases h66 : c = 66
                · subst h66
                  have : r = [66] := by
                    rw [e1]
                    have hsz : size1 (66 :: q) true = 1 := by simp [size1]
                    have : q = [] := List.eq_nil_of_length_eq_zero (by rw [hsz] at hl; simp at hlr; omega)
                    simp [this]
                  exact absurd (by rw [this]) h2
                · simp [size1, h66]
          rw [hq, if_neg (by omega), if_neg hz] at d1
          unfold parse
          rw [if_neg]
          rw [d1]
          omega

theorem p_refElem : SoundP Tryz.prog gl 169 (fn1 cTy encTyErr fun x => if x.name.length < 1099511600000 then some (elem x) else none) := by
  refine soundP_of_wk (((okX_nil.addP p_refArray).addP p_refParse).addP p_refPrint) mixed Tryz.func169 rfl rfl fun args r h G0 => ?_
  obtain ⟨x, e, rfl, he, rfl⟩ := fn1_inv h
  simp only [Option.ite_none_right_eq_some, Option.some.injEq] at he
  obtain ⟨hs, rfl⟩ := he
  obtain ⟨k, nm⟩ := x
  simp at hs
  cases hp : print ⟨k, nm⟩ with
  | mk t er =>
    by_cases h0 : er = 0
    · subst h0
      by_cases h4 : k = 4
      · subst h4
        by_cases ha : nm.head? = some 91
        · have ht : t = nm := by
            rcases print_fst hp with ⟨_, h⟩ | ⟨h, _⟩
            · rw [h]; simp [texty, ha]
            · simp at h
          subst ht
          by_cases hB : t = [91, 66]
          · subst hB
            have hel : elem ⟨4, [91, 66]⟩ = (⟨1, []⟩, 0) := by simp [elem, hp]
            simp [Tryz.f169, entry, hp, hel]
            exact finS_fz (by simp)
          · have hel : elem ⟨4, t⟩ = (tyOf (t.drop 1), 0) := by simp only [elem, hp]; simp [ha, hB]
            have hpt := parse_tail (print_ok hp) ha hB
            have hlen : (t.drop 1).length < 1099511627776 := by simp; omega
            have h1len : 1 ≤ t.length := by
              cases t with
              | nil => simp at ha
              | cons c r => simp
            generalize hq : t.drop 1 = q at *
            simp [Tryz.f169, entry, hs, hp, hel, ha, hB, hpt, hlen, h1len, hq]
            exact finS_fz (by simp)
        · have hel := elem_not (k := 4) (nm := nm) (.inr (.inr ha))
          simp [Tryz.f169, entry, hs, hp, hel, ha]
          exact finS_fz (by simp)
      · have hel := elem_not (k := k) (nm := nm) (.inr (.inl h4))
        simp [Tryz.f169, entry, hs, hp, hel, h4]
        exact finS_fz (by simp)
    · have hel := elem_not (k := k) (nm := nm) (.inl (by rw [hp]; exact h0))
      simp [Tryz.f169, entry, hs, hp, hel, h0]
      exact finS_fz (by simp)

theorem p_refMethod : SoundP Tryz.prog gl 20 (fn1 cStr encMethodR fun s => if s.length < 1099511627776 then some (method s) else none) := by
  have okx := ((okX_nil.addP p_refWide).addP p_refParse).addP p_One
  refine soundP_of_wk okx mixed Tryz.func20 rfl rfl fun args r h G0 => ?_
  obtain ⟨s, e, rfl, he, rfl⟩ := fn1_inv h
  simp only [Option.ite_none_right_eq_some, Option.some.injEq] at he
  obtain ⟨hs, rfl⟩ := he
  cases s with
  | nil =>
    have hm : method [] = ([], ⟨0, []⟩, 100) := by simp [method]
    simp [Tryz.f20, entry, hm]
    exact finS_of 9 (by simp)
  | cons c0 r0 =>
    by_cases h40 : c0 = 40
    · subst h40
      simp at hs
      simp [Tryz.f20, entry]
      refine lp_of okx mixed (fun (x : Nat × List ATy) => ⟨78, frL [(0, .str (40 :: r0)), (3, .ptr 0 0 0 0), (5, .sr 1 x.2.length 0 x.2.length), (6, .int .i64 ((x.1 : Int) + 1))], [.row 2 0 0 [encTy ⟨0, []⟩], .row 2 x.2.length 0 (x.2.map encTy)]⟩)
        (fun x => x.1 ≤ r0.length ∧ x.2.length ≤ x.1 ∧ typesOf r0 = (x.2 ++ (typesOf (r0.drop x.1)).1, (typesOf (r0.drop x.1)).2)) (fun x => r0.length - x.1) (0, []) ⟨by simp, by simp, by simp⟩ (weak_frL rfl rfl (by simp)) ?_
      rintro ⟨i, l⟩ ⟨hi, hli, hty⟩
      simp only at hi hli hty ⊢
      have w1 := wrap_i64 (show (-9223372036854775808 : Int) ≤ (i : Int) + 1 + 1 by omega) (by omega)
      have f1 : ((i : Int) + 1).toNat = i + 1 := by omega
      have f2 : (0 ≤ (i : Int) + 1) = True := by simp; omega
      have f3 : ((i : Int) + 1 < (r0.length : Int) + 1) = (i < r0.length) := by simp
      have hll : l.length < 1099511627776 := by omega
      by_cases hlt : i < r0.length
      · have hx : r0[i]? = some r0[i] := by simp [hlt]
        have f4 : ((i : Int) + 1 = (r0.length : Int) + 1) = False := by simp; omega
        by_cases h41 : r0[i] = 41
        · -- the end of the arguments
          have q41 : ((r0[i].toNat : Int) = 41) = True := by rw [h41]; simp
          have ht0 : descLen (r0.drop i) 0 = 0 := by
            rw [List.drop_eq_getElem_cons hlt, h41]
            simp [descLen]
          have hth : (r0.drop i).head? = some 41 := by rw [List.drop_eq_getElem_cons hlt, h41]; rfl
          have htd : (r0.drop i).drop 1 = r0.drop (i + 1) := by rw [List.drop_drop]
          rw [typesOf_none ht0, List.append_nil] at hty
          have hm : method (40 :: r0) = if r0.drop (i + 1) = [86] then (if 32 < wide l then ([], ⟨0, []⟩, 3) else (l, ⟨0, []⟩, 0))
              else if (parse (r0.drop (i + 1))).2 ≠ 0 then ([], ⟨0, []⟩, (parse (r0.drop (i + 1))).2)
              else if 32 < wide l then ([], ⟨0, []⟩, 3) else (l, (parse (r0.drop (i + 1))).1, 0) := by
            simp only [method, List.head?_cons, if_true, List.drop_succ_cons, List.drop_zero, hty, hth, htd]
          have hdl : (r0.drop (i + 1)).length < 1099511627776 := by simp; omega
          have f5 : ((i : Int) + 1 + 1).toNat = i + 1 + 1 := by omega
          have f6 : (0 ≤ (i : Int) + 1 + 1) = True := by simp; omega
          have f7 : i + 1 ≤ r0.length := by omega
          have hw0 : ¬ 32 < wide [] := by simp [wide, longs]
          generalize hq : r0.drop (i + 1) = back at *
          by_cases h86 : back = [86]
          · subst h86
            by_cases hw : 32 < wide l
            · simp [f3, hlt, f1, f2, q41, f4, hq, w1, f5, f6, f7, hll, hm, hw]
              exact finS_of 9 (by simp)
            · simp [f3, hlt, f1, f2, q41, f4, hq, w1, f5, f6, f7, hll, hm, hw]
              refine dk_of (by decide) ?_
              simp
              exact finS_of 9 (by simp)
          · cases hp : parse back with
            | mk ty er =>
              rw [hp] at hm
              obtain ⟨tk, tn⟩ := ty
              by_cases he : er = 0
              · subst he
                by_cases hw : 32 < wide l
                · simp [f3, hlt, f1, f2, q41, f4, hq, w1, f5, f6, f7, hll, hm, hw, h86, hp, hdl]
                  exact finS_of 9 (by simp)
                · simp [f3, hlt, f1, f2, q41, f4, hq, w1, f5, f6, f7, hll, hm, hw, h86, hp, hdl]
                  refine dk_of (by decide) ?_
                  simp
                  refine sd_of (by decide) ?_
                  simp
                  exact finS_of 9 (by simp)
              · simp [f3, hlt, f1, f2, q41, f4, hq, w1, f5, f6, f7, hll, hm, h86, hp, hdl, he]
                exact finS_of 9 (by simp)
        · have q41 : ((r0[i].toNat : Int) = 41) = False := by simp; intro h; exact h41 (UInt8.toNat_inj.1 (by simp; omega))
          have hdl : (r0.drop i).length < 1099511627776 := by simp; omega
          have f7 : i ≤ r0.length := by omega
          by_cases h0 : descLen (r0.drop i) 0 = 0
          · have hth : ¬ (r0.drop i).head? = some 41 := by rw [List.drop_eq_getElem_cons hlt]; simp only [List.head?_cons, Option.some.injEq]; exact h41
            rw [typesOf_none h0, List.append_nil] at hty
            have hm : method (40 :: r0) = ([], ⟨0, []⟩, 100) := by
              simp only [method, List.head?_cons, if_true, List.drop_succ_cons, List.drop_zero, hty, hth, if_false]
            generalize hq : r0.drop i = t at *
            simp [f3, hlt, f1, f2, q41, gOneT, hq, hdl, oneRes, h0, hm, f7]
            exact finS_of 9 (by simp)
          · rw [typesOf_some h0] at hty
            have hle := descLen_le (r0.drop i) 0
            have hle2 : descLen (r0.drop i) 0 + i ≤ r0.length := by
              simp at hle; omega
            have hdd : (r0.drop i).drop (descLen (r0.drop i) 0) = r0.drop (i + descLen (r0.drop i) 0) := by rw [List.drop_drop]
            rw [hdd] at hty
            generalize hq : r0.drop i = t at *
            generalize hd : descLen t 0 = d at *
            have w2 := wrap_i64 (show (-9223372036854775808 : Int) ≤ (i : Int) + 1 + (d : Int) by omega) (by omega)
            have hb : (l.length + 1) * 24 ≤ 140737488355328 := by omega
            have hn : encTy (tyOf (t.take d)) = encTy (tyOf (t.take d)) := rfl
            simp [f3, hlt, f1, f2, q41, gOneT, hq, hdl, oneRes, h0, hd, w2, f7, hb]
            refine nextQ_less (i + d, l ++ [tyOf (t.take d)]) ⟨by omega, by simp; omega, by simpa using hty⟩ (by simp; omega) (less_take fz_gl G0.2 rfl (by simp) (by simp) (by simp; omega))
      · have hi' : i = r0.length := by omega
        subst hi'
        have hm : method (40 :: r0) = ([], ⟨0, []⟩, 100) := by
          have : typesOf r0 = (l, []) := by
            rw [hty, List.drop_length, typesOf_none (by simp [descLen])]
            simp
          simp only [method, List.head?_cons, if_true, List.drop_succ_cons, List.drop_zero, this]
          simp
        simp [hm]
        exact finS_of 9 (by simp)
    · have n40 : ((c0.toNat : Int) = 40) = False := by simp; intro h; exact h40 (UInt8.toNat_inj.1 (by simp; omega))
      have hm : method (c0 :: r0) = ([], ⟨0, []⟩, 100) := by simp [method, h40]
      simp [Tryz.f20, entry, hm, n40]
      exact finS_of 9 (by simp)
end Go.Proofs.YthchohjhcjkgjaaGreatDoor.Lift
namespace Go.Proofs.YthchohjhcjkgjaaGreatDoor.Lift
open Go
set_option maxRecDepth 100000

theorem tyOf_len (s : Str) : (tyOf s).name.length ≤ s.length := by
  cases s with
  | nil => simp [tyOf]
  | cons c r =>
    simp only [tyOf]
    split
    · simp
    · split
      · simp
      · split <;> simp <;> omega
/-- an array's elements have a shorter name -/
theorem elem_lt {x : ATy} (h : (elem x).2 = 0) (ha : x.name.head? = some 91) : (elem x).1.name.length < x.name.length := by
  have hpos : 0 < x.name.length := by cases hq : x.name <;> simp [hq] at ha ⊢
  unfold elem at h ⊢
  split
  · rename_i hc
    rw [if_pos hc] at h
    have hx := print_array (x := x) (t := (print x).1) (by rw [← hc.1]) hc.2
    split
    · simpa using hpos
    · have := tyOf_len ((print x).1.drop 1)
      have e : x.name = (print x).1 := congrArg ATy.name hx
      rw [e] at hpos ⊢
      simp at this ⊢
      omega
  · rename_i hc
    rw [if_neg hc] at h
    simp at h
def objName : Str := [79, 98, 106, 101, 99, 116]
/-- May: 10.2 -/
def may (l : List AClass) (x y : ATy) : Bool :=
  if y.kind = 0 ∨ x = y ∨ (x.kind = 3 ∧ y.kind = 4) then true
  else if x.kind ≠ 4 ∨ y.kind ≠ 4 then false
  else if y.name = objName then true
  else if ha : x.name.head? = some 91 ∧ y.name.head? = some 91 then
    (if he : (elem x).2 = 0 ∧ (elem y).2 = 0 ∧ (elem x).1.kind = 4 ∧ (elem y).1.kind = 4 then may l (elem x).1 (elem y).1 else false)
  else if x.name.head? = some 91 ∨ y.name.head? = some 91 then false
  else decide (y.name ∈ aboveOf l [x.name] x.name)
termination_by x.name.length
decreasing_by exact elem_lt he.1 ha.1
theorem may_eq (l : List AClass) (x y : ATy) : may l x y = if y.kind = 0 ∨ x = y ∨ (x.kind = 3 ∧ y.kind = 4) then true
  else if x.kind ≠ 4 ∨ y.kind ≠ 4 then false
  else if y.name = objName then true
  else if x.name.head? = some 91 ∧ y.name.head? = some 91 then
    (if (elem x).2 = 0 ∧ (elem y).2 = 0 ∧ (elem x).1.kind = 4 ∧ (elem y).1.kind = 4 then may l (elem x).1 (elem y).1 else false)
  else if x.name.head? = some 91 ∨ y.name.head? = some 91 then false
  else decide (y.name ∈ aboveOf l [x.name] x.name) := by
  conv => lhs; rw [may]
  simp only [dite_eq_ite]

def gMay (k : Nat) (l : List AClass) (x y : ATy) : Option Bool := if x.name.length < k ∧ l.length < 1099511627776 ∧ x.name.length < 1099511600000 ∧ y.name.length < 1099511600000 then some (may l x y) else none
def gMayT (l : List AClass) (x y : ATy) : Option Bool := if l.length < 1099511627776 ∧ x.name.length < 1099511600000 ∧ y.name.length < 1099511600000 then some (may l x y) else none

theorem p_kindMay_step (k : Nat) (ih : SoundP Tryz.prog gl 40 (fn3 (cL cClass) cTy cTy encBool (gMay k))) : SoundP Tryz.prog gl 40 (fn3 (cL cClass) cTy cTy encBool (gMay (k + 1))) := by
  have okx := (((okX_nil.addP ih).addP p_array).addP p_kindElem).add (a_up _)
  refine soundP_of_wk okx mixed Tryz.func40 rfl rfl fun args r h G0 => ?_
  obtain ⟨l, x, y, e, rfl, he, rfl⟩ := fn3_inv h
  unfold gMay at he
  simp only [Option.ite_none_right_eq_some, Option.some.injEq] at he
  obtain ⟨⟨hk, hl, hx, hy⟩, rfl⟩ := he
  obtain ⟨kx, nx⟩ := x
  obtain ⟨ky, ny⟩ := y
  simp only at hk hx hy
  have hm := may_eq l ⟨kx, nx⟩ ⟨ky, ny⟩
  simp only [ATy.mk.injEq] at hm
  generalize may l ⟨kx, nx⟩ ⟨ky, ny⟩ = res at hm ⊢
  by_cases h0 : ky = 0
  · have hres : res = true := by rw [hm, if_pos (.inl h0)]
    subst hres
    simp [Tryz.f40, entry, h0]
    exact finS_fz (by simp)
  · by_cases hxy : kx = ky ∧ nx = ny
    · have hres : res = true := by rw [hm, if_pos (.inr (.inl hxy))]
      obtain ⟨rfl, rfl⟩ := hxy
      subst hres
      simp [Tryz.f40, entry, h0]
      exact finS_fz (by simp)
    · have hxy' : (decide (kx = ky) && decide (nx = ny)) = false := by rw [← Bool.decide_and]; simpa using hxy
      by_cases hy4 : ky = 4
      · by_cases h3 : kx = 3
        · have hres : res = true := by rw [hm, if_pos (.inr (.inr ⟨h3, hy4⟩))]
          subst hres hy4
          simp [Tryz.f40, entry, hxy', h3]
          exact finS_fz (by simp)
        · rw [if_neg (fun e => e.elim h0 fun e => e.elim hxy fun e => h3 e.1)] at hm
          subst hy4
          by_cases h4 : kx = 4
          · subst h4
            have hn : ¬ nx = ny := fun e => hxy ⟨rfl, e⟩
            rw [if_neg (by simp)] at hm
            unfold objName at hm
            by_cases ho : ny = [79, 98, 106, 101, 99, 116]
            · rw [if_pos ho] at hm
              subst hm ho
              simp [Tryz.f40, entry, hn]
              exact finS_fz (by simp)
            · rw [if_neg ho] at hm
              by_cases a1 : nx.head? = some 91
              · by_cases a2 : ny.head? = some 91
                · rw [if_pos ⟨a1, a2⟩] at hm
                  cases he1 : elem ⟨4, nx⟩ with
                  | mk a e1 =>
                    cases he2 : elem ⟨4, ny⟩ with
                    | mk b e2 =>
                      obtain ⟨ka, na⟩ := a
                      obtain ⟨kb, nb⟩ := b
                      have hm' := hm
                      rw [he1, he2] at hm
                      simp only at hm
                      have go : ∀ P : Prop, [Decidable P] → ¬ P → (e1 = 0 ∧ e2 = 0 ∧ ka = 4 ∧ kb = 4 → P) → res = false := fun P _ hP hi => by rw [hm, if_neg (fun h => hP (hi h))]
                      by_cases q1 : e1 = 0
                      · by_cases q2 : e2 = 0
                        · by_cases q3 : ka = 4
                          · by_cases q4 : kb = 4
                            · rw [if_pos ⟨q1, q2, q3, q4⟩] at hm
                              subst hm q1 q2 q3 q4
                              have l1 : na.length < nx.length := by
                                have := elem_lt (x := ⟨4, nx⟩) (by rw [he1]) a1
                                rw [he1] at this
                                exact this
                              have l2 : nb.length < ny.length := by
                                have := elem_lt (x := ⟨4, ny⟩) (by rw [he2]) a2
                                rw [he2] at this
                                exact this
                              have hg : gMay k l ⟨4, na⟩ ⟨4, nb⟩ = some (may l ⟨4, na⟩ ⟨4, nb⟩) := by
                                unfold gMay
                                exact if_pos ⟨by simp only; omega, hl, by simp only; omega, by simp only; omega⟩
                              simp [Tryz.f40, entry, hn, ho]
                              refine dk_of (by decide) ?_
                              simp [a1, a2, hx, hy, he1, he2, hg]
                              exact finS_fz (by simp)
                            · have := go _ q4 (fun h => h.2.2.2)
                              subst this
                              simp [Tryz.f40, entry, hn, ho]
                              refine dk_of (by decide) ?_
                              simp [a1, a2, hx, hy, he1, he2, q1, q2, q3, q4]
                              exact finS_fz (by simp)
                          · have := go _ q3 (fun h => h.2.2.1)
                            subst this
                            simp [Tryz.f40, entry, hn, ho]
                            refine dk_of (by decide) ?_
                            simp [a1, a2, hx, hy, he1, he2, q1, q2, q3]
                            exact finS_fz (by simp)
                        · have := go _ q2 (fun h => h.2.1)
                          subst this
                          simp [Tryz.f40, entry, hn, ho]
                          refine dk_of (by decide) ?_
                          simp [a1, a2, hx, hy, he1, he2, q1, q2]
                          exact finS_fz (by simp)
                      · have := go _ q1 (fun h => h.1)
                        subst this
                        simp [Tryz.f40, entry, hn, ho]
                        refine dk_of (by decide) ?_
                        simp [a1, a2, hx, hy, he1, he2, q1]
                        exact finS_fz (by simp)
                · rw [if_neg (fun e => a2 e.2), if_pos (.inl a1)] at hm
                  subst hm
                  simp [Tryz.f40, entry, hn, ho, a1, a2]
                  refine dk_of (by decide) ?_
                  simp [a1, a2]
                  exact finS_fz (by simp)
              · by_cases a2 : ny.head? = some 91
                · rw [if_neg (fun e => a1 e.1), if_pos (.inr a2)] at hm
                  subst hm
                  simp [Tryz.f40, entry, hn, ho, a1, a2]
                  refine dk_of (by decide) ?_
                  simp [a1, a2]
                  exact finS_fz (by simp)
                · rw [if_neg (fun e => a1 e.1), if_neg (fun e => e.elim a1 a2)] at hm
                  subst hm
                  simp [Tryz.f40, entry, hn, ho, a1, a2]
                  refine dk_of (by decide) ?_
                  simp [a1, a2, sUp]
                  have hxs : gUp [.ptr 2 0 0 0, .ptr 1 0 0 0] [.row 1 0 0 [.sl (l.map encClass)], .row 1 0 0 [.str nx]] = some ((aboveOf l [nx] nx).map fun n => [.str n]) := by simp [gUp, hl]
                  generalize hnames : aboveOf l [nx] nx = names at *
                  refine rf_of okx mixed [3, 4] i_up [(5, .ptr 1 0 0 0), (6, .ptr 2 0 0 0)] (names.map fun n => [.str n]) (names.findIdx fun n => decide (n = ny)) .ret
                    (fun t => [.row 2 0 0 [.agg [.int .i64 4, .str nx]], .row 2 0 0 [.agg [.int .i64 4, .str ny]], .row 1 0 0 [.bool (decide ((names.findIdx fun n => decide (n = ny)) < t))], .dead 1 0, .dead 1 0])
                    rfl (by decide) rfl (by simp [fzB]) rfl hxs (by simp) (.inl rfl) (by simp [kill, deadOf]) (by simp) (by simp) (by simp) (fun t z hz ht G1 => ?_) (fun hle => ?_) (fun hlt => ?_)
                  · obtain ⟨n, hnn, rfl⟩ := by simpa using hz
                    have hlt : t < names.length := (List.getElem?_eq_some_iff.1 hnn).1
                    have hgt : names[t]? = some names[t] := by simp [hlt]
                    rw [hgt] at hnn
                    cases hnn
                    simp [setPs]
                    intro G2 hG2
                    refine br_dec (fun h6 => ?_) (fun h6 => ?_)
                    · have hk' : (names.findIdx fun n => decide (n = ny)) = t := by
                        rw [List.findIdx_eq hlt]
                        exact ⟨by simpa using h6, fun j hj => by have := List.not_of_lt_findIdx (p := fun n => decide (n = ny)) (xs := names) (by omega : j < _); simpa using this⟩
                      simp
                      exact roundEnd_off hk'.symm _ rfl (by simp) (by simp [hk']) (by simp)
                    · have hk' : t < (names.findIdx fun n => decide (n = ny)) := by
                        rcases Nat.lt_or_ge t (names.findIdx fun n => decide (n = ny)) with h7 | h7
                        · exact h7
                        · have e : (names.findIdx fun n => decide (n = ny)) = t := by omega
                          exfalso
                          have := (List.findIdx_eq hlt).1 e
                          exact h6 (by simpa using this.1)
                      have e1 : ¬ (names.findIdx fun n => decide (n = ny)) < t := by omega
                      have e2 : ¬ (names.findIdx fun n => decide (n = ny)) < t + 1 := by omega
                      simp
                      exact roundEnd_on hk' _ rfl (by simp) (by simp [e1, e2]) (by simp)
                  · have hnot : ny ∉ names := fun hmem => by
                      have h8 := List.findIdx_lt_length_of_exists (p := fun n => decide (n = ny)) (xs := names) ⟨ny, hmem, by simp⟩
                      simp at hle
                      omega
                    simp [hnot]
                    exact finS_fz (by simp)
                  · have hin : ny ∈ names := by
                      have h8 : (names.findIdx fun n => decide (n = ny)) < names.length := by simpa using hlt
                      have := List.findIdx_getElem (w := h8)
                      simp at this
                      rw [← this]
                      exact List.getElem_mem _
                    simp [hin]
                    exact finS_fz (by simp)
          · rw [if_pos (.inl h4)] at hm
            subst hm
            simp [Tryz.f40, entry, hxy', h3, h4]
            exact finS_fz (by simp)
      · have hres : res = false := by rw [hm, if_neg (by rintro (e | e | e) <;> first | exact h0 e | exact hxy e | exact hy4 e.2), if_pos (.inr hy4)]
        subst hres
        simp [Tryz.f40, entry, h0, hxy', hy4]
        exact finS_fz (by simp)
end Go.Proofs.YthchohjhcjkgjaaGreatDoor.Lift
namespace Go.Proofs.YthchohjhcjkgjaaGreatDoor.Lift
open Go
set_option maxRecDepth 100000

theorem typesOf_len : ∀ (n : Nat) (s : Str), s.length ≤ n → (typesOf s).1.length ≤ s.length := by
  intro n
  induction n with
  | zero =>
    intro s h
    have : s = [] := List.eq_nil_of_length_eq_zero (by omega)
    subst this
    rw [typesOf_none (by simp [descLen])]
    simp
  | succ n ih =>
    intro s h
    by_cases h0 : descLen s 0 = 0
    · rw [typesOf_none h0]; simp
    · have hle := descLen_le s 0
      have := ih (s.drop (descLen s 0)) (by simp; omega)
      rw [typesOf_some h0]
      simp at this ⊢
      omega
theorem method_len (s : Str) : (method s).1.length ≤ s.length := by
  have h := typesOf_len _ (s.drop 1) (Nat.le_refl _)
  simp only [List.length_drop] at h
  unfold method
  generalize typesOf (s.drop 1) = q at *
  split
  · dsimp only
    split
    · split
      · split <;> simp <;> omega
      · split
        · simp
        · split <;> simp <;> omega
    · simp
  · simp

theorem print_len {x : ATy} {t : Str} {er : Int} (h : print x = (t, er)) : t.length ≤ x.name.length + 2 := by
  rcases print_fst h with ⟨_, h⟩ | ⟨_, h⟩ <;> subst h
  · unfold texty
    split
    · simp
    · split
      · simp
      · split
        · split <;> simp
        · simp
  · simp

end Go.Proofs.YthchohjhcjkgjaaGreatDoor.Lift
namespace Go.Proofs.YthchohjhcjkgjaaGreatDoor.Lift
open Go
set_option maxRecDepth 100000

theorem p_kindMay : SoundP Tryz.prog gl 40 (fn3 (cL cClass) cTy cTy encBool gMayT) := by
  refine soundP_rec (fun k => fn3 (cL cClass) cTy cTy encBool (gMay k)) (fun args => ?_) p_kindMay_step fun args r h => ?_
  · cases hq : fn3 (cL cClass) cTy cTy encBool (gMay 0) args with
    | none => rfl
    | some r =>
      obtain ⟨l, x, y, e, _, he, _⟩ := fn3_inv hq
      simp [gMay] at he
  · obtain ⟨l, x, y, e, rfl, he, rfl⟩ := fn3_inv h
    refine ⟨x.name.length + 1, ?_⟩
    unfold gMayT at he
    simp only [Option.ite_none_right_eq_some, Option.some.injEq] at he
    obtain ⟨⟨h1, h2, h3⟩, rfl⟩ := he
    simp [gMay, h1, h2, h3]

theorem p_refMay_step (k : Nat) (ih : SoundP Tryz.prog gl 122 (fn3 (cL cClass) cTy cTy encBool (gMay k))) : SoundP Tryz.prog gl 122 (fn3 (cL cClass) cTy cTy encBool (gMay (k + 1))) := by
  have okx := (((okX_nil.addP ih).addP p_refArray).addP p_refElem).addP p_refAbove
  refine soundP_of_wk okx mixed Tryz.func122 rfl rfl fun args r h G0 => ?_
  obtain ⟨l, x, y, e, rfl, he, rfl⟩ := fn3_inv h
  unfold gMay at he
  simp only [Option.ite_none_right_eq_some, Option.some.injEq] at he
  obtain ⟨⟨hk, hl, hx, hy⟩, rfl⟩ := he
  obtain ⟨kx, nx⟩ := x
  obtain ⟨ky, ny⟩ := y
  simp only at hk hx hy
  have hm := may_eq l ⟨kx, nx⟩ ⟨ky, ny⟩
  simp only [ATy.mk.injEq] at hm
  generalize may l ⟨kx, nx⟩ ⟨ky, ny⟩ = res at hm ⊢
  by_cases h0 : ky = 0
  · have hres : res = true := by rw [hm, if_pos (.inl h0)]
    subst hres
    simp [Tryz.f122, entry, h0]
    exact finS_fz (by simp)
  · by_cases hxy : kx = ky ∧ nx = ny
    · have hres : res = true := by rw [hm, if_pos (.inr (.inl hxy))]
      obtain ⟨rfl, rfl⟩ := hxy
      subst hres
      simp [Tryz.f122, entry, h0]
      exact finS_fz (by simp)
    · have hxy' : (decide (kx = ky) && decide (nx = ny)) = false := by rw [← Bool.decide_and]; simpa using hxy
      by_cases hy4 : ky = 4
      · by_cases h3 : kx = 3
        · have hres : res = true := by rw [hm, if_pos (.inr (.inr ⟨h3, hy4⟩))]
          subst hres hy4
          simp [Tryz.f122, entry, hxy', h3]
          exact finS_fz (by simp)
        · rw [if_neg (fun e => e.elim h0 fun e => e.elim hxy fun e => h3 e.1)] at hm
          subst hy4
          by_cases h4 : kx = 4
          · subst h4
            have hn : ¬ nx = ny := fun e => hxy ⟨rfl, e⟩
            rw [if_neg (by simp)] at hm
            unfold objName at hm
            by_cases ho : ny = [79, 98, 106, 101, 99, 116]
            · rw [if_pos ho] at hm
              subst hm ho
              simp [Tryz.f122, entry, hn]
              exact finS_fz (by simp)
            · rw [if_neg ho] at hm
              by_cases a1 : nx.head? = some 91
              · by_cases a2 : ny.head? = some 91
                · rw [if_pos ⟨a1, a2⟩] at hm
                  cases he1 : elem ⟨4, nx⟩ with
                  | mk a e1 =>
                    cases he2 : elem ⟨4, ny⟩ with
                    | mk b e2 =>
                      obtain ⟨ka, na⟩ := a
                      obtain ⟨kb, nb⟩ := b
                      rw [he1, he2] at hm
                      simp only at hm
                      have go : ∀ P : Prop, [Decidable P] → ¬ P → (e1 = 0 ∧ e2 = 0 ∧ ka = 4 ∧ kb = 4 → P) → res = false := fun P _ hP hi => by rw [hm, if_neg (fun h => hP (hi h))]
                      by_cases q1 : e1 = 0
                      · by_cases q2 : e2 = 0
                        · by_cases q3 : ka = 4
                          · by_cases q4 : kb = 4
                            · rw [if_pos ⟨q1, q2, q3, q4⟩] at hm
                              subst hm q1 q2 q3 q4
                              have l1 : na.length < nx.length := by
                                have := elem_lt (x := ⟨4, nx⟩) (by rw [he1]) a1
                                rw [he1] at this
                                exact this
                              have l2 : nb.length < ny.length := by
                                have := elem_lt (x := ⟨4, ny⟩) (by rw [he2]) a2
                                rw [he2] at this
                                exact this
                              have hg : gMay k l ⟨4, na⟩ ⟨4, nb⟩ = some (may l ⟨4, na⟩ ⟨4, nb⟩) := by
                                unfold gMay
                                exact if_pos ⟨by simp only; omega, hl, by simp only; omega, by simp only; omega⟩
                              simp [Tryz.f122, entry, hn, ho, a1, a2, hx, hy, he1, he2, hg]
                              exact finS_fz (by simp)
                            · have := go _ q4 (fun h => h.2.2.2)
                              subst this
                              simp [Tryz.f122, entry, hn, ho, a1, a2, hx, hy, he1, he2, q1, q2, q3, q4]
                              exact finS_fz (by simp)
                          · have := go _ q3 (fun h => h.2.2.1)
                            subst this
                            simp [Tryz.f122, entry, hn, ho, a1, a2, hx, hy, he1, he2, q1, q2, q3]
                            exact finS_fz (by simp)
                        · have := go _ q2 (fun h => h.2.1)
                          subst this
                          simp [Tryz.f122, entry, hn, ho, a1, a2, hx, hy, he1, he2, q1, q2]
                          exact finS_fz (by simp)
                      · have := go _ q1 (fun h => h.1)
                        subst this
                        simp [Tryz.f122, entry, hn, ho, a1, a2, hx, hy, he1, he2, q1]
                        exact finS_fz (by simp)
                · rw [if_neg (fun e => a2 e.2), if_pos (.inl a1)] at hm
                  subst hm
                  simp [Tryz.f122, entry, hn, ho, a1, a2]
                  exact finS_fz (by simp)
              · by_cases a2 : ny.head? = some 91
                · rw [if_neg (fun e => a1 e.1), if_pos (.inr a2)] at hm
                  subst hm
                  simp [Tryz.f122, entry, hn, ho, a1, a2]
                  exact finS_fz (by simp)
                · rw [if_neg (fun e => a1 e.1), if_neg (fun e => e.elim a1 a2)] at hm
                  subst hm
                  have hlen := aboveOf_le l [nx] nx
                  generalize hnames : aboveOf l [nx] nx = names at *
                  simp [Tryz.f122, entry, hn, ho, a1, a2, hl, hnames]
                  refine lp_of okx mixed (fun (i : Nat) => ⟨107, frL [(5, .ptr 1 0 0 0), (6, .bool false), (11, .sl (names.map .str)), (12, .int .i64 i)], [.row 2 0 0 [.agg [.int .i64 4, .str nx]], .row 2 0 0 [.agg [.int .i64 4, .str ny]]]⟩)
                    (fun i => i ≤ names.length ∧ ∀ (j : Nat) (h : j < names.length), j < i → ¬ names[j] = ny) (fun i => names.length - i) 0 (by simp) (weak_frL rfl rfl (by simp)) ?_
                  intro i ⟨hi, hni⟩
                  simp
                  refine br_dec (fun h6 => ?_) (fun h6 => ?_)
                  · have hxi : names[i]? = some names[i] := by simp [h6]
                    have hw := wrap_i64 (show (-9223372036854775808 : Int) ≤ (i : Int) + 1 by omega) (by omega)
                    simp
                    refine dk_of (by decide) ?_
                    simp [hxi]
                    refine br_dec (fun h7 => ?_) (fun h7 => ?_)
                    · have hin : ny ∈ names := by rw [← h7]; exact List.getElem_mem _
                      simp [hin]
                      exact finS_fz (by simp)
                    · simp [hw]
                      refine nextQ_of (i + 1) ⟨h6, fun j hj hji => ?_⟩ (by omega) (weak_frL rfl rfl (by simp))
                      rcases Nat.lt_or_ge j i with h8 | h8
                      · exact hni j hj h8
                      · have : j = i := by omega
                        subst this
                        exact h7
                  · have hnot : ny ∉ names := fun hm => by
                      obtain ⟨j, hj, e⟩ := List.getElem_of_mem hm
                      exact hni j hj (by omega) e
                    simp [hnot]
                    exact finS_fz (by simp)
          · rw [if_pos (.inl h4)] at hm
            subst hm
            simp [Tryz.f122, entry, hxy', h3, h4]
            exact finS_fz (by simp)
      · have hres : res = false := by rw [hm, if_neg (fun e => e.elim h0 fun e => e.elim hxy fun e => hy4 e.2), if_pos (.inr hy4)]
        subst hres
        by_cases h3 : kx = 3
        · subst h3
          simp [Tryz.f122, entry, h0, hxy', hy4]
          exact finS_fz (by simp)
        · by_cases h4 : kx = 4
          · subst h4
            simp [Tryz.f122, entry, h0, hxy', hy4]
            exact finS_fz (by simp)
          · simp [Tryz.f122, entry, h0, hxy', hy4, h3, h4]
            exact finS_fz (by simp)
theorem p_refMay : SoundP Tryz.prog gl 122 (fn3 (cL cClass) cTy cTy encBool gMayT) := by
  refine soundP_rec (fun k => fn3 (cL cClass) cTy cTy encBool (gMay k)) (fun args => ?_) p_refMay_step fun args r h => ?_
  · cases hq : fn3 (cL cClass) cTy cTy encBool (gMay 0) args with
    | none => rfl
    | some r =>
      obtain ⟨l, x, y, e, _, he, _⟩ := fn3_inv hq
      simp [gMay] at he
  · obtain ⟨l, x, y, e, rfl, he, rfl⟩ := fn3_inv h
    refine ⟨x.name.length + 1, ?_⟩
    unfold gMayT at he
    simp only [Option.ite_none_right_eq_some, Option.some.injEq] at he
    obtain ⟨⟨h1, h2, h3⟩, rfl⟩ := he
    simp [gMay, h1, h2, h3]
end Go.Proofs.YthchohjhcjkgjaaGreatDoor.Lift
namespace Go.Proofs.YthchohjhcjkgjaaGreatDoor.Lift
open Go

/-- a hand: the classes, the locals, the stack, is it bad; and of the stack's block the generation, and what lies behind the stack -/
structure AHand where
  cl : List AClass
  loc : List ATy
  stk : List ATy
  bad : Bool
  g : Nat
  junk : List ATy
def mustT (b : Bool) (h : AHand) : AHand := { h with bad := h.bad || !b }
def topO (h : AHand) : Option (ATy × AHand) := if h.stk.length < 1099511627776 then (match h.stk.getLast? with
    | none => some (⟨0, []⟩, { h with bad := true })
    | some x => some (x, { h with stk := h.stk.dropLast, junk := x :: h.junk })) else none
def pushO (l : List ATy) (h : AHand) : Option AHand := if h.stk.length + l.length < 1099511627776 then some { h with stk := h.stk ++ l, g := h.g + 1, junk := [] } else none
def refO (h : AHand) : Option (ATy × AHand) := (topO h).map fun r => (r.1, mustT (decide (r.1.kind = 3) || decide (r.1.kind = 4)) r.2)
def singleO (h : AHand) : Option (ATy × AHand) := (topO h).map fun r => (r.1, mustT (decide (r.1.kind ≠ 2)) r.2)
/-- a type is popped -/
def pop1 (x : ATy) (h : AHand) : Option AHand := (topO h).bind fun r => (gMayT r.2.cl r.1 x).map fun b => mustT b r.2
def popR : List ATy → AHand → Option AHand
  | [], h => some h
  | x :: r, h => (pop1 x h).bind (popR r)
/-- types are popped, the last one first -/
def popO (l : List ATy) (h : AHand) : Option AHand := popR l.reverse h
def elemsO (will : ATy → Bool) (h : AHand) : Option (ATy × AHand) := (refO h).bind fun r =>
  if r.1.kind = 3 then some r
  else if r.1.name.length < 1099511600000 then some ((elem r.1).1, mustT (decide ((elem r.1).2 = 0) && will (elem r.1).1) r.2) else none
def isRefT (x : ATy) : Bool := decide (x.kind = 4)
/-- the type of a letter -/
def letterT (c : Int) : ATy :=
  if c = 73 then ⟨1, []⟩ else if c = 74 then ⟨2, []⟩ else if c = 78 then ⟨3, []⟩ else if c = 105 then ⟨4, [91, 73]⟩ else if c = 106 then ⟨4, [91, 74]⟩ else if c = 98 then ⟨4, [91, 66]⟩
  else if c = 84 then ⟨4, [84, 104, 114, 111, 119, 97, 98, 108, 101]⟩ else ⟨0, []⟩
/-- a local that will do -/
def localT (will : ATy → Bool) (k : Int) (h : AHand) : ATy × AHand :=
  if 0 ≤ k ∧ k < h.loc.length ∧ will (h.loc.getD k.toNat ⟨0, []⟩) = true then (h.loc.getD k.toNat ⟨0, []⟩, h) else (⟨0, []⟩, { h with bad := true })
def wide1 (x : ATy) : Nat := if x.kind = 2 then 2 else 1
/-- a local is set -/
def setL (k : Nat) (x : ATy) (l : List ATy) : List ATy :=
  let l1 := if 0 < k ∧ (l.getD (k - 1) ⟨0, []⟩).kind = 2 then l.set (k - 1) ⟨0, []⟩ else l
  let l2 := l1.set k x
  if x.kind = 2 then l2.set (k + 1) ⟨0, []⟩ else l2
def putO (k : Int) (x : ATy) (h : AHand) : Option AHand := if h.loc.length < 1099511627776 then some (if k < 0 ∨ (h.loc.length : Int) - wide1 x < k then { h with bad := true } else { h with loc := setL k.toNat x h.loc }) else none

/-- one behind the other: pushes of single types -/
def pushR : List ATy → AHand → Option AHand
  | [], h => some h
  | x :: r, h => (pushO [x] h).bind (pushR r)
def lettersT (s : Str) : List ATy := s.map fun c => letterT c.toNat
/-- what is popped, the last one first (R, RR: references) -/
def popsO (pops : Str) (h : AHand) : Option AHand :=
  if pops.getLast? = some 82 then (refO h).bind fun a => if pops.dropLast = [] then some a.2 else (refO a.2).map fun (b : ATy × AHand) => b.2
  else popR (lettersT pops.reverse) h
/-- an effect: what is popped, and pushed -/
def doesO (pops pushes : Str) (h : AHand) : Option AHand := (popsO pops h).bind (pushR (lettersT pushes))
/-- the effects -/
def effTab : List (List Int × Str × Str) :=
  [([0, 167], [], []), ([1], [], [78]), ([9], [], [74]), ([17], [], [73]), ([46], [105, 73], [73]), ([47], [106, 73], [74]), ([51], [98, 73], [73]), ([79], [105, 73, 73], []), ([80], [106, 73, 74], []), ([84], [98, 73, 73], []),
   ([96, 100, 104, 108, 112, 120, 122, 124, 126, 128, 130], [73, 73], [73]), ([97, 101, 105, 109, 113, 127, 129, 131], [74, 74], [74]), ([121, 123, 125], [74, 73], [74]), ([116, 145, 146, 147], [73], [73]), ([117], [74], [74]), ([133], [73], [74]),
   ([136], [74], [73]), ([148], [74, 74], [73]), ([153, 154, 155, 156, 157, 158, 170, 171], [73], []), ([159, 160, 161, 162, 163, 164], [73, 73], []), ([165, 166], [82, 82], []), ([194, 195, 198, 199], [82], []), ([191], [84], [])]
def effectT (op : Int) : Option (Str × Str) := (effTab.find? fun e => decide (op ∈ e.1)).map fun e => e.2

def tI : ATy := ⟨1, []⟩
def tJ : ATy := ⟨2, []⟩
/-- what moves on the stack, or between it and locals -/
def movesO (op a : Int) (h : AHand) : Option (Bool × AHand) :=
  if op = 21 then (pushO [(localT (fun x => decide (x = tI)) a h).1] (localT (fun x => decide (x = tI)) a h).2).map fun h => (true, h)
  else if op = 22 then (pushO [(localT (fun x => decide (x = tJ)) a h).1] (localT (fun x => decide (x = tJ)) a h).2).map fun h => (true, h)
  else if op = 25 then (pushO [(localT (fun x => decide (x.kind = 4) || decide (x.kind = 3)) a h).1] (localT (fun x => decide (x.kind = 4) || decide (x.kind = 3)) a h).2).map fun h => (true, h)
  else if op = 132 then some (true, (localT (fun x => decide (x = tI)) a h).2)
  else if op = 54 then ((pop1 tI h).bind (putO a tI)).map fun h => (true, h)
  else if op = 55 then ((pop1 tJ h).bind (putO a tJ)).map fun h => (true, h)
  else if op = 58 then ((refO h).bind fun r => putO a r.1 r.2).map fun h => (true, h)
  else if op = 87 then (singleO h).map fun r => (true, r.2)
  else if op = 88 then (topO h).bind fun r => if r.1.kind = 2 then some (true, r.2) else (singleO r.2).map fun r => (true, r.2)
  else if op = 89 then (singleO h).bind fun r => (pushO [r.1, r.1] r.2).map fun h => (true, h)
  else if op = 90 then (singleO h).bind fun b => (singleO b.2).bind fun a => (pushO [b.1, a.1, b.1] a.2).map fun h => (true, h)
  else if op = 95 then (singleO h).bind fun b => (singleO b.2).bind fun a => (pushO [b.1, a.1] a.2).map fun h => (true, h)
  else if op = 92 then (topO h).bind fun b => if b.1.kind = 2 then (pushO [b.1, b.1] b.2).map fun h => (true, h) else (singleO b.2).bind fun a => (pushO [a.1, b.1, a.1, b.1] a.2).map fun h => (true, h)
  else if op = 50 then (pop1 tI h).bind fun h => (elemsO isRefT h).bind fun r => (pushO [r.1] r.2).map fun h => (true, h)
  else if op = 83 then (refO h).bind fun r => (pop1 tI r.2).bind fun h => (elemsO isRefT h).map fun r => (true, r.2)
  else if op = 190 then (elemsO (fun _ => true) h).bind fun r => (pushO [tI] r.2).map fun h => (true, h)
  else some (false, h)

/-- a pool's constant of a tag -/
def constH (p : List AEntry) (k tag : Int) (h : AHand) : AConst × AHand :=
  let h1 := mustT (decide ((constT p k).2 = 0) && decide ((constT p k).1.tag = tag)) h
  (if h1.bad then noConst else (constT p k).1, h1)
/-- the descriptor of a class's constant -/
def classH (p : List AEntry) (k : Int) (h : AHand) : Option (Str × AHand) :=
  if (constH p k 7 h).1.cls.length < 1099511600000 then some ((print ⟨4, (constH p k 7 h).1.cls⟩).1, mustT (decide ((print ⟨4, (constH p k 7 h).1.cls⟩).2 = 0)) (constH p k 7 h).2) else none
/-- a descriptor's type, which there must be -/
def kindH (s : Str) (h : AHand) : Option (ATy × AHand) := if s.length < 1099511627776 then some ((parse s).1, mustT (decide ((parse s).2 = 0)) h) else none
/-- the end of a method -/
def answersO (op : Int) (back : ATy) (h : AHand) : Option (Bool × AHand) :=
  if op = 177 then some (true, mustT (decide (back.kind = 0)) h)
  else if op = 172 ∨ op = 173 ∨ op = 176 then
    let want : Int := if op = 172 then 1 else if op = 173 then 2 else 4
    (pop1 back (mustT (decide (back.kind = want) && (decide (want = 4) || decide (back.name = []))) h)).map fun h => (true, h)
  else some (false, h)
def namedT (s : Str) : ATy := ⟨4, s⟩
/-- what asks the pool -/
def boundO (p : List AEntry) (op a : Int) (h : AHand) : Option (Bool × AHand) :=
  if op = 18 then (pushO [tI] (constH p a 3 h).2).map fun h => (true, h)
  else if op = 20 then (pushO [tJ] (constH p a 5 h).2).map fun h => (true, h)
  else if op = 178 then (kindH (constH p a 9 h).1.type (constH p a 9 h).2).bind fun t => (pushO [t.1] t.2).map fun h => (true, h)
  else if op = 179 then (kindH (constH p a 9 h).1.type (constH p a 9 h).2).bind fun t => (pop1 t.1 t.2).map fun h => (true, h)
  else if op = 180 then (kindH (constH p a 9 h).1.type (constH p a 9 h).2).bind fun t => (pop1 (namedT (constH p a 9 h).1.cls) t.2).bind fun h => (pushO [t.1] h).map fun h => (true, h)
  else if op = 181 then (kindH (constH p a 9 h).1.type (constH p a 9 h).2).bind fun t => (pop1 t.1 t.2).bind fun h' => (pop1 (namedT (constH p a 9 h).1.cls) h').map fun h => (true, h)
  else if op = 182 ∨ op = 183 ∨ op = 184 then
    if (constH p a 10 h).1.type.length < 1099511627776 then
      let m := method (constH p a 10 h).1.type
      (popO m.1 (mustT (decide (m.2.2 = 0)) (constH p a 10 h).2)).bind fun h' => (if op = 184 then some h' else pop1 (namedT (constH p a 10 h).1.cls) h').bind fun h' => (if m.2.1.kind = 0 then some h' else pushO [m.2.1] h').map fun h => (true, h)
    else none
  else if op = 187 then (classH p a h).bind fun s => (kindH s.1 (mustT (decide (([76] : Str) <+: s.1)) s.2)).bind fun t => (pushO [t.1] t.2).map fun h => (true, h)
  else if op = 188 then (pop1 tI h).bind fun h => (pushO [letterT (if a = 8 then 98 else if a = 10 then 105 else if a = 11 then 106 else 0)] (mustT (decide (a = 8) || decide (a = 10) || decide (a = 11)) h)).map fun h => (true, h)
  else if op = 189 then (pop1 tI h).bind fun h => (classH p a h).bind fun s => (kindH (91 :: s.1) s.2).bind fun t => (pushO [t.1] t.2).map fun h => (true, h)
  else if op = 192 then (refO h).bind fun r => (classH p a r.2).bind fun s => (kindH s.1 s.2).bind fun t => (pushO [t.1] t.2).map fun h => (true, h)
  else if op = 193 then (classH p a h).bind fun s => (doesO [82] [73] s.2).map fun h => (true, h)
  else some (false, h)

/-- the plain form of an Op and its number -/
def plainO (op a : Int) : Int × Int :=
  if 2 ≤ op ∧ op ≤ 8 then (17, op - 3)
  else if op = 10 then (9, 1)
  else if op = 16 then (17, a)
  else if op = 19 then (18, a)
  else if 26 ≤ op ∧ op < 30 then (21, op - 26)
  else if 30 ≤ op ∧ op < 34 then (22, op - 30)
  else if 42 ≤ op ∧ op < 46 then (25, op - 42)
  else if 59 ≤ op ∧ op < 63 then (54, op - 59)
  else if 63 ≤ op ∧ op < 67 then (55, op - 63)
  else if 75 ≤ op ∧ op < 79 then (58, op - 75)
  else (op, a)
def plainT (i : AInstr) : AInstr := { i with op := (plainO i.op i.a).1, a := (plainO i.op i.a).2 }

/-- an instruction is done to a hand -/
def handO (p : List AEntry) (back : ATy) (op a : Int) (h : AHand) : Option AHand :=
  match effectT op with
  | some e => doesO e.1 e.2 h
  | none => (movesO op a h).bind fun r => if r.1 then some r.2 else (answersO op back r.2).bind fun r => if r.1 then some r.2 else (boundO p op a r.2).map fun r => if r.1 then r.2 else { r.2 with bad := true }
/-- Step: 11.1 -/
def stepO (cl : List AClass) (p : List AEntry) (back : ATy) (i : AInstr) (f : AFrame) (most : Int) : Option (AFrame × Int) :=
  (handO p back (plainT i).op (plainT i).a ⟨cl, f.locals, f.stack, false, 1, []⟩).bind fun h =>
    if h.bad = true then some (⟨[], []⟩, 110) else if h.stk.length < 1099511627776 then some (if most < wide h.stk then (⟨[], []⟩, 110) else (⟨h.loc, h.stk⟩, 0)) else none
end Go.Proofs.YthchohjhcjkgjaaGreatDoor.Lift
namespace Go.Proofs.YthchohjhcjkgjaaGreatDoor.Lift
open Go
set_option maxRecDepth 100000

/-- how it lies: behind five blocks of shape.Step (p), ahead of others (q) -/
def handSto (p0 p1 p2 p3 p4 : ABlk) (h : AHand) (q : Sto) : Sto :=
  p0 :: p1 :: p2 :: p3 :: p4 :: .row 2 1 0 (h.loc.map encTy) :: .row 2 h.g 0 ((h.stk ++ h.junk).map encTy) :: .row 4 0 0 [.agg [.sl (h.cl.map encClass), .sr 5 1 0 h.loc.length, .sr 6 h.g 0 h.stk.length, .bool h.bad]] :: q
open Classical in
/-- a method of a hand -/
noncomputable def handS (f : List AV → Sto → AHand → Option (AV × AHand)) : Spec := fun args st => match args with
  | .ptr 7 0 0 0 :: av =>
    if h : ∃ x : (ABlk × ABlk × ABlk × ABlk × ABlk) × AHand × Sto, st = handSto x.1.1 x.1.2.1 x.1.2.2.1 x.1.2.2.2.1 x.1.2.2.2.2 x.2.1 x.2.2 then
      (f av h.choose.2.2 h.choose.2.1).map fun r => (r.1, handSto h.choose.1.1 h.choose.1.2.1 h.choose.1.2.2.1 h.choose.1.2.2.2.1 h.choose.1.2.2.2.2 r.2 h.choose.2.2)
    else none
  | _ => none
theorem encTy_inj {a b : ATy} (h : encTy a = encTy b) : a = b := by
  cases a; cases b
  simp at h
  simp [h]
theorem encClass_inj {a b : AClass} (h : encClass a = encClass b) : a = b := by
  cases a; cases b
  have := congrArg decClass h
  simpa using this
theorem handSto_inj {p0 p1 p2 p3 p4 p0' p1' p2' p3' p4' : ABlk} {h h' : AHand} {q q' : Sto} (e : handSto p0 p1 p2 p3 p4 h q = handSto p0' p1' p2' p3' p4' h' q') :
    p0 = p0' ∧ p1 = p1' ∧ p2 = p2' ∧ p3 = p3' ∧ p4 = p4' ∧ h = h' ∧ q = q' := by
  obtain ⟨cl, loc, stk, bad, g, junk⟩ := h
  obtain ⟨cl', loc', stk', bad', g', junk'⟩ := h'
  simp only [handSto, List.cons.injEq, ABlk.row.injEq, AV.agg.injEq, AV.sl.injEq, AV.sr.injEq, AV.bool.injEq, true_and, and_true] at e
  obtain ⟨e0, e1, e2, e3, e4, e5, ⟨e6, e7⟩, ⟨e8, e9, ⟨_, e10⟩, e11⟩, e12⟩ := e
  have i1 : loc = loc' := (List.map_inj_right (fun _ _ h => encTy_inj h)).1 e5
  have i2 : stk ++ junk = stk' ++ junk' := (List.map_inj_right (fun _ _ h => encTy_inj h)).1 e7
  have i3 : cl = cl' := (List.map_inj_right (fun _ _ h => encClass_inj h)).1 e8
  obtain ⟨i4, i5⟩ := List.append_inj i2 e10
  subst i1 i3 i4 i5 e6 e11
  exact ⟨e0, e1, e2, e3, e4, rfl, e12⟩
theorem handS_eq {f : List AV → Sto → AHand → Option (AV × AHand)} {av : List AV} {p0 p1 p2 p3 p4 : ABlk} {h : AHand} {q : Sto} :
    handS f (.ptr 7 0 0 0 :: av) (handSto p0 p1 p2 p3 p4 h q) = (f av q h).map fun r => (r.1, handSto p0 p1 p2 p3 p4 r.2 q) := by
  unfold handS
  simp only
  have hex : ∃ x : (ABlk × ABlk × ABlk × ABlk × ABlk) × AHand × Sto, handSto p0 p1 p2 p3 p4 h q = handSto x.1.1 x.1.2.1 x.1.2.2.1 x.1.2.2.2.1 x.1.2.2.2.2 x.2.1 x.2.2 := ⟨((p0, p1, p2, p3, p4), h, q), rfl⟩
  rw [dif_pos hex]
  obtain ⟨i0, i1, i2, i3, i4, i5, i6⟩ := handSto_inj hex.choose_spec
  rw [← i0, ← i1, ← i2, ← i3, ← i4, ← i5, ← i6]
theorem handS_inv {f : List AV → Sto → AHand → Option (AV × AHand)} {args : List AV} {st st' : Sto} {r : AV} (h : handS f args st = some (r, st')) :
    ∃ av p0 p1 p2 p3 p4 hh q h', args = .ptr 7 0 0 0 :: av ∧ st = handSto p0 p1 p2 p3 p4 hh q ∧ f av q hh = some (r, h') ∧ st' = handSto p0 p1 p2 p3 p4 h' q := by
  unfold handS at h
  split at h
  · rename_i av
    split at h
    · rename_i hex
      obtain ⟨x, hx, e⟩ := Option.map_eq_some_iff.1 h
      cases e
      exact ⟨av, _, _, _, _, _, hex.choose.2.1, hex.choose.2.2, x.2, rfl, hex.choose_spec, hx, rfl⟩
    · cases h
  · cases h
theorem blwL_tys (k : Nat) (l : List ATy) : blwL k (l.map encTy) = true := blwL_map cTy.fz k l
/-- it stays shut, whatever the hand is -/
theorem hand_shut {p0 p1 p2 p3 p4 : ABlk} {h h' : AHand} {q : Sto} (hc : (handSto p0 p1 p2 p3 p4 h q).all (blwB (handSto p0 p1 p2 p3 p4 h q).length) = true) :
    (handSto p0 p1 p2 p3 p4 h' q).all (blwB (handSto p0 p1 p2 p3 p4 h' q).length) = true := by
  have e : (handSto p0 p1 p2 p3 p4 h' q).length = (handSto p0 p1 p2 p3 p4 h q).length := rfl
  rw [e]
  simp only [handSto, List.all_cons, Bool.and_eq_true] at hc ⊢
  obtain ⟨h0, h1, h2, h3, h4, _, _, _, h5⟩ := hc
  refine ⟨h0, h1, h2, h3, h4, ?_, ?_, ?_, h5⟩
  · exact blwL_tys _ _
  · exact blwL_tys _ _
  · simp

/-- a method's contract, from its walk -/
theorem hand_of_wk {E : Env} {B : List Nat} (ok : OkX Tryz.prog (XB E B)) {f : Nat} {fn : Func} (hf : Tryz.prog.funcs[f]? = some fn) (hb : fn.body.isSome = true) (hn : (fn.name == "runtime.NumGoroutine") = false) {m : List AV → Sto → AHand → Option (AV × AHand)}
    (h : ∀ av q hh r h', m av q hh = some (r, h') → fz r = true ∧ ∀ (p0 p1 p2 p3 p4 : ABlk),
      ∀ G0 : { G : Gh // G.σ = handSto p0 p1 p2 p3 p4 hh q }, wk Tryz.prog (XB E B) G0.1 (fun e s => (e = .normal ∨ e = .ret) ∧ resAs (XB E B) s fn.results.toList = some r ∧ s.st.take (q.length + 8) = handSto p0 p1 p2 p3 p4 h' q) (fn.body.get hb) [] (entry fn (.ptr 7 0 0 0 :: av) (handSto p0 p1 p2 p3 p4 hh q))) : SoundF Tryz.prog gl f (handS m) :=
  soundD_of_wk ok mixed hf hb hn fun args st r st' hs hc => by
    obtain ⟨av, p0, p1, p2, p3, p4, hh, q, h', rfl, rfl, hm, rfl⟩ := handS_inv hs
    obtain ⟨h1, h2⟩ := h av q hh r h' hm
    exact ⟨Nat.le_refl _, hand_shut hc, fz_blw h1, fun G0 => h2 p0 p1 p2 p3 p4 G0⟩

/-- must -/
def hMust (av : List AV) (_ : Sto) (h : AHand) : Option (AV × AHand) := match av with
  | [.bool b] => some (.tup [], mustT b h)
  | _ => none
theorem f_must : SoundF Tryz.prog gl 94 (handS hMust) := by
  refine hand_of_wk okX_nil Tryz.func94 rfl rfl fun av q hh r h' hm => ?_
  unfold hMust at hm
  split at hm
  · rename_i b
    cases hm
    refine ⟨rfl, fun p0 p1 p2 p3 p4 G0 => ?_⟩
    cases hbad : hh.bad with
    | true => simp [Tryz.f94, entry, handSto, mustT, hbad]
    | false => cases b <;> simp [Tryz.f94, entry, handSto, mustT, hbad]
  · cases hm
/-- top -/
def hTop (av : List AV) (_ : Sto) (h : AHand) : Option (AV × AHand) := match av with
  | [] => (topO h).map fun r => (encTy r.1, r.2)
  | _ => none
theorem f_top : SoundF Tryz.prog gl 91 (handS hTop) := by
  refine hand_of_wk okX_nil Tryz.func91 rfl rfl fun av q hh r h' hm => ?_
  obtain ⟨cl, loc, stk, bad, g, junk⟩ := hh
  unfold hTop topO at hm
  split at hm
  · obtain ⟨⟨r, h2⟩, hm2, he⟩ := Option.map_eq_some_iff.1 hm
    clear hm
    cases he
    simp only [Option.ite_none_right_eq_some] at hm2
    obtain ⟨hl, hm⟩ := hm2
    rcases List.eq_nil_or_concat stk with rfl | ⟨s, x, rfl⟩
    · simp only [List.getLast?_nil] at hm
      cases hm
      refine ⟨rfl, fun p0 p1 p2 p3 p4 G0 => ?_⟩
      have hw := wrap_i64 (show (-9223372036854775808 : Int) ≤ 0 - 1 by omega) (by omega)
      simp at hw
      simp [Tryz.f91, entry, handSto, hw]
    · simp only [List.concat_eq_append, List.getLast?_append, List.getLast?_singleton, Option.some_or, List.dropLast_concat] at hm
      cases hm
      refine ⟨cTy.fz r, fun p0 p1 p2 p3 p4 G0 => ?_⟩
      have hw := wrap_i64 (show (-9223372036854775808 : Int) ≤ (s.length : Int) by omega) (by simp at hl; omega)
      have hx : (List.map encTy s ++ encTy r :: List.map encTy junk)[s.length]? = some (encTy r) := by simp
      have hneg : ((s.length : Int) < 0) = False := by simp
      have hlt1 : ((s.length : Int) < (s.length : Int) + 1) = True := by simp; omega
      simp at hl
      simp [Tryz.f91, entry, handSto, hw, hneg, hlt1]
  · cases hm
/-- push -/
def decTys : AV → Option (List ATy)
  | .sl xs => mapO decTy xs
  | _ => none
def hPush (av : List AV) (_ : Sto) (h : AHand) : Option (AV × AHand) := match av with
  | [x] => (decTys x).bind fun l => (pushO l h).map fun h' => (.tup [], h')
  | _ => none
theorem decTys_inv {x : AV} {l : List ATy} (h : decTys x = some l) : x = .sl (l.map encTy) := by
  unfold decTys at h
  split at h
  · rw [mapO_inv cTy.ed _ _ h]; rfl
  · cases h
theorem f_push : SoundF Tryz.prog gl 82 (handS hPush) := by
  refine hand_of_wk okX_nil Tryz.func82 rfl rfl fun av q hh r h' hm => ?_
  obtain ⟨cl, loc, stk, bad, g, junk⟩ := hh
  unfold hPush at hm
  split at hm
  · rename_i x
    obtain ⟨l, hl, hm2⟩ := Option.bind_eq_some_iff.1 hm
    obtain ⟨h2, hm3, he⟩ := Option.map_eq_some_iff.1 hm2
    clear hm hm2
    cases he
    have := decTys_inv hl
    subst this
    simp only [pushO, Option.ite_none_right_eq_some, Option.some.injEq] at hm3
    obtain ⟨hb, rfl⟩ := hm3
    refine ⟨rfl, fun p0 p1 p2 p3 p4 G0 => ?_⟩
    have hb2 : (stk.length + l.length) * 24 ≤ 140737488355328 := by omega
    simp [Tryz.f82, entry, handSto, hb2]
  · cases hm
end Go.Proofs.YthchohjhcjkgjaaGreatDoor.Lift
namespace Go.Proofs.YthchohjhcjkgjaaGreatDoor.Lift
open Go
set_option maxRecDepth 100000

section
variable {p0 p1 p2 p3 p4 : ABlk} {h : AHand} {q r : Sto}
@[simp high] theorem hs_len : (handSto p0 p1 p2 p3 p4 h q).length = q.length + 8 := rfl
@[simp high] theorem hs_app : handSto p0 p1 p2 p3 p4 h q ++ r = handSto p0 p1 p2 p3 p4 h (q ++ r) := rfl
@[simp high] theorem hs_get (n : Nat) : (handSto p0 p1 p2 p3 p4 h q)[n + 8]? = q[n]? := rfl
@[simp high] theorem hs_set (n : Nat) (x : ABlk) : (handSto p0 p1 p2 p3 p4 h q).set (n + 8) x = handSto p0 p1 p2 p3 p4 h (q.set n x) := rfl
@[simp high] theorem hs_7 : (handSto p0 p1 p2 p3 p4 h q)[7]? = some (.row 4 0 0 [.agg [.sl (h.cl.map encClass), .sr 5 1 0 h.loc.length, .sr 6 h.g 0 h.stk.length, .bool h.bad]]) := rfl
@[simp high] theorem hs_take : List.take (q.length + 8) (handSto p0 p1 p2 p3 p4 h (q ++ r)) = handSto p0 p1 p2 p3 p4 h q := by unfold handSto; simp
@[simp high] theorem hs_take0 : List.take (q.length + 8) (handSto p0 p1 p2 p3 p4 h q) = handSto p0 p1 p2 p3 p4 h q := by unfold handSto; simp
@[simp high] theorem app_get0 : (q ++ r)[q.length]? = r[0]? := by rw [List.getElem?_append_right (Nat.le_refl _), Nat.sub_self]
@[simp high] theorem app_get (k : Nat) : (q ++ r)[q.length + k]? = r[k]? := by rw [List.getElem?_append_right (by omega)]; congr 1; omega
@[simp high] theorem app_set0 (x : ABlk) : (q ++ r).set q.length x = q ++ r.set 0 x := by rw [List.set_append_right _ _ (Nat.le_refl _), Nat.sub_self]
@[simp high] theorem app_set (k : Nat) (x : ABlk) : (q ++ r).set (q.length + k) x = q ++ r.set k x := by
  rw [List.set_append_right _ _ (by omega)]; congr 2; omega
end

/-- ref -/
def hRef (av : List AV) (_ : Sto) (h : AHand) : Option (AV × AHand) := match av with
  | [] => (refO h).map fun r => (encTy r.1, r.2)
  | _ => none
theorem ok_ref : OkX Tryz.prog (XE [(94, handS hMust), (91, handS hTop)]) := (okX_nil.add f_top).add f_must
theorem f_ref : SoundF Tryz.prog gl 80 (handS hRef) := by
  refine hand_of_wk ok_ref Tryz.func80 rfl rfl fun av q hh r h' hm => ?_
  unfold hRef refO at hm
  split at hm
  · simp only [Option.map_map] at hm
    obtain ⟨⟨t, h1⟩, ht, he⟩ := Option.map_eq_some_iff.1 hm
    clear hm
    cases he
    refine ⟨cTy.fz t, fun p0 p1 p2 p3 p4 G0 => ?_⟩
    by_cases h3 : t.kind = 3
    · simp [Tryz.f80, entry, handS_eq, hTop, hMust, ht, h3]
    · simp [Tryz.f80, entry, handS_eq, hTop, hMust, ht, h3]
  · cases hm

/-- single -/
def hSingle (av : List AV) (_ : Sto) (h : AHand) : Option (AV × AHand) := match av with
  | [] => (singleO h).map fun r => (encTy r.1, r.2)
  | _ => none
theorem f_single : SoundF Tryz.prog gl 90 (handS hSingle) := by
  refine hand_of_wk ok_ref Tryz.func90 rfl rfl fun av q hh r h' hm => ?_
  unfold hSingle singleO at hm
  split at hm
  · simp only [Option.map_map] at hm
    obtain ⟨⟨t, h1⟩, ht, he⟩ := Option.map_eq_some_iff.1 hm
    clear hm
    cases he
    refine ⟨cTy.fz t, fun p0 p1 p2 p3 p4 G0 => ?_⟩
    simp [Tryz.f90, entry, handS_eq, hTop, hMust, ht]
  · cases hm

/-- slices.Backward -/
def sBack : Spec := fun args st => match args with
  | [.sl xs] => some (.fn (.func 188) [] [.ptr st.length 0 0 0], st ++ [.row 1 0 0 [.sl xs]])
  | _ => none
theorem a_Backward : SoundA Tryz.prog gl 150 sBack := by
  refine soundA_of_wk okA_nil mixed Tryz.func150 rfl rfl fun args st r st' h J okx G0 => ?_
  unfold sBack at h
  split at h
  · cases h
    simp [Tryz.f150, entry]
  · cases h
/-- what it yields -/
def backRow (l : List ATy) : List (List AV) := l.zipIdx.reverse.map fun p => [.int .i64 p.2, encTy p.1]
def gBack : List AV → Sto → Option (List (List AV)) := fun cap own => match cap, own with
  | [.ptr 1 0 0 0], [.row 1 0 0 [.sl xs]] => match mapO decTy xs with
    | some l => if l.length < 1099511627776 then some (backRow l) else none
    | none => none
  | _, _ => none
theorem backRow_length (l : List ATy) : (backRow l).length = l.length := by simp [backRow]
theorem backRow_get (l : List ATy) (t : Nat) (h : t < l.length) : (backRow l)[t]? = some [.int .i64 ((l.length - 1 - t : Nat) : Int), encTy (l[l.length - 1 - t]'(by omega))] := by
  unfold backRow
  rw [List.getElem?_map, List.getElem?_reverse (by simpa using h), List.length_zipIdx, List.getElem?_zipIdx]
  rw [List.getElem?_eq_getElem (by omega)]
  simp
theorem i_Backward : SoundI Tryz.prog gl 188 gBack := by
  refine soundI_of_wk okA_nil mixed Tryz.func188 rfl rfl rfl fun cap own xs h J l k okx G0 => ?_
  unfold gBack at h
  split at h
  · rename_i ys
    split at h
    · rename_i cs hcs
      split at h
      · rename_i hlen
        cases h
        have hys : ys = cs.map encTy := mapO_inv cTy.ed _ _ hcs
        subst hys
        have hw0 := wrap_i64 (show (-9223372036854775808 : Int) ≤ (cs.length : Int) - 1 by omega) (by omega)
        simp [Tryz.f188, entry, hw0]
        refine lp_of okx mixed (fun (t : Nat) => ⟨19, frL [(0, .fn (.yield l) [] []), (1, .ptr 1 0 0 0), (3, .int .i64 ((cs.length : Int) - 1 - t))], [.tick t, .row 1 0 0 [.sl (cs.map encTy)]]⟩)
          (fun t => t ≤ k ∧ t ≤ cs.length) (fun t => cs.length - t) 0 ⟨by simp, by simp⟩ (weak_frL rfl rfl (by simp)) ?_
        intro t ⟨htk, htl⟩
        simp
        by_cases hlt : t < cs.length
        · have e0 : ((t : Int) ≤ (cs.length : Int) - 1) = True := by simp; omega
          have e1 : ((cs.length : Int) - 1 - t).toNat = cs.length - 1 - t := by omega
          have hx : cs[cs.length - 1 - t]? = some (cs[cs.length - 1 - t]'(by omega)) := List.getElem?_eq_getElem (by omega)
          have hget := backRow_get cs t hlt
          have e2 : (((cs.length - 1 - t : Nat)) : Int) = (cs.length : Int) - 1 - t := by omega
          rw [e2] at hget
          have hy := fun r => yieldS_eq (r := r) htk hget
          simp only [encTy] at hy
          have hw := wrap_i64 (show (-9223372036854775808 : Int) ≤ (cs.length : Int) - 1 - t - 1 by omega) (by omega)
          by_cases h3 : t = k
          · subst h3
            have hm : min cs.length (t + 1) = t + 1 := by omega
            simp [e0, e1, hx, hy, backRow_length, hm]
          · simp [e0, e1, hx, hy, h3, hw]
            exact nextQ_of (t + 1) ⟨by omega, by omega⟩ (by omega) (weak_frL rfl rfl (by simp; omega))
        · have e0 : ((t : Int) ≤ (cs.length : Int) - 1) = False := by simp; omega
          have hm : min cs.length (k + 1) = t := by omega
          simp [e0, backRow_length, hm]
      · cases h
    · cases h
  · cases h
end Go.Proofs.YthchohjhcjkgjaaGreatDoor.Lift
namespace Go.Proofs.YthchohjhcjkgjaaGreatDoor.Lift
open Go
set_option maxRecDepth 100000

@[simp] def sCloneNil : Spec := fun args st => match args with
  | [.snil] => some (.snil, st)
  | _ => none
@[simp] def sCloneE (sz : Nat) : Spec := fun args st => match args with
  | [.sle] => some (.sr st.length 1 0 0, st ++ [.row sz 1 0 []])
  | _ => none
@[simp] def sCloneX (sz : Nat) (c : List AV → Bool) : Spec := fun args st => match args with
  | [.sl (x :: xs)] => if c (x :: xs) = true then some (.sr st.length 1 0 (xs.length + 1), st ++ [.row sz 1 0 (x :: xs)]) else none
  | _ => none
/-- a clone: a new block, with a generation of one (one append) -/
@[simp] def sClone (sz : Nat) (c : List AV → Bool) : Spec := fun args st => match args with
  | [.sl xs] => if c xs = true then some (.sr st.length 1 0 xs.length, st ++ [.row sz 1 0 xs]) else none
  | _ => none

/-- nothing new in memory: a row without elements more -/
theorem grow_none {G : Gh} (inv : Inv G) (sz : Nat) : ∃ H : Gh, H.w = G.w ∧ H.σ = G.σ ++ [.row sz 1 0 []] ∧ Ext G H ∧ Inv H ∧ H.ρ G.σ.length 1 = none := by
  let G1 := G.grow G.w none (.row sz 0 0 [])
  have x1 : Ext G G1 := ext_grow inv G.w none _ rfl rfl rfl (Nat.le_refl _) (fun _ _ => rfl) (fun _ h => by cases h)
  have inv1 : Inv G1 := inv_grow_row inv G.w none sz [] x1 (fun _ _ => rfl) (fun _ h => by cases h) (fun _ => rfl)
  have hb : G1.σ[G.σ.length]? = some (.row sz 0 0 []) := by simp [G1, Gh.grow]
  have x2 : Ext G1 (G1.turn G.w G.σ.length (.row sz (0 + 1) 0 []) none) := ext_move inv1 none hb rfl rfl rfl (Nat.le_refl _) (fun _ _ => rfl) (fun _ h => by cases h)
  have inv2 := inv_move (ys := []) inv1 none hb x2 (fun _ _ => rfl) (fun _ h => by cases h) (fun _ => rfl) (Nat.le_refl _)
  refine ⟨G1.turn G.w G.σ.length (.row sz (0 + 1) 0 []) none, rfl, ?_, x1.trans x2, inv2, ?_⟩
  · simp [Gh.turn, G1, Gh.grow]
  · simp [Gh.turn]

theorem clone_join {P : Program} {gl : Nat → Option AV} {J : Foe} {f sz : Nat} {c : List AV → Bool} (h0 : SoundJ P gl J f sCloneNil) (h1 : SoundJ P gl J f (sCloneE sz)) (h2 : SoundJ P gl J f (sCloneX sz c)) : SoundJ P gl J f (sClone sz c) where
  calls := fun G args vals r σ' hs inv hJ hg hargs => by
    unfold sClone at hs
    split at hs
    · rename_i xs
      cases xs with
      | cons x xs => exact h2.calls G [.sl (x :: xs)] vals r σ' hs inv hJ hg hargs
      | nil =>
        split at hs
        · rename_i hc
          cases hs
          cases hargs with
          | cons hv ht =>
            have nilcase : ∀ v, v = Value.slice none 0 0 → RepL G [.sl []] [v] → CallDone P f [v].toArray G.w (Ret G (.sr G.σ.length 1 0 0) (G.σ ++ [.row sz 1 0 []])) := fun v hv _ => by
              subst hv
              refine done_imp (h0.calls G [.snil] _ _ _ rfl inv hJ hg (.cons .snil .nil)) fun e w' he => ?_
              cases e with
              | panicked c => exact he.elim
              | outgrown => exact he.elim
              | returned u =>
                obtain ⟨G', rfl, hσ, x, inv', hr⟩ := he
                obtain ⟨H, e1, e2, x2, inv2, e3⟩ := grow_none inv' sz
                refine ⟨H, e1, by rw [e2, hσ], x.trans x2, inv2, ?_⟩
                cases hr
                rw [← hσ]
                exact .sr0 (sz := sz) ⟨.row sz 1 0 [], by rw [e2]; simp, Nat.le_refl _, rfl⟩ e3
            have otherwise_ : ∀ v, Rep G .sle v → CallDone P f [v].toArray G.w (Ret G (.sr G.σ.length 1 0 0) (G.σ ++ [.row sz 1 0 []])) := fun v hv =>
              h1.calls G [.sle] _ _ _ rfl inv hJ hg (.cons hv .nil)
            cases ht
            cases hv with
            | sl0 a cap h =>
              cases a with
              | none => have := h rfl; subst this; exact nilcase _ rfl (.cons (.sl0 none 0 h) .nil)
              | some a => exact otherwise_ _ (.sle a cap)
            | sl hl h => exact otherwise_ _ (.sle _ _)
        · cases hs
    · cases hs
end Go.Proofs.YthchohjhcjkgjaaGreatDoor.Lift
namespace Go.Proofs.YthchohjhcjkgjaaGreatDoor.Lift
open Go

theorem runeAt_N (s : List UInt8) (i : Nat) : runeAt s i = Lib.decodeN (s.length - i) (s.getD i 0).toNat (s.getD (i + 1) 0).toNat (s.getD (i + 2) 0).toNat (s.getD (i + 3) 0).toNat := by
  unfold runeAt
  rw [Lib.decode_N]
theorem runeAt_ascii {s : List UInt8} {i : Nat} {c : UInt8} (h : s[i]? = some c) (hc : c.toNat < 128) : runeAt s i = (c.toNat, 1) := by
  rw [runeAt_N]
  have : s.getD i 0 = c := by rw [List.getD_eq_getElem?_getD, h]; rfl
  rw [this]
  unfold Lib.decodeN
  rw [if_pos hc]
theorem runeAt_big {s : List UInt8} {i : Nat} {c : UInt8} (h : s[i]? = some c) (hc : 128 ≤ c.toNat) : 128 ≤ (runeAt s i).1 := by
  rw [runeAt_N]
  have : s.getD i 0 = c := by rw [List.getD_eq_getElem?_getD, h]; rfl
  rw [this]
  unfold Lib.decodeN
  rw [if_neg (by omega)]
  split
  · split <;> simp only <;> omega
  · split
    · split <;> simp only <;> omega
    · split
      · split <;> simp only <;> omega
      · simp only; omega
/-- a function without captured variables -/
def cF0 (f : Nat) : Cod Unit where
  enc := fun _ => .fn (.func f) [] []
  dec := fun v => match v with | .fn (.func g) [] [] => if g = f then some () else none | _ => none
  de := fun x => by simp
  ed := fun v x h => by
    split at h
    · split at h
      · rename_i e; subst e; rfl
      · cases h
    · cases h
  fz := fun x => by simp [fz, fzL]
@[simp] theorem cF0_dec (f : Nat) : (cF0 f).dec (.fn (.func f) [] []) = some () := by simp [cF0]
@[simp] theorem cF0_enc (f : Nat) (x : Unit) : (cF0 f).enc x = .fn (.func f) [] [] := rfl
@[simp] def decRune : AV → Option Int
  | .int .i32 n => some n
  | _ => none
@[simp] def encRune (n : Int) : AV := .int .i32 n
def cRune : Cod Int := ⟨encRune, decRune, fun _ => rfl, fun v x h => by
  cases v with
  | int k n => cases k <;> simp_all
  | _ => simp_all, fun _ => rfl⟩
@[simp] theorem cRune_dec : cRune.dec = decRune := rfl
@[simp] theorem cRune_enc : cRune.enc = encRune := rfl

end Go.Proofs.YthchohjhcjkgjaaGreatDoor.Lift
namespace Go.Proofs.YthchohjhcjkgjaaGreatDoor.Lift
open Go
set_option maxRecDepth 100000

theorem p_named : SoundP Tryz.prog gl 97 (fn1 cStr encTy fun s => some (namedT s)) := by
  refine soundP_of_wk okX_nil mixed Tryz.func97 rfl rfl fun args r h G0 => ?_
  obtain ⟨s, e, rfl, he, rfl⟩ := fn1_inv h
  cases he
  simp [Tryz.f97, entry]
  exact finS_fz (by simp)
theorem p_letterT : SoundP Tryz.prog gl 77 (fn1 cRune encTy fun c => some (letterT c)) := by
  refine soundP_of_wk (okX_nil.addP p_named) mixed Tryz.func77 rfl rfl fun args r h G0 => ?_
  obtain ⟨c, e, rfl, he, rfl⟩ := fn1_inv h
  cases he
  simp [Tryz.f77, entry]
  refine br_dec (fun h1 => ?_) (fun h1 => ?_)
  · simp [h1]; exact finS_eq (by simp [letterT]) (by simp)
  simp [h1]
  refine br_dec (fun h2 => ?_) (fun h2 => ?_)
  · simp [h2]; exact finS_eq (by simp [letterT]) (by simp)
  simp [h2]
  refine br_dec (fun h3 => ?_) (fun h3 => ?_)
  · simp [h3]; exact finS_eq (by simp [letterT]) (by simp)
  simp [h3]
  refine br_dec (fun h4 => ?_) (fun h4 => ?_)
  · simp [h4]; exact finS_eq (by simp [letterT, namedT]) (by simp)
  simp [h4]
  refine br_dec (fun h5 => ?_) (fun h5 => ?_)
  · simp [h5]; exact finS_eq (by simp [letterT, namedT]) (by simp)
  simp [h5]
  refine br_dec (fun h6 => ?_) (fun h6 => ?_)
  · simp [h6]; exact finS_eq (by simp [letterT, namedT]) (by simp)
  simp [h6]
  refine br_dec (fun h7 => ?_) (fun h7 => ?_)
  · simp [h7]; exact finS_eq (by simp [letterT, namedT]) (by simp)
  simp [h7]
  exact finS_eq (by simp [letterT, h1, h2, h3, h4, h5, h6, h7]) (by simp)
theorem p_isRef : SoundP Tryz.prog gl 87 (fn1 cTy encBool fun x => some (isRefT x)) := by
  refine soundP_of_wk okX_nil mixed Tryz.func87 rfl rfl fun args r h G0 => ?_
  obtain ⟨x, e, rfl, he, rfl⟩ := fn1_inv h
  cases he
  simp [Tryz.f87, entry]
  exact finS_fz (by simp)
theorem p_anything : SoundP Tryz.prog gl 93 (fn1 cTy encBool fun _ => some true) := by
  refine soundP_of_wk okX_nil mixed Tryz.func93 rfl rfl fun args r h G0 => ?_
  obtain ⟨x, e, rfl, he, rfl⟩ := fn1_inv h
  cases he
  simp [Tryz.f93, entry]
  exact finS_fz (by simp)
theorem ty_eq_dec (x y : ATy) : (decide (x.kind = y.kind) && decide (x.name = y.name)) = decide (x = y) := by
  cases x; cases y
  simp [← Bool.decide_and]
theorem p_moves1 : SoundP Tryz.prog gl 84 (fn2 cTy (cRp cTy) encBool fun x y => some (decide (x = y))) := by
  refine soundP_of_wk okX_nil mixed Tryz.func84 rfl rfl fun args r h G0 => ?_
  obtain ⟨x, y, e, rfl, he, rfl⟩ := fn2_inv h
  cases he
  simp [Tryz.f84, entry]
  exact finS_eq (by simp [ty_eq_dec]) (by simp)
theorem p_moves2 : SoundP Tryz.prog gl 85 (fn2 cTy (cRp cTy) encBool fun x y => some (decide (x = y))) := by
  refine soundP_of_wk okX_nil mixed Tryz.func85 rfl rfl fun args r h G0 => ?_
  obtain ⟨x, y, e, rfl, he, rfl⟩ := fn2_inv h
  cases he
  simp [Tryz.f85, entry]
  exact finS_eq (by simp [ty_eq_dec]) (by simp)
theorem p_moves4 : SoundP Tryz.prog gl 88 (fn2 cTy (cRp cTy) encBool fun x y => some (decide (x = y))) := by
  refine soundP_of_wk okX_nil mixed Tryz.func88 rfl rfl fun args r h G0 => ?_
  obtain ⟨x, y, e, rfl, he, rfl⟩ := fn2_inv h
  cases he
  simp [Tryz.f88, entry]
  exact finS_eq (by simp [ty_eq_dec]) (by simp)
theorem p_moves3 : SoundP Tryz.prog gl 86 (fn1 cTy encBool fun x => some (decide (x.kind = 4) || decide (x.kind = 3))) := by
  refine soundP_of_wk (okX_nil.addP p_isRef) mixed Tryz.func86 rfl rfl fun args r h G0 => ?_
  obtain ⟨x, e, rfl, he, rfl⟩ := fn1_inv h
  cases he
  by_cases h4 : x.kind = 4
  · simp [Tryz.f86, entry, isRefT, h4]
    exact finS_fz (by simp)
  · simp [Tryz.f86, entry, isRefT, h4]
    exact finS_fz (by simp)

/-- a list of types that may be cloned -/
def cloneOk (xs : List AV) : Bool := match mapO decTy xs with
  | some l => decide (l.length < 1099511627776)
  | none => false
theorem cloneOk_tys (l : List ATy) : cloneOk (l.map encTy) = decide (l.length < 1099511627776) := by simp [cloneOk]
theorem cloneOk_inv {xs : List AV} (h : cloneOk xs = true) : ∃ l : List ATy, xs = l.map encTy ∧ l.length < 1099511627776 := by
  unfold cloneOk at h
  split at h
  · rename_i l hl
    exact ⟨l, mapO_inv cTy.ed _ _ hl, of_decide_eq_true h⟩
  · cases h
theorem a_Clone : SoundA Tryz.prog gl 42 (sClone 2 cloneOk) := by
  intro J
  refine clone_join (soundA_of_wk okA_nil mixed Tryz.func42 rfl rfl (fun args st r st' h J okx G0 => ?_) J) (soundA_of_wk okA_nil mixed Tryz.func42 rfl rfl (fun args st r st' h J okx G0 => ?_) J) (soundA_of_wk okA_nil mixed Tryz.func42 rfl rfl (fun args st r st' h J okx G0 => ?_) J)
  · unfold sCloneNil at h
    split at h
    · cases h
      simp [Tryz.f42, entry]
    · cases h
  · unfold sCloneE at h
    split at h
    · cases h
      simp [Tryz.f42, entry]
    · cases h
  · unfold sCloneX at h
    split at h
    · rename_i x xs
      split at h
      · rename_i hc
        obtain ⟨l, hl, hb⟩ := cloneOk_inv hc
        cases l with
        | nil => cases hl
        | cons y l =>
          simp only [List.map_cons, List.cons.injEq] at hl
          obtain ⟨rfl, rfl⟩ := hl
          cases h
          simp only [List.length_cons] at hb
          have hb : (l.length + 1) * 24 ≤ 140737488355328 := by omega
          simp [Tryz.f42, entry, hb]
      · cases h
    · cases h

theorem p_May1 : SoundP Tryz.prog gl 39 (fn3 cTy cTy (cRp (cL cClass)) encBool fun x y l => gMayT l x y) := by
  refine soundP_of_wk (okX_nil.addP p_kindMay) mixed Tryz.func39 rfl rfl fun args r h G0 => ?_
  obtain ⟨x, y, l, e, rfl, he, rfl⟩ := fn3_inv h
  simp [Tryz.f39, entry, he]
  exact finS_fz (by simp)
/-- may each stand for the other list's? -/
def mayAll (l : List AClass) : List ATy → List ATy → Bool
  | [], [] => true
  | x :: xs, y :: ys => may l x y && mayAll l xs ys
  | _, _ => false
def gMayAll (l : List AClass) (xs ys : List ATy) : Option Bool :=
  if xs.length < 1099511627776 ∧ l.length < 1099511627776 ∧ (∀ x ∈ xs, x.name.length < 1099511600000) ∧ (∀ y ∈ ys, y.name.length < 1099511600000) then some (mayAll l xs ys) else none
theorem mayAll_length {l : List AClass} : ∀ {xs ys : List ATy}, mayAll l xs ys = true → xs.length = ys.length
  | [], [], _ => rfl
  | x :: xs, y :: ys, h => by
    simp only [mayAll, Bool.and_eq_true] at h
    simp [mayAll_length h.2]
  | [], _ :: _, h => by cases h
  | _ :: _, [], h => by cases h
theorem mayAll_drop {l : List AClass} {xs ys : List ATy} {i : Nat} (h1 : i < xs.length) (h2 : i < ys.length) : mayAll l (xs.drop i) (ys.drop i) = (may l xs[i] ys[i] && mayAll l (xs.drop (i + 1)) (ys.drop (i + 1))) := by
  rw [List.drop_eq_getElem_cons h1, List.drop_eq_getElem_cons h2]
  rfl
theorem p_EqualFunc : SoundP Tryz.prog gl 41 (fn3 (cL cTy) (cL cTy) (cFn1 39 (cRp (cL cClass))) encBool fun xs ys l => gMayAll l xs ys) := by
  have okx := okX_nil.addP p_May1
  refine soundP_of_wk okx mixed Tryz.func41 rfl rfl fun args r h G0 => ?_
  obtain ⟨xs, ys, l, e, rfl, he, rfl⟩ := fn3_inv h
  simp only [gMayAll, Option.ite_none_right_eq_some, Option.some.injEq] at he
  obtain ⟨⟨h1, h2, h3, h4⟩, rfl⟩ := he
  simp [Tryz.f41, entry]
  rw [← decide_not]
  refine br_dec (fun hl => ?_) (fun hl => ?_)
  · have : mayAll l xs ys = false := by
      cases hq : mayAll l xs ys with
      | false => rfl
      | true => exact absurd (by rw [mayAll_length hq]) hl
    simp [this]
    exact finS_fz (by simp)
  · have hle : xs.length = ys.length := by have := Classical.not_not.1 hl; omega
    simp
    refine lp_of okx mixed (fun (i : Nat) => ⟨32, frL [(1, .sl (ys.map encTy)), (2, .fn (.func 39) [] [.rp (.sl (l.map encClass)) 0]), (6, .bool false), (15, .sl (xs.map encTy)), (16, .int .i64 xs.length), (17, .int .i64 i)], []⟩) (fun i => i ≤ xs.length ∧ mayAll l xs ys = mayAll l (xs.drop i) (ys.drop i)) (fun i => xs.length - i) 0 (by simp) (weak_frL rfl rfl (by simp)) ?_
    intro i ⟨hi, he⟩
    simp
    refine br_dec (fun h5 => ?_) (fun h5 => ?_)
    · have h6 : i < ys.length := by omega
      have hx : xs[i]? = some xs[i] := by simp [h5]
      have hy : ys[i]? = some ys[i] := by simp [h6]
      rw [mayAll_drop h5 h6] at he
      have hm : gMayT l xs[i] ys[i] = some (may l xs[i] ys[i]) := by
        unfold gMayT
        rw [if_pos ⟨h2, h3 _ (List.getElem_mem _), h4 _ (List.getElem_mem _)⟩]
      have hw := wrap_i64 (show (-9223372036854775808 : Int) ≤ (i : Int) + 1 by omega) (by omega)
      simp [hx, hy, hm]
      refine br_bool (fun hq => ?_) (fun hq => ?_)
      · simp at hq
        simp [hq] at he
        simp [he]
        exact finS_fz (by simp)
      · simp at hq
        simp [hq] at he
        simp [hw]
        refine nextQ_less (i + 1) ⟨h5, he⟩ (by omega) (less_take fz_gl G0.2 rfl rfl (by simp) (by simp))
    · have e1 : i = xs.length := by omega
      rw [e1, List.drop_length, hle, List.drop_length] at he
      simp [he, mayAll]
      exact finS_fz (by simp)
/-- May: 11.2 -/
def frameMay (l : List AClass) (a b : AFrame) : Bool := mayAll l a.locals b.locals && mayAll l a.stack b.stack
def gFrameMay (l : List AClass) (a b : AFrame) : Option Bool := (gMayAll l a.locals b.locals).bind fun x => (gMayAll l a.stack b.stack).map fun y => x && y
theorem p_shapeMay : SoundP Tryz.prog gl 13 (fn3 (cL cClass) cFrame cFrame encBool gFrameMay) := by
  refine soundP_of_wk (okX_nil.addP p_EqualFunc) mixed Tryz.func13 rfl rfl fun args r h G0 => ?_
  obtain ⟨l, a, b, e, rfl, he, rfl⟩ := fn3_inv h
  obtain ⟨x, hx, hxy⟩ := Option.bind_eq_some_iff.1 he
  obtain ⟨y, hy, rfl⟩ := Option.map_eq_some_iff.1 hxy
  clear hxy
  cases x with
  | true =>
    simp [Tryz.f13, entry, hx, hy]
    exact finS_fz (by simp)
  | false =>
    simp [Tryz.f13, entry, hx]
    exact finS_fz (by simp)
end Go.Proofs.YthchohjhcjkgjaaGreatDoor.Lift
namespace Go.Proofs.YthchohjhcjkgjaaGreatDoor.Lift
open Go
set_option maxRecDepth 100000

@[simp high] theorem hs_5 {p0 p1 p2 p3 p4 : ABlk} {h : AHand} {q : Sto} : (handSto p0 p1 p2 p3 p4 h q)[5]? = some (.row 2 1 0 (h.loc.map encTy)) := rfl
@[simp high] theorem hs_6 {p0 p1 p2 p3 p4 : ABlk} {h : AHand} {q : Sto} : (handSto p0 p1 p2 p3 p4 h q)[6]? = some (.row 2 h.g 0 ((h.stk ++ h.junk).map encTy)) := rfl
@[simp high] theorem hs_5' {p0 p1 p2 p3 p4 : ABlk} {h : AHand} {q : Sto} (hl : 5 < (handSto p0 p1 p2 p3 p4 h q).length) : (handSto p0 p1 p2 p3 p4 h q)[5] = .row 2 1 0 (h.loc.map encTy) := rfl
@[simp high] theorem hs_6' {p0 p1 p2 p3 p4 : ABlk} {h : AHand} {q : Sto} (hl : 6 < (handSto p0 p1 p2 p3 p4 h q).length) : (handSto p0 p1 p2 p3 p4 h q)[6] = .row 2 h.g 0 ((h.stk ++ h.junk).map encTy) := rfl
@[simp high] theorem hs_7' {p0 p1 p2 p3 p4 : ABlk} {h : AHand} {q : Sto} (hl : 7 < (handSto p0 p1 p2 p3 p4 h q).length) : (handSto p0 p1 p2 p3 p4 h q)[7] = .row 4 0 0 [.agg [.sl (h.cl.map encClass), .sr 5 1 0 h.loc.length, .sr 6 h.g 0 h.stk.length, .bool h.bad]] := rfl
@[simp high] theorem hs_takeN {p0 p1 p2 p3 p4 : ABlk} {h : AHand} {q : Sto} (n : Nat) : List.take (n + 8) (handSto p0 p1 p2 p3 p4 h q) = handSto p0 p1 p2 p3 p4 h (List.take n q) := by unfold handSto; simp
@[simp high] theorem app_take {q r : Sto} (k : Nat) : List.take (q.length + k) (q ++ r) = q ++ r.take k := by rw [List.take_append, List.take_of_length_le (by omega), Nat.add_sub_cancel_left]
mutual
theorem blw_mono {j k : Nat} (hjk : j ≤ k) : ∀ {v : AV}, blw j v = true → blw k v = true
  | .undef, h => rfl
  | .bool _, h => rfl
  | .int .., h => rfl
  | .str _, h => rfl
  | .nilp, h => rfl
  | .ptr .., h => by simp only [blw, decide_eq_true_eq] at h ⊢; omega
  | .rp x _, h => by simp only [blw] at h ⊢; exact blw_mono hjk h
  | .snil, h => rfl
  | .sle, h => rfl
  | .sl xs, h => by simp only [blw] at h ⊢; exact blwL_mono hjk h
  | .sr .., h => by simp only [blw, decide_eq_true_eq] at h ⊢; omega
  | .fn f a b, h => by simp only [blw, Bool.and_eq_true] at h ⊢; exact ⟨blwL_mono hjk h.1, blwL_mono hjk h.2⟩
  | .nilf, h => rfl
  | .nilm, h => rfl
  | .mv es, h => by simp only [blw] at h ⊢; exact blwE_mono hjk h
  | .mr _, h => by simp only [blw, decide_eq_true_eq] at h ⊢; omega
  | .agg cs, h => by simp only [blw] at h ⊢; exact blwL_mono hjk h
  | .tup vs, h => by simp only [blw] at h ⊢; exact blwL_mono hjk h
theorem blwL_mono {j k : Nat} (hjk : j ≤ k) : ∀ {l : List AV}, blwL j l = true → blwL k l = true
  | [], _ => rfl
  | x :: r, h => by simp only [blwL, Bool.and_eq_true] at h ⊢; exact ⟨blw_mono hjk h.1, blwL_mono hjk h.2⟩
theorem blwE_mono {j k : Nat} (hjk : j ≤ k) : ∀ {l : List (AV × AV)}, blwE j l = true → blwE k l = true
  | [], _ => rfl
  | (a, b) :: r, h => by simp only [blwE, Bool.and_eq_true] at h ⊢; exact ⟨⟨blw_mono hjk h.1.1, blw_mono hjk h.1.2⟩, blwE_mono hjk h.2⟩
end
theorem blwB_mono {j k : Nat} (hjk : j ≤ k) {b : ABlk} (h : blwB j b = true) : blwB k b = true := by
  cases b with
  | row sz g lo xs => exact blwL_mono hjk h
  | map es => exact blwE_mono hjk h
  | tick n => rfl
  | dead sz g => rfl
  | iter s i => rfl
/-- a shut store stays shut, ahead of more blocks -/
theorem shut_app {σ τ : Sto} (h : σ.all (blwB σ.length) = true) (h2 : τ.all (blwB (σ ++ τ).length) = true) : (σ ++ τ).all (blwB (σ ++ τ).length) = true := by
  rw [List.all_append, Bool.and_eq_true]
  exact ⟨List.all_eq_true.2 fun b hb => blwB_mono (by simp) (List.all_eq_true.1 h b hb), h2⟩
theorem hand_shut_app {p0 p1 p2 p3 p4 : ABlk} {h h' : AHand} {q τ : Sto} (hc : (handSto p0 p1 p2 p3 p4 h q).all (blwB (handSto p0 p1 p2 p3 p4 h q).length) = true) (h2 : τ.all (blwB (q.length + τ.length + 8)) = true) :
    (handSto p0 p1 p2 p3 p4 h' (q ++ τ)).all (blwB (handSto p0 p1 p2 p3 p4 h' (q ++ τ)).length) = true := by
  have e : handSto p0 p1 p2 p3 p4 h' (q ++ τ) = handSto p0 p1 p2 p3 p4 h' q ++ τ := rfl
  rw [e]
  refine shut_app (hand_shut hc) ?_
  rw [← e]
  simpa using h2

/-- a method's contract, from its walk; the store is shut -/
theorem hand_of_wk' {E : Env} {B : List Nat} (ok : OkX Tryz.prog (XB E B)) {f : Nat} {fn : Func} (hf : Tryz.prog.funcs[f]? = some fn) (hb : fn.body.isSome = true) (hn : (fn.name == "runtime.NumGoroutine") = false) {m : List AV → Sto → AHand → Option (AV × AHand)}
    (h : ∀ av q hh r h', m av q hh = some (r, h') → fz r = true ∧ ∀ (p0 p1 p2 p3 p4 : ABlk), (handSto p0 p1 p2 p3 p4 hh q).all (blwB (handSto p0 p1 p2 p3 p4 hh q).length) = true →
      ∀ G0 : { G : Gh // G.σ = handSto p0 p1 p2 p3 p4 hh q }, wk Tryz.prog (XB E B) G0.1 (fun e s => (e = .normal ∨ e = .ret) ∧ resAs (XB E B) s fn.results.toList = some r ∧ s.st.take (q.length + 8) = handSto p0 p1 p2 p3 p4 h' q) (fn.body.get hb) [] (entry fn (.ptr 7 0 0 0 :: av) (handSto p0 p1 p2 p3 p4 hh q))) : SoundF Tryz.prog gl f (handS m) :=
  soundD_of_wk ok mixed hf hb hn fun args st r st' hs hc => by
    obtain ⟨av, p0, p1, p2, p3, p4, hh, q, h', rfl, rfl, hm, rfl⟩ := handS_inv hs
    obtain ⟨h1, h2⟩ := h av q hh r h' hm
    exact ⟨Nat.le_refl _, hand_shut hc, fz_blw h1, fun G0 => h2 p0 p1 p2 p3 p4 hc G0⟩

theorem popR_append : ∀ (l m : List ATy) (h : AHand), popR (l ++ m) h = (popR l h).bind (popR m)
  | [], m, h => rfl
  | x :: l, m, h => by
    simp only [List.cons_append, popR]
    cases pop1 x h with
    | none => rfl
    | some h1 => exact popR_append l m h1
/-- the hand behind some pops -/
def popAt (l : List ATy) (h : AHand) (t : Nat) : AHand := (popR (l.reverse.take t) h).getD h
theorem popAt_zero (l : List ATy) (h : AHand) : popAt l h 0 = h := rfl
theorem popAt_end {l : List ATy} {h h' : AHand} (e : popO l h = some h') : popAt l h l.length = h' := by
  unfold popAt
  rw [show l.length = l.reverse.length by simp, List.take_length]
  unfold popO at e
  rw [e]
  rfl
theorem popAt_succ {l : List ATy} {h h' : AHand} (e : popO l h = some h') {t : Nat} (ht : t < l.length) : pop1 (l[l.length - 1 - t]'(by omega)) (popAt l h t) = some (popAt l h (t + 1)) := by
  have hr : t < l.reverse.length := by simpa using ht
  have e1 : l.reverse = l.reverse.take t ++ l.reverse[t] :: l.reverse.drop (t + 1) := by
    rw [← List.drop_eq_getElem_cons hr, List.take_append_drop]
  unfold popO at e
  rw [e1, popR_append] at e
  obtain ⟨h1, q1, q2⟩ := Option.bind_eq_some_iff.1 e
  simp only [popR] at q2
  obtain ⟨h2, q3, q4⟩ := Option.bind_eq_some_iff.1 q2
  have e2 : popAt l h t = h1 := by unfold popAt; rw [q1]; rfl
  have e3 : popAt l h (t + 1) = h2 := by
    unfold popAt
    rw [List.take_succ_eq_append_getElem hr, popR_append, q1, Option.bind_some]
    simp only [popR]
    rw [q3]
    rfl
  rw [e2, e3, ← q3]
  congr 1
  rw [List.getElem_reverse]
theorem popR_len : ∀ {l : List ATy} {h h' : AHand}, popR l h = some h' → h'.cl = h.cl ∧ h'.loc = h.loc
  | [], h, h', e => by cases e; exact ⟨rfl, rfl⟩
  | x :: r, h, h', e => by
    obtain ⟨h1, he1, he2⟩ := Option.bind_eq_some_iff.1 e
    obtain ⟨⟨t, h2⟩, q1, q2⟩ := Option.bind_eq_some_iff.1 he1
    obtain ⟨b, _, rfl⟩ := Option.map_eq_some_iff.1 q2
    have q3 : h2.cl = h.cl ∧ h2.loc = h.loc := by
      unfold topO at q1
      split at q1
      · split at q1 <;> cases q1 <;> exact ⟨rfl, rfl⟩
      · cases q1
    have := popR_len he2
    exact ⟨this.1.trans q3.1, this.2.trans q3.2⟩
theorem topO_cl {h h' : AHand} {t : ATy} (e : topO h = some (t, h')) : h'.cl = h.cl ∧ h'.loc = h.loc := by
  unfold topO at e
  split at e
  · split at e <;> cases e <;> exact ⟨rfl, rfl⟩
  · cases e

theorem kill_one {b : Nat} {st : Sto} {k : ABlk} (h : st[b]? = some k) : kill [b] st = st.set b (deadOf k) := by
  refine List.ext_getElem? fun i => ?_
  unfold kill
  rw [List.getElem?_mapIdx, List.getElem?_set]
  by_cases hi : b = i
  · subst hi
    obtain ⟨h1, rfl⟩ := List.getElem?_eq_some_iff.1 h
    simp [h1]
  · rw [if_neg hi]
    have : ¬ i ∈ [b] := by simp; omega
    simp only [this, if_false]
    cases st[i]? <;> rfl
theorem backRow_flat (l : List ATy) : ∀ x ∈ backRow l, flatL x = true := fun x hx => by
  obtain ⟨p, _, rfl⟩ := List.mem_map.1 hx
  simp
theorem backRow_two (l : List ATy) : ∀ x ∈ backRow l, x.length = 2 := fun x hx => by
  obtain ⟨p, _, rfl⟩ := List.mem_map.1 hx
  rfl
def hPop (av : List AV) (_ : Sto) (h : AHand) : Option (AV × AHand) := match av with
  | [x] => (decTys x).bind fun l => if l.length < 1099511627776 then (popO l h).map fun h' => (.tup [], h') else none
  | _ => none
theorem ok_pop : OkX Tryz.prog (XE [(150, sBack), (94, handS hMust), (91, handS hTop), (40, liftS 9 (fn3 (cL cClass) cTy cTy encBool gMayT))]) :=
  (((okX_nil.addP p_kindMay).add f_top).add f_must).add (a_Backward _)
set_option maxHeartbeats 1000000 in
theorem f_pop : SoundF Tryz.prog gl 81 (handS hPop) := by
  refine hand_of_wk' ok_pop Tryz.func81 rfl rfl fun av q hh r h' hm => ?_
  unfold hPop at hm
  split at hm
  · rename_i x
    obtain ⟨l, hl, hm2⟩ := Option.bind_eq_some_iff.1 hm
    have hx := decTys_inv hl
    subst hx
    split at hm2
    · rename_i hll
      obtain ⟨h2, hm3, he⟩ := Option.map_eq_some_iff.1 hm2
      cases he
      clear hm hm2 hl
      refine ⟨rfl, fun p0 p1 p2 p3 p4 hc G0 => ?_⟩
      have hxs : gBack [.ptr 1 0 0 0] [.row 1 0 0 [.sl (l.map encTy)]] = some (backRow l) := by
        simp [gBack, hll]
      simp [Tryz.f81, entry, sBack]
      refine rf_of ok_pop mixed [q.length + 9] i_Backward [(0, .ptr 7 0 0 0), (2, .ptr (q.length + 8) 0 0 0)] (backRow l) l.length .ret
        (fun t => handSto p0 p1 p2 p3 p4 (popAt l hh t) (q ++ [.row 1 0 0 [.ptr 7 0 0 0], .dead 1 0]))
        rfl (by simp) (by simp) (by simp [fzB, fzL_map]) (by simp [reb, posOf]) hxs (by simp) (.inl rfl) ?_ (by simp) (backRow_flat l) (backRow_two l) (fun t z hz ht G1 => ?_) (fun hle => ?_) (fun hlt => ?_)
      · rw [kill_one (k := .row 1 0 0 [.sl (l.map encTy)]) (by simp)]
        simp [popAt_zero, deadOf]
      · have htl : t < l.length := by have := (List.getElem?_eq_some_iff.1 hz).1; rwa [backRow_length] at this
        rw [backRow_get l t htl] at hz
        cases hz
        have hp := popAt_succ hm3 htl
        obtain ⟨⟨ty, h1⟩, ht1, hp2⟩ := Option.bind_eq_some_iff.1 hp
        obtain ⟨b, hb, hp3⟩ := Option.map_eq_some_iff.1 hp2
        simp only at hb hp3
        have hcl := (topO_cl ht1).1
        generalize l[l.length - 1 - t]'(by omega) = x at *
        simp [setPs]
        intro G2 hG2
        refine dk_ofL [(0, .ptr (q.length + 8) 0 0 0), (1, .ptr (q.length + 8) 0 0 0), (4, .ptr 7 0 0 0), (7, .ptr (q.length + 2 + 8) 0 0 0)] (by decide) ?_
        simp [handS_eq, hTop, ht1, List.lookup]
        refine sd_ofL rfl ?_ ?_
        · simp [steadyL, ldEq, hcl]

        have hb' : gMayT (popAt l hh t).cl { kind := ty.kind, name := ty.name } { kind := x.kind, name := x.name } = some b := by rw [← hcl]; exact hb
        simp [handS_eq, hMust, hb', List.lookup]
        refine sd_of (by decide) ?_
        simp
        have hmst : mustT b h1 = popAt l hh (t + 1) := hp3
        exact roundEnd_on htl _ rfl (by simp) (by rw [← hmst]; simp) (hand_shut_app hc (by simp))
      · simp [backRow_length] at hle ⊢
        rw [popAt_end hm3]
      · simp [backRow_length] at hlt
    · cases hm2
  · cases hm

/-- what a function value says of a type (q: the blocks behind the hand) -/
def willOf (fn : AV) (q : Sto) : Option (ATy → Bool) := match fn with
  | .fn (.func f) [] [] => if f = 86 then some (fun x => decide (x.kind = 4) || decide (x.kind = 3)) else if f = 87 then some isRefT else if f = 93 then some (fun _ => true) else none
  | .fn (.func f) [] [.ptr b 0 0 0] => if (f = 84 ∨ f = 85 ∨ f = 88) ∧ 8 ≤ b then (match q[b - 8]? with
      | some (.row 2 0 0 [x]) => (decTy x).map fun t => fun y => decide (y = t)
      | _ => none) else none
  | _ => none
noncomputable abbrev Ewill : Env := [(84, liftS 9 (fn2 cTy (cRp cTy) encBool fun x y => some (decide (x = y)))), (85, liftS 9 (fn2 cTy (cRp cTy) encBool fun x y => some (decide (x = y)))), (88, liftS 9 (fn2 cTy (cRp cTy) encBool fun x y => some (decide (x = y)))),
  (86, liftS 9 (fn1 cTy encBool fun x => some (decide (x.kind = 4) || decide (x.kind = 3)))), (87, liftS 9 (fn1 cTy encBool fun x => some (isRefT x))), (93, liftS 9 (fn1 cTy encBool fun _ => some true))]
theorem ok_will : OkX Tryz.prog (XE Ewill) := (((((okX_nil.addP p_anything).addP p_isRef).addP p_moves3).addP p_moves4).addP p_moves2).addP p_moves1
/-- a function value's contract -/
theorem willOf_inv {fn : AV} {q : Sto} {will : ATy → Bool} (h : willOf fn q = some will) : ∃ f cap, fn = .fn (.func f) [] cap ∧ ∃ S, Env.look Ewill f = some S ∧ ∀ (p0 p1 p2 p3 p4 : ABlk) (hh : AHand) (τ : Sto) (x : ATy), S (encTy x :: cap) (handSto p0 p1 p2 p3 p4 hh (q ++ τ)) = some (.bool (will x), handSto p0 p1 p2 p3 p4 hh (q ++ τ)) := by
  unfold willOf at h
  split at h
  · rename_i f
    refine ⟨f, [], rfl, ?_⟩
    split at h
    · rename_i e; subst e; cases h
      exact ⟨_, rfl, fun p0 p1 p2 p3 p4 hh τ x => by simp⟩
    split at h
    · rename_i e; subst e; cases h
      exact ⟨_, rfl, fun p0 p1 p2 p3 p4 hh τ x => by simp⟩
    split at h
    · rename_i e; subst e; cases h
      exact ⟨_, rfl, fun p0 p1 p2 p3 p4 hh τ x => by simp⟩
    · cases h
  · rename_i f b
    refine ⟨f, [.ptr b 0 0 0], rfl, ?_⟩
    split at h
    · rename_i e
      obtain ⟨e, hb⟩ := e
      split at h
      · rename_i y hq
        obtain ⟨t, ht, rfl⟩ := Option.map_eq_some_iff.1 h
        have hy : y = encTy t := cTy.ed _ _ ht
        subst hy
        obtain ⟨k, rfl⟩ : ∃ k, b = k + 8 := ⟨b - 8, by omega⟩
        simp only [Nat.add_sub_cancel] at hq
        have hk : k < q.length := (List.getElem?_eq_some_iff.1 hq).1
        have hq2 : ∀ τ : Sto, (q ++ τ)[k]? = some (.row 2 0 0 [encTy t]) := fun τ => by rw [List.getElem?_append_left hk]; exact hq
        rcases e with e | e | e <;> subst e
        · exact ⟨_, rfl, fun p0 p1 p2 p3 p4 hh τ x => by have := hq2 τ; simp at this; simp [this, ty_eq_dec]⟩
        · exact ⟨_, rfl, fun p0 p1 p2 p3 p4 hh τ x => by have := hq2 τ; simp at this; simp [this, ty_eq_dec]⟩
        · exact ⟨_, rfl, fun p0 p1 p2 p3 p4 hh τ x => by have := hq2 τ; simp at this; simp [this, ty_eq_dec]⟩
      · cases h
    · cases h
  · cases h

def hLocal (av : List AV) (q : Sto) (h : AHand) : Option (AV × AHand) := match av with
  | [.int .i64 k, fn] => (willOf fn q).map fun will => (encTy (localT will k h).1, (localT will k h).2)
  | _ => none
theorem f_local : SoundF Tryz.prog gl 83 (handS hLocal) := by
  have ok := ok_will
  generalize hE : Ewill = E0 at ok
  refine hand_of_wk' ok Tryz.func83 rfl rfl fun av q hh r h' hm => ?_
  unfold hLocal at hm
  split at hm
  · rename_i k fn
    obtain ⟨will, hw, he⟩ := Option.map_eq_some_iff.1 hm
    cases he
    refine ⟨cTy.fz _, fun p0 p1 p2 p3 p4 hc G0 => ?_⟩
    obtain ⟨f, cap, rfl, S, hS, hcall⟩ := willOf_inv hw
    rw [hE] at hS
    by_cases h0 : k < 0
    · simp [Tryz.f83, entry, h0]
      simp [localT, show ¬ 0 ≤ k by omega]
      simp [handSto]
    · by_cases h1 : k < hh.loc.length
      · have h2 : ¬ (hh.loc.length : Int) ≤ k := by omega
        have h3 : 0 ≤ k := by omega
        have hlt : k.toNat < hh.loc.length := by omega
        have hx : hh.loc[k.toNat]? = some hh.loc[k.toNat] := List.getElem?_eq_getElem hlt
        have hl : localT will k hh = if will hh.loc[k.toNat] = true then (hh.loc[k.toNat], hh) else (⟨0, []⟩, { hh with bad := true }) := by
          unfold localT
          rw [List.getD_eq_getElem?_getD, hx]
          simp only [h3, h1, true_and, Option.getD_some]
        rw [hl]
        have hq := fun τ => hcall p0 p1 p2 p3 p4 hh τ hh.loc[k.toNat]
        simp only [encTy] at hq
        cases hb : will hh.loc[k.toNat] with
        | true =>
          simp [Tryz.f83, entry, h0, h1, h2, h3, hS, hq, hb]
        | false =>
          simp [Tryz.f83, entry, h0, h1, h2, h3, hS, hq, hb]
          simp [handSto]
      · have h2 : (hh.loc.length : Int) ≤ k := by omega
        simp [Tryz.f83, entry, h0, h2]
        simp [localT, h1]
        simp [handSto]
  · cases hm
end Go.Proofs.YthchohjhcjkgjaaGreatDoor.Lift
