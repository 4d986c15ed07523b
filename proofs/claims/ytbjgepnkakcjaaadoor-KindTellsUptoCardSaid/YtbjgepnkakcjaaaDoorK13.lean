/-
  K13: contracts of the reference's Wide, array, Method, Print, Elem: they are wide, print, method, elem.
-/
import Derived.Test.YtbjgepnkakcjaaaDoorK11
namespace Go.Proofs.YtbjgepnkakcjaaaDoor.Lift
open Go
set_option maxRecDepth 100000

theorem p_refWide : SoundP Tryd.prog gl 22 (fn1 (cL cTy) encInt fun l => if l.length < 1099511627776 then some (wide l) else none) := by
  refine soundP_of_wk okX_nil mixed Tryd.func22 rfl rfl fun args r h G0 => ?_
  obtain ⟨l, e, rfl, he, rfl⟩ := fn1_inv h
  simp only [Option.ite_none_right_eq_some, Option.some.injEq] at he
  obtain ⟨hs, rfl⟩ := he
  simp [Tryd.f22, entry]
  refine lp_of okX_nil mixed (fun (i : Nat) => ⟨22, frL [(0, .sl (l.map encTy)), (3, .int .i64 ((i + longs (l.take i) : Nat) : Int)), (4, .int .i64 i)], []⟩) (fun i => i ≤ l.length) (fun i => l.length - i) 0 (by simp) (weak_frL rfl rfl (by simp [longs])) ?_
  intro i hi
  simp
  refine br_dec (fun h3 => ?_) (fun h3 => ?_)
  · have hx : l[i]? = some l[i] := by simp [h3]
    have hle := longs_le (l.take i)
    have hl := List.length_take_le i l
    have hw := wrap_i64 (show (-9223372036854775808 : Int) ≤ (i : Int) + 1 by omega) (by omega)
    have hw2 := wrap_i64 (show (-9223372036854775808 : Int) ≤ (i : Int) + (longs (l.take i) : Int) + 1 by omega) (by omega)
    have hw3 := wrap_i64 (show (-9223372036854775808 : Int) ≤ (i : Int) + (longs (l.take i) : Int) + 1 + 1 by omega) (by omega)
    have hsucc := longs_succ l i h3
    by_cases h2 : l[i].kind = 2
    · simp [hx, h2, hw, hw2, hw3]
      refine nextQ_of (i + 1) h3 (by omega) (weak_frL rfl rfl ?_)
      simp [hsucc, h2]
      omega
    · simp [hx, h2, hw, hw2]
      refine nextQ_of (i + 1) h3 (by omega) (weak_frL rfl rfl ?_)
      simp [hsucc, h2]
      omega
  · have : i = l.length := by omega
    subst this
    simp [wide]
    exact finS_fz (by simp)

theorem p_refArray : SoundP Tryd.prog gl 39 (fn1 cStr encBool fun s => some (decide (s.head? = some 91))) := by
  refine soundP_of_wk okX_nil mixed Tryd.func39 rfl rfl fun args r h G0 => ?_
  obtain ⟨s, e, rfl, he, rfl⟩ := fn1_inv h
  cases he
  cases s with
  | nil =>
    simp [Tryd.f39, entry]
    exact finS_fz (by simp)
  | cons c s =>
    by_cases hc : c = 91
    · subst hc
      simp [Tryd.f39, entry]
      exact finS_fz (by simp)
    · have n91 : ((c.toNat : Int) = 91) = False := by simp; intro h; exact hc (UInt8.toNat_inj.1 (by simp; omega))
      simp [Tryd.f39, entry, hc, n91]
      exact finS_fz (by simp)

theorem p_refPrint : SoundP Tryd.prog gl 18 (fn1 cTy encSErr fun x => if x.name.length < 1099511600000 then some (print x) else none) := by
  refine soundP_of_wk ((okX_nil.addP p_refArray).addP p_refParse) mixed Tryd.func18 rfl rfl fun args r h G0 => ?_
  obtain ⟨x, e, rfl, he, rfl⟩ := fn1_inv h
  simp only [Option.ite_none_right_eq_some, Option.some.injEq] at he
  obtain ⟨hs, rfl⟩ := he
  obtain ⟨k, nm⟩ := x
  simp at hs
  have hp0 : parse [] = (⟨0, []⟩, 100) := rfl
  by_cases h1 : k = 1
  · subst h1
    have hp : parse [73] = (⟨1, []⟩, 0) := by decide
    by_cases hn : nm = []
    · subst hn
      have hpr : print ⟨1, []⟩ = ([73], 0) := by decide
      simp [Tryd.f18, entry, hp, hpr]
      exact finS_fz (by simp)
    · have hn' : ¬ [] = nm := fun e => hn e.symm
      have hpr : print ⟨1, nm⟩ = ([], 100) := by simp [print, texty, hp, hn']
      simp [Tryd.f18, entry, hn, hp0, hpr]
      exact finS_fz (by simp)
  · by_cases h2 : k = 2
    · subst h2
      have hp : parse [74] = (⟨2, []⟩, 0) := by decide
      by_cases hn : nm = []
      · subst hn
        have hpr : print ⟨2, []⟩ = ([74], 0) := by decide
        simp [Tryd.f18, entry, hp, hpr]
        exact finS_fz (by simp)
      · have hn' : ¬ [] = nm := fun e => hn e.symm
        have hpr : print ⟨2, nm⟩ = ([], 100) := by simp [print, texty, hp, hn']
        simp [Tryd.f18, entry, hn, hp0, hpr]
        exact finS_fz (by simp)
    · by_cases h4 : k = 4
      · subst h4
        by_cases ha : nm.head? = some 91
        · have hs2 : nm.length < 1099511627776 := by omega
          cases hp : parse nm with
          | mk ty er =>
            obtain ⟨tk, tn⟩ := ty
            by_cases he : er = 0
            · subst he
              by_cases hk : tk = 4
              · by_cases hn : tn = nm
                · have hpr : print ⟨4, nm⟩ = (nm, 0) := by simp [print, texty, hp, hk, hn, ha, hs2]
                  subst hn
                  simp [Tryd.f18, entry, ha, hs2, hp, hk, hpr]
                  exact finS_fz (by simp)
                · have hpr : print ⟨4, nm⟩ = ([], 100) := by simp [print, texty, hp, hn, ha, hs2]
                  simp [Tryd.f18, entry, ha, hs2, hp, hk, hn, hpr]
                  exact finS_fz (by simp)
              · have hpr : print ⟨4, nm⟩ = ([], 100) := by simp [print, texty, hp, hk, ha, hs2]
                simp [Tryd.f18, entry, ha, hs2, hp, hk, hpr]
                exact finS_fz (by simp)
            · have hpr : print ⟨4, nm⟩ = ([], 100) := by simp [print, texty, hp, he, ha, hs2]
              simp [Tryd.f18, entry, ha, hs2, hp, he, hpr]
              exact finS_fz (by simp)
        · have hs2 : nm.length + 1 + 1 < 1099511627776 := by omega
          have hs3 : 1 + nm.length ≤ 4611686018427387904 := by omega
          have hs4 : nm.length + 1 + 1 ≤ 4611686018427387904 := by omega
          cases hp : parse (76 :: (nm ++ [59])) with
          | mk ty er =>
            obtain ⟨tk, tn⟩ := ty
            by_cases he : er = 0
            · subst he
              by_cases hk : tk = 4
              · by_cases hn : tn = nm
                · have hpr : print ⟨4, nm⟩ = ((76 :: (nm ++ [59])), 0) := by simp [print, texty, hp, hk, hn, ha, hs2, hs3, hs4]
                  subst hn
                  simp [Tryd.f18, entry, ha, hs2, hs3, hs4, hp, hk, hpr]
                  exact finS_fz (by simp)
                · have hpr : print ⟨4, nm⟩ = ([], 100) := by simp [print, texty, hp, hn, ha, hs2, hs3, hs4]
                  simp [Tryd.f18, entry, ha, hs2, hs3, hs4, hp, hk, hn, hpr]
                  exact finS_fz (by simp)
              · have hpr : print ⟨4, nm⟩ = ([], 100) := by simp [print, texty, hp, hk, ha, hs2, hs3, hs4]
                simp [Tryd.f18, entry, ha, hs2, hs3, hs4, hp, hk, hpr]
                exact finS_fz (by simp)
            · have hpr : print ⟨4, nm⟩ = ([], 100) := by simp [print, texty, hp, he, ha, hs2, hs3, hs4]
              simp [Tryd.f18, entry, ha, hs2, hs3, hs4, hp, he, hpr]
              exact finS_fz (by simp)
      · have hpr : print ⟨k, nm⟩ = ([], 100) := by simp [print, texty, h1, h2, h4, parse, descLen]
        simp [Tryd.f18, entry, h1, h2, h4, hp0, hpr]
        exact finS_fz (by simp)

theorem print_fst {x : ATy} {t : Str} {er : Int} (h : print x = (t, er)) : (er = 0 ∧ t = texty x) ∨ (er = 100 ∧ t = []) := by
  unfold print at h
  split at h <;> cases h
  · exact .inl ⟨rfl, rfl⟩
  · exact .inr ⟨rfl, rfl⟩

/-- a name of kind 4 that is an array's is its own text -/
theorem elem_not {k : Int} {nm : Str} (h : (print ⟨k, nm⟩).2 ≠ 0 ∨ k ≠ 4 ∨ nm.head? ≠ some 91) : elem ⟨k, nm⟩ = (⟨0, []⟩, 100) := by
  unfold elem
  rw [if_neg]
  rintro ⟨h1, h2⟩
  have := print_array (x := ⟨k, nm⟩) (t := (print ⟨k, nm⟩).1) (by rw [← h1]) h2
  simp only [ATy.mk.injEq] at this
  obtain ⟨h3, h4⟩ := this
  rcases h with h | h | h
  · exact h h1
  · exact h h3
  · exact h (by rw [h4]; exact h2)

/-- the elements of an array, by the reference's road: they are read anew -/
theorem parse_tail {nm : Str} (h : parse nm = (⟨4, nm⟩, 0)) (h1 : nm.head? = some 91) (h2 : nm ≠ [91, 66]) : parse (nm.drop 1) = (tyOf (nm.drop 1), 0) := by
  cases nm with
  | nil => simp at h1
  | cons c r =>
    simp at h1
    subst h1
    simp only [List.drop_succ_cons, List.drop_zero]
    unfold parse at h
    split at h
    · simp at h
    · rename_i hc
      have h0 : descLen (91 :: r) 0 ≠ 0 := fun h => hc (.inl h)
      have hl : descLen (91 :: r) 0 = (91 :: r).length := Classical.byContradiction fun h => hc (.inr h)
      obtain ⟨m, e1, e2⟩ := split91 r
      have d0 := descLen_split (m + 1) (r.dropWhile (· == 91)) 0 e2
      have d1 := descLen_split m (r.dropWhile (· == 91)) 0 e2
      rw [List.replicate_succ, List.cons_append, ← e1] at d0
      rw [← e1] at d1
      generalize hrest : r.dropWhile (· == 91) = rest at *
      have hlr : r.length = m + rest.length := by
        conv => lhs; rw [e1]
        simp
      have hpos : (decide (0 < m + 1)) = true := by simp
      rw [hpos] at d0
      rw [d0] at h0 hl
      by_cases h8 : 8 < m + 1 + 0
      · rw [if_pos h8] at h0; exact absurd rfl h0
      · rw [if_neg h8] at h0 hl
        by_cases hz : size1 rest true = 0
        · rw [if_pos hz] at h0; exact absurd rfl h0
        · rw [if_neg hz] at hl
          simp only [List.length_cons] at hl
          have hq : size1 rest (decide (0 < m)) = size1 rest true := by
            cases m with
            | succ m => simp
            | zero =>
              cases rest with
              | nil => rfl
              | cons c q =>
                by_cases h66 : c = 66
                · subst h66
                  have : r = [66] := by
                    rw [e1]
                    have hsz : size1 (66 :: q) true = 1 := by simp [size1]
                    have : q = [] := List.eq_nil_of_length_eq_zero (by rw [hsz] at hl; simp at hlr; omega)
                    simp [this]
                  exact absurd (by rw [this]) h2
                · simp [size1, h66]
          rw [hq, if_neg (by omega), if_neg hz] at d1
          unfold parse
          rw [if_neg]
          rw [d1]
          omega

theorem p_refElem : SoundP Tryd.prog gl 20 (fn1 cTy encTyErr fun x => if x.name.length < 1099511600000 then some (elem x) else none) := by
  refine soundP_of_wk (((okX_nil.addP p_refArray).addP p_refParse).addP p_refPrint) mixed Tryd.func20 rfl rfl fun args r h G0 => ?_
  obtain ⟨x, e, rfl, he, rfl⟩ := fn1_inv h
  simp only [Option.ite_none_right_eq_some, Option.some.injEq] at he
  obtain ⟨hs, rfl⟩ := he
  obtain ⟨k, nm⟩ := x
  simp at hs
  cases hp : print ⟨k, nm⟩ with
  | mk t er =>
    by_cases h0 : er = 0
    · subst h0
      by_cases h4 : k = 4
      · subst h4
        by_cases ha : nm.head? = some 91
        · have ht : t = nm := by
            rcases print_fst hp with ⟨_, h⟩ | ⟨h, _⟩
            · rw [h]; simp [texty, ha]
            · simp at h
          subst ht
          by_cases hB : t = [91, 66]
          · subst hB
            have hel : elem ⟨4, [91, 66]⟩ = (⟨1, []⟩, 0) := by simp [elem, hp]
            simp [Tryd.f20, entry, hp, hel]
            exact finS_fz (by simp)
          · have hel : elem ⟨4, t⟩ = (tyOf (t.drop 1), 0) := by simp only [elem, hp]; simp [ha, hB]
            have hpt := parse_tail (print_ok hp) ha hB
            have hlen : (t.drop 1).length < 1099511627776 := by simp; omega
            have h1len : 1 ≤ t.length := by
              cases t with
              | nil => simp at ha
              | cons c r => simp
            generalize hq : t.drop 1 = q at *
            simp [Tryd.f20, entry, hs, hp, hel, ha, hB, hpt, hlen, h1len, hq]
            exact finS_fz (by simp)
        · have hel := elem_not (k := 4) (nm := nm) (.inr (.inr ha))
          simp [Tryd.f20, entry, hs, hp, hel, ha]
          exact finS_fz (by simp)
      · have hel := elem_not (k := k) (nm := nm) (.inr (.inl h4))
        simp [Tryd.f20, entry, hs, hp, hel, h4]
        exact finS_fz (by simp)
    · have hel := elem_not (k := k) (nm := nm) (.inl (by rw [hp]; exact h0))
      simp [Tryd.f20, entry, hs, hp, hel, h0]
      exact finS_fz (by simp)

theorem p_refMethod : SoundP Tryd.prog gl 12 (fn1 cStr encMethodR fun s => if s.length < 1099511627776 then some (method s) else none) := by
  have okx := ((okX_nil.addP p_refWide).addP p_refParse).addP p_One
  refine soundP_of_wk okx mixed Tryd.func12 rfl rfl fun args r h G0 => ?_
  obtain ⟨s, e, rfl, he, rfl⟩ := fn1_inv h
  simp only [Option.ite_none_right_eq_some, Option.some.injEq] at he
  obtain ⟨hs, rfl⟩ := he
  cases s with
  | nil =>
    have hm : method [] = ([], ⟨0, []⟩, 100) := by simp [method]
    simp [Tryd.f12, entry, hm]
    exact finS_of 9 (by simp)
  | cons c0 r0 =>
    by_cases h40 : c0 = 40
    · subst h40
      simp at hs
      simp [Tryd.f12, entry]
      refine lp_of okx mixed (fun (x : Nat × List ATy) => ⟨78, frL [(0, .str (40 :: r0)), (3, .ptr 0 0 0 0), (5, .sr 1 x.2.length 0 x.2.length), (6, .int .i64 ((x.1 : Int) + 1))], [.row 2 0 0 [encTy ⟨0, []⟩], .row 2 x.2.length 0 (x.2.map encTy)]⟩)
        (fun x => x.1 ≤ r0.length ∧ x.2.length ≤ x.1 ∧ typesOf r0 = (x.2 ++ (typesOf (r0.drop x.1)).1, (typesOf (r0.drop x.1)).2)) (fun x => r0.length - x.1) (0, []) ⟨by simp, by simp, by simp⟩ (weak_frL rfl rfl (by simp)) ?_
      rintro ⟨i, l⟩ ⟨hi, hli, hty⟩
      simp only at hi hli hty ⊢
      have w1 := wrap_i64 (show (-9223372036854775808 : Int) ≤ (i : Int) + 1 + 1 by omega) (by omega)
      have f1 : ((i : Int) + 1).toNat = i + 1 := by omega
      have f2 : (0 ≤ (i : Int) + 1) = True := by simp; omega
      have f3 : ((i : Int) + 1 < (r0.length : Int) + 1) = (i < r0.length) := by simp
      have hll : l.length < 1099511627776 := by omega
      by_cases hlt : i < r0.length
      · have hx : r0[i]? = some r0[i] := by simp [hlt]
        have f4 : ((i : Int) + 1 = (r0.length : Int) + 1) = False := by simp; omega
        by_cases h41 : r0[i] = 41
        · -- the end of the arguments
          have q41 : ((r0[i].toNat : Int) = 41) = True := by rw [h41]; simp
          have ht0 : descLen (r0.drop i) 0 = 0 := by
            rw [List.drop_eq_getElem_cons hlt, h41]
            simp [descLen]
          have hth : (r0.drop i).head? = some 41 := by rw [List.drop_eq_getElem_cons hlt, h41]; rfl
          have htd : (r0.drop i).drop 1 = r0.drop (i + 1) := by rw [List.drop_drop]
          rw [typesOf_none ht0, List.append_nil] at hty
          have hm : method (40 :: r0) = if r0.drop (i + 1) = [86] then (if 32 < wide l then ([], ⟨0, []⟩, 3) else (l, ⟨0, []⟩, 0))
              else if (parse (r0.drop (i + 1))).2 ≠ 0 then ([], ⟨0, []⟩, (parse (r0.drop (i + 1))).2)
              else if 32 < wide l then ([], ⟨0, []⟩, 3) else (l, (parse (r0.drop (i + 1))).1, 0) := by
            simp only [method, List.head?_cons, if_true, List.drop_succ_cons, List.drop_zero, hty, hth, htd]
          have hdl : (r0.drop (i + 1)).length < 1099511627776 := by simp; omega
          have f5 : ((i : Int) + 1 + 1).toNat = i + 1 + 1 := by omega
          have f6 : (0 ≤ (i : Int) + 1 + 1) = True := by simp; omega
          have f7 : i + 1 ≤ r0.length := by omega
          have hw0 : ¬ 32 < wide [] := by simp [wide, longs]
          generalize hq : r0.drop (i + 1) = back at *
          by_cases h86 : back = [86]
          · subst h86
            by_cases hw : 32 < wide l
            · simp [f3, hlt, f1, f2, q41, f4, hq, w1, f5, f6, f7, hll, hm, hw]
              exact finS_of 9 (by simp)
            · simp [f3, hlt, f1, f2, q41, f4, hq, w1, f5, f6, f7, hll, hm, hw]
              refine dk_of (by decide) ?_
              simp
              exact finS_of 9 (by simp)
          · cases hp : parse back with
            | mk ty er =>
              rw [hp] at hm
              obtain ⟨tk, tn⟩ := ty
              by_cases he : er = 0
              · subst he
                by_cases hw : 32 < wide l
                · simp [f3, hlt, f1, f2, q41, f4, hq, w1, f5, f6, f7, hll, hm, hw, h86, hp, hdl]
                  exact finS_of 9 (by simp)
                · simp [f3, hlt, f1, f2, q41, f4, hq, w1, f5, f6, f7, hll, hm, hw, h86, hp, hdl]
                  refine dk_of (by decide) ?_
                  simp
                  refine sd_of (by decide) ?_
                  simp
                  exact finS_of 9 (by simp)
              · simp [f3, hlt, f1, f2, q41, f4, hq, w1, f5, f6, f7, hll, hm, h86, hp, hdl, he]
                exact finS_of 9 (by simp)
        · have q41 : ((r0[i].toNat : Int) = 41) = False := by simp; intro h; exact h41 (UInt8.toNat_inj.1 (by simp; omega))
          have hdl : (r0.drop i).length < 1099511627776 := by simp; omega
          have f7 : i ≤ r0.length := by omega
          by_cases h0 : descLen (r0.drop i) 0 = 0
          · have hth : ¬ (r0.drop i).head? = some 41 := by rw [List.drop_eq_getElem_cons hlt]; simp only [List.head?_cons, Option.some.injEq]; exact h41
            rw [typesOf_none h0, List.append_nil] at hty
            have hm : method (40 :: r0) = ([], ⟨0, []⟩, 100) := by
              simp only [method, List.head?_cons, if_true, List.drop_succ_cons, List.drop_zero, hty, hth, if_false]
            generalize hq : r0.drop i = t at *
            simp [f3, hlt, f1, f2, q41, gOneT, hq, hdl, oneRes, h0, hm, f7]
            exact finS_of 9 (by simp)
          · rw [typesOf_some h0] at hty
            have hle := descLen_le (r0.drop i) 0
            have hle2 : descLen (r0.drop i) 0 + i ≤ r0.length := by
              simp at hle; omega
            have hdd : (r0.drop i).drop (descLen (r0.drop i) 0) = r0.drop (i + descLen (r0.drop i) 0) := by rw [List.drop_drop]
            rw [hdd] at hty
            generalize hq : r0.drop i = t at *
            generalize hd : descLen t 0 = d at *
            have w2 := wrap_i64 (show (-9223372036854775808 : Int) ≤ (i : Int) + 1 + (d : Int) by omega) (by omega)
            have hb : (l.length + 1) * 24 ≤ 140737488355328 := by omega
            have hn : encTy (tyOf (t.take d)) = encTy (tyOf (t.take d)) := rfl
            simp [f3, hlt, f1, f2, q41, gOneT, hq, hdl, oneRes, h0, hd, w2, f7, hb]
            refine nextQ_less (i + d, l ++ [tyOf (t.take d)]) ⟨by omega, by simp; omega, by simpa using hty⟩ (by simp; omega) (less_take fz_gl G0.2 rfl (by simp) (by simp) (by simp; omega))
      · have hi' : i = r0.length := by omega
        subst hi'
        have hm : method (40 :: r0) = ([], ⟨0, []⟩, 100) := by
          have : typesOf r0 = (l, []) := by
            rw [hty, List.drop_length, typesOf_none (by simp [descLen])]
            simp
          simp only [method, List.head?_cons, if_true, List.drop_succ_cons, List.drop_zero, this]
          simp
        simp [hm]
        exact finS_of 9 (by simp)
    · have n40 : ((c0.toNat : Int) = 40) = False := by simp; intro h; exact h40 (UInt8.toNat_inj.1 (by simp; omega))
      have hm : method (c0 :: r0) = ([], ⟨0, []⟩, 100) := by simp [method, h40]
      simp [Tryd.f12, entry, hm, n40]
      exact finS_of 9 (by simp)
end Go.Proofs.YtbjgepnkakcjaaaDoor.Lift
