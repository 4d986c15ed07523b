/-
  K6: contracts of kind's cut, of and Parse: the same as the reference's.
-/
import Derived.Test.YtbjgepnkakcjaaaDoorK5
namespace Go.Proofs.YtbjgepnkakcjaaaDoor.Lift
open Go
set_option maxRecDepth 100000

/-- how long is the descriptor behind the [ (b: was there one)? -/
def size1 (rest : Str) (b : Bool) : Nat := match rest with
  | [] => 0
  | c :: r => if c = 73 ∨ c = 74 then 1 else if c = 66 ∧ b = true then 1 else if c = 76 then refLen r else 0
theorem descLen_split : ∀ (m : Nat) (rest : Str) (a : Nat), rest.head? ≠ some 91 → descLen (List.replicate m 91 ++ rest) a = if 8 < m + a then 0 else if size1 rest (decide (0 < m)) = 0 then 0 else m + size1 rest (decide (0 < m))
  | 0, rest, a, h => by
    cases rest with
    | nil => simp [descLen, size1]
    | cons c r =>
      have h91 : ¬ c = 91 := by simpa using h
      simp only [List.replicate_zero, List.nil_append, descLen, size1, Nat.zero_add, Nat.lt_irrefl, decide_false, Bool.false_eq_true, and_false, if_false, h91]
      split
      · rfl
      · split
        · rfl
        · split
          · split <;> simp_all
          · rfl
  | m + 1, rest, a, h => by
    have ih := descLen_split m rest (a + 1) h
    simp only [List.replicate_succ, List.cons_append, descLen]
    rw [ih]
    by_cases ha : 8 < a
    · rw [if_pos ha, if_pos (by omega)]
    · rw [if_neg ha, if_neg (by decide), if_neg (by decide), if_pos trivial]
      cases m with
      | zero =>
        simp only [List.replicate_zero, List.nil_append, Nat.zero_add, Nat.lt_irrefl, decide_false, Nat.zero_lt_one, decide_true]
        by_cases h66 : rest.head? = some 66 ∧ a < 8
        · rw [if_pos h66, if_neg (by omega)]
          obtain ⟨h1, _⟩ := h66
          cases rest with
          | nil => simp at h1
          | cons c r => simp at h1; subst h1; simp [size1]
        · rw [if_neg h66, Nat.add_comm 1 a]
          have : size1 rest true = size1 rest false ∨ 8 < a + 1 := by
            cases rest with
            | nil => exact .inl rfl
            | cons c r =>
              by_cases ha8 : 8 < a + 1
              · exact .inr ha8
              · have : ¬ c = 66 := fun e => h66 ⟨by simp [e], by omega⟩
                exact .inl (by simp [size1, this])
          by_cases ha8 : 8 < a + 1
          · simp [ha8]
          · have hq := this.resolve_right ha8
            simp only [if_neg ha8, hq]
            by_cases hz : size1 rest false = 0
            · simp [hz]
            · simp only [if_neg hz]
              omega
      | succ m =>
        have : ¬ ((List.replicate (m + 1) 91 ++ rest).head? = some (66 : UInt8) ∧ a < 8) := by simp [List.replicate_succ]
        rw [if_neg this]
        simp only [Nat.succ_pos, decide_true]
        by_cases h8 : 8 < m + 1 + (a + 1)
        · simp only [if_pos h8]
          rw [if_pos (by omega : 8 < m + 1 + 1 + a)]
          simp
        · simp only [if_neg h8]
          rw [if_neg (by omega : ¬ 8 < m + 1 + 1 + a)]
          by_cases hz : size1 rest true = 0
          · simp [hz]
          · simp only [if_neg hz]
            rw [if_neg (by omega)]
            omega

theorem split91 (s : Str) : ∃ m, s = List.replicate m 91 ++ s.dropWhile (· == 91) ∧ (s.dropWhile (· == 91)).head? ≠ some 91 := by
  induction s with
  | nil => exact ⟨0, by simp⟩
  | cons c s ih =>
    by_cases h : c = 91
    · subst h
      obtain ⟨m, h1, h2⟩ := ih
      refine ⟨m + 1, ?_, by simpa using h2⟩
      simp only [List.replicate_succ, List.cons_append, List.dropWhile_cons, beq_self_eq_true, if_true]
      rw [← h1]
    · exact ⟨0, by simp [h]⟩

@[simp] def encSS (x : Str × Str) : AV := .tup [.str x.1, .str x.2]
/-- the descriptor that a text begins with, and the rest -/
def cut (s : Str) : Str × Str := if descLen s 0 = 0 then ([], s) else (s.take (descLen s 0), s.drop (descLen s 0))
theorem p_cut : SoundP Tryd.prog gl 31 (fn1 cStr encSS fun s => if s.length < 1099511627776 then some (cut s) else none) := by
  refine soundP_of_wk (((okX_nil.addP p_kindClass).addP p_IndexByte).addP p_TrimLeft) mixed Tryd.func31 rfl rfl fun args r h G0 => ?_
  obtain ⟨s, e, rfl, he, rfl⟩ := fn1_inv h
  simp only [Option.ite_none_right_eq_some, Option.some.injEq] at he
  obtain ⟨hs, rfl⟩ := he
  obtain ⟨m, h1, h2⟩ := split91 s
  have hdl := descLen_split m (s.dropWhile (· == 91)) 0 h2
  rw [← h1] at hdl
  have hlen : s.length = m + (s.dropWhile (· == 91)).length := by
    conv => lhs; rw [h1]
    simp
  have htl : trimLeft1 s [91] = some (s.dropWhile (· == 91)) := by simp [trimLeft1]
  have hdrop : ∀ z, s.drop (m + z) = (s.dropWhile (· == 91)).drop z := fun z => by
    conv => lhs; rw [h1]
    rw [List.drop_append, List.length_replicate]
    simp
  generalize s.dropWhile (· == 91) = rest at *
  have hw := wrap_i64 (show (-9223372036854775808 : Int) ≤ (m : Int) by omega) (by omega)
  have hw' : IntKind.wrap .i64 ((m : Int) + (rest.length : Int) - (rest.length : Int)) = m := by rw [show (m : Int) + (rest.length : Int) - (rest.length : Int) = m by omega]; exact hw
  -- none
  by_cases h8 : 8 < m
  · have e1 : ((8 : Int) < (m : Int)) = True := by simp; omega
    have hc : cut s = ([], s) := by simp [cut, hdl, h8]
    simp [Tryd.f31, entry, htl, hlen, hw, hw', e1, hc]
    exact finS_fz (by simp)
  · have e1 : ((8 : Int) < (m : Int)) = False := by simp; omega
    cases rest with
    | nil =>
      have hc : cut s = ([], s) := by simp [cut, hdl, size1]
      simp [Tryd.f31, entry, htl, hlen, hw, hw', e1, hc]
      exact finS_fz (by simp)
    | cons c r =>
      have none_ : size1 (c :: r) (decide (0 < m)) = 0 → cut s = ([], s) := fun h => by simp [cut, hdl, h]
      have some_ : ∀ z, size1 (c :: r) (decide (0 < m)) = z → z ≠ 0 → cut s = (s.take (m + z), (c :: r).drop z) := fun z hz h0 => by
        rw [cut, hdl, hz]
        simp [h8, h0, hdrop]
      simp at hlen
      have hlen' : (s.length : Int) = (m : Int) + ((r.length : Int) + 1) := by omega
      have hw2 : IntKind.wrap .i64 ((m : Int) + ((r.length : Int) + 1) - ((r.length : Int) + 1)) = m := by rw [show (m : Int) + ((r.length : Int) + 1) - ((r.length : Int) + 1) = m by omega]; exact hw
      have hw3 := wrap_i64 (show (-9223372036854775808 : Int) ≤ (m : Int) + 1 by omega) (by omega)
      have e3 : (0 ≤ (m : Int) + 1) = True := by simp; omega
      have e4 : ((m : Int) + 1).toNat = m + 1 := by omega
      have e5 : m + 1 ≤ s.length := by omega
      by_cases h73 : c = 73
      · subst h73
        have hc := some_ 1 (by simp [size1]) (by simp)
        simp [Tryd.f31, entry, htl, hlen', hw, e1, hc]
        refine dk_of (by decide) ?_
        simp [hw3, e3, e4, e5]
        exact finS_fz (by simp)
      · have n73 : ((c.toNat : Int) = 73) = False := by simp; intro h; exact h73 (UInt8.toNat_inj.1 (by simp; omega))
        by_cases h74 : c = 74
        · subst h74
          have hc := some_ 1 (by simp [size1]) (by simp)
          simp [Tryd.f31, entry, htl, hlen', hw, e1, hc]
          refine dk_of (by decide) ?_
          simp [hw3, e3, e4, e5]
          exact finS_fz (by simp)
        · have n74 : ((c.toNat : Int) = 74) = False := by simp; intro h; exact h74 (UInt8.toNat_inj.1 (by simp; omega))
          by_cases h66 : c = 66
          · subst h66
            by_cases hm : 0 < m
            · have em : ((0 : Int) < (m : Int)) = True := by simp; omega
              have hc := some_ 1 (by simp [size1, hm]) (by simp)
              simp [Tryd.f31, entry, htl, hlen', hw, e1, hc, hm]
              refine dk_of (by decide) ?_
              simp [hw3, e3, e4, e5]
              exact finS_fz (by simp)
            · have em : ((0 : Int) < (m : Int)) = False := by simp; omega
              have hc := none_ (by simp [size1, hm])
              simp [Tryd.f31, entry, htl, hlen', hw, e1, hc, hm]
              exact finS_fz (by simp)
          · have n66 : ((c.toNat : Int) = 66) = False := by simp; intro h; exact h66 (UInt8.toNat_inj.1 (by simp; omega))
            by_cases h76 : c = 76
            · subst h76
              rcases indexByte_lt r 59 with hlt | hlt
              · by_cases hge : 0 ≤ Lib.indexByte r 59
                · obtain ⟨j, hj⟩ : ∃ j : Nat, Lib.indexByte r 59 = j := ⟨(Lib.indexByte r 59).toNat, by omega⟩
                  rw [hj] at hlt
                  have hidx : Lib.indexByte (76 :: r) 59 = (j : Int) + 1 := by simp [Lib.indexByte, hj] <;> omega
                  have f1 : ((0 : Int) < (j : Int) + 1) = True := by simp <;> omega
                  have f2 : ((0 : Int) ≤ (j : Int) + 1) = True := by simp <;> omega
                  have f3 : ((j : Int) + 1).toNat = j + 1 := by omega
                  have f4 : j ≤ r.length := by omega
                  have f5 : j < 1099511627776 := by omega
                  have f6 := wrap_i64 (show (-9223372036854775808 : Int) ≤ (j : Int) + 1 + 1 by omega) (by omega)
                  have f7 : ((j : Int) + 1 + 1 = 0) = False := by simp <;> omega
                  have f8 := wrap_i64 (show (-9223372036854775808 : Int) ≤ (m : Int) + ((j : Int) + 1 + 1) by omega) (by omega)
                  have f9 : ((m : Int) + ((j : Int) + 1 + 1)).toNat = m + (j + 2) := by omega
                  have f10 : (0 ≤ (m : Int) + ((j : Int) + 1 + 1)) = True := by simp <;> omega
                  have f11 : m + (j + 2) ≤ s.length := by omega
                  have f12 : ((j : Int) + 1 + 1).toNat = j + 2 := by omega
                  have f13 : (0 ≤ (j : Int) + 1 + 1) = True := by simp <;> omega
                  have f14 : j + 1 ≤ r.length := by omega
                  cases hcl : isClass (r.take j) with
                  | true =>
                    have hz : refLen r = j + 2 := by simp [refLen, hj, hcl]
                    have hc := some_ (j + 2) (by simp [size1, hz]) (by simp)
                    simp [Tryd.f31, entry, htl, hlen', hw, e1, hc, hidx, f1, f2, f3, f4, f5, hcl, f6, f7]
                    refine dk_of (by decide) ?_
                    simp [f8, f9, f10, f11, f12, f13, f14]
                    exact finS_fz (by simp)
                  | false =>
                    have hz : refLen r = 0 := by simp [refLen, hj, hcl]
                    have hc := none_ (by simp [size1, hz])
                    simp [Tryd.f31, entry, htl, hlen', hw, e1, hc, hidx, f1, f2, f3, f4, f5, hcl]
                    exact finS_fz (by simp)
                · have hz : refLen r = 0 := by simp [refLen, hge]
                  have hc := none_ (by simp [size1, hz])
                  have hge' := Lib.indexByte_ge r 59
                  have h1' : Lib.indexByte r 59 = -1 := by omega
                  have hidx : Lib.indexByte (76 :: r) 59 = -1 := by simp [Lib.indexByte, h1']
                  simp [Tryd.f31, entry, htl, hlen', hw, e1, hc, hidx]
                  exact finS_fz (by simp)
              · have hz : refLen r = 0 := by simp [refLen, hlt]
                have hc := none_ (by simp [size1, hz])
                have hidx : Lib.indexByte (76 :: r) 59 = -1 := by simp [Lib.indexByte, hlt]
                simp [Tryd.f31, entry, htl, hlen', hw, e1, hc, hidx]
                exact finS_fz (by simp)
            · have n76 : ((c.toNat : Int) = 76) = False := by simp; intro h; exact h76 (UInt8.toNat_inj.1 (by simp; omega))
              have hc := none_ (by simp [size1, h73, h74, h66, h76])
              simp [Tryd.f31, entry, htl, hlen', hw, e1, hc, n73, n74, n66, n76]
              exact finS_fz (by simp)

/-- what 'of' asks of a descriptor -/
def OfOk (s : Str) : Prop := s ≠ [] ∧ (s.head? = some 76 → 2 ≤ s.length)
instance (s : Str) : Decidable (OfOk s) := by unfold OfOk; infer_instance
theorem p_of : SoundP Tryd.prog gl 32 (fn1 cStr encTy fun s => if s.length < 1099511627776 ∧ OfOk s then some (tyOf s) else none) := by
  refine soundP_of_wk okX_nil mixed Tryd.func32 rfl rfl fun args r h G0 => ?_
  obtain ⟨s, e, rfl, he, rfl⟩ := fn1_inv h
  simp only [Option.ite_none_right_eq_some, Option.some.injEq] at he
  obtain ⟨⟨hs, hne, h2⟩, rfl⟩ := he
  cases s with
  | nil => exact absurd rfl hne
  | cons c r =>
    by_cases h73 : c = 73
    · subst h73
      simp [Tryd.f32, entry, tyOf]
      exact finS_fz (by simp)
    · have n73 : ((c.toNat : Int) = 73) = False := by simp; intro h; exact h73 (UInt8.toNat_inj.1 (by simp; omega))
      by_cases h74 : c = 74
      · subst h74
        simp [Tryd.f32, entry, tyOf]
        exact finS_fz (by simp)
      · have n74 : ((c.toNat : Int) = 74) = False := by simp; intro h; exact h74 (UInt8.toNat_inj.1 (by simp; omega))
        by_cases h76 : c = 76
        · subst h76
          simp at h2 hs
          have hw := wrap_i64 (show (-9223372036854775808 : Int) ≤ (r.length : Int) by omega) (by omega)
          have hr : 1 ≤ r.length := by omega
          have hdl : List.drop 1 (List.take r.length (76 :: r)) = r.dropLast := by
            cases r with
            | nil => simp at hr
            | cons d r => simp [List.dropLast_eq_take]
          have hty : tyOf (76 :: r) = ⟨4, r.dropLast⟩ := rfl
          simp [Tryd.f32, entry, hw, hr, hdl, hty]
          exact finS_fz (by simp)
        · have n76 : ((c.toNat : Int) = 76) = False := by simp; intro h; exact h76 (UInt8.toNat_inj.1 (by simp; omega))
          simp [Tryd.f32, entry, n73, n74, n76, tyOf, h73, h74, h76]
          exact finS_fz (by simp)

theorem refLen_ge (r : Str) (h : refLen r ≠ 0) : 2 ≤ refLen r := by
  unfold refLen at h ⊢
  split at h
  · rename_i hc; rw [if_pos hc]; omega
  · exact absurd rfl h
/-- what 'of' asks of a descriptor -/
theorem of_ok {s : Str} (h : descLen s 0 ≠ 0) : OfOk (s.take (descLen s 0)) := by
  cases s with
  | nil => simp [descLen] at h
  | cons c r =>
    refine ⟨by simp [h], fun h2 => ?_⟩
    have hc : c = 76 := by
      cases hq : descLen (c :: r) 0 with
      | zero => exact absurd hq h
      | succ n => rw [hq] at h2; simpa using h2
    subst hc
    have e : descLen (76 :: r) 0 = refLen r := by simp [descLen]
    have := refLen_ge r (by rw [← e]; exact h)
    have := descLen_le (76 :: r) 0
    simp only [List.length_take]
    omega

theorem p_kindParse : SoundP Tryd.prog gl 9 (fn1 cStr encTyErr fun s => if s.length < 1099511627776 then some (parse s) else none) := by
  refine soundP_of_wk ((okX_nil.addP p_of).addP p_cut) mixed Tryd.func9 rfl rfl fun args r h G0 => ?_
  obtain ⟨s, e, rfl, he, rfl⟩ := fn1_inv h
  simp only [Option.ite_none_right_eq_some, Option.some.injEq] at he
  obtain ⟨hs, rfl⟩ := he
  by_cases h0 : descLen s 0 = 0
  · have hc : cut s = ([], s) := by simp [cut, h0]
    have hp : parse s = (⟨0, []⟩, 100) := by simp [parse, h0]
    simp [Tryd.f9, entry, hs, hc, hp]
    exact finS_fz (by simp)
  · have hc : cut s = (s.take (descLen s 0), s.drop (descLen s 0)) := by simp [cut, h0]
    have o := of_ok h0
    have o1 := o.1
    have hle := descLen_le s 0
    by_cases h1 : descLen s 0 = s.length
    · have hp : parse s = (tyOf s, 0) := by rw [parse, if_neg (fun h => h.elim h0 (fun h => h h1))]
      rw [h1, List.take_length] at o1 o
      rw [h1, List.take_length, List.drop_length] at hc
      simp [Tryd.f9, entry, hs, hc, hp, o1, o]
      exact finS_fz (by simp)
    · have hp : parse s = (⟨0, []⟩, 100) := by simp [parse, h1]
      have hd : s.drop (descLen s 0) ≠ [] := by
        intro h
        have := congrArg List.length h
        simp at this
        omega
      generalize hq : s.drop (descLen s 0) = q at hd hc
      generalize hq' : s.take (descLen s 0) = q' at o1 o hc
      simp [Tryd.f9, entry, hs, hc, hp, hd, o1]
      exact finS_fz (by simp)
end Go.Proofs.YtbjgepnkakcjaaaDoor.Lift
