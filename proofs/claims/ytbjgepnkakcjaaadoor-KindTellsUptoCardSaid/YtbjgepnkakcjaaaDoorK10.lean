/-
  K10: larchlaw10.KindBack is true.
-/
import Derived.Test.YtbjgepnkakcjaaaDoorK9
namespace Go.Proofs.YtbjgepnkakcjaaaDoor.Lift
open Go
set_option maxRecDepth 100000

theorem indexByte_get {c : UInt8} : ∀ {r : Str} {j : Nat}, Lib.indexByte r c = j → r[j]? = some c
  | [], j, h => by
    simp only [Lib.indexByte] at h
    omega
  | b :: r, j, h => by
    simp only [Lib.indexByte] at h
    split at h
    · rename_i hb
      have : j = 0 := by omega
      subst this
      simpa using hb
    · split at h
      · omega
      · have ge := Lib.indexByte_ge r c
        cases j with
        | zero =>
          rename_i h1
          have : ¬ Lib.indexByte r c = -1 := by simpa using h1
          omega
        | succ j =>
          have := indexByte_get (c := c) (r := r) (j := j) (by omega)
          simpa using this

theorem isClass_head {s : Str} (h : isClass s = true) : s.head? ≠ some 91 := by
  cases s with
  | nil => simp
  | cons c s =>
    simp [isClass, allAt, okAt] at h
    intro hc
    simp at hc
    subst hc
    have := h.1.1
    exact absurd this (by decide)

/-- a descriptor's type has that descriptor -/
theorem texty_tyOf {s : Str} (h0 : descLen s 0 ≠ 0) (h1 : descLen s 0 = s.length) : texty (tyOf s) = s := by
  cases s with
  | nil => simp [descLen] at h0
  | cons c r =>
    simp only [descLen, Nat.not_lt_zero, if_false, List.length_cons] at h0 h1
    by_cases h73 : c = 73
    · subst h73
      simp at h1
      have : r = [] := h1
      subst this
      rfl
    · by_cases h74 : c = 74
      · subst h74
        simp at h1
        have : r = [] := h1
        subst this
        rfl
      · by_cases h76 : c = 76
        · subst h76
          simp at h0 h1
          unfold refLen at h0 h1
          split at h0
          · rename_i hc
            obtain ⟨hi, hcl⟩ := hc
            rw [if_pos ⟨hi, hcl⟩] at h1
            obtain ⟨j, hj⟩ : ∃ j : Nat, Lib.indexByte r 59 = j := ⟨(Lib.indexByte r 59).toNat, by omega⟩
            rw [hj] at h1 hcl
            simp at h1 hcl
            have hg := indexByte_get hj
            have hlt : j < r.length := by omega
            have hr : r = r.take j ++ [59] := by
              have e1 : r.take (j + 1) = r := List.take_of_length_le (by omega)
              have e2 : r[j] = 59 := by
                have : r[j]? = some r[j] := by simp [hlt]
                rw [this] at hg
                simpa using hg
              rw [← e2, ← List.take_succ_eq_append_getElem hlt, e1]
            have hty : tyOf (76 :: r) = ⟨4, r.dropLast⟩ := rfl
            have hdl : r.dropLast = r.take j := by
              conv => lhs; rw [hr]
              simp
            rw [hty, hdl]
            have := isClass_head hcl
            simp only [texty]
            simp [this]
            exact hr.symm
          · exact absurd rfl h0
        · by_cases h91 : c = 91
          · subst h91
            have hty : tyOf (91 :: r) = ⟨4, 91 :: r⟩ := rfl
            rw [hty]
            simp [texty]
          · simp [h73, h74, h76, h91] at h0

theorem print_parse {s : Str} {a : ATy} (h : parse s = (a, 0)) : print a = (s, 0) := by
  unfold parse at h
  split at h
  · simp at h
  · rename_i hc
    have h0 : descLen s 0 ≠ 0 := fun h => hc (.inl h)
    have h1 : descLen s 0 = s.length := Classical.byContradiction fun h => hc (.inr h)
    simp only [Prod.mk.injEq, and_true] at h
    subst h
    have ht := texty_tyOf h0 h1
    have hp : parse s = (tyOf s, 0) := by rw [parse, if_neg hc]
    simp only [print, ht, hp, if_true]
theorem parse_err {s : Str} {a : ATy} {e : Int} (h : parse s = (a, e)) : e = 0 ∨ (e = 100 ∧ a = ⟨0, []⟩) := by
  unfold parse at h
  split at h
  · cases h; exact .inr ⟨rfl, rfl⟩
  · cases h; exact .inl rfl
theorem print_ok {x : ATy} {t : Str} (h : print x = (t, 0)) : parse t = (x, 0) := by
  unfold print at h
  split at h
  · cases h; assumption
  · simp at h
theorem print_cases (x : ATy) : (∃ t, print x = (t, 0) ∧ parse t = (x, 0)) ∨ print x = ([], 100) := by
  unfold print
  split
  · exact .inl ⟨_, rfl, by assumption⟩
  · exact .inr rfl

theorem p_KindBack : SoundP Tryd.prog gl 4 (fn2 cStr cTy encBool fun _ _ => some true) := by
  refine soundP_of_wk (((okX_nil.addP p_works).addP p_kindPrint).addP p_kindParse) mixed Tryd.func4 rfl rfl fun args r h G0 => ?_
  obtain ⟨s, x, e, rfl, he, rfl⟩ := fn2_inv h
  cases he
  obtain ⟨k, nm⟩ := x
  by_cases h1 : 2000 < s.length
  · have e1 : ((2000 : Int) < (s.length : Int)) = True := by simp; omega
    simp [Tryd.f4, entry, e1]
    exact finS_fz (by simp)
  · have e1 : ((2000 : Int) < (s.length : Int)) = False := by simp; omega
    by_cases h2 : 2000 < nm.length
    · have e2 : ((2000 : Int) < (nm.length : Int)) = True := by simp; omega
      simp [Tryd.f4, entry, e1, e2]
      exact finS_fz (by simp)
    · have e2 : ((2000 : Int) < (nm.length : Int)) = False := by simp; omega
      have hs' : s.length < 1099511627776 := by omega
      have hs : s.length < 1099511600000 := by omega
      have hx : nm.length < 1099511600000 := by omega
      have htl : ∀ t, print ⟨k, nm⟩ = (t, 0) → t.length < 1099511627776 := fun t ht => by
        unfold print at ht
        split at ht
        · cases ht
          unfold texty
          simp only
          split
          · simp
          · split
            · simp
            · split
              · split
                · omega
                · simp; omega
              · simp
        · simp at ht
      have last : (∃ t, print ⟨k, nm⟩ = (t, 0) ∧ parse t = (⟨k, nm⟩, 0)) ∨ print ⟨k, nm⟩ = ([], 100) := print_cases _
      cases hp : parse s with
      | mk a er =>
        obtain ⟨ak, an⟩ := a
        rcases parse_err hp with h0 | ⟨h100, ha⟩
        · subst h0
          have hpr := print_parse hp
          have han : an.length < 1099511600000 := by
            have := print_ok hpr
            unfold parse at hp
            split at hp
            · simp at hp
            · simp only [Prod.mk.injEq, and_true] at hp
              have : an = (tyOf s).name := by rw [hp]
              rw [this]
              cases s with
              | nil => simp [tyOf]
              | cons c r =>
                simp only [tyOf]
                simp at hs
                split
                · simp
                · split
                  · simp
                  · split
                    · simp; omega
                    · simp; omega
          rcases last with ⟨t, ht1, ht2⟩ | ht
          · have ht3 := htl t ht1
            simp [Tryd.f4, entry, e1, e2, hs', hp, hpr, han, hx, ht1, ht2, ht3]
            exact finS_fz (by simp)
          · simp [Tryd.f4, entry, e1, e2, hs', hp, hpr, han, hx, ht]
            exact finS_fz (by simp)
        · subst h100
          rcases last with ⟨t, ht1, ht2⟩ | ht
          · have ht3 := htl t ht1
            simp [Tryd.f4, entry, e1, e2, hs', hp, hx, ht1, ht2, ht3]
            exact finS_fz (by simp)
          · simp [Tryd.f4, entry, e1, e2, hs', hp, hx, ht]
            exact finS_fz (by simp)
end Go.Proofs.YtbjgepnkakcjaaaDoor.Lift
