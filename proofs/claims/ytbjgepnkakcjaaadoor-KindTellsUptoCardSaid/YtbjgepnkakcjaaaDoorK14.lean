/-
  K14: larchlaw10.KindReads and KindTells are true.
-/
import Derived.Test.YtbjgepnkakcjaaaDoorK13
import Derived.Test.YtbjgepnkakcjaaaDoorK9
namespace Go.Proofs.YtbjgepnkakcjaaaDoor.Lift
open Go
set_option maxRecDepth 100000

theorem typesOf_len : ∀ (n : Nat) (s : Str), s.length ≤ n → (typesOf s).1.length ≤ s.length := by
  intro n
  induction n with
  | zero =>
    intro s h
    have : s = [] := List.eq_nil_of_length_eq_zero (by omega)
    subst this
    rw [typesOf_none (by simp [descLen])]
    simp
  | succ n ih =>
    intro s h
    by_cases h0 : descLen s 0 = 0
    · rw [typesOf_none h0]; simp
    · have hle := descLen_le s 0
      have := ih (s.drop (descLen s 0)) (by simp; omega)
      rw [typesOf_some h0]
      simp at this ⊢
      omega
theorem method_len (s : Str) : (method s).1.length ≤ s.length := by
  have h := typesOf_len _ (s.drop 1) (Nat.le_refl _)
  simp only [List.length_drop] at h
  unfold method
  generalize typesOf (s.drop 1) = q at *
  split
  · dsimp only
    split
    · split
      · split <;> simp <;> omega
      · split
        · simp
        · split <;> simp <;> omega
    · simp
  · simp

theorem p_KindReads : SoundP Tryd.prog gl 3 (fn1 cStr encBool fun _ => some true) := by
  refine soundP_of_wk ((((((((okX_nil.addP p_works).addP p_refClass).addP p_kindClass).addP p_SameTypes).addP p_refMethod).addP p_kindMethod).addP p_refParse).addP p_kindParse) mixed Tryd.func3 rfl rfl fun args r h G0 => ?_
  obtain ⟨s, e, rfl, he, rfl⟩ := fn1_inv h
  cases he
  by_cases h1 : 2000 < s.length
  · have e1 : ((2000 : Int) < (s.length : Int)) = True := by simp; omega
    have hl : (s.take 2000).length = 2000 := by simp; omega
    have hle : 2000 ≤ s.length := by omega
    generalize hq : s.take 2000 = t at *
    cases hp : parse t with
    | mk a er =>
      obtain ⟨ak, an⟩ := a
      have hm := method_len t
      cases hq2 : method t with
      | mk l z =>
        obtain ⟨x, er2⟩ := z
        obtain ⟨xk, xn⟩ := x
        rw [hq2] at hm
        simp only at hm
        have hm' : l.length < 1099511627776 := by omega
        simp [Tryd.f3, entry, e1, hle, hq, hl, hp, hq2, hm']
        exact finS_fz (by simp)
  · have e1 : ((2000 : Int) < (s.length : Int)) = False := by simp; omega
    have hl : s.length < 1099511627776 := by omega
    cases hp : parse s with
    | mk a er =>
      obtain ⟨ak, an⟩ := a
      have hm := method_len s
      cases hq2 : method s with
      | mk l z =>
        obtain ⟨x, er2⟩ := z
        obtain ⟨xk, xn⟩ := x
        rw [hq2] at hm
        simp only at hm
        have hm' : l.length < 1099511627776 := by omega
        simp [Tryd.f3, entry, e1, hl, hp, hq2, hm']
        exact finS_fz (by simp)

theorem print_len {x : ATy} {t : Str} {er : Int} (h : print x = (t, er)) : t.length ≤ x.name.length + 2 := by
  rcases print_fst h with ⟨_, h⟩ | ⟨_, h⟩ <;> subst h
  · unfold texty
    split
    · simp
    · split
      · simp
      · split
        · split <;> simp
        · simp
  · simp

theorem p_KindTells : SoundP Tryd.prog gl 5 (fn2 cTy (cL cTy) encBool fun _ l => if l.length < 1099511627776 then some true else none) := by
  refine soundP_of_wk (((((((okX_nil.addP p_works).addP p_refWide).addP p_kindWide).addP p_refElem).addP p_kindElem).addP p_refPrint).addP p_kindPrint) mixed Tryd.func5 rfl rfl fun args r h G0 => ?_
  obtain ⟨x, l, e, rfl, he, rfl⟩ := fn2_inv h
  simp only [Option.ite_none_right_eq_some, Option.some.injEq] at he
  obtain ⟨hl, rfl⟩ := he
  obtain ⟨k, s⟩ := x
  have hb : l.length * 24 ≤ 140737488355328 := by omega
  by_cases h1 : 2000 < s.length
  · have e1 : ((2000 : Int) < (s.length : Int)) = True := by simp; omega
    have hl2 : (s.take 2000).length = 2000 := by simp; omega
    have hle : 2000 ≤ s.length := by omega
    generalize hq : s.take 2000 = t at *
    cases hp : print ⟨k, t⟩ with
    | mk a er =>
      cases hq2 : elem ⟨k, t⟩ with
      | mk c er2 =>
        obtain ⟨ck, cn⟩ := c
        simp [Tryd.f5, entry, e1, hle, hq, hl2, hp, hq2, hl, hb]
        exact finS_fz (by simp)
  · have e1 : ((2000 : Int) < (s.length : Int)) = False := by simp; omega
    have hs : s.length < 1099511600000 := by omega
    cases hp : print ⟨k, s⟩ with
    | mk a er =>
      cases hq2 : elem ⟨k, s⟩ with
      | mk c er2 =>
        obtain ⟨ck, cn⟩ := c
        simp [Tryd.f5, entry, e1, hs, hp, hq2, hl, hb]
        exact finS_fz (by simp)
end Go.Proofs.YtbjgepnkakcjaaaDoor.Lift
