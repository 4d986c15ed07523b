/-
  K5: contracts of larchref10.One and Parse, of kind's cut, of and Parse: what descriptor does a text begin with?
-/
import Derived.Test.YtbjgepnkakcjaaaDoorK4
namespace Go.Proofs.YtbjgepnkakcjaaaDoor.Lift
open Go
set_option maxRecDepth 100000

/-- a recursive function: from the contract on what is smaller to that on what is a little larger -/
theorem soundP_rec {f : Nat} {g : List AV → Option AV} (G : Nat → List AV → Option AV) (h0 : ∀ args, G 0 args = none) (hs : ∀ k, SoundP Tryd.prog gl f (G k) → SoundP Tryd.prog gl f (G (k + 1))) (hc : ∀ args r, g args = some r → ∃ k, G k args = some r) : SoundP Tryd.prog gl f g where
  calls := fun H args vals r hr => by
    obtain ⟨k, hk⟩ := hc args r hr
    have : ∀ k, SoundP Tryd.prog gl f (G k) := fun k => by
      induction k with
      | zero => exact ⟨fun H args vals r h => by rw [h0] at h; cases h⟩
      | succ k ih => exact hs k ih
    exact (this k).calls H args vals r hk

/-- where does the class's name behind an L end? -/
def refLen (r : Str) : Nat := if 0 ≤ Lib.indexByte r 59 ∧ isClass (r.take (Lib.indexByte r 59).toNat) = true then (Lib.indexByte r 59).toNat + 2 else 0
/-- how long is the descriptor that a text begins with (a: how many [ were ahead)? 0: there is none -/
def descLen : Str → Nat → Nat
  | [], _ => 0
  | c :: r, a => if 8 < a then 0 else if c = 73 ∨ c = 74 then 1 else if c = 76 then refLen r else if c = 91 then (if r.head? = some 66 ∧ a < 8 then 2 else if descLen r (a + 1) = 0 then 0 else descLen r (a + 1) + 1) else 0
/-- a descriptor's type -/
def tyOf : Str → ATy
  | [] => ⟨4, []⟩
  | c :: r => if c = 73 then ⟨1, []⟩ else if c = 74 then ⟨2, []⟩ else if c = 76 then ⟨4, r.dropLast⟩ else ⟨4, c :: r⟩

theorem indexByte_lt (r : Str) (c : UInt8) : Lib.indexByte r c < r.length ∨ Lib.indexByte r c = -1 := by
  induction r with
  | nil => exact .inr rfl
  | cons b r ih =>
    simp only [Lib.indexByte, List.length_cons]
    split
    · left; omega
    · split
      · exact .inr rfl
      · rename_i h
        have : ¬ Lib.indexByte r c = -1 := by simpa using h
        left; omega
theorem refLen_le (r : Str) : refLen r ≤ r.length + 1 := by
  unfold refLen
  split
  · have := indexByte_lt r 59; omega
  · omega
theorem descLen_le : ∀ (s : Str) (a : Nat), descLen s a ≤ s.length
  | [], _ => by simp [descLen]
  | c :: r, a => by
    have h1 := refLen_le r
    have h2 := descLen_le r (a + 1)
    simp only [descLen, List.length_cons]
    split
    · omega
    · split
      · omega
      · split
        · omega
        · split
          · split
            · rename_i h
              cases r with
              | nil => simp at h
              | cons d r => simp
            · split <;> omega
          · omega
theorem indexByte_first {c : UInt8} : ∀ {r : Str} {j : Nat}, r[j]? = some c → (∀ i, i < j → r[i]? ≠ some c) → Lib.indexByte r c = j
  | [], j, h, _ => by simp at h
  | b :: r, 0, h, _ => by simp at h; simp [Lib.indexByte, h]
  | b :: r, j + 1, h, hn => by
    have h0 : b ≠ c := fun e => hn 0 (by omega) (by simp [e])
    have ih := indexByte_first (r := r) (j := j) (by simpa using h) (fun i hi => by simpa using hn (i + 1) (by omega))
    simp only [Lib.indexByte, beq_iff_eq, h0, if_false, ih]
    rw [if_neg (by omega)]
    omega

@[simp] def encTyInt (x : ATy × Int) : AV := .tup [encTy x.1, .int .i64 x.2]
def oneRes (s : Str) (a : Nat) : ATy × Int := if descLen s a = 0 then (⟨0, []⟩, 0) else (tyOf (s.take (descLen s a)), descLen s a)
def gOne (k : Nat) (s : Str) (a : Int) : Option (ATy × Int) := if s.length < k ∧ s.length < 1099511627776 ∧ 0 ≤ a ∧ a ≤ 9 then some (oneRes s a.toNat) else none

theorem p_One_step (k : Nat) (ih : SoundP Tryd.prog gl 33 (fn2 cStr cInt encTyInt (gOne k))) : SoundP Tryd.prog gl 33 (fn2 cStr cInt encTyInt (gOne (k + 1))) := by
  refine soundP_of_wk ((okX_nil.addP ih).addP p_refClass) mixed Tryd.func33 rfl rfl fun args r h G0 => ?_
  obtain ⟨s, a, e, rfl, he, rfl⟩ := fn2_inv h
  unfold gOne at he
  simp only [Option.ite_none_right_eq_some, Option.some.injEq] at he
  obtain ⟨⟨hk, hs, ha0, ha9⟩, rfl⟩ := he
  obtain ⟨a, rfl⟩ : ∃ n : Nat, a = n := ⟨a.toNat, by omega⟩
  simp only [Int.toNat_natCast]
  cases s with
  | nil =>
    simp [Tryd.f33, entry, oneRes, descLen]
    exact finS_fz (by simp)
  | cons c r =>
    simp at hk hs
    by_cases ha : 8 < a
    · have e1 : (8 < (a : Int)) = True := by simp; omega
      simp [Tryd.f33, entry, oneRes, descLen, ha, e1]
      exact finS_fz (by simp)
    · have e1 : (8 < (a : Int)) = False := by simp; omega
      by_cases h73 : c = 73
      · subst h73
        simp [Tryd.f33, entry, oneRes, descLen, ha, e1, tyOf]
        exact finS_fz (by simp)
      · have n73 : ((c.toNat : Int) = 73) = False := by simp; intro h; exact h73 (UInt8.toNat_inj.1 (by simp; omega))
        by_cases h74 : c = 74
        · subst h74
          simp [Tryd.f33, entry, oneRes, descLen, ha, e1, tyOf]
          exact finS_fz (by simp)
        · have n74 : ((c.toNat : Int) = 74) = False := by simp; intro h; exact h74 (UInt8.toNat_inj.1 (by simp; omega))
          by_cases h76 : c = 76
          · subst h76
            simp [Tryd.f33, entry, ha, e1]
            refine lp_of ((okX_nil.addP ih).addP p_refClass) mixed (fun (k : Nat) => ⟨81, frL [(0, .str (76 :: r)), (4, .ptr 0 0 0 0), (6, .int .i64 (k + 1))], [.row 2 0 0 [.agg [.int .i64 0, .str []]]]⟩) (fun k => k ≤ r.length ∧ ∀ i, i < k → r[i]? ≠ some 59) (fun k => r.length - k) 0 (by simp) (weak_frL rfl rfl (by simp)) ?_
            intro j ⟨hj, hn⟩
            have e2 : ((j : Int) + 1 < (r.length : Int) + 1) = (j < r.length) := by simp
            by_cases hlt : j < r.length
            · have hx : r[j]? = some r[j] := by simp [hlt]
              have e3 : (0 ≤ (j : Int) + 1) = True := by simp; omega
              have e4 : ((j : Int) + 1).toNat = j + 1 := by omega
              have e5 : (1 ≤ j + 1) = True := by simp
              by_cases h59 : r[j] = 59
              · have hidx : Lib.indexByte r 59 = j := indexByte_first (by rw [hx, h59]) hn
                have e6 : min j r.length = j := by omega
                have e7 : j < 1099511627776 := by omega
                have e8 : (j : Int) + 1 ≤ (r.length : Int) + 1 := by omega
                have e9 := wrap_i64 (show (-9223372036854775808 : Int) ≤ (j : Int) + 1 + 1 by omega) (by omega)
                have q59 : ((r[j].toNat : Int) = 59) = True := by rw [h59]; simp
                cases hcl : isClass (r.take j) with
                | true =>
                  have hrl : refLen r = j + 2 := by simp [refLen, hidx, hcl]
                  have htk : tyOf (76 :: r.take (j + 1)) = ⟨4, r.take j⟩ := by
                    show ATy.mk 4 ((r.take (j + 1)).dropLast) = _
                    rw [List.take_succ_eq_append_getElem hlt, List.dropLast_concat]
                  simp [hlt, hj, e2, e3, e4, q59, e6, e7, e8, e9, hcl, oneRes, descLen, ha, hrl, htk]
                  exact finS_fz (by simp)
                | false =>
                  have hrl : refLen r = 0 := by simp [refLen, hidx, hcl]
                  simp [hlt, hj, e2, e3, e4, q59, e6, e7, e8, hcl, oneRes, descLen, ha, hrl]
                  exact finS_fz (by simp)
              · have n59 : ((r[j].toNat : Int) = 59) = False := by simp; intro h; exact h59 (UInt8.toNat_inj.1 (by simp; omega))
                simp [hlt, e2, e3, e4, hx, n59, wrap_i64 (show (-9223372036854775808 : Int) ≤ (j : Int) + 1 + 1 by omega) (by omega)]
                refine nextQ_of (j + 1) ⟨hlt, fun i hi => ?_⟩ (by omega) (weak_frL rfl rfl (by simp))
                rcases Nat.lt_or_ge i j with h | h
                · exact hn i h
                · have : i = j := by omega
                  subst this
                  rw [hx]
                  simpa using h59
            · have hrl : refLen r = 0 := by
                have : ¬ 0 ≤ Lib.indexByte r 59 := by
                  rw [indexByte_mem]
                  intro hm
                  obtain ⟨i, hi⟩ := List.mem_iff_getElem?.1 hm
                  exact hn i (by have := (List.getElem?_eq_some_iff.1 hi).1; omega) hi
                simp [refLen, this]
              simp [hlt, e2, oneRes, descLen, ha, hrl]
              exact finS_fz (by simp)
          · have n76 : ((c.toNat : Int) = 76) = False := by simp; intro h; exact h76 (UInt8.toNat_inj.1 (by simp; omega))
            by_cases h91 : c = 91
            · subst h91
              cases r with
              | nil =>
                have hg : gOne k [] ((a : Int) + 1) = some (oneRes [] (a + 1)) := by
                  unfold gOne
                  rw [if_pos ⟨by simpa using hk, by simp, by omega, by omega⟩]
                  congr 2
                have hw := wrap_i64 (show (-9223372036854775808 : Int) ≤ (a : Int) + 1 by omega) (by omega)
                simp [Tryd.f33, entry, ha, e1, hg, hw, oneRes, descLen]
                exact finS_fz (by simp)
              | cons d r =>
                by_cases hB : d = 66 ∧ a < 8
                · obtain ⟨rfl, ha8⟩ := hB
                  have e2 : ((1 : Int) < (r.length : Int) + 1 + 1) = True := by simp; omega
                  have e3 : ((a : Int) < 8) = True := by simp; omega
                  simp [Tryd.f33, entry, ha, e1, e2, e3, oneRes, descLen, ha8, tyOf]
                  exact finS_fz (by simp)
                · have e2 : ((1 : Int) < (r.length : Int) + 1 + 1) = True := by simp; omega
                  have hg : gOne k (d :: r) ((a : Int) + 1) = some (oneRes (d :: r) (a + 1)) := by
                    unfold gOne
                    rw [if_pos ⟨by simpa using hk, by omega, by omega, (by have := ha; omega : (a : Int) + 1 ≤ 9)⟩]
                    congr 2
                  have hw := wrap_i64 (show (-9223372036854775808 : Int) ≤ (a : Int) + 1 by omega) (by omega)
                  have hd : descLen (91 :: d :: r) a = if descLen (d :: r) (a + 1) = 0 then 0 else descLen (d :: r) (a + 1) + 1 := by
                    rw [descLen]
                    simp [ha, hB]
                  by_cases hd66 : d = 66
                  · have h8 : ¬ a < 8 := fun h => hB ⟨hd66, h⟩
                    have e3 : ((a : Int) < 8) = False := by simp; omega
                    subst hd66
                    by_cases h0 : descLen (66 :: r) (a + 1) = 0
                    · simp [Tryd.f33, entry, ha, e1, e2, e3, hg, hw, oneRes, hd, h0]
                      exact finS_fz (by simp)
                    · have e4 : (0 < descLen (66 :: r) (a + 1)) = True := by simp; omega
                      have hle := descLen_le (66 :: r) (a + 1)
                      have hs' := hs
                      simp at hle hs'
                      have e5 := wrap_i64 (show (-9223372036854775808 : Int) ≤ (descLen (66 :: r) (a + 1) : Int) + 1 by omega) (by omega)
                      have e6 : ((descLen (66 :: r) (a + 1) : Int) + 1).toNat = descLen (66 :: r) (a + 1) + 1 := by omega
                      have e7 : (0 ≤ (descLen (66 :: r) (a + 1) : Int) + 1) = True := by simp; omega
                      simp [Tryd.f33, entry, ha, e1, e2, e3, hg, hw, oneRes, hd, h0, e4, e5, e6, e7, hle, tyOf]
                      exact finS_fz (by simp)
                  · have n66 : ((d.toNat : Int) = 66) = False := by simp; intro h; exact hd66 (UInt8.toNat_inj.1 (by simp; omega))
                    by_cases h0 : descLen (d :: r) (a + 1) = 0
                    · simp [Tryd.f33, entry, ha, e1, e2, n66, hg, hw, oneRes, hd, h0]
                      exact finS_fz (by simp)
                    · have e4 : (0 < descLen (d :: r) (a + 1)) = True := by simp; omega
                      have hle := descLen_le (d :: r) (a + 1)
                      have hs' := hs
                      simp at hle hs'
                      have e5 := wrap_i64 (show (-9223372036854775808 : Int) ≤ (descLen (d :: r) (a + 1) : Int) + 1 by omega) (by omega)
                      have e6 : ((descLen (d :: r) (a + 1) : Int) + 1).toNat = descLen (d :: r) (a + 1) + 1 := by omega
                      have e7 : (0 ≤ (descLen (d :: r) (a + 1) : Int) + 1) = True := by simp; omega
                      simp [Tryd.f33, entry, ha, e1, e2, n66, hg, hw, oneRes, hd, h0, e4, e5, e6, e7, hle, tyOf]
                      exact finS_fz (by simp)
            · have n91 : ((c.toNat : Int) = 91) = False := by simp; intro h; exact h91 (UInt8.toNat_inj.1 (by simp; omega))
              simp [Tryd.f33, entry, oneRes, descLen, ha, e1, n73, n74, n76, n91, h73, h74, h76, h91]
              exact finS_fz (by simp)

def gOneT (s : Str) (a : Int) : Option (ATy × Int) := if s.length < 1099511627776 ∧ 0 ≤ a ∧ a ≤ 9 then some (oneRes s a.toNat) else none
theorem p_One : SoundP Tryd.prog gl 33 (fn2 cStr cInt encTyInt gOneT) := by
  refine soundP_rec (fun k => fn2 cStr cInt encTyInt (gOne k)) (fun args => ?_) p_One_step fun args r h => ?_
  · cases hq : fn2 cStr cInt encTyInt (gOne 0) args with
    | none => rfl
    | some r =>
      obtain ⟨s, a, e, _, he, _⟩ := fn2_inv hq
      simp [gOne] at he
  · obtain ⟨s, a, e, rfl, he, rfl⟩ := fn2_inv h
    refine ⟨s.length + 1, ?_⟩
    unfold gOneT at he
    simp only [Option.ite_none_right_eq_some, Option.some.injEq] at he
    obtain ⟨⟨h1, h2, h3⟩, rfl⟩ := he
    simp [gOne, h1, h2, h3]

@[simp] def encTyErr (x : ATy × Int) : AV := .tup [encTy x.1, .int .i64 x.2]
/-- Parse: 10.1 -/
def parse (s : Str) : ATy × Int := if descLen s 0 = 0 ∨ descLen s 0 ≠ s.length then (⟨0, []⟩, 100) else (tyOf s, 0)
theorem p_refParse : SoundP Tryd.prog gl 10 (fn1 cStr encTyErr fun s => if s.length < 1099511627776 then some (parse s) else none) := by
  refine soundP_of_wk (okX_nil.addP p_One) mixed Tryd.func10 rfl rfl fun args r h G0 => ?_
  obtain ⟨s, e, rfl, he, rfl⟩ := fn1_inv h
  simp only [Option.ite_none_right_eq_some, Option.some.injEq] at he
  obtain ⟨hs, rfl⟩ := he
  by_cases h0 : descLen s 0 = 0
  · simp [Tryd.f10, entry, gOneT, hs, oneRes, h0, parse]
    exact finS_fz (by simp)
  · by_cases h1 : descLen s 0 = s.length
    · have e1 : ((descLen s 0 : Int) = (s.length : Int)) = True := by simp [h1]
      have h2 : ¬ s = [] := by rintro rfl; simp [descLen] at h0
      simp [Tryd.f10, entry, gOneT, hs, oneRes, h0, parse, h1, h2]
      exact finS_fz (by simp)
    · have e1 : ((descLen s 0 : Int) = (s.length : Int)) = False := by simp; omega
      simp [Tryd.f10, entry, gOneT, hs, oneRes, h0, parse, h1, e1]
      exact finS_fz (by simp)
end Go.Proofs.YtbjgepnkakcjaaaDoor.Lift
