/-
  K3: contracts of the library's functions on texts: Trim, TrimLeft.
-/
import Derived.Test.YtbjgepnkakcjaaaDoorK2
namespace Go.Proofs.YtbjgepnkakcjaaaDoor.Lift
open Go
set_option maxRecDepth 100000

/-- a pointer to a set of bytes -/
@[simp] def encSet (l : List Bool) : AV := .rp (.agg (l.map encBool)) 0
@[simp] def decSet : AV → Option (List Bool)
  | .rp (.agg cs) 0 => mapO decBool cs
  | _ => none
theorem decSet_ed (v : AV) (l : List Bool) (h : decSet v = some l) : v = encSet l := by
  unfold decSet at h
  split at h
  · rw [encSet, ← mapO_inv (show ∀ v x, decBool v = some x → v = encBool x from cBool.ed) _ _ h]
  · cases h
def cSet : Cod (List Bool) := ⟨encSet, decSet, fun l => by simp, decSet_ed, fun l => by simp⟩
@[simp] theorem cSet_dec : cSet.dec = decSet := rfl
@[simp] theorem cSet_enc : cSet.enc = encSet := rfl

/-- is a byte in a set? -/
def inSet (l : List Bool) (c : UInt8) : Bool := l.getD c.toNat false

theorem p_contains : SoundP Tryd.prog gl 58 (fn2 cSet cByte encBool fun l c => if l.length = 256 then some (inSet l c) else none) := by
  refine soundP_of_wk okX_nil mixed Tryd.func58 rfl rfl fun args r h G0 => ?_
  obtain ⟨l, c, e, rfl, he, rfl⟩ := fn2_inv h
  simp only [Option.ite_none_right_eq_some, Option.some.injEq] at he
  obtain ⟨hl, rfl⟩ := he
  have hc : (c.toNat : Int) < 256 := by have := c.toNat_lt; omega
  have hx : l[c.toNat]? = some (inSet l c) := by
    have : c.toNat < l.length := by omega
    simp [inSet, this]
  simp [Tryd.f58, entry, hc, hx]
  exact finS_fz (by simp)
noncomputable abbrev E3a : Env := [(58, liftS 9 (fn2 cSet cByte encBool fun l c => if l.length = 256 then some (inSet l c) else none))]
theorem ok3a : OkX Tryd.prog (XE E3a) := okX_nil.addP p_contains

theorem p_trimLeftASCII : SoundP Tryd.prog gl 47 (fn2 cStr cSet encStr fun s l => if l.length = 256 then some (s.dropWhile (inSet l)) else none) := by
  refine soundP_of_wk ok3a mixed Tryd.func47 rfl rfl fun args r h G0 => ?_
  obtain ⟨s, l, e, rfl, he, rfl⟩ := fn2_inv h
  simp only [Option.ite_none_right_eq_some, Option.some.injEq] at he
  obtain ⟨hl, rfl⟩ := he
  simp [Tryd.f47, entry]
  refine lp_of ok3a mixed (fun (t : Str) => ⟨16, frL [(0, .str t), (1, encSet l), (4, .str [])], []⟩) (fun t => t.dropWhile (inSet l) = s.dropWhile (inSet l)) (fun t => t.length) s rfl (weak_frL rfl rfl (by simp)) ?_
  intro t ht
  cases t with
  | nil =>
    simp
    rw [← ht]
    exact finS_fz (by simp)
  | cons c t =>
    simp [hl]
    refine br_bool (fun h => ?_) (fun h => ?_)
    · simp at h
      simp [h] at ht
      simp
      rw [← ht]
      exact finS_fz (by simp)
    · simp at h
      simp [h] at ht
      simp
      exact nextQ_of t ht (by simp) (weak_frL rfl rfl (by simp))

/-- a text without the bytes of a set at its end -/
def dropEnd (p : UInt8 → Bool) (s : Str) : Str := (s.reverse.dropWhile p).reverse
theorem dropEnd_concat (p : UInt8 → Bool) (s : Str) (c : UInt8) : dropEnd p (s ++ [c]) = if p c then dropEnd p s else s ++ [c] := by
  simp [dropEnd, List.dropWhile_cons]
  split <;> simp

theorem p_trimRightASCII : SoundP Tryd.prog gl 48 (fn2 cStr cSet encStr fun s l => if l.length = 256 ∧ s.length < 1099511627776 then some (dropEnd (inSet l) s) else none) := by
  refine soundP_of_wk ok3a mixed Tryd.func48 rfl rfl fun args r h G0 => ?_
  obtain ⟨s, l, e, rfl, he, rfl⟩ := fn2_inv h
  simp only [Option.ite_none_right_eq_some, Option.some.injEq] at he
  obtain ⟨⟨hl, hs⟩, rfl⟩ := he
  simp [Tryd.f48, entry]
  refine lp_of ok3a mixed (fun (t : Str) => ⟨22, frL [(0, .str t), (1, encSet l), (4, .str [])], []⟩) (fun t => t.length ≤ s.length ∧ dropEnd (inSet l) t = dropEnd (inSet l) s) (fun t => t.length) s ⟨by simp, rfl⟩ (weak_frL rfl rfl (by simp)) ?_
  intro t ⟨hts, ht⟩
  rcases List.eq_nil_or_concat t with rfl | ⟨u, c, rfl⟩
  · simp
    rw [← ht]
    exact finS_fz (by simp [dropEnd])
  · simp at hts
    simp only [List.concat_eq_append, dropEnd_concat] at ht
    have hw : IntKind.wrap .i64 (u.length : Int) = u.length := wrap_i64 (by omega) (by omega)
    have hpos : (0 : Int) < (u.length : Int) + 1 := by omega
    simp [hl, hw, hpos]
    refine br_bool (fun h => ?_) (fun h => ?_)
    · simp at h
      simp [h] at ht
      simp
      rw [← ht]
      exact finS_fz (by simp)
    · simp at h
      simp [h] at ht
      simp [hw]
      exact nextQ_of u ⟨by omega, ht⟩ (by simp) (weak_frL rfl rfl (by simp))

/-- the set of a text's bytes -/
def setOf (s : Str) : List Bool := (List.range 256).map fun i => s.any fun c => decide (c.toNat = i)
@[simp] theorem setOf_length (s : Str) : (setOf s).length = 256 := by simp [setOf]
theorem inSet_setOf (s : Str) (c : UInt8) : inSet (setOf s) c = s.contains c := by
  have hc := c.toNat_lt
  have : c.toNat < (List.range 256).length := by simp; omega
  simp only [inSet, setOf, List.getD_eq_getElem?_getD, List.getElem?_map, List.getElem?_range (show c.toNat < 256 by omega), Option.map_some, Option.getD_some, List.contains_eq_any_beq]
  congr 1
  funext d
  rw [Bool.eq_iff_iff]
  simp only [decide_eq_true_eq, beq_iff_eq]
  constructor
  · intro h; exact (UInt8.toNat_inj.1 h).symm
  · intro h; rw [h]
theorem setOf_snoc (s : Str) (c : UInt8) : splice ((setOf s).map encBool) c.toNat [.bool true] = (setOf (s ++ [c])).map encBool := by
  have hc := c.toNat_lt
  refine List.ext_getElem? fun i => ?_
  rw [splice_get _ _ _ _ (by simp; omega)]
  simp only [List.length_singleton, List.getElem?_map, setOf]
  rcases Nat.lt_or_ge i 256 with hi | hi
  · rw [List.getElem?_range hi]
    split
    · rename_i h
      have : i = c.toNat := by omega
      subst this
      simp
    · rename_i h
      have : c.toNat ≠ i := by omega
      simp [this]
  · rw [if_neg (by omega), List.getElem?_eq_none (by simpa using hi)]
    simp

/-- are all bytes of a text ASCII? -/
def Ascii (s : Str) : Prop := ∀ c ∈ s, c.toNat < 128
instance (s : Str) : Decidable (Ascii s) := by unfold Ascii; infer_instance
/-- a set, and a truth value -/
@[simp] def encSetB (x : List Bool × Bool) : AV := .tup [.agg (x.1.map encBool), .bool x.2]
theorem p_makeASCIISet : SoundP Tryd.prog gl 46 (fn1 cStr encSetB fun s => if s.length < 1099511627776 ∧ Ascii s then some (setOf s, true) else none) := by
  refine soundP_of_wk okX_nil mixed Tryd.func46 rfl rfl fun args r h G0 => ?_
  obtain ⟨s, e, rfl, he, rfl⟩ := fn1_inv h
  simp only [Option.ite_none_right_eq_some, Option.some.injEq] at he
  obtain ⟨⟨hs, hall⟩, rfl⟩ := he
  simp [Tryd.f46, entry]
  refine lp_of okX_nil mixed (fun (i : Nat) => ⟨21, frL [(0, .str s), (2, .ptr 0 0 0 0), (3, .bool false), (4, .int .i64 i)], [.row 256 0 0 [.agg ((setOf (s.take i)).map encBool)]]⟩) (fun i => i ≤ s.length) (fun i => s.length - i) 0 (by simp) (weak_frL rfl ?_ (by simp)) ?_
  · simp only [List.take_zero]
    congr 3
  · intro i hi
    simp
    refine br_dec (fun h3 => ?_) (fun h3 => ?_)
    · have hx : s[i]? = some s[i] := by simp [h3]
      have hlt := hall s[i] (List.getElem_mem h3)
      have h128 : ¬ (128 : Int) ≤ (s[i].toNat : Int) := by omega
      have h256 : (s[i].toNat : Int) < 256 := by omega
      have h257 : s[i].toNat + 1 ≤ 256 := by omega
      simp [hx, h128, h256, h257, wrap_i64 (show (-9223372036854775808 : Int) ≤ i + 1 by omega) (by omega)]
      refine nextQ_of (i + 1) h3 (by omega) (weak_frL rfl ?_ (by simp))
      simp only [List.take_succ_eq_append_getElem h3, ← setOf_snoc]
      simp
    · have hi' : i = s.length := by omega
      subst hi'
      have hd : List.drop 256 ((setOf s).map encBool) = [] := by simp
      simp [hd]
      exact finS_fz (by simp)

noncomputable abbrev E3b : Env := (47, liftS 9 (fn2 cStr cSet encStr fun s l => if l.length = 256 then some (s.dropWhile (inSet l)) else none)) :: (48, liftS 9 (fn2 cStr cSet encStr fun s l => if l.length = 256 ∧ s.length < 1099511627776 then some (dropEnd (inSet l) s) else none)) :: (46, liftS 9 (fn1 cStr encSetB fun s => if s.length < 1099511627776 ∧ Ascii s then some (setOf s, true) else none)) :: E3a
theorem ok3b : OkX Tryd.prog (XE E3b) := ((ok3a.addP p_makeASCIISet).addP p_trimRightASCII).addP p_trimLeftASCII

/-- strings.Trim, of a set of two bytes or more -/
def trimSet (cut s : Str) : Str := (dropEnd (inSet (setOf cut)) s).dropWhile (inSet (setOf cut))
theorem dropEnd_length (p : UInt8 → Bool) (s : Str) : (dropEnd p s).length ≤ s.length := by
  simp only [dropEnd, List.length_reverse]
  have := (List.dropWhile_sublist p (l := s.reverse)).length_le
  simpa using this
theorem p_Trim : SoundP Tryd.prog gl 35 (fn2 cStr cStr encStr fun s cut => if s.length < 1099511627776 ∧ cut.length < 1099511627776 ∧ 2 ≤ cut.length ∧ Ascii cut then some (trimSet cut s) else none) := by
  refine soundP_of_wk ok3b mixed Tryd.func35 rfl rfl fun args r h G0 => ?_
  obtain ⟨s, cut, e, rfl, he, rfl⟩ := fn2_inv h
  simp only [Option.ite_none_right_eq_some, Option.some.injEq] at he
  obtain ⟨⟨hs, hc, h2, hall⟩, rfl⟩ := he
  have hne : cut ≠ [] := by rintro rfl; simp at h2
  have h1 : ¬ (cut.length : Int) = 1 := by omega
  by_cases hsn : s = []
  · subst hsn
    simp [Tryd.f35, entry]
    exact finS_fz (by simp)
  · have hd : List.drop 256 ((setOf cut).map encBool) = [] := by simp
    have hde : (dropEnd (inSet (setOf cut)) s).length < 1099511627776 := Nat.lt_of_le_of_lt (dropEnd_length _ _) hs
    simp [Tryd.f35, entry, hsn, hne, h1, hc, hs, hall, hd, hde]
    exact finS_fz (by simp)

theorem p_trimLeftByte : SoundP Tryd.prog gl 44 (fn2 cStr cByte encStr fun s c => some (s.dropWhile (· == c))) := by
  refine soundP_of_wk okX_nil mixed Tryd.func44 rfl rfl fun args r h G0 => ?_
  obtain ⟨s, c, e, rfl, he, rfl⟩ := fn2_inv h
  cases he
  simp [Tryd.f44, entry]
  refine lp_of okX_nil mixed (fun (t : Str) => ⟨17, frL [(0, .str t), (1, .int .u8 c.toNat), (4, .str [])], []⟩) (fun t => t.dropWhile (· == c) = s.dropWhile (· == c)) (fun t => t.length) s rfl (weak_frL rfl rfl (by simp)) ?_
  intro t ht
  cases t with
  | nil =>
    simp
    rw [← ht]
    exact finS_fz (by simp)
  | cons d t =>
    by_cases hd : d = c
    · subst hd
      simp at ht
      simp
      exact nextQ_of t ht (by simp) (weak_frL rfl rfl (by simp))
    · have hd' : ¬ (d.toNat : Int) = (c.toNat : Int) := fun h => hd (UInt8.toNat_inj.1 (by omega))
      have : (d :: t).dropWhile (· == c) = d :: t := by simp [hd]
      rw [this] at ht
      simp [hd']
      rw [← ht]
      exact finS_fz (by simp)
noncomputable abbrev E3c : Env := [(44, liftS 9 (fn2 cStr cByte encStr fun s c => some (s.dropWhile (· == c))))]
theorem ok3c : OkX Tryd.prog (XE E3c) := okX_nil.addP p_trimLeftByte

/-- strings.TrimLeft, of one byte -/
def trimLeft1 (s cut : Str) : Option Str := match cut with
  | [c] => if c.toNat < 128 then some (s.dropWhile (· == c)) else none
  | _ => none
theorem p_TrimLeft : SoundP Tryd.prog gl 42 (fn2 cStr cStr encStr trimLeft1) := by
  refine soundP_of_wk ok3c mixed Tryd.func42 rfl rfl fun args r h G0 => ?_
  obtain ⟨s, cut, e, rfl, he, rfl⟩ := fn2_inv h
  unfold trimLeft1 at he
  split at he
  · rename_i c
    simp only [Option.ite_none_right_eq_some, Option.some.injEq] at he
    obtain ⟨hc, rfl⟩ := he
    have hc' : (c.toNat : Int) < 128 := by omega
    by_cases hsn : s = []
    · subst hsn
      simp [Tryd.f42, entry]
      exact finS_fz (by simp)
    · simp [Tryd.f42, entry, hsn, hc']
      exact finS_fz (by simp)
  · cases he
end Go.Proofs.YtbjgepnkakcjaaaDoor.Lift
