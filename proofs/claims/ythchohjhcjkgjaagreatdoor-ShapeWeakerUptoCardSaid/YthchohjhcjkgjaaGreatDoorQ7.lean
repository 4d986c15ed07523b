/-
  K3: contracts of the library's functions on texts: Trim, TrimLeft.
  K4: contracts of the two Class functions (is a text a class's name?).
  K5: contracts of larchref10.One and Parse, of kind's cut, of and Parse: what descriptor does a text begin with?
  K6: contracts of kind's cut, of and Parse: the same as the reference's.
  K7: contracts of kind's Wide, Print, Elem, array.
  K8: contracts of kind's Elem and Method.
  P1: THE POOL, plainly: which texts and entries are right, and what an entry means.
  K15: kind.up: the classes above one, yielded.
  K16: kind.Above: the names that kind.up yields, collected.
  K17: the reference's Above; SameTexts.
  K9: contract of larchlaw10.works: it is true.
  K10: larchlaw10.KindBack is true.
  K11: contract of kind's Elem.
-/
import Derived.Test.YthchohjhcjkgjaaGreatDoorQ6
namespace Go.Proofs.YthchohjhcjkgjaaGreatDoor.Lift
open Go
set_option maxRecDepth 100000

/-- a pointer to a set of bytes -/
@[simp] def encSet (l : List Bool) : AV := .rp (.agg (l.map encBool)) 0
@[simp] def decSet : AV → Option (List Bool)
  | .rp (.agg cs) 0 => mapO decBool cs
  | _ => none
theorem decSet_ed (v : AV) (l : List Bool) (h : decSet v = some l) : v = encSet l := by
  unfold decSet at h
  split at h
  · rw [encSet, ← mapO_inv (show ∀ v x, decBool v = some x → v = encBool x from cBool.ed) _ _ h]
  · cases h
def cSet : Cod (List Bool) := ⟨encSet, decSet, fun l => by simp, decSet_ed, fun l => by simp⟩
@[simp] theorem cSet_dec : cSet.dec = decSet := rfl
@[simp] theorem cSet_enc : cSet.enc = encSet := rfl

/-- is a byte in a set? -/
def inSet (l : List Bool) (c : UInt8) : Bool := l.getD c.toNat false

theorem p_contains : SoundP Tryz.prog gl 245 (fn2 cSet cByte encBool fun l c => if l.length = 256 then some (inSet l c) else none) := by
  refine soundP_of_wk okX_nil mixed Tryz.func245 rfl rfl fun args r h G0 => ?_
  obtain ⟨l, c, e, rfl, he, rfl⟩ := fn2_inv h
  simp only [Option.ite_none_right_eq_some, Option.some.injEq] at he
  obtain ⟨hl, rfl⟩ := he
  have hc : (c.toNat : Int) < 256 := by have := c.toNat_lt; omega
  have hx : l[c.toNat]? = some (inSet l c) := by
    have : c.toNat < l.length := by omega
    simp [inSet, this]
  simp [Tryz.f245, entry, hc, hx]
  exact finS_fz (by simp)
noncomputable abbrev E3a : Env := [(245, liftS 9 (fn2 cSet cByte encBool fun l c => if l.length = 256 then some (inSet l c) else none))]
theorem ok3a : OkX Tryz.prog (XE E3a) := okX_nil.addP p_contains

theorem p_trimLeftASCII : SoundP Tryz.prog gl 216 (fn2 cStr cSet encStr fun s l => if l.length = 256 then some (s.dropWhile (inSet l)) else none) := by
  refine soundP_of_wk ok3a mixed Tryz.func216 rfl rfl fun args r h G0 => ?_
  obtain ⟨s, l, e, rfl, he, rfl⟩ := fn2_inv h
  simp only [Option.ite_none_right_eq_some, Option.some.injEq] at he
  obtain ⟨hl, rfl⟩ := he
  simp [Tryz.f216, entry]
  refine lp_of ok3a mixed (fun (t : Str) => ⟨16, frL [(0, .str t), (1, encSet l), (4, .str [])], []⟩) (fun t => t.dropWhile (inSet l) = s.dropWhile (inSet l)) (fun t => t.length) s rfl (weak_frL rfl rfl (by simp)) ?_
  intro t ht
  cases t with
  | nil =>
    simp
    rw [← ht]
    exact finS_fz (by simp)
  | cons c t =>
    simp [hl]
    refine br_bool (fun h => ?_) (fun h => ?_)
    · simp at h
      simp [h] at ht
      simp
      rw [← ht]
      exact finS_fz (by simp)
    · simp at h
      simp [h] at ht
      simp
      exact nextQ_of t ht (by simp) (weak_frL rfl rfl (by simp))

/-- a text without the bytes of a set at its end -/
def dropEnd (p : UInt8 → Bool) (s : Str) : Str := (s.reverse.dropWhile p).reverse
theorem dropEnd_concat (p : UInt8 → Bool) (s : Str) (c : UInt8) : dropEnd p (s ++ [c]) = if p c then dropEnd p s else s ++ [c] := by
  simp [dropEnd, List.dropWhile_cons]
  split <;> simp

theorem p_trimRightASCII : SoundP Tryz.prog gl 249 (fn2 cStr cSet encStr fun s l => if l.length = 256 ∧ s.length < 1099511627776 then some (dropEnd (inSet l) s) else none) := by
  refine soundP_of_wk ok3a mixed Tryz.func249 rfl rfl fun args r h G0 => ?_
  obtain ⟨s, l, e, rfl, he, rfl⟩ := fn2_inv h
  simp only [Option.ite_none_right_eq_some, Option.some.injEq] at he
  obtain ⟨⟨hl, hs⟩, rfl⟩ := he
  simp [Tryz.f249, entry]
  refine lp_of ok3a mixed (fun (t : Str) => ⟨22, frL [(0, .str t), (1, encSet l), (4, .str [])], []⟩) (fun t => t.length ≤ s.length ∧ dropEnd (inSet l) t = dropEnd (inSet l) s) (fun t => t.length) s ⟨by simp, rfl⟩ (weak_frL rfl rfl (by simp)) ?_
  intro t ⟨hts, ht⟩
  rcases List.eq_nil_or_concat t with rfl | ⟨u, c, rfl⟩
  · simp
    rw [← ht]
    exact finS_fz (by simp [dropEnd])
  · simp at hts
    simp only [List.concat_eq_append, dropEnd_concat] at ht
    have hw : IntKind.wrap .i64 (u.length : Int) = u.length := wrap_i64 (by omega) (by omega)
    have hpos : (0 : Int) < (u.length : Int) + 1 := by omega
    simp [hl, hw, hpos]
    refine br_bool (fun h => ?_) (fun h => ?_)
    · simp at h
      simp [h] at ht
      simp
      rw [← ht]
      exact finS_fz (by simp)
    · simp at h
      simp [h] at ht
      simp [hw]
      exact nextQ_of u ⟨by omega, ht⟩ (by simp) (weak_frL rfl rfl (by simp))

/-- the set of a text's bytes -/
def setOf (s : Str) : List Bool := (List.range 256).map fun i => s.any fun c => decide (c.toNat = i)
@[simp] theorem setOf_length (s : Str) : (setOf s).length = 256 := by simp [setOf]
theorem inSet_setOf (s : Str) (c : UInt8) : inSet (setOf s) c = s.contains c := by
  have hc := c.toNat_lt
  have : c.toNat < (List.range 256).length := by simp; omega
  simp only [inSet, setOf, List.getD_eq_getElem?_getD, List.getElem?_map, List.getElem?_range (show c.toNat < 256 by omega), Option.map_some, Option.getD_some, List.contains_eq_any_beq]
  congr 1
  funext d
  rw [Bool.eq_iff_iff]
  simp only [decide_eq_true_eq, beq_iff_eq]
  constructor
  · intro h; exact (UInt8.toNat_inj.1 h).symm
  · intro h; rw [h]
theorem setOf_snoc (s : Str) (c : UInt8) : splice ((setOf s).map encBool) c.toNat [.bool true] = (setOf (s ++ [c])).map encBool := by
  have hc := c.toNat_lt
  refine List.ext_getElem? fun i => ?_
  rw [splice_get _ _ _ _ (by simp; omega)]
  simp only [List.length_singleton, List.getElem?_map, setOf]
  rcases Nat.lt_or_ge i 256 with hi | hi
  · rw [List.getElem?_range hi]
    split
    · rename_i h
      have : i = c.toNat := by omega
      subst this
      simp
    · rename_i h
      have : c.toNat ≠ i := by omega
      simp [this]
  · rw [if_neg (by omega), List.getElem?_eq_none (by simpa using hi)]
    simp

/-- are all bytes of a text ASCII? -/
def Ascii (s : Str) : Prop := ∀ c ∈ s, c.toNat < 128
instance (s : Str) : Decidable (Ascii s) := by unfold Ascii; infer_instance
/-- a set, and a truth value -/
@[simp] def encSetB (x : List Bool × Bool) : AV := .tup [.agg (x.1.map encBool), .bool x.2]
theorem p_makeASCIISet : SoundP Tryz.prog gl 215 (fn1 cStr encSetB fun s => if s.length < 1099511627776 ∧ Ascii s then some (setOf s, true) else none) := by
  refine soundP_of_wk okX_nil mixed Tryz.func215 rfl rfl fun args r h G0 => ?_
  obtain ⟨s, e, rfl, he, rfl⟩ := fn1_inv h
  simp only [Option.ite_none_right_eq_some, Option.some.injEq] at he
  obtain ⟨⟨hs, hall⟩, rfl⟩ := he
  simp [Tryz.f215, entry]
  refine lp_of okX_nil mixed (fun (i : Nat) => ⟨21, frL [(0, .str s), (2, .ptr 0 0 0 0), (3, .bool false), (4, .int .i64 i)], [.row 256 0 0 [.agg ((setOf (s.take i)).map encBool)]]⟩) (fun i => i ≤ s.length) (fun i => s.length - i) 0 (by simp) (weak_frL rfl ?_ (by simp)) ?_
  · simp only [List.take_zero]
    congr 3
  · intro i hi
    simp
    refine br_dec (fun h3 => ?_) (fun h3 => ?_)
    · have hx : s[i]? = some s[i] := by simp [h3]
      have hlt := hall s[i] (List.getElem_mem h3)
      have h128 : ¬ (128 : Int) ≤ (s[i].toNat : Int) := by omega
      have h256 : (s[i].toNat : Int) < 256 := by omega
      have h257 : s[i].toNat + 1 ≤ 256 := by omega
      simp [hx, h128, h256, h257, wrap_i64 (show (-9223372036854775808 : Int) ≤ i + 1 by omega) (by omega)]
      refine nextQ_of (i + 1) h3 (by omega) (weak_frL rfl ?_ (by simp))
      simp only [List.take_succ_eq_append_getElem h3, ← setOf_snoc]
      simp
    · have hi' : i = s.length := by omega
      subst hi'
      have hd : List.drop 256 ((setOf s).map encBool) = [] := by simp
      simp [hd]
      exact finS_fz (by simp)

noncomputable abbrev E3b : Env := (216, liftS 9 (fn2 cStr cSet encStr fun s l => if l.length = 256 then some (s.dropWhile (inSet l)) else none)) :: (249, liftS 9 (fn2 cStr cSet encStr fun s l => if l.length = 256 ∧ s.length < 1099511627776 then some (dropEnd (inSet l) s) else none)) :: (215, liftS 9 (fn1 cStr encSetB fun s => if s.length < 1099511627776 ∧ Ascii s then some (setOf s, true) else none)) :: E3a
theorem ok3b : OkX Tryz.prog (XE E3b) := ((ok3a.addP p_makeASCIISet).addP p_trimRightASCII).addP p_trimLeftASCII

/-- strings.Trim, of a set of two bytes or more -/
def trimSet (cut s : Str) : Str := (dropEnd (inSet (setOf cut)) s).dropWhile (inSet (setOf cut))
theorem dropEnd_length (p : UInt8 → Bool) (s : Str) : (dropEnd p s).length ≤ s.length := by
  simp only [dropEnd, List.length_reverse]
  have := (List.dropWhile_sublist p (l := s.reverse)).length_le
  simpa using this
theorem p_Trim : SoundP Tryz.prog gl 218 (fn2 cStr cStr encStr fun s cut => if s.length < 1099511627776 ∧ cut.length < 1099511627776 ∧ 2 ≤ cut.length ∧ Ascii cut then some (trimSet cut s) else none) := by
  refine soundP_of_wk ok3b mixed Tryz.func218 rfl rfl fun args r h G0 => ?_
  obtain ⟨s, cut, e, rfl, he, rfl⟩ := fn2_inv h
  simp only [Option.ite_none_right_eq_some, Option.some.injEq] at he
  obtain ⟨⟨hs, hc, h2, hall⟩, rfl⟩ := he
  have hne : cut ≠ [] := by rintro rfl; simp at h2
  have h1 : ¬ (cut.length : Int) = 1 := by omega
  by_cases hsn : s = []
  · subst hsn
    simp [Tryz.f218, entry]
    exact finS_fz (by simp)
  · have hd : List.drop 256 ((setOf cut).map encBool) = [] := by simp
    have hde : (dropEnd (inSet (setOf cut)) s).length < 1099511627776 := Nat.lt_of_le_of_lt (dropEnd_length _ _) hs
    simp [Tryz.f218, entry, hsn, hne, h1, hc, hs, hall, hd, hde]
    exact finS_fz (by simp)

theorem p_trimLeftByte : SoundP Tryz.prog gl 214 (fn2 cStr cByte encStr fun s c => some (s.dropWhile (· == c))) := by
  refine soundP_of_wk okX_nil mixed Tryz.func214 rfl rfl fun args r h G0 => ?_
  obtain ⟨s, c, e, rfl, he, rfl⟩ := fn2_inv h
  cases he
  simp [Tryz.f214, entry]
  refine lp_of okX_nil mixed (fun (t : Str) => ⟨17, frL [(0, .str t), (1, .int .u8 c.toNat), (4, .str [])], []⟩) (fun t => t.dropWhile (· == c) = s.dropWhile (· == c)) (fun t => t.length) s rfl (weak_frL rfl rfl (by simp)) ?_
  intro t ht
  cases t with
  | nil =>
    simp
    rw [← ht]
    exact finS_fz (by simp)
  | cons d t =>
    by_cases hd : d = c
    · subst hd
      simp at ht
      simp
      exact nextQ_of t ht (by simp) (weak_frL rfl rfl (by simp))
    · have hd' : ¬ (d.toNat : Int) = (c.toNat : Int) := fun h => hd (UInt8.toNat_inj.1 (by omega))
      have : (d :: t).dropWhile (· == c) = d :: t := by simp [hd]
      rw [this] at ht
      simp [hd']
      rw [← ht]
      exact finS_fz (by simp)
noncomputable abbrev E3c : Env := [(214, liftS 9 (fn2 cStr cByte encStr fun s c => some (s.dropWhile (· == c))))]
theorem ok3c : OkX Tryz.prog (XE E3c) := okX_nil.addP p_trimLeftByte

/-- strings.TrimLeft, of one byte -/
def trimLeft1 (s cut : Str) : Option Str := match cut with
  | [c] => if c.toNat < 128 then some (s.dropWhile (· == c)) else none
  | _ => none
theorem p_TrimLeft : SoundP Tryz.prog gl 189 (fn2 cStr cStr encStr trimLeft1) := by
  refine soundP_of_wk ok3c mixed Tryz.func189 rfl rfl fun args r h G0 => ?_
  obtain ⟨s, cut, e, rfl, he, rfl⟩ := fn2_inv h
  unfold trimLeft1 at he
  split at he
  · rename_i c
    simp only [Option.ite_none_right_eq_some, Option.some.injEq] at he
    obtain ⟨hc, rfl⟩ := he
    have hc' : (c.toNat : Int) < 128 := by omega
    by_cases hsn : s = []
    · subst hsn
      simp [Tryz.f189, entry]
      exact finS_fz (by simp)
    · simp [Tryz.f189, entry, hsn, hc']
      exact finS_fz (by simp)
  · cases he
end Go.Proofs.YthchohjhcjkgjaaGreatDoor.Lift
namespace Go.Proofs.YthchohjhcjkgjaaGreatDoor.Lift
open Go
set_option maxRecDepth 100000

/-- a letter -/
def isLetter (c : UInt8) : Bool := (decide (97 ≤ c.toNat) && decide (c.toNat ≤ 122)) || (decide (65 ≤ c.toNat) && decide (c.toNat ≤ 90))
theorem p_letter : SoundP Tryz.prog gl 167 (fn1 cByte encBool fun c => some (isLetter c)) := by
  refine soundP_of_wk okX_nil mixed Tryz.func167 rfl rfl fun args r h G0 => ?_
  obtain ⟨c, e, rfl, he, rfl⟩ := fn1_inv h
  cases he
  have e1 : (97 ≤ (c.toNat : Int)) = (97 ≤ c.toNat) := by simp; omega
  have e2 : ((c.toNat : Int) ≤ 122) = (c.toNat ≤ 122) := by simp; omega
  have e3 : (65 ≤ (c.toNat : Int)) = (65 ≤ c.toNat) := by simp; omega
  have e4 : ((c.toNat : Int) ≤ 90) = (c.toNat ≤ 90) := by simp; omega
  by_cases h1 : 97 ≤ c.toNat
  · by_cases h2 : c.toNat ≤ 122
    · simp [Tryz.f167, entry, isLetter, e1, e2, e3, e4, h1, h2]
      exact finS_fz (by simp)
    · have h3 : 65 ≤ c.toNat := by omega
      simp [Tryz.f167, entry, isLetter, e1, e2, e3, e4, h1, h2, h3]
      exact finS_fz (by simp)
  · by_cases h3 : 65 ≤ c.toNat
    · simp [Tryz.f167, entry, isLetter, e1, e2, e3, e4, h1, h3]
      exact finS_fz (by simp)
    · simp [Tryz.f167, entry, isLetter, e1, e2, e3, e4, h1, h3]
      exact finS_fz (by simp)
noncomputable abbrev E4a : Env := [(167, liftS 9 (fn1 cByte encBool fun c => some (isLetter c)))]
theorem ok4a : OkX Tryz.prog (XE E4a) := okX_nil.addP p_letter

/-- not a letter, but of a class's name behind the first byte -/
def isMore (c : UInt8) : Bool := (decide (48 ≤ c.toNat) && decide (c.toNat ≤ 57)) || decide (c.toNat = 95) || decide (c.toNat = 36) || decide (c.toNat = 47)
/-- may a byte stand at a place of a class's name? -/
def okAt (i : Nat) (c : UInt8) : Bool := isLetter c || (decide (i ≠ 0) && isMore c)
/-- a class's name -/
def allAt : Nat → Str → Bool
  | _, [] => true
  | i, c :: r => okAt i c && allAt (i + 1) r
def isClass (s : Str) : Bool := allAt 0 s && (decide (1 ≤ s.length) && decide (s.length ≤ 60))
theorem allAt_iff : ∀ (s : Str) (k : Nat), allAt k s = true ↔ ∀ (i : Nat) c, s[i]? = some c → okAt (k + i) c = true
  | [], k => by simp [allAt]
  | c :: s, k => by
    simp only [allAt, Bool.and_eq_true, allAt_iff s (k + 1)]
    constructor
    · rintro ⟨h1, h2⟩ i d hd
      cases i with
      | zero => simp at hd; subst hd; exact h1
      | succ i => simp at hd; have := h2 i d hd; rwa [show k + 1 + i = k + (i + 1) by omega] at this
    · intro h
      exact ⟨h 0 c rfl, fun i d hd => by have := h (i + 1) d (by simpa using hd); rwa [show k + (i + 1) = k + 1 + i by omega] at this⟩

theorem p_refClass : SoundP Tryz.prog gl 107 (fn1 cStr encBool fun s => if s.length < 1099511627776 then some (isClass s) else none) := by
  refine soundP_of_wk ok4a mixed Tryz.func107 rfl rfl fun args r h G0 => ?_
  obtain ⟨s, e, rfl, he, rfl⟩ := fn1_inv h
  simp only [Option.ite_none_right_eq_some, Option.some.injEq] at he
  obtain ⟨hs, rfl⟩ := he
  simp [Tryz.f107, entry]
  refine lp_of ok4a mixed (fun (i : Nat) => ⟨49, frL [(0, .str s), (2, .bool false), (3, .int .i64 i)], []⟩) (fun i => i ≤ s.length ∧ ∀ (j : Nat) c, j < i → s[j]? = some c → okAt j c = true) (fun i => s.length - i) 0 (by simp) (weak_frL rfl rfl (by simp)) ?_
  intro i ⟨hi, hall⟩
  simp
  refine br_dec (fun h3 => ?_) (fun h3 => ?_)
  · have hx : s[i]? = some s[i] := by simp [h3]
    have stay : okAt i s[i] = true → ∀ st, st.n = 49 → st.st = [] → st.fr 0 = .str s → st.fr 2 = .bool false → st.fr 3 = .int .i64 ((i : Int) + 1) → nextQ (XE E4a) G0.1 (fun (i : Nat) => (⟨49, frL [(0, .str s), (2, .bool false), (3, .int .i64 i)], []⟩ : ASt)) (fun i => i ≤ s.length ∧ ∀ (j : Nat) c, j < i → s[j]? = some c → okAt j c = true) (fun i => s.length - i) i st := fun hk st h1 h2 h3' h4 h5 => by
      refine nextQ_of (i + 1) ⟨h3, fun j c hj hc => ?_⟩ (by omega) (weak_frL h1 h2 (by simp [h3', h4, h5]))
      rcases Nat.lt_or_ge j i with hj' | hj'
      · exact hall j c hj' hc
      · have : j = i := by omega
        subst this
        rw [hx] at hc
        cases hc
        exact hk
    have stop : okAt i s[i] = false → isClass s = false := fun hk => by
      have : allAt 0 s = false := by
        cases hq : allAt 0 s with
        | false => rfl
        | true =>
          have := (allAt_iff s 0).1 hq i s[i] hx
          rw [Nat.zero_add, hk] at this
          cases this
      simp [isClass, this]
    have hw := wrap_i64 (show (-9223372036854775808 : Int) ≤ i + 1 by omega) (by omega)
    generalize hc : s[i] = c at stay stop hx
    have e1 : ((c.toNat : Int) < 48) = (c.toNat < 48) := by simp; omega
    have e2 : (57 < (c.toNat : Int)) = (57 < c.toNat) := by simp; omega
    have e3 : ((c.toNat : Int) = 95) = (c.toNat = 95) := by simp; omega
    have e4 : ((c.toNat : Int) = 36) = (c.toNat = 36) := by simp; omega
    have e5 : ((c.toNat : Int) = 47) = (c.toNat = 47) := by simp; omega
    have e0 : ((i : Int) = 0) = (i = 0) := by simp
    have go : ∀ b, okAt i c = b → True := fun _ _ => trivial
    by_cases hl : isLetter c = true
    · have hk : okAt i c = true := by simp [okAt, hl]
      simp [hx, hl]
      exact stay hk _ rfl rfl (by simp) (by simp) (by simp [hw])
    · by_cases h0 : i = 0
      · have hk : okAt i c = false := by simp [okAt, hl, h0]
        subst h0
        simp [hx, hl, stop hk]
        exact finS_fz (by simp)
      · have bad : isMore c = false → okAt i c = false := fun h => by simp [okAt, hl, h]
        have good : isMore c = true → okAt i c = true := fun h => by simp [okAt, h0, h]
        have fin : ¬ (48 ≤ c.toNat ∧ c.toNat ≤ 57) → ¬ c.toNat = 95 → ¬ c.toNat = 36 → ¬ c.toNat = 47 → isClass s = false := fun h1 h2 h3 h4 => stop (bad (by simp [isMore, h2, h3, h4]; omega))
        by_cases hd : 48 ≤ c.toNat ∧ c.toNat ≤ 57
        · have g1 : ¬ c.toNat < 48 := by omega
          have g2 : ¬ 57 < c.toNat := by omega
          simp [hx, hl, h0, e1, e2, g1, g2]
          exact stay (good (by simp [isMore, hd])) _ rfl rfl (by simp) (by simp) (by simp [hw])
        · by_cases g1 : c.toNat < 48
          · have g3 : ¬ c.toNat = 95 := by omega
            by_cases g4 : c.toNat = 36
            · have q : ((c.toNat : Int) = 36) = True := by simp; omega
              simp [hx, hl, h0, e1, g1, e3, g3, q]
              exact stay (good (by simp [isMore, g4])) _ rfl rfl (by simp) (by simp) (by simp [hw])
            · by_cases g5 : c.toNat = 47
              · have q : ((c.toNat : Int) = 47) = True := by simp; omega
                simp [hx, hl, h0, e1, g1, e3, g3, e4, g4, q]
                exact stay (good (by simp [isMore, g5])) _ rfl rfl (by simp) (by simp) (by simp [hw])
              · simp [hx, hl, h0, e1, g1, e3, g3, e4, g4, e5, g5, fin hd g3 g4 g5]
                exact finS_fz (by simp)
          · have g2 : 57 < c.toNat := by omega
            have g4 : ¬ c.toNat = 36 := by omega
            have g5 : ¬ c.toNat = 47 := by omega
            by_cases g3 : c.toNat = 95
            · have q : ((c.toNat : Int) = 95) = True := by simp; omega
              simp [hx, hl, h0, e1, g1, e2, g2, q]
              exact stay (good (by simp [isMore, g3])) _ rfl rfl (by simp) (by simp) (by simp [hw])
            · simp [hx, hl, h0, e1, g1, e2, g2, e3, g3, e4, g4, e5, g5, fin hd g3 g4 g5]
              exact finS_fz (by simp)
  · have hi' : i = s.length := by omega
    have hq : allAt 0 s = true := (allAt_iff s 0).2 fun j c hc => by
      rw [Nat.zero_add]
      exact hall j c (by have := (List.getElem?_eq_some_iff.1 hc).1; omega) hc
    have e1 : (1 ≤ (s.length : Int)) = (1 ≤ s.length) := by simp; omega
    have e2 : ((s.length : Int) ≤ 60) = (s.length ≤ 60) := by simp; omega
    by_cases h1 : 1 ≤ s.length
    · simp [isClass, hq, e1, e2, h1]
      exact finS_fz (by simp)
    · simp [isClass, hq, e1, e2, h1]
      exact finS_fz (by simp)

theorem dropWhile_nil (p : UInt8 → Bool) : ∀ l : Str, l.dropWhile p = [] ↔ ∀ c ∈ l, p c = true
  | [] => by simp
  | c :: l => by
    cases h : p c with
    | true => simp [h, dropWhile_nil p l]
    | false => simp [h]
theorem dropEnd_all (p : UInt8 → Bool) (s : Str) : (∀ c ∈ dropEnd p s, p c = true) ↔ ∀ c ∈ s, p c = true := by
  constructor
  · intro h
    simp only [dropEnd, List.mem_reverse] at h
    have : s.reverse.dropWhile p = [] := by
      cases hq : s.reverse.dropWhile p with
      | nil => rfl
      | cons a l =>
        have h1 := h a (by rw [hq]; simp)
        have h2 := List.head?_dropWhile_not p s.reverse
        rw [hq] at h2
        simp at h2
        rw [h1] at h2
        cases h2
    rw [dropWhile_nil] at this
    exact fun c hc => this c (by simpa using hc)
  · intro h c hc
    simp only [dropEnd, List.mem_reverse] at hc
    exact h c (by simpa using (List.dropWhile_sublist p).mem hc)
theorem trimSet_nil (cut s : Str) : trimSet cut s = [] ↔ ∀ c ∈ s, c ∈ cut := by
  rw [trimSet, dropWhile_nil, dropEnd_all]
  simp only [inSet_setOf, List.contains_iff_mem]
theorem indexByte_mem (l : Str) (c : UInt8) : 0 ≤ Lib.indexByte l c ↔ c ∈ l := by
  induction l with
  | nil => simp [Lib.indexByte]
  | cons b l ih =>
    unfold Lib.indexByte
    split
    · rename_i h
      simp at h
      simp [h]
    · rename_i h
      have h' : c ≠ b := fun e => h (by simp [e])
      have ge := Lib.indexByte_ge l c
      split
      · rename_i h2
        have : ¬ 0 ≤ Lib.indexByte l c := by
          have : Lib.indexByte l c = -1 := by simpa using h2
          omega
        rw [ih] at this
        simp [h', this]
      · rename_i h2
        have h2' : ¬ Lib.indexByte l c = -1 := by simpa using h2
        have : 0 ≤ Lib.indexByte l c := by omega
        simp only [List.mem_cons, h', false_or, ← ih, this, iff_true]
        omega

/-- the letters -/
def letters : Str := [97, 98, 99, 100, 101, 102, 103, 104, 105, 106, 107, 108, 109, 110, 111, 112, 113, 114, 115, 116, 117, 118, 119, 120, 121, 122, 65, 66, 67, 68, 69, 70, 71, 72, 73, 74, 75, 76, 77, 78, 79, 80, 81, 82, 83, 84, 85, 86, 87, 88, 89, 90]
def others : Str := [48, 49, 50, 51, 52, 53, 54, 55, 56, 57, 95, 36, 47]
def nameBytes : Str := [97, 98, 99, 100, 101, 102, 103, 104, 105, 106, 107, 108, 109, 110, 111, 112, 113, 114, 115, 116, 117, 118, 119, 120, 121, 122, 65, 66, 67, 68, 69, 70, 71, 72, 73, 74, 75, 76, 77, 78, 79, 80, 81, 82, 83, 84, 85, 86, 87, 88, 89, 90, 48, 49, 50, 51, 52, 53, 54, 55, 56, 57, 95, 36, 47]
theorem fold_letters : ([97, 98, 99, 100, 101, 102, 103, 104, 105, 106, 107, 108, 109, 110, 111, 112, 113, 114, 115, 116, 117, 118, 119, 120, 121, 122, 65, 66, 67, 68, 69, 70, 71, 72, 73, 74, 75, 76, 77, 78, 79, 80, 81, 82, 83, 84, 85, 86, 87, 88, 89, 90] : List UInt8) = letters := rfl
theorem fold_name : ([97, 98, 99, 100, 101, 102, 103, 104, 105, 106, 107, 108, 109, 110, 111, 112, 113, 114, 115, 116, 117, 118, 119, 120, 121, 122, 65, 66, 67, 68, 69, 70, 71, 72, 73, 74, 75, 76, 77, 78, 79, 80, 81, 82, 83, 84, 85, 86, 87, 88, 89, 90, 48, 49, 50, 51, 52, 53, 54, 55, 56, 57, 95, 36, 47] : List UInt8) = nameBytes := rfl
theorem nameBytes_eq : nameBytes = letters ++ others := rfl
theorem of_bytes {p : UInt8 → Prop} (h : ∀ n : Nat, n < 256 → p (UInt8.ofNat n)) (c : UInt8) : p c := by
  have := h c.toNat c.toNat_lt
  simpa using this
theorem isLetter_iff (c : UInt8) : isLetter c = true ↔ c ∈ letters := of_bytes (p := fun c => isLetter c = true ↔ c ∈ letters) (by decide +kernel) c
theorem isMore_iff (c : UInt8) : isMore c = true ↔ c ∈ others := of_bytes (p := fun c => isMore c = true ↔ c ∈ others) (by decide +kernel) c

theorem p_kindClass : SoundP Tryz.prog gl 191 (fn1 cStr encBool fun s => if s.length < 1099511627776 then some (isClass s) else none) := by
  refine soundP_of_wk (((okX_nil.addP p_IndexByte)).addP p_Trim) mixed Tryz.func191 rfl rfl fun args r h G0 => ?_
  obtain ⟨s, e, rfl, he, rfl⟩ := fn1_inv h
  simp only [Option.ite_none_right_eq_some, Option.some.injEq] at he
  obtain ⟨hs, rfl⟩ := he
  cases s with
  | nil =>
    simp [Tryz.f191, entry, isClass]
    exact finS_fz (by simp)
  | cons c t =>
    have hA : Ascii nameBytes := by decide
    have hB : nameBytes.length = 65 := rfl
    have hsn := hs
    simp at hs
    by_cases h60 : ((t.length : Int) + 1 ≤ 60)
    · by_cases ht : trimSet nameBytes (c :: t) = []
      · have hall := (trimSet_nil _ _).1 ht
        have : isClass (c :: t) = decide (0 ≤ Lib.indexByte letters c) := by
          have h1 : allAt 1 t = true := (allAt_iff t 1).2 fun i d hd => by
            have := hall d (by simp [List.mem_of_getElem? hd])
            rw [nameBytes_eq, List.mem_append, ← isLetter_iff, ← isMore_iff] at this
            simp only [okAt, Bool.or_eq_true, Bool.and_eq_true, decide_eq_true_eq]
            rcases this with h | h
            · exact .inl h
            · exact .inr ⟨by omega, h⟩
          have h2 : isLetter c = decide (0 ≤ Lib.indexByte letters c) := by
            rw [Bool.eq_iff_iff, isLetter_iff, decide_eq_true_eq, indexByte_mem]
          simp [isClass, allAt, h1, okAt, h2]
          omega
        simp [Tryz.f191, entry, h60, hs, fold_letters, fold_name, hA, hB, ht, this]
        exact finS_fz (by simp)
      · have : isClass (c :: t) = false := by
          cases hq : allAt 0 (c :: t) with
          | false => simp [isClass, hq]
          | true =>
            exfalso
            refine ht ((trimSet_nil _ _).2 fun d hd => ?_)
            obtain ⟨i, hi⟩ := List.mem_iff_getElem?.1 hd
            have := (allAt_iff _ 0).1 hq i d hi
            rw [nameBytes_eq, List.mem_append, ← isLetter_iff, ← isMore_iff]
            simp only [okAt, Bool.or_eq_true, Bool.and_eq_true] at this
            rcases this with h | h
            · exact .inl h
            · exact .inr h.2
        simp [Tryz.f191, entry, h60, hs, fold_letters, fold_name, hA, hB, ht, this]
        exact finS_fz (by simp)
    · have : isClass (c :: t) = false := by
        simp [isClass]
        omega
      simp [Tryz.f191, entry, h60, this]
      exact finS_fz (by simp)
end Go.Proofs.YthchohjhcjkgjaaGreatDoor.Lift
namespace Go.Proofs.YthchohjhcjkgjaaGreatDoor.Lift
open Go
set_option maxRecDepth 100000

/-- a recursive function: from the contract on what is smaller to that on what is a little larger -/
theorem soundP_rec {f : Nat} {g : List AV → Option AV} (G : Nat → List AV → Option AV) (h0 : ∀ args, G 0 args = none) (hs : ∀ k, SoundP Tryz.prog gl f (G k) → SoundP Tryz.prog gl f (G (k + 1))) (hc : ∀ args r, g args = some r → ∃ k, G k args = some r) : SoundP Tryz.prog gl f g where
  calls := fun H args vals r hr => by
    obtain ⟨k, hk⟩ := hc args r hr
    have : ∀ k, SoundP Tryz.prog gl f (G k) := fun k => by
      induction k with
      | zero => exact ⟨fun H args vals r h => by rw [h0] at h; cases h⟩
      | succ k ih => exact hs k ih
    exact (this k).calls H args vals r hk

/-- where does the class's name behind an L end? -/
def refLen (r : Str) : Nat := if 0 ≤ Lib.indexByte r 59 ∧ isClass (r.take (Lib.indexByte r 59).toNat) = true then (Lib.indexByte r 59).toNat + 2 else 0
/-- how long is the descriptor that a text begins with (a: how many [ were ahead)? 0: there is none -/
def descLen : Str → Nat → Nat
  | [], _ => 0
  | c :: r, a => if 8 < a then 0 else if c = 73 ∨ c = 74 then 1 else if c = 76 then refLen r else if c = 91 then (if r.head? = some 66 ∧ a < 8 then 2 else if descLen r (a + 1) = 0 then 0 else descLen r (a + 1) + 1) else 0
/-- a descriptor's type -/
def tyOf : Str → ATy
  | [] => ⟨4, []⟩
  | c :: r => if c = 73 then ⟨1, []⟩ else if c = 74 then ⟨2, []⟩ else if c = 76 then ⟨4, r.dropLast⟩ else ⟨4, c :: r⟩

theorem indexByte_lt (r : Str) (c : UInt8) : Lib.indexByte r c < r.length ∨ Lib.indexByte r c = -1 := by
  induction r with
  | nil => exact .inr rfl
  | cons b r ih =>
    simp only [Lib.indexByte, List.length_cons]
    split
    · left; omega
    · split
      · exact .inr rfl
      · rename_i h
        have : ¬ Lib.indexByte r c = -1 := by simpa using h
        left; omega
theorem refLen_le (r : Str) : refLen r ≤ r.length + 1 := by
  unfold refLen
  split
  · have := indexByte_lt r 59; omega
  · omega
theorem descLen_le : ∀ (s : Str) (a : Nat), descLen s a ≤ s.length
  | [], _ => by simp [descLen]
  | c :: r, a => by
    have h1 := refLen_le r
    have h2 := descLen_le r (a + 1)
    simp only [descLen, List.length_cons]
    split
    · omega
    · split
      · omega
      · split
        · omega
        · split
          · split
            · rename_i h
              cases r with
              | nil => simp at h
              | cons d r => simp
            · split <;> omega
          · omega
theorem indexByte_first {c : UInt8} : ∀ {r : Str} {j : Nat}, r[j]? = some c → (∀ i, i < j → r[i]? ≠ some c) → Lib.indexByte r c = j
  | [], j, h, _ => by simp at h
  | b :: r, 0, h, _ => by simp at h; simp [Lib.indexByte, h]
  | b :: r, j + 1, h, hn => by
    have h0 : b ≠ c := fun e => hn 0 (by omega) (by simp [e])
    have ih := indexByte_first (r := r) (j := j) (by simpa using h) (fun i hi => by simpa using hn (i + 1) (by omega))
    simp only [Lib.indexByte, beq_iff_eq, h0, if_false, ih]
    rw [if_neg (by omega)]
    omega

@[simp] def encTyInt (x : ATy × Int) : AV := .tup [encTy x.1, .int .i64 x.2]
def oneRes (s : Str) (a : Nat) : ATy × Int := if descLen s a = 0 then (⟨0, []⟩, 0) else (tyOf (s.take (descLen s a)), descLen s a)
def gOne (k : Nat) (s : Str) (a : Int) : Option (ATy × Int) := if s.length < k ∧ s.length < 1099511627776 ∧ 0 ≤ a ∧ a ≤ 9 then some (oneRes s a.toNat) else none

theorem p_One_step (k : Nat) (ih : SoundP Tryz.prog gl 53 (fn2 cStr cInt encTyInt (gOne k))) : SoundP Tryz.prog gl 53 (fn2 cStr cInt encTyInt (gOne (k + 1))) := by
  refine soundP_of_wk ((okX_nil.addP ih).addP p_refClass) mixed Tryz.func53 rfl rfl fun args r h G0 => ?_
  obtain ⟨s, a, e, rfl, he, rfl⟩ := fn2_inv h
  unfold gOne at he
  simp only [Option.ite_none_right_eq_some, Option.some.injEq] at he
  obtain ⟨⟨hk, hs, ha0, ha9⟩, rfl⟩ := he
  obtain ⟨a, rfl⟩ : ∃ n : Nat, a = n := ⟨a.toNat, by omega⟩
  simp only [Int.toNat_natCast]
  cases s with
  | nil =>
    simp [Tryz.f53, entry, oneRes, descLen]
    exact finS_fz (by simp)
  | cons c r =>
    simp at hk hs
    by_cases ha : 8 < a
    · have e1 : (8 < (a : Int)) = True := by simp; omega
      simp [Tryz.f53, entry, oneRes, descLen, ha, e1]
      exact finS_fz (by simp)
    · have e1 : (8 < (a : Int)) = False := by simp; omega
      by_cases h73 : c = 73
      · subst h73
        simp [Tryz.f53, entry, oneRes, descLen, ha, e1, tyOf]
        exact finS_fz (by simp)
      · have n73 : ((c.toNat : Int) = 73) = False := by simp; intro h; exact h73 (UInt8.toNat_inj.1 (by simp; omega))
        by_cases h74 : c = 74
        · subst h74
          simp [Tryz.f53, entry, oneRes, descLen, ha, e1, tyOf]
          exact finS_fz (by simp)
        · have n74 : ((c.toNat : Int) = 74) = False := by simp; intro h; exact h74 (UInt8.toNat_inj.1 (by simp; omega))
          by_cases h76 : c = 76
          · subst h76
            simp [Tryz.f53, entry, ha, e1]
            refine lp_of ((okX_nil.addP ih).addP p_refClass) mixed (fun (k : Nat) => ⟨81, frL [(0, .str (76 :: r)), (4, .ptr 0 0 0 0), (6, .int .i64 (k + 1))], [.row 2 0 0 [.agg [.int .i64 0, .str []]]]⟩) (fun k => k ≤ r.length ∧ ∀ i, i < k → r[i]? ≠ some 59) (fun k => r.length - k) 0 (by simp) (weak_frL rfl rfl (by simp)) ?_
            intro j ⟨hj, hn⟩
            have e2 : ((j : Int) + 1 < (r.length : Int) + 1) = (j < r.length) := by simp
            by_cases hlt : j < r.length
            · have hx : r[j]? = some r[j] := by simp [hlt]
              have e3 : (0 ≤ (j : Int) + 1) = True := by simp; omega
              have e4 : ((j : Int) + 1).toNat = j + 1 := by omega
              have e5 : (1 ≤ j + 1) = True := by simp
              by_cases h59 : r[j] = 59
              · have hidx : Lib.indexByte r 59 = j := indexByte_first (by rw [hx, h59]) hn
                have e6 : min j r.length = j := by omega
                have e7 : j < 1099511627776 := by omega
                have e8 : (j : Int) + 1 ≤ (r.length : Int) + 1 := by omega
                have e9 := wrap_i64 (show (-9223372036854775808 : Int) ≤ (j : Int) + 1 + 1 by omega) (by omega)
                have q59 : ((r[j].toNat : Int) = 59) = True := by rw [h59]; simp
                cases hcl : isClass (r.take j) with
                | true =>
                  have hrl : refLen r = j + 2 := by simp [refLen, hidx, hcl]
                  have htk : tyOf (76 :: r.take (j + 1)) = ⟨4, r.take j⟩ := by
                    show ATy.mk 4 ((r.take (j + 1)).dropLast) = _
                    rw [List.take_succ_eq_append_getElem hlt, List.dropLast_concat]
                  simp [hlt, hj, e2, e3, e4, q59, e6, e7, e8, e9, hcl, oneRes, descLen, ha, hrl, htk]
                  exact finS_fz (by simp)
                | false =>
                  have hrl : refLen r = 0 := by simp [refLen, hidx, hcl]
                  simp [hlt, hj, e2, e3, e4, q59, e6, e7, e8, hcl, oneRes, descLen, ha, hrl]
                  exact finS_fz (by simp)
              · have n59 : ((r[j].toNat : Int) = 59) = False := by simp; intro h; exact h59 (UInt8.toNat_inj.1 (by simp; omega))
                simp [hlt, e2, e3, e4, hx, n59, wrap_i64 (show (-9223372036854775808 : Int) ≤ (j : Int) + 1 + 1 by omega) (by omega)]
                refine nextQ_of (j + 1) ⟨hlt, fun i hi => ?_⟩ (by omega) (weak_frL rfl rfl (by simp))
                rcases Nat.lt_or_ge i j with h | h
                · exact hn i h
                · have : i = j := by omega
                  subst this
                  rw [hx]
                  simpa using h59
            · have hrl : refLen r = 0 := by
                have : ¬ 0 ≤ Lib.indexByte r 59 := by
                  rw [indexByte_mem]
                  intro hm
                  obtain ⟨i, hi⟩ := List.mem_iff_getElem?.1 hm
                  exact hn i (by have := (List.getElem?_eq_some_iff.1 hi).1; omega) hi
                simp [refLen, this]
              simp [hlt, e2, oneRes, descLen, ha, hrl]
              exact finS_fz (by simp)
          · have n76 : ((c.toNat : Int) = 76) = False := by simp; intro h; exact h76 (UInt8.toNat_inj.1 (by simp; omega))
            by_cases h91 : c = 91
            · subst h91
              cases r with
              | nil =>
                have hg : gOne k [] ((a : Int) + 1) = some (oneRes [] (a + 1)) := by
                  unfold gOne
                  rw [if_pos ⟨by simpa using hk, by simp, by omega, by omega⟩]
                  congr 2
                have hw := wrap_i64 (show (-9223372036854775808 : Int) ≤ (a : Int) + 1 by omega) (by omega)
                simp [Tryz.f53, entry, ha, e1, hg, hw, oneRes, descLen]
                exact finS_fz (by simp)
              | cons d r =>
                by_cases hB : d = 66 ∧ a < 8
                · obtain ⟨rfl, ha8⟩ := hB
                  have e2 : ((1 : Int) < (r.length : Int) + 1 + 1) = True := by simp; omega
                  have e3 : ((a : Int) < 8) = True := by simp; omega
                  simp [Tryz.f53, entry, ha, e1, e2, e3, oneRes, descLen, ha8, tyOf]
                  exact finS_fz (by simp)
                · have e2 : ((1 : Int) < (r.length : Int) + 1 + 1) = True := by simp; omega
                  have hg : gOne k (d :: r) ((a : Int) + 1) = some (oneRes (d :: r) (a + 1)) := by
                    unfold gOne
                    rw [if_pos ⟨by simpa using hk, by omega, by omega, (by have := ha; omega : (a : Int) + 1 ≤ 9)⟩]
                    congr 2
                  have hw := wrap_i64 (show (-9223372036854775808 : Int) ≤ (a : Int) + 1 by omega) (by omega)
                  have hd : descLen (91 :: d :: r) a = if descLen (d :: r) (a + 1) = 0 then 0 else descLen (d :: r) (a + 1) + 1 := by
                    rw [descLen]
                    simp [ha, hB]
                  by_cases hd66 : d = 66
                  · have h8 : ¬ a < 8 := fun h => hB ⟨hd66, h⟩
                    have e3 : ((a : Int) < 8) = False := by simp; omega
                    subst hd66
                    by_cases h0 : descLen (66 :: r) (a + 1) = 0
                    · simp [Tryz.f53, entry, ha, e1, e2, e3, hg, hw, oneRes, hd, h0]
                      exact finS_fz (by simp)
                    · have e4 : (0 < descLen (66 :: r) (a + 1)) = True := by simp; omega
                      have hle := descLen_le (66 :: r) (a + 1)
                      have hs' := hs
                      simp at hle hs'
                      have e5 := wrap_i64 (show (-9223372036854775808 : Int) ≤ (descLen (66 :: r) (a + 1) : Int) + 1 by omega) (by omega)
                      have e6 : ((descLen (66 :: r) (a + 1) : Int) + 1).toNat = descLen (66 :: r) (a + 1) + 1 := by omega
                      have e7 : (0 ≤ (descLen (66 :: r) (a + 1) : Int) + 1) = True := by simp; omega
                      simp [Tryz.f53, entry, ha, e1, e2, e3, hg, hw, oneRes, hd, h0, e4, e5, e6, e7, hle, tyOf]
                      exact finS_fz (by simp)
                  · have n66 : ((d.toNat : Int) = 66) = False := by simp; intro h; exact hd66 (UInt8.toNat_inj.1 (by simp; omega))
                    by_cases h0 : descLen (d :: r) (a + 1) = 0
                    · simp [Tryz.f53, entry, ha, e1, e2, n66, hg, hw, oneRes, hd, h0]
                      exact finS_fz (by simp)
                    · have e4 : (0 < descLen (d :: r) (a + 1)) = True := by simp; omega
                      have hle := descLen_le (d :: r) (a + 1)
                      have hs' := hs
                      simp at hle hs'
                      have e5 := wrap_i64 (show (-9223372036854775808 : Int) ≤ (descLen (d :: r) (a + 1) : Int) + 1 by omega) (by omega)
                      have e6 : ((descLen (d :: r) (a + 1) : Int) + 1).toNat = descLen (d :: r) (a + 1) + 1 := by omega
                      have e7 : (0 ≤ (descLen (d :: r) (a + 1) : Int) + 1) = True := by simp; omega
                      simp [Tryz.f53, entry, ha, e1, e2, n66, hg, hw, oneRes, hd, h0, e4, e5, e6, e7, hle, tyOf]
                      exact finS_fz (by simp)
            · have n91 : ((c.toNat : Int) = 91) = False := by simp; intro h; exact h91 (UInt8.toNat_inj.1 (by simp; omega))
              simp [Tryz.f53, entry, oneRes, descLen, ha, e1, n73, n74, n76, n91, h73, h74, h76, h91]
              exact finS_fz (by simp)

def gOneT (s : Str) (a : Int) : Option (ATy × Int) := if s.length < 1099511627776 ∧ 0 ≤ a ∧ a ≤ 9 then some (oneRes s a.toNat) else none
theorem p_One : SoundP Tryz.prog gl 53 (fn2 cStr cInt encTyInt gOneT) := by
  refine soundP_rec (fun k => fn2 cStr cInt encTyInt (gOne k)) (fun args => ?_) p_One_step fun args r h => ?_
  · cases hq : fn2 cStr cInt encTyInt (gOne 0) args with
    | none => rfl
    | some r =>
      obtain ⟨s, a, e, _, he, _⟩ := fn2_inv hq
      simp [gOne] at he
  · obtain ⟨s, a, e, rfl, he, rfl⟩ := fn2_inv h
    refine ⟨s.length + 1, ?_⟩
    unfold gOneT at he
    simp only [Option.ite_none_right_eq_some, Option.some.injEq] at he
    obtain ⟨⟨h1, h2, h3⟩, rfl⟩ := he
    simp [gOne, h1, h2, h3]

@[simp] def encTyErr (x : ATy × Int) : AV := .tup [encTy x.1, .int .i64 x.2]
/-- Parse: 10.1 -/
def parse (s : Str) : ATy × Int := if descLen s 0 = 0 ∨ descLen s 0 ≠ s.length then (⟨0, []⟩, 100) else (tyOf s, 0)
theorem p_refParse : SoundP Tryz.prog gl 54 (fn1 cStr encTyErr fun s => if s.length < 1099511627776 then some (parse s) else none) := by
  refine soundP_of_wk (okX_nil.addP p_One) mixed Tryz.func54 rfl rfl fun args r h G0 => ?_
  obtain ⟨s, e, rfl, he, rfl⟩ := fn1_inv h
  simp only [Option.ite_none_right_eq_some, Option.some.injEq] at he
  obtain ⟨hs, rfl⟩ := he
  by_cases h0 : descLen s 0 = 0
  · simp [Tryz.f54, entry, gOneT, hs, oneRes, h0, parse]
    exact finS_fz (by simp)
  · by_cases h1 : descLen s 0 = s.length
    · have e1 : ((descLen s 0 : Int) = (s.length : Int)) = True := by simp [h1]
      have h2 : ¬ s = [] := by rintro rfl; simp [descLen] at h0
      simp [Tryz.f54, entry, gOneT, hs, oneRes, h0, parse, h1, h2]
      exact finS_fz (by simp)
    · have e1 : ((descLen s 0 : Int) = (s.length : Int)) = False := by simp; omega
      simp [Tryz.f54, entry, gOneT, hs, oneRes, h0, parse, h1, e1]
      exact finS_fz (by simp)
end Go.Proofs.YthchohjhcjkgjaaGreatDoor.Lift
namespace Go.Proofs.YthchohjhcjkgjaaGreatDoor.Lift
open Go
set_option maxRecDepth 100000

/-- how long is the descriptor behind the [ (b: was there one)? -/
def size1 (rest : Str) (b : Bool) : Nat := match rest with
  | [] => 0
  | c :: r => if c = 73 ∨ c = 74 then 1 else if c = 66 ∧ b = true then 1 else if c = 76 then refLen r else 0
theorem descLen_split : ∀ (m : Nat) (rest : Str) (a : Nat), rest.head? ≠ some 91 → descLen (List.replicate m 91 ++ rest) a = if 8 < m + a then 0 else if size1 rest (decide (0 < m)) = 0 then 0 else m + size1 rest (decide (0 < m))
  | 0, rest, a, h => by
    cases rest with
    | nil => simp [descLen, size1]
    | cons c r =>
      have h91 : ¬ c = 91 := by simpa using h
      simp only [List.replicate_zero, List.nil_append, descLen, size1, Nat.zero_add, Nat.lt_irrefl, decide_false, Bool.false_eq_true, and_false, if_false, h91]
      split
      · rfl
      · split
        · rfl
        · split
          · split <;> simp_all
          · rfl
  | m + 1, rest, a, h => by
    have ih := descLen_split m rest (a + 1) h
    simp only [List.replicate_succ, List.cons_append, descLen]
    rw [ih]
    by_cases ha : 8 < a
    · rw [if_pos ha, if_pos (by omega)]
    · rw [if_neg ha, if_neg (by decide), if_neg (by decide), if_pos trivial]
      cases m with
      | zero =>
        simp only [List.replicate_zero, List.nil_append, Nat.zero_add, Nat.lt_irrefl, decide_false, Nat.zero_lt_one, decide_true]
        by_cases h66 : rest.head? = some 66 ∧ a < 8
        · rw [if_pos h66, if_neg (by omega)]
          obtain ⟨h1, _⟩ := h66
          cases rest with
          | nil => simp at h1
          | cons c r => simp at h1; subst h1; simp [size1]
        · rw [if_neg h66, Nat.add_comm 1 a]
          have : size1 rest true = size1 rest false ∨ 8 < a + 1 := by
            cases rest with
            | nil => exact .inl rfl
            | cons c r =>
              by_cases ha8 : 8 < a + 1
              · exact .inr ha8
              · have : ¬ c = 66 := fun e => h66 ⟨by simp [e], by omega⟩
                exact .inl (by simp [size1, this])
          by_cases ha8 : 8 < a + 1
          · simp [ha8]
          · have hq := this.resolve_right ha8
            simp only [if_neg ha8, hq]
            by_cases hz : size1 rest false = 0
            · simp [hz]
            · simp only [if_neg hz]
              omega
      | succ m =>
        have : ¬ ((List.replicate (m + 1) 91 ++ rest).head? = some (66 : UInt8) ∧ a < 8) := by simp [List.replicate_succ]
        rw [if_neg this]
        simp only [Nat.succ_pos, decide_true]
        by_cases h8 : 8 < m + 1 + (a + 1)
        · simp only [if_pos h8]
          rw [if_pos (by omega : 8 < m + 1 + 1 + a)]
          simp
        · simp only [if_neg h8]
          rw [if_neg (by omega : ¬ 8 < m + 1 + 1 + a)]
          by_cases hz : size1 rest true = 0
          · simp [hz]
          · simp only [if_neg hz]
            rw [if_neg (by omega)]
            omega

theorem split91 (s : Str) : ∃ m, s = List.replicate m 91 ++ s.dropWhile (· == 91) ∧ (s.dropWhile (· == 91)).head? ≠ some 91 := by
  induction s with
  | nil => exact ⟨0, by simp⟩
  | cons c s ih =>
    by_cases h : c = 91
    · subst h
      obtain ⟨m, h1, h2⟩ := ih
      refine ⟨m + 1, ?_, by simpa using h2⟩
      simp only [List.replicate_succ, List.cons_append, List.dropWhile_cons, beq_self_eq_true, if_true]
      rw [← h1]
    · exact ⟨0, by simp [h]⟩

@[simp] def encSS (x : Str × Str) : AV := .tup [.str x.1, .str x.2]
/-- the descriptor that a text begins with, and the rest -/
def cut (s : Str) : Str × Str := if descLen s 0 = 0 then ([], s) else (s.take (descLen s 0), s.drop (descLen s 0))
theorem p_cut : SoundP Tryz.prog gl 152 (fn1 cStr encSS fun s => if s.length < 1099511627776 then some (cut s) else none) := by
  refine soundP_of_wk (((okX_nil.addP p_kindClass).addP p_IndexByte).addP p_TrimLeft) mixed Tryz.func152 rfl rfl fun args r h G0 => ?_
  obtain ⟨s, e, rfl, he, rfl⟩ := fn1_inv h
  simp only [Option.ite_none_right_eq_some, Option.some.injEq] at he
  obtain ⟨hs, rfl⟩ := he
  obtain ⟨m, h1, h2⟩ := split91 s
  have hdl := descLen_split m (s.dropWhile (· == 91)) 0 h2
  rw [← h1] at hdl
  have hlen : s.length = m + (s.dropWhile (· == 91)).length := by
    conv => lhs; rw [h1]
    simp
  have htl : trimLeft1 s [91] = some (s.dropWhile (· == 91)) := by simp [trimLeft1]
  have hdrop : ∀ z, s.drop (m + z) = (s.dropWhile (· == 91)).drop z := fun z => by
    conv => lhs; rw [h1]
    rw [List.drop_append, List.length_replicate]
    simp
  generalize s.dropWhile (· == 91) = rest at *
  have hw := wrap_i64 (show (-9223372036854775808 : Int) ≤ (m : Int) by omega) (by omega)
  have hw' : IntKind.wrap .i64 ((m : Int) + (rest.length : Int) - (rest.length : Int)) = m := by rw [show (m : Int) + (rest.length : Int) - (rest.length : Int) = m by omega]; exact hw
  -- none
  by_cases h8 : 8 < m
  · have e1 : ((8 : Int) < (m : Int)) = True := by simp; omega
    have hc : cut s = ([], s) := by simp [cut, hdl, h8]
    simp [Tryz.f152, entry, htl, hlen, hw, hw', e1, hc]
    exact finS_fz (by simp)
  · have e1 : ((8 : Int) < (m : Int)) = False := by simp; omega
    cases rest with
    | nil =>
      have hc : cut s = ([], s) := by simp [cut, hdl, size1]
      simp [Tryz.f152, entry, htl, hlen, hw, hw', e1, hc]
      exact finS_fz (by simp)
    | cons c r =>
      have none_ : size1 (c :: r) (decide (0 < m)) = 0 → cut s = ([], s) := fun h => by simp [cut, hdl, h]
      have some_ : ∀ z, size1 (c :: r) (decide (0 < m)) = z → z ≠ 0 → cut s = (s.take (m + z), (c :: r).drop z) := fun z hz h0 => by
        rw [cut, hdl, hz]
        simp [h8, h0, hdrop]
      simp at hlen
      have hlen' : (s.length : Int) = (m : Int) + ((r.length : Int) + 1) := by omega
      have hw2 : IntKind.wrap .i64 ((m : Int) + ((r.length : Int) + 1) - ((r.length : Int) + 1)) = m := by rw [show (m : Int) + ((r.length : Int) + 1) - ((r.length : Int) + 1) = m by omega]; exact hw
      have hw3 := wrap_i64 (show (-9223372036854775808 : Int) ≤ (m : Int) + 1 by omega) (by omega)
      have e3 : (0 ≤ (m : Int) + 1) = True := by simp; omega
      have e4 : ((m : Int) + 1).toNat = m + 1 := by omega
      have e5 : m + 1 ≤ s.length := by omega
      by_cases h73 : c = 73
      · subst h73
        have hc := some_ 1 (by simp [size1]) (by simp)
        simp [Tryz.f152, entry, htl, hlen', hw, e1, hc]
        refine dk_of (by decide) ?_
        simp [hw3, e3, e4, e5]
        exact finS_fz (by simp)
      · have n73 : ((c.toNat : Int) = 73) = False := by simp; intro h; exact h73 (UInt8.toNat_inj.1 (by simp; omega))
        by_cases h74 : c = 74
        · subst h74
          have hc := some_ 1 (by simp [size1]) (by simp)
          simp [Tryz.f152, entry, htl, hlen', hw, e1, hc]
          refine dk_of (by decide) ?_
          simp [hw3, e3, e4, e5]
          exact finS_fz (by simp)
        · have n74 : ((c.toNat : Int) = 74) = False := by simp; intro h; exact h74 (UInt8.toNat_inj.1 (by simp; omega))
          by_cases h66 : c = 66
          · subst h66
            by_cases hm : 0 < m
            · have em : ((0 : Int) < (m : Int)) = True := by simp; omega
              have hc := some_ 1 (by simp [size1, hm]) (by simp)
              simp [Tryz.f152, entry, htl, hlen', hw, e1, hc, hm]
              refine dk_of (by decide) ?_
              simp [hw3, e3, e4, e5]
              exact finS_fz (by simp)
            · have em : ((0 : Int) < (m : Int)) = False := by simp; omega
              have hc := none_ (by simp [size1, hm])
              simp [Tryz.f152, entry, htl, hlen', hw, e1, hc, hm]
              exact finS_fz (by simp)
          · have n66 : ((c.toNat : Int) = 66) = False := by simp; intro h; exact h66 (UInt8.toNat_inj.1 (by simp; omega))
            by_cases h76 : c = 76
            · subst h76
              rcases indexByte_lt r 59 with hlt | hlt
              · by_cases hge : 0 ≤ Lib.indexByte r 59
                · obtain ⟨j, hj⟩ : ∃ j : Nat, Lib.indexByte r 59 = j := ⟨(Lib.indexByte r 59).toNat, by omega⟩
                  rw [hj] at hlt
                  have hidx : Lib.indexByte (76 :: r) 59 = (j : Int) + 1 := by simp [Lib.indexByte, hj] <;> omega
                  have f1 : ((0 : Int) < (j : Int) + 1) = True := by simp <;> omega
                  have f2 : ((0 : Int) ≤ (j : Int) + 1) = True := by simp <;> omega
                  have f3 : ((j : Int) + 1).toNat = j + 1 := by omega
                  have f4 : j ≤ r.length := by omega
                  have f5 : j < 1099511627776 := by omega
                  have f6 := wrap_i64 (show (-9223372036854775808 : Int) ≤ (j : Int) + 1 + 1 by omega) (by omega)
                  have f7 : ((j : Int) + 1 + 1 = 0) = False := by simp <;> omega
                  have f8 := wrap_i64 (show (-9223372036854775808 : Int) ≤ (m : Int) + ((j : Int) + 1 + 1) by omega) (by omega)
                  have f9 : ((m : Int) + ((j : Int) + 1 + 1)).toNat = m + (j + 2) := by omega
                  have f10 : (0 ≤ (m : Int) + ((j : Int) + 1 + 1)) = True := by simp <;> omega
                  have f11 : m + (j + 2) ≤ s.length := by omega
                  have f12 : ((j : Int) + 1 + 1).toNat = j + 2 := by omega
                  have f13 : (0 ≤ (j : Int) + 1 + 1) = True := by simp <;> omega
                  have f14 : j + 1 ≤ r.length := by omega
                  cases hcl : isClass (r.take j) with
                  | true =>
                    have hz : refLen r = j + 2 := by simp [refLen, hj, hcl]
                    have hc := some_ (j + 2) (by simp [size1, hz]) (by simp)
                    simp [Tryz.f152, entry, htl, hlen', hw, e1, hc, hidx, f1, f2, f3, f4, f5, hcl, f6, f7]
                    refine dk_of (by decide) ?_
                    simp [f8, f9, f10, f11, f12, f13, f14]
                    exact finS_fz (by simp)
                  | false =>
                    have hz : refLen r = 0 := by simp [refLen, hj, hcl]
                    have hc := none_ (by simp [size1, hz])
                    simp [Tryz.f152, entry, htl, hlen', hw, e1, hc, hidx, f1, f2, f3, f4, f5, hcl]
                    exact finS_fz (by simp)
                · have hz : refLen r = 0 := by simp [refLen, hge]
                  have hc := none_ (by simp [size1, hz])
                  have hge' := Lib.indexByte_ge r 59
                  have h1' : Lib.indexByte r 59 = -1 := by omega
                  have hidx : Lib.indexByte (76 :: r) 59 = -1 := by simp [Lib.indexByte, h1']
                  simp [Tryz.f152, entry, htl, hlen', hw, e1, hc, hidx]
                  exact finS_fz (by simp)
              · have hz : refLen r = 0 := by simp [refLen, hlt]
                have hc := none_ (by simp [size1, hz])
                have hidx : Lib.indexByte (76 :: r) 59 = -1 := by simp [Lib.indexByte, hlt]
                simp [Tryz.f152, entry, htl, hlen', hw, e1, hc, hidx]
                exact finS_fz (by simp)
            · have n76 : ((c.toNat : Int) = 76) = False := by simp; intro h; exact h76 (UInt8.toNat_inj.1 (by simp; omega))
              have hc := none_ (by simp [size1, h73, h74, h66, h76])
              simp [Tryz.f152, entry, htl, hlen', hw, e1, hc, n73, n74, n66, n76]
              exact finS_fz (by simp)

/-- what 'of' asks of a descriptor -/
def OfOk (s : Str) : Prop := s ≠ [] ∧ (s.head? = some 76 → 2 ≤ s.length)
instance (s : Str) : Decidable (OfOk s) := by unfold OfOk; infer_instance
theorem p_of : SoundP Tryz.prog gl 144 (fn1 cStr encTy fun s => if s.length < 1099511627776 ∧ OfOk s then some (tyOf s) else none) := by
  refine soundP_of_wk okX_nil mixed Tryz.func144 rfl rfl fun args r h G0 => ?_
  obtain ⟨s, e, rfl, he, rfl⟩ := fn1_inv h
  simp only [Option.ite_none_right_eq_some, Option.some.injEq] at he
  obtain ⟨⟨hs, hne, h2⟩, rfl⟩ := he
  cases s with
  | nil => exact absurd rfl hne
  | cons c r =>
    by_cases h73 : c = 73
    · subst h73
      simp [Tryz.f144, entry, tyOf]
      exact finS_fz (by simp)
    · have n73 : ((c.toNat : Int) = 73) = False := by simp; intro h; exact h73 (UInt8.toNat_inj.1 (by simp; omega))
      by_cases h74 : c = 74
      · subst h74
        simp [Tryz.f144, entry, tyOf]
        exact finS_fz (by simp)
      · have n74 : ((c.toNat : Int) = 74) = False := by simp; intro h; exact h74 (UInt8.toNat_inj.1 (by simp; omega))
        by_cases h76 : c = 76
        · subst h76
          simp at h2 hs
          have hw := wrap_i64 (show (-9223372036854775808 : Int) ≤ (r.length : Int) by omega) (by omega)
          have hr : 1 ≤ r.length := by omega
          have hdl : List.drop 1 (List.take r.length (76 :: r)) = r.dropLast := by
            cases r with
            | nil => simp at hr
            | cons d r => simp [List.dropLast_eq_take]
          have hty : tyOf (76 :: r) = ⟨4, r.dropLast⟩ := rfl
          simp [Tryz.f144, entry, hw, hr, hdl, hty]
          exact finS_fz (by simp)
        · have n76 : ((c.toNat : Int) = 76) = False := by simp; intro h; exact h76 (UInt8.toNat_inj.1 (by simp; omega))
          simp [Tryz.f144, entry, n73, n74, n76, tyOf, h73, h74, h76]
          exact finS_fz (by simp)

theorem refLen_ge (r : Str) (h : refLen r ≠ 0) : 2 ≤ refLen r := by
  unfold refLen at h ⊢
  split at h
  · rename_i hc; rw [if_pos hc]; omega
  · exact absurd rfl h
/-- what 'of' asks of a descriptor -/
theorem of_ok {s : Str} (h : descLen s 0 ≠ 0) : OfOk (s.take (descLen s 0)) := by
  cases s with
  | nil => simp [descLen] at h
  | cons c r =>
    refine ⟨by simp [h], fun h2 => ?_⟩
    have hc : c = 76 := by
      cases hq : descLen (c :: r) 0 with
      | zero => exact absurd hq h
      | succ n => rw [hq] at h2; simpa using h2
    subst hc
    have e : descLen (76 :: r) 0 = refLen r := by simp [descLen]
    have := refLen_ge r (by rw [← e]; exact h)
    have := descLen_le (76 :: r) 0
    simp only [List.length_take]
    omega

theorem p_kindParse : SoundP Tryz.prog gl 151 (fn1 cStr encTyErr fun s => if s.length < 1099511627776 then some (parse s) else none) := by
  refine soundP_of_wk ((okX_nil.addP p_of).addP p_cut) mixed Tryz.func151 rfl rfl fun args r h G0 => ?_
  obtain ⟨s, e, rfl, he, rfl⟩ := fn1_inv h
  simp only [Option.ite_none_right_eq_some, Option.some.injEq] at he
  obtain ⟨hs, rfl⟩ := he
  by_cases h0 : descLen s 0 = 0
  · have hc : cut s = ([], s) := by simp [cut, h0]
    have hp : parse s = (⟨0, []⟩, 100) := by simp [parse, h0]
    simp [Tryz.f151, entry, hs, hc, hp]
    exact finS_fz (by simp)
  · have hc : cut s = (s.take (descLen s 0), s.drop (descLen s 0)) := by simp [cut, h0]
    have o := of_ok h0
    have o1 := o.1
    have hle := descLen_le s 0
    by_cases h1 : descLen s 0 = s.length
    · have hp : parse s = (tyOf s, 0) := by rw [parse, if_neg (fun h => h.elim h0 (fun h => h h1))]
      rw [h1, List.take_length] at o1 o
      rw [h1, List.take_length, List.drop_length] at hc
      simp [Tryz.f151, entry, hs, hc, hp, o1, o]
      exact finS_fz (by simp)
    · have hp : parse s = (⟨0, []⟩, 100) := by simp [parse, h1]
      have hd : s.drop (descLen s 0) ≠ [] := by
        intro h
        have := congrArg List.length h
        simp at this
        omega
      generalize hq : s.drop (descLen s 0) = q at hd hc
      generalize hq' : s.take (descLen s 0) = q' at o1 o hc
      simp [Tryz.f151, entry, hs, hc, hp, hd, o1]
      exact finS_fz (by simp)
end Go.Proofs.YthchohjhcjkgjaaGreatDoor.Lift
namespace Go.Proofs.YthchohjhcjkgjaaGreatDoor.Lift
open Go
set_option maxRecDepth 100000

/-- how many of the types are longs -/
def longs (l : List ATy) : Nat := (l.filter fun x => decide (x.kind = 2)).length
theorem longs_le (l : List ATy) : longs l ≤ l.length := List.length_filter_le _ _
theorem longs_succ (l : List ATy) (i : Nat) (h : i < l.length) : longs (l.take (i + 1)) = longs (l.take i) + if l[i].kind = 2 then 1 else 0 := by
  rw [List.take_succ_eq_append_getElem h]
  simp only [longs, List.filter_append, List.length_append, List.filter_cons, List.filter_nil]
  split <;> rename_i h' <;> simp at h' <;> simp [h']
/-- how wide types are together -/
def wide (l : List ATy) : Int := (l.length + longs l : Nat)

theorem p_kindWide : SoundP Tryz.prog gl 49 (fn1 (cL cTy) encInt fun l => if l.length < 1099511627776 then some (wide l) else none) := by
  refine soundP_of_wk okX_nil mixed Tryz.func49 rfl rfl fun args r h G0 => ?_
  obtain ⟨l, e, rfl, he, rfl⟩ := fn1_inv h
  simp only [Option.ite_none_right_eq_some, Option.some.injEq] at he
  obtain ⟨hs, rfl⟩ := he
  simp [Tryz.f49, entry]
  refine lp_of okX_nil mixed (fun (i : Nat) => ⟨21, frL [(3, .int .i64 ((l.length + longs (l.take i) : Nat) : Int)), (8, .sl (l.map encTy)), (9, .int .i64 l.length), (10, .int .i64 i)], []⟩) (fun i => i ≤ l.length) (fun i => l.length - i) 0 (by simp) (weak_frL rfl rfl (by simp [longs])) ?_
  intro i hi
  simp
  refine br_dec (fun h3 => ?_) (fun h3 => ?_)
  · have hx : l[i]? = some l[i] := by simp [h3]
    have hle := longs_le (l.take i)
    have hl := List.length_take_le i l
    have hw := wrap_i64 (show (-9223372036854775808 : Int) ≤ (i : Int) + 1 by omega) (by omega)
    have hw2 := wrap_i64 (show (-9223372036854775808 : Int) ≤ (l.length : Int) + (longs (l.take i) : Int) + 1 by omega) (by omega)
    have hsucc := longs_succ l i h3
    by_cases h2 : l[i].kind = 2
    · simp [hx, h2, hw, hw2]
      refine nextQ_less (i + 1) h3 (by omega) (less_frL fz_gl (st2 := [_]) (by simp [G0.2]) rfl rfl rfl ?_)
      simp [hsucc, h2]
      omega
    · simp [hx, h2, hw]
      refine nextQ_less (i + 1) h3 (by omega) (less_frL fz_gl (st2 := [_]) (by simp [G0.2]) rfl rfl rfl ?_)
      simp [hsucc, h2]
  · have : i = l.length := by omega
    subst this
    simp [wide]
    exact finS_fz (by simp)

theorem p_array : SoundP Tryz.prog gl 72 (fn1 cStr encBool fun s => some (decide (s.head? = some 91))) := by
  refine soundP_of_wk (okX_nil.addP p_stringsHasPrefix) mixed Tryz.func72 rfl rfl fun args r h G0 => ?_
  obtain ⟨s, e, rfl, he, rfl⟩ := fn1_inv h
  cases he
  have : (([91] : Str) <+: s) = (s.head? = some 91) := by
    cases s with
    | nil => simp
    | cons c s => simp [List.cons_prefix_cons, eq_comm]
  simp [Tryz.f72, entry, this]
  exact finS_fz (by simp)

/-- the text of a type, if it has one -/
def texty (x : ATy) : Str := if x.kind = 1 then [73] else if x.kind = 2 then [74] else if x.kind = 4 then (if x.name.head? = some 91 then x.name else 76 :: (x.name ++ [59])) else []
/-- Print: 10.1 -/
def print (x : ATy) : Str × Int := if parse (texty x) = (x, 0) then (texty x, 0) else ([], 100)
@[simp] def encSErr (x : Str × Int) : AV := .tup [.str x.1, .int .i64 x.2]

theorem p_kindPrint : SoundP Tryz.prog gl 143 (fn1 cTy encSErr fun x => if x.name.length < 1099511600000 then some (print x) else none) := by
  refine soundP_of_wk ((okX_nil.addP p_array).addP p_kindParse) mixed Tryz.func143 rfl rfl fun args r h G0 => ?_
  obtain ⟨x, e, rfl, he, rfl⟩ := fn1_inv h
  simp only [Option.ite_none_right_eq_some, Option.some.injEq] at he
  obtain ⟨hs, rfl⟩ := he
  obtain ⟨k, nm⟩ := x
  simp at hs
  by_cases h1 : k = 1
  · subst h1
    cases hp : parse [73] with
    | mk ty er =>
      obtain ⟨tk, tn⟩ := ty
      by_cases he : er = 0
      · subst he
        by_cases hk : tk = 1
        · by_cases hn : tn = nm
          · have hpr : print ⟨1, nm⟩ = ([73], 0) := by simp [print, texty, hp, hk, hn]
            subst hn
            simp [Tryz.f143, entry, hp, hk, hpr]
            exact finS_fz (by simp)
          · have hpr : print ⟨1, nm⟩ = ([], 100) := by simp [print, texty, hp, hn]
            simp [Tryz.f143, entry, hp, hk, hn, hpr]
            exact finS_fz (by simp)
        · have hpr : print ⟨1, nm⟩ = ([], 100) := by simp [print, texty, hp, hk]
          simp [Tryz.f143, entry, hp, hk, hpr]
          exact finS_fz (by simp)
      · have hpr : print ⟨1, nm⟩ = ([], 100) := by simp [print, texty, hp, he]
        simp [Tryz.f143, entry, hp, he, hpr]
        exact finS_fz (by simp)
  · by_cases h2 : k = 2
    · subst h2
      cases hp : parse [74] with
      | mk ty er =>
        obtain ⟨tk, tn⟩ := ty
        by_cases he : er = 0
        · subst he
          by_cases hk : tk = 2
          · by_cases hn : tn = nm
            · have hpr : print ⟨2, nm⟩ = ([74], 0) := by simp [print, texty, hp, hk, hn]
              subst hn
              simp [Tryz.f143, entry, hp, hk, hpr]
              exact finS_fz (by simp)
            · have hpr : print ⟨2, nm⟩ = ([], 100) := by simp [print, texty, hp, hn]
              simp [Tryz.f143, entry, hp, hk, hn, hpr]
              exact finS_fz (by simp)
          · have hpr : print ⟨2, nm⟩ = ([], 100) := by simp [print, texty, hp, hk]
            simp [Tryz.f143, entry, hp, hk, hpr]
            exact finS_fz (by simp)
        · have hpr : print ⟨2, nm⟩ = ([], 100) := by simp [print, texty, hp, he]
          simp [Tryz.f143, entry, hp, he, hpr]
          exact finS_fz (by simp)
    · by_cases h4 : k = 4
      · subst h4
        by_cases ha : nm.head? = some 91
        · have hs2 : nm.length < 1099511627776 := by omega
          cases hp : parse nm with
          | mk ty er =>
            obtain ⟨tk, tn⟩ := ty
            by_cases he : er = 0
            · subst he
              by_cases hk : tk = 4
              · by_cases hn : tn = nm
                · have hpr : print ⟨4, nm⟩ = (nm, 0) := by simp [print, texty, hp, hk, hn, ha]
                  subst hn
                  simp [Tryz.f143, entry, ha, hs2, hp, hk, hpr]
                  exact finS_fz (by simp)
                · have hpr : print ⟨4, nm⟩ = ([], 100) := by simp [print, texty, hp, hn, ha]
                  simp [Tryz.f143, entry, ha, hs2, hp, hk, hn, hpr]
                  exact finS_fz (by simp)
              · have hpr : print ⟨4, nm⟩ = ([], 100) := by simp [print, texty, hp, hk, ha]
                simp [Tryz.f143, entry, ha, hs2, hp, hk, hpr]
                exact finS_fz (by simp)
            · have hpr : print ⟨4, nm⟩ = ([], 100) := by simp [print, texty, hp, he, ha]
              simp [Tryz.f143, entry, ha, hs2, hp, he, hpr]
              exact finS_fz (by simp)
        · have hs2 : nm.length + 1 + 1 < 1099511627776 := by omega
          have hs3 : 1 + nm.length ≤ 4611686018427387904 := by omega
          have hs4 : nm.length + 1 + 1 ≤ 4611686018427387904 := by omega
          cases hp : parse (76 :: (nm ++ [59])) with
          | mk ty er =>
            obtain ⟨tk, tn⟩ := ty
            by_cases he : er = 0
            · subst he
              by_cases hk : tk = 4
              · by_cases hn : tn = nm
                · have hpr : print ⟨4, nm⟩ = ((76 :: (nm ++ [59])), 0) := by simp [print, texty, hp, hk, hn, ha]
                  subst hn
                  simp [Tryz.f143, entry, ha, hs2, hs3, hs4, hp, hk, hpr]
                  exact finS_fz (by simp)
                · have hpr : print ⟨4, nm⟩ = ([], 100) := by simp [print, texty, hp, hn, ha]
                  simp [Tryz.f143, entry, ha, hs2, hs3, hs4, hp, hk, hn, hpr]
                  exact finS_fz (by simp)
              · have hpr : print ⟨4, nm⟩ = ([], 100) := by simp [print, texty, hp, hk, ha]
                simp [Tryz.f143, entry, ha, hs2, hs3, hs4, hp, hk, hpr]
                exact finS_fz (by simp)
            · have hpr : print ⟨4, nm⟩ = ([], 100) := by simp [print, texty, hp, he, ha]
              simp [Tryz.f143, entry, ha, hs2, hs3, hs4, hp, he, hpr]
              exact finS_fz (by simp)
      · have hpr : print ⟨k, nm⟩ = ([], 100) := by simp [print, texty, h1, h2, h4, parse, descLen]
        have hp : parse [] = (⟨0, []⟩, 100) := rfl
        simp [Tryz.f143, entry, h1, h2, h4, hp, hpr]
        exact finS_fz (by simp)
end Go.Proofs.YthchohjhcjkgjaaGreatDoor.Lift
namespace Go.Proofs.YthchohjhcjkgjaaGreatDoor.Lift
open Go
set_option maxRecDepth 100000

/-- the descriptors that a text begins with, and the rest -/
def typesOf (s : Str) : List ATy × Str :=
  if h : descLen s 0 = 0 then ([], s) else (tyOf (s.take (descLen s 0)) :: (typesOf (s.drop (descLen s 0))).1, (typesOf (s.drop (descLen s 0))).2)
termination_by s.length
decreasing_by all_goals
  have h1 : s ≠ [] := by rintro rfl; exact h (by simp [descLen])
  have h2 : 0 < s.length := List.length_pos_iff.2 h1
  simp only [List.length_drop]
  omega
theorem typesOf_none {s : Str} (h : descLen s 0 = 0) : typesOf s = ([], s) := by rw [typesOf]; simp [h]
theorem typesOf_some {s : Str} (h : descLen s 0 ≠ 0) : typesOf s = (tyOf (s.take (descLen s 0)) :: (typesOf (s.drop (descLen s 0))).1, (typesOf (s.drop (descLen s 0))).2) := by
  conv => lhs; rw [typesOf]
  simp [h]

/-- Method: 10.1 -/
def method (s : Str) : List ATy × ATy × Int :=
  if s.head? = some 40 then
    let r := typesOf (s.drop 1)
    if r.2.head? = some 41 then
      if r.2.drop 1 = [86] then (if 32 < wide r.1 then ([], ⟨0, []⟩, 3) else (r.1, ⟨0, []⟩, 0))
      else if (parse (r.2.drop 1)).2 ≠ 0 then ([], ⟨0, []⟩, (parse (r.2.drop 1)).2)
      else if 32 < wide r.1 then ([], ⟨0, []⟩, 3) else (r.1, (parse (r.2.drop 1)).1, 0)
    else ([], ⟨0, []⟩, 100)
  else ([], ⟨0, []⟩, 100)
@[simp] def encMethodR (x : List ATy × ATy × Int) : AV := .tup [.sl (x.1.map encTy), encTy x.2.1, .int .i64 x.2.2]

/-- the list of types and where it lies -/
@[simp] def lstSlot : List ATy → AV
  | [] => .snil
  | _ :: l => .sr 2 l.length 0 (l.length + 1)
@[simp] def lstSto (z : ABlk) : List ATy → Sto
  | [] => [z]
  | x :: l => [z, .row 2 0 0 [encTy x], .row 2 l.length 0 ((x :: l).map encTy)]

theorem p_kindMethod : SoundP Tryz.prog gl 98 (fn1 cStr encMethodR fun s => if s.length < 1099511627776 then some (method s) else none) := by
  refine soundP_of_wk (((((okX_nil.addP p_kindWide).addP p_kindParse).addP p_of).addP p_cut).addP p_CutPrefix) mixed Tryz.func98 rfl rfl fun args r h G0 => ?_
  obtain ⟨s, e, rfl, he, rfl⟩ := fn1_inv h
  simp only [Option.ite_none_right_eq_some, Option.some.injEq] at he
  obtain ⟨hs, rfl⟩ := he
  have okx := ((((okX_nil.addP p_kindWide).addP p_kindParse).addP p_of).addP p_cut).addP p_CutPrefix
  have pre40 : (([40] : Str) <+: s) = (s.head? = some 40) := by
    cases s with
    | nil => simp
    | cons c s => simp [List.cons_prefix_cons, eq_comm]
  by_cases h40 : s.head? = some 40
  · have hc : cutPrefix s [40] = (s.drop 1, true) := by simp [cutPrefix, pre40, h40]
    simp [Tryz.f98, entry, hc]
    refine lp_of okx mixed (fun (x : Str × List ATy) => ⟨64, frL [(3, .ptr 0 0 0 0), (5, .str x.1), (6, .bool true), (7, lstSlot x.2)], lstSto (.row 2 0 0 [encTy ⟨0, []⟩]) x.2⟩)
      (fun x => x.1.length ≤ s.length ∧ x.2.length + x.1.length ≤ s.length ∧ typesOf (s.drop 1) = (x.2 ++ (typesOf x.1).1, (typesOf x.1).2)) (fun x => x.1.length) (s.drop 1, []) ⟨by simp, by simp, by simp⟩ (weak_frL rfl rfl (by simp)) ?_
    rintro ⟨t, l⟩ ⟨hlt, hll, hty⟩
    simp only at hlt hll hty ⊢
    have hts : t.length < 1099511627776 := by omega
    by_cases h0 : descLen t 0 = 0
    · have hcut : cut t = ([], t) := by simp [cut, h0]
      rw [typesOf_none h0] at hty
      simp only [List.append_nil] at hty
      have hr1 : (typesOf (s.drop 1)).1 = l := by rw [hty]
      have hr2 : (typesOf (s.drop 1)).2 = t := by rw [hty]
      have pre41 : (([41] : Str) <+: t) = (t.head? = some 41) := by
        cases t with
        | nil => simp
        | cons c t => simp [List.cons_prefix_cons, eq_comm]
      have hll' : l.length < 1099511627776 := by omega
      by_cases h41 : t.head? = some 41
      · have hc2 : cutPrefix t [41] = (t.drop 1, true) := by simp [cutPrefix, pre41, h41]
        have hdl : (t.drop 1).length < 1099511627776 := by simp; omega
        have hm : method s = if t.drop 1 = [86] then (if 32 < wide l then ([], ⟨0, []⟩, 3) else (l, ⟨0, []⟩, 0))
            else if (parse (t.drop 1)).2 ≠ 0 then ([], ⟨0, []⟩, (parse (t.drop 1)).2)
            else if 32 < wide l then ([], ⟨0, []⟩, 3) else (l, (parse (t.drop 1)).1, 0) := by
          simp only [method, h40, if_true, hr1, hr2, h41]
        generalize t.drop 1 = back at *
        have hw0 : ¬ 32 < wide [] := by simp [wide, longs]
        by_cases h86 : back = [86]
        · subst h86
          by_cases hw : 32 < wide l
          · cases l with
            | nil =>
              exact absurd hw hw0
            | cons x l =>
              obtain ⟨xk, xn⟩ := x
              simp at hll'
              simp [hts, hcut, hc2, hm, hll', hw]
              exact finS_of 9 (by simp)
          · cases l with
            | nil =>
              simp [hts, hcut, hc2, hm, hw]
              refine dk_of (by decide) ?_
              simp
              exact finS_of 9 (by simp)
            | cons x l =>
              obtain ⟨xk, xn⟩ := x
              simp at hll'
              simp [hts, hcut, hc2, hm, hll', hw]
              refine dk_of (by decide) ?_
              simp
              exact finS_of 9 (by simp)
        · cases hp : parse back with
          | mk ty er =>
            rw [hp] at hm
            obtain ⟨tk, tn⟩ := ty
            by_cases he : er = 0
            · subst he
              by_cases hw : 32 < wide l
              · cases l with
                | nil =>
                  exact absurd hw hw0
                | cons x l =>
                  obtain ⟨xk, xn⟩ := x
                  simp at hll'
                  simp [hts, hcut, hc2, hm, hll', hw, h86, hp, hdl]
                  exact finS_of 9 (by simp)
              · cases l with
                | nil =>
                  simp [hts, hcut, hc2, hm, hw, h86, hp, hdl]
                  refine dk_of (by decide) ?_
                  simp
                  refine sd_of (by decide) ?_
                  simp
                  exact finS_of 9 (by simp)
                | cons x l =>
                  obtain ⟨xk, xn⟩ := x
                  simp at hll'
                  simp [hts, hcut, hc2, hm, hll', hw, h86, hp, hdl]
                  refine dk_of (by decide) ?_
                  simp
                  refine sd_of (by decide) ?_
                  simp
                  exact finS_of 9 (by simp)
            · cases l with
              | nil =>
                simp [hts, hcut, hc2, hm, h86, hp, hdl, he]
                exact finS_of 9 (by simp)
              | cons x l =>
                obtain ⟨xk, xn⟩ := x
                simp at hll'
                simp [hts, hcut, hc2, hm, h86, hp, hdl, he]
                exact finS_of 9 (by simp)
      · have hc2 : cutPrefix t [41] = (t, false) := by simp [cutPrefix, pre41, h41]
        have hm : method s = ([], ⟨0, []⟩, 100) := by
          simp only [method, h40, if_true, hr1, hr2, h41, if_false]
        cases l with
        | nil =>
          simp [hts, hcut, hc2, hm]
          exact finS_of 9 (by simp)
        | cons x l =>
          simp [hts, hcut, hc2, hm]
          exact finS_of 9 (by simp)
    · have hcut : cut t = (t.take (descLen t 0), t.drop (descLen t 0)) := by simp [cut, h0]
      have ho := of_ok h0
      have hd := descLen_le t 0
      have hne := ho.1
      have hlen2 : (t.take (descLen t 0)).length < 1099511627776 := by simp; omega
      generalize hq : t.take (descLen t 0) = q at *
      rw [typesOf_some h0, hq] at hty
      cases l with
      | nil =>
        simp [hts, hcut, hne, ho, hlen2]
        refine nextQ_of (t.drop (descLen t 0), [tyOf q]) ⟨by simp; omega, by simp; omega, by simpa using hty⟩ (by simp; omega) (weak_frL rfl rfl (by simp))
      | cons x l =>
        simp at hll
        have hb : (l.length + 1 + 1) * 24 ≤ 140737488355328 := by omega
        simp [hts, hcut, hne, ho, hlen2, hb]
        refine nextQ_less (t.drop (descLen t 0), x :: (l ++ [tyOf q])) ⟨by simp; omega, by simp; omega, by simpa using hty⟩ (by simp; omega) (less_frL fz_gl (st2 := [.row 2 0 0 [encTy (tyOf q)]]) (by simp [G0.2]) rfl (by simp) (by simp) (by simp))
  · have hc : cutPrefix s [40] = (s, false) := by simp [cutPrefix, pre40, h40]
    have hm : method s = ([], ⟨0, []⟩, 100) := by simp [method, h40]
    simp [Tryz.f98, entry, hc]
    refine lp_of okx mixed (fun (_ : Unit) => ⟨64, frL [(3, .ptr 0 0 0 0), (5, .str s), (6, .bool false), (7, .snil)], [.row 2 0 0 [encTy ⟨0, []⟩]]⟩) (fun _ => True) (fun _ => 0) () trivial (weak_frL rfl rfl (by simp)) ?_
    intro _ _
    simp [hm]
    exact finS_of 9 (by simp)
end Go.Proofs.YthchohjhcjkgjaaGreatDoor.Lift
namespace Go.Proofs.YthchohjhcjkgjaaGreatDoor.Lift
open Go

/-- may a text stand in a pool? -/
def goodT (s : Str) : Bool := s.all fun c => decide (33 ≤ c.toNat) && decide (c.toNat ≤ 126)
def rightT (s : Str) : Bool := decide (s.length ≤ 255) && goodT s
/-- has a number 32 bits? -/
def smallN (n : Int) : Bool := decide (n = IntKind.wrap .i64 (IntKind.wrap .i32 n))
def noEntry : AEntry := ⟨0, [], 0, 0, 0⟩
def noConst : AConst := ⟨0, 0, [], [], []⟩
/-- the entry of a number -/
def entAt (p : List AEntry) (i : Int) : AEntry := if i < 0 then noEntry else p.getD i.toNat noEntry
/-- its tag -/
def tagAt (p : List AEntry) (i : Int) : Int := (entAt p i).tag
/-- is an entry right in its place? -/
def fitsX (p : List AEntry) (i : Nat) (x : AEntry) : Bool :=
  if x.tag = 1 then decide (x = ⟨1, x.text, 0, 0, 0⟩) && rightT x.text
  else if x.tag = 3 then decide (x = ⟨3, [], x.n, 0, 0⟩) && smallN x.n
  else if x.tag = 5 then decide (x = ⟨5, [], x.n, 0, 0⟩) && decide (p[i + 1]? = some noEntry)
  else if x.tag = 7 then decide (x = ⟨7, [], 0, x.a, 0⟩) && decide (tagAt p x.a = 1)
  else if x.tag = 9 ∨ x.tag = 10 then decide (x = ⟨x.tag, [], 0, x.a, x.b⟩) && (decide (tagAt p x.a = 7) && decide (tagAt p x.b = 12))
  else if x.tag = 12 then decide (x = ⟨12, [], 0, x.a, x.b⟩) && (decide (tagAt p x.a = 1) && decide (tagAt p x.b = 1))
  else false
def fitsE (p : List AEntry) (i : Nat) : Bool := fitsX p i (p.getD i noEntry)
/-- is a number's entry right, or the second one of a long? -/
def sits (p : List AEntry) (i : Nat) : Bool := decide ((p.getD (i - 1) noEntry).tag = 5) || fitsE p i
/-- Check: 7.1 -/
def checkPool (p : List AEntry) : Int := if p.length = 0 ∨ 1024 < p.length ∨ p.getD 0 noEntry ≠ noEntry then 70 else if ∀ i, i < p.length → 1 ≤ i → sits p i = true then 0 else 70
/-- what an entry means -/
def meanC (p : List AEntry) (i : Int) : AConst :=
  let x := entAt p i
  if x.tag = 3 ∨ x.tag = 5 then ⟨x.tag, x.n, [], [], []⟩
  else if x.tag = 7 then ⟨7, 0, (entAt p x.a).text, [], []⟩
  else if x.tag = 9 ∨ x.tag = 10 then ⟨x.tag, 0, (entAt p (entAt p x.a).a).text, (entAt p (entAt p x.b).a).text, (entAt p (entAt p x.b).b).text⟩
  else noConst
/-- Const: 7.3 -/
def constT (p : List AEntry) (i : Int) : AConst × Int := if checkPool p = 0 then (if (meanC p i).tag = 0 then (meanC p i, 2) else (meanC p i, 0)) else (noConst, 70)
end Go.Proofs.YthchohjhcjkgjaaGreatDoor.Lift
namespace Go.Proofs.YthchohjhcjkgjaaGreatDoor.Lift
open Go
set_option maxRecDepth 100000

/-- a pointer to something frozen -/
def cRp {α : Type} (c : Cod α) : Cod α where
  enc := fun x => .rp (c.enc x) 0
  dec := fun v => match v with | .rp x 0 => c.dec x | _ => none
  de := c.de
  ed := fun v x h => by
    split at h
    · rw [c.ed _ _ h]
    · cases h
  fz := fun x => c.fz x
/-- a closure with one captured variable -/
def cFn1 {α : Type} (f : Nat) (c : Cod α) : Cod α where
  enc := fun x => .fn (.func f) [] [c.enc x]
  dec := fun v => match v with | .fn (.func g) [] [x] => if g = f then c.dec x else none | _ => none
  de := fun x => by simp [c.de]
  ed := fun v x h => by
    split at h
    · rename_i g y
      split at h
      · rename_i e; subst e; rw [c.ed _ _ h]
      · cases h
    · cases h
  fz := fun x => by simp [fz, fzL, c.fz]
@[simp] theorem cRp_dec {α : Type} (c : Cod α) (x : AV) : (cRp c).dec (.rp x 0) = c.dec x := rfl
@[simp] theorem cRp_enc {α : Type} (c : Cod α) (x : α) : (cRp c).enc x = .rp (c.enc x) 0 := rfl
@[simp] theorem cFn1_dec {α : Type} (f : Nat) (c : Cod α) (x : AV) : (cFn1 f c).dec (.fn (.func f) [] [x]) = c.dec x := by simp [cFn1]
@[simp] theorem cFn1_enc {α : Type} (f : Nat) (c : Cod α) (x : α) : (cFn1 f c).enc x = .fn (.func f) [] [c.enc x] := rfl

theorem p_up11 : SoundP Tryz.prog gl 147 (fn2 cClass (cRp cStr) encBool fun c s => some (decide (c.name = s))) := by
  refine soundP_of_wk okX_nil mixed Tryz.func147 rfl rfl fun args r h G0 => ?_
  obtain ⟨c, s, e, rfl, he, rfl⟩ := fn2_inv h
  cases he
  simp [Tryz.f147, entry]
  exact finS_fz (by simp)

/-- the place of the first class of a name -/
def placeOf (l : List AClass) (s : Str) : Nat := l.findIdx fun c => decide (c.name = s)
def placeInt (l : List AClass) (s : Str) : Int := if placeOf l s < l.length then placeOf l s else -1
theorem p_IndexFuncUp : SoundP Tryz.prog gl 146 (fn2 (cL cClass) (cFn1 147 (cRp cStr)) encInt fun l s => if l.length < 1099511627776 then some (placeInt l s) else none) := by
  have okx := okX_nil.addP p_up11
  refine soundP_of_wk okx mixed Tryz.func146 rfl rfl fun args r h G0 => ?_
  obtain ⟨l, s, e, rfl, he, rfl⟩ := fn2_inv h
  simp only [Option.ite_none_right_eq_some, Option.some.injEq] at he
  obtain ⟨hs, rfl⟩ := he
  simp [Tryz.f146, entry]
  refine lp_of okx mixed (fun (i : Nat) => ⟨19, frL [(0, .sl (l.map encClass)), (1, .fn (.func 147) [] [.rp (.str s) 0]), (7, .int .i64 l.length), (8, .int .i64 i)], []⟩) (fun i => i ≤ l.length ∧ ∀ (j : Nat) (h : j < l.length), j < i → ¬ l[j].name = s) (fun i => l.length - i) 0 (by simp) (weak_frL rfl rfl (by simp)) ?_
  intro i ⟨hi, hn⟩
  simp
  refine br_dec (fun h3 => ?_) (fun h3 => ?_)
  · have hx : l[i]? = some l[i] := by simp [h3]
    have hw := wrap_i64 (show (-9223372036854775808 : Int) ≤ (i : Int) + 1 by omega) (by omega)
    simp [hx]
    refine br_dec (fun h4 => ?_) (fun h4 => ?_)
    · have hp : placeOf l s = i := by
        unfold placeOf
        rw [List.findIdx_eq h3]
        exact ⟨by simpa using h4, fun j hj => by simpa using hn j (by omega) hj⟩
      simp
      exact finS_eq (by simp [placeInt, hp, h3]) rfl
    · simp [hw]
      refine nextQ_of (i + 1) ⟨h3, fun j hj hji => ?_⟩ (by omega) (weak_frL rfl rfl (by simp))
      rcases Nat.lt_or_ge j i with h5 | h5
      · exact hn j hj h5
      · have : j = i := by omega
        subst this
        exact h4
  · have hi' : i = l.length := by omega
    have hp : placeOf l s = l.length := by
      unfold placeOf
      rw [List.findIdx_eq_length]
      intro c hc
      obtain ⟨j, hj, rfl⟩ := List.getElem_of_mem hc
      simpa using hn j hj (by omega)
    simp
    exact finS_eq (by simp [placeInt, hp]) rfl

/-- what is above a class at once -/
def superOf (l : List AClass) (s : Str) : Str := if h : placeOf l s < l.length then l[placeOf l s].super else []
/-- how many classes' supers were not met -/
def unmet (l : List AClass) (met : List Str) : Nat := (l.filter fun c => decide (c.super ∉ met)).length
theorem superOf_mem {l : List AClass} {s : Str} (h : superOf l s ≠ []) : ∃ c ∈ l, c.super = superOf l s := by
  unfold superOf at h ⊢
  split
  · exact ⟨_, List.getElem_mem _, rfl⟩
  · rename_i h'; rw [dif_neg h'] at h; exact absurd rfl h
theorem filter_lt {α : Type} {p q : α → Bool} {l : List α} (hpq : ∀ x, q x = true → p x = true) {a : α} (ha : a ∈ l) (h1 : p a = true) (h2 : q a = false) : (l.filter q).length < (l.filter p).length := by
  induction l with
  | nil => cases ha
  | cons b l ih =>
    have hle : (l.filter q).length ≤ (l.filter p).length := by
      clear ih ha
      induction l with
      | nil => simp
      | cons c l ih =>
        simp only [List.filter_cons]
        cases hq : q c with
        | true => simp [hpq c hq, ih]
        | false => cases p c <;> simp <;> omega
    simp only [List.filter_cons]
    rcases List.mem_cons.1 ha with rfl | hb
    · simp [h1, h2]; omega
    · have := ih hb
      cases hq : q b with
      | true => simp [hpq b hq, this]
      | false => cases p b <;> simp <;> omega
theorem unmet_lt {l : List AClass} {met : List Str} {s : Str} (h : superOf l s ≠ []) (h' : superOf l s ∉ met) : unmet l (met ++ [superOf l s]) < unmet l met := by
  obtain ⟨c, hc, e⟩ := superOf_mem h
  refine filter_lt (a := c) (fun x hx => ?_) hc (by simpa [e] using h') (by simp [e])
  simp at hx ⊢
  exact hx.1
/-- the classes above one: 10.2 -/
def aboveOf (l : List AClass) (met : List Str) (s : Str) : List Str :=
  if h : superOf l s = [] ∨ superOf l s ∈ met then [] else superOf l s :: aboveOf l (met ++ [superOf l s]) (superOf l s)
termination_by unmet l met
decreasing_by exact unmet_lt (fun e => h (.inl e)) (fun e => h (.inr e))
theorem aboveOf_nil {l : List AClass} {met : List Str} {s : Str} (h : superOf l s = [] ∨ superOf l s ∈ met) : aboveOf l met s = [] := by rw [aboveOf]; simp [h]
theorem aboveOf_cons {l : List AClass} {met : List Str} {s : Str} (h : superOf l s ≠ []) (h' : superOf l s ∉ met) : aboveOf l met s = superOf l s :: aboveOf l (met ++ [superOf l s]) (superOf l s) := by
  conv => lhs; rw [aboveOf]
  rw [dif_neg fun e => e.elim h h']

/-- kind.up makes an iterator of what it takes -/
def sUp : Spec := fun args st => match args with
  | [.sl xs, .str s] => some (.fn (.func 145) [] [.ptr (st.length + 1) 0 0 0, .ptr st.length 0 0 0], st ++ [.row 1 0 0 [.sl xs], .row 1 0 0 [.str s]])
  | _ => none
theorem a_up : SoundA Tryz.prog gl 74 sUp := by
  refine soundA_of_wk okA_nil mixed Tryz.func74 rfl rfl fun args st r st' h J okx G0 => ?_
  unfold sUp at h
  split at h
  · cases h
    simp [Tryz.f74, entry]
  · cases h

/-- what kind.up's iterator yields -/
def gUp : List AV → Sto → Option (List (List AV)) := fun cap own => match cap, own with
  | [.ptr 2 0 0 0, .ptr 1 0 0 0], [.row 1 0 0 [.sl xs], .row 1 0 0 [.str s]] => match mapO decClass xs with
    | some l => if l.length < 1099511627776 then some ((aboveOf l [s] s).map fun n => [.str n]) else none
    | none => none
  | _, _ => none
theorem yieldS_eq {xs : List (List AV)} {k t : Nat} {args : List AV} {r : Sto} (h1 : t ≤ k) (h2 : xs[t]? = some args) : yieldS xs k args (.tick t :: r) = some (.bool (decide (t ≠ k)), .tick (t + 1) :: r) := by
  unfold yieldS
  exact if_pos ⟨h1, h2⟩
/-- the names that were met, as a map -/
def metMap (met : List Str) : List (AV × AV) := met.map fun s => (.str s, .bool true)
@[simp] theorem mget_met (s : Str) : ∀ met : List Str, mget (metMap met) (.str s) = some (if s ∈ met then some (.bool true) else none)
  | [] => rfl
  | m :: met => by
    have ih := mget_met s met
    simp only [metMap, List.map_cons, mget, keyEq] at ih ⊢
    by_cases h : m = s
    · simp [h]
    · have : ¬ s = m := fun e => h e.symm
      simp [h, this, ih]
theorem mset_met {s : Str} : ∀ {met : List Str}, s ∉ met → mset (metMap met) (.str s) (.bool true) = some (metMap (met ++ [s]))
  | [], _ => rfl
  | m :: met, h => by
    simp only [List.mem_cons, not_or] at h
    have ih := mset_met h.2
    have : ¬ m = s := fun e => h.1 e.symm
    simp only [metMap, List.map_cons, List.cons_append, mset, keyEq] at ih ⊢
    simp [this, ih]
theorem i_up : SoundI Tryz.prog gl 145 gUp := by
  refine soundI_of_wk (okA_nil.addP p_IndexFuncUp) mixed Tryz.func145 rfl rfl rfl fun cap own xs h J l k okx G0 => ?_
  unfold gUp at h
  split at h
  · rename_i ys s
    split at h
    · rename_i cs hcs
      split at h
      · rename_i hlen
        cases h
        have hys := mapO_inv edClass _ _ hcs
        subst hys
        simp [Tryz.f145, entry]
        refine lp_of okx mixed (fun (x : Nat × List Str × Str) => ⟨32, frL [(0, .fn (.yield l) [] []), (1, .ptr 2 0 0 0), (2, .ptr 1 0 0 0), (4, .mr 3)], [.tick x.1, .row 1 0 0 [.sl (cs.map encClass)], .row 1 0 0 [.str x.2.2], .map (metMap x.2.1)]⟩)
          (fun x => x.1 ≤ k ∧ x.1 ≤ (aboveOf cs [s] s).length ∧ (aboveOf cs [s] s).drop x.1 = aboveOf cs x.2.1 x.2.2) (fun x => unmet cs x.2.1) (0, [s], s) ⟨by simp, by simp, by simp⟩ (weak_frL rfl rfl (by simp)) ?_
        rintro ⟨t, met, nm⟩ ⟨htk, htl, hdr⟩
        simp only at htk htl hdr ⊢
        by_cases hp : placeOf cs nm < cs.length
        · have hpi : placeInt cs nm = placeOf cs nm := by simp [placeInt, hp]
          have hsup : superOf cs nm = cs[placeOf cs nm].super := by simp [superOf, hp]
          have hx : cs[placeOf cs nm]? = some cs[placeOf cs nm] := by simp [hp]
          have hneg : ((placeOf cs nm : Int) < 0) = False := by simp
          by_cases h1 : superOf cs nm = []
          · have h1' : cs[placeOf cs nm].super = [] := by rw [← hsup]; exact h1
            have hnil := aboveOf_nil (l := cs) (met := met) (s := nm) (.inl h1)
            have hlen' : t = (aboveOf cs [s] s).length := by
              rw [hnil] at hdr
              have := congrArg List.length hdr
              simp at this
              omega
            simp [hlen, hpi, hx, h1', hneg]
            omega
          · have h1' : ¬ cs[placeOf cs nm].super = [] := by rw [← hsup]; exact h1
            by_cases h2 : superOf cs nm ∈ met
            · have h2' : cs[placeOf cs nm].super ∈ met := by rw [← hsup]; exact h2
              have hnil := aboveOf_nil (l := cs) (met := met) (s := nm) (.inr h2)
              have hlen' : t = (aboveOf cs [s] s).length := by
                rw [hnil] at hdr
                have := congrArg List.length hdr
                simp at this
                omega
              simp [hlen, hpi, hx, h1', hneg, h2']
              omega
            · have h2' : ¬ cs[placeOf cs nm].super ∈ met := by rw [← hsup]; exact h2
              have hcons := aboveOf_cons h1 h2
              have hms := mset_met h2'
              have hget : ((aboveOf cs [s] s).map fun n => [AV.str n])[t]? = some [.str cs[placeOf cs nm].super] := by
                have : ((aboveOf cs [s] s).drop t)[0]? = some (superOf cs nm) := by rw [hdr, hcons]; first | done | rfl
                rw [List.getElem?_drop] at this
                simp only [Nat.add_zero] at this
                rw [List.getElem?_map, this, hsup]
                rfl
              have hlt : t < (aboveOf cs [s] s).length := by
                have := (List.getElem?_eq_some_iff.1 hget).1
                simpa using this
              have hy := fun r => yieldS_eq (r := r) htk hget
              by_cases h3 : t = k
              · subst h3
                simp [hlen, hpi, hx, h1', hneg, h2', hms, hy]
                omega
              · simp [hlen, hpi, hx, h1', hneg, h2', hms, hy, h3]
                refine nextQ_of (t + 1, met ++ [superOf cs nm], superOf cs nm) ⟨by omega, by omega, ?_⟩ (unmet_lt h1 h2) (weak_frL rfl ?_ (by simp))
                · rw [hcons] at hdr
                  have := congrArg List.tail hdr
                  simpa [List.tail_drop] using this
                · simp [hsup]
        · have hpi : placeInt cs nm = -1 := by simp [placeInt, hp]
          have hnil := aboveOf_nil (l := cs) (met := met) (s := nm) (.inl (by simp [superOf, hp]))
          have hlen' : t = (aboveOf cs [s] s).length := by
            rw [hnil] at hdr
            have := congrArg List.length hdr
            simp at this
            omega
          simp [hlen, hpi]
          omega
      · cases h
    · cases h
  · cases h
end Go.Proofs.YthchohjhcjkgjaaGreatDoor.Lift
namespace Go.Proofs.YthchohjhcjkgjaaGreatDoor.Lift
open Go
set_option maxRecDepth 100000

theorem unmet_le (l : List AClass) (met : List Str) : unmet l met ≤ l.length := List.length_filter_le _ _
theorem aboveOf_len (l : List AClass) : ∀ (n : Nat) (met : List Str) (s : Str), unmet l met ≤ n → (aboveOf l met s).length ≤ unmet l met := by
  intro n
  induction n with
  | zero =>
    intro met s h
    by_cases h1 : superOf l s = [] ∨ superOf l s ∈ met
    · rw [aboveOf_nil h1]; simp
    · have := unmet_lt (fun e => h1 (.inl e)) (fun e => h1 (.inr e))
      omega
  | succ n ih =>
    intro met s h
    by_cases h1 : superOf l s = [] ∨ superOf l s ∈ met
    · rw [aboveOf_nil h1]; simp
    · have hlt := unmet_lt (fun e => h1 (.inl e)) (fun e => h1 (.inr e))
      rw [aboveOf_cons (fun e => h1 (.inl e)) (fun e => h1 (.inr e))]
      have := ih (met ++ [superOf l s]) (superOf l s) (by omega)
      simp
      omega
theorem aboveOf_le (l : List AClass) (met : List Str) (s : Str) : (aboveOf l met s).length ≤ l.length := Nat.le_trans (aboveOf_len l _ met s (Nat.le_refl _)) (unmet_le l met)

@[simp] theorem blwL_strs (k : Nat) : ∀ l : List Str, blwL k (l.map .str) = true
  | [] => rfl
  | _ :: l => by simp [blwL_strs k l]
@[simp] theorem fzL_strs : ∀ l : List Str, fzL (l.map .str) = true
  | [] => rfl
  | _ :: l => by simp [fzL_strs l]
/-- the collected names, and where they lie -/
def upRes : List Str → AV
  | [] => .snil
  | _ :: r => .sr 4 r.length 0 (r.length + 1)
def upSto : List Str → Sto
  | [] => [.dead 1 0, .dead 1 0, .row 1 0 0 [.snil]]
  | x :: r => [.dead 1 0, .dead 1 0, .row 1 0 0 [.sr 4 r.length 0 (r.length + 1)], .row 1 0 0 [.str x], .row 1 r.length 0 ((x :: r).map .str)]
@[simp] theorem upRes_nil : upRes [] = .snil := rfl
@[simp] theorem upRes_cons (x : Str) (r : List Str) : upRes (x :: r) = .sr 4 r.length 0 (r.length + 1) := rfl
@[simp] theorem upSto_nil : upSto [] = [.dead 1 0, .dead 1 0, .row 1 0 0 [.snil]] := rfl
@[simp] theorem upSto_cons (x : Str) (r : List Str) : upSto (x :: r) = [.dead 1 0, .dead 1 0, .row 1 0 0 [.sr 4 r.length 0 (r.length + 1)], .row 1 0 0 [.str x], .row 1 r.length 0 (.str x :: r.map .str)] := rfl
/-- slices.AppendSeq of nothing and of kind.up's iterator -/
def sAppendUp : Spec := fun args st => match args, st with
  | [.snil, .fn (.func 145) [] [.ptr 1 0 0 0, .ptr 0 0 0 0]], [.row 1 0 0 [.sl xs], .row 1 0 0 [.str s]] => match mapO decClass xs with
    | some l => if l.length < 1099511627776 then some (upRes (aboveOf l [s] s), upSto (aboveOf l [s] s)) else none
    | none => none
  | _, _ => none

/-- slices.Collect of kind.up's iterator -/
def sCollectUp : Spec := fun args st => sAppendUp (.snil :: args) st
end Go.Proofs.YthchohjhcjkgjaaGreatDoor.Lift
namespace Go.Proofs.YthchohjhcjkgjaaGreatDoor.Lift
open Go
set_option maxRecDepth 100000

theorem superOf_nil (s : Str) : superOf [] s = [] := by simp [superOf]
theorem superOf_cons (c : AClass) (l : List AClass) (s : Str) : superOf (c :: l) s = if c.name = s then c.super else superOf l s := by
  unfold superOf placeOf
  by_cases h : c.name = s
  · simp [List.findIdx_cons, h]
  · by_cases h2 : List.findIdx (fun c => decide (c.name = s)) l < l.length
    · simp [List.findIdx_cons, h, h2]
    · simp [List.findIdx_cons, h, h2]

set_option maxHeartbeats 1000000 in
theorem p_refAbove : SoundP Tryz.prog gl 37 (fn2 (cL cClass) cStr (cL cStr).enc fun l s => if l.length < 1099511627776 then some (aboveOf l [s] s) else none) := by
  refine soundP_of_wk okX_nil mixed Tryz.func37 rfl rfl fun args r h G0 => ?_
  obtain ⟨l, s, e, rfl, he, rfl⟩ := fn2_inv h
  simp only [Option.ite_none_right_eq_some, Option.some.injEq] at he
  obtain ⟨hs, rfl⟩ := he
  have hmax := aboveOf_le l [s] s
  simp [Tryz.f37, entry]
  refine lp_of okX_nil mixed (fun (x : List Str × List Str × Str) => ⟨57, frL [(0, .sl (l.map encClass)), (1, .str x.2.2), (5, .sr 0 x.2.1.length 0 x.2.1.length), (6, .sr 1 x.2.1.length 0 (x.2.1.length + 1))], [.row 1 x.2.1.length 0 (x.2.1.map .str), .row 1 x.2.1.length 0 (x.1.map .str)]⟩)
    (fun x => x.1.length = x.2.1.length + 1 ∧ x.2.1 ++ aboveOf l x.1 x.2.2 = aboveOf l [s] s) (fun x => unmet l x.1) ([s], [], s) ⟨by simp, by simp⟩ (weak_frL rfl rfl (by simp)) ?_
  rintro ⟨met, out, nm⟩ ⟨hml, hout⟩
  simp only at hml hout ⊢
  have hol : out.length ≤ l.length := by
    have := congrArg List.length hout
    simp at this
    omega
  have hw0 : IntKind.wrap .i64 ((l.length : Int) - 1) = (l.length : Int) - 1 := wrap_i64 (by omega) (by omega)
  simp [hw0]
  refine lp_of okX_nil mixed (fun (j : Nat) => ⟨57, frL [(0, .sl (l.map encClass)), (1, .str nm), (5, .sr 0 out.length 0 out.length), (6, .sr 1 out.length 0 (out.length + 1)), (7, .str (superOf (l.drop j) nm)), (8, .int .i64 ((j : Int) - 1))], [.row 1 out.length 0 (out.map .str), .row 1 out.length 0 (met.map .str)]⟩)
    (fun j => j ≤ l.length) (fun j => j) l.length (Nat.le_refl _) (weak_frL rfl rfl (by simp [superOf_nil])) ?_
  intro j hj
  simp
  cases j with
  | succ j =>
    have hx : l[j]? = some l[j] := List.getElem?_eq_getElem hj
    have e0 : (1 ≤ (j : Int) + 1) = True := by simp; omega
    have hsup : superOf (l.drop j) nm = if l[j].name = nm then l[j].super else superOf (l.drop (j + 1)) nm := by rw [List.drop_eq_getElem_cons hj, superOf_cons]
    have hw : IntKind.wrap .i64 ((j : Int) - 1) = (j : Int) - 1 := wrap_i64 (by omega) (by omega)
    simp [hx, e0]
    refine br_dec (fun h4 => ?_) (fun h4 => ?_)
    · simp [hx, hw]
      exact nextQ_of j (by omega) (by omega) (weak_frL rfl rfl (by simp [hsup, h4]))
    · simp [hw]
      exact nextQ_of j (by omega) (by omega) (weak_frL rfl rfl (by simp [hsup, h4]))
  | zero =>
    simp
    refine br_dec (fun h5 => ?_) (fun h5 => ?_)
    · rw [aboveOf_nil (.inl h5), List.append_nil] at hout
      subst hout
      simp
      exact finS_of 9 (by simp)
    · simp
      refine lp_of okX_nil mixed (fun (i : Nat) => ⟨57, frL [(0, .sl (l.map encClass)), (1, .str nm), (5, .sr 0 out.length 0 out.length), (6, .sr 1 out.length 0 (out.length + 1)), (7, .str (superOf l nm)), (9, .int .i64 i)], [.row 1 out.length 0 (out.map .str), .row 1 out.length 0 (met.map .str)]⟩)
        (fun i => i ≤ met.length ∧ ∀ (j : Nat) (h : j < met.length), j < i → ¬ met[j] = superOf l nm) (fun i => met.length - i) 0 (by simp) (weak_frL rfl rfl (by simp)) ?_
      intro i ⟨hi, hn⟩
      have e1 : ((i : Int) < (out.length : Int) + 1) = (i < met.length) := by rw [hml]; simp; omega
      simp [e1]
      refine br_dec (fun h6 => ?_) (fun h6 => ?_)
      · have hx : met[i]? = some met[i] := by simp [h6]
        have hlt : i < out.length + 1 := by omega
        have hw := wrap_i64 (show (-9223372036854775808 : Int) ≤ (i : Int) + 1 by omega) (by omega)
        simp [hx, hlt, e1, h6]
        refine br_dec (fun h7 => ?_) (fun h7 => ?_)
        · rw [aboveOf_nil (.inr (by rw [← h7]; exact List.getElem_mem _)), List.append_nil] at hout
          subst hout
          simp
          exact finS_of 9 (by simp)
        · simp [hw]
          refine nextQ_of (i + 1) ⟨h6, fun j hj hji => ?_⟩ (by omega) (weak_frL rfl rfl (by simp))
          rcases Nat.lt_or_ge j i with h8 | h8
          · exact hn j hj h8
          · have : j = i := by omega
            subst this
            exact h7
      · have hnm : superOf l nm ∉ met := fun hm => by
          obtain ⟨j, hj, e⟩ := List.getElem_of_mem hm
          exact hn j hj (by omega) e
        have hb1 : (out.length + 1) * 16 ≤ 140737488355328 := by omega
        have hb2 : (out.length + 1 + 1) * 16 ≤ 140737488355328 := by omega
        rw [aboveOf_cons h5 hnm] at hout
        have htk : List.take (out.length + 1) (met.map AV.str) = met.map AV.str := List.take_of_length_le (by simp [hml])
        simp [hb1, hb2, hml, htk]
        refine nextQ_less (met ++ [superOf l nm], out ++ [superOf l nm], superOf l nm) ⟨by simp; omega, by simpa using hout⟩ (unmet_lt h5 hnm) (less_take fz_gl G0.2 rfl (by simp) (by simp) (by simp))
end Go.Proofs.YthchohjhcjkgjaaGreatDoor.Lift
namespace Go.Proofs.YthchohjhcjkgjaaGreatDoor.Lift
open Go
set_option maxRecDepth 100000

theorem typesOf_step {s d : Str} {n : Nat} {t : ATy} {r : List ATy × Str} (h : descLen s 0 = n) (h0 : n ≠ 0) (hd : s.drop n = d) (ht : tyOf (s.take n) = t) (hr : typesOf d = r) : typesOf s = (t :: r.1, r.2) := by
  rw [typesOf_some (by rw [h]; exact h0), h, hd, ht, hr]

theorem method_works : method [40, 73, 74, 76, 97, 59, 91, 91, 73, 41, 86] = ([⟨1, []⟩, ⟨2, []⟩, ⟨4, [97]⟩, ⟨4, [91, 91, 73]⟩], ⟨0, []⟩, 0) := by
  have : typesOf [73, 74, 76, 97, 59, 91, 91, 73, 41, 86] = ([⟨1, []⟩, ⟨2, []⟩, ⟨4, [97]⟩, ⟨4, [91, 91, 73]⟩], [41, 86]) :=
    typesOf_step (n := 1) (by decide) (by decide) rfl rfl <|
    typesOf_step (n := 1) (by decide) (by decide) rfl rfl <|
    typesOf_step (n := 3) (by decide) (by decide) rfl rfl <|
    typesOf_step (n := 3) (by decide) (by decide) rfl rfl <|
    typesOf_none (by decide)
  simp only [method, List.drop_succ_cons, List.drop_zero, this]
  decide
theorem wide_works : wide [⟨1, []⟩, ⟨2, []⟩, ⟨4, [97]⟩, ⟨4, [91, 91, 73]⟩] = 5 := by decide
theorem class_works : isClass [97, 47, 66, 95, 36, 49] = true := by decide

end Go.Proofs.YthchohjhcjkgjaaGreatDoor.Lift
namespace Go.Proofs.YthchohjhcjkgjaaGreatDoor.Lift
open Go
set_option maxRecDepth 100000

theorem indexByte_get {c : UInt8} : ∀ {r : Str} {j : Nat}, Lib.indexByte r c = j → r[j]? = some c
  | [], j, h => by
    simp only [Lib.indexByte] at h
    omega
  | b :: r, j, h => by
    simp only [Lib.indexByte] at h
    split at h
    · rename_i hb
      have : j = 0 := by omega
      subst this
      simpa using hb
    · split at h
      · omega
      · have ge := Lib.indexByte_ge r c
        cases j with
        | zero =>
          rename_i h1
          have : ¬ Lib.indexByte r c = -1 := by simpa using h1
          omega
        | succ j =>
          have := indexByte_get (c := c) (r := r) (j := j) (by omega)
          simpa using this

theorem isClass_head {s : Str} (h : isClass s = true) : s.head? ≠ some 91 := by
  cases s with
  | nil => simp
  | cons c s =>
    simp [isClass, allAt, okAt] at h
    intro hc
    simp at hc
    subst hc
    have := h.1.1
    exact absurd this (by decide)

/-- a descriptor's type has that descriptor -/
theorem texty_tyOf {s : Str} (h0 : descLen s 0 ≠ 0) (h1 : descLen s 0 = s.length) : texty (tyOf s) = s := by
  cases s with
  | nil => simp [descLen] at h0
  | cons c r =>
    simp only [descLen, Nat.not_lt_zero, if_false, List.length_cons] at h0 h1
    by_cases h73 : c = 73
    · subst h73
      simp at h1
      have : r = [] := h1
      subst this
      rfl
    · by_cases h74 : c = 74
      · subst h74
        simp at h1
        have : r = [] := h1
        subst this
        rfl
      · by_cases h76 : c = 76
        · subst h76
          simp at h0 h1
          unfold refLen at h0 h1
          split at h0
          · rename_i hc
            obtain ⟨hi, hcl⟩ := hc
            rw [if_pos ⟨hi, hcl⟩] at h1
            obtain ⟨j, hj⟩ : ∃ j : Nat, Lib.indexByte r 59 = j := ⟨(Lib.indexByte r 59).toNat, by omega⟩
            rw [hj] at h1 hcl
            simp at h1 hcl
            have hg := indexByte_get hj
            have hlt : j < r.length := by omega
            have hr : r = r.take j ++ [59] := by
              have e1 : r.take (j + 1) = r := List.take_of_length_le (by omega)
              have e2 : r[j] = 59 := by
                have : r[j]? = some r[j] := by simp [hlt]
                rw [this] at hg
                simpa using hg
              rw [← e2, ← List.take_succ_eq_append_getElem hlt, e1]
            have hty : tyOf (76 :: r) = ⟨4, r.dropLast⟩ := rfl
            have hdl : r.dropLast = r.take j := by
              conv => lhs; rw [hr]
              simp
            rw [hty, hdl]
            have := isClass_head hcl
            simp only [texty]
            simp [this]
            exact hr.symm
          · exact absurd rfl h0
        · by_cases h91 : c = 91
          · subst h91
            have hty : tyOf (91 :: r) = ⟨4, 91 :: r⟩ := rfl
            rw [hty]
            simp [texty]
          · simp [h73, h74, h76, h91] at h0

theorem print_parse {s : Str} {a : ATy} (h : parse s = (a, 0)) : print a = (s, 0) := by
  unfold parse at h
  split at h
  · simp at h
  · rename_i hc
    have h0 : descLen s 0 ≠ 0 := fun h => hc (.inl h)
    have h1 : descLen s 0 = s.length := Classical.byContradiction fun h => hc (.inr h)
    simp only [Prod.mk.injEq, and_true] at h
    subst h
    have ht := texty_tyOf h0 h1
    have hp : parse s = (tyOf s, 0) := by rw [parse, if_neg hc]
    simp only [print, ht, hp, if_true]
theorem parse_err {s : Str} {a : ATy} {e : Int} (h : parse s = (a, e)) : e = 0 ∨ (e = 100 ∧ a = ⟨0, []⟩) := by
  unfold parse at h
  split at h
  · cases h; exact .inr ⟨rfl, rfl⟩
  · cases h; exact .inl rfl
theorem print_ok {x : ATy} {t : Str} (h : print x = (t, 0)) : parse t = (x, 0) := by
  unfold print at h
  split at h
  · cases h; assumption
  · simp at h
theorem print_cases (x : ATy) : (∃ t, print x = (t, 0) ∧ parse t = (x, 0)) ∨ print x = ([], 100) := by
  unfold print
  split
  · exact .inl ⟨_, rfl, by assumption⟩
  · exact .inr rfl

end Go.Proofs.YthchohjhcjkgjaaGreatDoor.Lift
namespace Go.Proofs.YthchohjhcjkgjaaGreatDoor.Lift
open Go
set_option maxRecDepth 100000

/-- Elem: 10.1 -/
def elem (x : ATy) : ATy × Int :=
  if (print x).2 = 0 ∧ (print x).1.head? = some 91 then (if (print x).1 = [91, 66] then (⟨1, []⟩, 0) else (tyOf ((print x).1.drop 1), 0)) else (⟨0, []⟩, 100)

/-- an array's elements have a descriptor -/
theorem elem_ok {s : Str} (h : parse s = (⟨4, s⟩, 0)) (h1 : s.head? = some 91) (h2 : s ≠ [91, 66]) : OfOk (s.drop 1) := by
  cases s with
  | nil => simp at h1
  | cons c r =>
    simp at h1
    subst h1
    unfold parse at h
    split at h
    · simp at h
    · rename_i hc
      have h0 : descLen (91 :: r) 0 ≠ 0 := fun h => hc (.inl h)
      have hl : descLen (91 :: r) 0 = (91 :: r).length := Classical.byContradiction fun h => hc (.inr h)
      simp only [List.drop_succ_cons, List.drop_zero]
      have hd : descLen (91 :: r) 0 = if r.head? = some 66 then 2 else if descLen r 1 = 0 then 0 else descLen r 1 + 1 := by simp [descLen]
      rw [hd] at h0 hl
      by_cases hB : r.head? = some 66
      · rw [if_pos hB] at hl
        exfalso
        cases r with
        | nil => simp at hB
        | cons d r =>
          simp at hB hl
          subst hB
          exact h2 (by simp [hl])
      · rw [if_neg hB] at h0 hl
        by_cases hz : descLen r 1 = 0
        · rw [if_pos hz] at h0; exact absurd rfl h0
        · rw [if_neg hz] at hl
          refine ⟨by rintro rfl; simp [descLen] at hz, fun h76 => ?_⟩
          cases r with
          | nil => simp at h76
          | cons d r =>
            simp at h76
            subst h76
            have e : descLen (76 :: r) 1 = refLen r := by simp [descLen]
            have := refLen_ge r (by rw [← e]; exact hz)
            rw [e] at hl
            simp at hl ⊢
            omega

theorem print_array {x : ATy} {t : Str} (h : print x = (t, 0)) (h1 : t.head? = some 91) : x = ⟨4, t⟩ := by
  unfold print at h
  split at h
  · simp only [Prod.mk.injEq, and_true] at h
    subst h
    obtain ⟨k, nm⟩ := x
    simp only [texty] at h1 ⊢
    split at h1
    · simp at h1
    · split at h1
      · simp at h1
      · split at h1
        · rename_i a b c
          subst c
          split at h1
          · rename_i d
            simp [d]
          · simp at h1
        · simp at h1
  · simp at h

theorem p_kindElem : SoundP Tryz.prog gl 73 (fn1 cTy encTyErr fun x => if x.name.length < 1099511600000 then some (elem x) else none) := by
  refine soundP_of_wk (((okX_nil.addP p_of).addP p_array).addP p_kindPrint) mixed Tryz.func73 rfl rfl fun args r h G0 => ?_
  obtain ⟨x, e, rfl, he, rfl⟩ := fn1_inv h
  simp only [Option.ite_none_right_eq_some, Option.some.injEq] at he
  obtain ⟨hs, rfl⟩ := he
  obtain ⟨k, nm⟩ := x
  simp at hs
  cases hp : print ⟨k, nm⟩ with
  | mk t er =>
    by_cases h0 : er = 0
    · subst h0
      by_cases h91 : t.head? = some 91
      · by_cases hB : t = [91, 66]
        · subst hB
          have hel : elem ⟨k, nm⟩ = (⟨1, []⟩, 0) := by simp [elem, hp]
          simp [Tryz.f73, entry, hs, hp, hel]
          exact finS_fz (by simp)
        · have hel : elem ⟨k, nm⟩ = (tyOf (t.drop 1), 0) := by simp only [elem, hp]; simp [h91, hB]
          have hx := print_array hp h91
          simp only [ATy.mk.injEq] at hx
          obtain ⟨rfl, rfl⟩ := hx
          have ho := elem_ok (print_ok hp) h91 hB
          have hlen : (nm.drop 1).length < 1099511627776 := by simp; omega
          have h1len : 1 ≤ nm.length := by
            cases nm with
            | nil => simp at h91
            | cons c r => simp
          generalize hq : nm.drop 1 = q at *
          simp [Tryz.f73, entry, hs, hp, hel, h91, hB, ho, hlen, h1len, hq]
          exact finS_fz (by simp)
      · have hel : elem ⟨k, nm⟩ = (⟨0, []⟩, 100) := by simp [elem, hp, h91]
        simp [Tryz.f73, entry, hs, hp, hel, h91]
        exact finS_fz (by simp)
    · have hel : elem ⟨k, nm⟩ = (⟨0, []⟩, 100) := by simp [elem, hp, h0]
      simp [Tryz.f73, entry, hs, hp, hel, h0]
      exact finS_fz (by simp)
end Go.Proofs.YthchohjhcjkgjaaGreatDoor.Lift
