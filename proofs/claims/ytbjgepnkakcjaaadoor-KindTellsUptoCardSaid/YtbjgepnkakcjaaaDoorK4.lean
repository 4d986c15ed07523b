/-
  K4: contracts of the two Class functions (is a text a class's name?).
-/
import Derived.Test.YtbjgepnkakcjaaaDoorK3
namespace Go.Proofs.YtbjgepnkakcjaaaDoor.Lift
open Go
set_option maxRecDepth 100000

/-- a letter -/
def isLetter (c : UInt8) : Bool := (decide (97 ≤ c.toNat) && decide (c.toNat ≤ 122)) || (decide (65 ≤ c.toNat) && decide (c.toNat ≤ 90))
theorem p_letter : SoundP Tryd.prog gl 37 (fn1 cByte encBool fun c => some (isLetter c)) := by
  refine soundP_of_wk okX_nil mixed Tryd.func37 rfl rfl fun args r h G0 => ?_
  obtain ⟨c, e, rfl, he, rfl⟩ := fn1_inv h
  cases he
  have e1 : (97 ≤ (c.toNat : Int)) = (97 ≤ c.toNat) := by simp; omega
  have e2 : ((c.toNat : Int) ≤ 122) = (c.toNat ≤ 122) := by simp; omega
  have e3 : (65 ≤ (c.toNat : Int)) = (65 ≤ c.toNat) := by simp; omega
  have e4 : ((c.toNat : Int) ≤ 90) = (c.toNat ≤ 90) := by simp; omega
  by_cases h1 : 97 ≤ c.toNat
  · by_cases h2 : c.toNat ≤ 122
    · simp [Tryd.f37, entry, isLetter, e1, e2, e3, e4, h1, h2]
      exact finS_fz (by simp)
    · have h3 : 65 ≤ c.toNat := by omega
      simp [Tryd.f37, entry, isLetter, e1, e2, e3, e4, h1, h2, h3]
      exact finS_fz (by simp)
  · by_cases h3 : 65 ≤ c.toNat
    · simp [Tryd.f37, entry, isLetter, e1, e2, e3, e4, h1, h3]
      exact finS_fz (by simp)
    · simp [Tryd.f37, entry, isLetter, e1, e2, e3, e4, h1, h3]
      exact finS_fz (by simp)
noncomputable abbrev E4a : Env := [(37, liftS 9 (fn1 cByte encBool fun c => some (isLetter c)))]
theorem ok4a : OkX Tryd.prog (XE E4a) := okX_nil.addP p_letter

/-- not a letter, but of a class's name behind the first byte -/
def isMore (c : UInt8) : Bool := (decide (48 ≤ c.toNat) && decide (c.toNat ≤ 57)) || decide (c.toNat = 95) || decide (c.toNat = 36) || decide (c.toNat = 47)
/-- may a byte stand at a place of a class's name? -/
def okAt (i : Nat) (c : UInt8) : Bool := isLetter c || (decide (i ≠ 0) && isMore c)
/-- a class's name -/
def allAt : Nat → Str → Bool
  | _, [] => true
  | i, c :: r => okAt i c && allAt (i + 1) r
def isClass (s : Str) : Bool := allAt 0 s && (decide (1 ≤ s.length) && decide (s.length ≤ 60))
theorem allAt_iff : ∀ (s : Str) (k : Nat), allAt k s = true ↔ ∀ (i : Nat) c, s[i]? = some c → okAt (k + i) c = true
  | [], k => by simp [allAt]
  | c :: s, k => by
    simp only [allAt, Bool.and_eq_true, allAt_iff s (k + 1)]
    constructor
    · rintro ⟨h1, h2⟩ i d hd
      cases i with
      | zero => simp at hd; subst hd; exact h1
      | succ i => simp at hd; have := h2 i d hd; rwa [show k + 1 + i = k + (i + 1) by omega] at this
    · intro h
      exact ⟨h 0 c rfl, fun i d hd => by have := h (i + 1) d (by simpa using hd); rwa [show k + (i + 1) = k + 1 + i by omega] at this⟩

theorem p_refClass : SoundP Tryd.prog gl 15 (fn1 cStr encBool fun s => if s.length < 1099511627776 then some (isClass s) else none) := by
  refine soundP_of_wk ok4a mixed Tryd.func15 rfl rfl fun args r h G0 => ?_
  obtain ⟨s, e, rfl, he, rfl⟩ := fn1_inv h
  simp only [Option.ite_none_right_eq_some, Option.some.injEq] at he
  obtain ⟨hs, rfl⟩ := he
  simp [Tryd.f15, entry]
  refine lp_of ok4a mixed (fun (i : Nat) => ⟨49, frL [(0, .str s), (2, .bool false), (3, .int .i64 i)], []⟩) (fun i => i ≤ s.length ∧ ∀ (j : Nat) c, j < i → s[j]? = some c → okAt j c = true) (fun i => s.length - i) 0 (by simp) (weak_frL rfl rfl (by simp)) ?_
  intro i ⟨hi, hall⟩
  simp
  refine br_dec (fun h3 => ?_) (fun h3 => ?_)
  · have hx : s[i]? = some s[i] := by simp [h3]
    have stay : okAt i s[i] = true → ∀ st, st.n = 49 → st.st = [] → st.fr 0 = .str s → st.fr 2 = .bool false → st.fr 3 = .int .i64 ((i : Int) + 1) → nextQ (XE E4a) G0.1 (fun (i : Nat) => (⟨49, frL [(0, .str s), (2, .bool false), (3, .int .i64 i)], []⟩ : ASt)) (fun i => i ≤ s.length ∧ ∀ (j : Nat) c, j < i → s[j]? = some c → okAt j c = true) (fun i => s.length - i) i st := fun hk st h1 h2 h3' h4 h5 => by
      refine nextQ_of (i + 1) ⟨h3, fun j c hj hc => ?_⟩ (by omega) (weak_frL h1 h2 (by simp [h3', h4, h5]))
      rcases Nat.lt_or_ge j i with hj' | hj'
      · exact hall j c hj' hc
      · have : j = i := by omega
        subst this
        rw [hx] at hc
        cases hc
        exact hk
    have stop : okAt i s[i] = false → isClass s = false := fun hk => by
      have : allAt 0 s = false := by
        cases hq : allAt 0 s with
        | false => rfl
        | true =>
          have := (allAt_iff s 0).1 hq i s[i] hx
          rw [Nat.zero_add, hk] at this
          cases this
      simp [isClass, this]
    have hw := wrap_i64 (show (-9223372036854775808 : Int) ≤ i + 1 by omega) (by omega)
    generalize hc : s[i] = c at stay stop hx
    have e1 : ((c.toNat : Int) < 48) = (c.toNat < 48) := by simp; omega
    have e2 : (57 < (c.toNat : Int)) = (57 < c.toNat) := by simp; omega
    have e3 : ((c.toNat : Int) = 95) = (c.toNat = 95) := by simp; omega
    have e4 : ((c.toNat : Int) = 36) = (c.toNat = 36) := by simp; omega
    have e5 : ((c.toNat : Int) = 47) = (c.toNat = 47) := by simp; omega
    have e0 : ((i : Int) = 0) = (i = 0) := by simp
    have go : ∀ b, okAt i c = b → True := fun _ _ => trivial
    by_cases hl : isLetter c = true
    · have hk : okAt i c = true := by simp [okAt, hl]
      simp [hx, hl]
      exact stay hk _ rfl rfl (by simp) (by simp) (by simp [hw])
    · by_cases h0 : i = 0
      · have hk : okAt i c = false := by simp [okAt, hl, h0]
        subst h0
        simp [hx, hl, stop hk]
        exact finS_fz (by simp)
      · have bad : isMore c = false → okAt i c = false := fun h => by simp [okAt, hl, h]
        have good : isMore c = true → okAt i c = true := fun h => by simp [okAt, h0, h]
        have fin : ¬ (48 ≤ c.toNat ∧ c.toNat ≤ 57) → ¬ c.toNat = 95 → ¬ c.toNat = 36 → ¬ c.toNat = 47 → isClass s = false := fun h1 h2 h3 h4 => stop (bad (by simp [isMore, h2, h3, h4]; omega))
        by_cases hd : 48 ≤ c.toNat ∧ c.toNat ≤ 57
        · have g1 : ¬ c.toNat < 48 := by omega
          have g2 : ¬ 57 < c.toNat := by omega
          simp [hx, hl, h0, e1, e2, g1, g2]
          exact stay (good (by simp [isMore, hd])) _ rfl rfl (by simp) (by simp) (by simp [hw])
        · by_cases g1 : c.toNat < 48
          · have g3 : ¬ c.toNat = 95 := by omega
            by_cases g4 : c.toNat = 36
            · have q : ((c.toNat : Int) = 36) = True := by simp; omega
              simp [hx, hl, h0, e1, g1, e3, g3, q]
              exact stay (good (by simp [isMore, g4])) _ rfl rfl (by simp) (by simp) (by simp [hw])
            · by_cases g5 : c.toNat = 47
              · have q : ((c.toNat : Int) = 47) = True := by simp; omega
                simp [hx, hl, h0, e1, g1, e3, g3, e4, g4, q]
                exact stay (good (by simp [isMore, g5])) _ rfl rfl (by simp) (by simp) (by simp [hw])
              · simp [hx, hl, h0, e1, g1, e3, g3, e4, g4, e5, g5, fin hd g3 g4 g5]
                exact finS_fz (by simp)
          · have g2 : 57 < c.toNat := by omega
            have g4 : ¬ c.toNat = 36 := by omega
            have g5 : ¬ c.toNat = 47 := by omega
            by_cases g3 : c.toNat = 95
            · have q : ((c.toNat : Int) = 95) = True := by simp; omega
              simp [hx, hl, h0, e1, g1, e2, g2, q]
              exact stay (good (by simp [isMore, g3])) _ rfl rfl (by simp) (by simp) (by simp [hw])
            · simp [hx, hl, h0, e1, g1, e2, g2, e3, g3, e4, g4, e5, g5, fin hd g3 g4 g5]
              exact finS_fz (by simp)
  · have hi' : i = s.length := by omega
    have hq : allAt 0 s = true := (allAt_iff s 0).2 fun j c hc => by
      rw [Nat.zero_add]
      exact hall j c (by have := (List.getElem?_eq_some_iff.1 hc).1; omega) hc
    have e1 : (1 ≤ (s.length : Int)) = (1 ≤ s.length) := by simp; omega
    have e2 : ((s.length : Int) ≤ 60) = (s.length ≤ 60) := by simp; omega
    by_cases h1 : 1 ≤ s.length
    · simp [isClass, hq, e1, e2, h1]
      exact finS_fz (by simp)
    · simp [isClass, hq, e1, e2, h1]
      exact finS_fz (by simp)

theorem dropWhile_nil (p : UInt8 → Bool) : ∀ l : Str, l.dropWhile p = [] ↔ ∀ c ∈ l, p c = true
  | [] => by simp
  | c :: l => by
    cases h : p c with
    | true => simp [h, dropWhile_nil p l]
    | false => simp [h]
theorem dropEnd_all (p : UInt8 → Bool) (s : Str) : (∀ c ∈ dropEnd p s, p c = true) ↔ ∀ c ∈ s, p c = true := by
  constructor
  · intro h
    simp only [dropEnd, List.mem_reverse] at h
    have : s.reverse.dropWhile p = [] := by
      cases hq : s.reverse.dropWhile p with
      | nil => rfl
      | cons a l =>
        have h1 := h a (by rw [hq]; simp)
        have h2 := List.head?_dropWhile_not p s.reverse
        rw [hq] at h2
        simp at h2
        rw [h1] at h2
        cases h2
    rw [dropWhile_nil] at this
    exact fun c hc => this c (by simpa using hc)
  · intro h c hc
    simp only [dropEnd, List.mem_reverse] at hc
    exact h c (by simpa using (List.dropWhile_sublist p).mem hc)
theorem trimSet_nil (cut s : Str) : trimSet cut s = [] ↔ ∀ c ∈ s, c ∈ cut := by
  rw [trimSet, dropWhile_nil, dropEnd_all]
  simp only [inSet_setOf, List.contains_iff_mem]
theorem indexByte_mem (l : Str) (c : UInt8) : 0 ≤ Lib.indexByte l c ↔ c ∈ l := by
  induction l with
  | nil => simp [Lib.indexByte]
  | cons b l ih =>
    unfold Lib.indexByte
    split
    · rename_i h
      simp at h
      simp [h]
    · rename_i h
      have h' : c ≠ b := fun e => h (by simp [e])
      have ge := Lib.indexByte_ge l c
      split
      · rename_i h2
        have : ¬ 0 ≤ Lib.indexByte l c := by
          have : Lib.indexByte l c = -1 := by simpa using h2
          omega
        rw [ih] at this
        simp [h', this]
      · rename_i h2
        have h2' : ¬ Lib.indexByte l c = -1 := by simpa using h2
        have : 0 ≤ Lib.indexByte l c := by omega
        simp only [List.mem_cons, h', false_or, ← ih, this, iff_true]
        omega

/-- the letters -/
def letters : Str := [97, 98, 99, 100, 101, 102, 103, 104, 105, 106, 107, 108, 109, 110, 111, 112, 113, 114, 115, 116, 117, 118, 119, 120, 121, 122, 65, 66, 67, 68, 69, 70, 71, 72, 73, 74, 75, 76, 77, 78, 79, 80, 81, 82, 83, 84, 85, 86, 87, 88, 89, 90]
def others : Str := [48, 49, 50, 51, 52, 53, 54, 55, 56, 57, 95, 36, 47]
def nameBytes : Str := [97, 98, 99, 100, 101, 102, 103, 104, 105, 106, 107, 108, 109, 110, 111, 112, 113, 114, 115, 116, 117, 118, 119, 120, 121, 122, 65, 66, 67, 68, 69, 70, 71, 72, 73, 74, 75, 76, 77, 78, 79, 80, 81, 82, 83, 84, 85, 86, 87, 88, 89, 90, 48, 49, 50, 51, 52, 53, 54, 55, 56, 57, 95, 36, 47]
theorem fold_letters : ([97, 98, 99, 100, 101, 102, 103, 104, 105, 106, 107, 108, 109, 110, 111, 112, 113, 114, 115, 116, 117, 118, 119, 120, 121, 122, 65, 66, 67, 68, 69, 70, 71, 72, 73, 74, 75, 76, 77, 78, 79, 80, 81, 82, 83, 84, 85, 86, 87, 88, 89, 90] : List UInt8) = letters := rfl
theorem fold_name : ([97, 98, 99, 100, 101, 102, 103, 104, 105, 106, 107, 108, 109, 110, 111, 112, 113, 114, 115, 116, 117, 118, 119, 120, 121, 122, 65, 66, 67, 68, 69, 70, 71, 72, 73, 74, 75, 76, 77, 78, 79, 80, 81, 82, 83, 84, 85, 86, 87, 88, 89, 90, 48, 49, 50, 51, 52, 53, 54, 55, 56, 57, 95, 36, 47] : List UInt8) = nameBytes := rfl
theorem nameBytes_eq : nameBytes = letters ++ others := rfl
theorem of_bytes {p : UInt8 → Prop} (h : ∀ n : Nat, n < 256 → p (UInt8.ofNat n)) (c : UInt8) : p c := by
  have := h c.toNat c.toNat_lt
  simpa using this
theorem isLetter_iff (c : UInt8) : isLetter c = true ↔ c ∈ letters := of_bytes (p := fun c => isLetter c = true ↔ c ∈ letters) (by decide +kernel) c
theorem isMore_iff (c : UInt8) : isMore c = true ↔ c ∈ others := of_bytes (p := fun c => isMore c = true ↔ c ∈ others) (by decide +kernel) c

theorem p_kindClass : SoundP Tryd.prog gl 14 (fn1 cStr encBool fun s => if s.length < 1099511627776 then some (isClass s) else none) := by
  refine soundP_of_wk (((okX_nil.addP p_IndexByte)).addP p_Trim) mixed Tryd.func14 rfl rfl fun args r h G0 => ?_
  obtain ⟨s, e, rfl, he, rfl⟩ := fn1_inv h
  simp only [Option.ite_none_right_eq_some, Option.some.injEq] at he
  obtain ⟨hs, rfl⟩ := he
  cases s with
  | nil =>
    simp [Tryd.f14, entry, isClass]
    exact finS_fz (by simp)
  | cons c t =>
    have hA : Ascii nameBytes := by decide
    have hB : nameBytes.length = 65 := rfl
    have hsn := hs
    simp at hs
    by_cases h60 : ((t.length : Int) + 1 ≤ 60)
    · by_cases ht : trimSet nameBytes (c :: t) = []
      · have hall := (trimSet_nil _ _).1 ht
        have : isClass (c :: t) = decide (0 ≤ Lib.indexByte letters c) := by
          have h1 : allAt 1 t = true := (allAt_iff t 1).2 fun i d hd => by
            have := hall d (by simp [List.mem_of_getElem? hd])
            rw [nameBytes_eq, List.mem_append, ← isLetter_iff, ← isMore_iff] at this
            simp only [okAt, Bool.or_eq_true, Bool.and_eq_true, decide_eq_true_eq]
            rcases this with h | h
            · exact .inl h
            · exact .inr ⟨by omega, h⟩
          have h2 : isLetter c = decide (0 ≤ Lib.indexByte letters c) := by
            rw [Bool.eq_iff_iff, isLetter_iff, decide_eq_true_eq, indexByte_mem]
          simp [isClass, allAt, h1, okAt, h2]
          omega
        simp [Tryd.f14, entry, h60, hs, fold_letters, fold_name, hA, hB, ht, this]
        exact finS_fz (by simp)
      · have : isClass (c :: t) = false := by
          cases hq : allAt 0 (c :: t) with
          | false => simp [isClass, hq]
          | true =>
            exfalso
            refine ht ((trimSet_nil _ _).2 fun d hd => ?_)
            obtain ⟨i, hi⟩ := List.mem_iff_getElem?.1 hd
            have := (allAt_iff _ 0).1 hq i d hi
            rw [nameBytes_eq, List.mem_append, ← isLetter_iff, ← isMore_iff]
            simp only [okAt, Bool.or_eq_true, Bool.and_eq_true] at this
            rcases this with h | h
            · exact .inl h
            · exact .inr h.2
        simp [Tryd.f14, entry, h60, hs, fold_letters, fold_name, hA, hB, ht, this]
        exact finS_fz (by simp)
    · have : isClass (c :: t) = false := by
        simp [isClass]
        omega
      simp [Tryd.f14, entry, h60, this]
      exact finS_fz (by simp)
end Go.Proofs.YtbjgepnkakcjaaaDoor.Lift
