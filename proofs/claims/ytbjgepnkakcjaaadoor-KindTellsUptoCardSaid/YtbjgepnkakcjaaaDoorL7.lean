/-
  LIFT, 7: operators; conversions; places; slices of slices and strings; len.
-/
import Derived.Test.YtbjgepnkakcjaaaDoorL6
import Derived.Laws.StructEq
import Derived.Laws.Concat
namespace Go.Proofs.YtbjgepnkakcjaaaDoor.Lift
open Go

theorem eqv1_int {k : IntKind} {x y : AV} {b : Bool} (h : eqv1 (.int k) x y = some b) : ∃ n m, x = .int k n ∧ y = .int k m ∧ b = decide (n = m) := by
  cases x with
  | int j n => cases y with
    | int j' m =>
      rw [eqv1] at h
      by_cases hk : j = k ∧ j' = k
      · rw [if_pos hk] at h
        obtain ⟨rfl, rfl⟩ := hk
        exact ⟨n, m, rfl, rfl, (Option.some.inj h).symm⟩
      · rw [if_neg hk] at h; cases h
    | _ => cases h
  | _ => cases h
theorem eqv1_bool {x y : AV} {b : Bool} (h : eqv1 .bool x y = some b) : ∃ n m, x = .bool n ∧ y = .bool m ∧ b = decide (n = m) := by
  cases x with
  | bool n => cases y with
    | bool m => exact ⟨n, m, rfl, rfl, (Option.some.inj h).symm⟩
    | _ => cases h
  | _ => cases h
theorem eqv1_str {x y : AV} {b : Bool} (h : eqv1 .str x y = some b) : ∃ n m, x = .str n ∧ y = .str m ∧ b = decide (n = m) := by
  cases x with
  | str n => cases y with
    | str m => exact ⟨n, m, rfl, rfl, (Option.some.inj h).symm⟩
    | _ => cases h
  | _ => cases h
theorem ok_decide {α : Type} [BEq α] [LawfulBEq α] [DecidableEq α] (a b : α) (w : World) : (Result.ok (a == b) w : Result Bool) = .ok (decide (a = b)) w := by
  by_cases h : a = b
  · subst h; simp
  · simp [h]
theorem eqvs_cons {k : TD} {ks : List TD} {x y : AV} {a a' : List AV} {b : Bool} (h : eqvs (k :: ks) (x :: a) (y :: a') = some b) : ∃ b1 b2, eqv1 k x y = some b1 ∧ eqvs ks a a' = some b2 ∧ b = (b1 && b2) := by
  rw [eqvs] at h
  split at h
  · cases h
    exact ⟨_, _, ‹_›, ‹_›, rfl⟩
  · cases h
theorem eqvs_len : ∀ {ks : List TD} {a a' : List AV} {b : Bool}, eqvs ks a a' = some b → a.length = ks.length ∧ a'.length = ks.length
  | [], [], [], _, _ => ⟨rfl, rfl⟩
  | k :: ks, x :: a, y :: a', b, h => by
    obtain ⟨_, _, _, h2, _⟩ := eqvs_cons h
    have := eqvs_len h2
    exact ⟨congrArg (· + 1) this.1, congrArg (· + 1) this.2⟩
  | [], _ :: _, _, _, h => by simp [eqvs] at h
  | [], [], _ :: _, _, h => by simp [eqvs] at h
  | _ :: _, [], _, _, h => by simp [eqvs] at h
  | _ :: _, _ :: _, [], _, h => by simp [eqvs] at h
theorem eqvs_split : ∀ {ks ks' : List TD} {a a' r r' : List AV} {b : Bool}, a.length = ks.length → a'.length = ks.length → eqvs (ks ++ ks') (a ++ r) (a' ++ r') = some b →
    ∃ b1 b2, eqvs ks a a' = some b1 ∧ eqvs ks' r r' = some b2 ∧ b = (b1 && b2)
  | [], ks', [], [], r, r', b, _, _, h => ⟨true, b, rfl, h, by simp⟩
  | k :: ks, ks', x :: a, y :: a', r, r', b, hl, hl', h => by
    obtain ⟨b1, b2, h1, h2, rfl⟩ := eqvs_cons h
    obtain ⟨c1, c2, g1, g2, rfl⟩ := eqvs_split (by simpa using hl) (by simpa using hl') h2
    exact ⟨b1 && c1, c2, by rw [eqvs, h1, g1], g2, by rw [Bool.and_assoc]⟩
  | [], _, _ :: _, _, _, _, _, hl, _, _ => by simp at hl
  | [], _, [], _ :: _, _, _, _, _, hl, _ => by simp at hl
  | _ :: _, _, [], _, _, _, _, hl, _, _ => by simp at hl
  | _ :: _, _, _ :: _, [], _, _, _, _, hl, _ => by simp at hl

/-- a value of a type, out of its cells -/
def valOf (P : Program) (t : TypeId) (xs : List Value) : Value := match P.underlying t with
  | some (.struct _) => .agg xs.toArray
  | some (.array _ _) => .agg xs.toArray
  | _ => xs.getD 0 undef

theorem run_part_val {P : Program} (w : World) {t : TypeId} {d : TypeDesc} (hd : P.underlying t = some d) (hi : (P.info? t).isSome = true) (xs : List Value) (off : Nat) (h : off + P.cellsOf t ≤ xs.length) (h1 : isAggD d = false → P.cellsOf t = 1) :
    (Go.part t xs.toArray off).run P w = .ok (valOf P t ((xs.drop off).take (P.cellsOf t))) w := by
  obtain ⟨i, hi⟩ := Option.isSome_iff_exists.1 hi
  have hs : (sizeOf t).run P w = .ok (P.cellsOf t) w := by simp [sizeOf, typeInfo, hi, Program.cellsOf]
  have ha : (isAgg t).run P w = .ok (isAggD d) w := by
    simp only [isAgg, Sem.run_bind, run_underlying hd, Result.andThen_ok]
    cases d <;> rfl
  simp only [Go.part, Sem.run_bind, ha, Result.andThen_ok]
  cases hag : isAggD d with
  | true =>
    simp only [if_true, Sem.run_bind, hs, Result.andThen_ok, Sem.run_pure]
    congr 1
    have : xs.toArray.extract off (off + P.cellsOf t) = ((xs.drop off).take (P.cellsOf t)).toArray := by
      simp [List.take_drop, List.extract]
      try rw [Nat.add_sub_cancel_left]
    unfold valOf
    rw [hd, this]
    cases d <;> simp_all [isAggD]
  | false =>
    have h1' := h1 hag
    have hx : xs.toArray[off]? = some (xs[off]'(by omega)) := by simp
    simp only [Bool.false_eq_true, if_false, hx, Sem.run_pure]
    congr 1
    unfold valOf
    rw [hd, h1']
    have hg : (((xs.drop off).take 1).getD 0 undef) = xs[off]'(by omega) := by
      rw [List.getD_eq_getElem?_getD, List.getElem?_take_of_lt (by omega), List.getElem?_drop, Nat.add_zero, List.getElem?_eq_getElem (by omega)]
      rfl
    cases d <;> simp_all [isAggD]


mutual
theorem run_equalIn_ok {P : Program} {G : Gh} (w : World) : ∀ (d : Nat) (D : Nat) (t : TypeId), d ≤ D → ∀ {ks : List TD}, eqKs P d t = some ks → ∀ (cs cs' : List AV) (xs ys : List Value) (b : Bool), RepL G cs xs → RepL G cs' ys →
    xs.length = P.cellsOf t → ys.length = P.cellsOf t → eqvs ks cs cs' = some b → (Op.equalIn D t (valOf P t xs) (valOf P t ys)).run P w = .ok b w
  | 0, _, _, _, _, h => by simp [eqKs] at h
  | d + 1, 0, _, hd, _, _ => by omega
  | d + 1, D + 1, t, hd, ks, h => fun cs cs' xs ys b hx hy hlx hly he => by
    simp only [eqKs] at h
    split at h
    · have one : P.cellsOf t = 1 → ∃ x y c c', xs = [x] ∧ ys = [y] ∧ cs = [c] ∧ cs' = [c'] ∧ Rep G c x ∧ Rep G c' y := fun h1 => by
        rw [h1] at hlx hly
        cases hx with
        | nil => simp at hlx
        | cons hx tx => cases hy with
          | nil => simp at hly
          | cons hy ty =>
            cases tx with
            | cons _ _ => simp at hlx
            | nil => cases ty with
              | cons _ _ => simp at hly
              | nil => exact ⟨_, _, _, _, rfl, rfl, rfl, rfl, hx, hy⟩
      split at h
      · rename_i k hu
        split at h
        · rename_i h1
          cases h
          obtain ⟨x, y, c, c', rfl, rfl, rfl, rfl, hx, hy⟩ := one h1
          simp only [valOf, hu, List.getD_cons_zero]
          obtain ⟨b1, b2, e1, e2, rfl⟩ := eqvs_cons he
          cases e2
          obtain ⟨n, m, rfl, rfl, rfl⟩ := eqv1_int e1
          cases hx
          cases hy
          rw [run_equalIn_int w D t _ _ _ _ hu, Bool.and_true]
          exact ok_decide _ _ w
        · cases h
      · rename_i hu
        split at h
        · rename_i h1
          cases h
          obtain ⟨x, y, c, c', rfl, rfl, rfl, rfl, hx, hy⟩ := one h1
          simp only [valOf, hu, List.getD_cons_zero]
          obtain ⟨b1, b2, e1, e2, rfl⟩ := eqvs_cons he
          cases e2
          obtain ⟨n, m, rfl, rfl, rfl⟩ := eqv1_bool e1
          cases hx
          cases hy
          rw [run_equalIn_bool' w D t _ _ hu, Bool.and_true]
          exact ok_decide _ _ w
        · cases h
      · rename_i hu
        split at h
        · rename_i h1
          cases h
          obtain ⟨x, y, c, c', rfl, rfl, rfl, rfl, hx, hy⟩ := one h1
          simp only [valOf, hu, List.getD_cons_zero]
          obtain ⟨b1, b2, e1, e2, rfl⟩ := eqvs_cons he
          cases e2
          obtain ⟨n, m, rfl, rfl, rfl⟩ := eqv1_str e1
          cases hx
          cases hy
          rw [run_equalIn_string w D t _ _ hu, Bool.and_true]
          rw [ByteArray.toList_eq, ByteArray.toList_eq]; exact ok_decide _ _ w
        · cases h
      · rename_i fs hu
        split at h
        · rename_i hst
          have hfs : P.fieldsOf t = fs := by simp [Program.fieldsOf, hu]
          simp only [valOf, hu]
          rw [run_equalIn_agg w D t _ _ (by rw [hfs]; exact hu) hst, hfs]
          have := run_eqFields_ok (P := P) (G := G) w d D (by omega) fs.toList 0 (P.cellsOf t) h cs cs' xs ys b hx hy hlx hly (by simpa using he)
          exact this
        · cases h
      · cases h
    · cases h
theorem run_eqFields_ok {P : Program} {G : Gh} (w : World) : ∀ (d : Nat) (D : Nat), d ≤ D → ∀ (fs : List Field) (off n : Nat) {ks : List TD}, eqFs P d fs off n = some ks → ∀ (cs cs' : List AV) (xs ys : List Value) (b : Bool), RepL G cs xs → RepL G cs' ys →
    xs.length = n → ys.length = n → eqvs ks (cs.drop off) (cs'.drop off) = some b → (Op.eqFields D xs.toArray ys.toArray fs).run P w = .ok b w
  | d, D, _, [], off, n, ks, h => fun cs cs' xs ys b hx hy hlx hly he => by
    unfold eqFs at h
    split at h
    · cases h
      subst_vars
      have h1 := hx.length
      have h2 := hy.length
      rw [List.drop_of_length_le (by omega), List.drop_of_length_le (by omega)] at he
      cases he
      simp [Op.eqFields]
    · cases h
  | 0, _, _, _ :: _, _, _, _, h => by simp [eqFs] at h
  | d + 1, D, hD, f :: fs, off, n, ks, h => fun cs cs' xs ys b hx hy hlx hly he => by
    simp only [eqFs] at h
    split at h
    · rename_i hf
      obtain ⟨hname, hoff⟩ := hf
      split at h
      · rename_i a bks ha hb
        cases h
        have hcl : ∃ dd, P.underlying f.type = some dd ∧ (P.info? f.type).isSome = true ∧ (isAggD dd = false → P.cellsOf f.type = 1) := by
          cases d with
          | zero => simp [eqKs] at ha
          | succ d =>
            simp only [eqKs] at ha
            split at ha
            · rename_i hi
              split at ha <;> rename_i hu
              · split at ha
                · rename_i h1; exact ⟨_, hu, hi, fun _ => h1⟩
                · cases ha
              · split at ha
                · rename_i h1; exact ⟨_, hu, hi, fun _ => h1⟩
                · cases ha
              · split at ha
                · rename_i h1; exact ⟨_, hu, hi, fun _ => h1⟩
                · cases ha
              · exact ⟨_, hu, hi, fun h => by simp [isAggD] at h⟩
              · cases ha
            · cases ha
        obtain ⟨dd, hu, hi, h1⟩ := hcl
        have hal := eqKs_len d f.type ha
        have hbl := eqFs_len d fs _ n hb
        have lx := hx.length
        have ly := hy.length
        have hle := eqvs_len he
        simp only [List.length_append, List.length_drop] at hle
        have hsx : cs.drop off = (cs.drop off).take (P.cellsOf f.type) ++ cs.drop (off + P.cellsOf f.type) := by
          rw [← List.drop_drop, List.take_append_drop]
        have hsy : cs'.drop off = (cs'.drop off).take (P.cellsOf f.type) ++ cs'.drop (off + P.cellsOf f.type) := by
          rw [← List.drop_drop, List.take_append_drop]
        rw [hsx, hsy] at he
        obtain ⟨b1, b2, e1, e2, rfl⟩ := eqvs_split (by rw [List.length_take, List.length_drop]; omega) (by rw [List.length_take, List.length_drop]; omega) he
        have sub : ∀ {ds : List AV} {vs : List Value}, RepL G ds vs → ds.length = n → RepL G ((ds.drop off).take (P.cellsOf f.type)) ((vs.drop off).take (P.cellsOf f.type)) := fun {ds vs} hv hn => by
          have := hv.length
          refine RepL.of_get (by simp; omega) fun j y u hy hu => ?_
          have hj : j < P.cellsOf f.type := by
            rcases Nat.lt_or_ge j (P.cellsOf f.type) with h | h
            · exact h
            · rw [List.getElem?_eq_none (by simp; omega)] at hy; cases hy
          rw [List.getElem?_take_of_lt hj, List.getElem?_drop] at hy hu
          obtain ⟨u', h1, h2⟩ := hv.get hy
          rw [hu] at h1; cases h1; exact h2
        have r1 := run_part_val w hu hi xs off (by omega) h1
        have r2 := run_part_val w hu hi ys off (by omega) h1
        have r3 := run_equalIn_ok (P := P) (G := G) w d D f.type (by omega) ha _ _ _ _ _ (sub hx (by omega)) (sub hy (by omega)) (by rw [List.length_take, List.length_drop]; omega) (by rw [List.length_take, List.length_drop]; omega) e1
        have r4 := run_eqFields_ok (P := P) (G := G) w d D (by omega) fs (off + P.cellsOf f.type) n hb _ _ _ _ _ hx hy hlx hly e2
        simp only [Op.eqFields, hname, ne_eq, not_false_eq_true, if_true, Sem.run_bind, hoff, r1, Result.andThen_ok, r2, r3]
        cases b1
        · simp
        · simpa using r4
      · cases h
    · cases h
theorem eqKs_len {P : Program} : ∀ (d : Nat) (t : TypeId) {ks : List TD}, eqKs P d t = some ks → ks.length = P.cellsOf t
  | 0, _, _, h => by simp [eqKs] at h
  | d + 1, t, ks, h => by
    simp only [eqKs] at h
    split at h
    · split at h
      · split at h
        · rename_i h1; cases h; simp [h1]
        · cases h
      · split at h
        · rename_i h1; cases h; simp [h1]
        · cases h
      · split at h
        · rename_i h1; cases h; simp [h1]
        · cases h
      · split at h
        · have := eqFs_len d _ _ _ h
          omega
        · cases h
      · cases h
    · cases h
theorem eqFs_len {P : Program} : ∀ (d : Nat) (fs : List Field) (off n : Nat) {ks : List TD}, eqFs P d fs off n = some ks → off + ks.length = n
  | d, [], off, n, ks, h => by
    unfold eqFs at h
    split at h
    · cases h; simpa
    · cases h
  | 0, _ :: _, _, _, _, h => by simp [eqFs] at h
  | d + 1, f :: fs, off, n, ks, h => by
    simp only [eqFs] at h
    split at h
    · split at h
      · rename_i a b ha hb
        cases h
        have := eqKs_len d f.type ha
        have := eqFs_len d fs _ n hb
        simp; omega
      · cases h
    · cases h
end
end Go.Proofs.YtbjgepnkakcjaaaDoor.Lift
