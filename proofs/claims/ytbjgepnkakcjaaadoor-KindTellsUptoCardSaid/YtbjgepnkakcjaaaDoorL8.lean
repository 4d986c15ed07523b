/-
  LIFT, 8: operators; conversions; places; slices of slices and strings; len.
-/
import Derived.Test.YtbjgepnkakcjaaaDoorL7
import Derived.Lib.Strings
namespace Go.Proofs.YtbjgepnkakcjaaaDoor.Lift
open Go

theorem ba_len (s : ByteArray) : s.data.toList.length = s.size := by cases s; rfl
theorem ba_append (a b : ByteArray) : (a ++ b).data.toList = a.data.toList ++ b.data.toList := by simp
theorem ba_get (s : ByteArray) (i : Nat) : s[i]? = s.data.toList[i]? := by
  by_cases h : i < s.size
  · have h' : i < s.data.toList.length := by rw [ba_len]; exact h
    rw [List.getElem?_eq_getElem h', getElem?_pos s i h]
    rfl
  · rw [List.getElem?_eq_none (by rw [ba_len]; omega), getElem?_neg s i h]
theorem ba_extract (s : ByteArray) (a b : Nat) : (s.extract a b).data.toList = (s.data.toList.take b).drop a := by
  rw [Lib.extract_data, List.drop_take]

section
variable {P : Program} {G : Gh}

theorem valOf_scal {t : TypeId} {d : TypeDesc} (hu : P.underlying t = some d) (h : isAggD d = false) (v : Value) : valOf P t [v] = v := by
  unfold valOf; rw [hu]; cases d <;> simp_all [isAggD]
theorem valOf_agg {t : TypeId} {d : TypeDesc} (hu : P.underlying t = some d) (h : isAggD d = true) (a : Array Value) : valOf P t a.toList = .agg a := by
  unfold valOf; rw [hu]; cases d <;> simp_all [isAggD]

theorem equalIn_ptr_nil (w : World) {t e : TypeId} (hu : P.underlying t = some (.pointer e)) (d : Nat) (b : Option Addr) : (Op.equalIn (d + 1) t (.pointer none) (.pointer b)).run P w = .ok b.isNone w := by
  simp [Op.equalIn, run_underlying hu]
theorem equalIn_nil_ptr (w : World) {t e : TypeId} (hu : P.underlying t = some (.pointer e)) (d : Nat) (a : Addr) : (Op.equalIn (d + 1) t (.pointer (some a)) (.pointer none)).run P w = .ok false w := by
  simp [Op.equalIn, run_underlying hu]
theorem equalIn_fn_nn (w : World) {t : TypeId} {a b : Array TypeId} {c : Bool} (hu : P.underlying t = some (.func a b c)) (d : Nat) : (Op.equalIn (d + 1) t .nilFunc .nilFunc).run P w = .ok true w := by
  simp [Op.equalIn, run_underlying hu]
theorem equalIn_fn_nf (w : World) {t : TypeId} {a b : Array TypeId} {c : Bool} (hu : P.underlying t = some (.func a b c)) (d : Nat) (f : Fn) (x y : Array Value) : (Op.equalIn (d + 1) t .nilFunc (.func f x y)).run P w = .ok false w := by
  simp [Op.equalIn, run_underlying hu]
theorem equalIn_fn_fn (w : World) {t : TypeId} {a b : Array TypeId} {c : Bool} (hu : P.underlying t = some (.func a b c)) (d : Nat) (f : Fn) (x y : Array Value) : (Op.equalIn (d + 1) t (.func f x y) .nilFunc).run P w = .ok false w := by
  simp [Op.equalIn, run_underlying hu]

theorem beq_decide {α : Type} [BEq α] [LawfulBEq α] [DecidableEq α] (a b : α) : (a == b) = decide (a = b) := by
  by_cases h : a = b
  · subst h; simp
  · simp [h]
theorem bne_decide {α : Type} [BEq α] [LawfulBEq α] [DecidableEq α] (a b : α) : (a != b) = !decide (a = b) := by
  rw [bne, beq_decide]
theorem run_eql_of {w : World} {t : TypeId} {x y : Value} {b : Bool} (h : (Op.equalIn 10000 t x y).run P w = .ok b w) (h1 : binOp .eql t x y = (do pure (.bool (← Op.equal t x y)))) (h2 : binOp .neq t x y = (do pure (.bool (!(← Op.equal t x y))))) :
    (binOp .eql t x y).run P w = .ok (.bool b) w ∧ (binOp .neq t x y).run P w = .ok (.bool !b) w := by
  rw [h1, h2]
  simp only [Op.equal, Op.maxDepth, Sem.run_bind, h, Result.andThen_ok, Sem.run_pure, and_self]

theorem run_eqv {t : TypeId} {ti : TI} (ht : tiOf P t = some ti) {x y : AV} {vx vy : Value} (hx : Rep G x vx) (hy : Rep G y vy) {b : Bool} (h : eqv ti x y = some b) (ox oy : Operand) (op : BinOp) :
    (eqGuard op t ox oy vx vy).run P G.w = .ok () G.w ∧ (binOp .eql t vx vy).run P G.w = .ok (.bool b) G.w ∧ (binOp .neq t vx vy).run P G.w = .ok (.bool !b) G.w := by
  obtain ⟨i, d, z, F⟩ := tiOf_facts ht
  unfold eqv at h
  split at h
  · rename_i ks hks
    rw [F.eq] at hks
    split at hks
    · rename_i hg
      split at h
      · rename_i hag
        obtain ⟨hxa, hya⟩ := hag
        have hlen := eqvs_len h
        have hkl := eqKs_len 40 t hks
        rw [F.agg] at hxa hya
        have key : ∀ {a : AV} {v : Value}, Rep G a v → a.isAgg = isAggD d → a.cells.length = P.cellsOf t → ∃ l : List Value, RepL G a.cells l ∧ l.length = P.cellsOf t ∧ v = valOf P t l := fun {a v} hr ha hl => by
          cases hd : isAggD d with
          | true =>
            rw [hd] at ha
            cases hr <;> simp at ha
            rename_i cs arr hc
            exact ⟨arr.toList, hc, by rw [← hc.length]; simpa using hl, (valOf_agg F.und hd arr).symm⟩
          | false =>
            rw [hd] at ha
            refine ⟨[v], ?_, by rw [← hl]; cases a <;> simp_all, (valOf_scal F.und hd v).symm⟩
            cases a <;> first
              | (simp at ha; done)
              | exact .cons hr .nil
        obtain ⟨lx, r1, n1, rfl⟩ := key hx hxa (by omega)
        obtain ⟨ly, r2, n2, rfl⟩ := key hy hya (by omega)
        have hq := run_equalIn_ok (P := P) (G := G) G.w 40 10000 t (by omega) hks _ _ _ _ _ r1 r2 n1 n2 h
        cases hd : isAggD d with
        | true =>
          rw [show lx = lx.toArray.toList by simp, show ly = ly.toArray.toList by simp, valOf_agg F.und hd, valOf_agg F.und hd] at hq ⊢
          rw [run_eqGuard_agg G.w op t ox oy _ _ hg, run_eql_struct, run_neq_struct, hq]
          exact ⟨rfl, rfl, rfl⟩
        | false =>
          rw [hd] at hxa hya
          have one : ∀ {a : AV}, a.isAgg = false → a.cells = [a] := fun {a} ha => by cases a <;> first | rfl | (simp at ha; done)
          rw [one hxa, one hya] at h
          cases ks with
          | nil => simp [eqvs] at h
          | cons k ks =>
            obtain ⟨b1, b2, e1, e2, rfl⟩ := eqvs_cons h
            have e3 : ks = [] := by
              have := eqvs_len e2
              cases ks with
              | nil => rfl
              | cons _ _ => simp at this
            subst e3
            cases e2
            simp only [Bool.and_true] at *
            cases k with
            | int k =>
              obtain ⟨n, m, rfl, rfl, rfl⟩ := eqv1_int e1
              generalize valOf P t lx = vx at *
              generalize valOf P t ly = vy at *
              cases hx
              cases hy
              rw [eqGuard_at_int]; exact ⟨rfl, by simp only [binOp, ne_eq, not_true_eq_false, if_false, Op.intCmp, Sem.run_pure, beq_decide], by simp only [binOp, ne_eq, not_true_eq_false, if_false, Op.intCmp, Sem.run_pure, bne_decide]⟩
            | bool =>
              obtain ⟨n, m, rfl, rfl, rfl⟩ := eqv1_bool e1
              generalize valOf P t lx = vx at *
              generalize valOf P t ly = vy at *
              cases hx
              cases hy
              rw [eqGuard_at_bool]; exact ⟨rfl, by simp only [binOp, Op.equal, Op.maxDepth, Sem.run_bind, hq, Result.andThen_ok, Sem.run_pure], by simp only [binOp, Op.equal, Op.maxDepth, Sem.run_bind, hq, Result.andThen_ok, Sem.run_pure]⟩
            | str =>
              obtain ⟨n, m, rfl, rfl, rfl⟩ := eqv1_str e1
              generalize valOf P t lx = vx at *
              generalize valOf P t ly = vy at *
              cases hx
              cases hy
              rw [eqGuard_at_string, binOp_string_eql, binOp_string_neq, ByteArray.toList_eq, ByteArray.toList_eq, beq_decide]; exact ⟨rfl, rfl, rfl⟩
            | _ => cases e1
      · cases h
    · cases hks
  · have hp : ∀ e, ti.d = .ptr e → P.underlying t = some (.pointer e) := fun e he => by
      rw [F.d] at he
      have := F.und
      cases d <;> simp [tdOf] at he
      subst he; exact this
    have hfn : ti.d = .func → ∃ a b c, P.underlying t = some (.func a b c) := fun he => by
      rw [F.d] at he
      have := F.und
      cases d <;> simp [tdOf] at he
      exact ⟨_, _, _, this⟩
    split at h
    all_goals first
      | (rename_i hd; cases h; cases hx; cases hy; exact ⟨by rw [eqGuard_at_pointer]; rfl, run_eql_of (by first | exact equalIn_ptr_nil G.w (hp _ hd) 9999 _ | exact equalIn_nil_ptr G.w (hp _ hd) 9999 _) rfl rfl⟩)
      | (rename_i hd; cases h; cases hx; cases hy; obtain ⟨a, b, c, hu⟩ := hfn hd; exact ⟨by first | (rw [eqGuard_at_nilFunc]; rfl) | (rw [eqGuard_at_func]; rfl), run_eql_of (by first | exact equalIn_fn_nn G.w hu 9999 | exact equalIn_fn_nf G.w hu 9999 _ _ _ | exact equalIn_fn_fn G.w hu 9999 _ _ _) rfl rfl⟩)
      | (cases h; done)
end
end Go.Proofs.YtbjgepnkakcjaaaDoor.Lift
