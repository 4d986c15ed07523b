/-
  LIFT, 15: EVERY OPERATION OF THE EVALUATOR IS AS THE MACHINE's.
-/
import Derived.Test.YtbjgepnkakcjaaaDoorL14
namespace Go.Proofs.YtbjgepnkakcjaaaDoor.Lift
open Go

/-- what lies at the globals that the evaluator knows -/
def Glob (X : Cfg) (G : Gh) : Prop := ∀ g v, X.G g = some v → Rep G (.rp v 0) (.pointer (some ⟨g, 0, none⟩))
theorem Glob.ext {X : Cfg} {G H : Gh} (x : Ext G H) (h : Glob X G) : Glob X H := fun g v hv => (h g v hv).ext x

/-- the slots of a frame -/
def Slots (G : Gh) (s : ASt) (a : Act) : Prop := s.n ≤ a.tmps.size ∧ (∀ t, Rep G (s.fr t) (a.tmps.getD t undef)) ∧ G.σ = s.st

theorem Slots.ev {X : Cfg} {G : Gh} {s : ASt} {a : Act} (hs : Slots G s a) (hg : Glob X G) (x : Operand) : Rep G (s.ev X x) (a.eval x) := by
  cases x with
  | tmp t => exact hs.2.1 t
  | const v => exact rep_const G v
  | func f => exact .fn .nil .nil
  | global g =>
    simp only [ASt.ev]
    split
    · exact hg g _ ‹_›
    · exact .undef _

/-- the operation's outcome: a value, or nothing to keep -/
def OpDone (P : Program) (G : Gh) (x : Sem Next) (v : AV) (st : Sto) : Prop :=
  ∃ G', (∃ r, x.run P G.w = .ok (.value r) G'.w ∧ Rep G' v r) ∧ G'.σ = st ∧ Ext G G' ∧ Inv G' ∨ (x.run P G.w = .ok .skip G'.w ∧ v = .tup [] ∧ G'.σ = st ∧ Ext G G' ∧ Inv G')

theorem opDone_value {P : Program} {G : Gh} {y : Sem Value} {x : Sem Next} {v : AV} {st : Sto} (hx : x = (do pure (.value (← y)))) (h : Does P G y v st) : OpDone P G x v st := by
  obtain ⟨r, G', h1, h2, h3, h4, h5⟩ := h
  refine ⟨G', .inl ⟨⟨r, ?_, h5⟩, h2, h3, h4⟩⟩
  rw [hx]
  simp only [Sem.run_bind, h1, Result.andThen_ok, Sem.run_pure]
theorem opDone_unit {P : Program} {G : Gh} {y : Sem Unit} {x : Sem Next} {st : Sto} (hx : x = (do y; pure .skip)) (h : ∃ G', y.run P G.w = .ok () G'.w ∧ G'.σ = st ∧ Ext G G' ∧ Inv G') : OpDone P G x (.tup []) st := by
  obtain ⟨G', h1, h2, h3, h4⟩ := h
  refine ⟨G', .inr ⟨?_, rfl, h2, h3, h4⟩⟩
  rw [hx]
  simp only [Sem.run_bind, h1, Result.andThen_ok, Sem.run_pure]
theorem does_of {P : Program} {G : Gh} (inv : Inv G) {y : Sem Value} {v : AV} (h : ∃ u, y.run P G.w = .ok u G.w ∧ Rep G v u) : Does P G y v G.σ :=
  let ⟨_, h1, h2⟩ := h; does_pure inv h1 h2

def isCallV : Op → Bool
  | .call c => match c.callee with | .value _ => true | _ => false
  | _ => false

theorem repO_map {X : Cfg} {G : Gh} {s : ASt} {a : Act} (hs : Slots G s a) (hg : Glob X G) (x : Option Operand) : RepO G (x.map (s.ev X)) (x.map a.eval) := by
  cases x with
  | none => trivial
  | some x => exact hs.ev hg x

theorem map2 {f : Operand → AV} {l : List Operand} {x y : AV} (h : l.map f = [x, y]) : ∃ a b, l = [a, b] ∧ f a = x ∧ f b = y := by
  match l, h with
  | [a, b], h => simp at h; exact ⟨a, b, rfl, h.1, h.2⟩
theorem map1 {f : Operand → AV} {l : List Operand} {x : AV} (h : l.map f = [x]) : ∃ a, l = [a] ∧ f a = x := by
  match l, h with
  | [a], h => simp at h; exact ⟨a, rfl, h⟩
theorem arrmap1 {f : Operand → Value} {o : Operand} : (([o] : List Operand).toArray).map f = #[f o] := by simp
theorem arrmap2 {f : Operand → Value} {o o2 : Operand} : (([o, o2] : List Operand).toArray).map f = #[f o, f o2] := by simp
theorem run_min2 {P : Program} (w : World) (ts : Array TypeId) (ty : TypeId) (k : IntKind) (p q : Int) : (Builtin.min_ ts ty #[.int k p, .int k q]).run P w = .ok (.int k (min p q)) w := by
  have : (if q < p then q else p) = min p q := by omega
  simp [Builtin.min_, Builtin.min2, this]
theorem run_max2 {P : Program} (w : World) (ts : Array TypeId) (ty : TypeId) (k : IntKind) (p q : Int) : (Builtin.max_ ts ty #[.int k p, .int k q]).run P w = .ok (.int k (max p q)) w := by
  have : (if q > p then q else p) = max p q := by omega
  simp [Builtin.max_, Builtin.max2]
  omega
theorem arr_of_toList {α : Type} {a : Array α} {l : List α} (h : a.toList = l) : a = l.toArray := by rw [← h]

set_option maxHeartbeats 1000000 in
theorem evBuiltin_sound {P : Program} {X : Cfg} (hT : X.T = tiOf P) {G : Gh} (inv : Inv G) (hg : Glob X G) {s : ASt} {a : Act} (hs : Slots G s a) (b : Builtin) (ats : Array TypeId) (args : Array Operand) {v : AV} {st : Sto}
    (h : evBuiltin X s.st b ats.toList (args.toList.map (s.ev X)) = some (v, st)) (ty : TypeId) (consts : Array Bool) : OpDone P G (builtin b ats ty consts (args.map a.eval)) v st := by
  obtain ⟨_, _, hσ⟩ := id hs
  rw [← hσ] at h
  unfold evBuiltin at h
  split at h
  · -- len
    rename_i t x hats hargs
    obtain ⟨o, ho, rfl⟩ := map1 hargs
    rw [arr_of_toList hats, arr_of_toList ho, arrmap1]
    split at h
    · rename_i ti ht
      split at h
      · rename_i hk
        cases hl : lenOf G.σ (s.ev X o) with
        | none => rw [hl] at h; cases h
        | some n =>
          rw [hl] at h; cases h
          exact opDone_value rfl (does_of inv ⟨_, run_len inv (hs.ev hg o) hl (hT ▸ ht) hk ty, .int _ _⟩)
      · cases h
    · cases h
  · -- append
    rename_i t t2 x y hats hargs
    obtain ⟨o, o2, ho, rfl, rfl⟩ := map2 hargs
    rw [arr_of_toList hats, arr_of_toList ho, arrmap2]
    split at h
    · rename_i ht ht2
      rename_i e q1 q2 q3 q4 q5 q6 q7 q8
      split at h
      · rename_i te str he hy
        split at h
        · exact opDone_value rfl (does_append_str inv (hT ▸ ht) rfl (hT ▸ he) (hT ▸ ht2) rfl (hs.ev hg o) (hy ▸ hs.ev hg o2) h ty)
        · cases h
      · cases h
    · rename_i ht ht2
      split at h
      · rename_i te ys he hy
        exact opDone_value rfl (does_append_slice inv (hT ▸ ht) rfl (hT ▸ he) (hT ▸ ht2) rfl (hs.ev hg o) (hs.ev hg o2) hy h ty)
      · cases h
    · cases h
  · -- min
    rename_i ats' k p k' q hargs
    obtain ⟨o, o2, ho, h1, h2⟩ := map2 hargs
    rw [arr_of_toList ho, arrmap2]
    split at h
    · rename_i hk
      subst hk
      cases h
      have r1 := hs.ev hg o
      have r2 := hs.ev hg o2
      rw [h1] at r1
      rw [h2] at r2
      generalize a.eval o = v1 at r1 ⊢
      generalize a.eval o2 = v2 at r2 ⊢
      cases r1
      cases r2
      exact opDone_value (y := Builtin.min_ ats ty #[.int k p, .int k q]) rfl (does_of inv ⟨.int k (min p q), run_min2 _ _ _ _ _ _, .int _ _⟩)
    · cases h
  · -- max
    rename_i ats' k p k' q hargs
    obtain ⟨o, o2, ho, h1, h2⟩ := map2 hargs
    rw [arr_of_toList ho, arrmap2]
    split at h
    · rename_i hk
      subst hk
      cases h
      have r1 := hs.ev hg o
      have r2 := hs.ev hg o2
      rw [h1] at r1
      rw [h2] at r2
      generalize a.eval o = v1 at r1 ⊢
      generalize a.eval o2 = v2 at r2 ⊢
      cases r1
      cases r2
      exact opDone_value (y := Builtin.max_ ats ty #[.int k p, .int k q]) rfl (does_of inv ⟨.int k (max p q), run_max2 _ _ _ _ _ _, .int _ _⟩)
    · cases h
  · cases h
end Go.Proofs.YtbjgepnkakcjaaaDoor.Lift
