/-
  P3: THE PLAIN LAW OF ShapeSizes: how much wider a stack may become.
  P4: THE BOUNDS: a step comes to something wherever names and lists are not beyond any machine.
  S5: shape's hand, 4: elems, set, constant (over the pool's contract), kindOf, class, answers.
  K30: contracts of the pool's functions: they are the plain ones (P1).
  K31: contracts of the pool's fits, Check, mean, Const.
  S6: shape's hand, 5: constant, kindOf, class, answers.
  S7: effects: letters one behind the other, Reverse, Cut, does; effect.
-/
import Derived.Test.YthchohjhcjkgjaaGreatDoorQ8
namespace Go.Proofs.YthchohjhcjkgjaaGreatDoor.Lift
open Go

theorem longs_append (l m : List ATy) : longs (l ++ m) = longs l + longs m := by simp [longs]
theorem wide_append (l m : List ATy) : wide (l ++ m) = wide l + wide m := by simp [wide, longs_append]; omega
theorem wide_nil : wide [] = 0 := rfl
theorem wide_one (x : ATy) : wide [x] = wide1 x := by
  unfold wide wide1 longs
  by_cases h : x.kind = 2 <;> simp [h]
theorem wide_cons (x : ATy) (l : List ATy) : wide (x :: l) = wide1 x + wide l := by rw [show x :: l = [x] ++ l from rfl, wide_append, wide_one]
theorem wide1_pos (x : ATy) : 1 ≤ wide1 x := by unfold wide1; split <;> omega
theorem wide1_le (x : ATy) : wide1 x ≤ 2 := by unfold wide1; split <;> omega
theorem wide1_single {x : ATy} (h : x.kind ≠ 2) : wide1 x = 1 := by unfold wide1; rw [if_neg h]

/-- what is done keeps the number of locals; and if nothing is bad, the stack is at most so much wider -/
def Grow (k : Int) (h h' : AHand) : Prop := h'.loc.length = h.loc.length ∧ (h'.bad = false → h.bad = false ∧ wide h'.stk ≤ wide h.stk + k)
theorem Grow.refl (h : AHand) : Grow 0 h h := ⟨rfl, fun hb => ⟨hb, by omega⟩⟩
theorem Grow.trans {j k : Int} {a b c : AHand} (x : Grow j a b) (y : Grow k b c) : Grow (j + k) a c :=
  ⟨y.1.trans x.1, fun hb => by
    obtain ⟨h1, h2⟩ := y.2 hb
    obtain ⟨h3, h4⟩ := x.2 h1
    exact ⟨h3, by omega⟩⟩
theorem Grow.mono {j k : Int} {a b : AHand} (x : Grow j a b) (h : j ≤ k) : Grow k a b := ⟨x.1, fun hb => ⟨(x.2 hb).1, by have := (x.2 hb).2; omega⟩⟩
theorem Grow.must {k : Int} {a b : AHand} (x : Grow k a b) (c : Bool) : Grow k a (mustT c b) := ⟨x.1, fun hb => by
  simp only [mustT, Bool.or_eq_false_iff] at hb
  exact x.2 hb.1⟩
theorem Grow.bad {k : Int} {a b : AHand} (x : Grow k a b) : Grow k a { b with bad := true } := ⟨x.1, fun hb => by cases hb⟩
theorem Grow.isBad {j k : Int} {a b : AHand} (x : Grow j a b) (h : b.bad = true) : Grow k a b := ⟨x.1, fun hb => by rw [h] at hb; cases hb⟩

theorem topO_grow {h h' : AHand} {t : ATy} (e : topO h = some (t, h')) : Grow (-(wide1 t : Int)) h h' := by
  unfold topO at e
  split at e
  · split at e
    · cases e
      exact ⟨rfl, fun hb => by cases hb⟩
    · rename_i x hx
      cases e
      refine ⟨rfl, fun hb => ⟨hb, ?_⟩⟩
      obtain ⟨s, hs⟩ := List.getLast?_eq_some_iff.1 hx
      simp only [hs, List.dropLast_concat, wide_append, wide_one]
      omega
  · cases e
theorem topO_grow1 {h h' : AHand} {t : ATy} (e : topO h = some (t, h')) : Grow (-1) h h' := (topO_grow e).mono (by have := wide1_pos t; omega)
theorem pushO_grow {h h' : AHand} {l : List ATy} (e : pushO l h = some h') : Grow (wide l) h h' := by
  unfold pushO at e
  split at e
  · cases e
    exact ⟨rfl, fun hb => ⟨hb, by simp only [wide_append]; omega⟩⟩
  · cases e
theorem refO_grow {h h' : AHand} {t : ATy} (e : refO h = some (t, h')) : Grow (-1) h h' := by
  obtain ⟨⟨t1, h1⟩, hr, he⟩ := Option.map_eq_some_iff.1 e
  cases he
  exact (topO_grow1 hr).must _
theorem singleO_grow {h h' : AHand} {t : ATy} (e : singleO h = some (t, h')) : Grow (-1) h h' ∧ (h'.bad = false → wide1 t = 1) := by
  obtain ⟨⟨t1, h1⟩, hr, he⟩ := Option.map_eq_some_iff.1 e
  cases he
  refine ⟨(topO_grow1 hr).must _, fun hb => ?_⟩
  simp only [mustT, Bool.or_eq_false_iff, Bool.not_eq_false', decide_eq_true_eq] at hb
  exact wide1_single hb.2
theorem pop1_grow {h h' : AHand} {x : ATy} (e : pop1 x h = some h') : Grow (-1) h h' := by
  obtain ⟨⟨t1, h1⟩, hr, he⟩ := Option.bind_eq_some_iff.1 e
  obtain ⟨b, hb, rfl⟩ := Option.map_eq_some_iff.1 he
  exact (topO_grow1 hr).must _
theorem popR_grow : ∀ {l : List ATy} {h h' : AHand}, popR l h = some h' → Grow 0 h h'
  | [], h, h', e => by cases e; exact Grow.refl h
  | x :: r, h, h', e => by
    obtain ⟨h1, he1, he2⟩ := Option.bind_eq_some_iff.1 e
    exact ((pop1_grow he1).trans (popR_grow he2)).mono (by omega)
theorem pushR_grow : ∀ {l : List ATy} {h h' : AHand}, pushR l h = some h' → Grow (wide l) h h'
  | [], h, h', e => by cases e; exact Grow.refl h
  | x :: r, h, h', e => by
    obtain ⟨h1, he1, he2⟩ := Option.bind_eq_some_iff.1 e
    rw [wide_cons, ← wide_one]
    exact (pushO_grow he1).trans (pushR_grow he2)
theorem elemsO_grow {will : ATy → Bool} {h h' : AHand} {t : ATy} (e : elemsO will h = some (t, h')) : Grow (-1) h h' := by
  obtain ⟨⟨t1, h1⟩, hr, he⟩ := Option.bind_eq_some_iff.1 e
  simp only at he
  split at he
  · cases he; exact refO_grow hr
  · split at he
    · cases he; exact (refO_grow hr).must _
    · cases he
theorem localT_grow (will : ATy → Bool) (k : Int) (h : AHand) : Grow 0 h (localT will k h).2 := by
  unfold localT
  split
  · exact Grow.refl h
  · exact (Grow.refl h).bad
theorem setL_length (k : Nat) (x : ATy) (l : List ATy) : (setL k x l).length = l.length := by
  unfold setL
  simp only
  have h1 : (if 0 < k ∧ (l.getD (k - 1) ⟨0, []⟩).kind = 2 then l.set (k - 1) ⟨0, []⟩ else l).length = l.length := by split <;> simp only [List.length_set]
  split <;> simp only [List.length_set, h1]
theorem putO_grow {k : Int} {x : ATy} {h h' : AHand} (e : putO k x h = some h') : Grow 0 h h' := by
  unfold putO at e
  split at e
  · cases e
    split
    · exact (Grow.refl h).bad
    · exact ⟨setL_length _ _ _, fun hb => ⟨hb, by show wide h.stk ≤ wide h.stk + 0; omega⟩⟩
  · cases e
theorem doesO_grow {pops pushes : Str} {h h' : AHand} (hw : wide (lettersT pushes) ≤ 2) (e : doesO pops pushes h = some h') : Grow 2 h h' := by
  obtain ⟨h1, he1, he2⟩ := Option.bind_eq_some_iff.1 e
  have hp := pushR_grow he2
  refine ((?_ : Grow 0 h h1).trans hp).mono (by omega)
  unfold popsO at he1
  split at he1
  · obtain ⟨⟨t, a⟩, ha, hb⟩ := Option.bind_eq_some_iff.1 he1
    simp only at hb
    split at hb
    · cases hb; exact (refO_grow ha).mono (by omega)
    · obtain ⟨⟨t2, b⟩, hb1, rfl⟩ := Option.map_eq_some_iff.1 hb
      exact ((refO_grow ha).trans (refO_grow hb1)).mono (by omega)
  · exact popR_grow he1
theorem effTab_wide : ∀ e ∈ effTab, wide (lettersT e.2.2) ≤ 2 := by decide
theorem effectT_wide {op : Int} {e : Str × Str} (h : effectT op = some e) : wide (lettersT e.2) ≤ 2 := by
  obtain ⟨x, hx, rfl⟩ := Option.map_eq_some_iff.1 h
  exact effTab_wide x (List.mem_of_find?_eq_some hx)
theorem one_le2 (x : ATy) : wide [x] ≤ 2 := by rw [wide_one]; have := wide1_le x; omega

theorem movesO_grow {op a : Int} {h h' : AHand} {b : Bool} (e : movesO op a h = some (b, h')) : Grow 2 h h' := by
  unfold movesO at e
  by_cases q : op = 21
  · rw [if_pos q] at e
    obtain ⟨h1, hp, he⟩ := Option.map_eq_some_iff.1 e
    cases he
    exact ((localT_grow _ _ _).trans (pushO_grow hp)).mono (by have := one_le2 (localT (fun x => decide (x = tI)) a h).1; omega)
  rw [if_neg q] at e
  by_cases q : op = 22
  · rw [if_pos q] at e
    obtain ⟨h1, hp, he⟩ := Option.map_eq_some_iff.1 e
    cases he
    exact ((localT_grow _ _ _).trans (pushO_grow hp)).mono (by have := one_le2 (localT (fun x => decide (x = tJ)) a h).1; omega)
  rw [if_neg q] at e
  by_cases q : op = 25
  · rw [if_pos q] at e
    obtain ⟨h1, hp, he⟩ := Option.map_eq_some_iff.1 e
    cases he
    exact ((localT_grow _ _ _).trans (pushO_grow hp)).mono (by have := one_le2 (localT (fun x => decide (x.kind = 4) || decide (x.kind = 3)) a h).1; omega)
  rw [if_neg q] at e
  by_cases q : op = 132
  · rw [if_pos q] at e
    cases e
    exact (localT_grow _ _ _).mono (by omega)
  rw [if_neg q] at e
  by_cases q : op = 54
  · rw [if_pos q] at e
    obtain ⟨h1, hp, he⟩ := Option.map_eq_some_iff.1 e
    cases he
    obtain ⟨h2, hp1, hp2⟩ := Option.bind_eq_some_iff.1 hp
    exact ((pop1_grow hp1).trans (putO_grow hp2)).mono (by omega)
  rw [if_neg q] at e
  by_cases q : op = 55
  · rw [if_pos q] at e
    obtain ⟨h1, hp, he⟩ := Option.map_eq_some_iff.1 e
    cases he
    obtain ⟨h2, hp1, hp2⟩ := Option.bind_eq_some_iff.1 hp
    exact ((pop1_grow hp1).trans (putO_grow hp2)).mono (by omega)
  rw [if_neg q] at e
  by_cases q : op = 58
  · rw [if_pos q] at e
    obtain ⟨h1, hp, he⟩ := Option.map_eq_some_iff.1 e
    cases he
    obtain ⟨⟨t, h2⟩, hp1, hp2⟩ := Option.bind_eq_some_iff.1 hp
    exact ((refO_grow hp1).trans (putO_grow hp2)).mono (by omega)
  rw [if_neg q] at e
  by_cases q : op = 87
  · rw [if_pos q] at e
    obtain ⟨⟨t, h1⟩, hp, he⟩ := Option.map_eq_some_iff.1 e
    cases he
    exact (singleO_grow hp).1.mono (by omega)
  rw [if_neg q] at e
  by_cases q : op = 88
  · rw [if_pos q] at e
    obtain ⟨⟨t, h1⟩, hp, he⟩ := Option.bind_eq_some_iff.1 e
    simp only at he
    split at he
    · cases he; exact (topO_grow1 hp).mono (by omega)
    · obtain ⟨⟨t2, h2⟩, hp2, he2⟩ := Option.map_eq_some_iff.1 he
      cases he2
      exact ((topO_grow1 hp).trans (singleO_grow hp2).1).mono (by omega)
  rw [if_neg q] at e
  by_cases q : op = 89
  · rw [if_pos q] at e
    obtain ⟨⟨t, h1⟩, hp, he⟩ := Option.bind_eq_some_iff.1 e
    obtain ⟨h2, hp2, he2⟩ := Option.map_eq_some_iff.1 he
    cases he2
    cases hb : h1.bad with
    | false =>
      have := (singleO_grow hp).2 hb
      refine ((singleO_grow hp).1.trans (pushO_grow hp2)).mono ?_
      simp only [wide_cons, wide_nil, this]
      omega
    | true =>
      have hg := (singleO_grow hp).1
      have : h'.bad = true := by
        cases hq : h'.bad with
        | true => rfl
        | false => have := ((pushO_grow hp2).2 hq).1; rw [hb] at this; cases this
      exact (hg.trans (pushO_grow hp2)).isBad this
  rw [if_neg q] at e
  by_cases q : op = 90
  · rw [if_pos q] at e
    obtain ⟨⟨t, h1⟩, hp, he⟩ := Option.bind_eq_some_iff.1 e
    obtain ⟨⟨t2, h2⟩, hp2, he⟩ := Option.bind_eq_some_iff.1 he
    obtain ⟨h3, hp3, he3⟩ := Option.map_eq_some_iff.1 he
    cases he3
    have g := (singleO_grow hp).1.trans ((singleO_grow hp2).1.trans (pushO_grow hp3))
    refine ⟨g.1, fun hb => ?_⟩
    have b2 := ((pushO_grow hp3).2 hb).1
    have b1 := ((singleO_grow hp2).1.2 b2).1
    have e1 := (singleO_grow hp).2 b1
    have e2 := (singleO_grow hp2).2 b2
    obtain ⟨q1, q2⟩ := g.2 hb
    simp only [wide_cons, wide_nil, e1, e2] at q2
    exact ⟨q1, by omega⟩
  rw [if_neg q] at e
  by_cases q : op = 95
  · rw [if_pos q] at e
    obtain ⟨⟨t, h1⟩, hp, he⟩ := Option.bind_eq_some_iff.1 e
    obtain ⟨⟨t2, h2⟩, hp2, he⟩ := Option.bind_eq_some_iff.1 he
    obtain ⟨h3, hp3, he3⟩ := Option.map_eq_some_iff.1 he
    cases he3
    have g := (singleO_grow hp).1.trans ((singleO_grow hp2).1.trans (pushO_grow hp3))
    refine ⟨g.1, fun hb => ?_⟩
    have b2 := ((pushO_grow hp3).2 hb).1
    have b1 := ((singleO_grow hp2).1.2 b2).1
    have e1 := (singleO_grow hp).2 b1
    have e2 := (singleO_grow hp2).2 b2
    obtain ⟨q1, q2⟩ := g.2 hb
    simp only [wide_cons, wide_nil, e1, e2] at q2
    exact ⟨q1, by omega⟩
  rw [if_neg q] at e
  by_cases q : op = 92
  · rw [if_pos q] at e
    obtain ⟨⟨t, h1⟩, hp, he⟩ := Option.bind_eq_some_iff.1 e
    simp only at he
    split at he
    · rename_i hk
      obtain ⟨h3, hp3, he3⟩ := Option.map_eq_some_iff.1 he
      cases he3
      refine ((topO_grow hp).trans (pushO_grow hp3)).mono ?_
      simp only [wide_cons, wide_nil, wide1, hk, if_pos]
      omega
    · rename_i hk
      obtain ⟨⟨t2, h2⟩, hp2, he⟩ := Option.bind_eq_some_iff.1 he
      obtain ⟨h3, hp3, he3⟩ := Option.map_eq_some_iff.1 he
      cases he3
      have g := (topO_grow1 hp).trans ((singleO_grow hp2).1.trans (pushO_grow hp3))
      refine ⟨g.1, fun hb => ?_⟩
      have b2 := ((pushO_grow hp3).2 hb).1
      have e1 := wide1_single hk
      have e2 := (singleO_grow hp2).2 b2
      obtain ⟨q1, q2⟩ := g.2 hb
      simp only [wide_cons, wide_nil, e1, e2] at q2
      exact ⟨q1, by omega⟩
  rw [if_neg q] at e
  by_cases q : op = 50
  · rw [if_pos q] at e
    obtain ⟨h1, hp, he⟩ := Option.bind_eq_some_iff.1 e
    obtain ⟨⟨t2, h2⟩, hp2, he⟩ := Option.bind_eq_some_iff.1 he
    obtain ⟨h3, hp3, he3⟩ := Option.map_eq_some_iff.1 he
    cases he3
    exact ((pop1_grow hp).trans ((elemsO_grow hp2).trans (pushO_grow hp3))).mono (by have := one_le2 t2; simp only; omega)
  rw [if_neg q] at e
  by_cases q : op = 83
  · rw [if_pos q] at e
    obtain ⟨⟨t1, h1⟩, hp, he⟩ := Option.bind_eq_some_iff.1 e
    obtain ⟨h2, hp2, he⟩ := Option.bind_eq_some_iff.1 he
    obtain ⟨⟨t3, h3⟩, hp3, he3⟩ := Option.map_eq_some_iff.1 he
    cases he3
    exact ((refO_grow hp).trans ((pop1_grow hp2).trans (elemsO_grow hp3))).mono (by omega)
  rw [if_neg q] at e
  by_cases q : op = 190
  · rw [if_pos q] at e
    obtain ⟨⟨t1, h1⟩, hp, he⟩ := Option.bind_eq_some_iff.1 e
    obtain ⟨h2, hp2, he2⟩ := Option.map_eq_some_iff.1 he
    cases he2
    exact ((elemsO_grow hp).trans (pushO_grow hp2)).mono (by have := one_le2 tI; omega)
  rw [if_neg q] at e
  cases e; exact (Grow.refl h).mono (by omega)

theorem constH_grow (p : List AEntry) (k tag : Int) (h : AHand) : Grow 0 h (constH p k tag h).2 := (Grow.refl h).must _
theorem classH_grow {p : List AEntry} {k : Int} {h h' : AHand} {s : Str} (e : classH p k h = some (s, h')) : Grow 0 h h' := by
  unfold classH at e
  split at e
  · cases e; exact (constH_grow _ _ _ _).must _
  · cases e
theorem kindH_grow {s : Str} {h h' : AHand} {t : ATy} (e : kindH s h = some (t, h')) : Grow 0 h h' := by
  unfold kindH at e
  split at e
  · cases e; exact (Grow.refl h).must _
  · cases e
theorem answersO_grow {op : Int} {back : ATy} {h h' : AHand} {b : Bool} (e : answersO op back h = some (b, h')) : Grow 2 h h' := by
  unfold answersO at e
  split at e
  · cases e; exact ((Grow.refl h).must _).mono (by omega)
  split at e
  · obtain ⟨h1, hp, he⟩ := Option.map_eq_some_iff.1 e
    cases he
    exact (((Grow.refl h).must _).trans (pop1_grow hp)).mono (by omega)
  · cases e; exact (Grow.refl h).mono (by omega)
theorem Grow.loc {k : Int} {h h' : AHand} (g : Grow k h h') : h'.loc.length = h.loc.length := g.1
theorem boundO_grow {p : List AEntry} {op a : Int} {h h' : AHand} {b : Bool} (e : boundO p op a h = some (b, h')) : h'.loc.length = h.loc.length ∧ (h'.bad = false → h.bad = false) ∧ (op = 182 ∨ op = 183 ∨ op = 184 ∨ Grow 2 h h') := by
  have fin : ∀ {h'' : AHand}, Grow 2 h h'' → h''.loc.length = h.loc.length ∧ (h''.bad = false → h.bad = false) ∧ (op = 182 ∨ op = 183 ∨ op = 184 ∨ Grow 2 h h'') := fun g => ⟨g.1, fun hb => (g.2 hb).1, .inr (.inr (.inr g))⟩
  unfold boundO at e
  by_cases q : op = 18
  · rw [if_pos q] at e
    obtain ⟨h1, hp, he⟩ := Option.map_eq_some_iff.1 e
    cases he
    exact fin (((constH_grow _ _ _ _).trans (pushO_grow hp)).mono (by have := one_le2 tI; omega))
  rw [if_neg q] at e
  by_cases q : op = 20
  · rw [if_pos q] at e
    obtain ⟨h1, hp, he⟩ := Option.map_eq_some_iff.1 e
    cases he
    exact fin (((constH_grow _ _ _ _).trans (pushO_grow hp)).mono (by have := one_le2 tJ; omega))
  rw [if_neg q] at e
  by_cases q : op = 178
  · rw [if_pos q] at e
    obtain ⟨⟨t, h1⟩, hp, he⟩ := Option.bind_eq_some_iff.1 e
    obtain ⟨h2, hp2, he2⟩ := Option.map_eq_some_iff.1 he
    cases he2
    exact fin (((constH_grow _ _ _ _).trans ((kindH_grow hp).trans (pushO_grow hp2))).mono (by have := one_le2 t; simp only; omega))
  rw [if_neg q] at e
  by_cases q : op = 179
  · rw [if_pos q] at e
    obtain ⟨⟨t, h1⟩, hp, he⟩ := Option.bind_eq_some_iff.1 e
    obtain ⟨h2, hp2, he2⟩ := Option.map_eq_some_iff.1 he
    cases he2
    exact fin (((constH_grow _ _ _ _).trans ((kindH_grow hp).trans (pop1_grow hp2))).mono (by omega))
  rw [if_neg q] at e
  by_cases q : op = 180
  · rw [if_pos q] at e
    obtain ⟨⟨t, h1⟩, hp, he⟩ := Option.bind_eq_some_iff.1 e
    obtain ⟨h2, hp2, he⟩ := Option.bind_eq_some_iff.1 he
    obtain ⟨h3, hp3, he3⟩ := Option.map_eq_some_iff.1 he
    cases he3
    exact fin (((constH_grow _ _ _ _).trans ((kindH_grow hp).trans ((pop1_grow hp2).trans (pushO_grow hp3)))).mono (by have := one_le2 t; simp only; omega))
  rw [if_neg q] at e
  by_cases q : op = 181
  · rw [if_pos q] at e
    obtain ⟨⟨t, h1⟩, hp, he⟩ := Option.bind_eq_some_iff.1 e
    obtain ⟨h2, hp2, he⟩ := Option.bind_eq_some_iff.1 he
    obtain ⟨h3, hp3, he3⟩ := Option.map_eq_some_iff.1 he
    cases he3
    exact fin (((constH_grow _ _ _ _).trans ((kindH_grow hp).trans ((pop1_grow hp2).trans (pop1_grow hp3)))).mono (by omega))
  rw [if_neg q] at e
  by_cases hop : op = 182 ∨ op = 183 ∨ op = 184
  · rw [if_pos hop] at e
    split at e
    · obtain ⟨h1, hp, he⟩ := Option.bind_eq_some_iff.1 e
      obtain ⟨h2, hp2, he⟩ := Option.bind_eq_some_iff.1 he
      obtain ⟨h3, hp3, he3⟩ := Option.map_eq_some_iff.1 he
      cases he3
      have g1 : Grow 0 h h1 := (((constH_grow _ _ _ _).must _).trans (popR_grow hp)).mono (by omega)
      have g2 : Grow 0 h1 h2 := by
        split at hp2
        · cases hp2; exact Grow.refl _
        · exact (pop1_grow hp2).mono (by omega)
      have g3 : Grow 2 h2 h' := by
        split at hp3
        · cases hp3; exact (Grow.refl _).mono (by omega)
        · exact (pushO_grow hp3).mono (one_le2 _)
      have g := g1.trans (g2.trans g3)
      exact ⟨g.1, fun hb => (g.2 hb).1, by rcases hop with h | h | h <;> simp [h]⟩
    · cases e
  rw [if_neg hop] at e
  by_cases q : op = 187
  · rw [if_pos q] at e
    obtain ⟨⟨s, h1⟩, hp, he⟩ := Option.bind_eq_some_iff.1 e
    obtain ⟨⟨t, h2⟩, hp2, he⟩ := Option.bind_eq_some_iff.1 he
    obtain ⟨h3, hp3, he3⟩ := Option.map_eq_some_iff.1 he
    cases he3
    exact fin (((classH_grow hp).must _).trans ((kindH_grow hp2).trans (pushO_grow hp3)) |>.mono (by have := one_le2 t; simp only; omega))
  rw [if_neg q] at e
  by_cases q : op = 188
  · rw [if_pos q] at e
    obtain ⟨h1, hp, he⟩ := Option.bind_eq_some_iff.1 e
    obtain ⟨h2, hp2, he2⟩ := Option.map_eq_some_iff.1 he
    cases he2
    exact fin ((((pop1_grow hp).must _).trans (pushO_grow hp2)).mono (by have := one_le2 (letterT (if a = 8 then 98 else if a = 10 then 105 else if a = 11 then 106 else 0)); omega))
  rw [if_neg q] at e
  by_cases q : op = 189
  · rw [if_pos q] at e
    obtain ⟨h1, hp, he⟩ := Option.bind_eq_some_iff.1 e
    obtain ⟨⟨s, h2⟩, hp2, he⟩ := Option.bind_eq_some_iff.1 he
    obtain ⟨⟨t, h3⟩, hp3, he⟩ := Option.bind_eq_some_iff.1 he
    obtain ⟨h4, hp4, he4⟩ := Option.map_eq_some_iff.1 he
    cases he4
    exact fin (((pop1_grow hp).trans ((classH_grow hp2).trans ((kindH_grow hp3).trans (pushO_grow hp4)))).mono (by have := one_le2 t; simp only; omega))
  rw [if_neg q] at e
  by_cases q : op = 192
  · rw [if_pos q] at e
    obtain ⟨⟨t1, h1⟩, hp, he⟩ := Option.bind_eq_some_iff.1 e
    obtain ⟨⟨s, h2⟩, hp2, he⟩ := Option.bind_eq_some_iff.1 he
    obtain ⟨⟨t, h3⟩, hp3, he⟩ := Option.bind_eq_some_iff.1 he
    obtain ⟨h4, hp4, he4⟩ := Option.map_eq_some_iff.1 he
    cases he4
    exact fin (((refO_grow hp).trans ((classH_grow hp2).trans ((kindH_grow hp3).trans (pushO_grow hp4)))).mono (by have := one_le2 t; simp only; omega))
  rw [if_neg q] at e
  by_cases q : op = 193
  · rw [if_pos q] at e
    obtain ⟨⟨s, h1⟩, hp, he⟩ := Option.bind_eq_some_iff.1 e
    obtain ⟨h2, hp2, he2⟩ := Option.map_eq_some_iff.1 he
    cases he2
    exact fin (((classH_grow hp).trans (doesO_grow (by decide) hp2)).mono (by omega))
  rw [if_neg q] at e
  cases e; exact fin ((Grow.refl h).mono (by omega))

/-- it says true -/
def AllTrue (o : Option (Bool × AHand)) : Prop := ∀ b k, o = some (b, k) → b = true
theorem AllTrue.map {α : Type} (o : Option α) (f : α → AHand) : AllTrue (o.map fun x => (true, f x)) := fun b k h => by
  obtain ⟨x, _, e⟩ := Option.map_eq_some_iff.1 h
  cases e; rfl
theorem AllTrue.bind {α : Type} (o : Option α) {f : α → Option (Bool × AHand)} (hf : ∀ x, AllTrue (f x)) : AllTrue (o.bind f) := fun b k h => by
  obtain ⟨x, _, e⟩ := Option.bind_eq_some_iff.1 h
  exact hf x b k e
theorem AllTrue.ite {c : Prop} [Decidable c] {x y : Option (Bool × AHand)} (hx : AllTrue x) (hy : AllTrue y) : AllTrue (if c then x else y) := by split <;> assumption
theorem AllTrue.some (h : AHand) : AllTrue (some (true, h)) := fun b k e => by cases e; rfl
/-- it says true, or leaves all as it was -/
def Dich (h : AHand) (o : Option (Bool × AHand)) : Prop := o = some (false, h) ∨ AllTrue o
theorem Dich.ite {h : AHand} {c : Prop} [Decidable c] {x y : Option (Bool × AHand)} (hx : Dich h x) (hy : Dich h y) : Dich h (if c then x else y) := by split <;> assumption
theorem movesO_dich (op a : Int) (h : AHand) : Dich h (movesO op a h) := by
  unfold movesO
  repeat' (first
    | exact .inl rfl
    | refine Dich.ite ?_ ?_
    | (refine .inr ?_
       repeat' (first | exact AllTrue.some _ | exact AllTrue.map _ _ | (refine AllTrue.bind _ fun _ => ?_) | refine AllTrue.ite ?_ ?_)))
theorem movesO_false {op a : Int} {h k : AHand} (e : movesO op a h = some (false, k)) : k = h := by
  rcases movesO_dich op a h with h1 | h1
  · rw [h1] at e; cases e; rfl
  · cases h1 _ _ e
theorem answersO_false {op : Int} {back : ATy} {h k : AHand} (e : answersO op back h = some (false, k)) : k = h := by
  have no : ∀ {o : Option (Bool × AHand)}, AllTrue o → o = some (false, k) → False := fun h1 h2 => by cases h1 _ _ h2
  unfold answersO at e
  split at e
  · cases e
  · split at e
    · exact (no (AllTrue.map _ _) e).elim
    · cases e; rfl
theorem plainO_call {op a : Int} (h : (plainO op a).1 = 182 ∨ (plainO op a).1 = 183 ∨ (plainO op a).1 = 184) : 182 ≤ op ∧ op ≤ 184 := by
  unfold plainO at h
  repeat' (split at h)
  all_goals first | (simp only at h; omega)
/-- ShapeSizes, plainly -/
theorem stepO_sizes {cl : List AClass} {p : List AEntry} {back : ATy} {i : AInstr} {f : AFrame} {most : Int} {x : AFrame} {e : Int} (h : stepO cl p back i f most = some (x, e)) :
    (e ≠ 0 → x = ⟨[], []⟩) ∧ (e = 0 → x.locals.length = f.locals.length ∧ wide x.stack ≤ most ∧ (wide x.stack ≤ wide f.stack + 2 ∨ (182 ≤ i.op ∧ i.op ≤ 184))) := by
  unfold stepO at h
  obtain ⟨h1, hh, he⟩ := Option.bind_eq_some_iff.1 h
  split at he
  · cases he; exact ⟨fun _ => rfl, fun e => by cases e⟩
  · rename_i hb
    simp only [Bool.not_eq_true] at hb
    split at he
    · split at he
      · cases he; exact ⟨fun _ => rfl, fun e => by cases e⟩
      · rename_i hm
        cases he
        refine ⟨fun h => absurd rfl h, fun _ => ?_⟩
        unfold handO at hh
        split at hh
        · rename_i ef hef
          have g := doesO_grow (effectT_wide hef) hh
          exact ⟨g.1, by simp only; omega, .inl (g.2 hb).2⟩
        · obtain ⟨⟨b1, k1⟩, q1, hh⟩ := Option.bind_eq_some_iff.1 hh
          have g1 := movesO_grow q1
          simp only at hh
          split at hh
          · cases hh; exact ⟨g1.1, by simp only; omega, .inl (g1.2 hb).2⟩
          · rename_i hb1
            have hb1' : b1 = false := by simpa using hb1
            subst hb1'
            have := movesO_false q1
            subst this
            obtain ⟨⟨b2, k2⟩, q2, hh⟩ := Option.bind_eq_some_iff.1 hh
            have g2 := answersO_grow q2
            simp only at hh
            split at hh
            · cases hh; exact ⟨g2.1, by simp only; omega, .inl (g2.2 hb).2⟩
            · rename_i hb2
              have hb2' : b2 = false := by simpa using hb2
              subst hb2'
              have := answersO_false q2
              subst this
              obtain ⟨⟨b3, k3⟩, q3, hh⟩ := Option.map_eq_some_iff.1 hh
              obtain ⟨g3, _, g4⟩ := boundO_grow q3
              simp only at hh
              split at hh
              · subst hh
                refine ⟨g3, by simp only; omega, ?_⟩
                rcases g4 with g | g | g | g
                · exact .inr (plainO_call (.inl g))
                · exact .inr (plainO_call (.inr (.inl g)))
                · exact .inr (plainO_call (.inr (.inr g)))
                · exact .inl (g.2 hb).2
              · subst hh
                cases hb
    · cases he
end Go.Proofs.YthchohjhcjkgjaaGreatDoor.Lift
namespace Go.Proofs.YthchohjhcjkgjaaGreatDoor.Lift
open Go

/-- a name that is not too long -/
def NameOk (x : ATy) : Prop := x.name.length ≤ 1099511500000
/-- a hand that is not too large -/
structure HB (n : Nat) (h : AHand) : Prop where
  cl : h.cl.length < 1099511627776
  stk : h.stk.length ≤ n
  loc : h.loc.length < 1099511627776
  nstk : ∀ x ∈ h.stk, NameOk x
  nloc : ∀ x ∈ h.loc, NameOk x
theorem HB.mono {n m : Nat} {h : AHand} (b : HB n h) (hm : n ≤ m) : HB m h := ⟨b.cl, Nat.le_trans b.stk hm, b.loc, b.nstk, b.nloc⟩
theorem HB.must {n : Nat} {h : AHand} (b : HB n h) (c : Bool) : HB n (mustT c h) := ⟨b.cl, b.stk, b.loc, b.nstk, b.nloc⟩
theorem HB.isBad {n : Nat} {h : AHand} (b : HB n h) : HB n { h with bad := true } := ⟨b.cl, b.stk, b.loc, b.nstk, b.nloc⟩
theorem nameOk_none : NameOk ⟨0, []⟩ := by unfold NameOk; simp
theorem nameOk_tI : NameOk tI := by unfold NameOk tI; simp
theorem nameOk_tJ : NameOk tJ := by unfold NameOk tJ; simp
theorem topO_ok {n : Nat} {h : AHand} (b : HB n h) (hn : n < 1099511627776) : ∃ t h', topO h = some (t, h') ∧ HB n h' ∧ NameOk t := by
  unfold topO
  have := b.stk
  rw [if_pos (by omega)]
  cases hl : h.stk.getLast? with
  | none => exact ⟨_, _, rfl, b.isBad, nameOk_none⟩
  | some x =>
    refine ⟨_, _, rfl, ⟨b.cl, ?_, b.loc, fun y hy => b.nstk y (List.dropLast_subset _ hy), b.nloc⟩, b.nstk x (List.mem_of_getLast? hl)⟩
    simp only [List.length_dropLast]
    omega
theorem pushO_ok {n : Nat} {h : AHand} {l : List ATy} (b : HB n h) (hl : ∀ x ∈ l, NameOk x) (hn : n + l.length < 1099511627776) : ∃ h', pushO l h = some h' ∧ HB (n + l.length) h' := by
  unfold pushO
  have := b.stk
  rw [if_pos (by omega)]
  refine ⟨_, rfl, b.cl, ?_, b.loc, fun y hy => ?_, b.nloc⟩
  · simp only [List.length_append]; omega
  · rcases List.mem_append.1 hy with h | h
    · exact b.nstk y h
    · exact hl y h
theorem refO_ok {n : Nat} {h : AHand} (b : HB n h) (hn : n < 1099511627776) : ∃ t h', refO h = some (t, h') ∧ HB n h' ∧ NameOk t := by
  obtain ⟨t, h', e, b', ht⟩ := topO_ok b hn
  exact ⟨t, mustT (decide (t.kind = 3) || decide (t.kind = 4)) h', by simp only [refO, e, Option.map_some], b'.must _, ht⟩
theorem singleO_ok {n : Nat} {h : AHand} (b : HB n h) (hn : n < 1099511627776) : ∃ t h', singleO h = some (t, h') ∧ HB n h' ∧ NameOk t := by
  obtain ⟨t, h', e, b', ht⟩ := topO_ok b hn
  exact ⟨t, mustT (decide (t.kind ≠ 2)) h', by simp only [singleO, e, Option.map_some], b'.must _, ht⟩
theorem gMayT_ok {l : List AClass} {x y : ATy} (hl : l.length < 1099511627776) (hx : NameOk x) (hy : NameOk y) : gMayT l x y = some (may l x y) := by
  unfold gMayT
  unfold NameOk at hx hy
  rw [if_pos ⟨hl, by omega, by omega⟩]
theorem pop1_ok {n : Nat} {h : AHand} {x : ATy} (b : HB n h) (hx : NameOk x) (hn : n < 1099511627776) : ∃ h', pop1 x h = some h' ∧ HB n h' := by
  obtain ⟨t, h', e, b', ht⟩ := topO_ok b hn
  exact ⟨mustT (may h'.cl t x) h', by simp only [pop1, e, Option.bind_some, gMayT_ok b'.cl ht hx, Option.map_some], b'.must _⟩
theorem popR_ok {n : Nat} (hn : n < 1099511627776) : ∀ {l : List ATy} {h : AHand}, HB n h → (∀ x ∈ l, NameOk x) → ∃ h', popR l h = some h' ∧ HB n h'
  | [], h, b, _ => ⟨h, rfl, b⟩
  | x :: r, h, b, hl => by
    obtain ⟨h1, e1, b1⟩ := pop1_ok b (hl x (by simp)) hn
    obtain ⟨h2, e2, b2⟩ := popR_ok (l := r) hn b1 (fun y hy => hl y (List.mem_cons_of_mem _ hy))
    exact ⟨h2, by simp only [popR, e1, Option.bind_some, e2], b2⟩
theorem pushR_ok : ∀ {l : List ATy} {n : Nat} {h : AHand}, HB n h → (∀ x ∈ l, NameOk x) → n + l.length < 1099511627776 → ∃ h', pushR l h = some h' ∧ HB (n + l.length) h'
  | [], n, h, b, _, _ => ⟨h, rfl, b⟩
  | x :: r, n, h, b, hl, hn => by
    simp only [List.length_cons] at hn
    obtain ⟨h1, e1, b1⟩ := pushO_ok (l := [x]) b (fun y hy => hl y (by simp at hy; simp [hy])) (by simp; omega)
    obtain ⟨h2, e2, b2⟩ := pushR_ok (l := r) b1 (fun y hy => hl y (List.mem_cons_of_mem _ hy)) (by simp; omega)
    exact ⟨h2, by simp only [pushR, e1, Option.bind_some, e2], b2.mono (by simp; omega)⟩
theorem elem_name (x : ATy) (hx : NameOk x) : NameOk (elem x).1 := by
  unfold NameOk at *
  unfold elem
  split
  · rename_i h
    split
    · simp
    · have h1 := tyOf_len ((print x).1.drop 1)
      have h2 : x.name = (print x).1 := congrArg ATy.name (print_array (x := x) (t := (print x).1) (by rw [← h.1]) h.2)
      rw [← h2] at h1 ⊢
      simp at h1 ⊢
      omega
  · simp
theorem elemsO_ok {n : Nat} {will : ATy → Bool} {h : AHand} (b : HB n h) (hn : n < 1099511627776) : ∃ t h', elemsO will h = some (t, h') ∧ HB n h' ∧ NameOk t := by
  obtain ⟨t, h', e, b', ht⟩ := refO_ok b hn
  unfold elemsO
  rw [e, Option.bind_some]
  simp only
  split
  · exact ⟨_, _, rfl, b', ht⟩
  · have : t.name.length < 1099511600000 := by unfold NameOk at ht; omega
    rw [if_pos this]
    exact ⟨_, _, rfl, b'.must _, elem_name t ht⟩
theorem letterT_ok (c : Int) : NameOk (letterT c) := by
  unfold letterT NameOk
  repeat' split
  all_goals simp
theorem lettersT_ok (s : Str) : ∀ x ∈ lettersT s, NameOk x := fun x hx => by
  obtain ⟨c, _, rfl⟩ := List.mem_map.1 hx
  exact letterT_ok _
theorem localT_ok {n : Nat} {will : ATy → Bool} {k : Int} {h : AHand} (b : HB n h) : HB n (localT will k h).2 ∧ NameOk (localT will k h).1 := by
  unfold localT
  split
  · rename_i hc
    refine ⟨b, ?_⟩
    rw [List.getD_eq_getElem?_getD, List.getElem?_eq_getElem (by omega)]
    exact b.nloc _ (List.getElem_mem _)
  · exact ⟨b.isBad, nameOk_none⟩
theorem setL_mem {k : Nat} {x y : ATy} {l : List ATy} (h : y ∈ setL k x l) : y = x ∨ y = ⟨0, []⟩ ∨ y ∈ l := by
  have set : ∀ {l : List ATy} {k : Nat} {z : ATy}, y ∈ l.set k z → y = z ∨ y ∈ l := fun h => (List.mem_or_eq_of_mem_set h).symm
  unfold setL at h
  simp only at h
  have h2 : y ∈ (if 0 < k ∧ (l.getD (k - 1) ⟨0, []⟩).kind = 2 then l.set (k - 1) ⟨0, []⟩ else l).set k x ∨ y = ⟨0, []⟩ := by
    split at h
    · rcases set h with h | h
      · exact .inr h
      · exact .inl h
    · exact .inl h
  rcases h2 with h2 | h2
  · rcases set h2 with h2 | h2
    · exact .inl h2
    · split at h2
      · rcases set h2 with h2 | h2
        · exact .inr (.inl h2)
        · exact .inr (.inr h2)
      · exact .inr (.inr h2)
  · exact .inr (.inl h2)
theorem putO_ok {n : Nat} {k : Int} {x : ATy} {h : AHand} (b : HB n h) (hx : NameOk x) : ∃ h', putO k x h = some h' ∧ HB n h' := by
  unfold putO
  rw [if_pos b.loc]
  refine ⟨_, rfl, ?_⟩
  split
  · exact b.isBad
  · refine ⟨b.cl, b.stk, by simp only [setL_length]; exact b.loc, b.nstk, fun y hy => ?_⟩
    rcases setL_mem hy with rfl | rfl | hy
    · exact hx
    · exact nameOk_none
    · exact b.nloc y hy
theorem doesO_ok {n : Nat} {pops pushes : Str} {h : AHand} (b : HB n h) (hn : n + pushes.length < 1099511627776) : ∃ h', doesO pops pushes h = some h' ∧ HB (n + pushes.length) h' := by
  have h1 : ∃ h1, popsO pops h = some h1 ∧ HB n h1 := by
    unfold popsO
    by_cases hq : pops.getLast? = some 82
    · rw [if_pos hq]
      obtain ⟨t, h', e, b', _⟩ := refO_ok b (by omega)
      rw [e, Option.bind_some]
      by_cases hr : pops.dropLast = []
      · rw [if_pos hr]; exact ⟨_, rfl, b'⟩
      · rw [if_neg hr]
        obtain ⟨t2, h2, e2, b2, _⟩ := refO_ok b' (by omega)
        exact ⟨h2, by simp only [e2, Option.map_some], b2⟩
    · rw [if_neg hq]
      exact popR_ok (by omega) b (lettersT_ok _)
  obtain ⟨h1, e1, b1⟩ := h1
  obtain ⟨h2, e2, b2⟩ := pushR_ok (l := lettersT pushes) b1 (lettersT_ok _) (by simpa [lettersT] using hn)
  refine ⟨h2, ?_, by simpa [lettersT] using b2⟩
  unfold doesO
  rw [e1, Option.bind_some, e2]

theorem putO_ok' {n : Nat} {k : Int} {x : ATy} {h : AHand} (b : HB n h) (hx : NameOk x) : ∃ h', (putO k x h).map (fun h => (true, h)) = some (true, h') ∧ HB n h' := by
  obtain ⟨h', e, b'⟩ := putO_ok (k := k) b hx
  exact ⟨h', by rw [e]; rfl, b'⟩
/-- what is pushed at an instruction's end -/
theorem pushB_ok {n m : Nat} {h : AHand} {l : List ATy} (b : HB n h) (hl : ∀ x ∈ l, NameOk x) (hm : n + l.length ≤ m) (hn : m < 1099511627776) : ∃ r, (pushO l h).map (fun h => (true, h)) = some r ∧ HB m r.2 := by
  obtain ⟨h', e, b'⟩ := pushO_ok b hl (by omega)
  exact ⟨(true, h'), by rw [e]; rfl, b'.mono hm⟩
theorem all2 {x y : ATy} (hx : NameOk x) (hy : NameOk y) : ∀ w ∈ [x, y], NameOk w := fun w hw => by
  simp only [List.mem_cons, List.not_mem_nil, or_false] at hw
  rcases hw with e | e <;> rw [e] <;> assumption
theorem all3 {x y z : ATy} (hx : NameOk x) (hy : NameOk y) (hz : NameOk z) : ∀ w ∈ [x, y, z], NameOk w := fun w hw => by
  simp only [List.mem_cons, List.not_mem_nil, or_false] at hw
  rcases hw with e | e | e <;> rw [e] <;> assumption
theorem all4 {x y z v : ATy} (hx : NameOk x) (hy : NameOk y) (hz : NameOk z) (hv : NameOk v) : ∀ w ∈ [x, y, z, v], NameOk w := fun w hw => by
  simp only [List.mem_cons, List.not_mem_nil, or_false] at hw
  rcases hw with e | e | e | e <;> rw [e] <;> assumption
theorem all1 {x : ATy} (hx : NameOk x) : ∀ y ∈ [x], NameOk y := fun y hy => by simp at hy; rw [hy]; exact hx

theorem movesO_ok {n : Nat} {op a : Int} {h : AHand} (b : HB n h) (hn : n + 4 < 1099511627776) : ∃ r, movesO op a h = some r ∧ HB (n + 4) r.2 := by
  unfold movesO
  have hn' : n < 1099511627776 := by omega
  by_cases h1 : op = 21
  · rw [if_pos h1]
    have := localT_ok (will := fun x => decide (x = tI)) (k := a) b
    exact pushB_ok this.1 (all1 this.2) (by simp) hn
  rw [if_neg h1]
  by_cases h1 : op = 22
  · rw [if_pos h1]
    have := localT_ok (will := fun x => decide (x = tJ)) (k := a) b
    exact pushB_ok this.1 (all1 this.2) (by simp) hn
  rw [if_neg h1]
  by_cases h1 : op = 25
  · rw [if_pos h1]
    have := localT_ok (will := fun x => decide (x.kind = 4) || decide (x.kind = 3)) (k := a) b
    exact pushB_ok this.1 (all1 this.2) (by simp) hn
  rw [if_neg h1]
  by_cases h1 : op = 132
  · rw [if_pos h1]
    exact ⟨_, rfl, (localT_ok b).1.mono (by omega)⟩
  rw [if_neg h1]
  by_cases h1 : op = 54
  · rw [if_pos h1]
    obtain ⟨h1, e1, b1⟩ := pop1_ok b nameOk_tI hn'
    rw [e1, Option.bind_some]
    obtain ⟨h2, e2, b2⟩ := putO_ok' (k := a) b1 nameOk_tI
    exact ⟨_, e2, b2.mono (by omega)⟩
  rw [if_neg h1]
  by_cases h1 : op = 55
  · rw [if_pos h1]
    obtain ⟨h1, e1, b1⟩ := pop1_ok b nameOk_tJ hn'
    rw [e1, Option.bind_some]
    obtain ⟨h2, e2, b2⟩ := putO_ok' (k := a) b1 nameOk_tJ
    exact ⟨_, e2, b2.mono (by omega)⟩
  rw [if_neg h1]
  by_cases h1 : op = 58
  · rw [if_pos h1]
    obtain ⟨t, h1, e1, b1, q1⟩ := refO_ok b hn'
    rw [e1, Option.bind_some]
    obtain ⟨h2, e2, b2⟩ := putO_ok' (k := a) b1 q1
    exact ⟨_, e2, b2.mono (by omega)⟩
  rw [if_neg h1]
  by_cases h1 : op = 87
  · rw [if_pos h1]
    obtain ⟨t, h1, e1, b1, q1⟩ := singleO_ok b hn'
    rw [e1]
    exact ⟨_, rfl, b1.mono (by omega)⟩
  rw [if_neg h1]
  by_cases h1 : op = 88
  · rw [if_pos h1]
    obtain ⟨t, h1, e1, b1, q1⟩ := topO_ok b hn'
    rw [e1, Option.bind_some]
    by_cases h2 : t.kind = 2
    · simp only [h2, if_true]
      exact ⟨_, rfl, b1.mono (by omega)⟩
    · simp only [h2, if_false]
      obtain ⟨t, h1, e1, b1, q1⟩ := singleO_ok b1 hn'
      rw [e1]
      exact ⟨_, rfl, b1.mono (by omega)⟩
  rw [if_neg h1]
  by_cases h1 : op = 89
  · rw [if_pos h1]
    obtain ⟨t, h1, e1, b1, q1⟩ := singleO_ok b hn'
    rw [e1, Option.bind_some]
    exact pushB_ok b1 (all2 q1 q1) (by simp) hn
  rw [if_neg h1]
  by_cases h1 : op = 90
  · rw [if_pos h1]
    obtain ⟨t, h1, e1, b1, q1⟩ := singleO_ok b hn'
    rw [e1, Option.bind_some]
    obtain ⟨t2, h2, e2, b2, q2⟩ := singleO_ok b1 hn'
    simp only [e2, Option.bind_some]
    exact pushB_ok b2 (all3 q1 q2 q1) (by simp) hn
  rw [if_neg h1]
  by_cases h1 : op = 95
  · rw [if_pos h1]
    obtain ⟨t, h1, e1, b1, q1⟩ := singleO_ok b hn'
    rw [e1, Option.bind_some]
    obtain ⟨t2, h2, e2, b2, q2⟩ := singleO_ok b1 hn'
    simp only [e2, Option.bind_some]
    exact pushB_ok b2 (all2 q1 q2) (by simp) hn
  rw [if_neg h1]
  by_cases h1 : op = 92
  · rw [if_pos h1]
    obtain ⟨t, h1, e1, b1, q1⟩ := topO_ok b hn'
    rw [e1, Option.bind_some]
    by_cases h2 : t.kind = 2
    · simp only [h2, if_true]
      exact pushB_ok b1 (all2 q1 q1) (by simp) hn
    · simp only [h2, if_false]
      obtain ⟨t2, h2, e2, b2, q2⟩ := singleO_ok b1 hn'
      simp only [e2, Option.bind_some]
      exact pushB_ok b2 (all4 q2 q1 q2 q1) (by simp) hn
  rw [if_neg h1]
  by_cases h1 : op = 50
  · rw [if_pos h1]
    obtain ⟨h1, e1, b1⟩ := pop1_ok b nameOk_tI hn'
    rw [e1, Option.bind_some]
    obtain ⟨t2, h2, e2, b2, q2⟩ := elemsO_ok (will := isRefT) b1 hn'
    simp only [e2, Option.bind_some]
    exact pushB_ok b2 (all1 q2) (by simp) hn
  rw [if_neg h1]
  by_cases h1 : op = 83
  · rw [if_pos h1]
    obtain ⟨t, h1, e1, b1, q1⟩ := refO_ok b hn'
    rw [e1, Option.bind_some]
    obtain ⟨h2, e2, b2⟩ := pop1_ok b1 nameOk_tI hn'
    simp only [e2, Option.bind_some]
    obtain ⟨t3, h3, e3, b3, q3⟩ := elemsO_ok (will := isRefT) b2 hn'
    simp only [e3]
    exact ⟨_, rfl, b3.mono (by omega)⟩
  rw [if_neg h1]
  by_cases h1 : op = 190
  · rw [if_pos h1]
    obtain ⟨t2, h2, e2, b2, q2⟩ := elemsO_ok (will := fun _ => true) b hn'
    simp only [e2, Option.bind_some]
    exact pushB_ok b2 (all1 nameOk_tI) (by simp) hn
  rw [if_neg h1]
  exact ⟨_, rfl, b.mono (by omega)⟩

/-- which entries of a right pool are right -/
theorem fits_of_check {p : List AEntry} (h : checkPool p = 0) : ∀ i, i < p.length → (p.getD i noEntry).tag ≠ 0 → 1 ≤ i → fitsE p i = true := by
  unfold checkPool at h
  split at h
  · cases h
  split at h
  · rename_i h0 hs
    intro i
    induction i with
    | zero => intro _ _ h1; omega
    | succ i ih =>
      intro hi ht _
      have hsi := hs (i + 1) hi (by omega)
      unfold sits at hsi
      simp only [Nat.add_sub_cancel, Bool.or_eq_true, decide_eq_true_eq] at hsi
      rcases hsi with h5 | h5
      · exfalso
        have hi1 : 1 ≤ i := by
          rcases Nat.eq_zero_or_pos i with rfl | hp
          · have : p.getD 0 noEntry = noEntry := Classical.byContradiction fun hc => h0 (.inr (.inr hc))
            rw [this] at h5
            cases h5
          · exact hp
        have hf := ih (by omega) (by rw [h5]; decide) hi1
        unfold fitsE fitsX at hf
        simp only [h5] at hf
        simp at hf
        apply ht
        rw [List.getD_eq_getElem?_getD, hf.2]
        rfl
      · exact h5
  · cases h
theorem entAt_tag {p : List AEntry} {i : Int} (h : tagAt p i ≠ 0) : 0 ≤ i ∧ i.toNat < p.length ∧ entAt p i = p.getD i.toNat noEntry := by
  unfold tagAt entAt at h
  unfold entAt
  split at h
  · exact absurd rfl h
  · rename_i hi
    refine ⟨by omega, ?_, by rw [if_neg hi]⟩
    apply Classical.byContradiction
    intro hl
    apply h
    rw [List.getD_eq_getElem?_getD, List.getElem?_eq_none (by omega)]
    rfl
theorem ent_fits {p : List AEntry} (hc : checkPool p = 0) {i : Int} (h : tagAt p i ≠ 0) : fitsX p i.toNat (entAt p i) = true := by
  obtain ⟨h0, h1, h2⟩ := entAt_tag h
  have ht : (p.getD i.toNat noEntry).tag ≠ 0 := by rw [← h2]; exact h
  rw [h2]
  refine fits_of_check hc _ h1 ht ?_
  rcases Nat.eq_zero_or_pos i.toNat with hz | hp
  · exfalso
    unfold checkPool at hc
    split at hc
    · cases hc
    · rename_i h3
      have : p.getD 0 noEntry = noEntry := Classical.byContradiction fun hq => h3 (.inr (.inr hq))
      rw [hz, this] at ht
      exact ht rfl
  · exact hp
theorem text_len {p : List AEntry} (hc : checkPool p = 0) {i : Int} (h : tagAt p i = 1) : (entAt p i).text.length ≤ 255 := by
  have hf := ent_fits hc (i := i) (by rw [h]; decide)
  have ht : (entAt p i).tag = 1 := h
  simp [fitsX, ht, rightT] at hf
  exact hf.2.1
theorem class_tag {p : List AEntry} (hc : checkPool p = 0) {i : Int} (h : tagAt p i = 7) : tagAt p (entAt p i).a = 1 := by
  have hf := ent_fits hc (i := i) (by rw [h]; decide)
  have ht : (entAt p i).tag = 7 := h
  simp [fitsX, ht] at hf
  exact hf.2
theorem name_tag {p : List AEntry} (hc : checkPool p = 0) {i : Int} (h : tagAt p i = 12) : tagAt p (entAt p i).a = 1 ∧ tagAt p (entAt p i).b = 1 := by
  have hf := ent_fits hc (i := i) (by rw [h]; decide)
  have ht : (entAt p i).tag = 12 := h
  simp [fitsX, ht] at hf
  exact hf.2
theorem ref_tag {p : List AEntry} (hc : checkPool p = 0) {i : Int} (h : tagAt p i = 9 ∨ tagAt p i = 10) : tagAt p (entAt p i).a = 7 ∧ tagAt p (entAt p i).b = 12 := by
  have hf := ent_fits hc (i := i) (by rcases h with h | h <;> rw [h] <;> decide)
  rcases h with h | h
  · have ht : (entAt p i).tag = 9 := h
    simp [fitsX, ht] at hf
    exact hf.2
  · have ht : (entAt p i).tag = 10 := h
    simp [fitsX, ht] at hf
    exact hf.2
/-- a constant's texts are short -/
theorem constT_len (p : List AEntry) (k : Int) : (constT p k).1.cls.length ≤ 255 ∧ (constT p k).1.name.length ≤ 255 ∧ (constT p k).1.type.length ≤ 255 := by
  have hm : checkPool p = 0 → (meanC p k).cls.length ≤ 255 ∧ (meanC p k).name.length ≤ 255 ∧ (meanC p k).type.length ≤ 255 := fun hc => by
    unfold meanC
    simp only
    split
    · simp
    split
    · rename_i h7
      exact ⟨text_len hc (class_tag hc h7), by simp, by simp⟩
    split
    · rename_i h9
      obtain ⟨h1, h2⟩ := ref_tag hc h9
      obtain ⟨h3, h4⟩ := name_tag hc h2
      exact ⟨text_len hc (class_tag hc h1), text_len hc h3, text_len hc h4⟩
    · simp [noConst]
  unfold constT
  split
  · rename_i hc
    split <;> exact hm hc
  · simp [noConst]
theorem constH_ok {n : Nat} {p : List AEntry} {k tag : Int} {h : AHand} (b : HB n h) : HB n (constH p k tag h).2 ∧ (constH p k tag h).1.cls.length ≤ 255 ∧ (constH p k tag h).1.type.length ≤ 255 := by
  unfold constH
  simp only
  refine ⟨b.must _, ?_⟩
  split
  · simp [noConst]
  · exact ⟨(constT_len p k).1, (constT_len p k).2.2⟩
theorem texty_len (x : ATy) : (texty x).length ≤ x.name.length + 2 := by
  unfold texty
  repeat' split
  all_goals simp
theorem print_len2 (x : ATy) : (print x).1.length ≤ x.name.length + 2 := by
  unfold print
  split
  · exact texty_len x
  · simp
theorem classH_ok {n : Nat} {p : List AEntry} {k : Int} {h : AHand} (b : HB n h) : ∃ s h', classH p k h = some (s, h') ∧ HB n h' ∧ s.length ≤ 257 := by
  obtain ⟨b1, l1, _⟩ := constH_ok (p := p) (k := k) (tag := 7) b
  unfold classH
  rw [if_pos (by omega)]
  refine ⟨_, _, rfl, b1.must _, ?_⟩
  have := print_len2 ⟨4, (constH p k 7 h).1.cls⟩
  simp only at this ⊢
  omega
theorem parse_name (s : Str) : (parse s).1.name.length ≤ s.length := by
  unfold parse
  split
  · simp
  · exact tyOf_len s
theorem kindH_ok {n : Nat} {s : Str} {h : AHand} (b : HB n h) (hs : s.length ≤ 1000) : ∃ t h', kindH s h = some (t, h') ∧ HB n h' ∧ NameOk t := by
  unfold kindH
  rw [if_pos (by omega)]
  exact ⟨_, _, rfl, b.must _, by have := parse_name s; unfold NameOk; omega⟩
theorem answersO_ok {n : Nat} {op : Int} {back : ATy} {h : AHand} (b : HB n h) (hb : NameOk back) (hn : n < 1099511627776) : ∃ r, answersO op back h = some r ∧ HB n r.2 := by
  unfold answersO
  split
  · exact ⟨_, rfl, b.must _⟩
  split
  · obtain ⟨h', e, b'⟩ := pop1_ok (b.must (decide (back.kind = if op = 172 then 1 else if op = 173 then 2 else 4) && (decide ((if op = 172 then 1 else if op = 173 then 2 else 4 : Int) = 4) || decide (back.name = [])))) hb hn
    simp only
    rw [e]
    exact ⟨_, rfl, b'⟩
  · exact ⟨_, rfl, b⟩
theorem typesOf_names : ∀ (n : Nat) (s : Str), s.length ≤ n → ∀ x ∈ (typesOf s).1, x.name.length ≤ s.length
  | 0, s, h, x, hx => by
    have : s = [] := List.length_eq_zero_iff.1 (by omega)
    subst this
    rw [typesOf_none rfl] at hx
    cases hx
  | n + 1, s, h, x, hx => by
    by_cases hd : descLen s 0 = 0
    · rw [typesOf_none hd] at hx; cases hx
    · rw [typesOf_some hd] at hx
      rcases List.mem_cons.1 hx with rfl | hx
      · have := tyOf_len (s.take (descLen s 0))
        simp at this ⊢
        omega
      · have h1 : 0 < s.length := List.length_pos_iff.2 (fun e => hd (by rw [e]; simp [descLen]))
        have := typesOf_names n (s.drop (descLen s 0)) (by simp; omega) x hx
        simp at this
        omega
theorem method_names (s : Str) : (∀ x ∈ (method s).1, x.name.length ≤ s.length) ∧ (method s).2.1.name.length ≤ s.length := by
  have h1 : ∀ x ∈ (typesOf (s.drop 1)).1, x.name.length ≤ s.length := fun x hx => by
    have := typesOf_names _ _ (Nat.le_refl _) x hx
    simp only [List.length_drop] at this
    omega
  have hl : (typesOf (s.drop 1)).2.length ≤ s.length := by
    have key : ∀ (n : Nat) (s : Str), s.length ≤ n → (typesOf s).2.length ≤ s.length := by
      intro n
      induction n with
      | zero =>
        intro s h
        have : s = [] := List.length_eq_zero_iff.1 (by omega)
        subst this
        rw [typesOf_none rfl]
        simp
      | succ n ih =>
        intro s h
        by_cases hd : descLen s 0 = 0
        · rw [typesOf_none hd]; exact Nat.le_refl _
        · rw [typesOf_some hd]
          have h1 : 0 < s.length := List.length_pos_iff.2 (fun e => hd (by rw [e]; simp [descLen]))
          have := ih (s.drop (descLen s 0)) (by simp; omega)
          simp at this ⊢
          omega
    have := key _ _ (Nat.le_refl (s.drop 1).length)
    simp only [List.length_drop] at this
    omega
  have h2 := parse_name ((typesOf (s.drop 1)).2.drop 1)
  simp only [List.length_drop] at h2
  unfold method
  split
  · simp only
    split
    · split
      · split
        · simp
        · exact ⟨h1, by simp⟩
      split
      · simp
      split
      · simp
      · exact ⟨h1, by simp only; omega⟩
    · simp
  · simp
theorem boundO_ok {n : Nat} {p : List AEntry} {op a : Int} {h : AHand} (b : HB n h) (hn : n + 4 < 1099511627776) : ∃ r, boundO p op a h = some r ∧ HB (n + 4) r.2 := by
  have hn' : n < 1099511627776 := by omega
  have cn : ∀ {tag : Int}, NameOk (namedT (constH p a tag h).1.cls) := fun {tag} => by
    have := (constH_ok (p := p) (k := a) (tag := tag) b).2.1
    unfold NameOk namedT
    simp only
    omega
  unfold boundO
  by_cases h1 : op = 18
  · rw [if_pos h1]
    exact pushB_ok (constH_ok b).1 (all1 nameOk_tI) (by simp) hn
  rw [if_neg h1]
  by_cases h1 : op = 20
  · rw [if_pos h1]
    exact pushB_ok (constH_ok b).1 (all1 nameOk_tJ) (by simp) hn
  rw [if_neg h1]
  by_cases h1 : op = 178
  · rw [if_pos h1]
    obtain ⟨c1, c2, c3⟩ := constH_ok (p := p) (k := a) (tag := 9) b
    obtain ⟨t, h1, e1, b1, q1⟩ := kindH_ok c1 (show (constH p a 9 h).1.type.length ≤ 1000 by omega)
    rw [e1, Option.bind_some]
    exact pushB_ok b1 (all1 q1) (by simp) hn
  rw [if_neg h1]
  by_cases h1 : op = 179
  · rw [if_pos h1]
    obtain ⟨c1, c2, c3⟩ := constH_ok (p := p) (k := a) (tag := 9) b
    obtain ⟨t, h1, e1, b1, q1⟩ := kindH_ok c1 (show (constH p a 9 h).1.type.length ≤ 1000 by omega)
    rw [e1, Option.bind_some]
    obtain ⟨h2, e2, b2⟩ := pop1_ok b1 q1 hn'
    simp only [e2]
    exact ⟨_, rfl, b2.mono (by omega)⟩
  rw [if_neg h1]
  by_cases h1 : op = 180
  · rw [if_pos h1]
    obtain ⟨c1, c2, c3⟩ := constH_ok (p := p) (k := a) (tag := 9) b
    obtain ⟨t, h1, e1, b1, q1⟩ := kindH_ok c1 (show (constH p a 9 h).1.type.length ≤ 1000 by omega)
    rw [e1, Option.bind_some]
    obtain ⟨h2, e2, b2⟩ := pop1_ok b1 (cn (tag := 9)) hn'
    simp only [e2, Option.bind_some]
    exact pushB_ok b2 (all1 q1) (by simp) hn
  rw [if_neg h1]
  by_cases h1 : op = 181
  · rw [if_pos h1]
    obtain ⟨c1, c2, c3⟩ := constH_ok (p := p) (k := a) (tag := 9) b
    obtain ⟨t, h1, e1, b1, q1⟩ := kindH_ok c1 (show (constH p a 9 h).1.type.length ≤ 1000 by omega)
    rw [e1, Option.bind_some]
    obtain ⟨h2, e2, b2⟩ := pop1_ok b1 q1 hn'
    simp only [e2, Option.bind_some]
    obtain ⟨h3, e3, b3⟩ := pop1_ok b2 (cn (tag := 9)) hn'
    simp only [e3]
    exact ⟨_, rfl, b3.mono (by omega)⟩
  rw [if_neg h1]
  by_cases h1 : op = 182 ∨ op = 183 ∨ op = 184
  · rw [if_pos h1]
    obtain ⟨c1, c2, c3⟩ := constH_ok (p := p) (k := a) (tag := 10) b
    rw [if_pos (by omega)]
    have hm := method_names (constH p a 10 h).1.type
    have hl1 : ∀ x ∈ (method (constH p a 10 h).1.type).1.reverse, NameOk x := fun x hx => by
      have := hm.1 x (List.mem_reverse.1 hx)
      unfold NameOk
      omega
    obtain ⟨h1, e1, b1⟩ := popR_ok hn' (c1.must (decide ((method (constH p a 10 h).1.type).2.2 = 0))) hl1
    simp only [popO, e1, Option.bind_some]
    have h2 : ∃ h2, (if op = 184 then some h1 else pop1 (namedT (constH p a 10 h).1.cls) h1) = some h2 ∧ HB n h2 := by
      split
      · exact ⟨_, rfl, b1⟩
      · exact pop1_ok b1 (cn (tag := 10)) hn'
    obtain ⟨h2, e2, b2⟩ := h2
    simp only [e2, Option.bind_some]
    split
    · exact ⟨_, rfl, b2.mono (by omega)⟩
    · exact pushB_ok b2 (all1 (by have := hm.2; unfold NameOk; omega)) (by simp) hn
  rw [if_neg h1]
  by_cases h1 : op = 187
  · rw [if_pos h1]
    obtain ⟨s, h1, e1, b1, l1⟩ := classH_ok (p := p) (k := a) b
    rw [e1, Option.bind_some]
    obtain ⟨t, h2, e2, b2, q2⟩ := kindH_ok (b1.must (decide (([76] : Str) <+: s))) (show s.length ≤ 1000 by omega)
    simp only [e2, Option.bind_some]
    exact pushB_ok b2 (all1 q2) (by simp) hn
  rw [if_neg h1]
  by_cases h1 : op = 188
  · rw [if_pos h1]
    obtain ⟨h1, e1, b1⟩ := pop1_ok b nameOk_tI hn'
    rw [e1, Option.bind_some]
    exact pushB_ok (b1.must _) (all1 (letterT_ok _)) (by simp) hn
  rw [if_neg h1]
  by_cases h1 : op = 189
  · rw [if_pos h1]
    obtain ⟨h1, e1, b1⟩ := pop1_ok b nameOk_tI hn'
    rw [e1, Option.bind_some]
    obtain ⟨s, h2, e2, b2, l2⟩ := classH_ok (p := p) (k := a) b1
    simp only [e2, Option.bind_some]
    obtain ⟨t, h3, e3, b3, q3⟩ := kindH_ok b2 (show (91 :: s).length ≤ 1000 by simp; omega)
    simp only [e3, Option.bind_some]
    exact pushB_ok b3 (all1 q3) (by simp) hn
  rw [if_neg h1]
  by_cases h1 : op = 192
  · rw [if_pos h1]
    obtain ⟨t1, h1, e1, b1, _⟩ := refO_ok b hn'
    rw [e1, Option.bind_some]
    obtain ⟨s, h2, e2, b2, l2⟩ := classH_ok (p := p) (k := a) b1
    simp only [e2, Option.bind_some]
    obtain ⟨t, h3, e3, b3, q3⟩ := kindH_ok b2 (show s.length ≤ 1000 by omega)
    simp only [e3, Option.bind_some]
    exact pushB_ok b3 (all1 q3) (by simp) hn
  rw [if_neg h1]
  by_cases h1 : op = 193
  · rw [if_pos h1]
    obtain ⟨s, h2, e2, b2, l2⟩ := classH_ok (p := p) (k := a) b
    rw [e2, Option.bind_some]
    obtain ⟨h3, e3, b3⟩ := doesO_ok (pops := [82]) (pushes := [73]) b2 (by simp; omega)
    simp only [e3]
    exact ⟨_, rfl, b3.mono (by simp)⟩
  rw [if_neg h1]
  exact ⟨_, rfl, b.mono (by omega)⟩
theorem effTab_len : ∀ e ∈ effTab, e.2.2.length ≤ 1 := by decide
theorem handO_ok {n : Nat} {p : List AEntry} {back : ATy} {op a : Int} {h : AHand} (b : HB n h) (hb : NameOk back) (hn : n + 8 < 1099511627776) : ∃ h', handO p back op a h = some h' ∧ HB (n + 8) h' := by
  unfold handO
  split
  · rename_i e he
    have hl : e.2.length ≤ 1 := by
      obtain ⟨x, hx, rfl⟩ := Option.map_eq_some_iff.1 he
      exact effTab_len x (List.mem_of_find?_eq_some hx)
    obtain ⟨h', e1, b1⟩ := doesO_ok (pops := e.1) (pushes := e.2) b (by omega)
    exact ⟨h', e1, b1.mono (by omega)⟩
  · obtain ⟨r1, e1, b1⟩ := movesO_ok (op := op) (a := a) b (by omega)
    rw [e1, Option.bind_some]
    split
    · exact ⟨_, rfl, b1.mono (by omega)⟩
    · obtain ⟨r2, e2, b2⟩ := answersO_ok (op := op) b1 hb (by omega)
      rw [e2, Option.bind_some]
      split
      · exact ⟨_, rfl, b2.mono (by omega)⟩
      · obtain ⟨r3, e3, b3⟩ := boundO_ok (p := p) (op := op) (a := a) b2 (by omega)
        rw [e3, Option.map_some]
        refine ⟨_, rfl, ?_⟩
        split
        · exact b3
        · exact b3.isBad
/-- a frame that is not too large -/
structure FrOk (n : Nat) (f : AFrame) : Prop where
  loc : f.locals.length < 1099511627776
  stk : f.stack.length ≤ n
  nloc : ∀ x ∈ f.locals, NameOk x
  nstk : ∀ x ∈ f.stack, NameOk x
theorem stepO_ok {n : Nat} {cl : List AClass} {p : List AEntry} {back : ATy} {i : AInstr} {f : AFrame} {most : Int} (hcl : cl.length < 1099511627776) (hb : NameOk back) (hf : FrOk n f) (hn : n + 8 < 1099511627776) :
    ∃ x e, stepO cl p back i f most = some (x, e) ∧ FrOk (n + 8) x := by
  obtain ⟨h', e, b⟩ := handO_ok (p := p) (back := back) (op := (plainT i).op) (a := (plainT i).a) (h := ⟨cl, f.locals, f.stack, false, 1, []⟩) (n := n) ⟨hcl, hf.stk, hf.loc, hf.nstk, hf.nloc⟩ hb hn
  have none : FrOk (n + 8) ⟨[], []⟩ := ⟨by simp, by simp, fun x hx => (by cases hx), fun x hx => (by cases hx)⟩
  unfold stepO
  rw [e, Option.bind_some]
  split
  · exact ⟨_, _, rfl, none⟩
  · have := b.stk
    rw [if_pos (by omega)]
    split
    · exact ⟨_, _, rfl, none⟩
    · exact ⟨_, _, rfl, b.loc, b.stk, b.nloc, b.nstk⟩
end Go.Proofs.YthchohjhcjkgjaaGreatDoor.Lift
namespace Go.Proofs.YthchohjhcjkgjaaGreatDoor.Lift
open Go
set_option maxRecDepth 100000

def willE (f : Nat) : Option (ATy → Bool) := if f = 87 then some isRefT else if f = 93 then some (fun _ => true) else none
def hElems (av : List AV) (_ : Sto) (h : AHand) : Option (AV × AHand) := match av with
  | [.fn (.func f) [] []] => (willE f).bind fun will => (elemsO will h).map fun r => (encTy r.1, r.2)
  | _ => none
theorem ok_elems : OkX Tryz.prog (XE [(87, liftS 9 (fn1 cTy encBool fun x => some (isRefT x))), (93, liftS 9 (fn1 cTy encBool fun _ => some true)), (73, liftS 9 (fn1 cTy encTyErr fun x => if x.name.length < 1099511600000 then some (elem x) else none)),
    (94, handS hMust), (80, handS hRef)]) := ((((okX_nil.add f_ref).add f_must).addP p_kindElem).addP p_anything).addP p_isRef
set_option maxHeartbeats 1000000 in
theorem f_elems : SoundF Tryz.prog gl 92 (handS hElems) := by
  refine hand_of_wk' ok_elems Tryz.func92 rfl rfl fun av q hh r h' hm => ?_
  unfold hElems at hm
  split at hm
  · rename_i f
    obtain ⟨will, hw, hm2⟩ := Option.bind_eq_some_iff.1 hm
    obtain ⟨⟨t, h1⟩, he, hr⟩ := Option.map_eq_some_iff.1 hm2
    clear hm hm2
    cases hr
    refine ⟨cTy.fz _, fun p0 p1 p2 p3 p4 hc G0 => ?_⟩
    unfold elemsO at he
    obtain ⟨⟨x, h2⟩, hx, he2⟩ := Option.bind_eq_some_iff.1 he
    simp only at he2
    by_cases h3 : x.kind = 3
    · rw [if_pos h3] at he2
      cases he2
      simp [Tryz.f92, entry, handS_eq, hRef, hx, h3]
    · rw [if_neg h3] at he2
      split at he2
      · rename_i hn
        cases he2
        cases hel : elem x with
        | mk y er =>
          by_cases her : er = 0
          · unfold willE at hw
            split at hw
            · rename_i e; subst e; cases hw
              simp [Tryz.f92, entry, handS_eq, hRef, hx, h3, hn, hel, her, hMust, isRefT]
            · split at hw
              · rename_i e; subst e; cases hw
                simp [Tryz.f92, entry, handS_eq, hRef, hx, h3, hn, hel, her, hMust]
              · cases hw
          · simp [Tryz.f92, entry, handS_eq, hRef, hx, h3, hn, hel, her, hMust]
      · cases he2
  · cases hm

@[simp high] theorem hs_set5 {p0 p1 p2 p3 p4 : ABlk} {h : AHand} {q : Sto} {l : List ATy} (hl : l.length = h.loc.length) : (handSto p0 p1 p2 p3 p4 h q).set 5 (.row 2 1 0 (l.map encTy)) = handSto p0 p1 p2 p3 p4 { h with loc := l } q := by
  unfold handSto
  simp [hl]
attribute [-simp] List.map_set
@[simp] theorem set_mkTy (l : List ATy) (i : Nat) (k : Int) (s : Str) : (l.map encTy).set i (.agg [.int .i64 k, .str s]) = (l.set i ⟨k, s⟩).map encTy := by rw [List.map_set]; rfl
/-- a list of types in the hand's locals is set -/
def hSet (av : List AV) (_ : Sto) (h : AHand) : Option (AV × AHand) := match av with
  | [.int .i64 k, x] => (decTy x).bind fun x => (putO k x h).map fun h' => (.tup [], h')
  | _ => none
theorem wide_single (x : ATy) : wide [x] = if x.kind = 2 then 2 else 1 := by
  rw [wide_one]
  unfold wide1
  split <;> rfl
theorem ok_set : OkX Tryz.prog (XE [(49, liftS 9 (fn1 (cL cTy) encInt fun l => if l.length < 1099511627776 then some (wide l) else none))]) := okX_nil.addP p_kindWide
set_option maxHeartbeats 1000000 in
theorem f_set : SoundF Tryz.prog gl 89 (handS hSet) := by
  refine hand_of_wk' (ok_set.b [8]) Tryz.func89 rfl rfl fun av q hh r h' hm => ?_
  unfold hSet at hm
  split at hm
  · rename_i k xv
    obtain ⟨⟨xk, xn⟩, hxv, hm2⟩ := Option.bind_eq_some_iff.1 hm
    have := cTy.ed _ _ hxv
    subst this
    generalize hxx : (⟨xk, xn⟩ : ATy) = x at *
    obtain ⟨h1, he, hr⟩ := Option.map_eq_some_iff.1 hm2
    clear hm hm2
    cases hr
    refine ⟨rfl, fun p0 p1 p2 p3 p4 hc G0 => ?_⟩
    unfold putO at he
    split at he
    · rename_i hl
      cases he
      have hwide : wide [x] = wide1 x := wide_one x
      have hw1 := wide1_pos x
      have hw2 := wide1_le x
      have hws := wrap_i64 (show (-9223372036854775808 : Int) ≤ (hh.loc.length : Int) - wide1 x by omega) (by omega)
      by_cases h0 : k < 0
      · simp [Tryz.f89, entry, h0, hwide]
        simp [handSto]
      · by_cases h2 : (hh.loc.length : Int) - wide1 x < k
        · simp [Tryz.f89, entry, h0, h2, hwide, hws]
          simp [handSto]
        · simp [Tryz.f89, entry, h0, h2, hwide, hws]
          obtain ⟨n, rfl⟩ : ∃ n : Nat, k = n := ⟨k.toNat, by omega⟩
          have hn : n < hh.loc.length := by omega
          have hx : hh.loc[n]? = some hh.loc[n] := List.getElem?_eq_getElem hn
          have hwk : (wide1 x : Int) = if x.kind = 2 then 2 else 1 := by unfold wide1; split <;> rfl
          subst hxx
          by_cases hk : xk = 2
          · subst hk
            rw [if_pos rfl] at hwk
            rw [hwk] at h2
            have hn1 : n + 1 < hh.loc.length := by omega
            have hw3 := wrap_i64 (show (-9223372036854775808 : Int) ≤ (n : Int) + 1 by omega) (by omega)
            have hnn : (0 : Int) ≤ (n : Int) + 1 := by omega
            have hn2 : ((n : Int) + 1).toNat = n + 1 := by omega
            have hn3 : ((n : Int) + 1 < hh.loc.length) = True := eq_true (by omega)
            cases n with
            | zero =>
              have hw4 : IntKind.wrap .i64 1 = 1 := by decide
              have hn4 : ((1 : Int) < hh.loc.length) = True := eq_true (by omega)
              simp [hwk]
              refine dk_of (by decide) ?_
              simp [hn]
              refine sd_of (by decide) ?_
              have hx1 : hh.loc[1]? = some (hh.loc[1]'(by omega)) := List.getElem?_eq_getElem (by omega)
              simp [hw4, hn4, hx1]
              simp [setL]
            | succ m =>
              have hm1 : m < hh.loc.length := by omega
              have hwm := wrap_i64 (show (-9223372036854775808 : Int) ≤ (m : Int) by omega) (by omega)
              have hm2 : ((m : Int) + 1 < hh.loc.length) = True := eq_true (by omega)
              have hpos : ((0 : Int) < (m : Int) + 1) = True := eq_true (by omega)
              have hge : ((0 : Int) ≤ (m : Int) + 1) = True := eq_true (by omega)
              have ht1 : ((m : Int) + 1).toNat = m + 1 := by omega
              have hx2 : hh.loc[m + 1 + 1]? = some (hh.loc[m + 1 + 1]'(by omega)) := List.getElem?_eq_getElem (by omega)
              have hx3 : (hh.loc.set m ⟨0, []⟩)[m + 1 + 1]? = some (hh.loc[m + 1 + 1]'(by omega)) := by rw [List.getElem?_set_ne (by omega)]; exact hx2
              simp at hw3 hn3 hnn hn2
              by_cases hp : hh.loc[m].kind = 2
              · simp [hwk, hpos, hwm, hm1, hp]
                refine dk_of (by decide) ?_
                simp [hm2, hge, ht1, hx]
                refine sd_of (by decide) ?_
                simp [hw3, hn3, hnn, hn2, hx3]
                simp [setL, hm1, hp]
              · simp [hwk, hpos, hwm, hm1, hp]
                refine dk_of (by decide) ?_
                simp [hm2, hge, ht1, hx]
                refine sd_of (by decide) ?_
                simp [hw3, hn3, hnn, hn2, hx2]
                simp [setL, hm1, hp]
          · rw [if_neg hk] at hwk
            cases n with
            | zero =>
              simp [hwk]
              refine dk_of (by decide) ?_
              simp [hn]
              refine sd_of (by decide) ?_
              simp
              simp [setL, hk]
            | succ m =>
              have hm1 : m < hh.loc.length := by omega
              have hwm := wrap_i64 (show (-9223372036854775808 : Int) ≤ (m : Int) by omega) (by omega)
              have hm2 : ((m : Int) + 1 < hh.loc.length) = True := eq_true (by omega)
              have hpos : ((0 : Int) < (m : Int) + 1) = True := eq_true (by omega)
              have hge : ((0 : Int) ≤ (m : Int) + 1) = True := eq_true (by omega)
              have ht1 : ((m : Int) + 1).toNat = m + 1 := by omega
              by_cases hp : hh.loc[m].kind = 2
              · simp [hwk, hpos, hwm, hm1, hp]
                refine dk_of (by decide) ?_
                simp [hm2, hge, ht1, hx]
                refine sd_of (by decide) ?_
                simp
                simp [setL, hm1, hp, hk]
              · simp [hwk, hpos, hwm, hm1, hp]
                refine dk_of (by decide) ?_
                simp [hm2, hge, ht1, hx]
                refine sd_of (by decide) ?_
                simp
                simp [setL, hm1, hp, hk]
    · cases he
  · cases hm
end Go.Proofs.YthchohjhcjkgjaaGreatDoor.Lift
namespace Go.Proofs.YthchohjhcjkgjaaGreatDoor.Lift
open Go
set_option maxRecDepth 100000

theorem p_small : SoundP Tryz.prog gl 209 (fn1 cInt encBool fun n => some (smallN n)) := by
  refine soundP_of_wk okX_nil mixed Tryz.func209 rfl rfl fun args r h G0 => ?_
  obtain ⟨n, e, rfl, he, rfl⟩ := fn1_inv h
  cases he
  simp [Tryz.f209, entry]
  exact finS_fz (by simp)
theorem p_right1 : SoundP Tryz.prog gl 242 (fn1 cRune encBool fun c => some (decide (c < 33) || decide (126 < c))) := by
  refine soundP_of_wk okX_nil mixed Tryz.func242 rfl rfl fun args r h G0 => ?_
  obtain ⟨c, e, rfl, he, rfl⟩ := fn1_inv h
  cases he
  by_cases h1 : c < 33
  · simp [Tryz.f242, entry, h1]
    exact finS_fz (by simp)
  · simp [Tryz.f242, entry, h1]
    exact finS_fz (by simp)
/-- a byte that may not stand in a pool's text -/
def badB (c : UInt8) : Bool := decide (c.toNat < 33) || decide (126 < c.toNat)
def badIdx (s : Str) : Int := if s.findIdx badB < s.length then s.findIdx badB else -1
theorem p_indexFunc : SoundP Tryz.prog gl 275 (fn3 cStr (cF0 242) cBool encInt fun s _ b => if b = true ∧ s.length < 1099511627776 then some (badIdx s) else none) := by
  have okx := okX_nil.addP p_right1
  refine soundP_of_wk okx mixed Tryz.func275 rfl rfl fun args r h G0 => ?_
  obtain ⟨s, u, b, e, rfl, he, rfl⟩ := fn3_inv h
  simp only [Option.ite_none_right_eq_some, Option.some.injEq] at he
  obtain ⟨⟨rfl, hs⟩, rfl⟩ := he
  simp [Tryz.f275, entry]
  refine lp_of okx mixed (fun (i : Nat) => ⟨21, frL [(1, .fn (.func 242) [] []), (2, .bool true), (6, .int .i64 0), (10, .ptr 0 0 0 0)], [.iter s i]⟩) (fun i => i ≤ s.length ∧ ∀ (j : Nat) (h : j < s.length), j < i → badB s[j] = false) (fun i => s.length - i) 0 (by simp) (weak_frL rfl rfl (by simp)) ?_
  intro i ⟨hi, hn⟩
  by_cases h3 : i < s.length
  · have hx : s[i]? = some s[i] := by simp [h3]
    by_cases hb : badB s[i] = true
    · have hidx : s.findIdx badB = i := by
        rw [List.findIdx_eq h3]
        exact ⟨hb, fun j hj => hn j (by omega) hj⟩
      have hres : badIdx s = i := by unfold badIdx; rw [hidx, if_pos h3]
      have hr : (decide (((runeAt s i).1 : Int) < 33) || decide (126 < ((runeAt s i).1 : Int))) = true := by
        by_cases hc : s[i].toNat < 128
        · rw [runeAt_ascii hx hc]
          simp only [badB, Bool.or_eq_true, decide_eq_true_eq] at hb ⊢
          omega
        · have := runeAt_big hx (by omega)
          simp only [Bool.or_eq_true, decide_eq_true_eq]
          omega
      simp [h3, hr, hres]
      exact finS_fz (by simp)
    · have hb' : badB s[i] = false := by simpa using hb
      have hc : 33 ≤ s[i].toNat ∧ s[i].toNat ≤ 126 := by
        simp only [badB, Bool.or_eq_false_iff, decide_eq_false_iff_not] at hb'
        omega
      have hra := runeAt_ascii hx (by omega)
      have n1 : ((s[i].toNat : Int) < 33) = False := eq_false (by omega)
      have n2 : (126 < (s[i].toNat : Int)) = False := eq_false (by omega)
      simp [h3, hra, n1, n2]
      refine nextQ_of (i + 1) ⟨h3, fun j hj hji => ?_⟩ (by omega) (weak_frL rfl rfl (by simp))
      by_cases hj2 : j = i
      · subst hj2; exact hb'
      · exact hn j hj (by omega)
  · have hres : badIdx s = -1 := by
      unfold badIdx
      rw [if_neg]
      intro hlt
      have := List.findIdx_getElem (w := hlt)
      rw [hn _ hlt (by omega)] at this
      cases this
    simp [h3, hres]
    exact finS_fz (by simp)
theorem p_IndexFuncS : SoundP Tryz.prog gl 262 (fn2 cStr (cF0 242) encInt fun s _ => if s.length < 1099511627776 then some (badIdx s) else none) := by
  refine soundP_of_wk (okX_nil.addP p_indexFunc) mixed Tryz.func262 rfl rfl fun args r h G0 => ?_
  obtain ⟨s, u, e, rfl, he, rfl⟩ := fn2_inv h
  simp only [Option.ite_none_right_eq_some, Option.some.injEq] at he
  obtain ⟨hs, rfl⟩ := he
  simp [Tryz.f262, entry, hs]
  exact finS_fz (by simp)
theorem badIdx_neg (s : Str) : (0 ≤ badIdx s) = ¬ goodT s = true := by
  unfold goodT
  have key : (s.all fun c => decide (33 ≤ c.toNat) && decide (c.toNat ≤ 126)) = true ↔ ¬ s.findIdx badB < s.length := by
    rw [List.all_eq_true]
    constructor
    · intro h hlt
      have h1 := List.findIdx_getElem (w := hlt)
      have h2 := h _ (List.getElem_mem hlt)
      simp only [badB, Bool.or_eq_true, Bool.and_eq_true, decide_eq_true_eq] at h1 h2
      omega
    · intro h c hc
      have : badB c = false := by
        cases hq : badB c with
        | false => rfl
        | true => exact absurd (List.findIdx_lt_length_of_exists ⟨c, hc, hq⟩) h
      simp only [badB, Bool.or_eq_false_iff, decide_eq_false_iff_not] at this
      simp only [Bool.and_eq_true, decide_eq_true_eq]
      omega
  unfold badIdx
  refine propext ⟨fun h h2 => ?_, fun h => ?_⟩
  · rw [if_neg (key.1 h2)] at h
    omega
  · by_cases hlt : s.findIdx badB < s.length
    · rw [if_pos hlt]; omega
    · exact absurd (key.2 hlt) h
theorem p_ContainsFuncS : SoundP Tryz.prog gl 241 (fn2 cStr (cF0 242) encBool fun s _ => if s.length < 1099511627776 then some (!goodT s) else none) := by
  refine soundP_of_wk (okX_nil.addP p_IndexFuncS) mixed Tryz.func241 rfl rfl fun args r h G0 => ?_
  obtain ⟨s, u, e, rfl, he, rfl⟩ := fn2_inv h
  simp only [Option.ite_none_right_eq_some, Option.some.injEq] at he
  obtain ⟨hs, rfl⟩ := he
  have hb := badIdx_neg s
  simp [Tryz.f241, entry, hs, hb]
  exact finS_fz (by simp)
theorem p_right : SoundP Tryz.prog gl 208 (fn1 cStr encBool fun s => some (rightT s)) := by
  refine soundP_of_wk (okX_nil.addP p_ContainsFuncS) mixed Tryz.func208 rfl rfl fun args r h G0 => ?_
  obtain ⟨s, e, rfl, he, rfl⟩ := fn1_inv h
  cases he
  by_cases h1 : s.length ≤ 255
  · have h2 : s.length < 1099511627776 := by omega
    have h3 : (s.length : Int) ≤ 255 := by omega
    simp [Tryz.f208, entry, h2, h3]
    refine finS_eq ?_ rfl
    simp [rightT, h1]
  · have h3 : ¬ (s.length : Int) ≤ 255 := by omega
    simp [Tryz.f208, entry, h3]
    refine finS_eq ?_ rfl
    simp [rightT, h1]
theorem p_tag : SoundP Tryz.prog gl 186 (fn2 (cL cEntry) cInt encInt fun p i => some (tagAt p i)) := by
  refine soundP_of_wk okX_nil mixed Tryz.func186 rfl rfl fun args r h G0 => ?_
  obtain ⟨p, i, e, rfl, he, rfl⟩ := fn2_inv h
  cases he
  by_cases h0 : i < 0
  · simp [Tryz.f186, entry, h0]
    exact finS_eq (by simp [tagAt, entAt, h0, noEntry]) (by simp)
  · by_cases h1 : (p.length : Int) ≤ i
    · simp [Tryz.f186, entry, h0, h1]
      have : p.length ≤ i.toNat := by omega
      exact finS_eq (by simp [tagAt, entAt, h0, noEntry, this]) (by simp)
    · have h2 : 0 ≤ i := by omega
      have h3 : i.toNat < p.length := by omega
      simp [Tryz.f186, entry, h0, h1, h2, h3]
      exact finS_eq (by simp [tagAt, entAt, h0, h3]) (by simp)
end Go.Proofs.YthchohjhcjkgjaaGreatDoor.Lift
namespace Go.Proofs.YthchohjhcjkgjaaGreatDoor.Lift
open Go
set_option maxRecDepth 100000

theorem ok_fits : OkX Tryz.prog (XE [(208, liftS 9 (fn1 cStr encBool fun s => some (rightT s))), (209, liftS 9 (fn1 cInt encBool fun n => some (smallN n))), (186, liftS 9 (fn2 (cL cEntry) cInt encInt fun p i => some (tagAt p i)))]) := ((okX_nil.addP p_tag).addP p_small).addP p_right
set_option maxHeartbeats 4000000 in
theorem p_fits : SoundP Tryz.prog gl 185 (fn2 (cL cEntry) cInt encBool fun p i => if 0 ≤ i ∧ i < p.length ∧ p.length < 1099511627776 then some (fitsE p i.toNat) else none) := by
  refine soundP_of_wk ok_fits mixed Tryz.func185 rfl rfl fun args r h G0 => ?_
  obtain ⟨p, i, e, rfl, he, rfl⟩ := fn2_inv h
  simp only [Option.ite_none_right_eq_some, Option.some.injEq] at he
  obtain ⟨⟨hi, hl, hs⟩, rfl⟩ := he
  have hlt : i.toNat < p.length := by omega
  have hfx : fitsE p i.toNat = fitsX p i.toNat p[i.toNat] := by
    unfold fitsE
    rw [List.getD_eq_getElem?_getD, List.getElem?_eq_getElem hlt]
    rfl
  rw [hfx]
  have hx : p[i.toNat]? = some p[i.toNat] := List.getElem?_eq_getElem hlt
  have hxx : ∃ x, p[i.toNat] = x := ⟨_, rfl⟩
  obtain ⟨⟨tg, tx, n, a, b⟩, hxx⟩ := hxx
  rw [hxx] at hx ⊢
  clear hfx
  by_cases t1 : tg = 1
  · subst t1
    by_cases qn : n = 0
    · subst qn
      by_cases qa : a = 0
      · subst qa
        by_cases qb : b = 0
        · subst qb
          simp [Tryz.f185, entry, hi, hl, hxx]
          exact finS_eq (by simp [fitsX]) rfl
        · simp [Tryz.f185, entry, hi, hl, hxx, qb]
          exact finS_eq (by simp [fitsX, qb]) rfl
      · simp [Tryz.f185, entry, hi, hl, hxx, qa]
        exact finS_eq (by simp [fitsX, qa]) rfl
    · simp [Tryz.f185, entry, hi, hl, hxx, qn]
      exact finS_eq (by simp [fitsX, qn]) rfl
  by_cases t3 : tg = 3
  · subst t3
    by_cases qtx : tx = []
    · subst qtx
      by_cases qa : a = 0
      · subst qa
        by_cases qb : b = 0
        · subst qb
          simp [Tryz.f185, entry, hi, hl, hxx]
          exact finS_eq (by simp [fitsX]) rfl
        · simp [Tryz.f185, entry, hi, hl, hxx, qb]
          exact finS_eq (by simp [fitsX, qb]) rfl
      · simp [Tryz.f185, entry, hi, hl, hxx, qa]
        exact finS_eq (by simp [fitsX, qa]) rfl
    · simp [Tryz.f185, entry, hi, hl, hxx, qtx]
      exact finS_eq (by simp [fitsX, qtx]) rfl
  by_cases t5 : tg = 5
  · subst t5
    by_cases qtx : tx = []
    · subst qtx
      by_cases qa : a = 0
      · subst qa
        by_cases qb : b = 0
        · subst qb
          have hw := wrap_i64 (show (-9223372036854775808 : Int) ≤ i + 1 by omega) (by omega)
          by_cases h2 : i.toNat + 1 < p.length
          · have h3 : i + 1 < p.length := by omega
            have h4 : (i + 1).toNat = i.toNat + 1 := by omega
            have h5 : 0 ≤ i + 1 := by omega
            have hy : p[i.toNat + 1]? = some p[i.toNat + 1] := List.getElem?_eq_getElem h2
            have hyy : ∃ y, p[i.toNat + 1] = y := ⟨_, rfl⟩
            obtain ⟨⟨yt, yx, yn, ya, yb⟩, hyy⟩ := hyy
            rw [hyy] at hy
            simp [Tryz.f185, entry, hi, hl, hxx, hw, h3, h4, h5, hy]
            exact finS_eq (by simp [fitsX, hy, noEntry]) rfl
          · have h3 : ¬ i + 1 < p.length := by omega
            have hy : p[i.toNat + 1]? = none := List.getElem?_eq_none (by omega)
            simp [Tryz.f185, entry, hi, hl, hxx, hw, h3]
            exact finS_eq (by simp [fitsX, hy]) rfl
        · simp [Tryz.f185, entry, hi, hl, hxx, qb]
          exact finS_eq (by simp [fitsX, qb]) rfl
      · simp [Tryz.f185, entry, hi, hl, hxx, qa]
        exact finS_eq (by simp [fitsX, qa]) rfl
    · simp [Tryz.f185, entry, hi, hl, hxx, qtx]
      exact finS_eq (by simp [fitsX, qtx]) rfl
  by_cases t7 : tg = 7
  · subst t7
    by_cases qtx : tx = []
    · subst qtx
      by_cases qn : n = 0
      · subst qn
        by_cases qb : b = 0
        · subst qb
          simp [Tryz.f185, entry, hi, hl, hxx]
          exact finS_eq (by simp [fitsX]) rfl
        · simp [Tryz.f185, entry, hi, hl, hxx, qb]
          exact finS_eq (by simp [fitsX, qb]) rfl
      · simp [Tryz.f185, entry, hi, hl, hxx, qn]
        exact finS_eq (by simp [fitsX, qn]) rfl
    · simp [Tryz.f185, entry, hi, hl, hxx, qtx]
      exact finS_eq (by simp [fitsX, qtx]) rfl
  have hnot : ¬ tg = 9 → ¬ tg = 10 → ¬ tg = 12 → fitsX p i.toNat ⟨tg, tx, n, a, b⟩ = false := fun h9 h10 h12 => by simp [fitsX, t1, t3, t5, t7, h9, h10, h12]
  by_cases t9 : tg = 9
  · subst t9
    simp [Tryz.f185, entry, hi, hl, hxx]
    refine dk_ofL [(3, .ptr 0 0 0 4)] (by decide) ?_
    simp [List.lookup]
    refine sd_ofL rfl ?_ ?_
    · simp [steadyL, ldEq]
    simp [List.lookup]
    refine sd_of (by decide) ?_
    by_cases qtx : tx = []
    · by_cases qn : n = 0
      · subst qtx qn
        by_cases qa : tagAt p a = 7
        · simp [qa]
          exact finS_eq (by simp [fitsX, qa]) rfl
        · simp [qa]
          exact finS_eq (by simp [fitsX, qa]) rfl
      · simp [qtx, qn]
        exact finS_eq (by simp [fitsX, qn]) rfl
    · simp [qtx]
      exact finS_eq (by simp [fitsX, qtx]) rfl
  by_cases t10 : tg = 10
  · subst t10
    simp [Tryz.f185, entry, hi, hl, hxx]
    refine dk_ofL [(3, .ptr 0 0 0 4)] (by decide) ?_
    simp [List.lookup]
    refine sd_ofL rfl ?_ ?_
    · simp [steadyL, ldEq]
    simp [List.lookup]
    refine sd_of (by decide) ?_
    by_cases qtx : tx = []
    · by_cases qn : n = 0
      · subst qtx qn
        by_cases qa : tagAt p a = 7
        · simp [qa]
          exact finS_eq (by simp [fitsX, qa]) rfl
        · simp [qa]
          exact finS_eq (by simp [fitsX, qa]) rfl
      · simp [qtx, qn]
        exact finS_eq (by simp [fitsX, qn]) rfl
    · simp [qtx]
      exact finS_eq (by simp [fitsX, qtx]) rfl
  by_cases t12 : tg = 12
  · subst t12
    simp [Tryz.f185, entry, hi, hl, hxx]
    refine dk_ofL [(3, .ptr 0 0 0 4)] (by decide) ?_
    simp [List.lookup]
    refine sd_ofL rfl ?_ ?_
    · simp [steadyL, ldEq]
    simp [List.lookup]
    refine sd_of (by decide) ?_
    by_cases qtx : tx = []
    · by_cases qn : n = 0
      · subst qtx qn
        by_cases qa : tagAt p a = 1
        · simp [qa]
          exact finS_eq (by simp [fitsX, qa]) rfl
        · simp [qa]
          exact finS_eq (by simp [fitsX, qa]) rfl
      · simp [qtx, qn]
        exact finS_eq (by simp [fitsX, qn]) rfl
    · simp [qtx]
      exact finS_eq (by simp [fitsX, qtx]) rfl
  rw [hnot t9 t10 t12]
  simp [Tryz.f185, entry, hi, hl, hxx, t1, t3, t5, t7]
  refine dk_ofL [(3, .ptr 0 0 0 4)] (by decide) ?_
  simp [List.lookup]
  refine sd_ofL rfl ?_ ?_
  · simp [steadyL, ldEq]
  simp [List.lookup]
  refine sd_of (by decide) ?_
  simp [t9, t10, t12]
  exact finS_eq rfl rfl

theorem p_Check : SoundP Tryz.prog gl 137 (fn1 (cL cEntry) encInt fun p => if p.length < 1099511627776 then some (checkPool p) else none) := by
  have okx := okX_nil.addP p_fits
  refine soundP_of_wk okx mixed Tryz.func137 rfl rfl fun args r h G0 => ?_
  obtain ⟨p, e, rfl, he, rfl⟩ := fn1_inv h
  simp only [Option.ite_none_right_eq_some, Option.some.injEq] at he
  obtain ⟨hs, rfl⟩ := he
  by_cases h0 : p = []
  · subst h0
    simp [Tryz.f137, entry]
    exact finS_eq (by simp [checkPool]) rfl
  · have hpos : 0 < p.length := List.length_pos_iff.2 h0
    by_cases h1 : 1024 < p.length
    · have hc : checkPool p = 70 := by unfold checkPool; rw [if_pos (.inr (.inl h1))]
      have h1' : (1024 : Int) < p.length := by omega
      have hne : ((p.length : Int) = 0) = False := eq_false (by omega)
      simp [Tryz.f137, entry, h0, h1', hc]
      exact finS_eq rfl rfl
    · have h1' : ¬ (1024 : Int) < p.length := by omega
      have hne : ((p.length : Int) = 0) = False := eq_false (by omega)
      have hx : p[0]? = some p[0] := List.getElem?_eq_getElem hpos
      by_cases hz : p[0] = noEntry
      · simp [Tryz.f137, entry, h0, h1', hx, hz, noEntry]
        refine lp_of okx mixed (fun (i : Nat) => ⟨38, frL [(2, .int .i64 0), (3, .sl (p.map encEntry)), (4, .int .i64 i)], []⟩) (fun i => 1 ≤ i ∧ i ≤ p.length ∧ ∀ (j : Nat), j < i → 1 ≤ j → sits p j = true) (fun i => p.length - i) 1 ⟨Nat.le_refl _, hpos, fun j h1 h2 => by omega⟩ (weak_frL rfl rfl (by simp)) ?_
        intro i ⟨hi1, hi, hn⟩
        by_cases h3 : i < p.length
        · obtain ⟨k, rfl⟩ : ∃ k, i = k + 1 := ⟨i - 1, by omega⟩
          have hk : k < p.length := by omega
          have hw0 := wrap_i64 (show (-9223372036854775808 : Int) ≤ (k : Int) by omega) (by omega)
          have hw := wrap_i64 (show (-9223372036854775808 : Int) ≤ (k : Int) + 1 + 1 by omega) (by omega)
          have hpk : p[k]? = some p[k] := List.getElem?_eq_getElem hk
          have h3' : ((k : Int) + 1 < p.length) = True := eq_true (by omega)
          have hge : ((0 : Int) ≤ (k : Int) + 1) = True := eq_true (by omega)
          have htn : ((k : Int) + 1).toNat = k + 1 := by omega
          have next : sits p (k + 1) = true → (∀ (j : Nat), j < k + 1 + 1 → 1 ≤ j → sits p j = true) := fun hq j hj1 hj2 => by
            by_cases hj : j = k + 1
            · subst hj; exact hq
            · exact hn j (by omega) hj2
          have hsits : sits p (k + 1) = (decide (p[k].tag = 5) || fitsE p (k + 1)) := by
            unfold sits
            rw [Nat.add_sub_cancel, List.getD_eq_getElem?_getD, hpk]
            rfl
          by_cases h5 : p[k].tag = 5
          · rw [h5] at hsits
            simp [h3', hw0, hk, h5, hw]
            refine nextQ_of (k + 1 + 1) ⟨by omega, by omega, next hsits⟩ (by omega) (weak_frL rfl rfl (by simp))
          · cases hf : fitsE p (k + 1) with
            | true =>
              rw [hf, Bool.or_true] at hsits
              simp [h3', hw0, hk, h5, hs, hge, htn, hf, hw]
              refine nextQ_of (k + 1 + 1) ⟨by omega, by omega, next hsits⟩ (by omega) (weak_frL rfl rfl (by simp))
            | false =>
              have hc : checkPool p = 70 := by
                unfold checkPool
                split
                · rfl
                · rw [if_neg]
                  intro hall
                  have := hall (k + 1) h3 (by omega)
                  rw [hsits, hf] at this
                  simp [h5] at this
              simp [h3', hw0, hk, h5, hs, hge, htn, hf, hc]
              exact finS_eq rfl rfl
        · have hc : checkPool p = 0 := by
            unfold checkPool
            rw [if_neg (by
              rintro (h | h | h)
              · omega
              · omega
              · rw [List.getD_eq_getElem?_getD, hx] at h; exact h hz), if_pos (fun j hj hj1 => hn j (by omega) hj1)]
          have h3' : ((i : Int) < p.length) = False := eq_false (by omega)
          simp [h3', hc]
          exact finS_eq rfl rfl
      · have hc : checkPool p = 70 := by
          have hq : p.getD 0 noEntry ≠ noEntry := by
            rw [List.getD_eq_getElem?_getD, hx]
            exact hz
          exact if_pos (.inr (.inr hq))
        rw [hc]
        have hxx : ∃ x, p[0] = x := ⟨_, rfl⟩
        obtain ⟨⟨tg, tx, n, a, b⟩, hxx⟩ := hxx
        rw [hxx] at hx hz
        by_cases q1 : tg = 0
        · by_cases q2 : tx = []
          · by_cases q3 : n = 0
            · by_cases q4 : a = 0
              · by_cases q5 : b = 0
                · exact absurd (by rw [q1, q2, q3, q4, q5]; rfl) hz
                · simp [Tryz.f137, entry, h0, h1', hx, q5]
                  exact finS_eq rfl rfl
              · simp [Tryz.f137, entry, h0, h1', hx, q4]
                exact finS_eq rfl rfl
            · simp [Tryz.f137, entry, h0, h1', hx, q3]
              exact finS_eq rfl rfl
          · simp [Tryz.f137, entry, h0, h1', hx, q2]
            exact finS_eq rfl rfl
        · simp [Tryz.f137, entry, h0, h1', hx, q1]
          exact finS_eq rfl rfl

/-- the contract of mean, to a depth of k -/
def gMean (k : Nat) (p : List AEntry) (i : Int) : Option AConst := if checkPool p = 0 ∧ (k = 0 → tagAt p i = 7) then some (meanC p i) else none
theorem mean_step {k : Nat} {E : Env} (okx : OkX Tryz.prog (XE E)) (ht : E.look 186 = some (liftS 9 (fn2 (cL cEntry) cInt encInt fun p i => some (tagAt p i))))
    (hm : k ≠ 0 → E.look 138 = some (liftS 9 (fn2 (cL cEntry) cInt encConst (gMean 0)))) : SoundP Tryz.prog gl 138 (fn2 (cL cEntry) cInt encConst (gMean k)) := by
  refine soundP_of_wk okx mixed Tryz.func138 rfl rfl fun args r h G0 => ?_
  obtain ⟨p, i, e, rfl, he, rfl⟩ := fn2_inv h
  simp only [gMean, Option.ite_none_right_eq_some, Option.some.injEq] at he
  obtain ⟨⟨hc, hk⟩, rfl⟩ := he
  by_cases h0 : tagAt p i = 0
  · have hr : meanC p i = noConst := by
      have : (entAt p i).tag = 0 := h0
      simp [meanC, this]
    rw [hr]
    simp [Tryz.f138, entry, ht, h0]
    exact finS_eq (by simp [noConst]) rfl
  · obtain ⟨hi, hlt, hent⟩ := entAt_tag h0
    have hfit := ent_fits hc h0
    have hx : p[i.toNat]? = some p[i.toNat] := List.getElem?_eq_getElem hlt
    have hxe : p[i.toNat] = entAt p i := by rw [hent, List.getD_eq_getElem?_getD, hx]; rfl
    have htag : tagAt p i = (entAt p i).tag := rfl
    have h7 := fun h => class_tag hc (i := i) h
    have h9 := fun h => ref_tag hc (i := i) h
    have fact : ∀ {j : Int}, tagAt p j ≠ 0 → 0 ≤ j ∧ ∃ hj : j.toNat < p.length, p[j.toNat]? = some p[j.toNat] ∧ p[j.toNat] = entAt p j := fun {j} hj => by
      obtain ⟨q1, q2, q3⟩ := entAt_tag hj
      exact ⟨q1, q2, List.getElem?_eq_getElem q2, by rw [q3, List.getD_eq_getElem?_getD, List.getElem?_eq_getElem q2]; rfl⟩
    have hmc : meanC p i = meanC p i := rfl
    conv at hmc => rhs; unfold meanC
    simp only at hmc
    generalize hX : entAt p i = X at *
    obtain ⟨tg, tx, n, a, b⟩ := X
    simp only at htag hmc h7 h9
    rw [htag] at h7 h9
    by_cases t3 : tg = 3
    · subst t3
      rw [if_pos (.inl rfl)] at hmc
      rw [hmc]
      simp [Tryz.f138, entry, ht, htag, hi, hx, hxe]
      exact finS_eq rfl rfl
    by_cases t5 : tg = 5
    · subst t5
      rw [if_pos (.inr rfl)] at hmc
      rw [hmc]
      simp [Tryz.f138, entry, ht, htag, hi, hx, hxe]
      exact finS_eq rfl rfl
    rw [if_neg (by rintro (h | h) <;> contradiction)] at hmc
    by_cases t7 : tg = 7
    · subst t7
      rw [if_pos rfl] at hmc
      rw [hmc]
      have ha := h7 rfl
      obtain ⟨g1, g2, g3, g4⟩ := fact (j := a) (by rw [ha]; decide)
      simp [Tryz.f138, entry, ht, htag, hi, hx, hxe, g1, g3, g4]
      exact finS_eq rfl rfl
    rw [if_neg t7] at hmc
    by_cases t910 : tg = 9 ∨ tg = 10
    · rw [if_pos t910] at hmc
      rw [hmc]
      obtain ⟨ha, hb⟩ := h9 t910
      have hb2 := name_tag hc hb
      have hm' := hm (fun e => by have := hk e; rw [htag] at this; contradiction)
      have hma : meanC p a = ⟨7, 0, (entAt p (entAt p a).a).text, [], []⟩ := by
        have : (entAt p a).tag = 7 := ha
        simp [meanC, this]
      obtain ⟨g1, g2, g3, g4⟩ := fact (j := b) (by rw [hb]; decide)
      generalize hY : entAt p b = Y at *
      obtain ⟨yt, yx, yn, ya, yb⟩ := Y
      obtain ⟨u1, u2, u3, u4⟩ := fact (j := ya) (by rw [hb2.1]; decide)
      obtain ⟨v1, v2, v3, v4⟩ := fact (j := yb) (by rw [hb2.2]; decide)
      have ne0 : ¬ tg = 0 := by rcases t910 with h | h <;> rw [h] <;> decide
      rcases t910 with h | h <;> subst h
      · simp [Tryz.f138, entry, ht, htag, hi, hx, hxe]
        refine dk_ofA [(7, 2), (8, 3)] [5, 5] [(9, .tup []), (10, .tup []), (2, .ptr 1 0 0 3), (3, .tup [.fn (.func 138) [] [], .sl (p.map encEntry), .int .i64 a]), (6, .ptr 1 0 0 4), (7, .tup [.sl (p.map encEntry), .int .i64 b]), (8, .rp (encEntry ⟨yt, yx, yn, ya, yb⟩) 0)] (by decide) ?_
        simp [List.lookup, hm', gMean, hc, ha, g1, g3, g4, hma]
        refine sdA_loc rfl rfl rfl ?_ ?_
        · simp (decide := true) [steadyKL, farP, locKey, List.lookup, blind, hm', gMean, hc, ha, hma, g1, g3, g4]
        simp [List.lookup]
        refine sdA_loc rfl rfl rfl ?_ ?_
        · simp (decide := true) [steadyKL, farP, locKey, List.lookup, blind, hm', gMean, hc, ha, hma, g1, g3, g4]
        simp [List.lookup]
        refine sdA_ofL rfl ?_ ?_
        · simp (decide := true) [steadyL, ldEq, blind, hm', gMean, hc, ha, hma, g1, g3, g4]
        simp [List.lookup]
        refine sdA_of (by decide) ?_
        simp
        refine dk_of (by decide) ?_
        simp [u1, u3, u4, v1, v3, v4]
        refine sd_of (by decide) ?_
        simp
        exact finS_eq rfl rfl
      · simp [Tryz.f138, entry, ht, htag, hi, hx, hxe]
        refine dk_ofA [(7, 2), (8, 3)] [5, 5] [(9, .tup []), (10, .tup []), (2, .ptr 1 0 0 3), (3, .tup [.fn (.func 138) [] [], .sl (p.map encEntry), .int .i64 a]), (6, .ptr 1 0 0 4), (7, .tup [.sl (p.map encEntry), .int .i64 b]), (8, .rp (encEntry ⟨yt, yx, yn, ya, yb⟩) 0)] (by decide) ?_
        simp [List.lookup, hm', gMean, hc, ha, g1, g3, g4, hma]
        refine sdA_loc rfl rfl rfl ?_ ?_
        · simp (decide := true) [steadyKL, farP, locKey, List.lookup, blind, hm', gMean, hc, ha, hma, g1, g3, g4]
        simp [List.lookup]
        refine sdA_loc rfl rfl rfl ?_ ?_
        · simp (decide := true) [steadyKL, farP, locKey, List.lookup, blind, hm', gMean, hc, ha, hma, g1, g3, g4]
        simp [List.lookup]
        refine sdA_ofL rfl ?_ ?_
        · simp (decide := true) [steadyL, ldEq, blind, hm', gMean, hc, ha, hma, g1, g3, g4]
        simp [List.lookup]
        refine sdA_of (by decide) ?_
        simp
        refine dk_of (by decide) ?_
        simp [u1, u3, u4, v1, v3, v4]
        refine sd_of (by decide) ?_
        simp
        exact finS_eq rfl rfl
    rw [if_neg t910] at hmc
    rw [hmc]
    have n9 : ¬ tg = 9 := fun h => t910 (.inl h)
    have n10 : ¬ tg = 10 := fun h => t910 (.inr h)
    have ne0 : ¬ tg = 0 := by rw [← htag]; exact h0
    simp [Tryz.f138, entry, ht, htag, hi, hx, hxe, t3, t5, t7, n9, n10, ne0]
    exact finS_eq rfl rfl
theorem p_mean0 : SoundP Tryz.prog gl 138 (fn2 (cL cEntry) cInt encConst (gMean 0)) := mean_step (k := 0) (okX_nil.addP p_tag) rfl (fun h => absurd rfl h)
theorem p_mean : SoundP Tryz.prog gl 138 (fn2 (cL cEntry) cInt encConst (gMean 1)) := mean_step (k := 1) ((okX_nil.addP p_tag).addP p_mean0) rfl (fun _ => rfl)
theorem p_poolConst : SoundP Tryz.prog gl 65 (fn2 (cL cEntry) cInt (fun r : AConst × Int => .tup [encConst r.1, .int .i64 r.2]) fun p i => if p.length < 1099511627776 then some (constT p i) else none) := by
  refine soundP_of_wk ((okX_nil.addP p_mean).addP p_Check) mixed Tryz.func65 rfl rfl fun args r h G0 => ?_
  obtain ⟨p, i, e, rfl, he, rfl⟩ := fn2_inv h
  simp only [Option.ite_none_right_eq_some, Option.some.injEq] at he
  obtain ⟨hs, rfl⟩ := he
  by_cases hc : checkPool p = 0
  · have hg : gMean 1 p i = some (meanC p i) := by unfold gMean; rw [if_pos ⟨hc, fun h => by cases h⟩]
    by_cases h0 : (meanC p i).tag = 0
    · have hr : constT p i = (meanC p i, 2) := by unfold constT; rw [if_pos hc, if_pos h0]
      rw [hr]
      simp [Tryz.f65, entry, hs, hc, hg, h0]
      exact finS_eq (by simp) rfl
    · have hr : constT p i = (meanC p i, 0) := by unfold constT; rw [if_pos hc, if_neg h0]
      rw [hr]
      simp [Tryz.f65, entry, hs, hc, hg, h0]
      exact finS_eq rfl rfl
  · have h70 : checkPool p = 70 := by
      unfold checkPool at hc ⊢
      split
      · rfl
      · split
        · rename_i h1 h2
          rw [if_neg h1, if_pos h2] at hc
          exact absurd rfl hc
        · rfl
    have hr : constT p i = (noConst, 70) := by unfold constT; rw [if_neg hc]
    rw [hr]
    simp [Tryz.f65, entry, hs, h70]
    exact finS_eq (by simp [noConst]) rfl
end Go.Proofs.YthchohjhcjkgjaaGreatDoor.Lift
namespace Go.Proofs.YthchohjhcjkgjaaGreatDoor.Lift
open Go
set_option maxRecDepth 100000

def hConst (av : List AV) (_ : Sto) (h : AHand) : Option (AV × AHand) := match av with
  | [c, .int .i64 k, .int .i64 tag] => (decClass c).bind fun c => if c.pool.length < 1099511627776 then some (encConst (constH c.pool k tag h).1, (constH c.pool k tag h).2) else none
  | _ => none
theorem ok_const : OkX Tryz.prog (XE [(65, liftS 9 (fn2 (cL cEntry) cInt (fun r : AConst × Int => .tup [encConst r.1, .int .i64 r.2]) fun p i => if p.length < 1099511627776 then some (constT p i) else none)), (94, handS hMust)]) := (okX_nil.add f_must).addP p_poolConst
set_option maxHeartbeats 1000000 in
theorem f_constant : SoundF Tryz.prog gl 95 (handS hConst) := by
  refine hand_of_wk' ok_const Tryz.func95 rfl rfl fun av q hh r h' hm => ?_
  unfold hConst at hm
  split at hm
  · rename_i cv k tag
    obtain ⟨c, hc, hm2⟩ := Option.bind_eq_some_iff.1 hm
    have := cClass.ed _ _ hc
    subst this
    clear hc hm
    split at hm2
    · rename_i hlen
      cases hm2
      refine ⟨cConst.fz _, fun p0 p1 p2 p3 p4 hc G0 => ?_⟩
      unfold constH
      simp only
      cases hct : constT c.pool k with
      | mk x e =>
        obtain ⟨xt, xn, xc, xm, xy⟩ := x
        by_cases h0 : e = 0
        · by_cases h1 : xt = tag
          · cases hb : hh.bad with
            | true =>
              simp [Tryz.f95, entry, handS_eq, hMust, hlen, hct, h0, h1, mustT, hb, noConst]
            | false =>
              simp [Tryz.f95, entry, handS_eq, hMust, hlen, hct, h0, h1, mustT, hb]
          · simp [Tryz.f95, entry, handS_eq, hMust, hlen, hct, h0, h1, mustT, noConst]
        · simp [Tryz.f95, entry, handS_eq, hMust, hlen, hct, h0, mustT, noConst]
    · cases hm2
  · cases hm

def hKind (av : List AV) (_ : Sto) (h : AHand) : Option (AV × AHand) := match av with
  | [.str s] => (kindH s h).map fun r => (encTy r.1, r.2)
  | _ => none
theorem ok_kindOf : OkX Tryz.prog (XE [(151, liftS 9 (fn1 cStr encTyErr fun s => if s.length < 1099511627776 then some (parse s) else none)), (94, handS hMust)]) := (okX_nil.add f_must).addP p_kindParse
theorem f_kindOf : SoundF Tryz.prog gl 96 (handS hKind) := by
  refine hand_of_wk' ok_kindOf Tryz.func96 rfl rfl fun av q hh r h' hm => ?_
  unfold hKind at hm
  split at hm
  · rename_i s
    obtain ⟨⟨t, h1⟩, he, hr⟩ := Option.map_eq_some_iff.1 hm
    cases hr
    refine ⟨cTy.fz _, fun p0 p1 p2 p3 p4 hc G0 => ?_⟩
    unfold kindH at he
    split at he
    · rename_i hs
      cases he
      cases hp : parse s with
      | mk x e =>
        obtain ⟨xk, xn⟩ := x
        simp [Tryz.f96, entry, handS_eq, hMust, hs, hp]
    · cases he
  · cases hm

def hClass (av : List AV) (_ : Sto) (h : AHand) : Option (AV × AHand) := match av with
  | [c, .int .i64 k] => (decClass c).bind fun c => if c.pool.length < 1099511627776 then (classH c.pool k h).map fun r => (.str r.1, r.2) else none
  | _ => none
theorem ok_class : OkX Tryz.prog (XE [(143, liftS 9 (fn1 cTy encSErr fun x => if x.name.length < 1099511600000 then some (print x) else none)), (97, liftS 9 (fn1 cStr encTy fun s => some (namedT s))), (95, handS hConst), (94, handS hMust)]) :=
  (((okX_nil.add f_must).add f_constant).addP p_named).addP p_kindPrint
set_option maxHeartbeats 1000000 in
theorem f_class : SoundF Tryz.prog gl 99 (handS hClass) := by
  refine hand_of_wk' ok_class Tryz.func99 rfl rfl fun av q hh r h' hm => ?_
  unfold hClass at hm
  split at hm
  · rename_i cv k
    obtain ⟨c, hc, hm2⟩ := Option.bind_eq_some_iff.1 hm
    have := cClass.ed _ _ hc
    subst this
    clear hc hm
    split at hm2
    · rename_i hlen
      obtain ⟨⟨s, h1⟩, he, hr⟩ := Option.map_eq_some_iff.1 hm2
      cases hr
      refine ⟨rfl, fun p0 p1 p2 p3 p4 hc G0 => ?_⟩
      unfold classH at he
      generalize hk : constH c.pool k 7 hh = kk at he
      obtain ⟨⟨xt, xn, xc, xm, xy⟩, h2⟩ := kk
      simp only at he
      split at he
      · rename_i hl
        cases he
        cases hp : print ⟨4, xc⟩ with
        | mk s e =>
          simp [Tryz.f99, entry, handS_eq, hMust, hConst, hlen, hk, namedT, hl, hp]
      · cases he
    · cases hm2
  · cases hm

def hAnswers (av : List AV) (_ : Sto) (h : AHand) : Option (AV × AHand) := match av with
  | [i, b] => (decInstr i).bind fun i => (decTy b).bind fun b => (answersO i.op b h).map fun r => (.bool r.1, r.2)
  | _ => none
theorem ok_answers : OkX Tryz.prog (XE [(81, handS hPop), (94, handS hMust)]) := (okX_nil.add f_must).add f_pop
@[simp] theorem decTys_sl (xs : List AV) : decTys (.sl xs) = mapO decTy xs := rfl
theorem popO_one (x : ATy) (h : AHand) : popO [x] h = pop1 x h := by
  simp only [popO, List.reverse_singleton, popR]
  cases pop1 x h <;> rfl
set_option maxHeartbeats 1000000 in
theorem f_answers : SoundF Tryz.prog gl 47 (handS hAnswers) := by
  refine hand_of_wk' (ok_answers.b [41]) Tryz.func47 rfl rfl fun av q hh r h' hm => ?_
  unfold hAnswers at hm
  split at hm
  · rename_i iv bv
    obtain ⟨i, hi, hm2⟩ := Option.bind_eq_some_iff.1 hm
    have := cInstr.ed _ _ hi
    subst this
    obtain ⟨b, hb, hm3⟩ := Option.bind_eq_some_iff.1 hm2
    have := cTy.ed _ _ hb
    subst this
    clear hi hm hm2 hb
    obtain ⟨⟨rb, h1⟩, he, hr⟩ := Option.map_eq_some_iff.1 hm3
    cases hr
    refine ⟨rfl, fun p0 p1 p2 p3 p4 hc G0 => ?_⟩
    obtain ⟨bk, bn⟩ := b
    unfold answersO at he
    by_cases h177 : i.op = 177
    · rw [if_pos h177] at he
      cases he
      simp [Tryz.f47, entry, handS_eq, hMust, h177]
    · rw [if_neg h177] at he
      have key : ∀ (o w : Int), i.op = o → (o = 172 ∧ w = 1 ∨ o = 173 ∧ w = 2 ∨ o = 176 ∧ w = 4) → ∃ h2, pop1 ⟨bk, bn⟩ (mustT (decide (bk = w) && (decide (w = 4) || decide (bn = []))) hh) = some h2 ∧ rb = true ∧ h1 = h2 := fun o w ho hw => by
        have hop : i.op = 172 ∨ i.op = 173 ∨ i.op = 176 := by rcases hw with h | h | h <;> omega
        rw [if_pos hop] at he
        obtain ⟨h2, q1, q2⟩ := Option.map_eq_some_iff.1 he
        cases q2
        refine ⟨_, ?_, rfl, rfl⟩
        rw [← q1]
        rcases hw with ⟨e1, e2⟩ | ⟨e1, e2⟩ | ⟨e1, e2⟩ <;> subst e1 e2 <;> simp [ho]
      by_cases h172 : i.op = 172
      · obtain ⟨h2, q1, rfl, rfl⟩ := key 172 1 h172 (.inl ⟨rfl, rfl⟩)
        by_cases hk : bk = 1
        · simp [hk] at q1
          simp [Tryz.f47, entry, handS_eq, hMust, hPop, popO_one, h172, hk, q1]
        · simp [hk] at q1
          simp [Tryz.f47, entry, handS_eq, hMust, hPop, popO_one, h172, hk, q1]
      by_cases h173 : i.op = 173
      · obtain ⟨h2, q1, rfl, rfl⟩ := key 173 2 h173 (.inr (.inl ⟨rfl, rfl⟩))
        by_cases hk : bk = 2
        · simp [hk] at q1
          simp [Tryz.f47, entry, handS_eq, hMust, hPop, popO_one, h173, hk, q1]
        · simp [hk] at q1
          simp [Tryz.f47, entry, handS_eq, hMust, hPop, popO_one, h173, hk, q1]
      by_cases h176 : i.op = 176
      · obtain ⟨h2, q1, rfl, rfl⟩ := key 176 4 h176 (.inr (.inr ⟨rfl, rfl⟩))
        by_cases hk : bk = 4
        · simp [hk] at q1
          simp [Tryz.f47, entry, handS_eq, hMust, hPop, popO_one, h176, hk, q1]
        · simp [hk] at q1
          simp [Tryz.f47, entry, handS_eq, hMust, hPop, popO_one, h176, hk, q1]
      rw [if_neg (by omega)] at he
      cases he
      simp [Tryz.f47, entry, h172, h173, h176, h177]
  · cases hm
end Go.Proofs.YthchohjhcjkgjaaGreatDoor.Lift
namespace Go.Proofs.YthchohjhcjkgjaaGreatDoor.Lift
open Go
set_option maxRecDepth 100000

/-- a text of bytes below 128 -/
def asciiT (s : Str) : Bool := s.all fun c => decide (c.toNat < 128)
theorem asciiT_get {s : Str} (h : asciiT s = true) {i : Nat} (hi : i < s.length) : s[i].toNat < 128 := of_decide_eq_true (List.all_eq_true.1 h _ (List.getElem_mem hi))
theorem lettersT_drop {s : Str} {i : Nat} (hi : i < s.length) : lettersT (s.drop i) = letterT s[i].toNat :: lettersT (s.drop (i + 1)) := by
  rw [List.drop_eq_getElem_cons hi]
  rfl
/-- each letter's type is popped, or pushed -/
noncomputable def eachS : Spec := fun args st => match args with
  | [.str s, .fn (.func f) [p] []] => if asciiT s = true ∧ s.length < 1099511627776 then
      (if f = 81 then handS (fun _ _ h => (popR (lettersT s) h).map fun h' => (.tup [], h')) [p] st
       else if f = 82 then handS (fun _ _ h => (pushR (lettersT s) h).map fun h' => (.tup [], h')) [p] st else none) else none
  | _ => none
theorem eachS_pop {s : Str} {p : AV} {st : Sto} (h : asciiT s = true) (hl : s.length < 1099511627776) : eachS [.str s, .fn (.func 81) [p] []] st = handS (fun _ _ h => (popR (lettersT s) h).map fun h' => (.tup [], h')) [p] st := by
  simp [eachS, h, hl]
theorem eachS_push {s : Str} {p : AV} {st : Sto} (h : asciiT s = true) (hl : s.length < 1099511627776) : eachS [.str s, .fn (.func 82) [p] []] st = handS (fun _ _ h => (pushR (lettersT s) h).map fun h' => (.tup [], h')) [p] st := by
  simp [eachS, h, hl]
theorem ok_each : OkX Tryz.prog (XE [(81, handS hPop), (82, handS hPush), (77, liftS 9 (fn1 cRune encTy fun c => some (letterT c)))]) := ((okX_nil.addP p_letterT).add f_push).add f_pop
set_option maxHeartbeats 1000000 in
theorem f_each : SoundF Tryz.prog gl 76 eachS := by
  refine soundD_of_wk (ok_each.b [14]) mixed Tryz.func76 rfl rfl fun args st r st' hs hc => ?_
  unfold eachS at hs
  split at hs
  · rename_i s f p
    split at hs
    · rename_i hsl
      obtain ⟨ha, hl⟩ := hsl
      split at hs
      · rename_i hf
        subst hf
        obtain ⟨av, p0, p1, p2, p3, p4, hh, q, h', hav, rfl, hm, rfl⟩ := handS_inv hs
        cases hav
        obtain ⟨h2, hm, he⟩ := Option.map_eq_some_iff.1 hm
        cases he
        refine ⟨Nat.le_refl _, hand_shut hc, rfl, fun G0 => ?_⟩
        simp [Tryz.f76, entry]
        refine lp_of (ok_each.b [14]) mixed (fun (x : Nat × AHand) => ⟨16, frL [(1, .fn (.func 81) [.ptr 7 0 0 0] []), (7, .ptr (q.length + 8) 0 0 0)], handSto p0 p1 p2 p3 p4 x.2 (q ++ [.iter s x.1])⟩) (fun x => x.1 ≤ s.length ∧ popR (lettersT (s.drop x.1)) x.2 = some h') (fun x => s.length - x.1) (0, hh) ⟨Nat.zero_le _, hm⟩ (weak_frL rfl rfl (by simp)) ?_
        rintro ⟨i, hi⟩ ⟨hil, hfold⟩
        simp only at hil hfold ⊢
        by_cases h3 : i < s.length
        · have hx : s[i]? = some s[i] := by simp [h3]
          have hra := runeAt_ascii hx (asciiT_get ha h3)
          rw [lettersT_drop h3] at hfold
          simp only [popR] at hfold
          obtain ⟨h4, q1, q2⟩ := Option.bind_eq_some_iff.1 hfold
          simp [h3, hra, handS_eq, hPop, popO_one, q1]
          exact nextQ_of (i + 1, h4) ⟨h3, q2⟩ (by simp only; omega) (weak_frL rfl rfl (by simp))
        · have : i = s.length := by omega
          subst this
          rw [List.drop_length] at hfold
          cases hfold
          simp
      · split at hs
        · rename_i hf
          subst hf
          obtain ⟨av, p0, p1, p2, p3, p4, hh, q, h', hav, rfl, hm, rfl⟩ := handS_inv hs
          cases hav
          obtain ⟨h2, hm, he⟩ := Option.map_eq_some_iff.1 hm
          cases he
          refine ⟨Nat.le_refl _, hand_shut hc, rfl, fun G0 => ?_⟩
          simp [Tryz.f76, entry]
          refine lp_of (ok_each.b [14]) mixed (fun (x : Nat × AHand) => ⟨16, frL [(1, .fn (.func 82) [.ptr 7 0 0 0] []), (7, .ptr (q.length + 8) 0 0 0)], handSto p0 p1 p2 p3 p4 x.2 (q ++ [.iter s x.1])⟩) (fun x => x.1 ≤ s.length ∧ pushR (lettersT (s.drop x.1)) x.2 = some h') (fun x => s.length - x.1) (0, hh) ⟨Nat.zero_le _, hm⟩ (weak_frL rfl rfl (by simp)) ?_
          rintro ⟨i, hi⟩ ⟨hil, hfold⟩
          simp only at hil hfold ⊢
          by_cases h3 : i < s.length
          · have hx : s[i]? = some s[i] := by simp [h3]
            have hra := runeAt_ascii hx (asciiT_get ha h3)
            rw [lettersT_drop h3] at hfold
            simp only [pushR] at hfold
            obtain ⟨h4, q1, q2⟩ := Option.bind_eq_some_iff.1 hfold
            simp [h3, hra, handS_eq, hPush, q1]
            exact nextQ_of (i + 1, h4) ⟨h3, q2⟩ (by simp only; omega) (weak_frL rfl rfl (by simp))
          · have : i = s.length := by omega
            subst this
            rw [List.drop_length] at hfold
            cases hfold
            simp
        · cases hs
    · cases hs
  · cases hs

end Go.Proofs.YthchohjhcjkgjaaGreatDoor.Lift
