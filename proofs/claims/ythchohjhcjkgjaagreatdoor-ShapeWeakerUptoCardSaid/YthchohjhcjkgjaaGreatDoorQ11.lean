/-
  P7: .. and so for whole instructions.
  W1: larchlaw11's right, there and long.
  W2: larchlaw11.ShapeWeaker is true.
  LIFT, Z: FROM A PURE CONTRACT TO A STATEMENT: a reading of the arguments stands behind the call, whatever else is spared.
  LIFT, Y: THE ARGUMENTS OF A STATEMENT, OPENED: what a reading reads is a typed value that lies there.
  LIFT, R0: how the program's structs are read out of a statement's arguments.
  LIFT, R1: the structs of a class's places, instructions and frames, and larchlaw11's.
-/
import Derived.Test.YthchohjhcjkgjaaGreatDoorQ10
import Derived.ChangeSame
import Derived.ChangeReads
import Derived.Below
import Derived.OpenShut
import Derived.RowKit
import Derived.ProofKit
import Derived.Test.YthchohjhcjkgjaaGreatDoorRows
import Derived.ChangeArms
import Derived.ChangeMaps5
import Derived.KernelRfl
namespace Go.Proofs.YthchohjhcjkgjaaGreatDoor.Lift
open Go
set_option maxRecDepth 100000

theorem same_int {l : List AClass} (w : ATy) (h0 : w.kind ≠ 0) (h4 : w.kind ≠ 4) : ∀ u v : ATy, le1 l u v → decide (v = w) = true → decide (u = w) = true := fun u v h hv => by
  simp only [decide_eq_true_eq] at hv ⊢
  subst hv
  exact le_same h h0 h4
theorem ref_will {l : List AClass} : ∀ u v : ATy, le1 l u v → (decide (v.kind = 4) || decide (v.kind = 3)) = true → (decide (u.kind = 4) || decide (u.kind = 3)) = true := fun u v h hv => by
  rw [Bool.or_comm] at hv ⊢
  exact ref_of h hv
/-- a flag and a hand -/
def flR : Bool × AHand → Bool × AHand → Prop := fun x y => x.1 = y.1
theorem md_flag {α : Type} {o : Option α} {p : α → AHand} {h : AHand} (h1 : Md o p h) (b : Bool) : Md (o.map fun v => (b, p v)) Prod.snd h := h1.map fun _ h => h
theorem wd_flag {α : Type} {l : List AClass} {oa ob : Option α} {p : α → AHand} {R : α → α → Prop} (h1 : Wd l oa ob p R) (b : Bool) : Wd l (oa.map fun v => (b, p v)) (ob.map fun v => (b, p v)) Prod.snd flR := h1.map (fun _ _ _ s _ => ⟨rfl, s⟩) fun _ h => h
theorem le2 {l : List AClass} {x y : ATy} (h : le1 l x y) : leL l [x] [y] := ⟨h, trivial⟩

theorem le22 {l : List AClass} {x y x2 y2 : ATy} (h : le1 l x y) (h2 : le1 l x2 y2) : leL l [x, x2] [y, y2] := ⟨h, h2, trivial⟩
theorem le23 {l : List AClass} {x y x2 y2 x3 y3 : ATy} (h : le1 l x y) (h2 : le1 l x2 y2) (h3 : le1 l x3 y3) : leL l [x, x2, x3] [y, y2, y3] := ⟨h, h2, h3, trivial⟩
theorem le24 {l : List AClass} {x y x2 y2 x3 y3 x4 y4 : ATy} (h : le1 l x y) (h2 : le1 l x2 y2) (h3 : le1 l x3 y3) (h4 : le1 l x4 y4) : leL l [x, x2, x3, x4] [y, y2, y3, y4] := ⟨h, h2, h3, h4, trivial⟩

theorem md_moves (op k : Int) (h : AHand) : Md (movesO op k h) Prod.snd h := by
  unfold movesO
  refine Md.ite (md_flag (p := idH) ((md_push _ _).of md_local) true) ?_
  refine Md.ite (md_flag (p := idH) ((md_push _ _).of md_local) true) ?_
  refine Md.ite (md_flag (p := idH) ((md_push _ _).of md_local) true) ?_
  refine Md.ite (Md.some fun h => md_local h) ?_
  refine Md.ite (md_flag (p := idH) ((md_pop1 _ _).bind fun v => md_put _ _ _) true) ?_
  refine Md.ite (md_flag (p := idH) ((md_pop1 _ _).bind fun v => md_put _ _ _) true) ?_
  refine Md.ite (md_flag (p := idH) ((md_ref _).bind fun v => md_put _ _ _) true) ?_
  refine Md.ite (md_flag (p := Prod.snd) (md_single _) true) ?_
  refine Md.ite ((md_top _).bind fun v => Md.ite (Md.some fun h => h) (md_flag (p := Prod.snd) (md_single _) true)) ?_
  refine Md.ite ((md_single _).bind fun v => md_flag (p := idH) (md_push _ _) true) ?_
  refine Md.ite ((md_single _).bind fun v => (md_single _).bind fun u => md_flag (p := idH) (md_push _ _) true) ?_
  refine Md.ite ((md_single _).bind fun v => (md_single _).bind fun u => md_flag (p := idH) (md_push _ _) true) ?_
  refine Md.ite ((md_top _).bind fun v => Md.ite (md_flag (p := idH) (md_push _ _) true) ((md_single _).bind fun u => md_flag (p := idH) (md_push _ _) true)) ?_
  refine Md.ite ((md_pop1 _ _).bind fun v => (md_elems _ _).bind fun u => md_flag (p := idH) (md_push _ _) true) ?_
  refine Md.ite ((md_ref _).bind fun v => (md_pop1 _ _).bind fun u => md_flag (p := Prod.snd) (md_elems _ _) true) ?_
  refine Md.ite ((md_elems _ _).bind fun u => md_flag (p := idH) (md_push _ _) true) ?_
  exact Md.some fun h => h

theorem wd_ite {α : Type} {l : List AClass} {c : Prop} [Decidable c] {x y x' y' : Option α} {p : α → AHand} {R : α → α → Prop} (h1 : Wd l x x' p R) (h2 : Wd l y y' p R) : Wd l (if c then x else y) (if c then x' else y') p R := by
  by_cases h : c
  · rw [if_pos h, if_pos h]; exact h1
  · rw [if_neg h, if_neg h]; exact h2
/-- a local is pushed -/
theorem wd_load {l : List AClass} {a b : AHand} (s : Sim l a b) {will : ATy → Bool} (hw : ∀ u v : ATy, le1 l u v → will v = true → will u = true) (k : Int) :
    Wd l (pushO [(localT will k a).1] (localT will k a).2) (pushO [(localT will k b).1] (localT will k b).2) idH anyR := fun va vb ha hb hbad => by
  obtain ⟨r, s'⟩ := local_le s hw (k := k) (md_push _ _ vb hb hbad)
  exact wd_push s' (le2 r) va vb ha hb hbad
section
variable {l : List AClass} (hO : superOf l objName = []) (he : endsOf l = true)
include hO he
theorem wd_moves {a b : AHand} (s : Sim l a b) (op k : Int) : Wd l (movesO op k a) (movesO op k b) Prod.snd flR := by
  unfold movesO
  refine wd_ite (wd_flag (wd_load s (same_int tI (by decide) (by decide)) k) true) ?_
  refine wd_ite (wd_flag (wd_load s (same_int tJ (by decide) (by decide)) k) true) ?_
  refine wd_ite (wd_flag (wd_load s ref_will k) true) ?_
  refine wd_ite (Wd.some fun hb => ⟨rfl, (local_le s (same_int tI (by decide) (by decide)) hb).2⟩) ?_
  refine wd_ite (wd_flag ((wd_pop1 hO he s tI).bind (fun _ _ _ s => wd_put s (le1_self l tI) k) fun v => md_put _ _ _) true) ?_
  refine wd_ite (wd_flag ((wd_pop1 hO he s tJ).bind (fun _ _ _ s => wd_put s (le1_self l tJ) k) fun v => md_put _ _ _) true) ?_
  refine wd_ite (wd_flag ((wd_ref s).bind (fun _ _ r s => wd_put s r.1 k) fun v => md_put _ _ _) true) ?_
  refine wd_ite (wd_flag (wd_single s) true) ?_
  refine wd_ite ((wd_top s).bind (fun va vb r s => ?_) fun v => Md.ite (Md.some fun h => h) (md_flag (p := Prod.snd) (md_single _) true)) ?_
  · have hw := le1_wide r
    by_cases c : vb.1.kind = 2
    · rw [if_pos c, if_pos (hw.2 c)]
      exact Wd.some fun _ => ⟨rfl, s⟩
    · rw [if_neg c, if_neg (fun e => c (hw.1 e))]
      exact wd_flag (wd_single s) true
  refine wd_ite ((wd_single s).bind (fun va vb r s => wd_flag (wd_push s (le22 r r)) true) fun v => md_flag (p := idH) (md_push _ _) true) ?_
  refine wd_ite ((wd_single s).bind (fun va vb r s => (wd_single s).bind (fun ua ub r' s => wd_flag (wd_push s (le23 r r' r)) true) fun v => md_flag (p := idH) (md_push _ _) true) fun v => (md_single _).bind fun u => md_flag (p := idH) (md_push _ _) true) ?_
  refine wd_ite ((wd_single s).bind (fun va vb r s => (wd_single s).bind (fun ua ub r' s => wd_flag (wd_push s (le22 r r')) true) fun v => md_flag (p := idH) (md_push _ _) true) fun v => (md_single _).bind fun u => md_flag (p := idH) (md_push _ _) true) ?_
  refine wd_ite ((wd_top s).bind (fun va vb r s => ?_) fun v => Md.ite (md_flag (p := idH) (md_push _ _) true) ((md_single _).bind fun u => md_flag (p := idH) (md_push _ _) true)) ?_
  · have hw := le1_wide r
    by_cases c : vb.1.kind = 2
    · rw [if_pos c, if_pos (hw.2 c)]
      exact wd_flag (wd_push s (le22 r r)) true
    · rw [if_neg c, if_neg (fun e => c (hw.1 e))]
      exact (wd_single s).bind (fun ua ub r' s => wd_flag (wd_push s (le24 r' r r' r)) true) fun v => md_flag (p := idH) (md_push _ _) true
  refine wd_ite ((wd_pop1 hO he s tI).bind (fun _ _ _ s => (wd_elems s (will := isRefT) fun u v h hv => by simp only [isRefT, decide_eq_true_eq] at hv ⊢; exact h hv).bind (fun va vb r s => wd_flag (wd_push s (le2 (r.elim id fun h => h.2 (by simpa [isRefT] using h.1)))) true) fun v => md_flag (p := idH) (md_push _ _) true) fun v => (md_elems _ _).bind fun u => md_flag (p := idH) (md_push _ _) true) ?_
  refine wd_ite ((wd_ref s).bind (fun _ _ _ s => (wd_pop1 hO he s tI).bind (fun _ _ _ s => wd_flag (wd_elems s (will := isRefT) fun u v h hv => by simp only [isRefT, decide_eq_true_eq] at hv ⊢; exact h hv) true) fun v => md_flag (p := Prod.snd) (md_elems _ _) true) fun v => (md_pop1 _ _).bind fun u => md_flag (p := Prod.snd) (md_elems _ _) true) ?_
  refine wd_ite ((wd_elems s fun _ _ _ _ => rfl).bind (fun _ _ _ s => wd_flag (wd_push s (leL_self l [tI])) true) fun v => md_flag (p := idH) (md_push _ _) true) ?_
  exact Wd.some fun _ => ⟨rfl, s⟩
end

theorem wd_must {α : Type} {l : List AClass} {a b : AHand} (s : Sim l a b) (x : Bool) {k : AHand → Option α} {q : α → AHand} {R : α → α → Prop} (h1 : ∀ {a b : AHand}, Sim l a b → Wd l (k a) (k b) q R) (h2 : ∀ v, Md (k v) q v) : Wd l (k (mustT x a)) (k (mustT x b)) q R := fun va vb ha hb hbad => by
  have := mustT_bad (h2 _ vb hb hbad)
  exact h1 (s.must this.2 x) va vb ha hb hbad
theorem md_must {α : Type} {o : Option α} {q : α → AHand} {x : Bool} {h : AHand} (h1 : Md o q (mustT x h)) : Md o q h := h1.of fun h => (mustT_bad h).1
theorem md_const {p : List AEntry} {k tag : Int} {h : AHand} (hb : (constH p k tag h).2.bad = false) : h.bad = false := (mustT_bad hb).1
theorem const_le {l : List AClass} {a b : AHand} (s : Sim l a b) {p : List AEntry} {k tag : Int} (hb : (constH p k tag b).2.bad = false) : (constH p k tag a).1 = (constH p k tag b).1 ∧ Sim l (constH p k tag a).2 (constH p k tag b).2 := by
  have h := mustT_bad hb
  have s' := s.must h.2 (decide ((constT p k).2 = 0) && decide ((constT p k).1.tag = tag))
  refine ⟨?_, s'⟩
  have e1 : (mustT (decide ((constT p k).2 = 0) && decide ((constT p k).1.tag = tag)) a).bad = false := s'.good
  have e2 : (mustT (decide ((constT p k).2 = 0) && decide ((constT p k).1.tag = tag)) b).bad = false := hb
  simp only [constH, e1, e2]
theorem wd_const {α : Type} {l : List AClass} {a b : AHand} (s : Sim l a b) (p : List AEntry) (k tag : Int) {f : AConst → AHand → Option α} {q : α → AHand} {R : α → α → Prop} (h1 : ∀ c {a b : AHand}, Sim l a b → Wd l (f c a) (f c b) q R) (h2 : ∀ c v, Md (f c v) q v) :
    Wd l (f (constH p k tag a).1 (constH p k tag a).2) (f (constH p k tag b).1 (constH p k tag b).2) q R := fun va vb ha hb hbad => by
  obtain ⟨e, s'⟩ := const_le s (h2 _ _ vb hb hbad)
  rw [e] at ha
  exact h1 _ s' va vb ha hb hbad
theorem mdc {α : Type} {p : List AEntry} {k tag : Int} {h : AHand} {o : Option α} {q : α → AHand} (h1 : Md o q (constH p k tag h).2) : Md o q h := h1.of md_const
theorem md_kind (x : Str) (h : AHand) : Md (kindH x h) Prod.snd h := by
  unfold kindH
  exact Md.ite (Md.some fun h => (mustT_bad h).1) Md.none
theorem wd_kind {l : List AClass} {a b : AHand} (s : Sim l a b) (x : Str) : Wd l (kindH x a) (kindH x b) Prod.snd (fun x y => x.1 = y.1) := by
  unfold kindH
  exact wd_ite (Wd.some fun h => ⟨rfl, s.must (mustT_bad h).2 _⟩) Wd.noneA
theorem md_class (p : List AEntry) (k : Int) (h : AHand) : Md (classH p k h) Prod.snd h := by
  unfold classH
  exact Md.ite (Md.some fun h => md_const (mustT_bad h).1) Md.none
theorem wd_class {l : List AClass} {a b : AHand} (s : Sim l a b) (p : List AEntry) (k : Int) : Wd l (classH p k a) (classH p k b) Prod.snd (fun x y => x.1 = y.1) := by
  unfold classH
  exact wd_const s p k 7 (f := fun c h => if c.cls.length < 1099511600000 then some ((print ⟨4, c.cls⟩).1, mustT (decide ((print ⟨4, c.cls⟩).2 = 0)) h) else none)
    (fun c a b s => wd_ite (Wd.some fun h => ⟨rfl, s.must (mustT_bad h).2 _⟩) Wd.noneA) fun c v => Md.ite (Md.some fun h => (mustT_bad h).1) Md.none
theorem md_answers (op : Int) (back : ATy) (h : AHand) : Md (answersO op back h) Prod.snd h := by
  unfold answersO
  exact Md.ite (Md.some fun h => (mustT_bad h).1) (Md.ite (md_must (md_flag (p := idH) (md_pop1 _ _) true)) (Md.some fun h => h))
theorem wd_answers {l : List AClass} (hO : superOf l objName = []) (he : endsOf l = true) {a b : AHand} (s : Sim l a b) (op : Int) (back : ATy) : Wd l (answersO op back a) (answersO op back b) Prod.snd flR := by
  unfold answersO
  refine wd_ite (Wd.some fun h => ⟨rfl, s.must (mustT_bad h).2 _⟩) (wd_ite ?_ (Wd.some fun _ => ⟨rfl, s⟩))
  exact wd_must s _ (k := fun h => (pop1 back h).map fun h => (true, h)) (fun s => wd_flag (wd_pop1 hO he s back) true) fun v => md_flag (p := idH) (md_pop1 _ _) true

theorem md_kp (x : Str) (h : AHand) : Md ((kindH x h).bind fun t => (pushO [t.1] t.2).map fun h => (true, h)) Prod.snd h := (md_kind x h).bind fun v => md_flag (p := idH) (md_push _ _) true
theorem wd_kp {l : List AClass} {a b : AHand} (s : Sim l a b) (x : Str) : Wd l ((kindH x a).bind fun t => (pushO [t.1] t.2).map fun h => (true, h)) ((kindH x b).bind fun t => (pushO [t.1] t.2).map fun h => (true, h)) Prod.snd flR :=
  (wd_kind s x).bind (fun va vb e s => by rw [e]; exact wd_flag (wd_push s (leL_self l _)) true) fun v => md_flag (p := idH) (md_push _ _) true
theorem md_callT (m : List ATy × ATy × Int) (op : Int) (c : Str) (h : AHand) :
    Md ((popO m.1 (mustT (decide (m.2.2 = 0)) h)).bind fun h' => (if op = 184 then some h' else pop1 (namedT c) h').bind fun h' => (if m.2.1.kind = 0 then some h' else pushO [m.2.1] h').map fun h => (true, h)) Prod.snd h :=
  md_must ((md_popR _ _).bind fun v => (Md.ite (Md.some (p := idH) fun h => h) (md_pop1 _ _)).bind fun v => md_flag (p := idH) (Md.ite (Md.some fun h => h) (md_push _ _)) true)
theorem wd_callT {l : List AClass} (hO : superOf l objName = []) (he : endsOf l = true) {a b : AHand} (s : Sim l a b) (m : List ATy × ATy × Int) (op : Int) (c : Str) :
    Wd l ((popO m.1 (mustT (decide (m.2.2 = 0)) a)).bind fun h' => (if op = 184 then some h' else pop1 (namedT c) h').bind fun h' => (if m.2.1.kind = 0 then some h' else pushO [m.2.1] h').map fun h => (true, h))
      ((popO m.1 (mustT (decide (m.2.2 = 0)) b)).bind fun h' => (if op = 184 then some h' else pop1 (namedT c) h').bind fun h' => (if m.2.1.kind = 0 then some h' else pushO [m.2.1] h').map fun h => (true, h)) Prod.snd flR := by
  refine wd_must s _ (k := fun h => (popO m.1 h).bind fun h' => (if op = 184 then some h' else pop1 (namedT c) h').bind fun h' => (if m.2.1.kind = 0 then some h' else pushO [m.2.1] h').map fun h => (true, h)) (fun s => ?_)
    fun v => (md_popR _ _).bind fun v => (Md.ite (Md.some (p := idH) fun h => h) (md_pop1 _ _)).bind fun v => md_flag (p := idH) (Md.ite (Md.some fun h => h) (md_push _ _)) true
  exact (wd_popR hO he _ s).bind (fun _ _ _ s => (wd_ite (Wd.some (R := anyR) (p := idH) fun _ => ⟨trivial, s⟩) (wd_pop1 hO he s _)).bind (fun _ _ _ s => wd_flag (p := idH) (R := anyR) (wd_ite (Wd.some fun _ => ⟨trivial, s⟩) (wd_push s (leL_self l _))) true)
    fun v => md_flag (p := idH) (Md.ite (Md.some fun h => h) (md_push _ _)) true) fun v => (Md.ite (Md.some (p := idH) fun h => h) (md_pop1 _ _)).bind fun v => md_flag (p := idH) (Md.ite (Md.some fun h => h) (md_push _ _)) true
theorem md_bound (p : List AEntry) (op k : Int) (h : AHand) : Md (boundO p op k h) Prod.snd h := by
  unfold boundO
  refine Md.ite (mdc (md_flag (p := idH) (md_push _ _) true)) ?_
  refine Md.ite (mdc (md_flag (p := idH) (md_push _ _) true)) ?_
  refine Md.ite (mdc (md_kp _ _)) ?_
  refine Md.ite (mdc ((md_kind _ _).bind fun v => md_flag (p := idH) (md_pop1 _ _) true)) ?_
  refine Md.ite (mdc ((md_kind _ _).bind fun v => (md_pop1 _ _).bind fun u => md_flag (p := idH) (md_push _ _) true)) ?_
  refine Md.ite (mdc ((md_kind _ _).bind fun v => (md_pop1 _ _).bind fun u => md_flag (p := idH) (md_pop1 _ _) true)) ?_
  refine Md.ite (Md.ite (mdc (md_callT _ _ _ _)) Md.none) ?_
  refine Md.ite ((md_class _ _ _).bind fun v => md_must (md_kp _ _)) ?_
  refine Md.ite ((md_pop1 _ _).bind fun v => md_must (md_flag (p := idH) (md_push _ _) true)) ?_
  refine Md.ite ((md_pop1 _ _).bind fun v => (md_class _ _ _).bind fun u => md_kp _ _) ?_
  refine Md.ite ((md_ref _).bind fun v => (md_class _ _ _).bind fun u => md_kp _ _) ?_
  refine Md.ite ((md_class _ _ _).bind fun v => md_flag (p := idH) (md_does _ _ _) true) ?_
  exact Md.some fun h => h

theorem wd_bound {l : List AClass} (hO : superOf l objName = []) (he : endsOf l = true) {a b : AHand} (s : Sim l a b) (p : List AEntry) (op k : Int) : Wd l (boundO p op k a) (boundO p op k b) Prod.snd flR := by
  unfold boundO
  refine wd_ite (wd_const s p k 3 (f := fun _ h => (pushO [tI] h).map fun h => (true, h)) (fun _ _ _ s => wd_flag (wd_push s (leL_self l _)) true) fun _ _ => md_flag (p := idH) (md_push _ _) true) ?_
  refine wd_ite (wd_const s p k 5 (f := fun _ h => (pushO [tJ] h).map fun h => (true, h)) (fun _ _ _ s => wd_flag (wd_push s (leL_self l _)) true) fun _ _ => md_flag (p := idH) (md_push _ _) true) ?_
  refine wd_ite (wd_const s p k 9 (f := fun c h => (kindH c.type h).bind fun t => (pushO [t.1] t.2).map fun h => (true, h)) (fun c _ _ s => wd_kp s _) fun _ _ => md_kp _ _) ?_
  refine wd_ite (wd_const s p k 9 (f := fun c h => (kindH c.type h).bind fun t => (pop1 t.1 t.2).map fun h => (true, h)) (fun c _ _ s => (wd_kind s _).bind (fun va vb e s => by rw [e]; exact wd_flag (wd_pop1 hO he s _) true) fun v => md_flag (p := idH) (md_pop1 _ _) true)
    fun _ _ => (md_kind _ _).bind fun v => md_flag (p := idH) (md_pop1 _ _) true) ?_
  refine wd_ite (wd_const s p k 9 (f := fun c h => (kindH c.type h).bind fun t => (pop1 (namedT c.cls) t.2).bind fun h => (pushO [t.1] h).map fun h => (true, h))
    (fun c _ _ s => (wd_kind s _).bind (fun va vb e s => by rw [e]; exact (wd_pop1 hO he s _).bind (fun _ _ _ s => wd_flag (wd_push s (leL_self l _)) true) fun v => md_flag (p := idH) (md_push _ _) true) fun v => (md_pop1 _ _).bind fun u => md_flag (p := idH) (md_push _ _) true)
    fun _ _ => (md_kind _ _).bind fun v => (md_pop1 _ _).bind fun u => md_flag (p := idH) (md_push _ _) true) ?_
  refine wd_ite (wd_const s p k 9 (f := fun c h => (kindH c.type h).bind fun t => (pop1 t.1 t.2).bind fun h' => (pop1 (namedT c.cls) h').map fun h => (true, h))
    (fun c _ _ s => (wd_kind s _).bind (fun va vb e s => by rw [e]; exact (wd_pop1 hO he s _).bind (fun _ _ _ s => wd_flag (wd_pop1 hO he s _) true) fun v => md_flag (p := idH) (md_pop1 _ _) true) fun v => (md_pop1 _ _).bind fun u => md_flag (p := idH) (md_pop1 _ _) true)
    fun _ _ => (md_kind _ _).bind fun v => (md_pop1 _ _).bind fun u => md_flag (p := idH) (md_pop1 _ _) true) ?_
  refine wd_ite (wd_const s p k 10 (f := fun c h => if c.type.length < 1099511627776 then
      (popO (method c.type).1 (mustT (decide ((method c.type).2.2 = 0)) h)).bind fun h' => (if op = 184 then some h' else pop1 (namedT c.cls) h').bind fun h' => (if (method c.type).2.1.kind = 0 then some h' else pushO [(method c.type).2.1] h').map fun h => (true, h) else none)
    (fun c _ _ s => wd_ite (wd_callT hO he s _ _ _) Wd.noneA) fun _ _ => Md.ite (md_callT _ _ _ _) Md.none) ?_
  refine wd_ite ((wd_class s p k).bind (fun va vb e s => by
    rw [e]
    exact wd_must s _ (k := fun h => (kindH vb.1 h).bind fun t => (pushO [t.1] t.2).map fun h => (true, h)) (fun s => wd_kp s _) fun v => md_kp _ _) fun v => md_must (md_kp _ _)) ?_
  refine wd_ite ((wd_pop1 hO he s tI).bind (fun va vb _ s => wd_must s _ (k := fun h => (pushO [_] h).map fun h => (true, h)) (fun s => wd_flag (wd_push s (leL_self l _)) true) fun v => md_flag (p := idH) (md_push _ _) true) fun v => md_must (md_flag (p := idH) (md_push _ _) true)) ?_
  refine wd_ite ((wd_pop1 hO he s tI).bind (fun va vb _ s => (wd_class s p k).bind (fun va vb e s => by rw [e]; exact wd_kp s _) fun v => md_kp _ _) fun v => (md_class _ _ _).bind fun u => md_kp _ _) ?_
  refine wd_ite ((wd_ref s).bind (fun va vb _ s => (wd_class s p k).bind (fun va vb e s => by rw [e]; exact wd_kp s _) fun v => md_kp _ _) fun v => (md_class _ _ _).bind fun u => md_kp _ _) ?_
  refine wd_ite ((wd_class s p k).bind (fun va vb _ s => wd_flag (wd_does hO he s _ _) true) fun v => md_flag (p := idH) (md_does _ _ _) true) ?_
  exact Wd.some fun _ => ⟨rfl, s⟩

theorem md_hand (p : List AEntry) (back : ATy) (op k : Int) (h : AHand) : Md (handO p back op k h) idH h := by
  unfold handO
  split
  · exact md_does _ _ _
  · refine (md_moves op k h).bind fun v => Md.ite (Md.some fun h => h) ((md_answers op back v.2).bind fun u => Md.ite (Md.some fun h => h) ((md_bound p op k u.2).map fun w hw => ?_))
    split at hw
    · exact hw
    · cases hw
theorem wd_hand {l : List AClass} (hO : superOf l objName = []) (he : endsOf l = true) {a b : AHand} (s : Sim l a b) (p : List AEntry) (back : ATy) (op k : Int) : Wd l (handO p back op k a) (handO p back op k b) idH anyR := by
  unfold handO
  have last : ∀ u : Bool × AHand, Md ((boundO p op k u.2).map fun r => if r.1 then r.2 else { r.2 with bad := true }) idH u.2 := fun u => (md_bound p op k u.2).map fun w hw => by
    split at hw
    · exact hw
    · cases hw
  split
  · exact wd_does hO he s _ _
  · refine (wd_moves hO he s op k).bind (fun va vb e s => ?_) fun v => Md.ite (Md.some fun h => h) ((md_answers op back v.2).bind fun u => Md.ite (Md.some fun h => h) (last u))
    rw [show va.1 = vb.1 from e]
    refine wd_ite (Wd.some fun _ => ⟨trivial, s⟩) ((wd_answers hO he s op back).bind (fun va vb e s => ?_) fun u => Md.ite (Md.some fun h => h) (last u))
    rw [show va.1 = vb.1 from e]
    refine wd_ite (Wd.some fun _ => ⟨trivial, s⟩) ((wd_bound hO he s p op k).map (fun va vb e s hb => ?_) fun w hw => ?_)
    · rw [show va.1 = vb.1 from e]
      by_cases c : vb.1 = true
      · rw [if_pos c, if_pos c]
        exact ⟨trivial, s⟩
      · rw [if_neg c] at hb
        cases hb
    · split at hw
      · exact hw
      · cases hw
/-- what may be done to a frame may be done to one that may stand for it, and what comes of this may stand for what comes of that -/
theorem step_weaker {l : List AClass} (hO : superOf l objName = []) (he : endsOf l = true) {p : List AEntry} {back : ATy} {i : AInstr} {a b : AFrame} {most : Int} (h1 : leL l a.locals b.locals) (h2 : leL l a.stack b.stack) {x y : AFrame} {e f : Int}
    (ha : stepO l p back i a most = some (x, e)) (hb : stepO l p back i b most = some (y, f)) (hf : f = 0) : e = 0 ∧ leL l x.locals y.locals ∧ leL l x.stack y.stack := by
  unfold stepO at ha hb
  obtain ⟨ua, hua, ha⟩ := Option.bind_eq_some_iff.1 ha
  obtain ⟨ub, hub, hb⟩ := Option.bind_eq_some_iff.1 hb
  by_cases c : ub.bad = true
  · rw [if_pos c] at hb
    cases hb
    cases hf
  rw [if_neg c] at hb
  obtain ⟨_, s⟩ := wd_hand hO he (a := ⟨l, a.locals, a.stack, false, 1, []⟩) (b := ⟨l, b.locals, b.stack, false, 1, []⟩) ⟨rfl, rfl, h1, h2, rfl⟩ p back _ _ ua ub hua hub (by simpa [idH] using c)
  have s : Sim l ua ub := s
  rw [if_neg (by rw [s.good]; decide)] at ha
  have hw : wide ua.stk = wide ub.stk := by simp only [wide, leL_length s.stk, leL_longs s.stk]
  rw [leL_length s.stk, hw] at ha
  by_cases c1 : ub.stk.length < 1099511627776
  · rw [if_pos c1] at ha hb
    by_cases c2 : most < wide ub.stk
    · rw [if_pos c2] at hb
      cases hb
      cases hf
    · rw [if_neg c2] at ha hb
      cases ha
      cases hb
      exact ⟨rfl, s.loc, s.stk⟩
  · rw [if_neg c1] at hb
    cases hb
end Go.Proofs.YthchohjhcjkgjaaGreatDoor.Lift
namespace Go.Proofs.YthchohjhcjkgjaaGreatDoor.Lift
open Go
set_option maxRecDepth 100000

def nameAt (m : List AClass) (i : Nat) : Str := ((m[i]?).map AClass.name).getD []
def superAt (m : List AClass) (i : Nat) : Str := ((m[i]?).map AClass.super).getD []
/-- a class's place, alone -/
def rightI (m : List AClass) (i : Nat) : Bool := (List.range i).all (fun k => decide (¬ nameAt m i = nameAt m k)) && (List.range m.length).all (fun k => decide (¬ (nameAt m k = topOf m (nameAt m i) ∧ superAt m k ≠ []))) && decide (¬ (nameAt m i = objName ∧ superAt m i ≠ []))
def rightM (m : List AClass) : Bool := (List.range m.length).all (rightI m)
theorem rightM_false {m : List AClass} {i : Nat} (hi : i < m.length) (h : rightI m i = false) : rightM m = false := by
  cases hq : rightM m with
  | false => rfl
  | true => rw [List.all_eq_true.1 hq i (List.mem_range.2 hi)] at h; cases h
theorem nameAt_eq {m : List AClass} {i : Nat} (hi : i < m.length) : nameAt m i = m[i].name := by simp [nameAt, hi]
theorem superAt_eq {m : List AClass} {i : Nat} (hi : i < m.length) : superAt m i = m[i].super := by simp [superAt, hi]
theorem right_obj {m : List AClass} (h : rightM m = true) : superOf m objName = [] := by
  by_cases hp : placeOf m objName < m.length
  · have e1 : m[placeOf m objName].name = objName := of_decide_eq_true (List.findIdx_getElem (w := hp))
    have h1 := List.all_eq_true.1 h _ (List.mem_range.2 hp)
    simp only [rightI, Bool.and_eq_true, decide_eq_true_eq] at h1
    have h2 := h1.2
    rw [nameAt_eq hp, superAt_eq hp] at h2
    unfold superOf
    rw [dif_pos hp]
    exact Classical.byContradiction fun e => h2 ⟨e1, e⟩
  · unfold superOf
    rw [dif_neg hp]
theorem right_ends {m : List AClass} (h : rightM m = true) : endsOf m = true := by
  refine List.all_eq_true.2 fun c hc => ?_
  obtain ⟨i, hi, rfl⟩ := List.getElem_of_mem hc
  have h1 := List.all_eq_true.1 h _ (List.mem_range.2 hi)
  simp only [rightI, Bool.and_eq_true] at h1
  have h2 := h1.1.2
  rw [nameAt_eq hi] at h2
  refine decide_eq_true ?_
  generalize topOf m m[i].name = t at *
  by_cases hp : placeOf m t < m.length
  · have e1 : m[placeOf m t].name = t := of_decide_eq_true (List.findIdx_getElem (w := hp))
    have h3 := of_decide_eq_true (List.all_eq_true.1 h2 _ (List.mem_range.2 hp))
    rw [nameAt_eq hp, superAt_eq hp] at h3
    unfold superOf
    rw [dif_pos hp]
    exact Classical.byContradiction fun e => h3 ⟨e1, e⟩
  · unfold superOf
    rw [dif_neg hp]

def thereE (x : ATy) : Bool := decide ((print x).2 = 0) || decide (x = ⟨0, []⟩) || decide (x = ⟨3, []⟩)
def thereT (l : List ATy) : Bool := l.all thereE
/-- where a long stands, stands a long -/
def longsLe : List ATy → List ATy → Bool
  | x :: xs, y :: ys => (decide (x.kind ≠ 2) || decide (y.kind = 2)) && longsLe xs ys
  | _, _ => true
def longT (a b : AFrame) : Bool := !(longsLe a.locals b.locals && longsLe a.stack b.stack)
theorem leL_of {l : List AClass} : ∀ {xs ys : List ATy}, mayAll l xs ys = true → longsLe xs ys = true → leL l xs ys
  | [], [], _, _ => trivial
  | x :: xs, y :: ys, h, h2 => by
    simp only [mayAll, Bool.and_eq_true] at h
    simp only [longsLe, Bool.and_eq_true, Bool.or_eq_true, decide_eq_true_eq] at h2
    exact ⟨⟨h.1, fun e => h2.1.resolve_left (fun h => h e)⟩, leL_of h.2 h2.2⟩
  | [], _ :: _, h, _ => by cases h
  | _ :: _, [], h, _ => by cases h

theorem longsLe_of : ∀ {xs ys : List ATy}, (∀ (j : Nat) (h : j < xs.length) (h2 : j < ys.length), xs[j].kind = 2 → ys[j].kind = 2) → longsLe xs ys = true
  | [], _, _ => by simp [longsLe]
  | _ :: _, [], _ => by simp [longsLe]
  | x :: xs, y :: ys, h => by
    have h0 := h 0 (by simp) (by simp)
    have h1 := longsLe_of (xs := xs) (ys := ys) fun j hj hj2 => by
      have := h (j + 1) (by simpa using hj) (by simpa using hj2)
      simpa using this
    simp only [longsLe, h1, Bool.and_true, Bool.or_eq_true, decide_eq_true_eq]
    by_cases h : x.kind = 2
    · exact .inr (h0 h)
    · exact .inl h
theorem longsLe_get : ∀ {xs ys : List ATy}, longsLe xs ys = true → ∀ (j : Nat) (h : j < xs.length) (h2 : j < ys.length), xs[j].kind = 2 → ys[j].kind = 2
  | [], _, _, j, h, _ => by simp at h
  | _ :: _, [], _, j, _, h => by simp at h
  | x :: xs, y :: ys, h, j, hj, hj2 => by
    simp only [longsLe, Bool.and_eq_true, Bool.or_eq_true, decide_eq_true_eq] at h
    cases j with
    | zero => exact fun e => h.1.resolve_left fun h => h e
    | succ j => exact longsLe_get h.2 j (by simpa using hj) (by simpa using hj2)

set_option maxHeartbeats 1000000 in
theorem p_right11 : SoundP Tryz.prog gl 11 (fn1 (cL cClass) encBool fun l => if l.length < 1099511627776 then some (rightM l) else none) := by
  have okx := okX_nil.addP p_refAbove
  refine soundP_of_wk okx mixed Tryz.func11 rfl rfl fun args r h G0 => ?_
  obtain ⟨m, e, rfl, he, rfl⟩ := fn1_inv h
  simp only [Option.ite_none_right_eq_some, Option.some.injEq] at he
  obtain ⟨hs, rfl⟩ := he
  simp [Tryz.f11, entry]
  refine lp_of okx mixed (fun (i : Nat) => ⟨86, frL [(0, .sl (m.map encClass)), (2, .bool false), (3, .int .i64 i)], []⟩) (fun i => i ≤ m.length ∧ ∀ (j : Nat), j < i → rightI m j = true) (fun i => m.length - i) 0 (by simp) (weak_frL rfl rfl (by simp)) ?_
  intro i ⟨hi, hn⟩
  simp
  refine br_dec (fun h3 => ?_) (fun h3 => ?_)
  · have hx : m[i]? = some m[i] := by simp [h3]
    have hw := wrap_i64 (show (-9223372036854775808 : Int) ≤ (i : Int) + 1 by omega) (by omega)
    have hlen := aboveOf_le m [m[i].name] m[i].name
    have htop : topOf m m[i].name = ((aboveOf m [m[i].name] m[i].name)[(aboveOf m [m[i].name] m[i].name).length - 1]?).getD m[i].name := lastOr_eq _ _
    have hI : rightI m i = ((List.range i).all (fun k => decide (¬ m[i].name = nameAt m k)) && (List.range m.length).all (fun k => decide (¬ (nameAt m k = topOf m m[i].name ∧ superAt m k ≠ []))) && decide (¬ (m[i].name = objName ∧ m[i].super ≠ []))) := by
      unfold rightI
      rw [nameAt_eq h3, superAt_eq h3]
    simp
    refine lp_of okx mixed (fun (k : Nat) => ⟨86, frL [(0, .sl (m.map encClass)), (2, .bool false), (3, .int .i64 i), (4, .int .i64 k)], []⟩) (fun k => k ≤ i ∧ ∀ (j : Nat) (h : j < m.length), j < k → ¬ m[i].name = m[j].name) (fun k => i - k) 0 (by simp) (weak_frL rfl rfl (by simp)) ?_
    intro k ⟨hk, hkn⟩
    simp
    refine br_dec (fun h4 => ?_) (fun h4 => ?_)
    · have hkl : k < m.length := by omega
      have hxk : m[k]? = some m[k] := by simp [hkl]
      have hwk := wrap_i64 (show (-9223372036854775808 : Int) ≤ (k : Int) + 1 by omega) (by omega)
      simp
      refine dk_of (by decide) ?_
      simp [hx, hxk]
      refine br_dec (fun h5 => ?_) (fun h5 => ?_)
      · have hF : rightM m = false := rightM_false h3 (by
          rw [hI]
          have : (List.range i).all (fun k => decide (¬ m[i].name = nameAt m k)) = false := by
            rw [List.all_eq_false]
            exact ⟨k, List.mem_range.2 h4, by rw [nameAt_eq hkl]; simpa using h5⟩
          rw [this]
          rfl)
        simp [hF]
        exact finS_fz (by simp)
      · simp [hwk]
        refine nextQ_of (k + 1) ⟨h4, fun j hj hjk => ?_⟩ (by omega) (weak_frL rfl rfl (by simp))
        rcases Nat.lt_or_ge j k with h8 | h8
        · exact hkn j hj h8
        · have : j = k := by omega
          subst this
          exact h5
    · have hki : k = i := by omega
      subst hki
      have hA : (List.range k).all (fun j => decide (¬ m[k].name = nameAt m j)) = true := List.all_eq_true.2 fun j hj => by
        have hj' := List.mem_range.1 hj
        have hjl : j < m.length := by omega
        rw [nameAt_eq hjl]
        exact decide_eq_true (hkn j hjl hj')
      rw [hA, Bool.true_and] at hI
      generalize htp : topOf m m[k].name = top at *
      generalize hnm : aboveOf m [m[k].name] m[k].name = names at *
      simp [hx, hs, hnm]
      refine lp_of okx mixed (fun (j : Nat) => ⟨86, frL [(0, .sl (m.map encClass)), (2, .bool false), (3, .int .i64 k), (5, .sl (names.map .str)), (6, .int .i64 j)], []⟩) (fun j => j ≤ m.length ∧ ∀ (q : Nat) (h : q < m.length), q < j → m[q].name = top → m[q].super = []) (fun j => m.length - j) 0 (by simp) (weak_frL rfl rfl (by simp)) ?_
      intro j ⟨hj, hjn⟩
      simp
      refine br_dec (fun h5 => ?_) (fun h5 => ?_)
      · have hxj : m[j]? = some m[j] := by simp [h5]
        have hwj := wrap_i64 (show (-9223372036854775808 : Int) ≤ (j : Int) + 1 by omega) (by omega)
        have hstop : m[j].name = top → ¬ m[j].super = [] → rightM m = false := fun e1 e2 => rightM_false h3 (by
          rw [hI]
          have : (List.range m.length).all (fun k => decide (¬ (nameAt m k = top ∧ superAt m k ≠ []))) = false := by
            rw [List.all_eq_false]
            exact ⟨j, List.mem_range.2 h5, by rw [nameAt_eq h5, superAt_eq h5]; simpa using ⟨e1, e2⟩⟩
          rw [this]
          rfl)
        have next : (m[j].name = top → m[j].super = []) → j + 1 ≤ m.length ∧ ∀ (q : Nat) (h : q < m.length), q < j + 1 → m[q].name = top → m[q].super = [] := fun hq => ⟨h5, fun q hq' hlt => by
          rcases Nat.lt_or_ge q j with h8 | h8
          · exact hjn q hq' h8
          · have : q = j := by omega
            subst this
            exact hq⟩
        simp [hx]
        refine br_dec (fun h6 => ?_) (fun h6 => ?_)
        · have hlt : names.length - 1 < names.length := by omega
          have hget : names[names.length - 1]? = some top := by
            rw [htop, List.getElem?_eq_getElem hlt]
            rfl
          have hwl : IntKind.wrap .i64 ((names.length : Int) - 1) = (names.length : Int) - 1 := wrap_i64 (by omega) (by omega)
          have hnat : ((names.length : Int) - 1).toNat = names.length - 1 := by omega
          have hpos : (0 ≤ (names.length : Int) - 1) = True := by simp; omega
          have hpos1 : (1 ≤ (names.length : Int)) = True := by simp; omega
          simp [hwl, hnat, hpos1, hget]
          by_cases h7 : m[j].name = top
          · by_cases h8 : m[j].super = []
            · simp [hxj, h7, h8, hwj]
              exact nextQ_of (j + 1) (next fun _ => h8) (by omega) (weak_frL rfl rfl (by simp))
            · simp [hxj, h7, h8, hstop h7 h8]
              exact finS_fz (by simp)
          · simp [hxj, h7, hwj]
            exact nextQ_of (j + 1) (next fun h => absurd h h7) (by omega) (weak_frL rfl rfl (by simp))
        · have h0 : names = [] := List.eq_nil_of_length_eq_zero (by omega)
          have hnm' : m[k].name = top := by rw [htop, h0]; rfl
          by_cases h7 : m[j].name = top
          · by_cases h8 : m[j].super = []
            · simp [hxj, hnm', h7, h8, hwj]
              exact nextQ_of (j + 1) (next fun _ => h8) (by omega) (weak_frL rfl rfl (by simp))
            · simp [hxj, hnm', h7, h8, hstop h7 h8]
              exact finS_fz (by simp)
          · simp [hxj, hnm', h7, hwj]
            exact nextQ_of (j + 1) (next fun h => absurd h h7) (by omega) (weak_frL rfl rfl (by simp))
      · have hB : (List.range m.length).all (fun k => decide (¬ (nameAt m k = top ∧ superAt m k ≠ []))) = true := List.all_eq_true.2 fun q hq => by
          have hq' := List.mem_range.1 hq
          rw [nameAt_eq hq', superAt_eq hq']
          exact decide_eq_true fun h => h.2 (hjn q hq' (by omega) h.1)
        rw [hB, Bool.true_and] at hI
        by_cases h6 : m[k].name = objName
        · by_cases h7 : m[k].super = []
          · have hT : rightI m k = true := by rw [hI]; simp [h7]
            simp only [objName] at h6
            simp [hx, h6, h7, hw]
            refine nextQ_of (k + 1) ⟨h3, fun j hj => ?_⟩ (by omega) (weak_frL rfl rfl (by simp))
            rcases Nat.lt_or_ge j k with h8 | h8
            · exact hn j h8
            · have : j = k := by omega
              subst this
              exact hT
          · have hF : rightM m = false := rightM_false h3 (by rw [hI]; simp [h6, h7])
            simp only [objName] at h6
            simp [hx, h6, h7, hF]
            exact finS_fz (by simp)
        · have hT : rightI m k = true := by rw [hI]; simp [h6]
          simp only [objName] at h6
          simp [hx, h6, hw]
          refine nextQ_of (k + 1) ⟨h3, fun j hj => ?_⟩ (by omega) (weak_frL rfl rfl (by simp))
          rcases Nat.lt_or_ge j k with h8 | h8
          · exact hn j h8
          · have : j = k := by omega
            subst this
            exact hT
  · have hT : rightM m = true := List.all_eq_true.2 fun j hj => hn j (by have := List.mem_range.1 hj; omega)
    simp [hT]
    exact finS_fz (by simp)

set_option maxHeartbeats 1000000 in
theorem p_there : SoundP Tryz.prog gl 12 (fn1 (cL cTy) encBool fun l => if l.length < 1099511627776 ∧ ∀ x ∈ l, x.name.length < 1099511600000 then some (thereT l) else none) := by
  have okx := okX_nil.addP p_refPrint
  refine soundP_of_wk okx mixed Tryz.func12 rfl rfl fun args r h G0 => ?_
  obtain ⟨l, e, rfl, he, rfl⟩ := fn1_inv h
  simp only [Option.ite_none_right_eq_some, Option.some.injEq] at he
  obtain ⟨⟨hs, hnm⟩, rfl⟩ := he
  simp [Tryz.f12, entry]
  refine lp_of okx mixed (fun (i : Nat) => ⟨34, frL [(0, .sl (l.map encTy)), (2, .bool false), (3, .int .i64 i)], []⟩) (fun i => i ≤ l.length ∧ ∀ (j : Nat) (h : j < l.length), j < i → thereE l[j] = true) (fun i => l.length - i) 0 (by simp) (weak_frL rfl rfl (by simp)) ?_
  intro i ⟨hi, hn⟩
  simp
  refine br_dec (fun h3 => ?_) (fun h3 => ?_)
  · have hx : l[i]? = some l[i] := by simp [h3]
    have hw := wrap_i64 (show (-9223372036854775808 : Int) ≤ (i : Int) + 1 by omega) (by omega)
    have hb := hnm l[i] (List.getElem_mem _)
    have next : thereE l[i] = true → i + 1 ≤ l.length ∧ ∀ (j : Nat) (h : j < l.length), j < i + 1 → thereE l[j] = true := fun hq => ⟨h3, fun j hj hlt => by
      rcases Nat.lt_or_ge j i with h8 | h8
      · exact hn j hj h8
      · have : j = i := by omega
        subst this
        exact hq⟩
    have stop : thereE l[i] = false → thereT l = false := fun hq => by
      unfold thereT
      rw [List.all_eq_false]
      exact ⟨l[i], List.getElem_mem _, by rw [hq]; decide⟩
    generalize hxi : l[i] = x at *
    obtain ⟨xk, xn⟩ := x
    by_cases h4 : (print ⟨xk, xn⟩).2 = 0
    · simp [hx, hb, h4, hw]
      exact nextQ_less (i + 1) (next (by simp [thereE, h4])) (by omega) (less_take fz_gl G0.2 rfl (by simp) (by simp) (by simp))
    · by_cases h5 : xn = []
      · subst h5
        by_cases h6 : xk = 0
        · subst h6
          simp [hx, h4, hw]
          exact nextQ_less (i + 1) (next (by simp [thereE])) (by omega) (less_take fz_gl G0.2 rfl (by simp) (by simp) (by simp))
        · by_cases h7 : xk = 3
          · subst h7
            simp [hx, h4, hw]
            exact nextQ_less (i + 1) (next (by simp [thereE])) (by omega) (less_take fz_gl G0.2 rfl (by simp) (by simp) (by simp))
          · have hF := stop (by simp [thereE, h4, h6, h7])
            simp [hx, h4, h6, h7, hF]
            exact finS_fz (by simp)
      · have hF := stop (by simp [thereE, h4, h5])
        simp [hx, hb, h4, h5, hF]
        exact finS_fz (by simp)
  · have hT : thereT l = true := List.all_eq_true.2 fun x hx => by
      obtain ⟨j, hj, rfl⟩ := List.getElem_of_mem hx
      exact hn j hj (by omega)
    simp [hT]
    exact finS_fz (by simp)

def gLong (a b : AFrame) : Option Bool := if a.locals.length = b.locals.length ∧ a.stack.length = b.stack.length ∧ a.locals.length < 1099511627776 ∧ a.stack.length < 1099511627776 then some (longT a b) else none
set_option maxHeartbeats 1000000 in
theorem p_long : SoundP Tryz.prog gl 15 (fn2 cFrame cFrame encBool gLong) := by
  refine soundP_of_wk okX_nil mixed Tryz.func15 rfl rfl fun args r h G0 => ?_
  obtain ⟨a, b, e, rfl, he, rfl⟩ := fn2_inv h
  unfold gLong at he
  simp only [Option.ite_none_right_eq_some, Option.some.injEq] at he
  obtain ⟨⟨h1, h2, h3, h4⟩, rfl⟩ := he
  obtain ⟨al, sa⟩ := a
  obtain ⟨bl, sb⟩ := b
  simp only at h1 h2 h3 h4
  simp [Tryz.f15, entry]
  refine lp_of okX_nil mixed (fun (i : Nat) => ⟨53, frL [(2, .ptr 0 0 0 0), (3, .ptr 1 0 0 0), (4, .bool false), (5, .int .i64 i)], [.row 2 0 0 [.agg [.sl (al.map encTy), .sl (sa.map encTy)]], .row 2 0 0 [.agg [.sl (bl.map encTy), .sl (sb.map encTy)]]]⟩) (fun i => i ≤ al.length ∧ ∀ (j : Nat) (h : j < al.length) (h2 : j < bl.length), j < i → al[j].kind = 2 → bl[j].kind = 2) (fun i => al.length - i) 0 (by simp) (weak_frL rfl rfl (by simp)) ?_
  intro i ⟨hi, hn⟩
  simp
  refine br_dec (fun h5 => ?_) (fun h5 => ?_)
  · have h6 : i < bl.length := by omega
    have hx : al[i]? = some al[i] := by simp [h5]
    have hy : bl[i]? = some bl[i] := by simp [h6]
    have hw := wrap_i64 (show (-9223372036854775808 : Int) ≤ (i : Int) + 1 by omega) (by omega)
    have next : (al[i].kind = 2 → bl[i].kind = 2) → i + 1 ≤ al.length ∧ ∀ (j : Nat) (h : j < al.length) (h2 : j < bl.length), j < i + 1 → al[j].kind = 2 → bl[j].kind = 2 := fun hq => ⟨h5, fun j hj hj2 hlt => by
      rcases Nat.lt_or_ge j i with h8 | h8
      · exact hn j hj hj2 h8
      · have : j = i := by omega
        subst this
        exact hq⟩
    by_cases h7 : al[i].kind = 2
    · by_cases h8 : bl[i].kind = 2
      · simp [hx, hy, h7, h8, hw]
        exact nextQ_of (i + 1) (next fun _ => h8) (by omega) (weak_frL rfl rfl (by simp))
      · have hT : longT ⟨al, sa⟩ ⟨bl, sb⟩ = true := by
          have : longsLe al bl = false := by
            cases hq : longsLe al bl with
            | false => rfl
            | true => exact absurd (longsLe_get hq i h5 h6 h7) h8
          simp [longT, this]
        simp [hx, hy, h7, h8, hT]
        exact finS_fz (by simp)
    · simp [hx, h7, hw]
      exact nextQ_of (i + 1) (next fun h => absurd h h7) (by omega) (weak_frL rfl rfl (by simp))
  · have hA : longsLe al bl = true := longsLe_of fun j hj hj2 => hn j hj hj2 (by omega)
    simp
    refine lp_of okX_nil mixed (fun (i : Nat) => ⟨53, frL [(2, .ptr 0 0 0 0), (3, .ptr 1 0 0 0), (4, .bool false), (6, .int .i64 i)], [.row 2 0 0 [.agg [.sl (al.map encTy), .sl (sa.map encTy)]], .row 2 0 0 [.agg [.sl (bl.map encTy), .sl (sb.map encTy)]]]⟩) (fun i => i ≤ sa.length ∧ ∀ (j : Nat) (h : j < sa.length) (h2 : j < sb.length), j < i → sa[j].kind = 2 → sb[j].kind = 2) (fun i => sa.length - i) 0 (by simp) (weak_frL rfl rfl (by simp)) ?_
    intro i ⟨hi, hn⟩
    simp
    refine br_dec (fun h5 => ?_) (fun h5 => ?_)
    · have h6 : i < sb.length := by omega
      have hx : sa[i]? = some sa[i] := by simp [h5]
      have hy : sb[i]? = some sb[i] := by simp [h6]
      have hw := wrap_i64 (show (-9223372036854775808 : Int) ≤ (i : Int) + 1 by omega) (by omega)
      have next : (sa[i].kind = 2 → sb[i].kind = 2) → i + 1 ≤ sa.length ∧ ∀ (j : Nat) (h : j < sa.length) (h2 : j < sb.length), j < i + 1 → sa[j].kind = 2 → sb[j].kind = 2 := fun hq => ⟨h5, fun j hj hj2 hlt => by
        rcases Nat.lt_or_ge j i with h8 | h8
        · exact hn j hj hj2 h8
        · have : j = i := by omega
          subst this
          exact hq⟩
      by_cases h7 : sa[i].kind = 2
      · by_cases h8 : sb[i].kind = 2
        · simp [hx, hy, h7, h8, hw]
          exact nextQ_of (i + 1) (next fun _ => h8) (by omega) (weak_frL rfl rfl (by simp))
        · have hT : longT ⟨al, sa⟩ ⟨bl, sb⟩ = true := by
            have : longsLe sa sb = false := by
              cases hq : longsLe sa sb with
              | false => rfl
              | true => exact absurd (longsLe_get hq i h5 h6 h7) h8
            simp [longT, this]
          simp [hx, hy, h7, h8, hT]
          exact finS_fz (by simp)
      · simp [hx, h7, hw]
        exact nextQ_of (i + 1) (next fun h => absurd h h7) (by omega) (weak_frL rfl rfl (by simp))
    · have hB : longsLe sa sb = true := longsLe_of fun j hj hj2 => hn j hj hj2 (by omega)
      have hT : longT ⟨al, sa⟩ ⟨bl, sb⟩ = false := by simp [longT, hA, hB]
      simp [hT]
      exact finS_fz (by simp)
end Go.Proofs.YthchohjhcjkgjaaGreatDoor.Lift
namespace Go.Proofs.YthchohjhcjkgjaaGreatDoor.Lift
open Go
set_option maxRecDepth 100000

theorem frameMay_eq {l : List AClass} (hl : l.length < 1099511627776) {n m : Nat} {a b : AFrame} (ha : FrOk n a) (hb : FrOk m b) (hn : n < 1099511627776) : gFrameMay l a b = some (mayAll l a.locals b.locals && mayAll l a.stack b.stack) := by
  have e : ∀ x : ATy, NameOk x → x.name.length < 1099511600000 := fun x h => by unfold NameOk at h; omega
  unfold gFrameMay gMayAll
  rw [if_pos ⟨ha.loc, hl, fun x hx => e x (ha.nloc x hx), fun x hx => e x (hb.nloc x hx)⟩, if_pos ⟨by have := ha.stk; omega, hl, fun x hx => e x (ha.nstk x hx), fun x hx => e x (hb.nstk x hx)⟩]
  rfl
def gWeaker (p : APlace) (_ : AInstr) (a b : AFrame) : Option Bool :=
  if p.classes.length < 1099511627776 ∧ p.pool.length < 1099511627776 ∧ p.back.name.length ≤ 1099511500000 ∧ (∀ x ∈ a.locals, x.name.length ≤ 1099511500000) ∧ (∀ x ∈ a.stack, x.name.length ≤ 1099511500000) ∧ (∀ x ∈ b.locals, x.name.length ≤ 1099511500000) ∧ (∀ x ∈ b.stack, x.name.length ≤ 1099511500000) then some true else none
theorem ok_weaker : OkX Tryz.prog (XE [(8, liftS 9 (fn0 encBool (some true))), (10, liftS 9 (fn1 cFrame encBool fun f => some (decide (f.locals.length ≤ 100) && decide (f.stack.length ≤ 100)))),
    (9, liftS 9 (fn1 (cL cPair) (cL cClass).enc fun l => if l.length < 1099511627776 then some (classes30 l) else none)), (14, liftS 9 (fn6 (cL cClass) cClass cTy cInstr cFrame cInt encFE gStep)),
    (13, liftS 9 (fn3 (cL cClass) cFrame cFrame encBool gFrameMay)), (15, liftS 9 (fn2 cFrame cFrame encBool gLong)),
    (12, liftS 9 (fn1 (cL cTy) encBool fun l => if l.length < 1099511627776 ∧ ∀ x ∈ l, x.name.length < 1099511600000 then some (thereT l) else none)),
    (11, liftS 9 (fn1 (cL cClass) encBool fun l => if l.length < 1099511627776 then some (rightM l) else none))]) :=
  (((((((okX_nil.addP p_right11).addP p_there).addP p_long).addP p_shapeMay).addP p_Step).addP p_classes11).addP p_light).addP p_works11
set_option maxHeartbeats 8000000 in
theorem p_ShapeWeaker : SoundP Tryz.prog gl 3 (fn4 cPlace cInstr cFrame cFrame encBool gWeaker) := by
  refine soundP_of_wk ok_weaker mixed Tryz.func3 rfl rfl fun args r h G0 => ?_
  obtain ⟨p, i, a, b, e, rfl, he, rfl⟩ := fn4_inv h
  clear h
  unfold gWeaker at he
  simp only [Option.ite_none_right_eq_some, Option.some.injEq] at he
  obtain ⟨⟨h1, h2, h3, h4, h5, h6, h7⟩, rfl⟩ := he
  have hcl : (classes30 p.classes).length < 1099511627776 := by unfold classes30; simp; omega
  have n4 : ∀ x ∈ a.locals, x.name.length < 1099511600000 := fun x hx => by have := h4 x hx; omega
  have n5 : ∀ x ∈ a.stack, x.name.length < 1099511600000 := fun x hx => by have := h5 x hx; omega
  have n6 : ∀ x ∈ b.locals, x.name.length < 1099511600000 := fun x hx => by have := h6 x hx; omega
  have n7 : ∀ x ∈ b.stack, x.name.length < 1099511600000 := fun x hx => by have := h7 x hx; omega
  have t4 := eq_true n4
  have t5 := eq_true n5
  have t6 := eq_true n6
  have t7 := eq_true n7
  obtain ⟨pcl, ppool, ⟨bk, bn⟩, pm⟩ := p
  obtain ⟨iat, iop, ia, ib, ics⟩ := i
  simp only at *
  simp [Tryz.f3, entry]
  refine dk_ofA [(10, 4)] [5] [(1, .ptr 0 0 0 0), (2, .tup [.fn (.func 9) [] [], .sl (pcl.map encPair)]), (4, .ptr 0 0 0 1), (5, .tup [.sl (ppool.map encEntry)]), (6, .tup [])] (by decide) ?_
  simp [List.lookup, h1]
  refine sdA_loc rfl rfl rfl ?_ ?_
  · simp (decide := true) [steadyKL, farP, locKey, frOf, List.lookup, blind, h1]
  simp [List.lookup]
  refine sdA_of (by decide) ?_
  by_cases c1 : (decide (a.locals.length ≤ 100) && decide (a.stack.length ≤ 100)) = true
  rotate_left
  · replace c1 : (decide (a.locals.length ≤ 100) && decide (a.stack.length ≤ 100)) = false := by simpa using c1
    simp [c1]
    exact finS_fz (by simp)
  by_cases c2 : (decide (b.locals.length ≤ 100) && decide (b.stack.length ≤ 100)) = true
  rotate_left
  · replace c2 : (decide (b.locals.length ≤ 100) && decide (b.stack.length ≤ 100)) = false := by simpa using c2
    simp [c1, c2]
    exact finS_fz (by simp)
  have c1' := c1
  have c2' := c2
  simp only [Bool.and_eq_true, decide_eq_true_eq] at c1' c2'
  have h8 : a.locals.length < 1099511627776 := by omega
  have h9 : a.stack.length < 1099511627776 := by omega
  have h10 : b.locals.length < 1099511627776 := by omega
  have h11 : b.stack.length < 1099511627776 := by omega
  have okA : FrOk 100 a := ⟨h8, c1'.2, h4, h5⟩
  have okB : FrOk 100 b := ⟨h10, c2'.2, h6, h7⟩
  have hm := frameMay_eq hcl okA okB (by omega)
  by_cases c3 : rightM (classes30 pcl) = true
  rotate_left
  · replace c3 : rightM (classes30 pcl) = false := by simpa using c3
    simp [c1, c2, hcl, c3]
    exact finS_fz (by simp)
  by_cases c4 : thereT a.locals = true
  rotate_left
  · replace c4 : thereT a.locals = false := by simpa using c4
    simp [c1, c2, hcl, c3, h8, t4, c4]
    exact finS_fz (by simp)
  by_cases c5 : thereT a.stack = true
  rotate_left
  · replace c5 : thereT a.stack = false := by simpa using c5
    simp [c1, c2, hcl, c3, h8, t4, c4, h9, t5, c5]
    exact finS_fz (by simp)
  by_cases c6 : thereT b.locals = true
  rotate_left
  · replace c6 : thereT b.locals = false := by simpa using c6
    simp [c1, c2, hcl, c3, h8, t4, c4, h9, t5, c5, h10, t6, c6]
    exact finS_fz (by simp)
  by_cases c7 : thereT b.stack = true
  rotate_left
  · replace c7 : thereT b.stack = false := by simpa using c7
    simp [c1, c2, hcl, c3, h8, t4, c4, h9, t5, c5, h10, t6, c6, h11, t7, c7]
    exact finS_fz (by simp)
  by_cases c8 : (mayAll (classes30 pcl) a.locals b.locals && mayAll (classes30 pcl) a.stack b.stack) = true
  rotate_left
  · replace c8 : (mayAll (classes30 pcl) a.locals b.locals && mayAll (classes30 pcl) a.stack b.stack) = false := by simpa using c8
    simp [c1, c2, hcl, c3, h8, t4, c4, h9, t5, c5, h10, t6, c6, h11, t7, c7, hm, c8]
    exact finS_fz (by simp)
  have hO := right_obj c3
  have hE := right_ends c3
  obtain ⟨x, e, hst, hx⟩ := stepO_ok (n := 100) (cl := classes30 pcl) (p := ppool) (back := ⟨bk, bn⟩) (i := ⟨iat, iop, ia, ib, ics⟩) (f := a) (most := 1000) hcl h3 okA (by omega)
  obtain ⟨y, f, hst2, hy⟩ := stepO_ok (n := 100) (cl := classes30 pcl) (p := ppool) (back := ⟨bk, bn⟩) (i := ⟨iat, iop, ia, ib, ics⟩) (f := b) (most := 1000) hcl h3 okB (by omega)
  have hga : gStep (classes30 pcl) ⟨ppool, [], [], [], []⟩ ⟨bk, bn⟩ ⟨iat, iop, ia, ib, ics⟩ a 1000 = some (x, e) := by
    unfold gStep
    rw [if_pos ⟨h2, h8, h9⟩]
    exact hst
  have hgb : gStep (classes30 pcl) ⟨ppool, [], [], [], []⟩ ⟨bk, bn⟩ ⟨iat, iop, ia, ib, ics⟩ b 1000 = some (y, f) := by
    unfold gStep
    rw [if_pos ⟨h2, h10, h11⟩]
    exact hst2
  have hm2 := frameMay_eq hcl hx hy (by omega)
  have c8' := c8
  simp only [Bool.and_eq_true] at c8'
  have hl : gLong a b = some (longT a b) := if_pos ⟨mayAll_length c8'.1, mayAll_length c8'.2, h8, h9⟩
  by_cases f0 : f = 0
  rotate_left
  · simp [c1, c2, hcl, c3, h8, t4, c4, h9, t5, c5, h10, t6, c6, h11, t7, c7, hm, c8, hga, hgb, f0]
    exact finS_fz (by simp)
  by_cases hT : longT a b = true
  · simp [c1, c2, hcl, c3, h8, t4, c4, h9, t5, c5, h10, t6, c6, h11, t7, c7, hm, c8, hga, hgb, f0, hl, hT]
    exact finS_fz (by simp)
  · replace hT : longT a b = false := by simpa using hT
    have hT2 := hT
    simp only [longT, Bool.not_eq_false', Bool.and_eq_true] at hT2
    obtain ⟨e0, l1, l2⟩ := step_weaker hO hE (leL_of c8'.1 hT2.1) (leL_of c8'.2 hT2.2) hst hst2 f0
    rw [leL_may l1, leL_may l2] at hm2
    subst e0
    simp [c1, c2, hcl, c3, h8, t4, c4, h9, t5, c5, h10, t6, c6, h11, t7, c7, hm, c8, hga, hgb, f0, hl, hT, hm2]
    exact finS_fz (by simp)
end Go.Proofs.YthchohjhcjkgjaaGreatDoor.Lift
namespace Go.Proofs.YthchohjhcjkgjaaGreatDoor.Lift
open Go

/-- the types of the table: what they are made of is in the table; no slice's elements are of no size -/
def kidsOk (P : Program) (n : Nat) : TypeDesc → Bool
  | .pointer e => decide (e < n)
  | .slice e => decide (e < n) && decide (0 < P.cellsOf e)
  | .array _ e => decide (e < n)
  | .map _ e => decide (e < n)
  | .struct fs => fs.toList.all fun f => decide (f.type < n)
  | _ => true
def NoNull (P : Program) : Prop := (List.range P.types.size).all (fun t => match P.underlying t with | some d => kidsOk P P.types.size d | none => true) = true
theorem NoNull.kids {P : Program} (h : NoNull P) {t : TypeId} (ht : t < P.types.size) {d : TypeDesc} (hd : P.underlying t = some d) : kidsOk P P.types.size d = true := by
  have := List.all_eq_true.1 h t (List.mem_range.2 ht)
  simpa only [hd] using this

section
variable {H : Type} {enc : TypeId × Value → H} {P : Program} {w : World} {base : Nat} {sp : Nat → Bool}

theorem trodStep_spare (hn : NoNull P) {r r' : TypeId → List Value → Option (DataW H × List MemPlace)}
    (hr : ∀ t cs x, t < P.types.size → r t cs = some x → (∀ p ∈ x.2, sp p.block = true) → r' t cs = some x) {t : TypeId} (htn : t < P.types.size) {cs : List Value} {x : DataW H × List MemPlace}
    (h : DataW.trodStep enc P w base (fun _ => true) true r t cs = some x) (hs : ∀ p ∈ x.2, sp p.block = true) : DataW.trodStep enc P w base sp true r' t cs = some x := by
  unfold DataW.trodStep at h ⊢
  split at h
  case h_1 => exact h
  case h_2 => exact h
  case h_3 => exact h
  case h_4 => exact h
  case h_5 => exact h
  case h_6 e a hu =>
    have hk := hn.kids htn hu
    simp only [kidsOk, decide_eq_true_eq] at hk
    simp only [Option.map_eq_some_iff, Option.bind_eq_some_iff] at h ⊢
    obtain ⟨y, ⟨cs', hc, hy⟩, rfl⟩ := h
    exact ⟨y, ⟨cs', hc, hr _ _ _ hk hy (fun p hp => hs p (by simp [hp]))⟩, rfl⟩
  case h_7 => exact h
  case h_8 e a len cap hu =>
    have hk := hn.kids htn hu
    simp only [kidsOk, Bool.and_eq_true, decide_eq_true_eq] at hk
    simp only at h ⊢
    split at h
    · rename_i hc
      rw [if_pos hc]
      simp only [if_true, Option.map_eq_some_iff, Option.bind_eq_some_iff] at h ⊢
      obtain ⟨elems, he, rest, hrest, rfl⟩ := h
      have hel := mapM_some_length he
      have hrl := mapM_some_length hrest
      simp only [List.length_range] at hel hrl
      have conv : ∀ {l : List Nat} {z : List (DataW H × List MemPlace)} {f : Nat → Nat}, (l.mapM fun i => (w.cells? base (a.add (f i * P.cellsOf e)) (P.cellsOf e)).bind (r e)) = some z → (∀ y ∈ z, ∀ p ∈ y.2, sp p.block = true) →
          (l.mapM fun i => (w.cells? base (a.add (f i * P.cellsOf e)) (P.cellsOf e)).bind (r' e)) = some z := fun hz hsz => mapM_carry hz fun i y _ hy hiy => by
        simp only [Option.bind_eq_some_iff] at hiy ⊢
        obtain ⟨cs', h1, h2⟩ := hiy
        exact ⟨cs', h1, hr _ _ _ hk.1 h2 (hsz y hy)⟩
      have h1 : ∀ y ∈ elems, ∀ p ∈ y.2, sp p.block = true := fun y hy p hp => hs p (by
        simp only [List.mem_append, List.mem_flatMap]
        exact .inr ⟨y, .inl hy, hp⟩)
      have h2 : ∀ y ∈ rest, ∀ p ∈ y.2, sp p.block = true := fun y hy p hp => hs p (by
        simp only [List.mem_append, List.mem_flatMap]
        exact .inr ⟨y, .inr hy, hp⟩)
      refine ⟨elems, conv (f := id) he h1, rest, ?_, rfl⟩
      cases hsp : sp a.block with
      | true => exact conv (f := fun j => len + j) hrest h2
      | false =>
        -- then there is no place at all: nothing is spared
        have : cap = 0 := by
          apply Classical.byContradiction
          intro hcap
          have hpos := hk.2
          have hmem : MemPlace.cell a.block a.off ∈ MemPlace.row a ((elems.length + rest.length) * P.cellsOf e) := MemPlace.mem_row.2 ⟨0, by
            rw [hel, hrl]
            have : len + (cap - len) = cap := by omega
            rw [this]
            exact Nat.mul_pos (by omega) hpos, by simp⟩
          have := hs (MemPlace.cell a.block a.off) (by simp only [List.mem_append]; exact .inl hmem)
          simp only [MemPlace.block] at this
          rw [hsp] at this
          cases this
        have hlen : cap - len = 0 := by omega
        rw [hlen] at hrest
        simp at hrest
        simp [hrest]
    · cases h
  case h_9 fs cs' hu =>
    have hk := hn.kids htn hu
    simp only [kidsOk, List.all_eq_true, decide_eq_true_eq] at hk
    split at h
    · rename_i hc
      rw [if_pos hc]
      simp only [Option.map_eq_some_iff] at h ⊢
      obtain ⟨xs, hx, rfl⟩ := h
      exact ⟨xs, mapM_carry hx (fun f y hf hy hv => hr _ _ _ (hk f hf) hv (fun p hp => hs p (List.mem_flatMap.2 ⟨y, hy, hp⟩))), rfl⟩
    · cases h
  case h_10 m e cs' hu =>
    have hk := hn.kids htn hu
    simp only [kidsOk, decide_eq_true_eq] at hk
    split at h
    · rename_i hc
      rw [if_pos hc]
      simp only [Option.map_eq_some_iff] at h ⊢
      obtain ⟨xs, hx, rfl⟩ := h
      exact ⟨xs, mapM_carry hx (fun f y _ hy hv => hr _ _ _ hk hv (fun p hp => hs p (List.mem_flatMap.2 ⟨y, hy, hp⟩))), rfl⟩
    · cases h
  case h_11 => exact h
  case h_12 => exact h
  case h_13 => exact h
  case h_14 k e b hu =>
    have hk' := hn.kids htn hu
    simp only [kidsOk, decide_eq_true_eq] at hk'
    split at h
    · rename_i es clock hb
      split at h
      · rename_i hc
        simp only [Option.bind_eq_some_iff] at h
        obtain ⟨entries, he, hd⟩ := h
        split at hd
        · rename_i hris
          have hx := Option.some.inj hd
          subst hx
          simp only [if_pos hc, Option.bind_eq_some_iff]
          refine ⟨entries, mapM_carry he (fun x y _ hy hv => ?_), by simp [hris]⟩
          simp only [Option.bind_eq_some_iff] at hv ⊢
          obtain ⟨key, hk, hz⟩ := hv
          refine ⟨key, hk, ?_⟩
          split at hz
          · rename_i hf
            rw [if_pos hf]
            simp only [Option.map_eq_some_iff] at hz ⊢
            obtain ⟨q, hq, rfl⟩ := hz
            exact ⟨q, hr _ _ _ hk' hq (fun p hp => hs p (by simp only [List.mem_cons, List.mem_flatMap]; right; exact ⟨_, hy, hp⟩)), rfl⟩
          · cases hz
        · cases hd
      · cases h
    · cases h
  case h_15 => exact h
  case h_16 => exact h
  case h_17 => exact h
  case h_18 => exact h
  case h_19 => exact h
  case h_20 => exact h
  case h_21 => cases h

theorem trod_spare (hn : NoNull P) : ∀ (n : Nat) (t : TypeId) (cs : List Value) (x : DataW H × List MemPlace), t < P.types.size →
    DataW.trod enc P w base (fun _ => true) true n t cs = some x → (∀ p ∈ x.2, sp p.block = true) → DataW.trod enc P w base sp true n t cs = some x := by
  intro n
  induction n with
  | zero => intro t cs x _ h; simp [DataW.trod] at h
  | succ n ih =>
    intro t cs x htn h hs
    rw [DataW.trod_step] at h ⊢
    exact trodStep_spare hn ih htn h hs

/-- the arguments read behind the call as they read before -/
theorem trodAll_behind {w' : World} (hn : NoNull P) : ∀ {ts : List TypeId} {vs : List Value} {ds : List (DataW H)} {ps : List MemPlace}, (∀ t ∈ ts, t < P.types.size) → DataW.TrodAll enc P w 0 (fun _ => true) true ts vs ds ps →
    (∀ p ∈ ps, w.sameAt w' p) → (∀ p ∈ ps, sp p.block = true) → DataW.TrodAll enc P w' 0 sp true ts vs ds ps
  | [], [], [], _, _, h, _, _ => h
  | _ :: _, _ :: _, _ :: _, _, ht, ⟨p, q, ⟨n, h1⟩, h2, e⟩, h3, h4 => by
    subst e
    refine ⟨p, q, ⟨n, trod_spare hn n _ _ _ (ht _ (by simp)) (DataW.trod_carry n _ _ _ h1 fun x hx => h3 x (by simp [hx])) fun x hx => h4 x (by simp [hx])⟩, trodAll_behind hn (fun t htm => ht t (by simp [htm])) h2 (fun x hx => h3 x (by simp [hx])) (fun x hx => h4 x (by simp [hx])), rfl⟩
end

theorem below_of_ext {G G' : Gh} (hσ : G.σ = []) (hz : ∀ blk, ¬ G.z blk) (x : Ext G G') : RowKit.Below G.w.heap.size G.w G'.w := ⟨x.os, x.tape, x.output, x.size, fun k hk => x.old k hk (owned_nil hσ k) (fun h => absurd h (hz k))⟩

/-- where a statement's walk begins: all that there is is frozen -/
def startG (W : World) : Gh := { w := W, φ := fun b _ => b < W.heap.size, ρ := fun _ _ => none, σ := [] }
theorem inv_start (W : World) : Inv (startG W) := inv_nil rfl (fun _ _ h => h)

open Go.ChangeShapes Go.WideShapes in
/-- A LAW THAT RETURNS true AND LEAVES ITS ARGUMENTS AS THEY WERE, from a pure contract -/
theorem post_true {H : Type} {enc : TypeId × Value → H} {P : Program} (hn : NoNull P) {f : Nat} {fn : Func} {g : List AV → Option AV} (hp : SoundP P (fun _ => none) f g) (hfn : P.funcs[f]? = some fn) (hbody : fn.body.isNone = false) (hname : (fn.name == "runtime.NumGoroutine") = false) {tb : TypeId} (htb : P.underlying tb = some .bool)
    (hres : fn.resultTypes = #[tb]) {s : ChangeSpec} (hvars : s.vars = []) (hpt : ∀ t ∈ fn.params.toList, t < P.types.size) {apart fresh handsOn again : Bool} {W : World} {args : Array Value} {ds gs : List (DataW H)} {before : List MemPlace}
    (hW : DataW.Whole enc P fn.params.toList s.vars apart W args.toList ds gs before) (hs : s.fn H (ds ++ gs) = { results := [.lit (.bool true)], args := ds })
    {aargs : List AV} (hrep : RepL (startG W) aargs args.toList) (hg : g aargs = some (.bool true)) :
    Calls P f args W fun e W' => ∃ v, e = .returned v ∧ s.post enc P fn apart fresh handsOn again W args v W' := by
  have hc := hp.calls (startG W) aargs args.toList (.bool true) hg (inv_start W) rfl rfl (fun _ _ h => by cases h) hrep
  rw [Array.toArray_toList] at hc
  have hcalls : Calls P f args W (Ret (startG W) (.bool true) []) := by
    rcases hc with ⟨_, h⟩ | ⟨v, w', h, _⟩
    · exact h
    · rw [run_callFunc hfn hbody hname] at h
      cases h
  refine calls_imp hcalls fun e W' he => ?_
  cases e with
  | panicked c => exact he.elim
  | outgrown => exact he.elim
  | returned v =>
    obtain ⟨G', rfl, hσ, x, inv', hr⟩ := he
    cases hr
    have hb : RowKit.Below W.heap.size W G'.w := below_of_ext (G := startG W) rfl (fun _ h => h) x
    have hW' := hW
    obtain ⟨p, q, h1, h2, rfl, hz, hnd⟩ := hW
    rw [hvars] at h2
    obtain ⟨rfl, rfl⟩ := trodVars_none h2
    have hargs : ∀ sp : Nat → Bool, (∀ y ∈ p ++ [], sp y.block = true) → DataW.TrodAll enc P G'.w 0 sp true fn.params.toList args.toList (s.fn H (ds ++ [])).args p := fun sp hsp => by
      rw [hs]
      exact trodAll_behind hn hpt h1 (fun y hy => hb.same (hW'.lt y (by simpa using hy))) (fun y hy => hsp y (by simpa using hy))
    have hresd : ∀ (b : Nat) (sp : Nat → Bool) (hd : Bool), DataW.TrodAll enc P G'.w b sp hd fn.resultTypes.toList ((Value.bool true).resultList fn.resultTypes.size) (s.fn H (ds ++ [])).results [] := fun b sp hd => by
      rw [hs, hres]
      exact trodAll_cons_mk (RowKit.shut_bool htb true) trodAll_mk0
    have hold : ∀ y ∈ p ++ [], (fun b => decide (b < W.heap.size)) y.block = true := fun y hy => by simpa using hW'.lt y hy
    have hvd : ∀ sp : Nat → Bool, DataW.TrodVars enc P G'.w sp s.vars (s.fn H (ds ++ [])).vars [] := fun sp => by
      rw [hs, hvars]
      exact rfl
    refine ⟨_, rfl, ds, [], p ++ [], [], p, [], hW', hresd _ _ _, hargs _ hold, hvd _, hb.frame _, fun _ => ⟨?_, _, _, ([] ++ p) ++ [], ⟨[] ++ p, [], trodAll_append (hargs _ (fun _ _ => rfl)) (hresd _ _ _), hvd _, rfl, ?_, ?_⟩, ?_⟩⟩
    · intro j t r h3 h4
      rw [hres] at h3 h4
      cases j with
      | zero =>
        simp only [List.getElem?_toArray, List.getElem?_cons_zero, Option.some.injEq] at h3
        subst h3
        simp [Value.resultList] at h4
        subst h4
        exact RowKit.okWide_bool_mk htb true
      | succ j => simp at h3
    · intro b off hp'
      have hlt := hW'.lt _ (show MemPlace.cell b off ∈ p ++ [] by simpa using hp')
      rw [hb.frozen (p := ⟨b, off, none⟩) hlt]
      exact hz b off (by simpa using hp')
    · intro ha
      simpa using hnd ha
    · intro y hy _
      simpa using hy
end Go.Proofs.YthchohjhcjkgjaaGreatDoor.Lift
namespace Go.Proofs.YthchohjhcjkgjaaGreatDoor.Lift
open Go

/-- what is read of a type lies there as a typed value (z: how much it is) -/
structure Reads (P : Program) (t : TypeId) {α : Type} (c : Cod α) (z : α → Nat) : Prop where
  read : ∀ {H : Type} {enc : TypeId × Value → H} {W : World} {base : Nat} {sp : Nat → Bool} {n : Nat} {cs : List Value} {x : DataW H × List MemPlace}, DataW.trod enc P W base sp true n t cs = some x → ∃ a : α, RepL (startG W) (c.enc a).cells cs ∧ z a ≤ Rows.uptoBulk x.1
  top : ∀ {W W' : World} {r : Reach} {b : Nat} {a : α} {v : Value}, Value.okWide P W' r b t v → RepL (startG W) (c.enc a).cells v.cells.toList → Rep (startG W) (c.enc a) v
  size : ∀ a, (c.enc a).cells.length = P.cellsOf t

theorem repL_length {G : Gh} : ∀ {xs : List AV} {vs : List Value}, RepL G xs vs → xs.length = vs.length
  | _, _, .nil => rfl
  | _, _, .cons _ t => by simp [repL_length t]
theorem repL_append {G : Gh} : ∀ {xs ys : List AV} {vs ws : List Value}, RepL G xs vs → RepL G ys ws → RepL G (xs ++ ys) (vs ++ ws)
  | _, _, _, _, .nil, h => h
  | _, _, _, _, .cons h t, h' => .cons h (repL_append t h')

theorem reads_int {P : Program} {t : TypeId} (ht : P.underlying t = some (.int .i64)) (hc : P.cellsOf t = 1) : Reads P t cInt (fun _ => 1) where
  read := fun h => by
    obtain ⟨n, rfl, rfl, _⟩ := DataW.trod_int ht h
    exact ⟨n, .cons (.int _ _) .nil, by simp [Rows.uptoBulk]⟩
  top := fun hv h => by
    obtain ⟨n, rfl⟩ := WideShapes.okWide_int ht hv
    cases h with
    | cons h _ => exact h
  size := fun a => by rw [hc]; rfl
theorem reads_bool {P : Program} {t : TypeId} (ht : P.underlying t = some .bool) (hc : P.cellsOf t = 1) : Reads P t cBool (fun _ => 1) where
  read := fun h => by
    obtain ⟨n, rfl, rfl⟩ := DataW.trod_bool ht h
    exact ⟨n, .cons (.bool _) .nil, by simp [Rows.uptoBulk]⟩
  top := fun hv h => by
    obtain ⟨n, rfl⟩ := WideShapes.okWide_bool ht hv
    cases h with
    | cons h _ => exact h
  size := fun a => by rw [hc]; rfl
theorem reads_str {P : Program} {t : TypeId} (ht : P.underlying t = some .string) (hc : P.cellsOf t = 1) : Reads P t cStr (fun s => s.length + 1) where
  read := fun h => by
    obtain ⟨s, rfl, rfl, _⟩ := DataW.trod_string ht h
    exact ⟨s.data.toList, .cons (.str s) .nil, by simp [Rows.uptoBulk]⟩
  top := fun hv h => by
    obtain ⟨n, rfl⟩ := WideShapes.okWide_string ht hv
    cases h with
    | cons h _ => exact h
  size := fun a => by rw [hc]; rfl
theorem reads_byte {P : Program} {t : TypeId} (ht : P.underlying t = some (.int .u8)) (hc : P.cellsOf t = 1) : Reads P t cByte (fun _ => 1) where
  read := fun h => by
    obtain ⟨n, rfl, rfl, hw⟩ := DataW.trod_int ht h
    have hw' : 0 ≤ n ∧ n < 256 := by
      simp [Lit.wf, IntKind.has, IntKind.min, IntKind.max, IntKind.bits, IntKind.signed] at hw
      omega
    refine ⟨UInt8.ofNat n.toNat, ?_, by simp [Rows.uptoBulk]⟩
    have : (cByte.enc (UInt8.ofNat n.toNat)) = .int .u8 n := by
      show AV.int .u8 _ = _
      congr 1
      rw [UInt8.toNat_ofNat_of_lt' (by show n.toNat < 256; omega)]
      omega
    rw [this]
    exact .cons (.int _ _) .nil
  top := fun hv h => by
    obtain ⟨n, rfl⟩ := WideShapes.okWide_int ht hv
    cases h with
    | cons h _ => exact h
  size := fun a => by rw [hc]; rfl

/-- what a list is -/
def zL {α : Type} (z : α → Nat) (l : List α) : Nat := (l.map z).sum + 1

theorem repCells_start {W : World} : ∀ {xs : List AV} {cs : List Value} {b o : Nat}, RepL (startG W) xs cs → (∀ (i : Nat) v, cs[i]? = some v → W.cell? ⟨b, o + i, none⟩ = some v) → RepCells (startG W) xs b o
  | _, _, b, o, .nil, _ => .nil b o
  | _, _, b, o, .cons h t, hc => by
    have h0 := hc 0 _ rfl
    refine .cons ?_ h0 h (repCells_start t fun i v hv => by have := hc (i + 1) v (by simpa using hv); rwa [show o + (i + 1) = o + 1 + i by omega] at this)
    show b < W.heap.size
    apply Classical.byContradiction
    intro hb
    have : W.heap[b]? = none := by simp; omega
    simp [World.cell?, this] at h0

theorem cells_start {P : Program} {W : World} {base : Nat} {a : Addr} {n : Nat} {cs : List Value} {xs : List AV} (hn : 0 < n) (h : W.cells? base a n = some cs) (hr : RepL (startG W) xs cs) : a.spot = none ∧ RepCells (startG W) xs a.block a.off := by
  unfold World.cells? at h
  split at h
  · have hg : ∀ i, i < n → W.cell? (a.add i) = cs[i]? := fun i hi => by
      have := mapM_some_get h i i (by simp [hi])
      exact this
    have hl : cs.length = n := by have := mapM_some_length h; simpa using this
    have h0 : a.spot = none := by
      have := hg 0 hn
      rw [show a.add 0 = a from rfl] at this
      have h1 : cs[0]? = some cs[0] := by simp
      rw [h1] at this
      unfold World.cell? at this
      split at this
      · split at this
        · cases this
        · rename_i hs; simpa using hs
      · cases this
    refine ⟨h0, repCells_start hr fun i v hv => ?_⟩
    have hi : i < n := by rw [← hl]; exact (List.getElem?_eq_some_iff.1 hv).1
    have := hg i hi
    rw [hv] at this
    have e : a.add i = ⟨a.block, a.off + i, none⟩ := by
      unfold Addr.add
      split
      · rename_i hz; subst hz; cases a; simp_all
      · rfl
    rwa [e] at this
  · cases h

theorem reads_slice {P : Program} {t e : TypeId} {α : Type} {c : Cod α} {z : α → Nat} (ht : P.underlying t = some (.slice e)) (he : Reads P e c z) (hc : P.cellsOf t = 1) (hpos0 : decide (0 < P.cellsOf e) = true) : Reads P t (cL c) (zL z) where
  read := fun {H} {enc} {W} {base} {sp} {n} {cs} {x} h => by
    have hpos := of_decide_eq_true hpos0
    rcases DataW.trod_slice ht h with ⟨rfl, rfl⟩ | ⟨a, len, cap, elems, rest, m, _, rfl, rfl, _, hlc, _, hl, hel, _, _⟩
    · exact ⟨[], .cons (.sl0 none 0 (fun _ => rfl)) .nil, by simp [Rows.uptoBulk, zL]⟩
    · have key : ∀ k, k ≤ len → ∃ l : List α, l.length = k ∧ (0 < k → a.spot = none ∨ k < len) ∧ RepElems (startG W) (l.map c.enc) a.block (a.off + (len - k) * P.cellsOf e) (P.cellsOf e) ∧ (l.map z).sum ≤ Rows.uptoBulkAll ((elems.drop (len - k)).map (·.1)) := by
        intro k
        induction k with
        | zero => exact fun _ => ⟨[], rfl, fun h => absurd h (by omega), .nil _ _ _, by simp⟩
        | succ k ih =>
          intro hk
          obtain ⟨l, h1, h2, h3, h4⟩ := ih (by omega)
          have hi : len - (k + 1) < len := by omega
          have hlt : len - (k + 1) < elems.length := by omega
          have hget := hel (len - (k + 1)) hi
          rw [List.getElem?_eq_getElem hlt] at hget
          simp only [Option.bind_eq_some_iff] at hget
          obtain ⟨cs', hcs, htr⟩ := hget
          obtain ⟨y, hy, hz⟩ := he.read htr
          obtain ⟨hs, hcells⟩ := cells_start (P := P) hpos hcs hy
          have hsz := he.size y
          have e1 : (a.add ((len - (k + 1)) * P.cellsOf e)).block = a.block := by unfold Addr.add; split <;> rfl
          have e2 : (a.add ((len - (k + 1)) * P.cellsOf e)).off = a.off + (len - (k + 1)) * P.cellsOf e := by
            unfold Addr.add
            split
            · rename_i hz; rw [hz]; rfl
            · rfl
          rw [e1, e2] at hcells
          have e3 : a.off + (len - (k + 1)) * P.cellsOf e + P.cellsOf e = a.off + (len - k) * P.cellsOf e := by
            have : len - k = (len - (k + 1)) + 1 := by omega
            rw [this, Nat.add_mul]
            omega
          refine ⟨y :: l, by simp [h1], fun _ => ?_, ?_, ?_⟩
          · by_cases hk' : k + 1 < len
            · exact .inr hk'
            · left
              have : len - (k + 1) = 0 := by omega
              rw [this, Nat.zero_mul] at hs
              exact hs
          · rw [List.map_cons]
            refine .cons hsz hcells ?_
            rw [e3]
            exact h3
          · rw [List.drop_eq_getElem_cons hlt, List.map_cons, List.map_cons, List.sum_cons]
            simp only [Rows.uptoBulkAll]
            have : len - (k + 1) + 1 = len - k := by omega
            rw [this]
            omega
      obtain ⟨l, h1, h2, h3, h4⟩ := key len (Nat.le_refl _)
      rw [Nat.sub_self, Nat.zero_mul, Nat.add_zero] at h3
      rw [Nat.sub_self, List.drop_zero] at h4
      refine ⟨l, .cons ?_ .nil, ?_⟩
      · show Rep (startG W) (.sl (l.map c.enc)) _
        by_cases h0 : len = 0
        · have : l = [] := List.eq_nil_of_length_eq_zero (by omega)
          subst this h0
          exact .sl0 (some a) cap (fun e => by cases e)
        · have hs := (h2 (by omega)).resolve_right (by omega)
          have ea : a = ⟨a.block, a.off, none⟩ := by cases a; simp_all
          have hlen : (l.map c.enc).length = len := by simp [h1]
          rw [ea, ← hlen]
          exact .sl (by omega) h3
      · simp only [Rows.uptoBulk, zL]
        omega
  top := fun hv h => by
    obtain ⟨a, len, cap, rfl⟩ := WideShapes.okWide_slice ht hv
    cases h with
    | cons h _ => exact h
  size := fun a => by rw [hc]; rfl

/-- the fields of a struct, from one on -/
def ReadsF (P : Program) (tot off : Nat) (fs : List Field) {T : Type} (f : T → List AV) (z : T → Nat) : Prop :=
  ∀ {H : Type} {enc : TypeId × Value → H} {W : World} {base : Nat} {sp : Nat → Bool} {n : Nat} {cs : List Value} {xs : List (DataW H × List MemPlace)}, cs.length = tot → xs.length = fs.length →
    (∀ (i : Nat) (g : Field), fs[i]? = some g → DataW.trod enc P W base sp true n g.type ((cs.drop g.offset).take (P.cellsOf g.type)) = xs[i]?) → ∃ a : T, RepL (startG W) (f a) (cs.drop off) ∧ z a ≤ Rows.uptoBulkAll (xs.map (·.1))
theorem readsF_nil {P : Program} {tot : Nat} : ReadsF P tot tot [] (fun _ : Unit => []) (fun _ => 0) := by
  intro H enc W base sp n cs xs h1 _ _
  refine ⟨(), ?_, Nat.zero_le _⟩
  rw [← h1, List.drop_length]
  exact .nil
theorem readsF_cons {P : Program} {tot off off' : Nat} {g : Field} {fs : List Field} {α T : Type} {c : Cod α} {zc : α → Nat} {f : T → List AV} {z : T → Nat} (h : Reads P g.type c zc) (ho : g.offset = off) (ho' : off + P.cellsOf g.type = off') (r : ReadsF P tot off' fs f z) :
    ReadsF P tot off (g :: fs) (fun x : α × T => (c.enc x.1).cells ++ f x.2) (fun x => zc x.1 + z x.2) := by
  intro H enc W base sp n cs xs h1 h2 h3
  cases xs with
  | nil => simp at h2
  | cons y ys =>
    have h0 := h3 0 g rfl
    simp only [List.getElem?_cons_zero] at h0
    obtain ⟨a, ha, hza⟩ := h.read h0
    obtain ⟨b, hb, hzb⟩ := r h1 (by simpa using h2) (fun i g' hg => by have := h3 (i + 1) g' (by simpa using hg); simpa using this)
    refine ⟨(a, b), ?_, ?_⟩
    · have := repL_append ha hb
      rw [ho, ← ho', ← List.drop_drop, List.take_append_drop] at this
      exact this
    · simp only [List.map_cons, Rows.uptoBulkAll]
      omega
theorem reads_struct {P : Program} {t : TypeId} {fs : Array Field} {α T : Type} {c : Cod α} {f : T → List AV} {z : T → Nat} (mk : T → α) (zc : α → Nat) (ht : P.underlying t = some (.struct fs)) (r : ReadsF P (P.cellsOf t) 0 fs.toList f z) (hf : ∀ x, c.enc (mk x) = .agg (f x)) (hz : ∀ x, zc (mk x) = z x + 1)
    (hagg : ∀ a, (c.enc a).isAgg = true) (hs : ∀ a, (c.enc a).cells.length = P.cellsOf t) : Reads P t c zc where
  read := fun {H} {enc} {W} {base} {sp} {n} {cs} {x} h => by
    obtain ⟨xs, m, rfl, rfl, hl, hxl, hfs⟩ := DataW.trod_struct ht h
    obtain ⟨a, ha, hza⟩ := r hl (by simpa using hxl) (fun i g hg => hfs i g (by simpa using hg))
    refine ⟨mk a, ?_, ?_⟩
    · rw [hf]; exact ha
    · rw [hz]; simp only [Rows.uptoBulk]; omega
  top := fun {W} {W'} {r} {b} {a} {v} hv h => by
    obtain ⟨cs, rfl, _⟩ := WideShapes.okWide_struct ht hv
    have := hagg a
    generalize c.enc a = q at *
    cases q with
    | agg xs => exact .agg h
    | _ => simp at this
  size := hs

theorem zL_len {α : Type} {z : α → Nat} (h : ∀ a, 1 ≤ z a) (l : List α) : l.length + 1 ≤ zL z l := by
  unfold zL
  induction l with
  | nil => simp
  | cons a l ih => have := h a; simp at ih ⊢; omega
theorem zL_mem {α : Type} {z : α → Nat} {a : α} : ∀ {l : List α}, a ∈ l → z a + 1 ≤ zL z l
  | b :: l, h => by
    unfold zL
    rcases List.mem_cons.1 h with rfl | h
    · simp
    · have := zL_mem (z := z) h; unfold zL at this; simp; omega
end Go.Proofs.YthchohjhcjkgjaaGreatDoor.Lift
namespace Go.Proofs.YthchohjhcjkgjaaGreatDoor.Lift
open Go
set_option maxRecDepth 100000

theorem rd_int : Reads Tryz.prog 3 cInt (fun _ => 1) := reads_int Tryz.underlying3 (by kernel_rfl)
theorem rd_str : Reads Tryz.prog 9 cStr (fun s => s.length + 1) := reads_str Tryz.underlying9 (by kernel_rfl)
theorem rd_bool : Reads Tryz.prog 4 cBool (fun _ => 1) := reads_bool Tryz.underlying4 (by kernel_rfl)

def zTy (x : ATy) : Nat := 1 + (x.name.length + 1) + 1
theorem rd_Ty : Reads Tryz.prog 25 cTy zTy :=
  reads_struct (fun x : Int × Str × Unit => ⟨x.1, x.2.1⟩) zTy Tryz.underlying25
    (readsF_cons rd_int rfl (off' := 1) (by kernel_rfl) (readsF_cons rd_str rfl (by kernel_rfl) readsF_nil)) (fun _ => rfl) (fun _ => by simp [zTy]) (fun _ => rfl) (fun _ => by show 2 = _; kernel_rfl)
theorem rd_Tys : Reads Tryz.prog 31 (cL cTy) (zL zTy) := reads_slice Tryz.underlying31 rd_Ty (by kernel_rfl) (by kernel_rfl)
theorem zTy_pos (x : ATy) : 1 ≤ zTy x := by unfold zTy; omega
end Go.Proofs.YthchohjhcjkgjaaGreatDoor.Lift
namespace Go.Proofs.YthchohjhcjkgjaaGreatDoor.Lift
open Go
set_option maxRecDepth 100000

def zPair (x : APair) : Nat := (x.name.length + 1) + (x.super.length + 1) + 1
theorem zPair_pos (x : APair) : 1 ≤ zPair x := by unfold zPair; omega
theorem rd_Pair11 : Reads Tryz.prog 92 cPair zPair :=
  reads_struct (fun x : Str × Str × Unit => ⟨x.1, x.2.1⟩) zPair Tryz.underlying92
    (readsF_cons rd_str rfl (off' := 1) (by kernel_rfl) (readsF_cons rd_str rfl (by kernel_rfl) readsF_nil)) (fun _ => rfl) (fun _ => by simp [zPair]) (fun _ => rfl) (fun _ => by show 2 = _; kernel_rfl)
theorem rd_Pairs11 : Reads Tryz.prog 22 (cL cPair) (zL zPair) := reads_slice Tryz.underlying22 rd_Pair11 (by kernel_rfl) (by kernel_rfl)
def zEntry (x : AEntry) : Nat := 1 + ((x.text.length + 1) + (1 + (1 + 1))) + 1
theorem zEntry_pos (x : AEntry) : 1 ≤ zEntry x := by unfold zEntry; omega
theorem rd_Entry : Reads Tryz.prog 128 cEntry zEntry :=
  reads_struct (fun x : Int × Str × Int × Int × Int × Unit => ⟨x.1, x.2.1, x.2.2.1, x.2.2.2.1, x.2.2.2.2.1⟩) zEntry Tryz.underlying128
    (readsF_cons rd_int rfl (off' := 1) (by kernel_rfl) (readsF_cons rd_str rfl (off' := 2) (by kernel_rfl) (readsF_cons rd_int rfl (off' := 3) (by kernel_rfl) (readsF_cons rd_int rfl (off' := 4) (by kernel_rfl) (readsF_cons rd_int rfl (by kernel_rfl) readsF_nil))))) (fun _ => rfl) (fun _ => by simp [zEntry]) (fun _ => rfl) (fun _ => by show 5 = _; kernel_rfl)
theorem rd_Entries : Reads Tryz.prog 23 (cL cEntry) (zL zEntry) := reads_slice Tryz.underlying23 rd_Entry (by kernel_rfl) (by kernel_rfl)
def zPlace (x : APlace) : Nat := zL zPair x.classes + (zL zEntry x.pool + (zTy x.back + 1)) + 1
theorem rd_Place : Reads Tryz.prog 27 cPlace zPlace :=
  reads_struct (fun x : List APair × List AEntry × ATy × Int × Unit => ⟨x.1, x.2.1, x.2.2.1, x.2.2.2.1⟩) zPlace Tryz.underlying27
    (readsF_cons rd_Pairs11 rfl (off' := 1) (by kernel_rfl) (readsF_cons rd_Entries rfl (off' := 2) (by kernel_rfl) (readsF_cons rd_Ty rfl (off' := 4) (by kernel_rfl) (readsF_cons rd_int rfl (by kernel_rfl) readsF_nil)))) (fun _ => rfl) (fun _ => by simp [zPlace]) (fun _ => rfl) (fun _ => by show 5 = _; kernel_rfl)
def zCase (x : ACase) : Nat := 1 + 1 + 1
theorem zCase_pos (x : ACase) : 1 ≤ zCase x := by unfold zCase; omega
theorem rd_Case : Reads Tryz.prog 124 cCase zCase :=
  reads_struct (fun x : Int × Int × Unit => ⟨x.1, x.2.1⟩) zCase Tryz.underlying124
    (readsF_cons rd_int rfl (off' := 1) (by kernel_rfl) (readsF_cons rd_int rfl (by kernel_rfl) readsF_nil)) (fun _ => rfl) (fun _ => by simp [zCase]) (fun _ => rfl) (fun _ => by show 2 = _; kernel_rfl)
theorem rd_Cases : Reads Tryz.prog 28 (cL cCase) (zL zCase) := reads_slice Tryz.underlying28 rd_Case (by kernel_rfl) (by kernel_rfl)
def zInstr (x : AInstr) : Nat := 1 + (1 + (1 + (1 + zL zCase x.cases))) + 1
theorem rd_Instr : Reads Tryz.prog 30 cInstr zInstr :=
  reads_struct (fun x : Int × Int × Int × Int × List ACase × Unit => ⟨x.1, x.2.1, x.2.2.1, x.2.2.2.1, x.2.2.2.2.1⟩) zInstr Tryz.underlying30
    (readsF_cons rd_int rfl (off' := 1) (by kernel_rfl) (readsF_cons rd_int rfl (off' := 2) (by kernel_rfl) (readsF_cons rd_int rfl (off' := 3) (by kernel_rfl) (readsF_cons rd_int rfl (off' := 4) (by kernel_rfl) (readsF_cons rd_Cases rfl (by kernel_rfl) readsF_nil))))) (fun _ => rfl) (fun _ => by simp [zInstr]) (fun _ => rfl) (fun _ => by show 5 = _; kernel_rfl)
def zFrame (x : AFrame) : Nat := zL zTy x.locals + zL zTy x.stack + 1
theorem rd_Frame : Reads Tryz.prog 33 cFrame zFrame :=
  reads_struct (fun x : List ATy × List ATy × Unit => ⟨x.1, x.2.1⟩) zFrame Tryz.underlying33
    (readsF_cons rd_Tys rfl (off' := 1) (by kernel_rfl) (readsF_cons rd_Tys rfl (by kernel_rfl) readsF_nil)) (fun _ => rfl) (fun _ => by simp [zFrame]) (fun _ => rfl) (fun _ => by show 2 = _; kernel_rfl)
theorem zName_mem {l : List ATy} {x : ATy} (h : x ∈ l) : x.name.length ≤ zL zTy l := by have := zL_mem (z := zTy) h; have e : zTy x = 1 + (x.name.length + 1) + 1 := rfl; omega
end Go.Proofs.YthchohjhcjkgjaaGreatDoor.Lift
