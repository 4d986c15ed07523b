/-
  LIFT, 19: A REGION THAT DRAWS ITS ORDER: every order comes to what the text's order comes to.
-/
import Derived.Test.YtbjgepnkakcjaaaDoorL18
namespace Go.Proofs.YtbjgepnkakcjaaaDoor.Lift
open Go

set_option maxHeartbeats 1000000 in
theorem evOper_congr {X : Cfg} {s s' : ASt} {o : Oper} (hst : s.st = s'.st) (h : ∀ x ∈ o.op.operands, s.ev X x = s'.ev X x) : evOper X s o = evOper X s' o := by
  obtain ⟨dst, op, type, pos, after, guard⟩ := o
  have h1 : ∀ (l : Array Operand), (∀ x ∈ l, x ∈ op.operands) → l.toList.map (s.ev X) = l.toList.map (s'.ev X) := fun l hl =>
    List.map_congr_left fun x hx => h x (hl x (Array.mem_def.2 hx))
  have h2 : ∀ (l : Option Operand), (∀ x, l = some x → x ∈ op.operands) → l.map (s.ev X) = l.map (s'.ev X) := fun l hl => by
    cases l with
    | none => rfl
    | some x => exact congrArg some (h x (hl x rfl))
  have h3 : ∀ {l : Array (Nat × Operand)}, op.operands = (l.toList.map (·.2)).toArray → ∀ p ∈ l.toList, s.ev X p.2 = s'.ev X p.2 := fun {l} hl p hp => h p.2 (by
    simp only
    rw [hl]
    simp only [List.mem_toArray, List.mem_map]
    exact ⟨p, hp, rfl⟩)
  cases op <;> simp only [evOper] <;> try rfl
  case build t parts =>
    have e1 : parts.toList.map (fun p => s.ev X p.2) = parts.toList.map (fun p => s'.ev X p.2) := List.map_congr_left (h3 rfl)
    have e2 : parts.toList.map (fun p => (p.1, s.ev X p.2)) = parts.toList.map (fun p => (p.1, s'.ev X p.2)) := List.map_congr_left fun p hp => by rw [h3 rfl p hp]
    rw [e1, e2, hst]
  case buildSlice t len parts =>
    have e1 : parts.toList.map (fun p => s.ev X p.2) = parts.toList.map (fun p => s'.ev X p.2) := List.map_congr_left (h3 rfl)
    rw [e1, hst]
  case makeFunc f first cap =>
    rw [h1 first (fun x hx => by simp [Op.operands, hx]), h1 cap (fun x hx => by simp [Op.operands, hx]), hst]
  case slice t x lo hi mx =>
    cases mx with
    | none =>
      simp only [evOper]
      rw [h x (by simp [Op.operands]), h2 lo (fun x hx => by subst hx; simp [Op.operands]), h2 hi (fun x hx => by subst hx; simp [Op.operands]), hst]
    | some m => simp only [evOper]
  case makeMap t r => cases r <;> simp only [evOper, hst]
  case call c =>
    obtain ⟨callee, args, ats⟩ := c
    cases callee with
    | builtin b =>
      simp only
      rw [h1 args (fun x hx => by simp [Op.operands, Call.operands, hx]), hst]
    | value f =>
      simp only
      rw [h1 args (fun x hx => by simp [Op.operands, Call.operands, hx]), h f (by simp [Op.operands, Call.operands]), hst]
    | invoke r n => rfl
  all_goals
    simp only [Op.operands, List.mem_toArray, List.mem_cons, List.not_mem_nil, or_false, forall_eq_or_imp, forall_eq] at h
    first
      | (obtain ⟨e1, e2, e3⟩ := h; rw [e1, e2, e3, hst])
      | (obtain ⟨e1, e2⟩ := h; rw [e1, e2, hst])
      | (rw [h, hst])
      | (rw [hst])
      | skip

theorem ev_upd {X : Cfg} (s : ASt) (d : Nat) (v : AV) (st : Sto) (x : Operand) (h : x ≠ .tmp d) : ASt.ev X { s with fr := upd s.fr d v, st := st } x = ASt.ev X s x := by
  cases x with
  | tmp t =>
    have : t ≠ d := fun e => h (by rw [e])
    simp [ASt.ev, upd, this]
  | const v => rfl
  | func f => rfl
  | global g => rfl

/-- a step, opened: the value, the store -/
def step0 (X : Cfg) (gd : Nat → Option Nat) (s : ASt) (o : Oper) : Option (AV × Sto) :=
  match wantedA gd s o with
  | some true => evOper X s o
  | some false => some (.tup [], s.st)
  | none => none
theorem step1_eq (X : Cfg) (gd : Nat → Option Nat) (s : ASt) (o : Oper) : step1 X gd s o = (step0 X gd s o).bind fun r => ASt.put { s with st := r.2 } o.dst r.1 := by
  unfold step1 step0
  cases wantedA gd s o with
  | none => rfl
  | some b => cases b with
    | false => rfl
    | true => cases evOper X s o <;> rfl

theorem step0_congr {X : Cfg} {ops : Array Oper} {s s' : ASt} {o : Oper} (hst : s.st = s'.st) (h : ∀ t ∈ o.looksAt ops, s.fr t = s'.fr t) : step0 X (gdOf ops.toList) s o = step0 X (gdOf ops.toList) s' o := by
  have h1 : evOper X s o = evOper X s' o := evOper_congr hst fun x hx => by
    cases x with
    | tmp t => exact h t (by simp only [Oper.looksAt, List.mem_append, List.mem_filterMap]; exact .inl ⟨.tmp t, Array.mem_def.1 hx, rfl⟩)
    | const v => rfl
    | func f => rfl
    | global g => rfl
  have h2 : wantedA (gdOf ops.toList) s o = wantedA (gdOf ops.toList) s' o := by
    unfold wantedA
    cases hg : o.guard with
    | none => rfl
    | some p =>
      obtain ⟨j, b⟩ := p
      simp only
      cases hd : gdOf ops.toList j with
      | none => rfl
      | some d =>
        simp only
        rw [h d (by
          simp only [gdOf, Array.getElem?_toList] at hd
          simp [Oper.looksAt, hg, hd])]
  unfold step0
  rw [h1, h2, hst]

theorem upd_comm (f : Nat → AV) {a b : Nat} (x y : AV) (h : a ≠ b) : upd (upd f a x) b y = upd (upd f b y) a x := by
  funext j
  simp only [upd]
  split <;> split <;> first | rfl | (rename_i h1 h2; exact absurd (h2.symm.trans h1) h)

/-- two steps that have nothing to do with each other -/
theorem step_swap {X : Cfg} {ops : Array Oper} {s s1 s2 : ASt} {x y : Oper} (hap : x.apart ops y = true) (h1 : step1 X (gdOf ops.toList) s x = some s1) (e1 : s1.st = s.st)
    (h2 : step1 X (gdOf ops.toList) s1 y = some s2) (e2 : s2.st = s1.st) : ∃ s1', step1 X (gdOf ops.toList) s y = some s1' ∧ s1'.st = s.st ∧ step1 X (gdOf ops.toList) s1' x = some s2 := by
  obtain ⟨ha, hb, hc⟩ := Oper.apart_spec hap
  rw [step1_eq] at h1 h2
  cases hx : step0 X (gdOf ops.toList) s x with
  | none => rw [hx] at h1; cases h1
  | some p =>
    obtain ⟨v, st⟩ := p
    rw [hx, Option.bind_some] at h1
    cases hy : step0 X (gdOf ops.toList) s1 y with
    | none => rw [hy] at h2; cases h2
    | some q =>
      obtain ⟨u, st'⟩ := q
      rw [hy, Option.bind_some] at h2
      have p1 : ∀ {s0 s' : ASt} {dst : Option Nat} {v : AV}, s0.put dst v = some s' → s'.n = s0.n ∧ s'.st = s0.st ∧ (∀ t, dst ≠ some t → s'.fr t = s0.fr t) ∧ s' = { s0 with fr := match dst with | some d => upd s0.fr d v | none => s0.fr } ∧ (∀ d, dst = some d → d < s0.n) := by
        intro s0 s' dst v hp
        cases dst with
        | none => cases hp; exact ⟨rfl, rfl, fun _ _ => rfl, rfl, fun d hd => by cases hd⟩
        | some d =>
          simp only [ASt.put] at hp
          split at hp
          · rename_i hd
            cases hp
            refine ⟨rfl, rfl, fun t ht => ?_, rfl, fun d' hd' => by cases hd'; exact hd⟩
            have : t ≠ d := fun e => ht (by rw [e])
            simp [upd, this]
          · cases hp
      obtain ⟨n1, t1, f1, g1, b1⟩ := p1 h1
      obtain ⟨n2, t2, f2, g2, b2⟩ := p1 h2
      simp only at n1 t1 f1 b1 n2 t2 f2 b2
      have hst : st = s.st := by rw [← t1, e1]
      have hst' : st' = s.st := by rw [← t2, e2, e1]
      subst hst
      subst hst'
      have hy' : step0 X (gdOf ops.toList) s y = some (u, s.st) := by
        rw [← hy]
        exact step0_congr e1.symm fun t ht => (f1 t (fun e => ha t e ht)).symm
      have q1 : ∃ s1', ASt.put { s with st := s.st } y.dst u = some s1' := by
        cases hd : y.dst with
        | none => exact ⟨_, rfl⟩
        | some d =>
          have := b2 d hd
          rw [n1] at this
          exact ⟨_, by simp only [ASt.put]; rw [if_pos this]⟩
      obtain ⟨s1', hs1'⟩ := q1
      obtain ⟨n3, t3, f3, g3, b3⟩ := p1 hs1'
      try simp only at n3 t3 f3 b3
      have hx' : step0 X (gdOf ops.toList) s1' x = some (v, s.st) := by
        rw [← hx]
        exact step0_congr t3 fun t ht => f3 t (fun e => hc t e ht)
      refine ⟨s1', by rw [step1_eq, hy', Option.bind_some]; exact hs1', t3, ?_⟩
      rw [step1_eq, hx', Option.bind_some]
      subst g2 g1 g3
      cases hxd : x.dst with
      | none => simp [ASt.put, hxd]
      | some d =>
        have := b1 d hxd
        simp only [ASt.put]
        rw [if_pos this]
        cases hyd : y.dst with
        | none => simp [hxd]
        | some d' =>
          have hne : d ≠ d' := fun e => hb d hxd (by rw [hyd, e])
          simp only [hxd]
          rw [upd_comm _ _ _ hne]

/-- what an operation waits for -/
def depsOf (o : Oper) : List Nat := (o.after.toList.filter (Region.binds .any)).map (·.on)
def ancTab : List Oper → List (List Nat) → List (List Nat)
  | [], tab => tab
  | o :: r, tab => ancTab r (tab ++ [depsOf o ++ (depsOf o).flatMap fun d => tab.getD d []])
/-- each two operations of which none waits for the other are apart; none waits for a later one -/
def drawOK (ops : Array Oper) (tab : List (List Nat)) : Bool :=
  decide (tab.length ≤ ops.size) && (List.range ops.size).all fun i => match ops[i]? with
    | none => true
    | some o => (depsOf o).all (fun d => decide (d < i) && (tab.getD i []).contains d && (tab.getD d []).all (tab.getD i []).contains) &&
      (tab.getD i []).all (fun j => decide (j < i) && ((depsOf o).contains j || (depsOf o).any fun d => (tab.getD d []).contains j)) &&
      (List.range i).all fun j => (tab.getD i []).contains j || (match ops[j]? with | some p => p.apart ops o | none => true)
def barrier (ops : Array Oper) (tab : List (List Nat)) (i : Nat) : Bool :=
  (List.range ops.size).all fun j => j == i || (tab.getD i []).contains j || (tab.getD j []).contains i

/-- operations one behind the other, of which only barriers turn the store -/
def Calm (X : Cfg) (ops : Array Oper) (tab : List (List Nat)) : List Nat → ASt → ASt → Prop
  | [], s, s' => s = s'
  | i :: l, s, s' => ∃ o s1, ops[i]? = some o ∧ step1 X (gdOf ops.toList) s o = some s1 ∧ (s1.st = s.st ∨ barrier ops tab i = true) ∧ Calm X ops tab l s1 s'
theorem Calm.ev {X : Cfg} {ops : Array Oper} {tab : List (List Nat)} : ∀ {l : List Nat} {s s' : ASt}, Calm X ops tab l s s' → evIdx X ops.toList l s = some s'
  | [], _, _, h => by cases h; rfl
  | i :: l, s, s', ⟨o, s1, ho, h1, _, h2⟩ => by
    simp only [evIdx, Array.getElem?_toList, ho, h1]
    exact h2.ev

theorem drawOK_spec {ops : Array Oper} {tab : List (List Nat)} (h : drawOK ops tab = true) {i : Nat} {o : Oper} (ho : ops[i]? = some o) :
    (∀ d ∈ depsOf o, d < i ∧ d ∈ tab.getD i [] ∧ ∀ k ∈ tab.getD d [], k ∈ tab.getD i []) ∧ (∀ j ∈ tab.getD i [], j < i ∧ (j ∈ depsOf o ∨ ∃ d ∈ depsOf o, j ∈ tab.getD d [])) ∧
    ∀ j p, j < i → j ∉ tab.getD i [] → ops[j]? = some p → p.apart ops o = true := by
  simp only [drawOK, Bool.and_eq_true, List.all_eq_true] at h
  have h1 := h.2 i (List.mem_range.2 (Array.getElem?_eq_some_iff.1 ho).1)
  rw [ho] at h1
  simp only [Bool.and_eq_true, List.all_eq_true, decide_eq_true_eq, List.contains_iff_mem, Bool.or_eq_true, List.any_eq_true, List.mem_range] at h1
  obtain ⟨⟨a, b⟩, c⟩ := h1
  refine ⟨fun d hd => ?_, fun j hj => b j hj, fun j p hj hn hp => ?_⟩
  · exact ⟨(a d hd).1.1, (a d hd).1.2, (a d hd).2⟩
  · rcases c j hj with h | h
    · exact absurd h hn
    · rw [hp] at h; exact h

theorem Calm.move {X : Cfg} {ops : Array Oper} {tab : List (List Nat)} (h : drawOK ops tab = true) {i : Nat} {post : List Nat} : ∀ {pre : List Nat} {s s' : ASt}, (∀ j ∈ pre, j < i ∧ j ∉ tab.getD i []) → Calm X ops tab (pre ++ i :: post) s s' → Calm X ops tab (i :: (pre ++ post)) s s'
  | [], _, _, _, hc => hc
  | j :: pre, s, s', hp, hc => by
    obtain ⟨oj, s1, ho, h1, hb, h2⟩ := hc
    obtain ⟨oi, s2, hoi, h3, hb', h4⟩ := Calm.move h (fun k hk => hp k (by simp [hk])) h2
    obtain ⟨hlt, hn⟩ := hp j (by simp)
    have hin : i < ops.size := (Array.getElem?_eq_some_iff.1 hoi).1
    have hnj : i ∉ tab.getD j [] := fun hm => by
      have := ((drawOK_spec h ho).2.1 i hm).1
      omega
    have e1 : s1.st = s.st := hb.resolve_right fun hb => by
      simp only [barrier, List.all_eq_true, List.mem_range] at hb
      have := hb i hin
      simp only [Bool.or_eq_true, beq_iff_eq, List.contains_iff_mem] at this
      rcases this with (h | h) | h
      · omega
      · exact hnj h
      · exact hn h
    have e2 : s2.st = s1.st := hb'.resolve_right fun hb => by
      simp only [barrier, List.all_eq_true, List.mem_range] at hb
      have := hb j (by omega)
      simp only [Bool.or_eq_true, beq_iff_eq, List.contains_iff_mem] at this
      rcases this with (h | h) | h
      · omega
      · exact hn h
      · exact hnj h
    obtain ⟨s1', g1, g2, g3⟩ := step_swap ((drawOK_spec h hoi).2.2 j oj hlt hn ho) h1 e1 h3 e2
    exact ⟨oi, s1', hoi, g1, .inl g2, oj, s2, ho, g3, .inl (by rw [e2, e1, g2]), h4⟩

/-- what is not yet listed -/
def rem (n : Nat) (listed : Array Bool) : List Nat := (List.range n).filter fun i => !listed.getD i true

theorem rem_split {n i : Nat} {listed : Array Bool} (hi : i < n) (hs : listed.size = n) (hl : listed.getD i true = false) :
    ∃ pre post, rem n listed = pre ++ i :: post ∧ rem n (listed.setIfInBounds i true) = pre ++ post ∧ ∀ j ∈ pre, j < i ∧ listed.getD j true = false := by
  have e : List.range n = List.range' 0 i ++ i :: List.range' (i + 1) (n - i - 1) := by
    rw [← List.range'_succ, List.range_eq_range']
    have : n = i + (n - i - 1 + 1) := by omega
    conv => lhs; rw [this]
    rw [← List.range'_append_1]
    simp
  have g : ∀ j, (listed.setIfInBounds i true).getD j true = if i = j then true else listed.getD j true := fun j => by
    simp only [Array.getD_eq_getD_getElem?, Array.getElem?_setIfInBounds]
    split
    · rename_i hij
      rw [hs, if_pos (by omega)]
      rfl
    · rfl
  refine ⟨(List.range' 0 i).filter fun j => !listed.getD j true, (List.range' (i + 1) (n - i - 1)).filter fun j => !listed.getD j true, ?_, ?_, fun j hj => ?_⟩
  · rw [rem, e, List.filter_append, List.filter_cons, hl]; rfl
  · rw [rem, e, List.filter_append, List.filter_cons, g i, if_pos rfl]
    congr 1
    · exact List.filter_congr fun j hj => by
        rw [g j, if_neg]
        simp at hj
        omega
    · exact List.filter_congr fun j hj => by
        rw [g j, if_neg]
        simp [List.mem_range'] at hj
        omega
  · simp only [List.mem_filter, List.mem_range'_1, Bool.not_eq_eq_eq_not, Bool.not_true] at hj
    exact ⟨by omega, hj.2⟩

theorem Calm.go {X : Cfg} {ops : Array Oper} {tab : List (List Nat)} (h : drawOK ops tab = true) {s' : ASt} : ∀ (fuel t : Nat) (listed : Array Bool) (s : ASt), listed.size = ops.size → (rem ops.size listed).length ≤ fuel →
    (∀ i, listed.getD i true = true → ∀ k ∈ tab.getD i [], listed.getD k true = true) → Calm X ops tab (rem ops.size listed) s s' → evIdx X ops.toList (Region.linearise.go .any ops fuel t listed []) s = some s' := by
  intro fuel
  induction fuel with
  | zero =>
    intro t listed s _ hl _ hc
    have : rem ops.size listed = [] := List.eq_nil_of_length_eq_zero (by omega)
    rw [this] at hc
    cases hc
    rfl
  | succ fuel ih =>
    intro t listed s hsz hl hcl hc
    have hready : ∀ i, i ∈ Region.ready .any ops listed ↔ i < ops.size ∧ listed.getD i true = false ∧ ∃ o, ops[i]? = some o ∧ ∀ d ∈ depsOf o, listed.getD d false = true := by
      intro i
      simp only [Region.ready, List.mem_filter, List.mem_range, Bool.and_eq_true, Bool.not_eq_eq_eq_not, Bool.not_true]
      constructor
      · rintro ⟨h1, h2, h3⟩
        refine ⟨h1, h2, ops[i], by simp [h1], fun d hd => ?_⟩
        rw [show ops[i]? = some ops[i] by simp [h1]] at h3
        simp only [Option.map_some, Option.getD_some, Array.all_eq_true', Bool.or_eq_true, Bool.not_eq_eq_eq_not, Bool.not_true] at h3
        simp only [depsOf, List.mem_map, List.mem_filter] at hd
        obtain ⟨e, ⟨he, hb⟩, rfl⟩ := hd
        rcases h3 e (Array.mem_def.2 he) with h | h
        · rw [h] at hb; cases hb
        · exact h
      · rintro ⟨h1, h2, o, h3, h4⟩
        refine ⟨h1, h2, ?_⟩
        rw [h3]
        simp only [Option.map_some, Option.getD_some, Array.all_eq_true', Bool.or_eq_true, Bool.not_eq_eq_eq_not, Bool.not_true]
        intro e he
        cases hb : Region.binds .any e with
        | false => exact .inl rfl
        | true => exact .inr (h4 e.on (by simp only [depsOf, List.mem_map, List.mem_filter]; exact ⟨e, ⟨Array.mem_def.1 he, hb⟩, rfl⟩))
    simp only [Region.linearise.go]
    change evIdx X ops.toList (match (Region.ready .any ops listed)[t % (Region.ready .any ops listed).length]? with
      | some i => Region.linearise.go .any ops fuel (t / (Region.ready .any ops listed).length) (listed.setIfInBounds i true) [i]
      | none => [].reverse) s = some s'
    cases hi : (Region.ready .any ops listed)[t % (Region.ready .any ops listed).length]? with
    | none =>
      have hnil : Region.ready .any ops listed = [] := by
        cases hr : Region.ready .any ops listed with
        | nil => rfl
        | cons x xs =>
          rw [hr] at hi
          have hlt : t % (x :: xs).length < (x :: xs).length := Nat.mod_lt _ (by simp)
          simp at hi
          simp at hlt
          omega
      have hrem : rem ops.size listed = [] := by
        cases hr : rem ops.size listed with
        | nil => rfl
        | cons i0 r =>
          exfalso
          have hmem : i0 ∈ rem ops.size listed := by rw [hr]; simp
          have hmem' := hmem
          simp only [rem, List.mem_filter, List.mem_range, Bool.not_eq_eq_eq_not, Bool.not_true] at hmem'
          have hsort : (rem ops.size listed).Pairwise (· < ·) := List.Pairwise.filter _ (List.pairwise_lt_range)
          have : i0 ∈ Region.ready .any ops listed := by
            rw [hready]
            refine ⟨hmem'.1, hmem'.2, ops[i0]'hmem'.1, by simp [hmem'.1], fun d hd => ?_⟩
            have hdi := ((drawOK_spec h (show ops[i0]? = some (ops[i0]'hmem'.1) by simp [hmem'.1])).1 d hd).1
            cases hld : listed.getD d false with
            | true => rfl
            | false =>
              exfalso
              have hlt : d < listed.size := by omega
              have hd2 : listed.getD d true = false := by
                simp only [Array.getD_eq_getD_getElem?, Array.getElem?_eq_getElem hlt, Option.getD_some] at hld ⊢
                exact hld
              have : d ∈ rem ops.size listed := by
                simp only [rem, List.mem_filter, List.mem_range, Bool.not_eq_eq_eq_not, Bool.not_true]
                exact ⟨by omega, hd2⟩
              rw [hr] at this hsort
              rcases List.mem_cons.1 this with h | h
              · omega
              · have := (List.pairwise_cons.1 hsort).1 d h; omega
          rw [hnil] at this
          cases this
      rw [hrem] at hc
      cases hc
      rfl
    | some i =>
      simp only []
      rw [linearise_go_acc, List.reverse_singleton, List.singleton_append]
      obtain ⟨h1, h2, o, h3, h4⟩ := (hready i).1 (List.mem_of_getElem? hi)
      obtain ⟨pre, post, e1, e2, hpre⟩ := rem_split (n := ops.size) h1 hsz h2
      rw [e1] at hc hl
      have hanc : ∀ k ∈ tab.getD i [], listed.getD k true = true := fun k hk => by
        rcases ((drawOK_spec h h3).2.1 k hk).2 with hd | ⟨d, hd, hk'⟩
        · have := h4 k hd
          simp only [Array.getD_eq_getD_getElem?] at this ⊢
          cases hq : listed[k]? with
          | none => rfl
          | some b => rw [hq] at this; simpa using this
        · have := h4 d hd
          refine hcl d ?_ k hk'
          simp only [Array.getD_eq_getD_getElem?] at this ⊢
          cases hq : listed[d]? with
          | none => rfl
          | some b => rw [hq] at this; simpa using this
      have hc' := Calm.move h (fun j hj => ⟨(hpre j hj).1, fun hm => by
        have := hanc j hm
        rw [(hpre j hj).2] at this
        cases this⟩) hc
      obtain ⟨o', s1, ho', hs1, _, hc2⟩ := hc'
      rw [h3] at ho'
      cases ho'
      simp only [evIdx, Array.getElem?_toList, h3, hs1]
      refine ih _ _ s1 (by simp [hsz]) (by rw [e2]; simp at hl ⊢; omega) (fun j hj k hk => ?_) (by rw [e2]; exact hc2)
      have g : ∀ j, (listed.setIfInBounds i true).getD j true = if i = j then true else listed.getD j true := fun j => by
        simp only [Array.getD_eq_getD_getElem?, Array.getElem?_setIfInBounds]
        split
        · rename_i hij
          rw [hsz, if_pos (by omega)]
          rfl
        · rfl
      rw [g] at hj ⊢
      split
      · rfl
      · split at hj
        · rename_i hij
          subst hij
          exact hanc k hk
        · exact hcl j hj k hk

/-- a region that draws, for the evaluator -/
def drawP (X : Cfg) (ops : Array Oper) (tab : List (List Nat)) : List Oper → Nat → ASt → (ASt → Prop) → Prop
  | [], _, s, K => K s
  | o :: r, i, s, K => ∃ s1, step1 X (gdOf ops.toList) s o = some s1 ∧ (s1.st = s.st ∨ barrier ops tab i = true) ∧ drawP X ops tab r (i + 1) s1 K

theorem drawP_calm {X : Cfg} {ops : Array Oper} {tab : List (List Nat)} {K : ASt → Prop} : ∀ (l : List Oper) (k : Nat) (s : ASt), (∀ j, l[j]? = ops[k + j]?) → drawP X ops tab l k s K → ∃ s', Calm X ops tab (List.range' k l.length) s s' ∧ K s'
  | [], k, s, _, h => ⟨s, rfl, h⟩
  | o :: l, k, s, hl, ⟨s1, h1, h2, h3⟩ => by
    have h0 : ops[k]? = some o := by simpa using (hl 0).symm
    obtain ⟨s', h4, h5⟩ := drawP_calm l (k + 1) s1 (fun j => by have := hl (j + 1); simpa [Nat.add_assoc, Nat.add_comm 1 j] using this) h3
    exact ⟨s', ⟨o, s1, h0, h1, h2, h4⟩, h5⟩

theorem drawP_sound {X : Cfg} {ops : Array Oper} {tab : List (List Nat)} (hok : drawOK ops tab = true) {s : ASt} {K : ASt → Prop} (h : drawP X ops tab ops.toList 0 s K) :
    ∃ s', (∀ t, evIdx X ops.toList (Region.schedule true ops t) s = some s') ∧ K s' := by
  obtain ⟨s', h1, h2⟩ := drawP_calm ops.toList 0 s (by simp) h
  refine ⟨s', fun t => ?_, h2⟩
  simp only [Region.schedule, Bool.true_or, if_true, Region.linearise]
  have hrem : rem ops.size (Array.replicate ops.size false) = List.range ops.size := by
    rw [rem, List.filter_eq_self]
    intro i hi
    simp only [List.mem_range] at hi
    simp [Array.getD, hi]
  refine Calm.go hok _ _ _ _ (by simp) (by rw [hrem]; simp) (fun i hi k hk => ?_) ?_
  · rcases Nat.lt_or_ge i ops.size with hlt | hge
    · simp [Array.getD, hlt] at hi
    · have ht : tab.length ≤ ops.size := by
        simp only [drawOK, Bool.and_eq_true, decide_eq_true_eq] at hok
        exact hok.1
      rw [List.getD_eq_getElem?_getD, List.getElem?_eq_none (by omega)] at hk
      cases hk
  · rw [hrem, List.range_eq_range', ← Array.length_toList]
    exact h1
end Go.Proofs.YtbjgepnkakcjaaaDoor.Lift
