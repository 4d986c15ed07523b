/-
  LIFT, 28: RANGES OVER FUNCTIONS, 4: the statement.
  LIFT, 29: RANGES OVER FUNCTIONS, 5: the contract of a function that may be ranged over, from its walk; the rule, evaluated; contracts with a store.
  LIFT, 30: CONTRACTS WITH A STORE that leave what they made: from the walk.
  LIFT, 40: VALUES THAT ARE CARRIED OUT AT ONCE (for the kernel): what is handed on is laid anew.
  LIFT, 39: THE EVALUATOR OF OPERATIONS, cut into small definitions (for the kernel); it is the same (printed by gen39.py).
  L35: A FUNCTION THAT IS RUN: the evaluator carried through on known values, loops and calls too, for the kernel to compute; and that this is a contract.
  LIFT, 36: REGIONS THAT DRAW, where a call may come before or behind an operation that makes a new block.
-/
import Derived.Test.YtgpkochbmfhmdaaGreatDoorQ7
namespace Go.Proofs.YtgpkochbmfhmdaaGreatDoor.Lift
open Go

/-- A FUNCTION THAT MAY BE RANGED OVER: what it yields (gI: of what it has captured, and of the blocks that this refers to) -/
structure SoundI (P : Program) (gl : Nat → Option AV) (f : Nat) (gI : List AV → Sto → Option (List (List AV))) : Prop where
  enters : ∀ (args : Array Value) (w : World), (callFunc f args).run P w = .ok (.enter f args) w
  calls : ∀ (G : Gh) (l k : Nat) (cap : List AV) (own : Sto) (vals : List Value) (xs : List (List AV)), gI cap own = some xs → G.σ = .tick 0 :: own → Inv G → GlobG gl G → RepL G cap vals → SoundY P gl G.J l (yieldS xs k) →
    Calls P f (#[.func (.yield l) #[] #[]] ++ vals.toArray) G.w (fun e w' => ∃ v G', e = .returned v ∧ G'.w = w' ∧ Ext G G' ∧ Inv G' ∧ G'.t = min xs.length (k + 1))

/-- a place in a list -/
def posOf : List Nat → Nat → Option Nat
  | [], _ => none
  | c :: r, b => if c = b then some 0 else (posOf r b).map (· + 1)
theorem posOf_get : ∀ {l : List Nat} {b j : Nat}, posOf l b = some j → l[j]? = some b
  | c :: r, b, j, h => by
    simp only [posOf] at h
    split at h
    · rename_i e; cases h; subst e; rfl
    · obtain ⟨j', hj, rfl⟩ := Option.map_eq_some_iff.1 h
      exact (show (c :: r)[j' + 1]? = some b by simpa using posOf_get hj)
/-- a captured value, where the blocks that were handed over are all that there is -/
def reb (sel : List Nat) : AV → Option AV
  | .ptr b g i off => (posOf sel b).map fun j => .ptr (j + 1) g i off
  | x => if fz x = true then some x else none
/-- a block of frozen elements, no cell of which is frozen -/
def fzB : ABlk → Bool
  | .row _ _ lo xs => decide (lo = 0) && fzL xs
  | _ => false
/-- a block that was handed over -/
def deadOf : ABlk → ABlk
  | .row sz g _ _ => .dead sz g
  | k => k
@[simp] theorem deadOf_gen (k : ABlk) : (deadOf k).gen = k.gen := by cases k <;> rfl
@[simp] theorem deadOf_sz (k : ABlk) : (deadOf k).sz = k.sz := by cases k <;> rfl
/-- blocks are handed over -/
def kill (sel : List Nat) (st : Sto) : Sto := st.mapIdx fun b k => if b ∈ sel then deadOf k else k
theorem kill_get {sel : List Nat} {st : Sto} {b : Nat} {k : ABlk} (h : (kill sel st)[b]? = some k) : ∃ k0, st[b]? = some k0 ∧ k = if b ∈ sel then deadOf k0 else k0 := by
  unfold kill at h
  rw [List.getElem?_mapIdx] at h
  obtain ⟨k0, h1, h2⟩ := Option.map_eq_some_iff.1 h
  exact ⟨k0, h1, h2.symm⟩
theorem kill_mk {sel : List Nat} {st : Sto} {b : Nat} {k : ABlk} (h : st[b]? = some k) : (kill sel st)[b]? = some (if b ∈ sel then deadOf k else k) := by
  unfold kill
  rw [List.getElem?_mapIdx, h]
  rfl

theorem ext_kill (G : Gh) (sel : List Nat) : Ext G { G with σ := kill sel G.σ } where
  os := rfl
  tape := rfl
  output := rfl
  size := Nat.le_refl _
  old := fun _ _ _ _ => rfl
  shape := fun _ c _ _ h => ⟨c, h, rfl⟩
  frozen := fun _ _ h => h
  cell := fun _ _ _ => rfl
  fmap := fun _ _ _ _ h => h
  thaw := fun _ _ h _ => .inl h
  len := by simp [kill]
  id := fun b k h => ⟨_, kill_mk h, by split <;> first | exact Nat.le_of_eq (deadOf_gen k).symm | exact Nat.le_refl _, by split <;> first | exact deadOf_sz k | rfl⟩
  at_ := fun _ _ _ _ _ => rfl
  own := fun blk ⟨b, k, hb, hlv, hr⟩ => by
    obtain ⟨k0, h1, h2⟩ := kill_get hb
    refine .inr ⟨b, k0, h1, ?_, ?_⟩
    · split at h2
      · subst h2; cases k0 <;> first | rfl | exact hlv
      · subst h2; exact hlv
    · subst h2
      split at hr
      · rwa [deadOf_gen] at hr
      · exact hr
  time := Nat.le_refl _
  zin := fun _ h => .inr h
  zout := fun _ h => h
  foe := rfl
theorem inv_kill {G : Gh} (inv : Inv G) (sel : List Nat) : Inv { G with σ := kill sel G.σ } where
  rows := fun b sz g lo xs h => by
    obtain ⟨k0, h1, h2⟩ := kill_get h
    have : k0 = .row sz g lo xs := by
      split at h2
      · cases k0 <;> cases h2
      · exact h2.symm
    subst this
    obtain ⟨q1, q2, q3⟩ := inv.rows b sz g lo xs h1
    refine ⟨q1, fun blk hb => ?_, q3⟩
    obtain ⟨c, e, fz, q4, q5, q6, q7⟩ := q2 blk hb
    exact ⟨c, e, fz, q4, q5, q6.ext (ext_kill G sel), q7⟩
  maps := fun b es h => by
    obtain ⟨k0, h1, h2⟩ := kill_get h
    have : k0 = .map es := by
      split at h2
      · cases k0 <;> cases h2; rfl
      · exact h2.symm
    subst this
    obtain ⟨blk, ents, ck, q1, q2, q3, q4⟩ := inv.maps b es h1
    exact ⟨blk, ents, ck, q1, q2, q3.ext (ext_kill G sel), q4⟩
  inj := fun b b' k k' blk h h' r r' => by
    obtain ⟨k0, h1, h2⟩ := kill_get h
    obtain ⟨k1, h3, h4⟩ := kill_get h'
    refine inv.inj b b' k0 k1 blk h1 h3 ?_ ?_
    · subst h2
      split at r
      · rwa [deadOf_gen] at r
      · exact r
    · subst h4
      split at r'
      · rwa [deadOf_gen] at r'
      · exact r'
  lt := inv.lt
  tks := fun b n h => by
    obtain ⟨k0, h1, h2⟩ := kill_get h
    have : k0 = .tick n := by
      split at h2
      · cases k0 <;> cases h2; rfl
      · exact h2.symm
    subst this
    exact inv.tks b n h1
  held := inv.held_ext (ext_kill G sel) rfl
  stab := inv.stab
  zlt := inv.zlt
  znone := inv.znone
  its := fun b s i h => by
    obtain ⟨k0, h1, h2⟩ := kill_get h
    have : k0 = .iter s i := by
      split at h2
      · cases k0 <;> cases h2; rfl
      · exact h2.symm
    subst this
    exact inv.its b s i h1
  deads := fun b sz g blk h r => by
    obtain ⟨k0, h1, h2⟩ := kill_get h
    refine inv.blk_lt h1 ?_
    have : k0.gen = g := by
      split at h2
      · have := congrArg ABlk.gen h2; rw [deadOf_gen] at this; exact this.symm
      · have := congrArg ABlk.gen h2; exact this.symm
    rw [this]
    exact r

theorem mapO_reb {G H : Gh} {sel : List Nat} (xf : ExtF G H) (hid : ∀ j b g sz, sel[j]? = some b → HasId G b g sz → HasId H (j + 1) g sz) (hρ : ∀ j b g, sel[j]? = some b → H.ρ (j + 1) g = G.ρ b g) :
    ∀ {l l' : List AV} {vs : List Value}, mapO (reb sel) l = some l' → RepL G l vs → RepL H l' vs
  | [], l', vs, h, hr => by cases h; cases hr; exact .nil
  | x :: l, l', vs, h, hr => by
    simp only [mapO] at h
    split at h
    · rename_i y ys hy hys
      cases h
      cases hr with
      | cons hx ht =>
        refine .cons ?_ (mapO_reb xf hid hρ hys ht)
        cases x with
        | ptr b g i off =>
          simp only [reb] at hy
          obtain ⟨j, hj, rfl⟩ := Option.map_eq_some_iff.1 hy
          have hp := posOf_get hj
          cases hx with
          | ptr h1 h2 => exact .ptr (hid _ _ _ _ hp h1) ((hρ _ _ _ hp).trans h2)
        | _ =>
          simp only [reb] at hy
          split at hy
          · rename_i hb
            cases hy
            exact fz_rep xf hb hx
          · cases hy
    · cases h
theorem mapO_getElem {α β : Type} {f : α → Option β} : ∀ {l : List α} {r : List β}, mapO f l = some r → ∀ (j : Nat) y, r[j]? = some y → ∃ x, l[j]? = some x ∧ f x = some y
  | [], r, h, j, y, hy => by cases h; simp at hy
  | a :: l, r, h, j, y, hy => by
    simp only [mapO] at h
    split at h
    · rename_i b bs hb hbs
      cases h
      cases j with
      | zero => simp at hy; subst hy; exact ⟨a, rfl, hb⟩
      | succ j => exact mapO_getElem hbs j y (by simpa using hy)
    · cases h
theorem mapO_getElem' {α β : Type} {f : α → Option β} : ∀ {l : List α} {r : List β}, mapO f l = some r → ∀ (j : Nat) x, l[j]? = some x → ∃ y, r[j]? = some y ∧ f x = some y
  | [], r, h, j, x, hx => by simp at hx
  | a :: l, r, h, j, x, hx => by
    simp only [mapO] at h
    split at h
    · rename_i b bs hb hbs
      cases h
      cases j with
      | zero => simp at hx; subst hx; exact ⟨b, rfl, hb⟩
      | succ j => exact mapO_getElem' hbs j x (by simpa using hx)
    · cases h

theorem fzB_row {k : ABlk} (h : fzB k = true) : ∃ sz g xs, k = .row sz g 0 xs ∧ fzL xs = true := by
  cases k with
  | row sz g lo xs =>
    simp only [fzB, Bool.and_eq_true, decide_eq_true_eq] at h
    obtain ⟨rfl, h2⟩ := h
    exact ⟨sz, g, xs, rfl, h2⟩
  | _ => cases h
theorem fzL_get : ∀ {xs : List AV}, fzL xs = true → ∀ x ∈ xs, fz x = true
  | a :: l, h, x, hx => by
    simp only [fzL, Bool.and_eq_true] at h
    rcases List.mem_cons.1 hx with rfl | hx
    · exact h.1
    · exact fzL_get h.2 x hx

theorem ev_rangeFunc {P : Program} {X : Cfg} {G0 : Gh} {s : ASt} {Q : Exit → ASt → Prop} {g : Operand} {ps : Array Nat} {assign body : Code} {f : Nat} {cap cap' : List AV} {gI : List AV → Sto → Option (List (List AV))} {own : Sto} {xs : List (List AV)}
    (hXJ : X.J = noFoe) (hrd : X.rd = false) (hz : FzG X.G) (hg : s.ev X g = .fn (.func f) [] cap) (si : SoundI P X.G f gI) (sel : List Nat) (hnd : sel.Nodup) (hsel : mapO (fun b => s.st[b]?) sel = some own) (hown : own.all fzB = true)
    (hcap : mapO (reb sel) cap = some cap') (hxs : gI cap' own = some xs) (fr0 : Nat → AV) (hfr : ∀ t, s.fr t = fr0 t ∨ fr0 t = .undef)
    (k : Nat) (ex : Exit) (I : Nat → Sto) (hex : IsJump ex) (hI0 : I 0 = kill sel s.st) (hps : ∀ p ∈ ps.toList, p < s.n) (hflat : ∀ x ∈ xs, flatL x = true) (hlen : ∀ x ∈ xs, x.length = ps.size)
    (ro : RoundOk P { X with rd := true } s.n ps.toList assign body xs k ex I fr0) (hdone : xs.length ≤ k → Q .normal ⟨s.n, fr0, I xs.length⟩) (hstop : k < xs.length → Q ex ⟨s.n, fr0, I (k + 1)⟩) :
    Ev P X G0 (.rangeFunc g ps assign body) s Q := by
  intro F n a w hF hst'
  have hro : F.round = none := hF.2.resolve_left (by rw [hrd]; simp)
  obtain ⟨G, rfl, hs, inv, hgl, x, hm⟩ := hst'
  have hJG : G.J = noFoe := hm.1.trans hXJ
  have hσ : G.σ = s.st := hs.2.2
  have xk := ext_kill G sel
  have invc := inv_kill inv sel
  have xc := x.trans xk
  have hsc : ∀ t, Rep { G with σ := kill sel G.σ } (fr0 t) (a.tmps.getD t undef) := fun t => by
    rcases hfr t with h | h
    · rw [← h]; exact (hs.2.1 t).ext xk
    · rw [h]; exact .undef _
  have hglc : Glob X { G with σ := kill sel G.σ } := fun g v hv => (hgl g v hv).ext xk
  -- the machine's steps
  obtain ⟨D, hD⟩ : ∃ D, D = G.w.heap.size := ⟨_, rfl⟩
  refine wpIn_rangeFunc fun fn hfn => ?_
  rw [hro]
  obtain ⟨rec, hrec⟩ : ∃ rec : LoopState → Option Code → Loop, rec = fun st pe => { state := st, pending := pe, fn, tmps := a.tmps, params := ps, assign, body, defers := G.w.heap.size } := ⟨_, rfl⟩
  have hr := hs.ev hgl g
  rw [hg] at hr
  generalize hv : a.eval g = fv at hr
  cases hr
  rename_i fa lb hfa hlb
  have hfa' : fa = #[] := by
    cases fa with
    | mk l => cases l with
      | nil => rfl
      | cons _ _ => cases hfa
  subst hfa'
  obtain ⟨W1, hW1⟩ : ∃ W1, (G.w.alloc (.deferred (some []))).alloc (.loop (rec .ready none)) = W1 := ⟨_, rfl⟩
  have hsz1 : W1.heap.size = G.w.heap.size + 2 := by rw [← hW1]; simp
  have hL1 : W1.heap[G.w.heap.size + 1]? = some (.loop (rec .ready none)) := by
    rw [← hW1]; have := World.alloc_heap_new (G.w.alloc (.deferred (some []))) (.loop (rec .ready none)); rwa [World.size_alloc] at this
  have hK1 : W1.heap[G.w.heap.size]? = some (.deferred (some [])) := by
    rw [← hW1]; exact (heap_alloc_lt _ _ (by simp)).trans (World.alloc_heap_new G.w _)
  have hold : ∀ blk, blk < G.w.heap.size → W1.heap[blk]? = G.w.heap[blk]? := fun blk hb => by
    rw [← hW1]
    exact (heap_alloc_lt _ _ (by simp; omega)).trans (heap_alloc_lt _ _ hb)
  have hos : W1.os = G.w.os := by rw [← hW1]; rfl
  have htp : W1.tape = G.w.tape := by rw [← hW1]; rfl
  have hou : W1.output = G.w.output := by rw [← hW1]; rfl
  obtain ⟨l, hl⟩ : ∃ l, l = G.w.heap.size + 1 := ⟨_, rfl⟩
  refine ⟨l, [{ target := .collected D, args := #[] }], W1, { target := .fn (.func f) lb, args := #[.func (.yield l) #[] #[]] }, W1, f, #[.func (.yield l) #[] #[]] ++ lb, W1, ?_, ?_, fun _ _ => hF.1.fn _, ?_, fun hd => (by rw [hF.1.depth] at hd; cases hd), ?_⟩
  · rw [← hW1, hrec, hl, hD]; exact run_enterLoop_outer _ _ _ _ _
  · simp only [resolve, hv]
    simp [go_sem]
  · simp only [invoke, go_sem, si.enters]
  -- the two ghosts
  have hshape : ∀ (blk : Nat) (c : Array Value) e fz, G.w.heap[blk]? = some (.cells c e fz) → ∃ c', W1.heap[blk]? = some (.cells c' e fz) ∧ c'.size = c.size := fun blk c e fz hb => ⟨c, (hold blk (Array.getElem?_eq_some_iff.1 hb).1).trans hb, rfl⟩
  obtain ⟨x1, inv1, rep1⟩ := foreign (O := fun _ => False) invc hJG xc hos htp hou (by rw [hsz1]; show G.w.heap.size ≤ _; omega) (fun blk hb _ => hold blk hb) hshape (fun _ _ h => h) (fun _ _ _ h => h) (fun _ h _ => h.elim)
  let J : Foe := FoeJ { X with rd := true } G0 l (D :: (a.defers.filterMap fun d => match d.target with | .collected r => some r | _ => none)) k rec (exCode ex) I fr0 a.tmps
  let Gi : Gh := { w := W1, φ := G.φ, ρ := fun b g => match b with | 0 => none | j + 1 => match sel[j]? with | some c => G.ρ c g | none => none, σ := .tick 0 :: own, t := 0, z := fun b => Owned { G with σ := kill sel G.σ } b ∨ b = l, J := J }
  have xf : ExtF G Gi := ⟨fun _ _ h => h, fun b o hf v hv => (World.cell?_of_block (a := ⟨b, o, none⟩) (hold b (inv.lt b o hf))).trans hv, fun b m ck hf hb => (hold b (inv.lt b 0 hf)).trans hb⟩
  have getO : ∀ (j : Nat) kk, own[j]? = some kk → ∃ c, sel[j]? = some c ∧ G.σ[c]? = some kk := fun j kk hj => by
    obtain ⟨c, h1, h2⟩ := mapO_getElem hsel j kk hj
    exact ⟨c, h1, by rw [hσ]; exact h2⟩
  have hρi : ∀ j c g, sel[j]? = some c → Gi.ρ (j + 1) g = G.ρ c g := fun j c g hc => by simp [Gi, hc]
  have ownI : ∀ blk, Owned Gi blk → ∃ j c kk, own[j]? = some kk ∧ sel[j]? = some c ∧ G.σ[c]? = some kk ∧ kk.live = true ∧ G.ρ c kk.gen = some blk := fun blk ⟨b, kk, hb, hlv, hr⟩ => by
    cases b with
    | zero => rw [show Gi.ρ 0 kk.gen = none by simp [Gi]] at hr; cases hr
    | succ b =>
      obtain ⟨c, h1, h2⟩ := getO b kk hb
      exact ⟨b, c, kk, hb, h1, h2, hlv, (hρi b c _ h1).symm.trans hr⟩
  have ownG : ∀ blk, Owned Gi blk → Owned G blk := fun blk ho => by
    obtain ⟨j, c, kk, _, _, h2, h3, h4⟩ := ownI blk ho
    exact ⟨c, kk, h2, h3, h4⟩
  have noφ : ∀ blk, Owned Gi blk → ∀ o, ¬ G.φ blk o := fun blk ho o hf => by
    obtain ⟨j, c, kk, h1, _, h2, _, h4⟩ := ownI blk ho
    obtain ⟨sz, gg, ys, rfl, _⟩ := fzB_row (List.all_eq_true.1 hown kk (List.mem_of_getElem? h1))
    obtain ⟨_, q2, _⟩ := inv.rows _ _ _ _ _ h2
    obtain ⟨_, _, _, _, _, _, q7⟩ := q2 blk h4
    exact q7 o (by simp) hf
  have notC : ∀ blk, Owned Gi blk → ¬ Owned { G with σ := kill sel G.σ } blk := fun blk ho ⟨b', k', hb', hlv', hr'⟩ => by
    obtain ⟨j, c, kk, h1, hc, h2, _, h4⟩ := ownI blk ho
    obtain ⟨k0, e1, e2⟩ := kill_get hb'
    have hr0 : G.ρ b' k0.gen = some blk := by
      subst e2
      split at hr'
      · rwa [deadOf_gen] at hr'
      · exact hr'
    have := inv.inj _ _ _ _ blk e1 h2 hr0 h4
    subst this
    rw [h2] at e1
    cases e1
    rw [if_pos (List.mem_of_getElem? hc)] at e2
    obtain ⟨sz, gg, ys, rfl, _⟩ := fzB_row (List.all_eq_true.1 hown kk (List.mem_of_getElem? h1))
    subst e2
    cases hlv'
  have hne : ∀ blk, Owned Gi blk → blk < G.w.heap.size := fun blk ho => (ownG blk ho).lt inv
  have hmark := hm
  obtain ⟨_, rs, hrs1, hrs2, hrs3, hrs4⟩ := hmark
  have hfm : (a.defers.filterMap fun d => match d.target with | .collected r => some r | _ => none) = rs := by
    rw [hrs1, List.filterMap_map]
    conv => rhs; rw [← List.filterMap_some (l := rs)]
    rfl
  have hrslt : ∀ r ∈ rs, r < G.w.heap.size := fun r hr => (Array.getElem?_eq_some_iff.1 (hrs4 r hr).1).1
  have invi : Inv Gi :=
    { rows := fun b sz gg lo ys hb => by
        cases b with
        | zero => cases hb
        | succ b =>
          obtain ⟨sz', g', ys', e1, e2⟩ := fzB_row (List.all_eq_true.1 hown _ (List.mem_of_getElem? hb))
          cases e1
          obtain ⟨c0, hc0, hb0⟩ := getO b _ hb
          obtain ⟨q1, q2, q3⟩ := inv.rows _ _ _ _ _ hb0
          refine ⟨q1, fun blk hr => ?_, fun hn => q3 ((hρi b c0 _ hc0).symm.trans hn)⟩
          have hr' : G.ρ c0 gg = some blk := (hρi b c0 _ hc0).symm.trans hr
          obtain ⟨c, e, fz', q4, q5, q6, q7⟩ := q2 blk hr'
          refine ⟨c, e, fz', (hold blk (Array.getElem?_eq_some_iff.1 q4).1).trans q4, q5, fun i y hy => ⟨(q6 i y hy).1, fun j zz hzz => ?_⟩, q7⟩
          obtain ⟨v, h8, h9⟩ := (q6 i y hy).2 j zz hzz
          exact ⟨v, h8, fz_rep xf (fzL_get (fz_cells (fzL_get e2 y (List.mem_of_getElem? hy))) zz (List.mem_of_getElem? hzz)) h9⟩
      maps := fun b es hb => by
        cases b with
        | zero => cases hb
        | succ b => obtain ⟨_, _, _, e1, _⟩ := fzB_row (List.all_eq_true.1 hown _ (List.mem_of_getElem? hb)); cases e1
      inj := fun b b' k1 k2 blk h1 h2 r1 r2 => by
        cases b with
        | zero => rw [show Gi.ρ 0 k1.gen = none by simp [Gi]] at r1; cases r1
        | succ b =>
          cases b' with
          | zero => rw [show Gi.ρ 0 k2.gen = none by simp [Gi]] at r2; cases r2
          | succ b' =>
            obtain ⟨c1, hc1, hb1⟩ := getO b k1 h1
            obtain ⟨c2, hc2, hb2⟩ := getO b' k2 h2
            have := inv.inj _ _ _ _ blk hb1 hb2 ((hρi b c1 _ hc1).symm.trans r1) ((hρi b' c2 _ hc2).symm.trans r2)
            subst this
            have h3 := (List.getElem?_eq_some_iff.1 hc1).1
            have := (List.getElem?_inj h3 hnd).1 (hc1.trans hc2.symm)
            omega
      lt := fun b o hf => by show b < W1.heap.size; have := inv.lt b o hf; omega
      tks := fun b q hb => by
        cases b with
        | zero => exact ⟨fun _ => by have := Option.some.inj hb; simpa using this.symm, fun gg => by simp [Gi]⟩
        | succ b => obtain ⟨_, _, _, e1, _⟩ := fzB_row (List.all_eq_true.1 hown _ (List.mem_of_getElem? hb)); cases e1
      held := by
        refine ⟨{ G with σ := kill sel G.σ, w := W1 }, rfl, inv1, fun gg v hv => rep1 _ _ (hglc gg v hv), x1, hJG, (by rw [hI0, ← hσ]), fun i => rep1 _ _ (hsc i), fun _ => by rw [hl]; exact hL1, fun h => absurd (Nat.zero_le k) h, fun r hr => ?_, fun blk ho => ⟨.inl ho, fun ho' => notC blk ho' ho⟩, .inr rfl, fun ho => ?_, fun r hr ho => ?_, fun o hf => ?_, fun b o hf => .inl hf, fun b o hf ho => noφ b ho o hf, fun blk ho hb => ?_⟩
        · rw [hfm] at hr
          rcases List.mem_cons.1 hr with rfl | hr
          · rw [hD]; exact hK1
          · exact (hold r (hrslt r hr)).trans (hrs4 r hr).1
        · have := hne l ho; omega
        · rw [hfm] at hr
          rcases List.mem_cons.1 hr with rfl | hr
          · have := hne _ ho; omega
          · exact inv.not_deferred (hrs4 r hr).1 (ownG r ho)
        · have := inv.lt l o hf; omega
        · rcases x.own blk (ownG blk ho) with h1 | h1
          · omega
          · exact h1
      stab := foeJ_stable _ _ _ _ _ _ _ _ _ _
      zlt := fun blk hb => by
        show blk < W1.heap.size
        rcases hb with hb | hb
        · have := hb.lt invc
          have h2 : blk < G.w.heap.size := this
          omega
        · omega
      znone := fun e => absurd e (foeJ_ne _ _ _ _ _ _ _ _ _ _ W1)
      its := fun b s i hb => by
        cases b with
        | zero => cases hb
        | succ b => obtain ⟨_, _, _, e1, _⟩ := fzB_row (List.all_eq_true.1 hown _ (List.mem_of_getElem? hb)); cases e1
      deads := fun b sz gg blk hb hr => by
        cases b with
        | zero => cases hb
        | succ b => obtain ⟨_, _, _, e1, _⟩ := fzB_row (List.all_eq_true.1 hown _ (List.mem_of_getElem? hb)); cases e1 }
  have hn : s.n ≤ a.tmps.size := hs.1
  have sy : SoundY P X.G J l (yieldS xs k) := soundY_of (X := { X with rd := true }) (dd := G.w.heap.size) (fnid := fn) hz hXJ rfl hrec hex (by have := x.size; omega) (fun r hr => by
      rw [hfm] at hr
      rcases List.mem_cons.1 hr with rfl | hr
      · omega
      · have := hrslt r hr; omega) hps hn hflat hlen ro
  have capI : RepL Gi cap' lb.toList := mapO_reb (sel := sel) xf (fun j b gg sz hj hI => by
      obtain ⟨kk, h1, h2⟩ := hI
      rw [hσ] at h1
      obtain ⟨k2, h3, h4⟩ := mapO_getElem' hsel j b hj
      rw [h1] at h4
      cases h4
      exact ⟨kk, h3, h2⟩) hρi hcap hlb
  have hcall := si.calls Gi l k cap' own lb.toList xs hxs rfl invi (fun gg v hv => by
      have h1 := globG_ext (gl := X.G) hz xf (fun n v hv => hgl n v hv)
      exact h1 gg v hv) capI sy
  rw [Array.toArray_toList] at hcall
  refine (hF.1.calls (n := n - 1) hcall).mono ?_
  rintro e W2 ⟨v, Gi', rfl, rfl, xi, invi', ht⟩
  have held' := invi'.held
  rw [xi.foe] at held'
  obtain ⟨Gc, h⟩ := held'
  have hw : Gc.w = Gi'.w := h.w
  -- the end
  have fin : ∀ (st : LoopState) (pe : Option Code), st ≠ .busy → Gi'.w.heap[l]? = some (.loop (rec st pe)) → ∃ w4, (Instr.endLoop l).run P Gi'.w = .ok pe w4 ∧ St X G0 ⟨s.n, fr0, I (min xs.length (k + 1))⟩ { a with defers := [{ target := .collected D, args := #[] }] ++ a.defers } w4 := by
    intro st pe hb hlr
    have := run_endLoop (P := P) hlr (by rw [hrec]; exact hb)
    have hpe : (rec st pe).pending = pe := by rw [hrec]
    refine ⟨Gi'.w.putObj l (.loop { rec st pe with state := .exhausted }), this.trans (congrArg (fun q => Result.ok q (Gi'.w.putObj l (.loop { rec st pe with state := .exhausted }))) hpe), ?_⟩
    have hlc : Gc.w.heap[l]? = some (.loop (rec st pe)) := by rw [hw]; exact hlr
    obtain ⟨y4, inv4, rep4⟩ := foreign_put (r' := { rec st pe with state := .exhausted }) h.inv h.J h.x hlc (by have := x.size; omega) h.nφ
    rw [← hw]
    refine ⟨_, rfl, ⟨hn, fun t => rep4 _ _ (h.fr t), ?_⟩, inv4, fun gg v hv => rep4 _ _ (h.gl gg v hv), y4, h.J.trans hXJ.symm, D :: rs, ?_, ?_, fun _ => ⟨hXJ, hrd⟩, fun r hr => ⟨?_, ?_, h.inv.znone h.J r⟩⟩
    · show Gc.σ = _
      rw [h.σ, ht]
    · simp [hrs1]
    · exact List.nodup_cons.2 ⟨fun hm' => by have := hrslt D hm'; omega, hrs2⟩
    · have hne' : r ≠ l := by
        rcases List.mem_cons.1 hr with rfl | hr
        · omega
        · have := hrslt r hr; omega
      show (Gc.w.putObj l _).heap[r]? = _
      rw [World.putObj_heap_other hne', hw]
      exact h.dfr r (by rw [hfm]; exact hr)
    · rcases List.mem_cons.1 hr with rfl | hr
      · have := x.size; omega
      · exact (hrs4 r hr).2.1
  by_cases hk : xs.length ≤ k
  · have hmin : min xs.length (k + 1) = xs.length := by omega
    rw [hmin] at ht fin
    obtain ⟨w4, h1, h2⟩ := fin .ready none (by simp) (h.ready (by omega))
    exact ⟨none, w4, h1, _, hdone hk, h2⟩
  · have hmin : min xs.length (k + 1) = k + 1 := by omega
    rw [hmin] at ht fin
    obtain ⟨w4, h1, h2⟩ := fin .done (some (exCode ex)) (by simp) (h.done (by omega))
    refine ⟨some (exCode ex), w4, h1, ?_⟩
    have hq := hstop (by omega)
    rcases hex with rfl | ⟨i, rfl⟩ | ⟨i, rfl⟩
    · exact wpIn_ret ⟨_, hq, h2⟩
    · exact wpIn_exit ⟨_, hq, h2⟩
    · exact wpIn_goto ⟨_, hq, h2⟩
end Go.Proofs.YtgpkochbmfhmdaaGreatDoor.Lift
namespace Go.Proofs.YtgpkochbmfhmdaaGreatDoor.Lift
open Go
set_option maxRecDepth 100000

/-- contracts that hold whatever is foreign -/
def OkA (E : Env) : Prop := ∀ f S, Env.look E f = some S → SoundA Tryz.prog gl f S
theorem okA_nil : OkA [] := fun f S h => by cases h
theorem OkA.add {E : Env} (ok : OkA E) {f : Nat} {S : Spec} (h : SoundA Tryz.prog gl f S) : OkA ((f, S) :: E) := fun f' S' hS => by
  simp only [Env.look] at hS
  split at hS
  · rename_i hf
    cases hS
    exact hf ▸ h
  · exact ok f' S' hS
theorem OkA.addP {E : Env} (ok : OkA E) {f : Nat} {g : List AV → Option AV} (h : SoundP Tryz.prog gl f g) : OkA ((f, liftS 9 g) :: E) := ok.add (h.lift fz_gl 9)
theorem OkA.x {E : Env} (ok : OkA E) : OkX Tryz.prog (XE E) := ⟨rfl, fun f S h => ok f S h _, fun l S h => by cases h⟩

/-- where a function that may be ranged over is walked -/
noncomputable abbrev XI (E : Env) (J : Foe) (l : Nat) (xs : List (List AV)) (k : Nat) : Cfg := { T := tiOf Tryz.prog, E := E, G := gl, Y := [(l, yieldS xs k)], J := J }
/-- where a round is walked -/
noncomputable abbrev XRB (E : Env) (B : List Nat) : Cfg := { T := tiOf Tryz.prog, E := E, G := gl, B := B, rd := true }
noncomputable abbrev XR (E : Env) : Cfg := XRB E []
theorem OkX.rd {E : Env} {B : List Nat} (ok : OkX Tryz.prog (XB E B)) : OkX Tryz.prog (XRB E B) := ⟨ok.T, ok.E, ok.Y⟩

theorem soundI_of_wk {E : Env} (ok : OkA E) (hm : Tryz.prog.follows .mixedOrders = true) {f : Nat} {fn : Func} (hf : Tryz.prog.funcs[f]? = some fn) (hb : fn.body.isSome = true) (hn : (fn.name == "runtime.NumGoroutine") = false) (hres : fn.results = #[])
    {gI : List AV → Sto → Option (List (List AV))}
    (h : ∀ cap own xs, gI cap own = some xs → ∀ (J : Foe) (l k : Nat) (_ : OkX Tryz.prog (XI E J l xs k)) (G0 : { G : Gh // G.σ = .tick 0 :: own }), wk Tryz.prog (XI E J l xs k) G0.1 (fun e s => (e = .normal ∨ e = .ret) ∧ s.st[0]? = some (.tick (min xs.length (k + 1)))) (fn.body.get hb) [] (entry fn (.fn (.yield l) [] [] :: cap) (.tick 0 :: own))) :
    SoundI Tryz.prog gl f gI where
  enters := fun args w => run_callFunc hf (by rw [← Option.not_isSome, hb]; rfl) hn args w
  calls := fun G l k cap own vals xs hxs hσ inv hg hr sy => by
    have okx : OkX Tryz.prog (XI E G.J l xs k) := ⟨rfl, fun f S hS => ok f S hS _, fun l' S hS => by
      simp only [Env.look] at hS
      split at hS
      · rename_i hl
        cases hS
        exact hl ▸ sy
      · cases hS⟩
    have hev := ev_of_wk okx hm (h cap own xs hxs G.J l k okx ⟨G, hσ⟩)
    have hargs : RepL G (.fn (.yield l) [] [] :: cap) (.func (.yield l) #[] #[] :: vals) := .cons (.fn .nil .nil) hr
    have hst := entry_st (X := XI E G.J l xs k) (fn := fn) inv hg rfl hargs
    rw [hσ] at hst
    have hc : fn.body = some (fn.body.get hb) := by simp
    have e0 : (#[Value.func (.yield l) #[] #[]] ++ vals.toArray) = (Value.func (.yield l) #[] #[] :: vals).toArray := by simp
    rw [e0]
    refine (callsIn_wide (n := 0)).1 (callsIn_of_wp_marks hf hc trivial ?_)
    refine wpIn_mono (hev Fence.wide 0 _ _ ⟨.inl rfl, .inr rfl⟩ hst) fun e a' w' ⟨s', ⟨he, h1⟩, h3⟩ => ?_
    obtain ⟨G1, rfl, hs, inv1, hg1, x1, hJ1, rs, hd, hnd, hne, hrs⟩ := h3
    have key : LeavesInM Fence.wide 0 Tryz.prog fn a'.tmps (fun e w' => ∃ v G', e = .returned v ∧ G'.w = w' ∧ Ext G G' ∧ Inv G' ∧ G'.t = min xs.length (k + 1)) a'.defers .returning G1.w := by
      rw [hd]
      refine leaves_marks rs G1.w hnd (fun r hr => (hrs r hr).1) fun w' hp => ?_
      obtain ⟨G2, rfl, e2, x2, inv2, tr⟩ := hp.ext rfl (fun r hr => (hrs r hr).2.1) (fun h => hJ1.trans (hne h).1) inv1 x1
      have hs2 : Slots G2 s' a' := ⟨hs.1, fun t => tr _ _ (hs.2.1 t), e2.trans hs.2.2⟩
      have hq : resAs (XI E G.J l xs k) s' fn.results.toList = some (.tup []) := by rw [hres]; rfl
      obtain ⟨u, h4, h5⟩ := run_results (X := XI E G.J l xs k) rfl inv2 hs2 hq
      refine ⟨u, h4, u, G2, rfl, rfl, x2, inv2, ?_⟩
      have h6 : G2.σ[0]? = some (.tick (min xs.length (k + 1))) := by rw [hs2.2.2]; exact h1
      exact ((inv2.tks 0 _ h6).1 rfl).symm
    rcases he with rfl | rfl <;> exact key

theorem okXJ {E : Env} (ok : OkA E) (J : Foe) : OkX Tryz.prog { XE E with J := J } := ⟨rfl, fun f S hS => ok f S hS _, fun l S hS => by cases hS⟩
/-- a contract with a store, whatever is foreign, from the walk -/
theorem soundA_of_wk {E : Env} (ok : OkA E) (hm : Tryz.prog.follows .mixedOrders = true) {f : Nat} {fn : Func} (hf : Tryz.prog.funcs[f]? = some fn) (hb : fn.body.isSome = true) (hn : (fn.name == "runtime.NumGoroutine") = false) {S : Spec}
    (h : ∀ args st r st', S args st = some (r, st') → ∀ (J : Foe) (_ : OkX Tryz.prog { XE E with J := J }) (G0 : { G : Gh // G.σ = st }), wk Tryz.prog { XE E with J := J } G0.1 (fun e s => (e = .normal ∨ e = .ret) ∧ resAs (XE E) s fn.results.toList = some r ∧ s.st = st') (fn.body.get hb) [] (entry fn args st)) : SoundA Tryz.prog gl f S := fun J =>
  soundF_of_ev' (X := { XE E with J := J }) rfl hf (c := fn.body.get hb) (by simp) hn fun args st r st' hr G0 hσ => ev_of_wk (X := { XE E with J := J }) (okXJ ok J) hm (h args st r st' hr J (okXJ ok J) ⟨G0, hσ⟩)
/-- a contract with a store, where nothing is foreign, from the walk -/
theorem soundF_of_wk {X : Cfg} (ok : OkX Tryz.prog X) (hm : Tryz.prog.follows .mixedOrders = true) {f : Nat} {fn : Func} (hf : Tryz.prog.funcs[f]? = some fn) (hb : fn.body.isSome = true) (hn : (fn.name == "runtime.NumGoroutine") = false) {S : Spec}
    (h : ∀ args st r st', S args st = some (r, st') → ∀ G0 : { G : Gh // G.σ = st }, wk Tryz.prog X G0.1 (fun e s => (e = .normal ∨ e = .ret) ∧ resAs X s fn.results.toList = some r ∧ s.st = st') (fn.body.get hb) [] (entry fn args st)) : SoundJ Tryz.prog X.G X.J f S :=
  soundF_of_ev' ok.T hf (c := fn.body.get hb) (by simp) hn fun args st r st' hr G0 hσ => ev_of_wk ok hm (h args st r st' hr ⟨G0, hσ⟩)

/-- a round's end: the newest blocks are left -/
theorem less_end {X : Cfg} (hz : FzG X.G) {G0 : Gh} {s : ASt} {st : Sto} (h0 : G0.σ.length ≤ st.length) (hst : s.st.take st.length = st) (hb : st.all (blwB st.length) = true) : Less X G0 s ⟨s.n, fun _ => .undef, st⟩ :=
  less_drop hz (st2 := s.st.drop st.length) h0 rfl (by conv => lhs; rw [← List.take_append_drop st.length s.st, hst]) hb (fun _ => .inl rfl)
/-- a round that goes on -/
theorem roundEnd_on {s : ASt} {k t : Nat} {ex : Exit} {I : Nat → Sto} (ht : t < k) (st : Sto) (hI : I (t + 1) = st) (h0 : (I t).length ≤ st.length) (hst : s.st.take st.length = st) (hb : st.all (blwB st.length) = true) : RoundEnd k ex I t .normal s :=
  ⟨fun _ => rfl, fun h => absurd ht h, by rw [hI]; exact hst, by rw [hI]; exact hb, by rw [hI]; exact h0⟩
/-- the round that ends it -/
theorem roundEnd_off {s : ASt} {k t : Nat} {ex : Exit} {I : Nat → Sto} (ht : t = k) (st : Sto) (hI : I (t + 1) = st) (h0 : (I t).length ≤ st.length) (hst : s.st.take st.length = st) (hb : st.all (blwB st.length) = true) : RoundEnd k ex I t ex s :=
  ⟨fun h => absurd h (by omega), fun _ => rfl, by rw [hI]; exact hst, by rw [hI]; exact hb, by rw [hI]; exact h0⟩
/-- the rule, evaluated -/
theorem rf_of {E : Env} {B : List Nat} (ok : OkX Tryz.prog (XB E B)) (hm : Tryz.prog.follows .mixedOrders = true) {G0 : Gh} {s : ASt} {Q : Exit → ASt → Prop} {kt : List Kt} {g : Operand} {ps : Array Nat} {assign body : Code} {f : Nat} {cap cap' : List AV} {gI : List AV → Sto → Option (List (List AV))} {own : Sto}
    (sel : List Nat) (si : SoundI Tryz.prog gl f gI) (l : List (Nat × AV)) (xs : List (List AV)) (k : Nat) (ex : Exit) (I : Nat → Sto) (hg : s.ev (XB E B) g = .fn (.func f) [] cap) (hnd : sel.Nodup) (hsel : mapO (fun b => s.st[b]?) sel = some own) (hown : own.all fzB = true)
    (hcap : mapO (reb sel) cap = some cap') (hxs : gI cap' own = some xs) (hfr : ∀ p ∈ l, s.fr p.1 = p.2)
    (hex : IsJump ex) (hI0 : I 0 = kill sel s.st) (hps : ∀ p ∈ ps.toList, p < s.n) (hflat : ∀ x ∈ xs, flatL x = true) (hlen : ∀ x ∈ xs, x.length = ps.size)
    (ro : ∀ (t : Nat) (x : List AV), xs[t]? = some x → t ≤ k → ∀ G1 : { G : Gh // G.σ = I t }, wk Tryz.prog (XRB E B) G1.1 (fun e s1 => e = .normal ∧ ∀ G2 : { G : Gh // G.σ = s1.st }, wk Tryz.prog (XRB E B) G2.1 (RoundEnd k ex I t) body [] s1) assign [] ⟨s.n, setPs (frL l) ps.toList x, I t⟩)
    (hdone : xs.length ≤ k → go Tryz.prog (XB E B) G0 Q kt .normal ⟨s.n, frL l, I xs.length⟩) (hstop : k < xs.length → go Tryz.prog (XB E B) G0 Q kt ex ⟨s.n, frL l, I (k + 1)⟩) : rf Tryz.prog (XB E B) G0 Q g ps assign body kt s := by
  refine ev_rangeFunc (X := XB E B) rfl rfl fz_gl hg si sel hnd hsel hown hcap hxs (frL l) (fun t => ?_) k ex I hex hI0 hps hflat hlen (fun t x hx ht G1 => ?_) hdone hstop
  · clear hsel hg hdone hstop ro hps hI0
    induction l with
    | nil => exact .inr rfl
    | cons p l ih =>
      obtain ⟨q, v⟩ := p
      simp only [frL]
      split
      · rename_i ht
        subst ht
        exact .inl (hfr (t, v) (by simp))
      · exact ih fun p hp => hfr p (by simp [hp])
  · refine ev_mono (ev_of_wk ok.rd hm (ro t x hx ht G1)) fun e s1 ⟨h1, h2⟩ => ⟨h1, fun G2 => ev_of_wk ok.rd hm (h2 G2)⟩
end Go.Proofs.YtgpkochbmfhmdaaGreatDoor.Lift
namespace Go.Proofs.YtgpkochbmfhmdaaGreatDoor.Lift
open Go
set_option maxRecDepth 100000

theorem blwL_of {k : Nat} : ∀ {l : List AV}, (∀ p ∈ l, blw k p = true) → blwL k l = true
  | [], _ => rfl
  | a :: l, h => by
    simp only [blwL, Bool.and_eq_true]
    exact ⟨h a (by simp), blwL_of fun p hp => h p (by simp [hp])⟩
theorem blw_of_cells {k : Nat} {x : AV} (h : blwL k x.cells = true) : blw k x = true := by
  cases x <;> simp_all [AV.cells, blw, blwL]
mutual
/-- what lies in memory refers to blocks that there are -/
theorem Rep.blw {G : Gh} {a : AV} {v : Value} (h : Rep G a v) : blw G.σ.length a = true := by
  match h with
  | .undef v => rfl
  | .bool b => rfl
  | .int k n => rfl
  | .str s => rfl
  | .nilp => rfl
  | .ptr h hr => obtain ⟨k, hk, _⟩ := h; simp only [Lift.blw, decide_eq_true_eq]; exact sto_lt hk
  | .rp h => simp only [Lift.blw]; exact blw_of_cells (RepCells.blw h)
  | .snil => rfl
  | .sl0 a cap h => rfl
  | .sle a cap => rfl
  | .sl hl h => simp only [Lift.blw]; exact RepElems.blw h
  | .sr0 h hr => obtain ⟨k, hk, _⟩ := h; simp only [Lift.blw, decide_eq_true_eq]; exact sto_lt hk
  | .sr h hr hl hb hc => obtain ⟨k, hk, _⟩ := h; simp only [Lift.blw, decide_eq_true_eq]; exact sto_lt hk
  | .srE h hr ho => obtain ⟨k, hk, _⟩ := h; simp only [Lift.blw, decide_eq_true_eq]; exact sto_lt hk
  | .fn h1 h2 => simp only [Lift.blw, Bool.and_eq_true]; exact ⟨RepL.blw h1, RepL.blw h2⟩
  | .nilf => rfl
  | .nilm => rfl
  | .mv hb hf h => simp only [Lift.blw]; exact RepE.blw h
  | .mv0 => rfl
  | .mr h hr => obtain ⟨k, hk, _⟩ := h; simp only [Lift.blw, decide_eq_true_eq]; exact sto_lt hk
  | .agg h => simp only [Lift.blw]; exact RepL.blw h
  | .tup h => simp only [Lift.blw]; exact RepL.blw h
theorem RepL.blw {G : Gh} {a : List AV} {v : List Value} (h : RepL G a v) : blwL G.σ.length a = true := by
  match h with
  | .nil => rfl
  | .cons h t => simp only [blwL, Bool.and_eq_true]; exact ⟨Rep.blw h, RepL.blw t⟩
theorem RepCells.blw {G : Gh} {a : List AV} {b o : Nat} (h : RepCells G a b o) : blwL G.σ.length a = true := by
  match h with
  | .nil _ _ => rfl
  | .cons hf hc h t => simp only [blwL, Bool.and_eq_true]; exact ⟨Rep.blw h, RepCells.blw t⟩
theorem RepElems.blw {G : Gh} {a : List AV} {b o sz : Nat} (h : RepElems G a b o sz) : blwL G.σ.length a = true := by
  match h with
  | .nil _ _ _ => rfl
  | .cons hs h t => simp only [blwL, Bool.and_eq_true]; exact ⟨blw_of_cells (RepCells.blw h), RepElems.blw t⟩
theorem RepE.blw {G : Gh} {a : List (AV × AV)} {v : List MapEntry} (h : RepE G a v) : blwE G.σ.length a = true := by
  match h with
  | .nil => rfl
  | .cons hk h1 h2 t => simp only [blwE, Bool.and_eq_true]; exact ⟨⟨Rep.blw h1, Rep.blw h2⟩, RepE.blw t⟩
end
/-- the store is shut: its blocks refer to blocks that there are -/
theorem Inv.shut {G : Gh} (inv : Inv G) : G.σ.all (blwB G.σ.length) = true := by
  rw [List.all_eq_true]
  intro k hk
  obtain ⟨b, hb, e⟩ := List.getElem_of_mem hk
  have hb' : G.σ[b]? = some k := by rw [← e]; exact List.getElem?_eq_getElem hb
  cases k with
  | row sz g lo xs =>
    obtain ⟨_, h2, h3⟩ := inv.rows b sz g lo xs hb'
    cases hr : G.ρ b g with
    | none => rw [h3 hr]; rfl
    | some blk =>
      obtain ⟨c, e, fz, _, _, h6, _⟩ := h2 blk hr
      refine blwL_of fun y hy => ?_
      obtain ⟨i, hi, e'⟩ := List.getElem_of_mem hy
      have hy' : xs[i]? = some y := by rw [← e']; exact List.getElem?_eq_getElem hi
      refine blw_of_cells (blwL_of fun z hz => ?_)
      obtain ⟨j, hj, e''⟩ := List.getElem_of_mem hz
      obtain ⟨v, _, h8⟩ := (h6 i y hy').2 j z (by rw [← e'']; exact List.getElem?_eq_getElem hj)
      exact h8.blw
  | map es =>
    obtain ⟨_, _, _, _, _, h, _⟩ := inv.maps b es hb'
    exact h.blw
  | tick n => rfl
  | dead sz g => rfl
  | iter s i => rfl

/-- a contract with a store, where nothing is foreign: the newest blocks are left at the end -/
theorem soundD_of_wk {E : Env} {B : List Nat} (ok : OkX Tryz.prog (XB E B)) (hm : Tryz.prog.follows .mixedOrders = true) {f : Nat} {fn : Func} (hf : Tryz.prog.funcs[f]? = some fn) (hb : fn.body.isSome = true) (hn : (fn.name == "runtime.NumGoroutine") = false) {S : Spec}
    (h : ∀ args st r st', S args st = some (r, st') → st.all (blwB st.length) = true → st.length ≤ st'.length ∧ st'.all (blwB st'.length) = true ∧ blw st'.length r = true ∧ ∀ G0 : { G : Gh // G.σ = st }, wk Tryz.prog (XB E B) G0.1 (fun e s => (e = .normal ∨ e = .ret) ∧ resAs (XB E B) s fn.results.toList = some r ∧ s.st.take st'.length = st') (fn.body.get hb) [] (entry fn args st)) : SoundF Tryz.prog gl f S where
  calls := fun G args vals r σ' hr inv hJ hg hargs => by
    obtain ⟨hlen, hall, hblw, hw⟩ := h args G.σ r σ' hr inv.shut
    have hev := ev_of_wk ok hm (hw ⟨G, rfl⟩)
    have hst := entry_st (X := XB E B) (fn := fn) inv hg hJ hargs
    have hc : fn.body = some (fn.body.get hb) := by simp
    refine .inl ⟨run_callFunc hf (by rw [← Option.not_isSome, hb]; rfl) hn _ _, (callsIn_wide (n := 0)).1 (callsIn_of_wp_marks hf hc trivial ?_)⟩
    refine wpIn_mono (hev Fence.wide 0 _ _ ⟨.inl rfl, .inr rfl⟩ hst) fun e a' w' ⟨s', ⟨he, h1, h2⟩, h3⟩ => ?_
    obtain ⟨G1, rfl, hs, inv1, hg1, x1, hJ1, rs, hd, hnd, hne, hrs⟩ := h3
    have key : LeavesInM Fence.wide 0 Tryz.prog fn a'.tmps (Ret G r σ') a'.defers .returning G1.w := by
      rw [hd]
      refine leaves_marks rs G1.w hnd (fun r hr => (hrs r hr).1) fun w' hp => ?_
      obtain ⟨G2, rfl, e2, x2, inv2, tr⟩ := hp.ext rfl (fun r hr => (hrs r hr).2.1) (fun h => hJ1.trans (hne h).1) inv1 x1
      have hs2 : Slots G2 s' a' := ⟨hs.1, fun t => tr _ _ (hs.2.1 t), e2.trans hs.2.2⟩
      obtain ⟨u, h4, h5⟩ := run_results (X := XB E B) rfl inv2 hs2 h1
      have hcut : s'.st = σ' ++ s'.st.drop σ'.length := by conv => lhs; rw [← List.take_append_drop σ'.length s'.st, h2]
      have hg2 : Glob (XB E B) G2 := fun g v hv => (hg g v hv).ext x2
      obtain ⟨_, inv3, _, x3⟩ := drop_at (X := XB E B) (a := a') (n := s'.n) (fr := fun _ => .undef) fz_gl hlen rfl hcut hall (fun _ => .inl rfl) hs2 inv2 hg2 x2
      refine ⟨u, h4, { G2 with σ := σ' }, rfl, rfl, x3, inv3, ?_⟩
      refine Rep.cut (k := σ'.length) (G := G2) (H := { G2 with σ := σ' }) ⟨rfl, rfl, rfl, fun b hb => ?_⟩ hblw h5
      show σ'[b]? = G2.σ[b]?
      rw [hs2.2.2, hcut, List.getElem?_append_left hb]
    rcases he with rfl | rfl <;> exact key
end Go.Proofs.YtgpkochbmfhmdaaGreatDoor.Lift
namespace Go.Proofs.YtgpkochbmfhmdaaGreatDoor.Lift
open Go
set_option maxRecDepth 100000

section
variable {α : Type}
def fD (n : Nat) (k : Nat → α) : α := match n with
  | 0 => k 0 | 1 => k 1 | 2 => k 2 | 3 => k 3 | 4 => k 4 | 5 => k 5 | 6 => k 6 | 7 => k 7 | 8 => k 8 | 9 => k 9 | 10 => k 10 | 11 => k 11 | 12 => k 12 | 13 => k 13 | 14 => k 14 | 15 => k 15
  | n => k n
theorem fD_eq (n : Nat) (k : Nat → α) : fD n k = k n := by
  unfold fD
  split <;> rfl
def fN : Nat → Nat → (Nat → α) → α
  | 0, n, k => k n
  | f + 1, n, k => match Nat.ble 16 n with
    | true => fN f (n / 16) fun h => fD (n % 16) fun l => k (16 * h + l)
    | false => fD n k
theorem fN_eq : ∀ (f n : Nat) (k : Nat → α), fN f n k = k n
  | 0, _, _ => rfl
  | f + 1, n, k => by
    unfold fN
    split
    · rw [fN_eq f, fD_eq, Nat.div_add_mod]
    · rw [fD_eq]
def fI (n : Int) (k : Int → α) : α := match n with
  | .ofNat m => fN 20 m fun m => k (.ofNat m)
  | .negSucc m => fN 20 m fun m => k (.negSucc m)
theorem fI_eq (n : Int) (k : Int → α) : fI n k = k n := by
  unfold fI
  split <;> rw [fN_eq]
mutual
def fv : AV → (AV → α) → α
  | .undef, k => k .undef
  | .bool b, k => match b with | true => k (.bool true) | false => k (.bool false)
  | .int kd n, k => fI n fun n => k (.int kd n)
  | .str s, k => k (.str s)
  | .nilp, k => k .nilp
  | .ptr b g i o, k => fN 20 b fun b => fN 20 g fun g => fN 20 i fun i => fN 20 o fun o => k (.ptr b g i o)
  | .rp x o, k => fv x fun x => fN 20 o fun o => k (.rp x o)
  | .snil, k => k .snil
  | .sle, k => k .sle
  | .sl xs, k => fvL xs fun xs => k (.sl xs)
  | .sr b g o l, k => fN 20 b fun b => fN 20 g fun g => fN 20 o fun o => fN 20 l fun l => k (.sr b g o l)
  | .fn f a c, k => fvL a fun a => fvL c fun c => k (.fn f a c)
  | .nilf, k => k .nilf
  | .nilm, k => k .nilm
  | .mv es, k => k (.mv es)
  | .mr b, k => fN 20 b fun b => k (.mr b)
  | .agg cs, k => fvL cs fun cs => k (.agg cs)
  | .tup vs, k => fvL vs fun vs => k (.tup vs)
def fvL : List AV → (List AV → α) → α
  | [], k => k []
  | x :: r, k => fv x fun x => fvL r fun r => k (x :: r)
end
mutual
theorem fv_eq : ∀ (x : AV) (k : AV → α), fv x k = k x
  | .undef, _ => rfl
  | .bool b, k => by cases b <;> rfl
  | .int kd n, k => by rw [fv, fI_eq]
  | .str _, _ => rfl
  | .nilp, _ => rfl
  | .ptr b g i o, k => by rw [fv, fN_eq, fN_eq, fN_eq, fN_eq]
  | .rp x o, k => by rw [fv, fv_eq x, fN_eq]
  | .snil, _ => rfl
  | .sle, _ => rfl
  | .sl xs, k => by rw [fv, fvL_eq xs]
  | .sr b g o l, k => by rw [fv, fN_eq, fN_eq, fN_eq, fN_eq]
  | .fn f a c, k => by rw [fv, fvL_eq a, fvL_eq c]
  | .nilf, _ => rfl
  | .nilm, _ => rfl
  | .mv _, _ => rfl
  | .mr b, k => by rw [fv, fN_eq]
  | .agg cs, k => by rw [fv, fvL_eq cs]
  | .tup vs, k => by rw [fv, fvL_eq vs]
theorem fvL_eq : ∀ (x : List AV) (k : List AV → α), fvL x k = k x
  | [], _ => rfl
  | x :: r, k => by rw [fvL, fv_eq x, fvL_eq r]
end
def fvE : List (AV × AV) → (List (AV × AV) → α) → α
  | [], k => k []
  | (a, b) :: r, k => fv a fun a => fv b fun b => fvE r fun r => k ((a, b) :: r)
theorem fvE_eq : ∀ (x : List (AV × AV)) (k : List (AV × AV) → α), fvE x k = k x
  | [], _ => rfl
  | (a, b) :: r, k => by rw [fvE, fv_eq, fv_eq, fvE_eq r]
def fB (b : ABlk) (k : ABlk → α) : α := match b with
  | .row sz g lo xs => fN 20 sz fun sz => fN 20 g fun g => fN 20 lo fun lo => fvL xs fun xs => k (.row sz g lo xs)
  | .map es => fvE es fun es => k (.map es)
  | .dead sz g => fN 20 sz fun sz => fN 20 g fun g => k (.dead sz g)
  | .tick n => k (.tick n)
  | .iter s i => fN 20 i fun i => k (.iter s i)
theorem fB_eq (b : ABlk) (k : ABlk → α) : fB b k = k b := by
  cases b <;> simp only [fB, fN_eq, fvL_eq, fvE_eq]
def fS : Sto → (Sto → α) → α
  | [], k => k []
  | b :: r, k => fB b fun b => fS r fun r => k (b :: r)
theorem fS_eq : ∀ (x : Sto) (k : Sto → α), fS x k = k x
  | [], _ => rfl
  | b :: r, k => by rw [fS, fB_eq, fS_eq r]
end
end Go.Proofs.YtgpkochbmfhmdaaGreatDoor.Lift
namespace Go.Proofs.YtgpkochbmfhmdaaGreatDoor.Lift
open Go
set_option maxRecDepth 100000

def ev_move (X : Cfg) (s : ASt) (x : Operand) : Option (AV × Sto) := some (s.ev X x, s.st)
def ev_assign (X : Cfg) (s : ASt) (x : Operand) : Option (AV × Sto) := some (s.ev X x, s.st)
def ev_pick (X : Cfg) (s : ASt) (c : Operand) (a : Operand) (b : Operand) : Option (AV × Sto) := match s.ev X c with
    | .bool t => some (if t then s.ev X a else s.ev X b, s.st)
    | _ => none
def ev_alloc (X : Cfg) (s : ASt) (dst_ : Option Nat) (t : Nat) : Option (AV × Sto) := match X.T t with
    | some ti => match resAt X.A dst_ with
      | none => some (.ptr s.st.length 0 0 0, s.st ++ [.row ti.size 0 0 [mkv ti.agg ti.zero]])
      | some k => match s.st[k]? with
        | some (.row sz 0 0 []) => if sz = ti.size then some (.ptr k 1 0 0, s.st.set k (.row sz 1 0 [mkv ti.agg ti.zero])) else none
        | _ => none
    | none => none
def ev_box (X : Cfg) (s : ASt) (dst_ : Option Nat) (_u : Nat) (x : Operand) : Option (AV × Sto) := if (s.ev X x).whole = true then (match resAt X.A dst_ with
      | none => some (.ptr s.st.length 0 0 0, s.st ++ [.row (s.ev X x).cells.length 0 0 [s.ev X x]])
      | some k => match s.st[k]? with
        | some (.row sz 0 0 []) => if sz = (s.ev X x).cells.length then some (.ptr k 1 0 0, s.st.set k (.row sz 1 0 [s.ev X x])) else none
        | _ => none) else none
def ev_build (X : Cfg) (s : ASt) (t : Nat) (parts : Array (Nat×Operand)) : Option (AV × Sto) := match X.T t with
    | some ⟨.struct fs, _, z, _, _⟩ =>
      if fs.all (fun f => (X.T f.2).isSome) = true ∧ (parts.toList.map fun p => s.ev X p.2).all (fun v => v.whole) = true then
      match fillParts (fun i => match fs[i]? with | some (off, ft) => (match X.T ft with | some fti => some (off, fti.size) | none => none) | none => none) z (parts.toList.map fun p => (p.1, s.ev X p.2)) with
      | some cs => some (.agg cs, s.st)
      | none => none
      else none
    | some ⟨.array _ e, _, z, _, _⟩ => match X.T e with
      | some te => if (parts.toList.map fun p => s.ev X p.2).all (fun v => v.whole) = true then
          match fillParts (fun i => some (i * te.size, te.size)) z (parts.toList.map fun p => (p.1, s.ev X p.2)) with
          | some cs => some (.agg cs, s.st)
          | none => none
        else none
      | none => none
    | _ => none
def ev_buildSlice (X : Cfg) (s : ASt) (dst_ : Option Nat) (t : Nat) (len : Nat) (parts : Array (Nat×Operand)) : Option (AV × Sto) := match X.T t with
    | some ⟨.slice e, _, _, _, _⟩ => match X.T e with
      | some te =>
        let vs := parts.toList.map fun p => s.ev X p.2
        if parts.toList.map (·.1) = List.range len ∧ vs.all (fun v => decide (v.cells.length = te.size ∧ v.whole = true)) = true ∧ len * te.size ≤ 16777216 then
          (if frozenAt X.B dst_ = true ∧ fzL vs = true then some (.sl vs, s.st) else match resAt X.A dst_ with
            | none => some (.sr s.st.length 0 0 len, s.st ++ [.row te.size 0 0 vs])
            | some k => match s.st[k]? with
              | some (.row sz 0 0 []) => if sz = te.size then some (.sr k 1 0 len, s.st.set k (.row sz 1 0 vs)) else none
              | _ => none)
        else none
      | none => none
    | _ => none
def ev_load (X : Cfg) (s : ASt) (t : Nat) (a : Operand) : Option (AV × Sto) := match X.T t with
    | some ti => (loadAt ti s.st (s.ev X a)).map fun v => (v, s.st)
    | none => none
def ev_store (X : Cfg) (s : ASt) (t : Nat) (a : Operand) (x : Operand) : Option (AV × Sto) := match X.T t with
    | some ti => (storeAt ti s.st (s.ev X a) (s.ev X x)).map fun st => (.tup [], st)
    | none => none
def ev_nilCheck (X : Cfg) (s : ASt) (x : Operand) : Option (AV × Sto) := match s.ev X x with
    | .ptr b g i off => some (.ptr b g i off, s.st)
    | .rp v off => some (.rp v off, s.st)
    | .fn (.func f) a b => some (.fn (.func f) a b, s.st)
    | _ => none
def ev_binOp (X : Cfg) (s : ASt) (op : BinOp) (t : Nat) (x : Operand) (y : Operand) : Option (AV × Sto) := match X.T t with
    | some ti => (evBin op ti (s.ev X x) (s.ev X y)).map fun v => (v, s.st)
    | none => none
def ev_unOp (X : Cfg) (s : ASt) (op : UnOp) (x : Operand) : Option (AV × Sto) := (evUn op (s.ev X x)).map fun v => (v, s.st)
def ev_convert (X : Cfg) (s : ASt) (src : Nat) (dst : Nat) (x : Operand) : Option (AV × Sto) := match X.T src, X.T dst, s.ev X x with
    | some _, some ⟨.int k, _, _, _, _⟩, .int _ n => some (.int k (k.wrap n), s.st)
    | some ⟨.str, _, _, _, _⟩, some ⟨.str, _, _, _, _⟩, .str b => some (.str b, s.st)
    | some ⟨.str, _, _, _, _⟩, some ⟨.slice e, _, _, _, _⟩, .str b => match X.T e with
      | some ⟨.int .u8, 1, _, _, _⟩ => some (.sr s.st.length 0 0 b.length, s.st ++ [.row 1 0 0 (b.map fun c => .int .u8 c.toNat)])
      | _ => none
    | some ⟨.slice e, _, _, _, _⟩, some ⟨.str, _, _, _, _⟩, x => match X.T e, elemsOf s.st x with
      | some ⟨.int .u8, 1, _, _, _⟩, some xs => (bytesOf xs).map fun b => (.str b, s.st)
      | _, _ => none
    | _, _, _ => none
def ev_makeFunc (X : Cfg) (s : ASt) (f : Fn) (first : Array (Operand)) (cap : Array (Operand)) : Option (AV × Sto) := some (.fn f (first.toList.map (s.ev X)) (cap.toList.map (s.ev X)), s.st)
def ev_makeMap (X : Cfg) (s : ASt) (dst_ : Option Nat) (t : Nat) (r : Option Operand) : Option (AV × Sto) := match r with
  | some _ => none
  | none => match X.T t with
    | some ⟨.map _ _, _, _, _, _⟩ => match resAt X.A dst_ with
      | none => some (.mr s.st.length, s.st ++ [.map []])
      | some k => match s.st[k]? with
        | some (.tick 0) => some (.mr k, s.st.set k (.map []))
        | _ => none
    | _ => none
def ev_makeSlice (X : Cfg) (s : ASt) (dst_ : Option Nat) (t : Nat) (l : Operand) (c : Operand) : Option (AV × Sto) := match X.T t, s.ev X l, s.ev X c with
    | some ⟨.slice e, _, _, _, _⟩, .int _ n, .int _ m => match X.T e with
      | some te => if 0 ≤ n ∧ n ≤ m ∧ m * te.bytes ≤ 140737488355328 ∧ m ≤ 140737488355328 then (match resAt X.A dst_ with
          | none => some (.sr s.st.length 0 0 n.toNat, s.st ++ [.row te.size 0 0 (List.replicate n.toNat (mkv te.agg te.zero))])
          | some k => match s.st[k]? with
            | some (.row sz 0 0 []) => if sz = te.size then some (.sr k 1 0 n.toNat, s.st.set k (.row sz 1 0 (List.replicate n.toNat (mkv te.agg te.zero)))) else none
            | _ => none) else none
      | none => none
    | _, _, _ => none
def ev_slice1 (X : Cfg) (s : ASt) (t : Nat) (x : Operand) (lo hi : Option Operand) : Option (AV × Sto) := match s.ev X x with
    | .str b => match X.T t, optIdx (lo.map (s.ev X)) 0, optIdx (hi.map (s.ev X)) b.length with
      | some ⟨.str, _, _, _, _⟩, some l, some h => if l ≤ h ∧ h ≤ b.length then some (.str ((b.take h).drop l), s.st) else none
      | _, _, _ => none
    | .sl xs => match X.T t, optIdx (lo.map (s.ev X)) 0, optIdx (hi.map (s.ev X)) xs.length with
      | some ⟨.slice e, _, _, _, _⟩, some l, some h => match X.T e with
        | some te => if l ≤ h ∧ h ≤ xs.length ∧ (l = 0 ∨ xs.all (fun x => decide (x.cells.length = te.size)) = true) then some (.sl ((xs.take h).drop l), s.st) else none
        | none => none
      | _, _, _ => none
    | .sr b g off len => match X.T t, optIdx (lo.map (s.ev X)) 0, optIdx (hi.map (s.ev X)) len with
      | some ⟨.slice e, _, _, _, _⟩, some l, some h => match X.T e, s.st[b]? with
        | some te, some k => if l ≤ h ∧ h ≤ len ∧ (k.sz = some te.size) then some (.sr b g (off + l) (h - l), s.st) else none
        | _, _ => none
      | _, _, _ => none
    | .snil => match X.T t, optIdx (lo.map (s.ev X)) 0, optIdx (hi.map (s.ev X)) 0 with
      | some ⟨.slice e, _, _, _, _⟩, some 0, some 0 => if (X.T e).isSome = true then some (.snil, s.st) else none
      | _, _, _ => none
    | .rp v off => match lo, hi, X.T t with
      | none, none, some ⟨.array n e, _, _, _, _⟩ => match X.T e with
        | some te => if off + n * te.size ≤ v.cells.length ∧ (te.agg = true ∨ te.size = 1 ∧ v.cells.all (fun c => !c.isAgg) = true) then some (.sl (chunks te.agg te.size n (v.cells.drop off)), s.st) else none
        | none => none
      | _, _, _ => none
    | _ => none
def ev_slice2 (X : Cfg) (s : ASt) (t : Nat) (x : Operand) (lo : Option Operand) (hi mx : Operand) : Option (AV × Sto) := match X.T t, optIdx (lo.map (s.ev X)) 0, optIdx (some (s.ev X hi)) 0, optIdx (some (s.ev X mx)) 0 with
    | some ⟨.slice e, _, _, _, _⟩, some l, some h, some m => match X.T e with
      | some te => match s.ev X x with
        | .sl xs => if l ≤ h ∧ h ≤ m ∧ m ≤ xs.length ∧ (l = 0 ∨ xs.all (fun x => decide (x.cells.length = te.size)) = true) then some (.sl ((xs.take h).drop l), s.st) else none
        | .sr b g off len => match s.st[b]? with
          | some k => if l ≤ h ∧ h ≤ m ∧ m ≤ len ∧ (k.sz = some te.size) then some (.sr b g (off + l) (h - l), s.st) else none
          | none => none
        | _ => none
      | none => none
    | _, _, _, _ => none
def ev_slice (X : Cfg) (s : ASt) (t : Nat) (x : Operand) (lo hi mx : Option Operand) : Option (AV × Sto) := match mx with
  | none => ev_slice1 X s t x lo hi
  | some mx => (match hi with | some hi => ev_slice2 X s t x lo hi mx | none => none)
def ev_fieldAddr (X : Cfg) (s : ASt) (t : Nat) (x : Operand) (f : Nat) : Option (AV × Sto) := match X.T t with
    | some ⟨.struct fs, _, _, _, _⟩ => match fs[f]? with
      | some (o, ft) => match X.T ft with
        | some fti => if fti.size = 0 then none else match s.ev X x with
          | .ptr b g i off => some (.ptr b g i (off + o), s.st)
          | .rp v off => some (.rp v (off + o), s.st)
          | _ => none
        | none => none
      | none => none
    | _ => none
def ev_field (X : Cfg) (s : ASt) (t : Nat) (x : Operand) (f : Nat) : Option (AV × Sto) := match X.T t with
    | some ⟨.struct fs, _, _, _, _⟩ => match fs[f]? with
      | some (o, ft) => match X.T ft with
        | some fti => match s.ev X x with
          | .agg cs => (part fti (.agg cs) o).map fun v => (v, s.st)
          | _ => none
        | none => none
      | none => none
    | _ => none
def ev_indexAddr (X : Cfg) (s : ASt) (t : Nat) (x : Operand) (ix : Operand) : Option (AV × Sto) := match X.T t with
    | some ⟨.slice e, _, _, _, _⟩ => match X.T e with
      | some te => match s.ev X ix with
        | .int _ i => match s.ev X x with
          | .sl xs => if 0 ≤ i then (match xs[i.toNat]? with | some v => if v.cells.length = te.size then some (.rp v 0, s.st) else none | none => none) else none
          | .sr b g off len => if 0 ≤ i ∧ i < len then (match s.st[b]? with | some k => if k.sz = some te.size then some (.ptr b g (off + i.toNat) 0, s.st) else none | none => none) else none
          | _ => none
        | _ => none
      | none => none
    | some ⟨.array n e, _, _, _, _⟩ => match X.T e with
      | some te => match s.ev X ix with
        | .int _ i => if 0 ≤ i ∧ i < n then (match s.ev X x with
          | .ptr b g j off => some (.ptr b g j (off + i.toNat * te.size), s.st)
          | .rp v off => some (.rp v (off + i.toNat * te.size), s.st)
          | _ => none) else none
        | _ => none
      | none => none
    | _ => none
def ev_index (X : Cfg) (s : ASt) (t : Nat) (x : Operand) (ix : Operand) : Option (AV × Sto) := match X.T t with
    | some ⟨.str, _, _, _, _⟩ => match s.ev X x, s.ev X ix with
      | .str b, .int _ i => if 0 ≤ i then (match b[i.toNat]? with | some c => some (.int .u8 c.toNat, s.st) | none => none) else none
      | _, _ => none
    | some ⟨.array n e, _, _, _, _⟩ => match X.T e with
      | some te => match s.ev X x, s.ev X ix with
        | .agg cs, .int _ i => if 0 ≤ i ∧ i < n then (part te (.agg cs) (i.toNat * te.size)).map fun v => (v, s.st) else none
        | _, _ => none
      | none => none
    | _ => none
def ev_lookup (X : Cfg) (s : ASt) (t : Nat) (m : Operand) (k : Operand) (ok : Bool) : Option (AV × Sto) := match X.T t with
    | some ⟨.map kt e, _, _, _, _⟩ => match X.T kt, X.T e, entsOf s.st (s.ev X m) with
      | some tk, some te, some es => if keyTD tk.d (s.ev X k) = true then (match mget es (s.ev X k) with
        | some r => some (if ok then .tup [r.getD (mkv te.agg te.zero), .bool r.isSome] else r.getD (mkv te.agg te.zero), s.st)
        | none => none) else none
      | _, _, _ => none
    | _ => none
def ev_mapUpdate (X : Cfg) (s : ASt) (t : Nat) (m : Operand) (k : Operand) (v : Operand) : Option (AV × Sto) := match X.T t with
    | some ⟨.map kt _, _, _, _, _⟩ => match X.T kt, s.ev X m with
      | some tk, .mr b => match s.st[b]? with
        | some (.map es) => if keyTD tk.d (s.ev X k) = true ∧ fz (s.ev X v) = true then (mset es (s.ev X k) (s.ev X v)).map fun es' => (.tup [], s.st.set b (.map es')) else none
        | _ => none
      | _, _ => none
    | _ => none
def ev_insert (X : Cfg) (s : ASt) (t : Nat) (m : Operand) (k : Operand) (v : Operand) : Option (AV × Sto) := match X.T t with
    | some ⟨.map kt _, _, _, _, _⟩ => match X.T kt, s.ev X m with
      | some tk, .mr b => match s.st[b]? with
        | some (.map es) => if keyTD tk.d (s.ev X k) = true ∧ fz (s.ev X v) = true then (mset es (s.ev X k) (s.ev X v)).map fun es' => (.tup [], s.st.set b (.map es')) else none
        | _ => none
      | _, _ => none
    | _ => none
def ev_range (X : Cfg) (s : ASt) (t : Nat) (x : Operand) : Option (AV × Sto) := match X.T t, s.ev X x with
    | some ⟨.str, _, _, _, _⟩, .str b => some (.ptr s.st.length 0 0 0, s.st ++ [.iter b 0])
    | _, _ => none
def ev_next (X : Cfg) (s : ASt) (it : Operand) (b : Bool) : Option (AV × Sto) := match b with
  | false => none
  | true => match s.ev X it with
    | .ptr b 0 0 0 => match s.st[b]? with
      | some (.iter l i) => if i < l.length then some (.tup [.bool true, .int .i64 i, .int .i32 (runeAt l i).1], s.st.set b (.iter l (i + (runeAt l i).2))) else some (.tup [.bool false], s.st)
      | _ => none
    | _ => none
def ev_extract (X : Cfg) (s : ASt) (t : Operand) (i : Nat) : Option (AV × Sto) := match s.ev X t with
    | .tup vs => (vs[i]?).map fun v => (v, s.st)
    | _ => none
def ev_call (X : Cfg) (s : ASt) (c : Call) : Option (AV × Sto) := match c.callee with
    | .builtin b => evBuiltin X s.st b c.argTypes.toList (c.args.toList.map (s.ev X))
    | .value f => callV X (s.ev X f) (c.args.toList.map (s.ev X)) s.st
    | .invoke .. => none
/-- the evaluator, cut -/
def evOperF (X : Cfg) (s : ASt) (o : Oper) : Option (AV × Sto) := match o.op with
  | .move x => ev_move X s x
  | .assign x => ev_assign X s x
  | .pick c a b => ev_pick X s c a b
  | .alloc t => ev_alloc X s o.dst t
  | .box _ x => ev_box X s o.dst 0 x
  | .build t parts => ev_build X s t parts
  | .buildSlice t len parts => ev_buildSlice X s o.dst t len parts
  | .load t a => ev_load X s t a
  | .store t a x => ev_store X s t a x
  | .nilCheck x => ev_nilCheck X s x
  | .binOp op t x y _ => ev_binOp X s op t x y
  | .unOp op _ x => ev_unOp X s op x
  | .convert src dst x => ev_convert X s src dst x
  | .makeFunc f first cap => ev_makeFunc X s f first cap
  | .makeMap t r => ev_makeMap X s o.dst t r
  | .makeSlice t l c => ev_makeSlice X s o.dst t l c
  | .slice t x lo hi mx => ev_slice X s t x lo hi mx
  | .fieldAddr t x f => ev_fieldAddr X s t x f
  | .field t x f => ev_field X s t x f
  | .indexAddr t x ix => ev_indexAddr X s t x ix
  | .index t x ix => ev_index X s t x ix
  | .lookup t m k ok => ev_lookup X s t m k ok
  | .mapUpdate t m k v => ev_mapUpdate X s t m k v
  | .insert t m k v => ev_insert X s t m k v
  | .range t x => ev_range X s t x
  | .next it b => ev_next X s it b
  | .extract t i => ev_extract X s t i
  | .call c => ev_call X s c
  | _ => none
theorem evOperF_eq {X : Cfg} {s : ASt} {o : Oper} : evOperF X s o = evOper X s o := by
  obtain ⟨dst, op, type, pos, after, guard⟩ := o
  cases op
  case slice t x lo hi mx => cases mx <;> cases hi <;> rfl
  case makeMap t r => cases r <;> rfl
  case next it b => cases b <;> rfl
  all_goals rfl
/-- does an operation make a block? -/
def allocs (o : Oper) : Bool := match o.op with
  | .alloc _ | .box .. | .buildSlice .. | .makeMap .. | .makeSlice .. | .convert .. | .range .. => true
  | .call ⟨.builtin _, _, _⟩ => true
  | _ => false
/-- a value, its head carried out -/
def fh {α : Type} (a : Bool) (v : AV) (k : AV → α) : α := match v with
  | .undef => k .undef
  | .bool b => (match b with | true => k (.bool true) | false => k (.bool false))
  | .int kd n => k (.int kd n)
  | .str s => k (.str s)
  | .nilp => k .nilp
  | .ptr b g i o => (match a with | true => fN 20 b fun b => k (.ptr b g i o) | false => k (.ptr b g i o))
  | .rp x o => k (.rp x o)
  | .snil => k .snil
  | .sle => k .sle
  | .sl xs => k (.sl xs)
  | .sr b g o l => (match a with | true => fN 20 b fun b => fN 20 g fun g => fN 20 l fun l => k (.sr b g o l) | false => k (.sr b g o l))
  | .fn f x c => k (.fn f x c)
  | .nilf => k .nilf
  | .nilm => k .nilm
  | .mv es => k (.mv es)
  | .mr b => (match a with | true => fN 20 b fun b => k (.mr b) | false => k (.mr b))
  | .agg cs => k (.agg cs)
  | .tup vs => k (.tup vs)
theorem fh_eq {α : Type} (a : Bool) (v : AV) (k : AV → α) : fh a v k = k v := by
  cases v <;> try rfl
  · rename_i b; cases b <;> rfl
  · cases a
    · rfl
    · simp only [fh, fN_eq]
  · cases a
    · rfl
    · simp only [fh, fN_eq]
  · cases a
    · rfl
    · simp only [fh, fN_eq]
def updF (f : Nat → AV) (k : Nat) (v : AV) : Nat → AV := fun j => match Nat.beq j k with | true => v | false => f j
theorem updF_eq (f : Nat → AV) (k : Nat) (v : AV) : updF f k v = upd f k v := by
  funext j
  unfold updF upd
  by_cases h : j = k
  · subst h
    simp
  · have : Nat.beq j k = false := by
      rw [← Bool.not_eq_true]
      intro e
      exact h (Nat.eq_of_beq_eq_true e)
    rw [this, if_neg h]
def putF (s : ASt) (d : Option Nat) (v : AV) : Option ASt := match d with
  | some d => (match Nat.blt d s.n with | true => some ⟨s.n, updF s.fr d v, s.st⟩ | false => none)
  | none => some s
theorem putF_eq (s : ASt) (d : Option Nat) (v : AV) : putF s d v = s.put d v := by
  cases d with
  | none => rfl
  | some d =>
    simp only [putF, ASt.put, updF_eq]
    by_cases h : d < s.n
    · rw [if_pos h]
      have : Nat.blt d s.n = true := Nat.ble_eq_true_of_le h
      rw [this]
    · rw [if_neg h]
      have : Nat.blt d s.n = false := by
        rw [← Bool.not_eq_true]
        intro e
        exact h (Nat.le_of_ble_eq_true e)
      rw [this]
def step1F (X : Cfg) (gd : Nat → Option Nat) (s : ASt) (o : Oper) : Option ASt := match wantedA gd s o with
  | some true => (match evOperF X s o with
    | some (v, st) => fh (allocs o) v fun v => putF { s with st := st } o.dst v
    | none => none)
  | some false => putF s o.dst (.tup [])
  | none => none
theorem step1F_eq {X : Cfg} {gd : Nat → Option Nat} {s : ASt} {o : Oper} : step1F X gd s o = step1 X gd s o := by
  unfold step1F step1
  simp only [evOperF_eq, fh_eq, putF_eq]
  rfl
def evOpsF (X : Cfg) (gd : Nat → Option Nat) : List Oper → ASt → Option ASt
  | [], s => some s
  | o :: r, s => match step1F X gd s o with
    | some s' => evOpsF X gd r s'
    | none => none
theorem evOpsF_eq {X : Cfg} {gd : Nat → Option Nat} : ∀ {l : List Oper} {s : ASt}, evOpsF X gd l s = evOps X gd l s
  | [], _ => rfl
  | o :: r, s => by
    simp only [evOpsF, evOps, step1F_eq]
    cases step1 X gd s o with
    | none => rfl
    | some s' => exact evOpsF_eq
end Go.Proofs.YtgpkochbmfhmdaaGreatDoor.Lift
namespace Go.Proofs.YtgpkochbmfhmdaaGreatDoor.Lift
open Go
set_option maxRecDepth 100000

/-! values that are the same -/
mutual
def eqA : AV → AV → Bool
  | .undef, .undef => true
  | .bool a, .bool b => decide (a = b)
  | .int k n, .int k' n' => decide (k = k') && decide (n = n')
  | .str a, .str b => decide (a = b)
  | .nilp, .nilp => true
  | .ptr b g i o, .ptr b' g' i' o' => decide (b = b') && decide (g = g') && decide (i = i') && decide (o = o')
  | .rp x o, .rp y o' => eqA x y && decide (o = o')
  | .snil, .snil => true
  | .sle, .sle => true
  | .sl xs, .sl ys => eqAL xs ys
  | .sr b g i o, .sr b' g' i' o' => decide (b = b') && decide (g = g') && decide (i = i') && decide (o = o')
  | .fn (.func a) f c, .fn (.func b) f' c' => decide (a = b) && eqAL f f' && eqAL c c'
  | .nilf, .nilf => true
  | .nilm, .nilm => true
  | .mr b, .mr b' => decide (b = b')
  | .agg xs, .agg ys => eqAL xs ys
  | .tup xs, .tup ys => eqAL xs ys
  | _, _ => false
def eqAL : List AV → List AV → Bool
  | [], [] => true
  | x :: xs, y :: ys => eqA x y && eqAL xs ys
  | _, _ => false
end
mutual
theorem eqA_eq : ∀ {x y : AV}, eqA x y = true → x = y := by
  intro x y h
  match x, y with
  | .rp x o, .rp y o' =>
    simp only [eqA, Bool.and_eq_true, decide_eq_true_eq] at h
    rw [eqA_eq h.1, h.2]
  | .sl xs, .sl ys =>
    have e := eqAL_eq (xs := xs) (ys := ys) (by simpa [eqA] using h)
    rw [e]
  | .agg xs, .agg ys =>
    have e := eqAL_eq (xs := xs) (ys := ys) (by simpa [eqA] using h)
    rw [e]
  | .tup xs, .tup ys =>
    have e := eqAL_eq (xs := xs) (ys := ys) (by simpa [eqA] using h)
    rw [e]
  | .undef, y => cases y <;> simp_all [eqA]
  | .bool _, y => cases y <;> simp_all [eqA]
  | .int .., y => cases y <;> simp_all [eqA]
  | .str _, y => cases y <;> simp_all [eqA]
  | .nilp, y => cases y <;> simp_all [eqA]
  | .ptr .., y => cases y <;> simp_all [eqA]
  | .snil, y => cases y <;> simp_all [eqA]
  | .sle, y => cases y <;> simp_all [eqA]
  | .sr .., y => cases y <;> simp_all [eqA]
  | .fn g f c, .fn g' f' c' =>
    cases g <;> cases g' <;> try (simp [eqA] at h; done)
    simp only [eqA, Bool.and_eq_true, decide_eq_true_eq] at h
    rw [h.1.1, eqAL_eq h.1.2, eqAL_eq h.2]
  | .fn .., .undef | .fn .., .bool _ | .fn .., .int .. | .fn .., .str _ | .fn .., .nilp | .fn .., .ptr .. | .fn .., .snil | .fn .., .sle | .fn .., .rp .. | .fn .., .sr .. | .fn .., .sl _ | .fn .., .nilf | .fn .., .nilm | .fn .., .mv _ | .fn .., .mr _ | .fn .., .agg _ | .fn .., .tup _ => simp [eqA] at h
  | .nilf, y => cases y <;> simp_all [eqA]
  | .nilm, y => cases y <;> simp_all [eqA]
  | .mv _, y => cases y <;> simp_all [eqA]
  | .mr _, y => cases y <;> simp_all [eqA]
  | .rp .., .undef | .rp .., .bool _ | .rp .., .int .. | .rp .., .str _ | .rp .., .nilp | .rp .., .ptr .. | .rp .., .snil | .rp .., .sle | .rp .., .sl _ | .rp .., .sr .. | .rp .., .fn .. | .rp .., .nilf | .rp .., .nilm | .rp .., .mv _ | .rp .., .mr _ | .rp .., .agg _ | .rp .., .tup _ => simp [eqA] at h
  | .sl _, .undef | .sl _, .bool _ | .sl _, .int .. | .sl _, .str _ | .sl _, .nilp | .sl _, .ptr .. | .sl _, .snil | .sl _, .sle | .sl _, .rp .. | .sl _, .sr .. | .sl _, .fn .. | .sl _, .nilf | .sl _, .nilm | .sl _, .mv _ | .sl _, .mr _ | .sl _, .agg _ | .sl _, .tup _ => simp [eqA] at h
  | .agg _, .undef | .agg _, .bool _ | .agg _, .int .. | .agg _, .str _ | .agg _, .nilp | .agg _, .ptr .. | .agg _, .snil | .agg _, .sle | .agg _, .rp .. | .agg _, .sr .. | .agg _, .fn .. | .agg _, .nilf | .agg _, .nilm | .agg _, .mv _ | .agg _, .mr _ | .agg _, .sl _ | .agg _, .tup _ => simp [eqA] at h
  | .tup _, .undef | .tup _, .bool _ | .tup _, .int .. | .tup _, .str _ | .tup _, .nilp | .tup _, .ptr .. | .tup _, .snil | .tup _, .sle | .tup _, .rp .. | .tup _, .sr .. | .tup _, .fn .. | .tup _, .nilf | .tup _, .nilm | .tup _, .mv _ | .tup _, .mr _ | .tup _, .sl _ | .tup _, .agg _ => simp [eqA] at h
theorem eqAL_eq : ∀ {xs ys : List AV}, eqAL xs ys = true → xs = ys
  | [], [], _ => rfl
  | x :: xs, y :: ys, h => by
    simp only [eqAL, Bool.and_eq_true] at h
    rw [eqA_eq h.1, eqAL_eq h.2]
  | [], _ :: _, h => by simp [eqAL] at h
  | _ :: _, [], h => by simp [eqAL] at h
end
def eqO : Option AV → Option AV → Bool
  | none, none => true
  | some x, some y => eqA x y
  | _, _ => false
theorem eqO_eq {x y : Option AV} (h : eqO x y = true) : x = y := by
  cases x <;> cases y <;> simp_all [eqO]
  exact eqA_eq h

/-! the frame, laid anew -/
def tabF (fr : Nat → AV) : Nat → Nat → List AV
  | _, 0 => []
  | i, k + 1 => fr i :: tabF fr (i + 1) k
theorem tabF_get (fr : Nat → AV) : ∀ (k i t : Nat), (tabF fr i k).getD t .undef = fr (i + t) ∨ (tabF fr i k).getD t .undef = .undef
  | 0, i, t => .inr (by simp [tabF])
  | k + 1, i, 0 => .inl (by simp [tabF])
  | k + 1, i, t + 1 => by
    have := tabF_get fr k (i + 1) t
    rw [show i + 1 + t = i + (t + 1) by omega] at this
    simpa [tabF] using this
def tidy (s : ASt) : ASt := ⟨s.n, fun t => (tabF s.fr 0 s.n).getD t .undef, s.st⟩
theorem tidy_weak (s : ASt) : Weak s (tidy s) := ⟨rfl, rfl, fun t => by
  have := tabF_get s.fr s.n 0 t
  rw [Nat.zero_add] at this
  exact this⟩

/-- operations that leave the store -/
def keeps (o : Oper) : Bool := silent o || match o.op with
  | .load .. | .indexAddr .. | .index .. | .makeFunc .. | .lookup .. | .build .. | .slice .. => true
  | _ => false
theorem keeps_st {X : Cfg} {s : ASt} {o : Oper} (h : keeps o = true) {v : AV} {st : Sto} (he : evOper X s o = some (v, st)) : st = s.st := by
  unfold keeps at h
  rw [Bool.or_eq_true] at h
  rcases h with h | h
  · have := evOper_silent (X := X) (s := s) h s.st
    rw [show ({ s with st := s.st } : ASt) = s from rfl, he] at this
    simp only [Option.map_some, Option.some.injEq, Prod.mk.injEq, true_and] at this
    exact this
  · obtain ⟨dst, op, type, pos, after, guard⟩ := o
    cases op <;> simp only [Bool.false_eq_true] at h
    case indexAddr t a b => exact idx_st ⟨t, a, b, rfl⟩ he
    case load t a =>
      simp only [evOper] at he
      split at he
      · obtain ⟨_, _, e⟩ := Option.map_eq_some_iff.1 he
        cases e; rfl
      · cases he
    case makeFunc f a b =>
      simp only [evOper] at he
      cases he; rfl
    case build t parts =>
      simp only [evOper] at he
      (repeat' split at he) <;> first | (cases he; rfl) | (cases he; done)
    case slice t x lo hi mx =>
      cases mx with
      | none =>
        simp only [evOper] at he
        (repeat' split at he) <;> first | (cases he; rfl) | (cases he; done)
      | some mx =>
        cases hi with
        | none => simp [evOper] at he
        | some hi =>
          simp only [evOper] at he
          (repeat' split at he) <;> first | (cases he; rfl) | (cases he; done)
    case index t x ix =>
      simp only [evOper] at he
      split at he
      · split at he
        · split at he
          · split at he
            · cases he; rfl
            · cases he
          · cases he
        · cases he
      · split at he
        · split at he
          · split at he
            · obtain ⟨_, _, e⟩ := Option.map_eq_some_iff.1 he
              cases e; rfl
            · cases he
          · cases he
        · cases he
      · cases he
    case lookup t m k ok =>
      simp only [evOper] at he
      split at he
      · split at he
        · split at he
          · split at he
            · cases he; rfl
            · cases he
          · cases he
        · cases he
      · cases he

/-- what an operation works on -/
def opV (X : Cfg) (o : Oper) (s : ASt) : AV := match o.op with
  | .load _ a => s.ev X a
  | op => .tup (op.operands.toList.map (s.ev X))
/-- what the operations of a region work on -/
def adRun (X : Cfg) (g : List Oper) : List Oper → Nat → ASt → List (Nat × AV)
  | [], _, _ => []
  | o :: r, i, s => match step1F X (gdOf g) s o with
    | some s1 => (i, opV X o s) :: adRun X g r (i + 1) s1
    | none => []
def steadyB (X : Cfg) (ops : Array Oper) (tab : List (List Nat)) (i : Nat) (st st' : Sto) (ad : List (Nat × AV)) : Bool :=
  ad.all fun x => !(unord tab i x.1) || match ops[x.1]? with
    | some o => (match o.op with
      | .load t _ => (match X.T t with | some ti => eqO (loadAt ti st x.2) (loadAt ti st' x.2) | none => true)
      | _ => silent o)
    | none => true
def turnOk (X : Cfg) (ops : Array Oper) (tab : List (List Nat)) (ad : List (Nat × AV)) (i : Nat) (o : Oper) (st st' : Sto) : Bool :=
  keeps o || barrier ops tab i || (steadyB X ops tab i st st' ad && barrierL ops tab ad i)
/-- the operations of a region that draws -/
def rdC (X : Cfg) (ops : Array Oper) (tab : List (List Nat)) (ad : List (Nat × AV)) : List Oper → Nat → ASt → Option ASt
  | [], _, s => some s
  | o :: r, i, s => match step1F X (gdOf ops.toList) s o with
    | some s1 => if turnOk X ops tab ad i o s.st s1.st = true then rdC X ops tab ad r (i + 1) s1 else none
    | none => none

theorem lookup_mem {j : Nat} {p : AV} : ∀ {l : List (Nat × AV)}, l.lookup j = some p → (j, p) ∈ l
  | [], h => by cases h
  | (k, q) :: r, h => by
    rw [List.lookup_cons] at h
    split at h
    · rename_i he
      have : j = k := by simpa using he
      cases h
      subst this
      simp
    · exact List.mem_cons_of_mem _ (lookup_mem h)
theorem steady_of_B {X : Cfg} {ops : Array Oper} {tab : List (List Nat)} {ad : List (Nat × AV)} {i : Nat} {st st' : Sto} (h : barrierL ops tab ad i = true) (h2 : steadyB X ops tab i st st' ad = true) : steady X ops tab ad i st st' := fun j o ho hu => by
  simp only [barrierL, List.all_eq_true, List.mem_range] at h
  have h1 := h j (Array.getElem?_eq_some_iff.1 ho).1
  rw [ho, hu] at h1
  simp only [Bool.not_true, Bool.false_or, Bool.or_eq_true] at h1
  rcases h1 with h1 | h1
  · exact .inl h1
  · obtain ⟨p, hp⟩ := Option.isSome_iff_exists.1 h1
    simp only [steadyB, List.all_eq_true] at h2
    have h3 := h2 (j, p) (lookup_mem hp)
    simp only [hu, ho, Bool.not_true, Bool.false_or] at h3
    split at h3
    · rename_i t a he
      refine .inr (.inl ⟨t, a, p, he, hp, fun ti ht => ?_⟩)
      rw [ht] at h3
      exact eqO_eq h3
    · exact .inl h3
theorem step1_keeps {X : Cfg} {gd : Nat → Option Nat} {s s1 : ASt} {o : Oper} (h : keeps o = true) (h1 : step1 X gd s o = some s1) : s1.st = s.st := by
  rw [step1_eq] at h1
  obtain ⟨⟨v, st⟩, h2, h3⟩ := Option.bind_eq_some_iff.1 h1
  have h4 := (put_inv h3).2.1
  rw [h4]
  show st = s.st
  unfold step0 at h2
  split at h2
  · exact keeps_st h h2
  · cases h2; rfl
  · cases h2
theorem rdC_drawP {X : Cfg} {ops : Array Oper} {tab : List (List Nat)} {ad : List (Nat × AV)} {K : ASt → Prop} : ∀ (l : List Oper) (i : Nat) (s : ASt) (s' : ASt), (∀ j, i ≤ j → ad.lookup j = (adRun X ops.toList l i s).lookup j) → rdC X ops tab ad l i s = some s' → K s' → drawP X ops tab ad l i s K
  | [], _, s, s', _, h, hk => by cases h; exact hk
  | o :: l, i, s, s', ha, h, hk => by
    unfold rdC at h
    split at h
    · rename_i s1 h1
      simp only [Option.ite_none_right_eq_some] at h
      obtain ⟨ht, h⟩ := h
      unfold adRun at ha
      rw [h1] at ha
      simp only at ha
      rw [step1F_eq] at h1
      have hi := ha i (Nat.le_refl _)
      rw [List.lookup_cons, beq_self_eq_true] at hi
      refine ⟨s1, ⟨fun t a p he hp => ?_, fun p he hp => ?_⟩, h1, ?_, rdC_drawP l (i + 1) s1 s' (fun j hj => ?_) h hk⟩
      · rw [hi] at hp
        cases hp
        unfold opV
        rw [he]
      · rw [hi] at hp
        cases hp
        unfold opV
        split
        · rename_i t a e; exact absurd e (he t a)
        · rfl
      · unfold turnOk at ht
        rw [Bool.or_eq_true, Bool.or_eq_true, Bool.and_eq_true] at ht
        rcases ht with (ht | ht) | ht
        · exact .inl (step1_keeps ht h1)
        · exact .inr (.inl (steady_of_barrier ht))
        · exact .inr (.inl (steady_of_B ht.2 ht.1))
      · rw [ha j (by omega), List.lookup_cons]
        have : (j == i) = false := by simp; omega
        rw [this]
    · cases h
end Go.Proofs.YtgpkochbmfhmdaaGreatDoor.Lift
namespace Go.Proofs.YtgpkochbmfhmdaaGreatDoor.Lift
open Go
set_option maxRecDepth 100000

/-- what an operation makes new, where a block was set aside: the block, what it is before and behind, and the operation's value -/
def bornOf (X : Cfg) (o : Oper) (vs : List AV) : Option (Nat × ABlk × ABlk × AV) := match o.op with
  | .alloc t => match X.T t, resAt X.A o.dst with
    | some ti, some k => some (k, .row ti.size 0 0 [], .row ti.size 1 0 [mkv ti.agg ti.zero], .ptr k 1 0 0)
    | _, _ => none
  | .box _ x => if (ASt.ev X ⟨0, frOf o.op.operands.toList vs, []⟩ x).whole = true then (match resAt X.A o.dst with
    | some k => some (k, .row (ASt.ev X ⟨0, frOf o.op.operands.toList vs, []⟩ x).cells.length 0 0 [], .row (ASt.ev X ⟨0, frOf o.op.operands.toList vs, []⟩ x).cells.length 1 0 [ASt.ev X ⟨0, frOf o.op.operands.toList vs, []⟩ x], .ptr k 1 0 0)
    | none => none) else none
  | .makeMap t none => match X.T t, resAt X.A o.dst with
    | some ⟨.map _ _, _, _, _, _⟩, some k => some (k, .tick 0, .map [], .mr k)
    | _, _ => none
  | _ => none
theorem ev_nost {X : Cfg} (fr : Nat → AV) (st st' : Sto) (x : Operand) : ASt.ev X ⟨0, fr, st⟩ x = ASt.ev X ⟨0, fr, st'⟩ x := by cases x <;> rfl
theorem bornOf_spec {X : Cfg} {o : Oper} {vs : List AV} {k : Nat} {b0 b1 : ABlk} {u : AV} (h : bornOf X o vs = some (k, b0, b1, u)) (a : Sto) :
    (∀ v a', evOper X ⟨0, frOf o.op.operands.toList vs, a⟩ o = some (v, a') → a[k]? = some b0 ∧ v = u ∧ a' = a.set k b1) ∧ (a[k]? = some b0 → evOper X ⟨0, frOf o.op.operands.toList vs, a⟩ o = some (u, a.set k b1)) := by
  obtain ⟨dst, op, type, pos, after, guard⟩ := o
  unfold bornOf at h
  cases op <;> try (cases h; done)
  case alloc t =>
    simp only at h
    cases hT : X.T t with
    | none => simp [hT] at h
    | some ti =>
      cases hr : resAt X.A dst with
      | none => simp [hT, hr] at h
      | some k' =>
        simp only [hT, hr, Option.some.injEq, Prod.mk.injEq] at h
        obtain ⟨rfl, rfl, rfl, rfl⟩ := h
        constructor
        · intro v a' h2
          simp only [evOper, hT, hr] at h2
          split at h2
          · rename_i sz hk
            simp only [Option.ite_none_right_eq_some, Option.some.injEq, Prod.mk.injEq] at h2
            obtain ⟨rfl, rfl, rfl⟩ := h2
            exact ⟨hk, rfl, rfl⟩
          · cases h2
        · intro h2
          simp only [evOper, hT, hr, h2, if_true]
  case box t x =>
    simp only [Option.ite_none_right_eq_some] at h
    obtain ⟨hw, h⟩ := h
    cases hr : resAt X.A dst with
    | none => simp [hr] at h
    | some k' =>
      simp only [hr, Option.some.injEq, Prod.mk.injEq] at h
      obtain ⟨rfl, rfl, rfl, rfl⟩ := h
      rw [ev_nost _ [] a] at hw ⊢
      constructor
      · intro v a' h2
        simp only [evOper, hr, Option.ite_none_right_eq_some] at h2
        obtain ⟨_, h2⟩ := h2
        split at h2
        · rename_i sz hk
          simp only [Option.ite_none_right_eq_some, Option.some.injEq, Prod.mk.injEq] at h2
          obtain ⟨rfl, rfl, rfl⟩ := h2
          exact ⟨hk, rfl, rfl⟩
        · cases h2
      · intro h2
        simp only [evOper, hr, hw, if_true, h2]
  case makeMap t r =>
    cases r with
    | some r => cases h
    | none =>
      simp only at h
      split at h
      · rename_i q1 q2 q3 q4 q5 q6 k' hT hr
        simp only [Option.some.injEq, Prod.mk.injEq] at h
        obtain ⟨rfl, rfl, rfl, rfl⟩ := h
        constructor
        · intro v a' h2
          simp only [evOper, hT, hr] at h2
          split at h2
          · rename_i hk
            cases h2
            exact ⟨hk, rfl, rfl⟩
          · cases h2
        · intro h2
          simp only [evOper, hT, hr, h2]
      · cases h
theorem bornOf_loc {X : Cfg} {o : Oper} {vs : List AV} {k : Nat} {b0 b1 : ABlk} {u : AV} (h : bornOf X o vs = some (k, b0, b1, u)) : isLoc X o k (.tup vs) := fun st v st' he => by
  obtain ⟨h1, rfl, rfl⟩ := (bornOf_spec h st).1 v st' he
  exact ⟨some b1, rfl, fun st2 h2 => (bornOf_spec h st2).2 (h2.trans h1)⟩
theorem bornOf_load {X : Cfg} {o : Oper} {vs : List AV} {x : Nat × ABlk × ABlk × AV} (h : bornOf X o vs = some x) : ∀ t a, o.op ≠ .load t a := fun t a e => by
  unfold bornOf at h
  rw [e] at h
  cases h

/-- those that may come before it or behind it do not look there; or they are calls of the list ds -/
def steadyKD (X : Cfg) (ops : Array Oper) (tab : List (List Nat)) (ad : List (Nat × AV)) (ds : List Nat) (i k : Nat) : Prop :=
  ∀ j o, ops[j]? = some o → unord tab i j = true → j ∉ ds → silent o = true ∨ (∃ t a p, o.op = .load t a ∧ ad.lookup j = some p ∧ farP k p) ∨ (∃ p, (∀ t a, o.op ≠ .load t a) ∧ ad.lookup j = some p ∧ blind X o p) ∨ ∃ kj, kj ≠ k ∧ locAt X ad j o kj
/-- an operation that is calm at a pair of stores -/
def calmAt (X : Cfg) (ad : List (Nat × AV)) (j : Nat) (o : Oper) (a a' : Sto) : Prop := silent o = true ∨ (∃ t x p, o.op = .load t x ∧ ad.lookup j = some p ∧ ldEq X t a a' p) ∨ ∃ p, (∀ t x, o.op ≠ .load t x) ∧ ad.lookup j = some p ∧ blS X o a a' p
theorem calmAt.calm {X : Cfg} {ad : List (Nat × AV)} {j : Nat} {o : Oper} {a a' : Sto} {s : ASt} (h : calmAt X ad j o a a') (ha : adOk X ad j o s) : Calm1 X s o a a' := by
  rcases h with h | ⟨t, x, p, he, hp, hl⟩ | ⟨p, hn, hp, hl⟩
  · exact .inl h
  · exact .inr (.inl ⟨t, x, he, by rw [ha.1 t x p he hp]; exact hl⟩)
  · exact .inr (.inr (by rw [ha.2 p hn hp]; exact hl))
/-- a call that may come before or behind what makes new blocks: T, all the pairs of stores that it may stand between -/
def DOk (X : Cfg) (ops : Array Oper) (tab : List (List Nat)) (ad : List (Nat × AV)) (ds : List Nat) (i : Nat) (o : Oper) (st st' : Sto) : Prop :=
  o.guard = none ∧ (∀ t a, o.op ≠ .load t a) ∧ ∃ (vs : List AV) (v : AV) (T : List (Sto × Sto)), ad.lookup i = some (.tup vs) ∧ (st, st') ∈ T ∧ (∀ x ∈ T, evOper X ⟨0, frOf o.op.operands.toList vs, x.1⟩ o = some (v, x.2)) ∧
    ∀ j oj, ops[j]? = some oj → unord tab i j = true → j ∉ ds ∧ ((∀ x ∈ T, calmAt X ad j oj x.1 x.2) ∨ (oj.guard = none ∧ ∃ us k b0 b1 u, ad.lookup j = some (.tup us) ∧ bornOf X oj us = some (k, b0, b1, u) ∧ steadyKD X ops tab ad ds j k ∧
      ∀ x ∈ T, x.1[k]? = x.2[k]? ∧ (x.1[k]? = some b0 → (x.1.set k b1, x.2.set k b1) ∈ T) ∧ (x.1[k]? = some b1 → (x.1.set k b0, x.2.set k b0) ∈ T)))
def CondD (X : Cfg) (ops : Array Oper) (tab : List (List Nat)) (ad : List (Nat × AV)) (ds : List Nat) (i : Nat) (o : Oper) (st st' : Sto) : Prop :=
  (i ∈ ds ∧ DOk X ops tab ad ds i o st st') ∨ (i ∉ ds ∧ (st' = st ∨ steady X ops tab ad i st st' ∨ ∃ k, locAt X ad i o k ∧ steadyKD X ops tab ad ds i k))
def CalmD (X : Cfg) (ops : Array Oper) (tab : List (List Nat)) (ad : List (Nat × AV)) (ds : List Nat) : List Nat → ASt → ASt → Prop
  | [], s, s' => s = s'
  | i :: l, s, s' => ∃ o s1, ops[i]? = some o ∧ adOk X ad i o s ∧ step1 X (gdOf ops.toList) s o = some s1 ∧ CondD X ops tab ad ds i o s.st s1.st ∧ CalmD X ops tab ad ds l s1 s'

theorem steadyKD.calm {X : Cfg} {ops : Array Oper} {tab : List (List Nat)} {ad : List (Nat × AV)} {ds : List Nat} {i k : Nat} (h : steadyKD X ops tab ad ds i k) {j : Nat} {o : Oper} {s : ASt} (ho : ops[j]? = some o) (hu : unord tab i j = true) (hd : j ∉ ds) (ha : adOk X ad j o s) : (∀ st r, Calm1 X s o st (setO st k r)) ∨ ∃ kj, kj ≠ k ∧ locAt X ad j o kj := by
  rcases h j o ho hu hd with h | ⟨t, a, p, he, hp, hl⟩ | ⟨p, he, hp, hl⟩ | h
  · exact .inl fun _ _ => .inl h
  · exact .inl fun _ _ => .inr (.inl ⟨t, a, he, by rw [ha.1 t a p he hp]; exact far_ld hl⟩)
  · exact .inl fun _ _ => .inr (.inr (.inl (by rw [ha.2 p he hp]; exact hl)))
  · exact .inr h

/-- two steps the other way round -/
theorem swap_gen {X : Cfg} {ops : Array Oper} {s s1 s2 : ASt} {x y : Oper} (stY : Sto) (hap : x.apart ops y = true) (h1 : step1 X (gdOf ops.toList) s x = some s1) (h2 : step1 X (gdOf ops.toList) s1 y = some s2)
    (hy : ∀ v st', step0 X (gdOf ops.toList) s1 y = some (v, st') → step0 X (gdOf ops.toList) s y = some (v, stY))
    (hx : ∀ v st', step0 X (gdOf ops.toList) s x = some (v, st') → ∀ s1' : ASt, s1'.st = stY → (∀ t ∈ x.looksAt ops, s1'.fr t = s.fr t) → step0 X (gdOf ops.toList) s1' x = some (v, s2.st)) :
    ∃ s1', step1 X (gdOf ops.toList) s y = some s1' ∧ step1 X (gdOf ops.toList) s1' x = some s2 ∧ s1'.st = stY := by
  obtain ⟨ha, hb, hc⟩ := Oper.apart_spec hap
  rw [step1_eq] at h1 h2
  cases hq : step0 X (gdOf ops.toList) s x with
  | none => rw [hq] at h1; cases h1
  | some r =>
  rw [hq, Option.bind_some] at h1
  obtain ⟨n1, t1, f1, g1, b1⟩ := put_inv h1
  simp only at n1 t1 f1 b1
  cases hq2 : step0 X (gdOf ops.toList) s1 y with
  | none => rw [hq2] at h2; cases h2
  | some u =>
  rw [hq2, Option.bind_some] at h2
  obtain ⟨n2, t2, f2, g2, b2⟩ := put_inv h2
  simp only at n2 t2 f2 b2
  have hy' := hy u.1 u.2 hq2
  have q1 : ∃ s1', ASt.put { s with st := stY } y.dst u.1 = some s1' := by
    cases hd : y.dst with
    | none => exact ⟨_, rfl⟩
    | some d =>
      have := b2 d hd
      rw [n1] at this
      exact ⟨_, by simp only [ASt.put]; rw [if_pos this]⟩
  obtain ⟨s1', hs1'⟩ := q1
  obtain ⟨n3, t3, f3, g3, b3⟩ := put_inv hs1'
  simp only at n3 t3 f3 b3
  have hfx : ∀ t ∈ x.looksAt ops, s1'.fr t = s.fr t := fun t ht => f3 t (fun e => hc t e ht)
  have hx' := hx r.1 r.2 hq s1' t3 hfx
  refine ⟨s1', ?_, ?_, t3⟩
  · rw [step1_eq, hy', Option.bind_some]
    exact hs1'
  · rw [step1_eq, hx', Option.bind_some]
    obtain ⟨n, fr, st⟩ := s2
    simp only at g2 n2 f2 ⊢
    cases g2
    cases hxd : x.dst with
    | none =>
      simp only [ASt.put, n3, n1]
      rw [g3, g1, hxd]
      simp [putFr]
    | some d =>
      have := b1 d hxd
      simp only [ASt.put]
      rw [n3, if_pos this, g3, g1, hxd]
      cases hyd : y.dst with
      | none => simp [putFr]
      | some d' =>
        have hne : d ≠ d' := fun e => hb d hxd (by rw [hyd, e])
        simp only [putFr]
        rw [upd_comm _ _ _ hne]

theorem step0_ad {X : Cfg} {ops : Array Oper} {ad : List (Nat × AV)} {i : Nat} {o : Oper} {s : ASt} {vs : List AV} (hg : o.guard = none) (hn : ∀ t a, o.op ≠ .load t a) (hl : ad.lookup i = some (.tup vs)) (ha : adOk X ad i o s) (s2 : ASt) (h2 : ∀ t ∈ o.looksAt ops, s2.fr t = s.fr t) :
    step0 X (gdOf ops.toList) s2 o = evOper X ⟨0, frOf o.op.operands.toList vs, s2.st⟩ o := by
  have e := ha.2 _ hn hl
  cases e
  unfold step0 wantedA
  rw [hg]
  exact evOper_congr rfl fun x hx => by rw [looksAt_ev h2 x hx, frOf_ev (Array.mem_def.1 hx)]
theorem step1_run {X : Cfg} {ops : Array Oper} {o : Oper} {s s1 : ASt} (h : step1 X (gdOf ops.toList) s o = some s1) : ∃ v, step0 X (gdOf ops.toList) s o = some (v, s1.st) := by
  rw [step1_eq] at h
  cases hq : step0 X (gdOf ops.toList) s o with
  | none => rw [hq] at h; cases h
  | some r =>
    rw [hq] at h
    exact ⟨r.1, by rw [(put_inv h).2.1]⟩
theorem set_id {st : Sto} {k : Nat} {b0 : ABlk} (h : st[k]? = some b0) : st.set k b0 = st := by
  apply List.ext_getElem?
  intro i
  by_cases e : k = i
  · subst e
    rw [List.getElem?_set_self (List.getElem?_eq_some_iff.1 h).1, h]
  · rw [List.getElem?_set_ne e]
theorem set_set_back {st : Sto} {k : Nat} {b0 b1 : ABlk} (h : st[k]? = some b0) : (st.set k b1).set k b0 = st := by
  rw [List.set_set, set_id h]
theorem get_set {st : Sto} {k : Nat} {b0 b1 : ABlk} (h : st[k]? = some b0) : (st.set k b1)[k]? = some b1 := List.getElem?_set_self (List.getElem?_eq_some_iff.1 h).1

theorem CalmD.move {X : Cfg} {ops : Array Oper} {tab : List (List Nat)} {ad : List (Nat × AV)} {ds : List Nat} (h : drawOK ops tab = true) {i : Nat} {post : List Nat} : ∀ {pre : List Nat} {s s' : ASt}, (∀ j ∈ pre, j < i ∧ j ∉ tab.getD i []) → CalmD X ops tab ad ds (pre ++ i :: post) s s' → CalmD X ops tab ad ds (i :: (pre ++ post)) s s'
  | [], _, _, _, hc => hc
  | j :: pre, s, s', hp, hc => by
    obtain ⟨oj, s1, ho, ha1, h1, hb, h2⟩ := hc
    obtain ⟨oi, s2, hoi, ha2, h3, hb', h4⟩ := CalmD.move h (fun k hk => hp k (by simp [hk])) h2
    obtain ⟨hlt, hn⟩ := hp j (by simp)
    have hin : i < ops.size := (Array.getElem?_eq_some_iff.1 hoi).1
    have hnj : i ∉ tab.getD j [] := fun hm => by
      have := ((drawOK_spec h ho).2.1 i hm).1
      omega
    have hu1 : unord tab j i = true := by
      simp only [unord, Bool.not_eq_eq_eq_not, Bool.not_true, Bool.or_eq_false_iff, beq_eq_false_iff_ne]
      exact ⟨⟨by omega, by simpa using hnj⟩, by simpa using hn⟩
    have hu2 : unord tab i j = true := by
      simp only [unord, Bool.not_eq_eq_eq_not, Bool.not_true, Bool.or_eq_false_iff, beq_eq_false_iff_ne]
      exact ⟨⟨by omega, by simpa using hn⟩, by simpa using hnj⟩
    have hap := (drawOK_spec h hoi).2.2 j oj hlt hn ho
    obtain ⟨pa, pb, pc⟩ := Oper.apart_spec hap
    have ha2' : adOk X ad i oi s := ha2.congr (ops := ops) fun t ht => (step1_fr h1 t (fun e => pa t e ht)).symm
    have ha1' : ∀ {s1'}, step1 X (gdOf ops.toList) s oi = some s1' → adOk X ad j oj s1' := fun g1 => ha1.congr (ops := ops) fun t ht => step1_fr g1 t (fun e => pc t e ht)
    have hfy : ∀ t ∈ oi.looksAt ops, s1.fr t = s.fr t := fun t ht => step1_fr h1 t (fun e => pa t e ht)
    -- the classical cases
    have old : ∀ (e1 : s1.st = s.st ∨ Calm1 X s1 oi s1.st s.st) (e2 : s2.st = s1.st ∨ (s1.st = s.st ∧ Calm1 X s oj s1.st s2.st)), ∃ s1', step1 X (gdOf ops.toList) s oi = some s1' ∧ step1 X (gdOf ops.toList) s1' oj = some s2 ∧ (s2.st = s1.st → s1'.st = s.st) ∧ (s1.st = s.st → s2.st = s1'.st) := fun e1 e2 => step_swap' hap h1 e1 h3 e2
    rcases hb' with ⟨hid, hD⟩ | ⟨hid, hb'⟩
    · -- the second one is a call of the list
      obtain ⟨hgd, hnl, vs, v, T, hlk, hmem, hrun, hoth⟩ := hD
      obtain ⟨hjd, hj⟩ := hoth j oj ho hu2
      rcases hj with hj | ⟨hgj, us, k, b0, b1, u, hlj, hbn, hst, hcl⟩
      · have hc1 : Calm1 X s oj s1.st s2.st := (hj _ hmem).calm ha1
        have k1 : s1.st = s.st := step1_stay hc1 h1
        obtain ⟨s1', g1, g3, g4, g5⟩ := old (.inl k1) (.inr ⟨k1, hc1⟩)
        refine ⟨oi, s1', hoi, ha2', g1, .inl ⟨hid, hgd, hnl, vs, v, T, hlk, ?_, hrun, hoth⟩, oj, s2, ho, ha1' g1, g3, .inr ⟨hjd, .inl (g5 k1)⟩, h4⟩
        rw [← k1, ← g5 k1]
        exact hmem
      · obtain ⟨w, hw⟩ := step1_run h1
        have hnlj := bornOf_load hbn
        rw [step0_ad (ops := ops) hgj hnlj hlj ha1 s (fun _ _ => rfl)] at hw
        obtain ⟨q0, rfl, q1⟩ := (bornOf_spec hbn s.st).1 _ _ hw
        obtain ⟨c0, _, c2⟩ := hcl _ hmem
        simp only at c0 c2
        have e1 : s1.st[k]? = some b1 := by rw [q1]; exact get_set q0
        have m0 := c2 e1
        have e2 : s1.st.set k b0 = s.st := by rw [q1]; exact set_set_back q0
        have e3 : s2.st[k]? = some b1 := by rw [← c0]; exact e1
        rw [e2] at m0
        obtain ⟨s1', g1, g3, g4⟩ := swap_gen (s2 := s2) (s2.st.set k b0) hap h1 h3 (fun v' st' hq => by
          rw [step0_ad (ops := ops) hgd hnl hlk ha2' s1 hfy, hrun _ hmem] at hq
          cases hq
          rw [step0_ad (ops := ops) hgd hnl hlk ha2' s (fun _ _ => rfl)]
          exact hrun _ m0) (fun v' st' hq s1' hs' hf => by
          rw [step0_ad (ops := ops) hgj hnlj hlj ha1 s (fun _ _ => rfl), hw] at hq
          cases hq
          rw [step0_ad (ops := ops) hgj hnlj hlj ha1 s1' hf, hs', (bornOf_spec hbn _).2 (get_set e3), set_set_back e3])
        refine ⟨oi, s1', hoi, ha2', g1, .inl ⟨hid, hgd, hnl, vs, v, T, hlk, by rw [g4]; exact m0, hrun, hoth⟩, oj, s2, ho, ha1' g1, g3, .inr ⟨hjd, .inr (.inr ⟨k, ⟨_, hlj, hnlj, bornOf_loc hbn⟩, hst⟩)⟩, h4⟩
    · rcases hb with ⟨hjd, hD⟩ | ⟨hjd, hb⟩
      · -- the first one is a call of the list
        have hD' := hD
        obtain ⟨hgd, hnl, vs, v, T, hlk, hmem, hrun, hoth⟩ := hD
        obtain ⟨_, hi⟩ := hoth i oi hoi hu1
        rcases hi with hi | ⟨hgj, us, k, b0, b1, u, hli, hbn, hst, hcl⟩
        · have hci : Calm1 X s1 oi s.st s1.st := (hi _ hmem).calm ha2
          have k2 : s2.st = s1.st := step1_calm_st hci h3
          obtain ⟨s1', g1, g3, g4, g5⟩ := old (.inr hci.symm) (.inl k2)
          have k3 := g4 k2
          refine ⟨oi, s1', hoi, ha2', g1, .inr ⟨hid, .inl k3⟩, oj, s2, ho, ha1' g1, g3, .inl ⟨hjd, ?_⟩, h4⟩
          rw [k3, k2]
          exact hD'
        · obtain ⟨w, hw⟩ := step1_run h3
          have hnli := bornOf_load hbn
          rw [step0_ad (ops := ops) hgj hnli hli ha2 s1 (fun _ _ => rfl)] at hw
          obtain ⟨q0, rfl, q1⟩ := (bornOf_spec hbn s1.st).1 _ _ hw
          obtain ⟨c0, c1, _⟩ := hcl _ hmem
          simp only at c0 c1
          have e0 : s.st[k]? = some b0 := c0.trans q0
          have m1 := c1 e0
          obtain ⟨s1', g1, g3, g4⟩ := swap_gen (s2 := s2) (s.st.set k b1) hap h1 h3 (fun v' st' hq => by
            rw [step0_ad (ops := ops) hgj hnli hli ha2 s1 (fun _ _ => rfl), hw] at hq
            cases hq
            rw [step0_ad (ops := ops) hgj hnli hli ha2' s (fun _ _ => rfl)]
            exact (bornOf_spec hbn _).2 e0) (fun v' st' hq s1' hs' hf => by
            rw [step0_ad (ops := ops) hgd hnl hlk ha1 s (fun _ _ => rfl), hrun _ hmem] at hq
            cases hq
            rw [step0_ad (ops := ops) hgd hnl hlk ha1 s1' hf, hs', q1]
            exact hrun _ m1)
          refine ⟨oi, s1', hoi, ha2', g1, .inr ⟨hid, .inr (.inr ⟨k, ⟨_, hli, hnli, bornOf_loc hbn⟩, hst⟩)⟩, oj, s2, ho, ha1' g1, g3, .inl ⟨hjd, hgd, hnl, vs, v, T, hlk, by rw [g4, q1]; exact m1, hrun, hoth⟩, h4⟩
      · rcases hb with hb | hb | ⟨kj, hrj, hsj⟩
        · rcases hb' with hb' | hb' | ⟨ki, hri, hsi⟩
          · obtain ⟨s1', g1, g3, g4, g5⟩ := old (.inl hb) (.inl hb')
            exact ⟨oi, s1', hoi, ha2', g1, .inr ⟨hid, .inl (g4 hb')⟩, oj, s2, ho, ha1' g1, g3, .inr ⟨hjd, .inl (g5 hb)⟩, h4⟩
          · obtain ⟨s1', g1, g3, g4, g5⟩ := old (.inl hb) (.inr ⟨hb, hb'.calm ho hu2 ha1⟩)
            refine ⟨oi, s1', hoi, ha2', g1, .inr ⟨hid, .inr (.inl ?_)⟩, oj, s2, ho, ha1' g1, g3, .inr ⟨hjd, .inl (g5 hb)⟩, h4⟩
            rw [← hb, ← g5 hb]
            exact hb'
          · rcases hsi.calm (s := s) ho hu2 hjd ha1 with hc | ⟨kj, hne, hrj⟩
            · obtain ⟨r, e⟩ := (hri.step (ops := ops) ha2).st h3
              obtain ⟨s1', g1, g3, g4, g5⟩ := old (.inl hb) (.inr ⟨hb, by rw [e]; exact hc _ _⟩)
              exact ⟨oi, s1', hoi, ha2', g1, .inr ⟨hid, .inr (.inr ⟨ki, hri, hsi⟩)⟩, oj, s2, ho, ha1' g1, g3, .inr ⟨hjd, .inl (g5 hb)⟩, h4⟩
            · obtain ⟨s1', g1, g3, g4, g5⟩ := loc_swap hap (hrj.step (ops := ops) ha1) (hri.step (ops := ops) ha2') hne h1 h3
              exact ⟨oi, s1', hoi, ha2', g1, .inr ⟨hid, .inr (.inr ⟨ki, hri, hsi⟩)⟩, oj, s2, ho, ha1' g1, g3, .inr ⟨hjd, .inl (g5 hb)⟩, h4⟩
        · have hci : Calm1 X s1 oi s.st s1.st := hb.calm hoi hu1 ha2
          have k2 : s2.st = s1.st := step1_calm_st hci h3
          obtain ⟨s1', g1, g3, g4, g5⟩ := old (.inr hci.symm) (.inl k2)
          have k3 := g4 k2
          refine ⟨oi, s1', hoi, ha2', g1, .inr ⟨hid, .inl k3⟩, oj, s2, ho, ha1' g1, g3, .inr ⟨hjd, .inr (.inl ?_)⟩, h4⟩
          rw [k3, k2]
          exact hb
        · obtain ⟨r, e⟩ := (hrj.step (ops := ops) ha1).st h1
          rcases hsj.calm (s := s1) hoi hu1 hid ha2 with hc | ⟨ki, hne, hri⟩
          · have hci : Calm1 X s1 oi s.st s1.st := by
              rw [e]
              exact hc _ _
            have k2 : s2.st = s1.st := step1_calm_st hci h3
            obtain ⟨s1', g1, g3, g4, g5⟩ := old (.inr hci.symm) (.inl k2)
            exact ⟨oi, s1', hoi, ha2', g1, .inr ⟨hid, .inl (g4 k2)⟩, oj, s2, ho, ha1' g1, g3, .inr ⟨hjd, .inr (.inr ⟨kj, hrj, hsj⟩)⟩, h4⟩
          · obtain ⟨s1', g1, g3, g4, g5⟩ := loc_swap hap (hrj.step (ops := ops) ha1) (hri.step (ops := ops) ha2') (fun e => hne e.symm) h1 h3
            refine ⟨oi, s1', hoi, ha2', g1, .inr ⟨hid, ?_⟩, oj, s2, ho, ha1' g1, g3, .inr ⟨hjd, .inr (.inr ⟨kj, hrj, hsj⟩)⟩, h4⟩
            rcases hb' with hb' | hb' | hb'
            · exact .inl (g4 hb')
            · have k1 : s1.st = s.st := step1_stay (hb'.calm ho hu2 ha1) h1
              right; left
              rw [← k1, ← g5 k1]
              exact hb'
            · exact .inr (.inr hb')

theorem CalmD.go {X : Cfg} {ops : Array Oper} {tab : List (List Nat)} {ad : List (Nat × AV)} {ds : List Nat} (h : drawOK ops tab = true) {s' : ASt} : ∀ (fuel t : Nat) (listed : Array Bool) (s : ASt), listed.size = ops.size → (rem ops.size listed).length ≤ fuel →
    (∀ i, listed.getD i true = true → ∀ k ∈ tab.getD i [], listed.getD k true = true) → CalmD X ops tab ad ds (rem ops.size listed) s s' → evIdx X ops.toList (Region.linearise.go .any ops fuel t listed []) s = some s' := by
  intro fuel
  induction fuel with
  | zero =>
    intro t listed s _ hl _ hc
    have : rem ops.size listed = [] := List.eq_nil_of_length_eq_zero (by omega)
    rw [this] at hc
    cases hc
    rfl
  | succ fuel ih =>
    intro t listed s hsz hl hcl hc
    have hready : ∀ i, i ∈ Region.ready .any ops listed ↔ i < ops.size ∧ listed.getD i true = false ∧ ∃ o, ops[i]? = some o ∧ ∀ d ∈ depsOf o, listed.getD d false = true := by
      intro i
      simp only [Region.ready, List.mem_filter, List.mem_range, Bool.and_eq_true, Bool.not_eq_eq_eq_not, Bool.not_true]
      constructor
      · rintro ⟨h1, h2, h3⟩
        refine ⟨h1, h2, ops[i], by simp [h1], fun d hd => ?_⟩
        rw [show ops[i]? = some ops[i] by simp [h1]] at h3
        simp only [Option.map_some, Option.getD_some, Array.all_eq_true', Bool.or_eq_true, Bool.not_eq_eq_eq_not, Bool.not_true] at h3
        simp only [depsOf, List.mem_map, List.mem_filter] at hd
        obtain ⟨e, ⟨he, hb⟩, rfl⟩ := hd
        rcases h3 e (Array.mem_def.2 he) with h | h
        · rw [h] at hb; cases hb
        · exact h
      · rintro ⟨h1, h2, o, h3, h4⟩
        refine ⟨h1, h2, ?_⟩
        rw [h3]
        simp only [Option.map_some, Option.getD_some, Array.all_eq_true', Bool.or_eq_true, Bool.not_eq_eq_eq_not, Bool.not_true]
        intro e he
        cases hb : Region.binds .any e with
        | false => exact .inl rfl
        | true => exact .inr (h4 e.on (by simp only [depsOf, List.mem_map, List.mem_filter]; exact ⟨e, ⟨Array.mem_def.1 he, hb⟩, rfl⟩))
    simp only [Region.linearise.go]
    change evIdx X ops.toList (match (Region.ready .any ops listed)[t % (Region.ready .any ops listed).length]? with
      | some i => Region.linearise.go .any ops fuel (t / (Region.ready .any ops listed).length) (listed.setIfInBounds i true) [i]
      | none => [].reverse) s = some s'
    cases hi : (Region.ready .any ops listed)[t % (Region.ready .any ops listed).length]? with
    | none =>
      have hnil : Region.ready .any ops listed = [] := by
        cases hr : Region.ready .any ops listed with
        | nil => rfl
        | cons x xs =>
          rw [hr] at hi
          have hlt : t % (x :: xs).length < (x :: xs).length := Nat.mod_lt _ (by simp)
          simp at hi
          simp at hlt
          omega
      have hrem : rem ops.size listed = [] := by
        cases hr : rem ops.size listed with
        | nil => rfl
        | cons i0 r =>
          exfalso
          have hmem : i0 ∈ rem ops.size listed := by rw [hr]; simp
          have hmem' := hmem
          simp only [rem, List.mem_filter, List.mem_range, Bool.not_eq_eq_eq_not, Bool.not_true] at hmem'
          have hsort : (rem ops.size listed).Pairwise (· < ·) := List.Pairwise.filter _ (List.pairwise_lt_range)
          have : i0 ∈ Region.ready .any ops listed := by
            rw [hready]
            refine ⟨hmem'.1, hmem'.2, ops[i0]'hmem'.1, by simp [hmem'.1], fun d hd => ?_⟩
            have hdi := ((drawOK_spec h (show ops[i0]? = some (ops[i0]'hmem'.1) by simp [hmem'.1])).1 d hd).1
            cases hld : listed.getD d false with
            | true => rfl
            | false =>
              exfalso
              have hlt : d < listed.size := by omega
              have hd2 : listed.getD d true = false := by
                simp only [Array.getD_eq_getD_getElem?, Array.getElem?_eq_getElem hlt, Option.getD_some] at hld ⊢
                exact hld
              have : d ∈ rem ops.size listed := by
                simp only [rem, List.mem_filter, List.mem_range, Bool.not_eq_eq_eq_not, Bool.not_true]
                exact ⟨by omega, hd2⟩
              rw [hr] at this hsort
              rcases List.mem_cons.1 this with h | h
              · omega
              · have := (List.pairwise_cons.1 hsort).1 d h; omega
          rw [hnil] at this
          cases this
      rw [hrem] at hc
      cases hc
      rfl
    | some i =>
      simp only []
      rw [linearise_go_acc, List.reverse_singleton, List.singleton_append]
      obtain ⟨h1, h2, o, h3, h4⟩ := (hready i).1 (List.mem_of_getElem? hi)
      obtain ⟨pre, post, e1, e2, hpre⟩ := rem_split (n := ops.size) h1 hsz h2
      rw [e1] at hc hl
      have hanc : ∀ k ∈ tab.getD i [], listed.getD k true = true := fun k hk => by
        rcases ((drawOK_spec h h3).2.1 k hk).2 with hd | ⟨d, hd, hk'⟩
        · have := h4 k hd
          simp only [Array.getD_eq_getD_getElem?] at this ⊢
          cases hq : listed[k]? with
          | none => rfl
          | some b => rw [hq] at this; simpa using this
        · have := h4 d hd
          refine hcl d ?_ k hk'
          simp only [Array.getD_eq_getD_getElem?] at this ⊢
          cases hq : listed[d]? with
          | none => rfl
          | some b => rw [hq] at this; simpa using this
      have hc' := CalmD.move h (fun j hj => ⟨(hpre j hj).1, fun hm => by
        have := hanc j hm
        rw [(hpre j hj).2] at this
        cases this⟩) hc
      obtain ⟨o', s1, ho', _, hs1, _, hc2⟩ := hc'
      rw [h3] at ho'
      cases ho'
      simp only [evIdx, Array.getElem?_toList, h3, hs1]
      refine ih _ _ s1 (by simp [hsz]) (by rw [e2]; simp at hl ⊢; omega) (fun j hj k hk => ?_) (by rw [e2]; exact hc2)
      have g : ∀ j, (listed.setIfInBounds i true).getD j true = if i = j then true else listed.getD j true := fun j => by
        simp only [Array.getD_eq_getD_getElem?, Array.getElem?_setIfInBounds]
        split
        · rename_i hij
          rw [hsz, if_pos (by omega)]
          rfl
        · rfl
      rw [g] at hj ⊢
      split
      · rfl
      · split at hj
        · rename_i hij
          subst hij
          exact hanc k hk
        · exact hcl j hj k hk

/-- a region that draws, for the evaluator -/
def drawPD (X : Cfg) (ops : Array Oper) (tab : List (List Nat)) (ad : List (Nat × AV)) (ds : List Nat) : List Oper → Nat → ASt → (ASt → Prop) → Prop
  | [], _, s, K => K s
  | o :: r, i, s, K => ∃ s1, adOk X ad i o s ∧ step1 X (gdOf ops.toList) s o = some s1 ∧ CondD X ops tab ad ds i o s.st s1.st ∧ drawPD X ops tab ad ds r (i + 1) s1 K

theorem drawPD_calm {X : Cfg} {ops : Array Oper} {tab : List (List Nat)} {ad : List (Nat × AV)} {ds : List Nat} {K : ASt → Prop} : ∀ (l : List Oper) (k : Nat) (s : ASt), (∀ j, l[j]? = ops[k + j]?) → drawPD X ops tab ad ds l k s K → ∃ s', CalmD X ops tab ad ds (List.range' k l.length) s s' ∧ K s'
  | [], k, s, _, h => ⟨s, rfl, h⟩
  | o :: l, k, s, hl, ⟨s1, h0', h1, h2, h3⟩ => by
    have h0 : ops[k]? = some o := by simpa using (hl 0).symm
    obtain ⟨s', h4, h5⟩ := drawPD_calm l (k + 1) s1 (fun j => by have := hl (j + 1); simpa [Nat.add_assoc, Nat.add_comm 1 j] using this) h3
    exact ⟨s', ⟨o, s1, h0, h0', h1, h2, h4⟩, h5⟩

theorem drawPD_sound {X : Cfg} {ops : Array Oper} {tab : List (List Nat)} {ad : List (Nat × AV)} {ds : List Nat} (hok : drawOK ops tab = true) {s : ASt} {K : ASt → Prop} (h : drawPD X ops tab ad ds ops.toList 0 s K) :
    ∃ s', (∀ t, evIdx X ops.toList (Region.schedule true ops t) s = some s') ∧ K s' := by
  obtain ⟨s', h1, h2⟩ := drawPD_calm ops.toList 0 s (by simp) h
  refine ⟨s', fun t => ?_, h2⟩
  simp only [Region.schedule, Bool.true_or, if_true, Region.linearise]
  have hrem : rem ops.size (Array.replicate ops.size false) = List.range ops.size := by
    rw [rem, List.filter_eq_self]
    intro i hi
    simp only [List.mem_range] at hi
    simp [Array.getD, hi]
  refine CalmD.go (ad := ad) (ds := ds) hok _ _ _ _ (by simp) (by rw [hrem]; simp) (fun i hi k hk => ?_) ?_
  · rcases Nat.lt_or_ge i ops.size with hlt | hge
    · simp [Array.getD, hlt] at hi
    · have ht : tab.length ≤ ops.size := by
        simp only [drawOK, Bool.and_eq_true, decide_eq_true_eq] at hok
        exact hok.1
      rw [List.getD_eq_getElem?_getD, List.getElem?_eq_none (by omega)] at hk
      cases hk
  · rw [hrem, List.range_eq_range', ← Array.length_toList]
    exact h1

/-- blocks that are set aside: rows without elements, and places of maps -/
def resvOk : ABlk → Bool
  | .row _ 0 0 [] => true
  | .tick 0 => true
  | _ => false
end Go.Proofs.YtgpkochbmfhmdaaGreatDoor.Lift
