/-
  LIFT, 33: CONTRACTS WITH A STORE whose newest blocks are frozen into the result at the end.
  C1: call's Copy, Push and Pop; SameValues, SameCall.
  C2: SameValues, SameCall; larchlaw17's light.
  LIFT, 40: VALUES THAT ARE CARRIED OUT AT ONCE (for the kernel): what is handed on is laid anew.
  LIFT, 39: THE EVALUATOR OF OPERATIONS, cut into small definitions (for the kernel); it is the same (printed by gen39.py).
  L35: A FUNCTION THAT IS RUN: the evaluator carried through on known values, loops and calls too, for the kernel to compute; and that this is a contract.
  LIFT, 36: REGIONS THAT DRAW, where a call may come before or behind an operation that makes a new block.
-/
import Derived.Test.YtgpkochbmfhmdaaGreatDoorQ7
namespace Go.Proofs.YtgpkochbmfhmdaaGreatDoor.Lift
open Go
set_option maxRecDepth 100000

/-- the cells that one of the store's blocks holds -/
def HeldBy (G : Gh) (b' b o : Nat) : Prop :=
  (∃ sz g lo xs, G.σ[b']? = some (.row sz g lo xs) ∧ G.ρ b' g = some b ∧ o < xs.length * sz)
theorem HeldBy.at {G : Gh} {b' b o : Nat} (h : HeldBy G b' b o) : ∃ k, G.σ[b']? = some k ∧ k.live = true ∧ G.ρ b' k.gen = some b := by
  obtain ⟨sz, g, lo, xs, h1, h2, _⟩ := h
  exact ⟨_, h1, rfl, h2⟩
theorem peek_rep2 {G H : Gh} {st : Sto} (inv : Inv G) (x : ExtF G H) (hw : H.w = G.w) (hsub : ∀ (b : Nat) (k : ABlk), st[b]? = some k → k.live = true → G.σ[b]? = some k ∧ ∀ blk o, HeldBy G b blk o → H.φ blk o) : ∀ (d : Nat) {v v' : AV} {u : Value}, peek st d v = some v' → Rep G v u → Rep H v' u := by
  intro d
  induction d with
  | zero =>
    intro v v' u h hr
    simp only [peek] at h
    split at h
    · cases h; exact fz_rep x ‹_› hr
    · cases h
  | succ d ih =>
    intro v v' u h hr
    by_cases hz : fz v = true
    · rw [peek_fz hz] at h
      cases h
      exact fz_rep x hz hr
    rw [peek_succ, if_neg hz, peek1.eq_def] at h
    -- the cells of an element that was read
    have cells : ∀ {p q : AV}, peek st d p = some q → q.cells.length = p.cells.length ∧ ∀ (j : Nat) (a b : AV) (v : Value), p.cells[j]? = some a → q.cells[j]? = some b → Rep G a v → Rep H b v := fun {p q} hpq =>
      ⟨(peek_cells hpq).1, fun j a b v ha hb hr => ih ((peek_cells hpq).2 j a b ha hb) hr⟩
    cases v with
    | snil =>
      cases h
      cases hr
      exact .sl0 _ _ (fun _ => rfl)
    | sl xs =>
      obtain ⟨ys, hys, rfl⟩ := Option.map_eq_some_iff.1 h
      obtain ⟨h1, h2⟩ := mapO_get hys
      cases hr with
      | sl0 a cap hn =>
        cases ys with
        | nil => exact .sl0 _ _ hn
        | cons y ys => simp at h1
      | sl hl hE =>
        rename_i blk o sz cap
        rw [← h1]
        refine .sl (sz := sz) (by omega) (RepElems.of_get fun i y hy => ?_)
        · obtain ⟨p, hp, hpq⟩ := h2 i y hy
          obtain ⟨h3, h4⟩ := hE.get hp
          obtain ⟨h5, h6⟩ := cells hpq
          refine ⟨h5.trans h3, RepCells.of_get fun j q hq => ?_⟩
          have hjlt : j < p.cells.length := by
            have := (List.getElem?_eq_some_iff.1 hq).1
            omega
          obtain ⟨u, g1, g2, g3⟩ := h4.get (i := j) (x := p.cells[j]) (by simp [hjlt])
          exact ⟨u, x.frozen _ _ g1, x.cell _ _ g1 _ g2, h6 j _ q u (by simp [hjlt]) hq g3⟩
    | sr b g off len =>
      simp only at h
      cases hb : st[b]? with
      | none => rw [hb] at h; cases h
      | some k =>
        rw [hb] at h
        cases k with
        | map es => cases h
        | tick _ => cases h
        | dead _ _ => cases h
        | iter _ _ => cases h
        | row sz g' lo xs =>
          simp only at h
          split at h
          · rename_i hc
            obtain ⟨rfl, hlen⟩ := hc
            obtain ⟨ys, hys, rfl⟩ := Option.map_eq_some_iff.1 h
            obtain ⟨h1, h2⟩ := mapO_get hys
            have hyl : ys.length = len := by rw [h1]; simp; omega
            obtain ⟨r1, r2, r3⟩ := inv.rows b sz g lo xs (hsub b _ hb rfl).1
            cases hr with
            | sr0 hI hρ =>
              cases ys with
              | nil => exact .sl0 _ _ (fun _ => rfl)
              | cons y ys => simp at hyl
            | srE hI hρ ho =>
              cases ys with
              | nil => exact .sl0 _ _ (fun e => by cases e)
              | cons y ys => simp at hyl
            | sr hI hρ hl hb' hc' =>
              rename_i sz' blk cap c e fz'
              obtain ⟨k', hk', _, hs'⟩ := hI
              rw [(hsub b _ hb rfl).1] at hk'
              cases hk'
              simp only [ABlk.sz, Option.some.injEq] at hs'
              subst hs'
              obtain ⟨c2, e2, fz2, hb2, _, hrow, _⟩ := r2 blk hρ
              have := elems_of_row (G := G) (H := H) hw hb2 hrow (ys := ys) (off := off) (fun o ho => (hsub b _ hb rfl).2 _ _ ⟨sz, g, lo, xs, (hsub b _ hb rfl).1, hρ, ho⟩) (fun i y hy => by
                obtain ⟨p, hp, hpq⟩ := h2 i y hy
                obtain ⟨h5, h6⟩ := cells hpq
                refine ⟨p, ?_, h5, h6⟩
                have hi : i < len := by have := (List.getElem?_eq_some_iff.1 hy).1; omega
                simpa [List.getElem?_take, List.getElem?_drop, hi] using hp)
              have h7 := Rep.sl (G := H) (cap := cap) (by omega) this
              rw [hyl] at h7
              exact h7
          · cases h
    | ptr b g i off =>
      simp only at h
      cases hb : st[b]? with
      | none => rw [hb] at h; cases h
      | some k =>
        rw [hb] at h
        cases k with
        | map es => cases h
        | tick _ => cases h
        | dead _ _ => cases h
        | iter _ _ => cases h
        | row sz g' lo xs =>
          simp only at h
          split at h
          · rename_i hc
            subst hc
            cases hx : xs[i]? with
            | none => rw [hx] at h; cases h
            | some p =>
              rw [hx] at h
              obtain ⟨y, hy, rfl⟩ := Option.map_eq_some_iff.1 h
              obtain ⟨r1, r2, r3⟩ := inv.rows b sz g lo xs (hsub b _ hb rfl).1
              cases hr with
              | ptr hI hρ =>
                rename_i sz' blk
                obtain ⟨k', hk', _, hs'⟩ := hI
                rw [(hsub b _ hb rfl).1] at hk'
                cases hk'
                simp only [ABlk.sz, Option.some.injEq] at hs'
                subst hs'
                obtain ⟨c2, e2, fz2, hb2, _, hrow, _⟩ := r2 blk hρ
                have := elems_of_row (G := G) (H := H) hw hb2 hrow (ys := [y]) (off := i) (fun o ho => (hsub b _ hb rfl).2 _ _ ⟨sz, g, lo, xs, (hsub b _ hb rfl).1, hρ, ho⟩) (fun k z hz => by
                  cases k with
                  | zero =>
                    simp at hz
                    subst hz
                    obtain ⟨h5, h6⟩ := cells hy
                    exact ⟨p, by simpa using hx, h5, h6⟩
                  | succ k => simp at hz)
                have h8 := (this.get (i := 0) (x := y) rfl).2
                simp only [Nat.zero_mul, Nat.add_zero] at h8
                exact .rp h8
          · cases h
    | mr b => cases h
    | fn f a b =>
      simp only at h
      split at h
      · rename_i a' b' ha hb
        cases h
        cases hr with
        | fn h1 h2 => exact .fn (mapO_repL ha (fun _ _ _ h hr => ih h hr) h1) (mapO_repL hb (fun _ _ _ h hr => ih h hr) h2)
      · cases h
    | agg cs =>
      obtain ⟨r, h1, rfl⟩ := Option.map_eq_some_iff.1 h
      cases hr with
      | agg hl => exact .agg (mapO_repL h1 (fun _ _ _ h hr => ih h hr) hl)
    | tup cs =>
      obtain ⟨r, h1, rfl⟩ := Option.map_eq_some_iff.1 h
      cases hr with
      | tup hl => exact .tup (mapO_repL h1 (fun _ _ _ h hr => ih h hr) hl)
    | _ => cases h

/-- the store with its eldest blocks hidden -/
def hideTo (n : Nat) (st : Sto) : Sto := List.replicate n (.dead 0 0) ++ st.drop n
theorem hideTo_get {n : Nat} {st : Sto} {b : Nat} {k : ABlk} (h : (hideTo n st)[b]? = some k) (hl : k.live = true) : n ≤ b ∧ st[b]? = some k := by
  unfold hideTo at h
  by_cases hb : b < n
  · rw [List.getElem?_append_left (by simpa using hb), List.getElem?_replicate, if_pos hb] at h
    cases h
    cases hl
  · rw [List.getElem?_append_right (by simp; omega), List.length_replicate, List.getElem?_drop] at h
    exact ⟨by omega, by rw [← h]; congr 1; omega⟩
@[simp] theorem hideTo_app (st r : Sto) : hideTo st.length (st ++ r) = List.replicate st.length (.dead 0 0) ++ r := by simp [hideTo]

/-- the newest blocks are frozen, and left -/
theorem freeze_at {X : Cfg} (hz : FzG X.G) {G0 G : Gh} {st st2 : Sto} (hJ : G.J = noFoe) (h0 : G0.σ.length ≤ st.length) (hst : G.σ = st ++ st2) (hb : st.all (blwB st.length) = true) (inv : Inv G) (hg : Glob X G) (x : Ext G0 G) :
    ∃ H : Gh, H.w = G.w ∧ H.σ = st ∧ Inv H ∧ Ext G0 H ∧ ∀ (d : Nat) {v v' : AV} {u : Value}, peek (hideTo st.length G.σ) d v = some v' → Rep G v u → Rep H v' u := by
  let H : Gh := { G with σ := st, φ := fun b o => G.φ b o ∨ ∃ b', st.length ≤ b' ∧ HeldBy G b' b o }
  have hxr : ∀ {a : AV} {v : Value}, blw st.length a = true → Rep G a v → Rep H a v := fun {a v} hbl hr => by
    have cut : Cut st.length G { G with σ := st } := ⟨rfl, rfl, rfl, fun b hb => by show st[b]? = G.σ[b]?; rw [hst, List.getElem?_append_left hb]⟩
    exact Rep.extR (G := { G with σ := st }) (H := H) ⟨fun blk c e fz hb => ⟨c, hb, rfl⟩, fun _ _ h => .inl h, fun b o _ v hv => hv, fun b m k _ hb => hb, fun b k hk => ⟨k, hk, Nat.le_refl _, rfl⟩, fun _ _ _ _ _ => rfl⟩ (hr.cut cut hbl)
  have hxrE : ∀ {es : List (AV × AV)} {v : List MapEntry}, blwE st.length es = true → RepE G es v → RepE H es v := fun {es v} hbl hr => by
    have cut : Cut st.length G { G with σ := st } := ⟨rfl, rfl, rfl, fun b hb => by show st[b]? = G.σ[b]?; rw [hst, List.getElem?_append_left hb]⟩
    exact RepE.extR (G := { G with σ := st }) (H := H) ⟨fun blk c e fz hb => ⟨c, hb, rfl⟩, fun _ _ h => .inl h, fun b o _ v hv => hv, fun b m k _ hb => hb, fun b k hk => ⟨k, hk, Nat.le_refl _, rfl⟩, fun _ _ _ _ _ => rfl⟩ (hr.cut cut hbl)
  have sub : ∀ {b : Nat} {k : ABlk}, st[b]? = some k → G.σ[b]? = some k := fun {b k} hk => by
    rw [hst, List.getElem?_append_left (List.getElem?_eq_some_iff.1 hk).1]; exact hk
  have hblk : ∀ {b : Nat} {k : ABlk}, st[b]? = some k → blwB st.length k = true := fun {b k} hk => List.all_eq_true.1 hb k (List.mem_of_getElem? hk)
  have own : ∀ blk, Owned H blk → Owned G blk := fun blk ⟨b, k, hk, hlv, hr⟩ => ⟨b, k, sub hk, hlv, hr⟩
  have heldO : ∀ {b' b o : Nat}, HeldBy G b' b o → Owned G b := fun {b' b o} h => by
    obtain ⟨k, h1, h2, h3⟩ := h.at
    exact ⟨b', k, h1, h2, h3⟩
  have apart : ∀ {b : Nat} {k : ABlk} {blk o : Nat}, st[b]? = some k → G.ρ b k.gen = some blk → (∃ b', st.length ≤ b' ∧ HeldBy G b' blk o) → False := fun {b k blk o} hk hr ⟨b', hb', hh⟩ => by
    obtain ⟨k', h1, _, h3⟩ := hh.at
    have := inv.inj b b' k k' blk (sub hk) h1 hr h3
    have hlt := (List.getElem?_eq_some_iff.1 hk).1
    omega
  refine ⟨H, rfl, rfl, ?_, ?_, ?_⟩
  · exact
      { rows := fun b sz g lo xs hk => by
          obtain ⟨r1, r2, r3⟩ := inv.rows b sz g lo xs (sub hk)
          refine ⟨r1, fun blk hbk => ?_, r3⟩
          obtain ⟨c, e, fz, q1, q2, q3, q4⟩ := r2 blk hbk
          have hbl : blwL st.length xs = true := hblk hk
          refine ⟨c, e, fz, q1, q2, fun i y hy => ⟨(q3 i y hy).1, fun j z hz => ?_⟩, fun o ho h => ?_⟩
          · obtain ⟨v, q5, q6⟩ := (q3 i y hy).2 j z hz
            exact ⟨v, q5, hxr (blwL_mem (blw_cells (blwL_mem hbl y (List.mem_of_getElem? hy))) z (List.mem_of_getElem? hz)) q6⟩
          · rcases h with h | h
            · exact q4 o ho h
            · exact apart hk hbk h
        maps := fun b es hk => by
          obtain ⟨blk, ents, ck, m1, m2, m3, m4⟩ := inv.maps b es (sub hk)
          refine ⟨blk, ents, ck, m1, m2, hxrE (hblk hk) m3, fun o h => ?_⟩
          rcases h with h | h
          · exact m4 o h
          · exact apart hk m1 h
        inj := fun b b' k k' blk hk hk' => inv.inj b b' k k' blk (sub hk) (sub hk')
        lt := fun b o h => by
          rcases h with h | ⟨b', _, h⟩
          · exact inv.lt b o h
          · exact inv.owned_lt (heldO h)
        tks := fun b n hk => inv.tks b n (sub hk)
        held := by show G.J _ _ _ _ _; rw [hJ]; trivial
        stab := inv.stab
        zlt := inv.zlt
        znone := inv.znone
        its := fun b s i h => inv.its b s i (sub h)
        deads := fun b sz g blk h hr => inv.deads b sz g blk (sub h) hr }
  · exact
      { os := x.os, tape := x.tape, output := x.output, size := x.size, old := x.old, shape := x.shape, frozen := fun b o h => .inl (x.frozen b o h), cell := x.cell, fmap := x.fmap
        thaw := fun b o h hb => by
          rcases h with h | ⟨b', _, h⟩
          · exact x.thaw b o h hb
          · rcases x.own b (heldO h) with h | h
            · omega
            · exact .inr h
        len := h0
        id := fun b k hk => by
          obtain ⟨k', i1, i2, i3⟩ := x.id b k hk
          have hlt : b < st.length := Nat.lt_of_lt_of_le (List.getElem?_eq_some_iff.1 hk).1 h0
          exact ⟨k', by show st[b]? = _; rw [← i1, hst, List.getElem?_append_left hlt], i2, i3⟩
        at_ := x.at_, own := fun blk ho => x.own blk (own blk ho), time := x.time, zin := x.zin, zout := x.zout, foe := x.foe }
  · intro d v v' u hp hr
    refine peek_rep2 (H := H) inv ⟨fun _ _ h => .inl h, fun _ _ _ _ h => h, fun _ _ _ _ h => h⟩ rfl (fun b k hk hl => ?_) d hp hr
    obtain ⟨h1, h2⟩ := hideTo_get hk hl
    exact ⟨h2, fun blk o hh => .inr ⟨b, h1, hh⟩⟩

/-- a contract with a store, where nothing is foreign: the newest blocks are left at the end, frozen into the result (d: how deep) -/
theorem soundZ_of_wk {E : Env} {B : List Nat} (d : Nat) (ok : OkX Tryz.prog (XB E B)) (hm : Tryz.prog.follows .mixedOrders = true) {f : Nat} {fn : Func} (hf : Tryz.prog.funcs[f]? = some fn) (hb : fn.body.isSome = true) (hn : (fn.name == "runtime.NumGoroutine") = false) {S : Spec}
    (h : ∀ args st r st', S args st = some (r, st') → st.all (blwB st.length) = true → st.length ≤ st'.length ∧ st'.all (blwB st'.length) = true ∧ ∀ G0 : { G : Gh // G.σ = st }, wk Tryz.prog (XB E B) G0.1 (fun e s => (e = .normal ∨ e = .ret) ∧ ∃ v, resAs (XB E B) s fn.results.toList = some v ∧ peek (hideTo st'.length s.st) d v = some r ∧ s.st.take st'.length = st') (fn.body.get hb) [] (entry fn args st)) : SoundF Tryz.prog gl f S where
  calls := fun G args vals r σ' hr inv hJ hg hargs => by
    obtain ⟨hlen, hall, hw⟩ := h args G.σ r σ' hr inv.shut
    have hev := ev_of_wk ok hm (hw ⟨G, rfl⟩)
    have hst := entry_st (X := XB E B) (fn := fn) inv hg hJ hargs
    have hc : fn.body = some (fn.body.get hb) := by simp
    refine .inl ⟨run_callFunc hf (by rw [← Option.not_isSome, hb]; rfl) hn _ _, (callsIn_wide (n := 0)).1 (callsIn_of_wp_marks hf hc trivial ?_)⟩
    refine wpIn_mono (hev Fence.wide 0 _ _ ⟨.inl rfl, .inr rfl⟩ hst) fun e a' w' ⟨s', ⟨he, v, h1, hp, h2⟩, h3⟩ => ?_
    obtain ⟨G1, rfl, hs, inv1, hg1, x1, hJ1, rs, hd, hnd, hne, hrs⟩ := h3
    have key : LeavesInM Fence.wide 0 Tryz.prog fn a'.tmps (Ret G r σ') a'.defers .returning G1.w := by
      rw [hd]
      refine leaves_marks rs G1.w hnd (fun r hr => (hrs r hr).1) fun w' hp' => ?_
      obtain ⟨G2, rfl, e2, x2, inv2, tr⟩ := hp'.ext rfl (fun r hr => (hrs r hr).2.1) (fun h => hJ1.trans (hne h).1) inv1 x1
      have hs2 : Slots G2 s' a' := ⟨hs.1, fun t => tr _ _ (hs.2.1 t), e2.trans hs.2.2⟩
      obtain ⟨u, h4, h5⟩ := run_results (X := XB E B) rfl inv2 hs2 h1
      have hcut : s'.st = σ' ++ s'.st.drop σ'.length := by conv => lhs; rw [← List.take_append_drop σ'.length s'.st, h2]
      have hg2 : Glob (XB E B) G2 := fun g v hv => (hg g v hv).ext x2
      have hJ2 : G2.J = noFoe := x2.foe.trans hJ
      obtain ⟨H, hw, hσ, inv3, x3, hrep⟩ := freeze_at (X := XB E B) fz_gl hJ2 hlen (hs2.2.2.trans hcut) hall inv2 hg2 x2
      refine ⟨u, h4, H, hw, hσ, x3, inv3, ?_⟩
      exact hrep d (by rw [hs2.2.2]; exact hp) h5
    rcases he with rfl | rfl <;> exact key
end Go.Proofs.YtgpkochbmfhmdaaGreatDoor.Lift
namespace Go.Proofs.YtgpkochbmfhmdaaGreatDoor.Lift
open Go
set_option maxRecDepth 100000

def cloneOkV (xs : List AV) : Bool := match mapO decVal xs with
  | some l => decide (l.length < 1099511627776)
  | none => false
theorem cloneOk_vals (l : List AVal) : cloneOkV (l.map encVal) = decide (l.length < 1099511627776) := by simp [cloneOkV]
theorem cloneOkV_inv {xs : List AV} (h : cloneOkV xs = true) : ∃ l : List AVal, xs = l.map encVal ∧ l.length < 1099511627776 := by
  unfold cloneOkV at h
  split at h
  · rename_i l hl
    exact ⟨l, mapO_inv cVal.ed _ _ hl, of_decide_eq_true h⟩
  · cases h
theorem f_CloneV : SoundF Tryz.prog gl 82 (sClone 2 cloneOkV) := by
  refine clone_join (soundF_of_wk okX_nil mixed Tryz.func82 rfl rfl (fun args st r st' h G0 => ?_)) (soundF_of_wk okX_nil mixed Tryz.func82 rfl rfl (fun args st r st' h G0 => ?_)) (soundF_of_wk okX_nil mixed Tryz.func82 rfl rfl (fun args st r st' h G0 => ?_))
  · unfold sCloneNil at h
    split at h
    · cases h
      simp [Tryz.f82, entry]
    · cases h
  · unfold sCloneE at h
    split at h
    · cases h
      simp [Tryz.f82, entry]
    · cases h
  · unfold sCloneX at h
    split at h
    · rename_i x xs
      split at h
      · rename_i hc
        obtain ⟨l, hl, hb⟩ := cloneOkV_inv hc
        cases l with
        | nil => cases hl
        | cons y l =>
          simp only [List.map_cons, List.cons.injEq] at hl
          obtain ⟨rfl, rfl⟩ := hl
          cases h
          simp only [List.length_cons] at hb
          have hb : (l.length + 1) * 16 ≤ 140737488355328 := by omega
          simp [Tryz.f82, entry, hb]
      · cases h
    · cases h

/-- a call of one's own: its locals and its stack in new blocks, behind two more -/
def sCallCopy : Spec := fun args st => match args with
  | [x] => (decCallF x).bind fun c => if c.locals.length < 1099511627776 ∧ c.stack.length < 1099511627776 then
      some (.agg [.int .i64 c.cls, .int .i64 c.method, .int .i64 c.at_, .sr (st.length + 2) 1 0 c.locals.length, .sr (st.length + 3) 1 0 c.stack.length, .int .i64 c.lock],
        st ++ [.row 6 0 0 [.agg [.int .i64 c.cls, .int .i64 c.method, .int .i64 c.at_, .sr (st.length + 2) 1 0 c.locals.length, .sr (st.length + 3) 1 0 c.stack.length, .int .i64 c.lock]], .row 6 0 0 [.agg [.int .i64 c.cls, .int .i64 c.method, .int .i64 c.at_, .sr (st.length + 2) 1 0 c.locals.length, .sr (st.length + 3) 1 0 c.stack.length, .int .i64 c.lock]],
          .row 2 1 0 (c.locals.map encVal), .row 2 1 0 (c.stack.map encVal)]) else none
  | _ => none
theorem ok_callCopy : OkX Tryz.prog (XE [(82, sClone 2 cloneOkV)]) := okX_nil.add f_CloneV
theorem app_get {α : Type} (p q : List α) (j : Nat) : (p ++ q)[p.length + j]? = q[j]? := by
  rw [List.getElem?_append_right (by omega)]
  congr 1
  omega
theorem app_get0 {α : Type} (p q : List α) : (p ++ q)[p.length]? = q[0]? := app_get p q 0
theorem app_set {α : Type} (p q : List α) (j : Nat) (x : α) : (p ++ q).set (p.length + j) x = p ++ q.set j x := by
  rw [List.set_append_right _ _ (by omega)]
  congr 2
  omega
theorem app_set0 {α : Type} (p q : List α) (x : α) : (p ++ q).set p.length x = p ++ q.set 0 x := app_set p q 0 x
set_option maxHeartbeats 1000000 in
theorem f_callCopy : SoundF Tryz.prog gl 45 sCallCopy := by
  refine soundF_of_wk ok_callCopy mixed Tryz.func45 rfl rfl fun args st r st' h G0 => ?_
  unfold sCallCopy at h
  split at h
  · rename_i x
    obtain ⟨c, hc, h2⟩ := Option.bind_eq_some_iff.1 h
    have := cCallF.ed _ _ hc
    subst this
    simp only [Option.ite_none_right_eq_some, Option.some.injEq] at h2
    obtain ⟨⟨h3, h4⟩, h5⟩ := h2
    cases h5
    clear h hc
    have g1 := fun q j => app_get st q j
    have g0 := fun q => app_get0 st q
    have s1 := fun q j x => app_set st q j x
    have s0 := fun q x => app_set0 st q x
    simp [Tryz.f45, entry]
    refine dk_ofL [(1, .ptr st.length 0 0 3), (4, .ptr st.length 0 0 4)] (by decide) ?_
    simp [List.lookup, g1, g0, s1, s0, cloneOk_vals, h3, h4]
    refine sd_ofL rfl ?_ ?_
    · simp (decide := true) [steadyL, ldEq, g1, g0]
    simp [List.lookup, g1, g0, s1, s0, cloneOk_vals, h3, h4]
    refine sd_of (by decide) ?_
    simp [List.lookup, g1, g0, s1, s0, cloneOk_vals, h3, h4]
    refine sd_of (by decide) ?_
    simp [List.lookup, g1, g0, s1, s0, cloneOk_vals, h3, h4]
    refine sd_of (by decide) ?_
    simp [List.lookup, g1, g0, s1, s0, cloneOk_vals, h3, h4]
  · cases h

/-- a contract on frozen values, whatever the store -/
def sPure (g : List AV → Option AV) : Spec := fun args st => (g args).map fun r => (r, st)
def pushT (c : ACallF) (l : List AVal) : ACallF := ⟨c.cls, c.method, c.at_, c.locals, c.stack ++ l, c.lock⟩
def gPush (c : ACallF) (l : List AVal) : Option ACallF := if c.locals.length < 549755813888 ∧ c.stack.length + l.length < 549755813888 then some (pushT c l) else none
theorem ok_Push : OkX Tryz.prog (XE [(45, sCallCopy)]) := okX_nil.add f_callCopy
theorem dec_callF (c : ACallF) : decCallF (encCallF c) = some c := cCallF.de c
set_option maxHeartbeats 1000000 in
theorem f_Push : SoundF Tryz.prog gl 18 (sPure (fn2 cCallF (cL cVal) encCallF gPush)) := by
  refine soundZ_of_wk 9 ok_Push mixed Tryz.func18 rfl rfl fun args st r st' hs hsh => ?_
  obtain ⟨r', hr, he⟩ := Option.map_eq_some_iff.1 hs
  cases he
  obtain ⟨c, l, e, rfl, he, rfl⟩ := fn2_inv hr
  simp only [gPush, Option.ite_none_right_eq_some, Option.some.injEq] at he
  obtain ⟨⟨h3, h4⟩, rfl⟩ := he
  clear hs hr
  refine ⟨Nat.le_refl _, hsh, fun G0 => ?_⟩
  have g1 := fun q j => app_get st q j
  have g0 := fun q => app_get0 st q
  have s1 := fun q j x => app_set st q j x
  have s0 := fun q x => app_set0 st q x
  have b1 : c.locals.length < 1099511627776 := by omega
  have b2 : c.stack.length < 1099511627776 := by omega
  have b3 : (c.stack.length + l.length) * 16 ≤ 140737488355328 := by omega
  have hd := dec_callF c
  simp only [encCallF] at hd
  have htk : List.take (c.stack.length + l.length) (List.map encVal c.stack ++ List.map encVal l) = List.map encVal c.stack ++ List.map encVal l := List.take_of_length_le (by simp)
  have hfz : fzL (List.map encVal c.stack ++ List.map encVal l) = true := by rw [← List.map_append]; exact fzL_Val _
  have hpk : ∀ (S : Sto) (d : Nat), mapO (peek S d) (List.map encVal c.stack ++ List.map encVal l) = some (List.map encVal c.stack ++ List.map encVal l) := fun S d => mapO_peek hfz
  unfold pushT
  simp [Tryz.f18, entry, g1, g0, s1, s0, sCallCopy, hd, b1, b2, b3, Nat.add_assoc, htk, hpk]

/-- what is popped -/
def popT (c : ACallF) : ACallF × AVal × Int := if c.stack = [] then (⟨0, 0, 0, [], [], 0⟩, ⟨0, 0⟩, 110) else (⟨c.cls, c.method, c.at_, c.locals, c.stack.dropLast, c.lock⟩, c.stack.getLastD ⟨0, 0⟩, 0)
def encPop (x : ACallF × AVal × Int) : AV := .tup [encCallF x.1, encVal x.2.1, .int .i64 x.2.2]
def gPop (c : ACallF) : Option (ACallF × AVal × Int) := if c.locals.length < 549755813888 ∧ c.stack.length < 549755813888 then some (popT c) else none
set_option maxHeartbeats 1000000 in
theorem f_Pop : SoundF Tryz.prog gl 19 (sPure (fn1 cCallF encPop gPop)) := by
  refine soundZ_of_wk 9 ok_Push mixed Tryz.func19 rfl rfl fun args st r st' hs hsh => ?_
  obtain ⟨r', hr, he⟩ := Option.map_eq_some_iff.1 hs
  cases he
  obtain ⟨c, e, rfl, he, rfl⟩ := fn1_inv hr
  simp only [gPop, Option.ite_none_right_eq_some, Option.some.injEq] at he
  obtain ⟨⟨h3, h4⟩, rfl⟩ := he
  clear hs hr
  refine ⟨Nat.le_refl _, hsh, fun G0 => ?_⟩
  have g1 := fun q j => app_get st q j
  have g0 := fun q => app_get0 st q
  have s1 := fun q j x => app_set st q j x
  have s0 := fun q x => app_set0 st q x
  have b1 : c.locals.length < 1099511627776 := by omega
  have b2 : c.stack.length < 1099511627776 := by omega
  have hd := dec_callF c
  simp only [encCallF] at hd
  obtain ⟨cls, method, at_, locals, stack, lock⟩ := c
  simp only at *
  unfold popT encPop
  rcases List.eq_nil_or_concat stack with rfl | ⟨init, v, rfl⟩
  · have hw0 : IntKind.wrap .i64 (-1) = -1 := by decide
    simp [Tryz.f19, entry, g1, g0, s1, s0, hw0]

  · obtain ⟨vk, vn⟩ := v
    have hx : ((List.map encVal init ++ [AV.agg [.int .i64 vk, .int .i64 vn]]))[init.length]? = some (AV.agg [.int .i64 vk, .int .i64 vn]) := by
      rw [List.getElem?_append_right (by simp)]; simp
    have htk : List.take init.length (List.map encVal init ++ [AV.agg [.int .i64 vk, .int .i64 vn]]) = List.map encVal init := by
      rw [List.take_append_of_le_length (by simp), List.take_of_length_le (by simp)]
    have hi : ((init.length : Int) < 0) = False := eq_false (by omega)
    have hw1 : IntKind.wrap .i64 (init.length : Int) = init.length := wrap_i64 (by omega) (by simp at h4; omega)
    have b4 : init.length + 1 < 1099511627776 := by simp at h4; omega
    have hlt : ((init.length : Int) < (init.length : Int) + 1) = True := eq_true (by omega)
    simp [Tryz.f19, entry, g1, g0, s1, s0, sCallCopy, hd, b1, b4, Nat.add_assoc, hx, htk, hi, hw1, hlt]
    refine dk_ofL [(1, .ptr (st.length + 7) 0 0 0)] (by decide) ?_
    simp [List.lookup, g1, g0, s1, s0]
    refine sd_ofL rfl ?_ ?_
    · simp (decide := true) [steadyL, ldEq, g1, g0]
    simp [List.lookup, g1, g0, s1, s0]
    refine sd_of (by decide) ?_
    simp [List.lookup, g1, g0, s1, s0, htk]

end Go.Proofs.YtgpkochbmfhmdaaGreatDoor.Lift
namespace Go.Proofs.YtgpkochbmfhmdaaGreatDoor.Lift
open Go
set_option maxRecDepth 100000

theorem p_SameValues : SoundP Tryz.prog gl 43 (fn2 (cL cVal) (cL cVal) encBool fun xs ys => if xs.length < 1099511627776 then some (decide (xs = ys)) else none) := by
  refine soundP_of_wk okX_nil mixed Tryz.func43 rfl rfl fun args r h G0 => ?_
  obtain ⟨xs, ys, e, rfl, he, rfl⟩ := fn2_inv h
  simp only [Option.ite_none_right_eq_some, Option.some.injEq] at he
  obtain ⟨hlen, rfl⟩ := he
  simp [Tryz.f43, entry]
  rw [← decide_not]
  refine br_dec (fun h => ?_) (fun h => ?_)
  · have : xs ≠ ys := fun e => h (by rw [e])
    simp [this]
    exact finS_fz (by simp)
  · simp
    refine lp_of okX_nil mixed (fun (i : Nat) => ⟨26, frL [(0, .sl (xs.map encVal)), (1, .sl (ys.map encVal)), (4, .bool false), (5, .int .i64 i)], []⟩) (fun i => i ≤ xs.length ∧ xs.take i = ys.take i) (fun i => xs.length - i) 0 (by simp) (weak_frL rfl rfl (by simp)) ?_
    intro i ⟨h1, h2⟩
    simp
    refine br_dec (fun h3 => ?_) (fun h3 => ?_)
    · simp
      refine dk_of (by decide) ?_
      have hx : xs[i]? = some xs[i] := by simp [h3]
      have h4 : i < ys.length := by omega
      have hy : ys[i]? = some ys[i] := by simp [h4]
      simp [hx, hy]
      refine br_bool (fun h5 => ?_) (fun h5 => ?_)
      · have : xs ≠ ys := fun e => by subst e; simp at h5
        simp [this]
        exact finS_fz (by simp)
      · have : xs[i] = ys[i] := by
          cases hq : xs[i]
          cases hq' : ys[i]
          simp [hq, hq'] at h5
          simp [h5]
        simp
        refine nextQ_of (i + 1) ⟨h3, by rw [List.take_succ_eq_append_getElem h3, List.take_succ_eq_append_getElem h4, h2, this]⟩ (by omega) (weak_frL rfl rfl ?_)
        simp [wrap_i64 (show (-9223372036854775808 : Int) ≤ i + 1 by omega) (by omega)]
    · have hi : i = xs.length := by omega
      have : xs = ys := by
        have e : xs.length = ys.length := by omega
        rw [hi, List.take_length, e, List.take_length] at h2
        exact h2
      simp [this]
      exact finS_fz (by simp)

def gSameCall (a b : ACallF) : Option Bool := if a.locals.length < 1099511627776 ∧ a.stack.length < 1099511627776 then some (decide (a = b)) else none
theorem ok_SameCall : OkX Tryz.prog (XE [(43, liftS 9 (fn2 (cL cVal) (cL cVal) encBool fun xs ys => if xs.length < 1099511627776 then some (decide (xs = ys)) else none))]) := okX_nil.addP p_SameValues
set_option maxHeartbeats 1000000 in
theorem p_SameCall : SoundP Tryz.prog gl 20 (fn2 cCallF cCallF encBool gSameCall) := by
  refine soundP_of_wk ok_SameCall mixed Tryz.func20 rfl rfl fun args r h G0 => ?_
  obtain ⟨a, b, e, rfl, he, rfl⟩ := fn2_inv h
  simp only [gSameCall, Option.ite_none_right_eq_some, Option.some.injEq] at he
  obtain ⟨⟨b1, b2⟩, rfl⟩ := he
  obtain ⟨a1, a2, a3, a4, a5, a6⟩ := a
  obtain ⟨c1, c2, c3, c4, c5, c6⟩ := b
  simp only at b1 b2
  by_cases h1 : a1 = c1
  · by_cases h2 : a2 = c2
    · by_cases h3 : a3 = c3
      · by_cases h6 : a6 = c6
        · by_cases h4 : a4 = c4
          · subst h1 h2 h3 h4 h6
            simp [Tryz.f20, entry, b1, b2]
            exact finS_fz rfl
          · simp [Tryz.f20, entry, h1, h2, h3, h4, h6, b1, b2]
            exact finS_eq (by simp [h1, h2, h3, h4, h6]) (by simp)
        · simp [Tryz.f20, entry, h1, h2, h3, h6, b1, b2]
          exact finS_eq (by simp [h1, h2, h3, h6]) (by simp)
      · simp [Tryz.f20, entry, h1, h2, h3, b1, b2]
        exact finS_eq (by simp [h1, h2, h3]) (by simp)
    · simp [Tryz.f20, entry, h1, h2, b1, b2]
      exact finS_eq (by simp [h1, h2]) (by simp)
  · simp [Tryz.f20, entry, h1, b1, b2]
    exact finS_eq (by simp [h1]) (by simp)

def gLight17 (l : List AClass) (c : ACallF) : Option Bool := if l = [] ∧ c.locals.length < 549755813888 ∧ c.stack.length < 549755813888 then some (decide (c.locals.length + c.stack.length ≤ 1500)) else none
theorem p_light17 : SoundP Tryz.prog gl 17 (fn2 (cL cClass) cCallF encBool gLight17) := by
  refine soundP_of_wk okX_nil mixed Tryz.func17 rfl rfl fun args r h G0 => ?_
  obtain ⟨l, c, e, rfl, he, rfl⟩ := fn2_inv h
  simp only [gLight17, Option.ite_none_right_eq_some, Option.some.injEq] at he
  obtain ⟨⟨rfl, b1, b2⟩, rfl⟩ := he
  have hw := wrap_i64 (show (-9223372036854775808 : Int) ≤ (c.locals.length : Int) + c.stack.length by omega) (by omega)
  have hd : ((c.locals.length : Int) + (c.stack.length : Int) ≤ 1500) = (c.locals.length + c.stack.length ≤ 1500) := by simp; omega
  simp [Tryz.f17, entry, hw]
  refine lp_of okX_nil mixed (fun (_ : Unit) => ⟨74, frL [(0, .sl []), (5, .int .i64 ((c.locals.length : Int) + c.stack.length)), (6, .int .i64 0)], [.row 6 0 0 [encCallF c]]⟩) (fun _ => True) (fun _ => 0) () trivial (weak_frL rfl rfl (by simp)) ?_
  intro _ _
  simp [hd]
  exact finS_fz rfl
end Go.Proofs.YtgpkochbmfhmdaaGreatDoor.Lift
namespace Go.Proofs.YtgpkochbmfhmdaaGreatDoor.Lift
open Go
set_option maxRecDepth 100000

section
variable {α : Type}
def fD (n : Nat) (k : Nat → α) : α := match n with
  | 0 => k 0 | 1 => k 1 | 2 => k 2 | 3 => k 3 | 4 => k 4 | 5 => k 5 | 6 => k 6 | 7 => k 7 | 8 => k 8 | 9 => k 9 | 10 => k 10 | 11 => k 11 | 12 => k 12 | 13 => k 13 | 14 => k 14 | 15 => k 15
  | n => k n
theorem fD_eq (n : Nat) (k : Nat → α) : fD n k = k n := by
  unfold fD
  split <;> rfl
def fN : Nat → Nat → (Nat → α) → α
  | 0, n, k => k n
  | f + 1, n, k => match Nat.ble 16 n with
    | true => fN f (n / 16) fun h => fD (n % 16) fun l => k (16 * h + l)
    | false => fD n k
theorem fN_eq : ∀ (f n : Nat) (k : Nat → α), fN f n k = k n
  | 0, _, _ => rfl
  | f + 1, n, k => by
    unfold fN
    split
    · rw [fN_eq f, fD_eq, Nat.div_add_mod]
    · rw [fD_eq]
def fI (n : Int) (k : Int → α) : α := match n with
  | .ofNat m => fN 20 m fun m => k (.ofNat m)
  | .negSucc m => fN 20 m fun m => k (.negSucc m)
theorem fI_eq (n : Int) (k : Int → α) : fI n k = k n := by
  unfold fI
  split <;> rw [fN_eq]
mutual
def fv : AV → (AV → α) → α
  | .undef, k => k .undef
  | .bool b, k => match b with | true => k (.bool true) | false => k (.bool false)
  | .int kd n, k => fI n fun n => k (.int kd n)
  | .str s, k => k (.str s)
  | .nilp, k => k .nilp
  | .ptr b g i o, k => fN 20 b fun b => fN 20 g fun g => fN 20 i fun i => fN 20 o fun o => k (.ptr b g i o)
  | .rp x o, k => fv x fun x => fN 20 o fun o => k (.rp x o)
  | .snil, k => k .snil
  | .sle, k => k .sle
  | .sl xs, k => fvL xs fun xs => k (.sl xs)
  | .sr b g o l, k => fN 20 b fun b => fN 20 g fun g => fN 20 o fun o => fN 20 l fun l => k (.sr b g o l)
  | .fn f a c, k => fvL a fun a => fvL c fun c => k (.fn f a c)
  | .nilf, k => k .nilf
  | .nilm, k => k .nilm
  | .mv es, k => k (.mv es)
  | .mr b, k => fN 20 b fun b => k (.mr b)
  | .agg cs, k => fvL cs fun cs => k (.agg cs)
  | .tup vs, k => fvL vs fun vs => k (.tup vs)
def fvL : List AV → (List AV → α) → α
  | [], k => k []
  | x :: r, k => fv x fun x => fvL r fun r => k (x :: r)
end
mutual
theorem fv_eq : ∀ (x : AV) (k : AV → α), fv x k = k x
  | .undef, _ => rfl
  | .bool b, k => by cases b <;> rfl
  | .int kd n, k => by rw [fv, fI_eq]
  | .str _, _ => rfl
  | .nilp, _ => rfl
  | .ptr b g i o, k => by rw [fv, fN_eq, fN_eq, fN_eq, fN_eq]
  | .rp x o, k => by rw [fv, fv_eq x, fN_eq]
  | .snil, _ => rfl
  | .sle, _ => rfl
  | .sl xs, k => by rw [fv, fvL_eq xs]
  | .sr b g o l, k => by rw [fv, fN_eq, fN_eq, fN_eq, fN_eq]
  | .fn f a c, k => by rw [fv, fvL_eq a, fvL_eq c]
  | .nilf, _ => rfl
  | .nilm, _ => rfl
  | .mv _, _ => rfl
  | .mr b, k => by rw [fv, fN_eq]
  | .agg cs, k => by rw [fv, fvL_eq cs]
  | .tup vs, k => by rw [fv, fvL_eq vs]
theorem fvL_eq : ∀ (x : List AV) (k : List AV → α), fvL x k = k x
  | [], _ => rfl
  | x :: r, k => by rw [fvL, fv_eq x, fvL_eq r]
end
def fvE : List (AV × AV) → (List (AV × AV) → α) → α
  | [], k => k []
  | (a, b) :: r, k => fv a fun a => fv b fun b => fvE r fun r => k ((a, b) :: r)
theorem fvE_eq : ∀ (x : List (AV × AV)) (k : List (AV × AV) → α), fvE x k = k x
  | [], _ => rfl
  | (a, b) :: r, k => by rw [fvE, fv_eq, fv_eq, fvE_eq r]
def fB (b : ABlk) (k : ABlk → α) : α := match b with
  | .row sz g lo xs => fN 20 sz fun sz => fN 20 g fun g => fN 20 lo fun lo => fvL xs fun xs => k (.row sz g lo xs)
  | .map es => fvE es fun es => k (.map es)
  | .dead sz g => fN 20 sz fun sz => fN 20 g fun g => k (.dead sz g)
  | .tick n => k (.tick n)
  | .iter s i => fN 20 i fun i => k (.iter s i)
theorem fB_eq (b : ABlk) (k : ABlk → α) : fB b k = k b := by
  cases b <;> simp only [fB, fN_eq, fvL_eq, fvE_eq]
def fS : Sto → (Sto → α) → α
  | [], k => k []
  | b :: r, k => fB b fun b => fS r fun r => k (b :: r)
theorem fS_eq : ∀ (x : Sto) (k : Sto → α), fS x k = k x
  | [], _ => rfl
  | b :: r, k => by rw [fS, fB_eq, fS_eq r]
end
end Go.Proofs.YtgpkochbmfhmdaaGreatDoor.Lift
namespace Go.Proofs.YtgpkochbmfhmdaaGreatDoor.Lift
open Go
set_option maxRecDepth 100000

def ev_move (X : Cfg) (s : ASt) (x : Operand) : Option (AV × Sto) := some (s.ev X x, s.st)
def ev_assign (X : Cfg) (s : ASt) (x : Operand) : Option (AV × Sto) := some (s.ev X x, s.st)
def ev_pick (X : Cfg) (s : ASt) (c : Operand) (a : Operand) (b : Operand) : Option (AV × Sto) := match s.ev X c with
    | .bool t => some (if t then s.ev X a else s.ev X b, s.st)
    | _ => none
def ev_alloc (X : Cfg) (s : ASt) (dst_ : Option Nat) (t : Nat) : Option (AV × Sto) := match X.T t with
    | some ti => match resAt X.A dst_ with
      | none => some (.ptr s.st.length 0 0 0, s.st ++ [.row ti.size 0 0 [mkv ti.agg ti.zero]])
      | some k => match s.st[k]? with
        | some (.row sz 0 0 []) => if sz = ti.size then some (.ptr k 1 0 0, s.st.set k (.row sz 1 0 [mkv ti.agg ti.zero])) else none
        | _ => none
    | none => none
def ev_box (X : Cfg) (s : ASt) (dst_ : Option Nat) (_u : Nat) (x : Operand) : Option (AV × Sto) := if (s.ev X x).whole = true then (match resAt X.A dst_ with
      | none => some (.ptr s.st.length 0 0 0, s.st ++ [.row (s.ev X x).cells.length 0 0 [s.ev X x]])
      | some k => match s.st[k]? with
        | some (.row sz 0 0 []) => if sz = (s.ev X x).cells.length then some (.ptr k 1 0 0, s.st.set k (.row sz 1 0 [s.ev X x])) else none
        | _ => none) else none
def ev_build (X : Cfg) (s : ASt) (t : Nat) (parts : Array (Nat×Operand)) : Option (AV × Sto) := match X.T t with
    | some ⟨.struct fs, _, z, _, _⟩ =>
      if fs.all (fun f => (X.T f.2).isSome) = true ∧ (parts.toList.map fun p => s.ev X p.2).all (fun v => v.whole) = true then
      match fillParts (fun i => match fs[i]? with | some (off, ft) => (match X.T ft with | some fti => some (off, fti.size) | none => none) | none => none) z (parts.toList.map fun p => (p.1, s.ev X p.2)) with
      | some cs => some (.agg cs, s.st)
      | none => none
      else none
    | some ⟨.array _ e, _, z, _, _⟩ => match X.T e with
      | some te => if (parts.toList.map fun p => s.ev X p.2).all (fun v => v.whole) = true then
          match fillParts (fun i => some (i * te.size, te.size)) z (parts.toList.map fun p => (p.1, s.ev X p.2)) with
          | some cs => some (.agg cs, s.st)
          | none => none
        else none
      | none => none
    | _ => none
def ev_buildSlice (X : Cfg) (s : ASt) (dst_ : Option Nat) (t : Nat) (len : Nat) (parts : Array (Nat×Operand)) : Option (AV × Sto) := match X.T t with
    | some ⟨.slice e, _, _, _, _⟩ => match X.T e with
      | some te =>
        let vs := parts.toList.map fun p => s.ev X p.2
        if parts.toList.map (·.1) = List.range len ∧ vs.all (fun v => decide (v.cells.length = te.size ∧ v.whole = true)) = true ∧ len * te.size ≤ 16777216 then
          (if frozenAt X.B dst_ = true ∧ fzL vs = true then some (.sl vs, s.st) else match resAt X.A dst_ with
            | none => some (.sr s.st.length 0 0 len, s.st ++ [.row te.size 0 0 vs])
            | some k => match s.st[k]? with
              | some (.row sz 0 0 []) => if sz = te.size then some (.sr k 1 0 len, s.st.set k (.row sz 1 0 vs)) else none
              | _ => none)
        else none
      | none => none
    | _ => none
def ev_load (X : Cfg) (s : ASt) (t : Nat) (a : Operand) : Option (AV × Sto) := match X.T t with
    | some ti => (loadAt ti s.st (s.ev X a)).map fun v => (v, s.st)
    | none => none
def ev_store (X : Cfg) (s : ASt) (t : Nat) (a : Operand) (x : Operand) : Option (AV × Sto) := match X.T t with
    | some ti => (storeAt ti s.st (s.ev X a) (s.ev X x)).map fun st => (.tup [], st)
    | none => none
def ev_nilCheck (X : Cfg) (s : ASt) (x : Operand) : Option (AV × Sto) := match s.ev X x with
    | .ptr b g i off => some (.ptr b g i off, s.st)
    | .rp v off => some (.rp v off, s.st)
    | .fn (.func f) a b => some (.fn (.func f) a b, s.st)
    | _ => none
def ev_binOp (X : Cfg) (s : ASt) (op : BinOp) (t : Nat) (x : Operand) (y : Operand) : Option (AV × Sto) := match X.T t with
    | some ti => (evBin op ti (s.ev X x) (s.ev X y)).map fun v => (v, s.st)
    | none => none
def ev_unOp (X : Cfg) (s : ASt) (op : UnOp) (x : Operand) : Option (AV × Sto) := (evUn op (s.ev X x)).map fun v => (v, s.st)
def ev_convert (X : Cfg) (s : ASt) (src : Nat) (dst : Nat) (x : Operand) : Option (AV × Sto) := match X.T src, X.T dst, s.ev X x with
    | some _, some ⟨.int k, _, _, _, _⟩, .int _ n => some (.int k (k.wrap n), s.st)
    | some ⟨.str, _, _, _, _⟩, some ⟨.str, _, _, _, _⟩, .str b => some (.str b, s.st)
    | some ⟨.str, _, _, _, _⟩, some ⟨.slice e, _, _, _, _⟩, .str b => match X.T e with
      | some ⟨.int .u8, 1, _, _, _⟩ => some (.sr s.st.length 0 0 b.length, s.st ++ [.row 1 0 0 (b.map fun c => .int .u8 c.toNat)])
      | _ => none
    | some ⟨.slice e, _, _, _, _⟩, some ⟨.str, _, _, _, _⟩, x => match X.T e, elemsOf s.st x with
      | some ⟨.int .u8, 1, _, _, _⟩, some xs => (bytesOf xs).map fun b => (.str b, s.st)
      | _, _ => none
    | _, _, _ => none
def ev_makeFunc (X : Cfg) (s : ASt) (f : Fn) (first : Array (Operand)) (cap : Array (Operand)) : Option (AV × Sto) := some (.fn f (first.toList.map (s.ev X)) (cap.toList.map (s.ev X)), s.st)
def ev_makeMap (X : Cfg) (s : ASt) (dst_ : Option Nat) (t : Nat) (r : Option Operand) : Option (AV × Sto) := match r with
  | some _ => none
  | none => match X.T t with
    | some ⟨.map _ _, _, _, _, _⟩ => match resAt X.A dst_ with
      | none => some (.mr s.st.length, s.st ++ [.map []])
      | some k => match s.st[k]? with
        | some (.tick 0) => some (.mr k, s.st.set k (.map []))
        | _ => none
    | _ => none
def ev_makeSlice (X : Cfg) (s : ASt) (dst_ : Option Nat) (t : Nat) (l : Operand) (c : Operand) : Option (AV × Sto) := match X.T t, s.ev X l, s.ev X c with
    | some ⟨.slice e, _, _, _, _⟩, .int _ n, .int _ m => match X.T e with
      | some te => if 0 ≤ n ∧ n ≤ m ∧ m * te.bytes ≤ 140737488355328 ∧ m ≤ 140737488355328 then (match resAt X.A dst_ with
          | none => some (.sr s.st.length 0 0 n.toNat, s.st ++ [.row te.size 0 0 (List.replicate n.toNat (mkv te.agg te.zero))])
          | some k => match s.st[k]? with
            | some (.row sz 0 0 []) => if sz = te.size then some (.sr k 1 0 n.toNat, s.st.set k (.row sz 1 0 (List.replicate n.toNat (mkv te.agg te.zero)))) else none
            | _ => none) else none
      | none => none
    | _, _, _ => none
def ev_slice1 (X : Cfg) (s : ASt) (t : Nat) (x : Operand) (lo hi : Option Operand) : Option (AV × Sto) := match s.ev X x with
    | .str b => match X.T t, optIdx (lo.map (s.ev X)) 0, optIdx (hi.map (s.ev X)) b.length with
      | some ⟨.str, _, _, _, _⟩, some l, some h => if l ≤ h ∧ h ≤ b.length then some (.str ((b.take h).drop l), s.st) else none
      | _, _, _ => none
    | .sl xs => match X.T t, optIdx (lo.map (s.ev X)) 0, optIdx (hi.map (s.ev X)) xs.length with
      | some ⟨.slice e, _, _, _, _⟩, some l, some h => match X.T e with
        | some te => if l ≤ h ∧ h ≤ xs.length ∧ (l = 0 ∨ xs.all (fun x => decide (x.cells.length = te.size)) = true) then some (.sl ((xs.take h).drop l), s.st) else none
        | none => none
      | _, _, _ => none
    | .sr b g off len => match X.T t, optIdx (lo.map (s.ev X)) 0, optIdx (hi.map (s.ev X)) len with
      | some ⟨.slice e, _, _, _, _⟩, some l, some h => match X.T e, s.st[b]? with
        | some te, some k => if l ≤ h ∧ h ≤ len ∧ (k.sz = some te.size) then some (.sr b g (off + l) (h - l), s.st) else none
        | _, _ => none
      | _, _, _ => none
    | .snil => match X.T t, optIdx (lo.map (s.ev X)) 0, optIdx (hi.map (s.ev X)) 0 with
      | some ⟨.slice e, _, _, _, _⟩, some 0, some 0 => if (X.T e).isSome = true then some (.snil, s.st) else none
      | _, _, _ => none
    | .rp v off => match lo, hi, X.T t with
      | none, none, some ⟨.array n e, _, _, _, _⟩ => match X.T e with
        | some te => if off + n * te.size ≤ v.cells.length ∧ (te.agg = true ∨ te.size = 1 ∧ v.cells.all (fun c => !c.isAgg) = true) then some (.sl (chunks te.agg te.size n (v.cells.drop off)), s.st) else none
        | none => none
      | _, _, _ => none
    | _ => none
def ev_slice2 (X : Cfg) (s : ASt) (t : Nat) (x : Operand) (lo : Option Operand) (hi mx : Operand) : Option (AV × Sto) := match X.T t, optIdx (lo.map (s.ev X)) 0, optIdx (some (s.ev X hi)) 0, optIdx (some (s.ev X mx)) 0 with
    | some ⟨.slice e, _, _, _, _⟩, some l, some h, some m => match X.T e with
      | some te => match s.ev X x with
        | .sl xs => if l ≤ h ∧ h ≤ m ∧ m ≤ xs.length ∧ (l = 0 ∨ xs.all (fun x => decide (x.cells.length = te.size)) = true) then some (.sl ((xs.take h).drop l), s.st) else none
        | .sr b g off len => match s.st[b]? with
          | some k => if l ≤ h ∧ h ≤ m ∧ m ≤ len ∧ (k.sz = some te.size) then some (.sr b g (off + l) (h - l), s.st) else none
          | none => none
        | _ => none
      | none => none
    | _, _, _, _ => none
def ev_slice (X : Cfg) (s : ASt) (t : Nat) (x : Operand) (lo hi mx : Option Operand) : Option (AV × Sto) := match mx with
  | none => ev_slice1 X s t x lo hi
  | some mx => (match hi with | some hi => ev_slice2 X s t x lo hi mx | none => none)
def ev_fieldAddr (X : Cfg) (s : ASt) (t : Nat) (x : Operand) (f : Nat) : Option (AV × Sto) := match X.T t with
    | some ⟨.struct fs, _, _, _, _⟩ => match fs[f]? with
      | some (o, ft) => match X.T ft with
        | some fti => if fti.size = 0 then none else match s.ev X x with
          | .ptr b g i off => some (.ptr b g i (off + o), s.st)
          | .rp v off => some (.rp v (off + o), s.st)
          | _ => none
        | none => none
      | none => none
    | _ => none
def ev_field (X : Cfg) (s : ASt) (t : Nat) (x : Operand) (f : Nat) : Option (AV × Sto) := match X.T t with
    | some ⟨.struct fs, _, _, _, _⟩ => match fs[f]? with
      | some (o, ft) => match X.T ft with
        | some fti => match s.ev X x with
          | .agg cs => (part fti (.agg cs) o).map fun v => (v, s.st)
          | _ => none
        | none => none
      | none => none
    | _ => none
def ev_indexAddr (X : Cfg) (s : ASt) (t : Nat) (x : Operand) (ix : Operand) : Option (AV × Sto) := match X.T t with
    | some ⟨.slice e, _, _, _, _⟩ => match X.T e with
      | some te => match s.ev X ix with
        | .int _ i => match s.ev X x with
          | .sl xs => if 0 ≤ i then (match xs[i.toNat]? with | some v => if v.cells.length = te.size then some (.rp v 0, s.st) else none | none => none) else none
          | .sr b g off len => if 0 ≤ i ∧ i < len then (match s.st[b]? with | some k => if k.sz = some te.size then some (.ptr b g (off + i.toNat) 0, s.st) else none | none => none) else none
          | _ => none
        | _ => none
      | none => none
    | some ⟨.array n e, _, _, _, _⟩ => match X.T e with
      | some te => match s.ev X ix with
        | .int _ i => if 0 ≤ i ∧ i < n then (match s.ev X x with
          | .ptr b g j off => some (.ptr b g j (off + i.toNat * te.size), s.st)
          | .rp v off => some (.rp v (off + i.toNat * te.size), s.st)
          | _ => none) else none
        | _ => none
      | none => none
    | _ => none
def ev_index (X : Cfg) (s : ASt) (t : Nat) (x : Operand) (ix : Operand) : Option (AV × Sto) := match X.T t with
    | some ⟨.str, _, _, _, _⟩ => match s.ev X x, s.ev X ix with
      | .str b, .int _ i => if 0 ≤ i then (match b[i.toNat]? with | some c => some (.int .u8 c.toNat, s.st) | none => none) else none
      | _, _ => none
    | some ⟨.array n e, _, _, _, _⟩ => match X.T e with
      | some te => match s.ev X x, s.ev X ix with
        | .agg cs, .int _ i => if 0 ≤ i ∧ i < n then (part te (.agg cs) (i.toNat * te.size)).map fun v => (v, s.st) else none
        | _, _ => none
      | none => none
    | _ => none
def ev_lookup (X : Cfg) (s : ASt) (t : Nat) (m : Operand) (k : Operand) (ok : Bool) : Option (AV × Sto) := match X.T t with
    | some ⟨.map kt e, _, _, _, _⟩ => match X.T kt, X.T e, entsOf s.st (s.ev X m) with
      | some tk, some te, some es => if keyTD tk.d (s.ev X k) = true then (match mget es (s.ev X k) with
        | some r => some (if ok then .tup [r.getD (mkv te.agg te.zero), .bool r.isSome] else r.getD (mkv te.agg te.zero), s.st)
        | none => none) else none
      | _, _, _ => none
    | _ => none
def ev_mapUpdate (X : Cfg) (s : ASt) (t : Nat) (m : Operand) (k : Operand) (v : Operand) : Option (AV × Sto) := match X.T t with
    | some ⟨.map kt _, _, _, _, _⟩ => match X.T kt, s.ev X m with
      | some tk, .mr b => match s.st[b]? with
        | some (.map es) => if keyTD tk.d (s.ev X k) = true ∧ fz (s.ev X v) = true then (mset es (s.ev X k) (s.ev X v)).map fun es' => (.tup [], s.st.set b (.map es')) else none
        | _ => none
      | _, _ => none
    | _ => none
def ev_insert (X : Cfg) (s : ASt) (t : Nat) (m : Operand) (k : Operand) (v : Operand) : Option (AV × Sto) := match X.T t with
    | some ⟨.map kt _, _, _, _, _⟩ => match X.T kt, s.ev X m with
      | some tk, .mr b => match s.st[b]? with
        | some (.map es) => if keyTD tk.d (s.ev X k) = true ∧ fz (s.ev X v) = true then (mset es (s.ev X k) (s.ev X v)).map fun es' => (.tup [], s.st.set b (.map es')) else none
        | _ => none
      | _, _ => none
    | _ => none
def ev_range (X : Cfg) (s : ASt) (t : Nat) (x : Operand) : Option (AV × Sto) := match X.T t, s.ev X x with
    | some ⟨.str, _, _, _, _⟩, .str b => some (.ptr s.st.length 0 0 0, s.st ++ [.iter b 0])
    | _, _ => none
def ev_next (X : Cfg) (s : ASt) (it : Operand) (b : Bool) : Option (AV × Sto) := match b with
  | false => none
  | true => match s.ev X it with
    | .ptr b 0 0 0 => match s.st[b]? with
      | some (.iter l i) => if i < l.length then some (.tup [.bool true, .int .i64 i, .int .i32 (runeAt l i).1], s.st.set b (.iter l (i + (runeAt l i).2))) else some (.tup [.bool false], s.st)
      | _ => none
    | _ => none
def ev_extract (X : Cfg) (s : ASt) (t : Operand) (i : Nat) : Option (AV × Sto) := match s.ev X t with
    | .tup vs => (vs[i]?).map fun v => (v, s.st)
    | _ => none
def ev_call (X : Cfg) (s : ASt) (c : Call) : Option (AV × Sto) := match c.callee with
    | .builtin b => evBuiltin X s.st b c.argTypes.toList (c.args.toList.map (s.ev X))
    | .value f => callV X (s.ev X f) (c.args.toList.map (s.ev X)) s.st
    | .invoke .. => none
/-- the evaluator, cut -/
def evOperF (X : Cfg) (s : ASt) (o : Oper) : Option (AV × Sto) := match o.op with
  | .move x => ev_move X s x
  | .assign x => ev_assign X s x
  | .pick c a b => ev_pick X s c a b
  | .alloc t => ev_alloc X s o.dst t
  | .box _ x => ev_box X s o.dst 0 x
  | .build t parts => ev_build X s t parts
  | .buildSlice t len parts => ev_buildSlice X s o.dst t len parts
  | .load t a => ev_load X s t a
  | .store t a x => ev_store X s t a x
  | .nilCheck x => ev_nilCheck X s x
  | .binOp op t x y _ => ev_binOp X s op t x y
  | .unOp op _ x => ev_unOp X s op x
  | .convert src dst x => ev_convert X s src dst x
  | .makeFunc f first cap => ev_makeFunc X s f first cap
  | .makeMap t r => ev_makeMap X s o.dst t r
  | .makeSlice t l c => ev_makeSlice X s o.dst t l c
  | .slice t x lo hi mx => ev_slice X s t x lo hi mx
  | .fieldAddr t x f => ev_fieldAddr X s t x f
  | .field t x f => ev_field X s t x f
  | .indexAddr t x ix => ev_indexAddr X s t x ix
  | .index t x ix => ev_index X s t x ix
  | .lookup t m k ok => ev_lookup X s t m k ok
  | .mapUpdate t m k v => ev_mapUpdate X s t m k v
  | .insert t m k v => ev_insert X s t m k v
  | .range t x => ev_range X s t x
  | .next it b => ev_next X s it b
  | .extract t i => ev_extract X s t i
  | .call c => ev_call X s c
  | _ => none
theorem evOperF_eq {X : Cfg} {s : ASt} {o : Oper} : evOperF X s o = evOper X s o := by
  obtain ⟨dst, op, type, pos, after, guard⟩ := o
  cases op
  case slice t x lo hi mx => cases mx <;> cases hi <;> rfl
  case makeMap t r => cases r <;> rfl
  case next it b => cases b <;> rfl
  all_goals rfl
/-- does an operation make a block? -/
def allocs (o : Oper) : Bool := match o.op with
  | .alloc _ | .box .. | .buildSlice .. | .makeMap .. | .makeSlice .. | .convert .. | .range .. => true
  | .call ⟨.builtin _, _, _⟩ => true
  | _ => false
/-- a value, its head carried out -/
def fh {α : Type} (a : Bool) (v : AV) (k : AV → α) : α := match v with
  | .undef => k .undef
  | .bool b => (match b with | true => k (.bool true) | false => k (.bool false))
  | .int kd n => k (.int kd n)
  | .str s => k (.str s)
  | .nilp => k .nilp
  | .ptr b g i o => (match a with | true => fN 20 b fun b => k (.ptr b g i o) | false => k (.ptr b g i o))
  | .rp x o => k (.rp x o)
  | .snil => k .snil
  | .sle => k .sle
  | .sl xs => k (.sl xs)
  | .sr b g o l => (match a with | true => fN 20 b fun b => fN 20 g fun g => fN 20 l fun l => k (.sr b g o l) | false => k (.sr b g o l))
  | .fn f x c => k (.fn f x c)
  | .nilf => k .nilf
  | .nilm => k .nilm
  | .mv es => k (.mv es)
  | .mr b => (match a with | true => fN 20 b fun b => k (.mr b) | false => k (.mr b))
  | .agg cs => k (.agg cs)
  | .tup vs => k (.tup vs)
theorem fh_eq {α : Type} (a : Bool) (v : AV) (k : AV → α) : fh a v k = k v := by
  cases v <;> try rfl
  · rename_i b; cases b <;> rfl
  · cases a
    · rfl
    · simp only [fh, fN_eq]
  · cases a
    · rfl
    · simp only [fh, fN_eq]
  · cases a
    · rfl
    · simp only [fh, fN_eq]
def updF (f : Nat → AV) (k : Nat) (v : AV) : Nat → AV := fun j => match Nat.beq j k with | true => v | false => f j
theorem updF_eq (f : Nat → AV) (k : Nat) (v : AV) : updF f k v = upd f k v := by
  funext j
  unfold updF upd
  by_cases h : j = k
  · subst h
    simp
  · have : Nat.beq j k = false := by
      rw [← Bool.not_eq_true]
      intro e
      exact h (Nat.eq_of_beq_eq_true e)
    rw [this, if_neg h]
def putF (s : ASt) (d : Option Nat) (v : AV) : Option ASt := match d with
  | some d => (match Nat.blt d s.n with | true => some ⟨s.n, updF s.fr d v, s.st⟩ | false => none)
  | none => some s
theorem putF_eq (s : ASt) (d : Option Nat) (v : AV) : putF s d v = s.put d v := by
  cases d with
  | none => rfl
  | some d =>
    simp only [putF, ASt.put, updF_eq]
    by_cases h : d < s.n
    · rw [if_pos h]
      have : Nat.blt d s.n = true := Nat.ble_eq_true_of_le h
      rw [this]
    · rw [if_neg h]
      have : Nat.blt d s.n = false := by
        rw [← Bool.not_eq_true]
        intro e
        exact h (Nat.le_of_ble_eq_true e)
      rw [this]
def step1F (X : Cfg) (gd : Nat → Option Nat) (s : ASt) (o : Oper) : Option ASt := match wantedA gd s o with
  | some true => (match evOperF X s o with
    | some (v, st) => fh (allocs o) v fun v => putF { s with st := st } o.dst v
    | none => none)
  | some false => putF s o.dst (.tup [])
  | none => none
theorem step1F_eq {X : Cfg} {gd : Nat → Option Nat} {s : ASt} {o : Oper} : step1F X gd s o = step1 X gd s o := by
  unfold step1F step1
  simp only [evOperF_eq, fh_eq, putF_eq]
  rfl
def evOpsF (X : Cfg) (gd : Nat → Option Nat) : List Oper → ASt → Option ASt
  | [], s => some s
  | o :: r, s => match step1F X gd s o with
    | some s' => evOpsF X gd r s'
    | none => none
theorem evOpsF_eq {X : Cfg} {gd : Nat → Option Nat} : ∀ {l : List Oper} {s : ASt}, evOpsF X gd l s = evOps X gd l s
  | [], _ => rfl
  | o :: r, s => by
    simp only [evOpsF, evOps, step1F_eq]
    cases step1 X gd s o with
    | none => rfl
    | some s' => exact evOpsF_eq
end Go.Proofs.YtgpkochbmfhmdaaGreatDoor.Lift
namespace Go.Proofs.YtgpkochbmfhmdaaGreatDoor.Lift
open Go
set_option maxRecDepth 100000

/-! values that are the same -/
mutual
def eqA : AV → AV → Bool
  | .undef, .undef => true
  | .bool a, .bool b => decide (a = b)
  | .int k n, .int k' n' => decide (k = k') && decide (n = n')
  | .str a, .str b => decide (a = b)
  | .nilp, .nilp => true
  | .ptr b g i o, .ptr b' g' i' o' => decide (b = b') && decide (g = g') && decide (i = i') && decide (o = o')
  | .rp x o, .rp y o' => eqA x y && decide (o = o')
  | .snil, .snil => true
  | .sle, .sle => true
  | .sl xs, .sl ys => eqAL xs ys
  | .sr b g i o, .sr b' g' i' o' => decide (b = b') && decide (g = g') && decide (i = i') && decide (o = o')
  | .fn (.func a) f c, .fn (.func b) f' c' => decide (a = b) && eqAL f f' && eqAL c c'
  | .nilf, .nilf => true
  | .nilm, .nilm => true
  | .mr b, .mr b' => decide (b = b')
  | .agg xs, .agg ys => eqAL xs ys
  | .tup xs, .tup ys => eqAL xs ys
  | _, _ => false
def eqAL : List AV → List AV → Bool
  | [], [] => true
  | x :: xs, y :: ys => eqA x y && eqAL xs ys
  | _, _ => false
end
mutual
theorem eqA_eq : ∀ {x y : AV}, eqA x y = true → x = y := by
  intro x y h
  match x, y with
  | .rp x o, .rp y o' =>
    simp only [eqA, Bool.and_eq_true, decide_eq_true_eq] at h
    rw [eqA_eq h.1, h.2]
  | .sl xs, .sl ys =>
    have e := eqAL_eq (xs := xs) (ys := ys) (by simpa [eqA] using h)
    rw [e]
  | .agg xs, .agg ys =>
    have e := eqAL_eq (xs := xs) (ys := ys) (by simpa [eqA] using h)
    rw [e]
  | .tup xs, .tup ys =>
    have e := eqAL_eq (xs := xs) (ys := ys) (by simpa [eqA] using h)
    rw [e]
  | .undef, y => cases y <;> simp_all [eqA]
  | .bool _, y => cases y <;> simp_all [eqA]
  | .int .., y => cases y <;> simp_all [eqA]
  | .str _, y => cases y <;> simp_all [eqA]
  | .nilp, y => cases y <;> simp_all [eqA]
  | .ptr .., y => cases y <;> simp_all [eqA]
  | .snil, y => cases y <;> simp_all [eqA]
  | .sle, y => cases y <;> simp_all [eqA]
  | .sr .., y => cases y <;> simp_all [eqA]
  | .fn g f c, .fn g' f' c' =>
    cases g <;> cases g' <;> try (simp [eqA] at h; done)
    simp only [eqA, Bool.and_eq_true, decide_eq_true_eq] at h
    rw [h.1.1, eqAL_eq h.1.2, eqAL_eq h.2]
  | .fn .., .undef | .fn .., .bool _ | .fn .., .int .. | .fn .., .str _ | .fn .., .nilp | .fn .., .ptr .. | .fn .., .snil | .fn .., .sle | .fn .., .rp .. | .fn .., .sr .. | .fn .., .sl _ | .fn .., .nilf | .fn .., .nilm | .fn .., .mv _ | .fn .., .mr _ | .fn .., .agg _ | .fn .., .tup _ => simp [eqA] at h
  | .nilf, y => cases y <;> simp_all [eqA]
  | .nilm, y => cases y <;> simp_all [eqA]
  | .mv _, y => cases y <;> simp_all [eqA]
  | .mr _, y => cases y <;> simp_all [eqA]
  | .rp .., .undef | .rp .., .bool _ | .rp .., .int .. | .rp .., .str _ | .rp .., .nilp | .rp .., .ptr .. | .rp .., .snil | .rp .., .sle | .rp .., .sl _ | .rp .., .sr .. | .rp .., .fn .. | .rp .., .nilf | .rp .., .nilm | .rp .., .mv _ | .rp .., .mr _ | .rp .., .agg _ | .rp .., .tup _ => simp [eqA] at h
  | .sl _, .undef | .sl _, .bool _ | .sl _, .int .. | .sl _, .str _ | .sl _, .nilp | .sl _, .ptr .. | .sl _, .snil | .sl _, .sle | .sl _, .rp .. | .sl _, .sr .. | .sl _, .fn .. | .sl _, .nilf | .sl _, .nilm | .sl _, .mv _ | .sl _, .mr _ | .sl _, .agg _ | .sl _, .tup _ => simp [eqA] at h
  | .agg _, .undef | .agg _, .bool _ | .agg _, .int .. | .agg _, .str _ | .agg _, .nilp | .agg _, .ptr .. | .agg _, .snil | .agg _, .sle | .agg _, .rp .. | .agg _, .sr .. | .agg _, .fn .. | .agg _, .nilf | .agg _, .nilm | .agg _, .mv _ | .agg _, .mr _ | .agg _, .sl _ | .agg _, .tup _ => simp [eqA] at h
  | .tup _, .undef | .tup _, .bool _ | .tup _, .int .. | .tup _, .str _ | .tup _, .nilp | .tup _, .ptr .. | .tup _, .snil | .tup _, .sle | .tup _, .rp .. | .tup _, .sr .. | .tup _, .fn .. | .tup _, .nilf | .tup _, .nilm | .tup _, .mv _ | .tup _, .mr _ | .tup _, .sl _ | .tup _, .agg _ => simp [eqA] at h
theorem eqAL_eq : ∀ {xs ys : List AV}, eqAL xs ys = true → xs = ys
  | [], [], _ => rfl
  | x :: xs, y :: ys, h => by
    simp only [eqAL, Bool.and_eq_true] at h
    rw [eqA_eq h.1, eqAL_eq h.2]
  | [], _ :: _, h => by simp [eqAL] at h
  | _ :: _, [], h => by simp [eqAL] at h
end
def eqO : Option AV → Option AV → Bool
  | none, none => true
  | some x, some y => eqA x y
  | _, _ => false
theorem eqO_eq {x y : Option AV} (h : eqO x y = true) : x = y := by
  cases x <;> cases y <;> simp_all [eqO]
  exact eqA_eq h

/-! the frame, laid anew -/
def tabF (fr : Nat → AV) : Nat → Nat → List AV
  | _, 0 => []
  | i, k + 1 => fr i :: tabF fr (i + 1) k
theorem tabF_get (fr : Nat → AV) : ∀ (k i t : Nat), (tabF fr i k).getD t .undef = fr (i + t) ∨ (tabF fr i k).getD t .undef = .undef
  | 0, i, t => .inr (by simp [tabF])
  | k + 1, i, 0 => .inl (by simp [tabF])
  | k + 1, i, t + 1 => by
    have := tabF_get fr k (i + 1) t
    rw [show i + 1 + t = i + (t + 1) by omega] at this
    simpa [tabF] using this
def tidy (s : ASt) : ASt := ⟨s.n, fun t => (tabF s.fr 0 s.n).getD t .undef, s.st⟩
theorem tidy_weak (s : ASt) : Weak s (tidy s) := ⟨rfl, rfl, fun t => by
  have := tabF_get s.fr s.n 0 t
  rw [Nat.zero_add] at this
  exact this⟩

/-- operations that leave the store -/
def keeps (o : Oper) : Bool := silent o || match o.op with
  | .load .. | .indexAddr .. | .index .. | .makeFunc .. | .lookup .. | .build .. | .slice .. => true
  | .call ⟨.builtin .len, _, _⟩ => true
  | _ => false
theorem keeps_st {X : Cfg} {s : ASt} {o : Oper} (h : keeps o = true) {v : AV} {st : Sto} (he : evOper X s o = some (v, st)) : st = s.st := by
  unfold keeps at h
  rw [Bool.or_eq_true] at h
  rcases h with h | h
  · have := evOper_silent (X := X) (s := s) h s.st
    rw [show ({ s with st := s.st } : ASt) = s from rfl, he] at this
    simp only [Option.map_some, Option.some.injEq, Prod.mk.injEq, true_and] at this
    exact this
  · obtain ⟨dst, op, type, pos, after, guard⟩ := o
    cases op <;> try (simp only [Bool.false_eq_true] at h; done)
    case call c =>
      obtain ⟨callee, args, ats⟩ := c
      cases callee <;> try (simp at h; done)
      rename_i b
      cases b <;> try (simp at h; done)
      simp only [evOper] at he
      generalize ats.toList = l1 at he
      generalize args.toList.map (ASt.ev X s) = l2 at he
      rcases l1 with _ | ⟨t, _ | ⟨t2, r⟩⟩
      · cases l2 <;> cases he
      · rcases l2 with _ | ⟨x, _ | ⟨y, q⟩⟩
        · cases he
        · simp only [evBuiltin] at he
          split at he
          · split at he
            · obtain ⟨_, _, e⟩ := Option.map_eq_some_iff.1 he
              cases e; rfl
            · cases he
          · cases he
        · cases he
      · cases l2 <;> cases he
    case indexAddr t a b => exact idx_st ⟨t, a, b, rfl⟩ he
    case load t a =>
      simp only [evOper] at he
      split at he
      · obtain ⟨_, _, e⟩ := Option.map_eq_some_iff.1 he
        cases e; rfl
      · cases he
    case makeFunc f a b =>
      simp only [evOper] at he
      cases he; rfl
    case build t parts =>
      simp only [evOper] at he
      (repeat' split at he) <;> first | (cases he; rfl) | (cases he; done)
    case slice t x lo hi mx =>
      cases mx with
      | none =>
        simp only [evOper] at he
        (repeat' split at he) <;> first | (cases he; rfl) | (cases he; done)
      | some mx =>
        cases hi with
        | none => simp [evOper] at he
        | some hi =>
          simp only [evOper] at he
          (repeat' split at he) <;> first | (cases he; rfl) | (cases he; done)
    case index t x ix =>
      simp only [evOper] at he
      split at he
      · split at he
        · split at he
          · split at he
            · cases he; rfl
            · cases he
          · cases he
        · cases he
      · split at he
        · split at he
          · split at he
            · obtain ⟨_, _, e⟩ := Option.map_eq_some_iff.1 he
              cases e; rfl
            · cases he
          · cases he
        · cases he
      · cases he
    case lookup t m k ok =>
      simp only [evOper] at he
      split at he
      · split at he
        · split at he
          · split at he
            · cases he; rfl
            · cases he
          · cases he
        · cases he
      · cases he

/-- what an operation works on -/
def opV (X : Cfg) (o : Oper) (s : ASt) : AV := match o.op with
  | .load _ a => s.ev X a
  | op => .tup (op.operands.toList.map (s.ev X))
/-- what the operations of a region work on -/
def adRun (X : Cfg) (g : List Oper) : List Oper → Nat → ASt → List (Nat × AV)
  | [], _, _ => []
  | o :: r, i, s => match step1F X (gdOf g) s o with
    | some s1 => (i, opV X o s) :: adRun X g r (i + 1) s1
    | none => []
def steadyB (X : Cfg) (ops : Array Oper) (tab : List (List Nat)) (i : Nat) (st st' : Sto) (ad : List (Nat × AV)) : Bool :=
  ad.all fun x => !(unord tab i x.1) || match ops[x.1]? with
    | some o => (match o.op with
      | .load t _ => (match X.T t with | some ti => eqO (loadAt ti st x.2) (loadAt ti st' x.2) | none => true)
      | .indexAddr .. => (match x.2 with
        | .tup us => (match evOperF X ⟨0, frOf o.op.operands.toList us, st⟩ o, evOperF X ⟨0, frOf o.op.operands.toList us, st'⟩ o with
          | some (v, _), some (v', _) => eqA v v'
          | _, _ => false)
        | _ => false)
      | _ => silent o)
    | none => true
def turnOk (X : Cfg) (ops : Array Oper) (tab : List (List Nat)) (ad : List (Nat × AV)) (i : Nat) (o : Oper) (st st' : Sto) : Bool :=
  keeps o || barrier ops tab i || (steadyB X ops tab i st st' ad && barrierL ops tab ad i)
/-- the operations of a region that draws -/
def rdC (X : Cfg) (ops : Array Oper) (tab : List (List Nat)) (ad : List (Nat × AV)) : List Oper → Nat → ASt → Option ASt
  | [], _, s => some s
  | o :: r, i, s => match step1F X (gdOf ops.toList) s o with
    | some s1 => if turnOk X ops tab ad i o s.st s1.st = true then rdC X ops tab ad r (i + 1) s1 else none
    | none => none

theorem lookup_mem {j : Nat} {p : AV} : ∀ {l : List (Nat × AV)}, l.lookup j = some p → (j, p) ∈ l
  | [], h => by cases h
  | (k, q) :: r, h => by
    rw [List.lookup_cons] at h
    split at h
    · rename_i he
      have : j = k := by simpa using he
      cases h
      subst this
      simp
    · exact List.mem_cons_of_mem _ (lookup_mem h)
theorem steady_of_B {X : Cfg} {ops : Array Oper} {tab : List (List Nat)} {ad : List (Nat × AV)} {i : Nat} {st st' : Sto} (h : barrierL ops tab ad i = true) (h2 : steadyB X ops tab i st st' ad = true) : steady X ops tab ad i st st' := fun j o ho hu => by
  simp only [barrierL, List.all_eq_true, List.mem_range] at h
  have h1 := h j (Array.getElem?_eq_some_iff.1 ho).1
  rw [ho, hu] at h1
  simp only [Bool.not_true, Bool.false_or, Bool.or_eq_true] at h1
  rcases h1 with h1 | h1
  · exact .inl h1
  · obtain ⟨p, hp⟩ := Option.isSome_iff_exists.1 h1
    simp only [steadyB, List.all_eq_true] at h2
    have h3 := h2 (j, p) (lookup_mem hp)
    simp only [hu, ho, Bool.not_true, Bool.false_or] at h3
    split at h3
    · rename_i t a he
      refine .inr (.inl ⟨t, a, p, he, hp, fun ti ht => ?_⟩)
      rw [ht] at h3
      exact eqO_eq h3
    · rename_i t a b he
      split at h3
      · rename_i us
        split at h3
        · rename_i v w v' w' e1 e2
          rw [evOperF_eq] at e1 e2
          have i1 := idx_st ⟨t, a, b, he⟩ e1
          have i2 := idx_st ⟨t, a, b, he⟩ e2
          simp only at i1 i2
          subst i1 i2
          have := eqA_eq h3
          subst this
          exact .inr (.inr ⟨_, fun t' a' e => (by rw [he] at e; cases e), hp, .inr ⟨⟨t, a, b, he⟩, v, e1, e2⟩⟩)
        · cases h3
      · cases h3
    · exact .inl h3
theorem step1_keeps {X : Cfg} {gd : Nat → Option Nat} {s s1 : ASt} {o : Oper} (h : keeps o = true) (h1 : step1 X gd s o = some s1) : s1.st = s.st := by
  rw [step1_eq] at h1
  obtain ⟨⟨v, st⟩, h2, h3⟩ := Option.bind_eq_some_iff.1 h1
  have h4 := (put_inv h3).2.1
  rw [h4]
  show st = s.st
  unfold step0 at h2
  split at h2
  · exact keeps_st h h2
  · cases h2; rfl
  · cases h2
theorem rdC_drawP {X : Cfg} {ops : Array Oper} {tab : List (List Nat)} {ad : List (Nat × AV)} {K : ASt → Prop} : ∀ (l : List Oper) (i : Nat) (s : ASt) (s' : ASt), (∀ j, i ≤ j → ad.lookup j = (adRun X ops.toList l i s).lookup j) → rdC X ops tab ad l i s = some s' → K s' → drawP X ops tab ad l i s K
  | [], _, s, s', _, h, hk => by cases h; exact hk
  | o :: l, i, s, s', ha, h, hk => by
    unfold rdC at h
    split at h
    · rename_i s1 h1
      simp only [Option.ite_none_right_eq_some] at h
      obtain ⟨ht, h⟩ := h
      unfold adRun at ha
      rw [h1] at ha
      simp only at ha
      rw [step1F_eq] at h1
      have hi := ha i (Nat.le_refl _)
      rw [List.lookup_cons, beq_self_eq_true] at hi
      refine ⟨s1, ⟨fun t a p he hp => ?_, fun p he hp => ?_⟩, h1, ?_, rdC_drawP l (i + 1) s1 s' (fun j hj => ?_) h hk⟩
      · rw [hi] at hp
        cases hp
        unfold opV
        rw [he]
      · rw [hi] at hp
        cases hp
        unfold opV
        split
        · rename_i t a e; exact absurd e (he t a)
        · rfl
      · unfold turnOk at ht
        rw [Bool.or_eq_true, Bool.or_eq_true, Bool.and_eq_true] at ht
        rcases ht with (ht | ht) | ht
        · exact .inl (step1_keeps ht h1)
        · exact .inr (.inl (steady_of_barrier ht))
        · exact .inr (.inl (steady_of_B ht.2 ht.1))
      · rw [ha j (by omega), List.lookup_cons]
        have : (j == i) = false := by simp; omega
        rw [this]
    · cases h
end Go.Proofs.YtgpkochbmfhmdaaGreatDoor.Lift
namespace Go.Proofs.YtgpkochbmfhmdaaGreatDoor.Lift
open Go
set_option maxRecDepth 100000

/-- what an operation makes new, where a block was set aside: the block, what it is before and behind, and the operation's value -/
def bornOf (X : Cfg) (o : Oper) (vs : List AV) : Option (Nat × ABlk × ABlk × AV) := match o.op with
  | .alloc t => match X.T t, resAt X.A o.dst with
    | some ti, some k => some (k, .row ti.size 0 0 [], .row ti.size 1 0 [mkv ti.agg ti.zero], .ptr k 1 0 0)
    | _, _ => none
  | .box _ x => if (ASt.ev X ⟨0, frOf o.op.operands.toList vs, []⟩ x).whole = true then (match resAt X.A o.dst with
    | some k => some (k, .row (ASt.ev X ⟨0, frOf o.op.operands.toList vs, []⟩ x).cells.length 0 0 [], .row (ASt.ev X ⟨0, frOf o.op.operands.toList vs, []⟩ x).cells.length 1 0 [ASt.ev X ⟨0, frOf o.op.operands.toList vs, []⟩ x], .ptr k 1 0 0)
    | none => none) else none
  | .makeMap t none => match X.T t, resAt X.A o.dst with
    | some ⟨.map _ _, _, _, _, _⟩, some k => some (k, .tick 0, .map [], .mr k)
    | _, _ => none
  | _ => none
theorem ev_nost {X : Cfg} (fr : Nat → AV) (st st' : Sto) (x : Operand) : ASt.ev X ⟨0, fr, st⟩ x = ASt.ev X ⟨0, fr, st'⟩ x := by cases x <;> rfl
theorem bornOf_spec {X : Cfg} {o : Oper} {vs : List AV} {k : Nat} {b0 b1 : ABlk} {u : AV} (h : bornOf X o vs = some (k, b0, b1, u)) (a : Sto) :
    (∀ v a', evOper X ⟨0, frOf o.op.operands.toList vs, a⟩ o = some (v, a') → a[k]? = some b0 ∧ v = u ∧ a' = a.set k b1) ∧ (a[k]? = some b0 → evOper X ⟨0, frOf o.op.operands.toList vs, a⟩ o = some (u, a.set k b1)) := by
  obtain ⟨dst, op, type, pos, after, guard⟩ := o
  unfold bornOf at h
  cases op <;> try (cases h; done)
  case alloc t =>
    simp only at h
    cases hT : X.T t with
    | none => simp [hT] at h
    | some ti =>
      cases hr : resAt X.A dst with
      | none => simp [hT, hr] at h
      | some k' =>
        simp only [hT, hr, Option.some.injEq, Prod.mk.injEq] at h
        obtain ⟨rfl, rfl, rfl, rfl⟩ := h
        constructor
        · intro v a' h2
          simp only [evOper, hT, hr] at h2
          split at h2
          · rename_i sz hk
            simp only [Option.ite_none_right_eq_some, Option.some.injEq, Prod.mk.injEq] at h2
            obtain ⟨rfl, rfl, rfl⟩ := h2
            exact ⟨hk, rfl, rfl⟩
          · cases h2
        · intro h2
          simp only [evOper, hT, hr, h2, if_true]
  case box t x =>
    simp only [Option.ite_none_right_eq_some] at h
    obtain ⟨hw, h⟩ := h
    cases hr : resAt X.A dst with
    | none => simp [hr] at h
    | some k' =>
      simp only [hr, Option.some.injEq, Prod.mk.injEq] at h
      obtain ⟨rfl, rfl, rfl, rfl⟩ := h
      rw [ev_nost _ [] a] at hw ⊢
      constructor
      · intro v a' h2
        simp only [evOper, hr, Option.ite_none_right_eq_some] at h2
        obtain ⟨_, h2⟩ := h2
        split at h2
        · rename_i sz hk
          simp only [Option.ite_none_right_eq_some, Option.some.injEq, Prod.mk.injEq] at h2
          obtain ⟨rfl, rfl, rfl⟩ := h2
          exact ⟨hk, rfl, rfl⟩
        · cases h2
      · intro h2
        simp only [evOper, hr, hw, if_true, h2]
  case makeMap t r =>
    cases r with
    | some r => cases h
    | none =>
      simp only at h
      split at h
      · rename_i q1 q2 q3 q4 q5 q6 k' hT hr
        simp only [Option.some.injEq, Prod.mk.injEq] at h
        obtain ⟨rfl, rfl, rfl, rfl⟩ := h
        constructor
        · intro v a' h2
          simp only [evOper, hT, hr] at h2
          split at h2
          · rename_i hk
            cases h2
            exact ⟨hk, rfl, rfl⟩
          · cases h2
        · intro h2
          simp only [evOper, hT, hr, h2]
      · cases h
theorem bornOf_loc {X : Cfg} {o : Oper} {vs : List AV} {k : Nat} {b0 b1 : ABlk} {u : AV} (h : bornOf X o vs = some (k, b0, b1, u)) : isLoc X o k (.tup vs) := fun st v st' he => by
  obtain ⟨h1, rfl, rfl⟩ := (bornOf_spec h st).1 v st' he
  exact ⟨some b1, rfl, fun st2 h2 => (bornOf_spec h st2).2 (h2.trans h1)⟩
theorem bornOf_load {X : Cfg} {o : Oper} {vs : List AV} {x : Nat × ABlk × ABlk × AV} (h : bornOf X o vs = some x) : ∀ t a, o.op ≠ .load t a := fun t a e => by
  unfold bornOf at h
  rw [e] at h
  cases h

/-- those that may come before it or behind it do not look there; or they are calls of the list ds -/
def steadyKD (X : Cfg) (ops : Array Oper) (tab : List (List Nat)) (ad : List (Nat × AV)) (ds : List Nat) (i k : Nat) : Prop :=
  ∀ j o, ops[j]? = some o → unord tab i j = true → j ∉ ds → silent o = true ∨ (∃ t a p, o.op = .load t a ∧ ad.lookup j = some p ∧ farP k p) ∨ (∃ p, (∀ t a, o.op ≠ .load t a) ∧ ad.lookup j = some p ∧ blind X o p) ∨ ∃ kj, kj ≠ k ∧ locAt X ad j o kj
/-- an operation that is calm at a pair of stores -/
def calmAt (X : Cfg) (ad : List (Nat × AV)) (j : Nat) (o : Oper) (a a' : Sto) : Prop := silent o = true ∨ (∃ t x p, o.op = .load t x ∧ ad.lookup j = some p ∧ ldEq X t a a' p) ∨ ∃ p, (∀ t x, o.op ≠ .load t x) ∧ ad.lookup j = some p ∧ blS X o a a' p
theorem calmAt.calm {X : Cfg} {ad : List (Nat × AV)} {j : Nat} {o : Oper} {a a' : Sto} {s : ASt} (h : calmAt X ad j o a a') (ha : adOk X ad j o s) : Calm1 X s o a a' := by
  rcases h with h | ⟨t, x, p, he, hp, hl⟩ | ⟨p, hn, hp, hl⟩
  · exact .inl h
  · exact .inr (.inl ⟨t, x, he, by rw [ha.1 t x p he hp]; exact hl⟩)
  · exact .inr (.inr (by rw [ha.2 p hn hp]; exact hl))
/-- a call that may come before or behind what makes new blocks: T, all the pairs of stores that it may stand between -/
def DOk (X : Cfg) (ops : Array Oper) (tab : List (List Nat)) (ad : List (Nat × AV)) (ds : List Nat) (i : Nat) (o : Oper) (st st' : Sto) : Prop :=
  o.guard = none ∧ (∀ t a, o.op ≠ .load t a) ∧ ∃ (vs : List AV) (v : AV) (T : List (Sto × Sto)), ad.lookup i = some (.tup vs) ∧ (st, st') ∈ T ∧ (∀ x ∈ T, evOper X ⟨0, frOf o.op.operands.toList vs, x.1⟩ o = some (v, x.2)) ∧
    ∀ j oj, ops[j]? = some oj → unord tab i j = true → j ∉ ds ∧ ((∀ x ∈ T, calmAt X ad j oj x.1 x.2) ∨ (oj.guard = none ∧ ∃ us k b0 b1 u, ad.lookup j = some (.tup us) ∧ bornOf X oj us = some (k, b0, b1, u) ∧ steadyKD X ops tab ad ds j k ∧
      ∀ x ∈ T, x.1[k]? = x.2[k]? ∧ (x.1[k]? = some b0 → (x.1.set k b1, x.2.set k b1) ∈ T) ∧ (x.1[k]? = some b1 → (x.1.set k b0, x.2.set k b0) ∈ T)))
def CondD (X : Cfg) (ops : Array Oper) (tab : List (List Nat)) (ad : List (Nat × AV)) (ds : List Nat) (i : Nat) (o : Oper) (st st' : Sto) : Prop :=
  (i ∈ ds ∧ DOk X ops tab ad ds i o st st') ∨ (i ∉ ds ∧ (st' = st ∨ steady X ops tab ad i st st' ∨ ∃ k, locAt X ad i o k ∧ steadyKD X ops tab ad ds i k))
def CalmD (X : Cfg) (ops : Array Oper) (tab : List (List Nat)) (ad : List (Nat × AV)) (ds : List Nat) : List Nat → ASt → ASt → Prop
  | [], s, s' => s = s'
  | i :: l, s, s' => ∃ o s1, ops[i]? = some o ∧ adOk X ad i o s ∧ step1 X (gdOf ops.toList) s o = some s1 ∧ CondD X ops tab ad ds i o s.st s1.st ∧ CalmD X ops tab ad ds l s1 s'

theorem steadyKD.calm {X : Cfg} {ops : Array Oper} {tab : List (List Nat)} {ad : List (Nat × AV)} {ds : List Nat} {i k : Nat} (h : steadyKD X ops tab ad ds i k) {j : Nat} {o : Oper} {s : ASt} (ho : ops[j]? = some o) (hu : unord tab i j = true) (hd : j ∉ ds) (ha : adOk X ad j o s) : (∀ st r, Calm1 X s o st (setO st k r)) ∨ ∃ kj, kj ≠ k ∧ locAt X ad j o kj := by
  rcases h j o ho hu hd with h | ⟨t, a, p, he, hp, hl⟩ | ⟨p, he, hp, hl⟩ | h
  · exact .inl fun _ _ => .inl h
  · exact .inl fun _ _ => .inr (.inl ⟨t, a, he, by rw [ha.1 t a p he hp]; exact far_ld hl⟩)
  · exact .inl fun _ _ => .inr (.inr (.inl (by rw [ha.2 p he hp]; exact hl)))
  · exact .inr h

/-- two steps the other way round -/
theorem swap_gen {X : Cfg} {ops : Array Oper} {s s1 s2 : ASt} {x y : Oper} (stY : Sto) (hap : x.apart ops y = true) (h1 : step1 X (gdOf ops.toList) s x = some s1) (h2 : step1 X (gdOf ops.toList) s1 y = some s2)
    (hy : ∀ v st', step0 X (gdOf ops.toList) s1 y = some (v, st') → step0 X (gdOf ops.toList) s y = some (v, stY))
    (hx : ∀ v st', step0 X (gdOf ops.toList) s x = some (v, st') → ∀ s1' : ASt, s1'.st = stY → (∀ t ∈ x.looksAt ops, s1'.fr t = s.fr t) → step0 X (gdOf ops.toList) s1' x = some (v, s2.st)) :
    ∃ s1', step1 X (gdOf ops.toList) s y = some s1' ∧ step1 X (gdOf ops.toList) s1' x = some s2 ∧ s1'.st = stY := by
  obtain ⟨ha, hb, hc⟩ := Oper.apart_spec hap
  rw [step1_eq] at h1 h2
  cases hq : step0 X (gdOf ops.toList) s x with
  | none => rw [hq] at h1; cases h1
  | some r =>
  rw [hq, Option.bind_some] at h1
  obtain ⟨n1, t1, f1, g1, b1⟩ := put_inv h1
  simp only at n1 t1 f1 b1
  cases hq2 : step0 X (gdOf ops.toList) s1 y with
  | none => rw [hq2] at h2; cases h2
  | some u =>
  rw [hq2, Option.bind_some] at h2
  obtain ⟨n2, t2, f2, g2, b2⟩ := put_inv h2
  simp only at n2 t2 f2 b2
  have hy' := hy u.1 u.2 hq2
  have q1 : ∃ s1', ASt.put { s with st := stY } y.dst u.1 = some s1' := by
    cases hd : y.dst with
    | none => exact ⟨_, rfl⟩
    | some d =>
      have := b2 d hd
      rw [n1] at this
      exact ⟨_, by simp only [ASt.put]; rw [if_pos this]⟩
  obtain ⟨s1', hs1'⟩ := q1
  obtain ⟨n3, t3, f3, g3, b3⟩ := put_inv hs1'
  simp only at n3 t3 f3 b3
  have hfx : ∀ t ∈ x.looksAt ops, s1'.fr t = s.fr t := fun t ht => f3 t (fun e => hc t e ht)
  have hx' := hx r.1 r.2 hq s1' t3 hfx
  refine ⟨s1', ?_, ?_, t3⟩
  · rw [step1_eq, hy', Option.bind_some]
    exact hs1'
  · rw [step1_eq, hx', Option.bind_some]
    obtain ⟨n, fr, st⟩ := s2
    simp only at g2 n2 f2 ⊢
    cases g2
    cases hxd : x.dst with
    | none =>
      simp only [ASt.put, n3, n1]
      rw [g3, g1, hxd]
      simp [putFr]
    | some d =>
      have := b1 d hxd
      simp only [ASt.put]
      rw [n3, if_pos this, g3, g1, hxd]
      cases hyd : y.dst with
      | none => simp [putFr]
      | some d' =>
        have hne : d ≠ d' := fun e => hb d hxd (by rw [hyd, e])
        simp only [putFr]
        rw [upd_comm _ _ _ hne]

theorem step0_ad {X : Cfg} {ops : Array Oper} {ad : List (Nat × AV)} {i : Nat} {o : Oper} {s : ASt} {vs : List AV} (hg : o.guard = none) (hn : ∀ t a, o.op ≠ .load t a) (hl : ad.lookup i = some (.tup vs)) (ha : adOk X ad i o s) (s2 : ASt) (h2 : ∀ t ∈ o.looksAt ops, s2.fr t = s.fr t) :
    step0 X (gdOf ops.toList) s2 o = evOper X ⟨0, frOf o.op.operands.toList vs, s2.st⟩ o := by
  have e := ha.2 _ hn hl
  cases e
  unfold step0 wantedA
  rw [hg]
  exact evOper_congr rfl fun x hx => by rw [looksAt_ev h2 x hx, frOf_ev (Array.mem_def.1 hx)]
theorem step1_run {X : Cfg} {ops : Array Oper} {o : Oper} {s s1 : ASt} (h : step1 X (gdOf ops.toList) s o = some s1) : ∃ v, step0 X (gdOf ops.toList) s o = some (v, s1.st) := by
  rw [step1_eq] at h
  cases hq : step0 X (gdOf ops.toList) s o with
  | none => rw [hq] at h; cases h
  | some r =>
    rw [hq] at h
    exact ⟨r.1, by rw [(put_inv h).2.1]⟩
theorem set_id {st : Sto} {k : Nat} {b0 : ABlk} (h : st[k]? = some b0) : st.set k b0 = st := by
  apply List.ext_getElem?
  intro i
  by_cases e : k = i
  · subst e
    rw [List.getElem?_set_self (List.getElem?_eq_some_iff.1 h).1, h]
  · rw [List.getElem?_set_ne e]
theorem set_set_back {st : Sto} {k : Nat} {b0 b1 : ABlk} (h : st[k]? = some b0) : (st.set k b1).set k b0 = st := by
  rw [List.set_set, set_id h]
theorem get_set {st : Sto} {k : Nat} {b0 b1 : ABlk} (h : st[k]? = some b0) : (st.set k b1)[k]? = some b1 := List.getElem?_set_self (List.getElem?_eq_some_iff.1 h).1

theorem CalmD.move {X : Cfg} {ops : Array Oper} {tab : List (List Nat)} {ad : List (Nat × AV)} {ds : List Nat} (h : drawOK ops tab = true) {i : Nat} {post : List Nat} : ∀ {pre : List Nat} {s s' : ASt}, (∀ j ∈ pre, j < i ∧ j ∉ tab.getD i []) → CalmD X ops tab ad ds (pre ++ i :: post) s s' → CalmD X ops tab ad ds (i :: (pre ++ post)) s s'
  | [], _, _, _, hc => hc
  | j :: pre, s, s', hp, hc => by
    obtain ⟨oj, s1, ho, ha1, h1, hb, h2⟩ := hc
    obtain ⟨oi, s2, hoi, ha2, h3, hb', h4⟩ := CalmD.move h (fun k hk => hp k (by simp [hk])) h2
    obtain ⟨hlt, hn⟩ := hp j (by simp)
    have hin : i < ops.size := (Array.getElem?_eq_some_iff.1 hoi).1
    have hnj : i ∉ tab.getD j [] := fun hm => by
      have := ((drawOK_spec h ho).2.1 i hm).1
      omega
    have hu1 : unord tab j i = true := by
      simp only [unord, Bool.not_eq_eq_eq_not, Bool.not_true, Bool.or_eq_false_iff, beq_eq_false_iff_ne]
      exact ⟨⟨by omega, by simpa using hnj⟩, by simpa using hn⟩
    have hu2 : unord tab i j = true := by
      simp only [unord, Bool.not_eq_eq_eq_not, Bool.not_true, Bool.or_eq_false_iff, beq_eq_false_iff_ne]
      exact ⟨⟨by omega, by simpa using hn⟩, by simpa using hnj⟩
    have hap := (drawOK_spec h hoi).2.2 j oj hlt hn ho
    obtain ⟨pa, pb, pc⟩ := Oper.apart_spec hap
    have ha2' : adOk X ad i oi s := ha2.congr (ops := ops) fun t ht => (step1_fr h1 t (fun e => pa t e ht)).symm
    have ha1' : ∀ {s1'}, step1 X (gdOf ops.toList) s oi = some s1' → adOk X ad j oj s1' := fun g1 => ha1.congr (ops := ops) fun t ht => step1_fr g1 t (fun e => pc t e ht)
    have hfy : ∀ t ∈ oi.looksAt ops, s1.fr t = s.fr t := fun t ht => step1_fr h1 t (fun e => pa t e ht)
    -- the classical cases
    have old : ∀ (e1 : s1.st = s.st ∨ Calm1 X s1 oi s1.st s.st) (e2 : s2.st = s1.st ∨ (s1.st = s.st ∧ Calm1 X s oj s1.st s2.st)), ∃ s1', step1 X (gdOf ops.toList) s oi = some s1' ∧ step1 X (gdOf ops.toList) s1' oj = some s2 ∧ (s2.st = s1.st → s1'.st = s.st) ∧ (s1.st = s.st → s2.st = s1'.st) := fun e1 e2 => step_swap' hap h1 e1 h3 e2
    rcases hb' with ⟨hid, hD⟩ | ⟨hid, hb'⟩
    · -- the second one is a call of the list
      obtain ⟨hgd, hnl, vs, v, T, hlk, hmem, hrun, hoth⟩ := hD
      obtain ⟨hjd, hj⟩ := hoth j oj ho hu2
      rcases hj with hj | ⟨hgj, us, k, b0, b1, u, hlj, hbn, hst, hcl⟩
      · have hc1 : Calm1 X s oj s1.st s2.st := (hj _ hmem).calm ha1
        have k1 : s1.st = s.st := step1_stay hc1 h1
        obtain ⟨s1', g1, g3, g4, g5⟩ := old (.inl k1) (.inr ⟨k1, hc1⟩)
        refine ⟨oi, s1', hoi, ha2', g1, .inl ⟨hid, hgd, hnl, vs, v, T, hlk, ?_, hrun, hoth⟩, oj, s2, ho, ha1' g1, g3, .inr ⟨hjd, .inl (g5 k1)⟩, h4⟩
        rw [← k1, ← g5 k1]
        exact hmem
      · obtain ⟨w, hw⟩ := step1_run h1
        have hnlj := bornOf_load hbn
        rw [step0_ad (ops := ops) hgj hnlj hlj ha1 s (fun _ _ => rfl)] at hw
        obtain ⟨q0, rfl, q1⟩ := (bornOf_spec hbn s.st).1 _ _ hw
        obtain ⟨c0, _, c2⟩ := hcl _ hmem
        simp only at c0 c2
        have e1 : s1.st[k]? = some b1 := by rw [q1]; exact get_set q0
        have m0 := c2 e1
        have e2 : s1.st.set k b0 = s.st := by rw [q1]; exact set_set_back q0
        have e3 : s2.st[k]? = some b1 := by rw [← c0]; exact e1
        rw [e2] at m0
        obtain ⟨s1', g1, g3, g4⟩ := swap_gen (s2 := s2) (s2.st.set k b0) hap h1 h3 (fun v' st' hq => by
          rw [step0_ad (ops := ops) hgd hnl hlk ha2' s1 hfy, hrun _ hmem] at hq
          cases hq
          rw [step0_ad (ops := ops) hgd hnl hlk ha2' s (fun _ _ => rfl)]
          exact hrun _ m0) (fun v' st' hq s1' hs' hf => by
          rw [step0_ad (ops := ops) hgj hnlj hlj ha1 s (fun _ _ => rfl), hw] at hq
          cases hq
          rw [step0_ad (ops := ops) hgj hnlj hlj ha1 s1' hf, hs', (bornOf_spec hbn _).2 (get_set e3), set_set_back e3])
        refine ⟨oi, s1', hoi, ha2', g1, .inl ⟨hid, hgd, hnl, vs, v, T, hlk, by rw [g4]; exact m0, hrun, hoth⟩, oj, s2, ho, ha1' g1, g3, .inr ⟨hjd, .inr (.inr ⟨k, ⟨_, hlj, hnlj, bornOf_loc hbn⟩, hst⟩)⟩, h4⟩
    · rcases hb with ⟨hjd, hD⟩ | ⟨hjd, hb⟩
      · -- the first one is a call of the list
        have hD' := hD
        obtain ⟨hgd, hnl, vs, v, T, hlk, hmem, hrun, hoth⟩ := hD
        obtain ⟨_, hi⟩ := hoth i oi hoi hu1
        rcases hi with hi | ⟨hgj, us, k, b0, b1, u, hli, hbn, hst, hcl⟩
        · have hci : Calm1 X s1 oi s.st s1.st := (hi _ hmem).calm ha2
          have k2 : s2.st = s1.st := step1_calm_st hci h3
          obtain ⟨s1', g1, g3, g4, g5⟩ := old (.inr hci.symm) (.inl k2)
          have k3 := g4 k2
          refine ⟨oi, s1', hoi, ha2', g1, .inr ⟨hid, .inl k3⟩, oj, s2, ho, ha1' g1, g3, .inl ⟨hjd, ?_⟩, h4⟩
          rw [k3, k2]
          exact hD'
        · obtain ⟨w, hw⟩ := step1_run h3
          have hnli := bornOf_load hbn
          rw [step0_ad (ops := ops) hgj hnli hli ha2 s1 (fun _ _ => rfl)] at hw
          obtain ⟨q0, rfl, q1⟩ := (bornOf_spec hbn s1.st).1 _ _ hw
          obtain ⟨c0, c1, _⟩ := hcl _ hmem
          simp only at c0 c1
          have e0 : s.st[k]? = some b0 := c0.trans q0
          have m1 := c1 e0
          obtain ⟨s1', g1, g3, g4⟩ := swap_gen (s2 := s2) (s.st.set k b1) hap h1 h3 (fun v' st' hq => by
            rw [step0_ad (ops := ops) hgj hnli hli ha2 s1 (fun _ _ => rfl), hw] at hq
            cases hq
            rw [step0_ad (ops := ops) hgj hnli hli ha2' s (fun _ _ => rfl)]
            exact (bornOf_spec hbn _).2 e0) (fun v' st' hq s1' hs' hf => by
            rw [step0_ad (ops := ops) hgd hnl hlk ha1 s (fun _ _ => rfl), hrun _ hmem] at hq
            cases hq
            rw [step0_ad (ops := ops) hgd hnl hlk ha1 s1' hf, hs', q1]
            exact hrun _ m1)
          refine ⟨oi, s1', hoi, ha2', g1, .inr ⟨hid, .inr (.inr ⟨k, ⟨_, hli, hnli, bornOf_loc hbn⟩, hst⟩)⟩, oj, s2, ho, ha1' g1, g3, .inl ⟨hjd, hgd, hnl, vs, v, T, hlk, by rw [g4, q1]; exact m1, hrun, hoth⟩, h4⟩
      · rcases hb with hb | hb | ⟨kj, hrj, hsj⟩
        · rcases hb' with hb' | hb' | ⟨ki, hri, hsi⟩
          · obtain ⟨s1', g1, g3, g4, g5⟩ := old (.inl hb) (.inl hb')
            exact ⟨oi, s1', hoi, ha2', g1, .inr ⟨hid, .inl (g4 hb')⟩, oj, s2, ho, ha1' g1, g3, .inr ⟨hjd, .inl (g5 hb)⟩, h4⟩
          · obtain ⟨s1', g1, g3, g4, g5⟩ := old (.inl hb) (.inr ⟨hb, hb'.calm ho hu2 ha1⟩)
            refine ⟨oi, s1', hoi, ha2', g1, .inr ⟨hid, .inr (.inl ?_)⟩, oj, s2, ho, ha1' g1, g3, .inr ⟨hjd, .inl (g5 hb)⟩, h4⟩
            rw [← hb, ← g5 hb]
            exact hb'
          · rcases hsi.calm (s := s) ho hu2 hjd ha1 with hc | ⟨kj, hne, hrj⟩
            · obtain ⟨r, e⟩ := (hri.step (ops := ops) ha2).st h3
              obtain ⟨s1', g1, g3, g4, g5⟩ := old (.inl hb) (.inr ⟨hb, by rw [e]; exact hc _ _⟩)
              exact ⟨oi, s1', hoi, ha2', g1, .inr ⟨hid, .inr (.inr ⟨ki, hri, hsi⟩)⟩, oj, s2, ho, ha1' g1, g3, .inr ⟨hjd, .inl (g5 hb)⟩, h4⟩
            · obtain ⟨s1', g1, g3, g4, g5⟩ := loc_swap hap (hrj.step (ops := ops) ha1) (hri.step (ops := ops) ha2') hne h1 h3
              exact ⟨oi, s1', hoi, ha2', g1, .inr ⟨hid, .inr (.inr ⟨ki, hri, hsi⟩)⟩, oj, s2, ho, ha1' g1, g3, .inr ⟨hjd, .inl (g5 hb)⟩, h4⟩
        · have hci : Calm1 X s1 oi s.st s1.st := hb.calm hoi hu1 ha2
          have k2 : s2.st = s1.st := step1_calm_st hci h3
          obtain ⟨s1', g1, g3, g4, g5⟩ := old (.inr hci.symm) (.inl k2)
          have k3 := g4 k2
          refine ⟨oi, s1', hoi, ha2', g1, .inr ⟨hid, .inl k3⟩, oj, s2, ho, ha1' g1, g3, .inr ⟨hjd, .inr (.inl ?_)⟩, h4⟩
          rw [k3, k2]
          exact hb
        · obtain ⟨r, e⟩ := (hrj.step (ops := ops) ha1).st h1
          rcases hsj.calm (s := s1) hoi hu1 hid ha2 with hc | ⟨ki, hne, hri⟩
          · have hci : Calm1 X s1 oi s.st s1.st := by
              rw [e]
              exact hc _ _
            have k2 : s2.st = s1.st := step1_calm_st hci h3
            obtain ⟨s1', g1, g3, g4, g5⟩ := old (.inr hci.symm) (.inl k2)
            exact ⟨oi, s1', hoi, ha2', g1, .inr ⟨hid, .inl (g4 k2)⟩, oj, s2, ho, ha1' g1, g3, .inr ⟨hjd, .inr (.inr ⟨kj, hrj, hsj⟩)⟩, h4⟩
          · obtain ⟨s1', g1, g3, g4, g5⟩ := loc_swap hap (hrj.step (ops := ops) ha1) (hri.step (ops := ops) ha2') (fun e => hne e.symm) h1 h3
            refine ⟨oi, s1', hoi, ha2', g1, .inr ⟨hid, ?_⟩, oj, s2, ho, ha1' g1, g3, .inr ⟨hjd, .inr (.inr ⟨kj, hrj, hsj⟩)⟩, h4⟩
            rcases hb' with hb' | hb' | hb'
            · exact .inl (g4 hb')
            · have k1 : s1.st = s.st := step1_stay (hb'.calm ho hu2 ha1) h1
              right; left
              rw [← k1, ← g5 k1]
              exact hb'
            · exact .inr (.inr hb')

theorem CalmD.go {X : Cfg} {ops : Array Oper} {tab : List (List Nat)} {ad : List (Nat × AV)} {ds : List Nat} (h : drawOK ops tab = true) {s' : ASt} : ∀ (fuel t : Nat) (listed : Array Bool) (s : ASt), listed.size = ops.size → (rem ops.size listed).length ≤ fuel →
    (∀ i, listed.getD i true = true → ∀ k ∈ tab.getD i [], listed.getD k true = true) → CalmD X ops tab ad ds (rem ops.size listed) s s' → evIdx X ops.toList (Region.linearise.go .any ops fuel t listed []) s = some s' := by
  intro fuel
  induction fuel with
  | zero =>
    intro t listed s _ hl _ hc
    have : rem ops.size listed = [] := List.eq_nil_of_length_eq_zero (by omega)
    rw [this] at hc
    cases hc
    rfl
  | succ fuel ih =>
    intro t listed s hsz hl hcl hc
    have hready : ∀ i, i ∈ Region.ready .any ops listed ↔ i < ops.size ∧ listed.getD i true = false ∧ ∃ o, ops[i]? = some o ∧ ∀ d ∈ depsOf o, listed.getD d false = true := by
      intro i
      simp only [Region.ready, List.mem_filter, List.mem_range, Bool.and_eq_true, Bool.not_eq_eq_eq_not, Bool.not_true]
      constructor
      · rintro ⟨h1, h2, h3⟩
        refine ⟨h1, h2, ops[i], by simp [h1], fun d hd => ?_⟩
        rw [show ops[i]? = some ops[i] by simp [h1]] at h3
        simp only [Option.map_some, Option.getD_some, Array.all_eq_true', Bool.or_eq_true, Bool.not_eq_eq_eq_not, Bool.not_true] at h3
        simp only [depsOf, List.mem_map, List.mem_filter] at hd
        obtain ⟨e, ⟨he, hb⟩, rfl⟩ := hd
        rcases h3 e (Array.mem_def.2 he) with h | h
        · rw [h] at hb; cases hb
        · exact h
      · rintro ⟨h1, h2, o, h3, h4⟩
        refine ⟨h1, h2, ?_⟩
        rw [h3]
        simp only [Option.map_some, Option.getD_some, Array.all_eq_true', Bool.or_eq_true, Bool.not_eq_eq_eq_not, Bool.not_true]
        intro e he
        cases hb : Region.binds .any e with
        | false => exact .inl rfl
        | true => exact .inr (h4 e.on (by simp only [depsOf, List.mem_map, List.mem_filter]; exact ⟨e, ⟨Array.mem_def.1 he, hb⟩, rfl⟩))
    simp only [Region.linearise.go]
    change evIdx X ops.toList (match (Region.ready .any ops listed)[t % (Region.ready .any ops listed).length]? with
      | some i => Region.linearise.go .any ops fuel (t / (Region.ready .any ops listed).length) (listed.setIfInBounds i true) [i]
      | none => [].reverse) s = some s'
    cases hi : (Region.ready .any ops listed)[t % (Region.ready .any ops listed).length]? with
    | none =>
      have hnil : Region.ready .any ops listed = [] := by
        cases hr : Region.ready .any ops listed with
        | nil => rfl
        | cons x xs =>
          rw [hr] at hi
          have hlt : t % (x :: xs).length < (x :: xs).length := Nat.mod_lt _ (by simp)
          simp at hi
          simp at hlt
          omega
      have hrem : rem ops.size listed = [] := by
        cases hr : rem ops.size listed with
        | nil => rfl
        | cons i0 r =>
          exfalso
          have hmem : i0 ∈ rem ops.size listed := by rw [hr]; simp
          have hmem' := hmem
          simp only [rem, List.mem_filter, List.mem_range, Bool.not_eq_eq_eq_not, Bool.not_true] at hmem'
          have hsort : (rem ops.size listed).Pairwise (· < ·) := List.Pairwise.filter _ (List.pairwise_lt_range)
          have : i0 ∈ Region.ready .any ops listed := by
            rw [hready]
            refine ⟨hmem'.1, hmem'.2, ops[i0]'hmem'.1, by simp [hmem'.1], fun d hd => ?_⟩
            have hdi := ((drawOK_spec h (show ops[i0]? = some (ops[i0]'hmem'.1) by simp [hmem'.1])).1 d hd).1
            cases hld : listed.getD d false with
            | true => rfl
            | false =>
              exfalso
              have hlt : d < listed.size := by omega
              have hd2 : listed.getD d true = false := by
                simp only [Array.getD_eq_getD_getElem?, Array.getElem?_eq_getElem hlt, Option.getD_some] at hld ⊢
                exact hld
              have : d ∈ rem ops.size listed := by
                simp only [rem, List.mem_filter, List.mem_range, Bool.not_eq_eq_eq_not, Bool.not_true]
                exact ⟨by omega, hd2⟩
              rw [hr] at this hsort
              rcases List.mem_cons.1 this with h | h
              · omega
              · have := (List.pairwise_cons.1 hsort).1 d h; omega
          rw [hnil] at this
          cases this
      rw [hrem] at hc
      cases hc
      rfl
    | some i =>
      simp only []
      rw [linearise_go_acc, List.reverse_singleton, List.singleton_append]
      obtain ⟨h1, h2, o, h3, h4⟩ := (hready i).1 (List.mem_of_getElem? hi)
      obtain ⟨pre, post, e1, e2, hpre⟩ := rem_split (n := ops.size) h1 hsz h2
      rw [e1] at hc hl
      have hanc : ∀ k ∈ tab.getD i [], listed.getD k true = true := fun k hk => by
        rcases ((drawOK_spec h h3).2.1 k hk).2 with hd | ⟨d, hd, hk'⟩
        · have := h4 k hd
          simp only [Array.getD_eq_getD_getElem?] at this ⊢
          cases hq : listed[k]? with
          | none => rfl
          | some b => rw [hq] at this; simpa using this
        · have := h4 d hd
          refine hcl d ?_ k hk'
          simp only [Array.getD_eq_getD_getElem?] at this ⊢
          cases hq : listed[d]? with
          | none => rfl
          | some b => rw [hq] at this; simpa using this
      have hc' := CalmD.move h (fun j hj => ⟨(hpre j hj).1, fun hm => by
        have := hanc j hm
        rw [(hpre j hj).2] at this
        cases this⟩) hc
      obtain ⟨o', s1, ho', _, hs1, _, hc2⟩ := hc'
      rw [h3] at ho'
      cases ho'
      simp only [evIdx, Array.getElem?_toList, h3, hs1]
      refine ih _ _ s1 (by simp [hsz]) (by rw [e2]; simp at hl ⊢; omega) (fun j hj k hk => ?_) (by rw [e2]; exact hc2)
      have g : ∀ j, (listed.setIfInBounds i true).getD j true = if i = j then true else listed.getD j true := fun j => by
        simp only [Array.getD_eq_getD_getElem?, Array.getElem?_setIfInBounds]
        split
        · rename_i hij
          rw [hsz, if_pos (by omega)]
          rfl
        · rfl
      rw [g] at hj ⊢
      split
      · rfl
      · split at hj
        · rename_i hij
          subst hij
          exact hanc k hk
        · exact hcl j hj k hk

/-- a region that draws, for the evaluator -/
def drawPD (X : Cfg) (ops : Array Oper) (tab : List (List Nat)) (ad : List (Nat × AV)) (ds : List Nat) : List Oper → Nat → ASt → (ASt → Prop) → Prop
  | [], _, s, K => K s
  | o :: r, i, s, K => ∃ s1, adOk X ad i o s ∧ step1 X (gdOf ops.toList) s o = some s1 ∧ CondD X ops tab ad ds i o s.st s1.st ∧ drawPD X ops tab ad ds r (i + 1) s1 K

theorem drawPD_calm {X : Cfg} {ops : Array Oper} {tab : List (List Nat)} {ad : List (Nat × AV)} {ds : List Nat} {K : ASt → Prop} : ∀ (l : List Oper) (k : Nat) (s : ASt), (∀ j, l[j]? = ops[k + j]?) → drawPD X ops tab ad ds l k s K → ∃ s', CalmD X ops tab ad ds (List.range' k l.length) s s' ∧ K s'
  | [], k, s, _, h => ⟨s, rfl, h⟩
  | o :: l, k, s, hl, ⟨s1, h0', h1, h2, h3⟩ => by
    have h0 : ops[k]? = some o := by simpa using (hl 0).symm
    obtain ⟨s', h4, h5⟩ := drawPD_calm l (k + 1) s1 (fun j => by have := hl (j + 1); simpa [Nat.add_assoc, Nat.add_comm 1 j] using this) h3
    exact ⟨s', ⟨o, s1, h0, h0', h1, h2, h4⟩, h5⟩

theorem drawPD_sound {X : Cfg} {ops : Array Oper} {tab : List (List Nat)} {ad : List (Nat × AV)} {ds : List Nat} (hok : drawOK ops tab = true) {s : ASt} {K : ASt → Prop} (h : drawPD X ops tab ad ds ops.toList 0 s K) :
    ∃ s', (∀ t, evIdx X ops.toList (Region.schedule true ops t) s = some s') ∧ K s' := by
  obtain ⟨s', h1, h2⟩ := drawPD_calm ops.toList 0 s (by simp) h
  refine ⟨s', fun t => ?_, h2⟩
  simp only [Region.schedule, Bool.true_or, if_true, Region.linearise]
  have hrem : rem ops.size (Array.replicate ops.size false) = List.range ops.size := by
    rw [rem, List.filter_eq_self]
    intro i hi
    simp only [List.mem_range] at hi
    simp [Array.getD, hi]
  refine CalmD.go (ad := ad) (ds := ds) hok _ _ _ _ (by simp) (by rw [hrem]; simp) (fun i hi k hk => ?_) ?_
  · rcases Nat.lt_or_ge i ops.size with hlt | hge
    · simp [Array.getD, hlt] at hi
    · have ht : tab.length ≤ ops.size := by
        simp only [drawOK, Bool.and_eq_true, decide_eq_true_eq] at hok
        exact hok.1
      rw [List.getD_eq_getElem?_getD, List.getElem?_eq_none (by omega)] at hk
      cases hk
  · rw [hrem, List.range_eq_range', ← Array.length_toList]
    exact h1

/-- blocks that are set aside: rows without elements, and places of maps -/
def resvOk : ABlk → Bool
  | .row _ 0 0 [] => true
  | .tick 0 => true
  | _ => false
end Go.Proofs.YtgpkochbmfhmdaaGreatDoor.Lift
