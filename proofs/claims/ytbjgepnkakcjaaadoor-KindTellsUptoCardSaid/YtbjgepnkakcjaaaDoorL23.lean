/-
  LIFT, 23: A FUNCTION's CONTRACT from the walk of its body.
-/
import Derived.Test.YtbjgepnkakcjaaaDoorL22
import Derived.RangeFuncLeaves
import Derived.RangeFuncRecord
namespace Go.Proofs.YtbjgepnkakcjaaaDoor.Lift
open Go

/-- blocks of deferred calls are shut; all else lies as it lay -/
structure Puts (rs : List Nat) (w w' : World) : Prop where
  os : w'.os = w.os
  tape : w'.tape = w.tape
  output : w'.output = w.output
  size : w'.heap.size = w.heap.size
  other : ∀ b, b ∉ rs → w'.heap[b]? = w.heap[b]?
  shut : ∀ r ∈ rs, w.heap[r]? = some (.deferred (some [])) ∧ w'.heap[r]? = some (.deferred none)

theorem Puts.ext {rs : List Nat} {w w' : World} (p : Puts rs w w') {G0 G : Gh} (hw : G.w = w) (h0 : ∀ r ∈ rs, G0.w.heap.size ≤ r) (inv : Inv G) (x : Ext G0 G) :
    ∃ G', G'.w = w' ∧ G'.σ = G.σ ∧ Ext G0 G' ∧ Inv G' ∧ ∀ a v, Rep G a v → Rep G' a v := by
  subst hw
  let G' : Gh := { G with w := w' }
  have hno : ∀ r ∈ rs, ∀ c e fz, G.w.heap[r]? ≠ some (.cells c e fz) := fun r hr c e fz hc => by
    rw [(p.shut r hr).1] at hc; cases hc
  have hcells : ∀ (blk : Nat) (c : Array Value) e fz, G.w.heap[blk]? = some (.cells c e fz) → w'.heap[blk]? = some (.cells c e fz) := fun blk c e fz hb => by
    rw [p.other blk (fun hm => hno blk hm c e fz hb)]; exact hb
  have hmaps : ∀ (blk : Nat) m k, G.w.heap[blk]? = some (.map m k) → w'.heap[blk]? = some (.map m k) := fun blk m k hb => by
    rw [p.other blk (fun hm => by rw [(p.shut blk hm).1] at hb; cases hb)]; exact hb
  have hcell : ∀ b o v, G.w.cell? ⟨b, o, none⟩ = some v → w'.cell? ⟨b, o, none⟩ = some v := fun b o v hv => by
    unfold World.cell? at hv ⊢
    simp only at hv ⊢
    cases hb : G.w.heap[b]? with
    | none => rw [hb] at hv; cases hv
    | some k =>
      rw [hb] at hv
      cases k with
      | cells c e fz => rw [hcells b c e fz hb]; exact hv
      | _ => cases hv
  have xr : ExtR G G' := ⟨fun blk c e fz hb => ⟨c, hcells blk c e fz hb, rfl⟩, fun _ _ h => h, fun b o _ v hv => hcell b o v hv, fun b m k _ hb => hmaps b m k hb, fun b k hk => ⟨k, hk, Nat.le_refl _, rfl⟩, fun _ _ _ _ _ => rfl⟩
  refine ⟨G', rfl, rfl, ?_, ?_, fun a v h => h.extR xr⟩
  · exact
      { os := p.os.trans x.os, tape := p.tape.trans x.tape, output := p.output.trans x.output, size := by show _ ≤ w'.heap.size; rw [p.size]; exact x.size
        old := fun blk hb ho => by
          show w'.heap[blk]? = _
          rw [p.other blk (fun hm => by have := h0 blk hm; omega)]
          exact x.old blk hb ho
        shape := fun blk c e fz hb => by
          obtain ⟨c', h1, h2⟩ := x.shape blk c e fz hb
          exact ⟨c', hcells blk _ _ _ h1, h2⟩
        frozen := x.frozen
        cell := fun b o hf => by
          have h1 := x.cell b o hf
          rw [← h1]
          show w'.cell? _ = _
          unfold World.cell?
          simp only
          by_cases hm : b ∈ rs
          · rw [(p.shut b hm).1, (p.shut b hm).2]
          · rw [p.other b hm]
        fmap := fun b m k hf hb => hmaps b m k (x.fmap b m k hf hb)
        thaw := x.thaw, len := x.len, id := x.id, at_ := x.at_, own := x.own }
  · exact
      { rows := fun b sz g lo xs h => by
          obtain ⟨h1, h2, h3⟩ := inv.rows b sz g lo xs h
          refine ⟨h1, fun blk hb => ?_, h3⟩
          obtain ⟨c, e, fz, h4, h5, h6, h7⟩ := h2 blk hb
          exact ⟨c, e, fz, hcells blk c e fz h4, h5, fun i y hy => ⟨(h6 i y hy).1, fun j z hz => let ⟨v, h8, h9⟩ := (h6 i y hy).2 j z hz; ⟨v, h8, h9.extR xr⟩⟩, h7⟩
        maps := fun b es h => by
          obtain ⟨blk, ents, ck, h1, h2, h3, h4⟩ := inv.maps b es h
          exact ⟨blk, ents, ck, h1, hmaps blk _ _ h2, h3.extR xr, h4⟩
        inj := inv.inj
        lt := fun b o h => by show b < w'.heap.size; rw [p.size]; exact inv.lt b o h }

theorem leaves_marks {F : Fence} {n : Nat} {P : Program} {fn : Func} {tmps : Array Value} {R : Ending → World → Prop} : ∀ (rs : List Nat) (w : World), rs.Nodup → (∀ r ∈ rs, w.heap[r]? = some (.deferred (some []))) →
    (∀ w', Puts rs w w' → ∃ v, (results fn tmps).run P w' = .ok v w' ∧ R (.returned v) w') → LeavesInM F n P fn tmps R (rs.map fun r => ({ target := .collected r, args := #[] } : Deferred)) .returning w := by
  intro rs
  induction rs with
  | nil => exact fun w _ _ h => h w ⟨rfl, rfl, rfl, rfl, fun _ _ => rfl, fun r hr => by cases hr⟩
  | cons r rs ih =>
    intro w hnd hr h
    have hlt : r < w.heap.size := by
      have := hr r (by simp)
      rcases Nat.lt_or_ge r w.heap.size with h | h
      · exact h
      · rw [Array.getElem?_eq_none h] at this; cases this
    have hnd' := List.nodup_cons.1 hnd
    refine ⟨by simp, .inl ⟨r, w.putObj r (.deferred none), rfl, run_takeDeferred (hr r (by simp)), ?_⟩⟩
    refine ih _ hnd'.2 (fun r' hr' => ?_) fun w' hp => h w' ?_
    · rw [World.putObj_heap_other (by intro e; subst e; exact hnd'.1 hr')]
      exact hr r' (by simp [hr'])
    · refine ⟨hp.os, hp.tape, hp.output, by rw [hp.size]; simp, fun b hb => ?_, fun r' hr' => ?_⟩
      · simp only [List.mem_cons, not_or] at hb
        rw [hp.other b hb.2, World.putObj_heap_other hb.1]
      · rcases List.mem_cons.1 hr' with rfl | hm
        · refine ⟨hr r' (by simp), ?_⟩
          rw [hp.other r' hnd'.1]
          exact World.putObj_heap_same hlt
        · exact ⟨hr r' (by simp [hm]), (hp.shut r' hm).2⟩

/-- a result of a function -/
def resA (X : Cfg) (s : ASt) : ResultVar → Option AV
  | .tmp t => some (s.fr t)
  | .cell a t => (X.T t).bind fun ti => loadAt ti s.st (s.fr a)
/-- the results of a function -/
def resAs (X : Cfg) (s : ASt) (l : List ResultVar) : Option AV := match mapO (resA X s) l with
  | some [v] => some v
  | some vs => some (.tup vs)
  | none => none

theorem run_loadVar {P : Program} {G : Gh} (inv : Inv G) {t : TypeId} {ti : TI} (ht : tiOf P t = some ti) {p v : AV} {r : Value} (hp : Rep G p r) (h : loadAt ti G.σ p = some v) :
    ∃ u, (do loadVar t (← asAddr r)).run P G.w = .ok u G.w ∧ Rep G v u := by
  obtain ⟨u, h1, h2⟩ := run_loadAt inv ht hp h
  refine ⟨u, ?_, h2⟩
  rw [← h1]
  cases hp <;> simp_all [loadAt, Instr.loadAt, Instr.sureAddr, asAddr]

theorem run_results {P : Program} {X : Cfg} (hT : X.T = tiOf P) {G : Gh} (inv : Inv G) {s : ASt} {a : Act} (hs : Slots G s a) {fn : Func} {v : AV} (h : resAs X s fn.results.toList = some v) :
    ∃ u, (results fn a.tmps).run P G.w = .ok u G.w ∧ Rep G v u := by
  obtain ⟨hn, hf, hσ⟩ := hs
  have key : ∀ (l : List ResultVar) (vs : List AV), mapO (resA X s) l = some vs → ∃ us, (l.mapM (m := Sem) fun
      | .tmp t => pure (a.tmps.getD t undef)
      | .cell b t => do loadVar t (← asAddr (a.tmps.getD b undef))).run P G.w = .ok us G.w ∧ RepL G vs us := by
    intro l
    induction l with
    | nil => intro vs h; cases h; exact ⟨[], rfl, .nil⟩
    | cons x l ih =>
      intro vs h
      simp only [mapO] at h
      split at h
      · rename_i y ys hy hys
        cases h
        obtain ⟨us, h1, h2⟩ := ih ys hys
        have : ∃ u, (match x with
            | .tmp t => (pure (a.tmps.getD t undef) : Sem Value)
            | .cell b t => do loadVar t (← asAddr (a.tmps.getD b undef))).run P G.w = .ok u G.w ∧ Rep G y u := by
          cases x with
          | tmp t => cases hy; exact ⟨_, rfl, hf t⟩
          | cell b t =>
            simp only [resA] at hy
            cases ht : X.T t with
            | none => rw [ht] at hy; cases hy
            | some ti =>
              rw [ht, Option.bind_some, ← hσ] at hy
              exact run_loadVar inv (hT ▸ ht) (hf b) hy
        obtain ⟨u, h3, h4⟩ := this
        refine ⟨u :: us, ?_, .cons h4 h2⟩
        simp only [List.mapM_cons, Sem.run_bind, h3, h1, Result.andThen_ok, Sem.run_pure]
      · cases h
  unfold resAs at h
  cases hm : mapO (resA X s) fn.results.toList with
  | none => rw [hm] at h; cases h
  | some vs =>
    obtain ⟨us, h1, h2⟩ := key _ _ hm
    have hr : (results fn a.tmps).run P G.w = .ok (if h : us.toArray.size = 1 then us.toArray[0] else .tuple us.toArray) G.w := by
      simp only [results, Sem.run_bind, Array.mapM_eq_mapM_toList, Sem.run_map, Sem.run_pure]
      erw [h1]
      rfl
    rw [hr]
    rw [hm] at h
    match vs, us, h, h2 with
    | [], [], h, h2 => cases h; exact ⟨_, rfl, .tup .nil⟩
    | [v'], [u], h, .cons h3 .nil => cases h; exact ⟨u, rfl, h3⟩
    | v1 :: v2 :: vs, u1 :: u2 :: us, h, h2 => cases h; exact ⟨_, rfl, .tup h2⟩

/-- where a function's walk begins -/
def entry (fn : Func) (args : List AV) (st : Sto) : ASt := ⟨fn.ntmps, fun t => args.getD t .undef, st⟩

theorem entry_st {X : Cfg} {G : Gh} (inv : Inv G) (hg : GlobG X.G G) {fn : Func} {args : List AV} {vals : List Value} (hr : RepL G args vals) :
    St X G (entry fn args G.σ) { tmps := vals.toArray ++ Array.replicate (fn.ntmps - vals.toArray.size) undef, defers := [] } G.w := by
  refine ⟨G, rfl, ⟨by simp [entry]; omega, fun t => ?_, rfl⟩, inv, hg, Ext.refl G, ⟨[], rfl, .nil, fun r hr => by cases hr⟩⟩
  simp only [entry, List.getD_eq_getElem?_getD]
  cases ht : args[t]? with
  | none => exact .undef _
  | some x =>
    obtain ⟨u, hu, h⟩ := hr.get ht
    have hlt : t < vals.length := (List.getElem?_eq_some_iff.1 hu).1
    simp only [Array.getD_eq_getD_getElem?, Option.getD_some]
    rw [Array.getElem?_append_left (by simpa using hlt)]
    simp [hu, h]

/-- a pure contract from the walk -/
theorem soundP_of_ev {P : Program} {X : Cfg} (hT : X.T = tiOf P) {f : Nat} {fn : Func} {c : Code} (hf : P.funcs[f]? = some fn) (hb : fn.body = some c) (hn : (fn.name == "runtime.NumGoroutine") = false) {g : List AV → Option AV}
    (h : ∀ args r, g args = some r → ∀ G0 : { G : Gh // G.σ = [] }, Ev P X G0.1 c (entry fn args []) (fun e s => (e = .normal ∨ e = .ret) ∧ ∃ d r0, resAs X s fn.results.toList = some r0 ∧ peek s.st d r0 = some r)) : SoundP P X.G f g where
  calls := fun G args vals r hr inv hσ hg hargs => by
    have hev : Ev P X G c (entry fn args []) (fun e s => (e = .normal ∨ e = .ret) ∧ ∃ d r0, resAs X s fn.results.toList = some r0 ∧ peek s.st d r0 = some r) := h args r hr ⟨G, hσ⟩
    have hst := entry_st (fn := fn) inv hg hargs
    rw [hσ] at hst
    refine .inl ⟨run_callFunc hf (by simp [hb]) hn _ _, (callsIn_wide (n := 0)).1 (callsIn_of_wp_marks hf hb trivial ?_)⟩
    refine wpIn_mono (hev Fence.wide 0 _ _ (.inl rfl) hst) fun e a' w' ⟨s', ⟨he, d, r0, h1, h2⟩, h3⟩ => ?_
    obtain ⟨G1, rfl, hs, inv1, hg1, x1, rs, hd, hnd, hrs⟩ := h3
    have key : LeavesInM Fence.wide 0 P fn a'.tmps (Ret G r []) a'.defers .returning G1.w := by
      rw [hd]
      refine leaves_marks rs G1.w hnd (fun r hr => (hrs r hr).1) fun w' hp => ?_
      obtain ⟨G2, rfl, e2, x2, inv2, tr⟩ := hp.ext rfl (fun r hr => (hrs r hr).2) inv1 x1
      have hs2 : Slots G2 s' a' := ⟨hs.1, fun t => tr _ _ (hs.2.1 t), e2.trans hs.2.2⟩
      obtain ⟨u, h4, h5⟩ := run_results hT inv2 hs2 h1
      refine ⟨u, h4, G2.freeze, rfl, rfl, ?_, inv_freeze inv2, ?_⟩
      · exact
          { os := x2.os, tape := x2.tape, output := x2.output, size := x2.size, old := x2.old, shape := x2.shape, frozen := fun b o hf => .inl (x2.frozen b o hf), cell := x2.cell, fmap := x2.fmap
            thaw := fun b o hf hb => by
              rcases hf with hf | hf
              · exact x2.thaw b o hf hb
              · rcases x2.own b hf.owned with h | h
                · omega
                · exact .inr h
            len := by rw [hσ]; exact Nat.zero_le _, id := fun b k hk => (by rw [hσ] at hk; cases hk), at_ := fun b k g hk => (by rw [hσ] at hk; cases hk)
            own := fun blk ho => (owned_nil rfl blk ho).elim }
      · refine peek_rep inv2 (extF_freeze G2) rfl (fun b o h => .inr h) d ?_ h5
        rw [hs2.2.2]
        exact h2
    rcases he with rfl | rfl <;> exact key

/-- a contract of a function that has no store of its own to leave -/
theorem soundF_of_ev {P : Program} {X : Cfg} (hT : X.T = tiOf P) {f : Nat} {fn : Func} {c : Code} (hf : P.funcs[f]? = some fn) (hb : fn.body = some c) (hn : (fn.name == "runtime.NumGoroutine") = false) {S : Spec}
    (h : ∀ args st r st', S args st = some (r, st') → ∀ G0 : Gh, Ev P X G0 c (entry fn args st) (fun e s => (e = .normal ∨ e = .ret) ∧ resAs X s fn.results.toList = some r ∧ s.st = st')) : SoundF P X.G f S where
  calls := fun G args vals r σ' hr inv hg hargs => by
    have hev := h args G.σ r σ' hr G
    have hst := entry_st (fn := fn) inv hg hargs
    refine .inl ⟨run_callFunc hf (by simp [hb]) hn _ _, (callsIn_wide (n := 0)).1 (callsIn_of_wp_marks hf hb trivial ?_)⟩
    refine wpIn_mono (hev Fence.wide 0 _ _ (.inl rfl) hst) fun e a' w' ⟨s', ⟨he, h1, h2⟩, h3⟩ => ?_
    obtain ⟨G1, rfl, hs, inv1, hg1, x1, rs, hd, hnd, hrs⟩ := h3
    have key : LeavesInM Fence.wide 0 P fn a'.tmps (Ret G r σ') a'.defers .returning G1.w := by
      rw [hd]
      refine leaves_marks rs G1.w hnd (fun r hr => (hrs r hr).1) fun w' hp => ?_
      obtain ⟨G2, rfl, e2, x2, inv2, tr⟩ := hp.ext rfl (fun r hr => (hrs r hr).2) inv1 x1
      have hs2 : Slots G2 s' a' := ⟨hs.1, fun t => tr _ _ (hs.2.1 t), e2.trans hs.2.2⟩
      obtain ⟨u, h4, h5⟩ := run_results hT inv2 hs2 h1
      exact ⟨u, h4, G2, rfl, hs2.2.2.trans h2, x2, inv2, h5⟩
    rcases he with rfl | rfl <;> exact key
end Go.Proofs.YtbjgepnkakcjaaaDoor.Lift
