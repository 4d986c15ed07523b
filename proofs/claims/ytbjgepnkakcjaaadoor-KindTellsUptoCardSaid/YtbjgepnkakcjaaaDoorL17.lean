/-
  LIFT, 17: CALLS of function values (a function that has a contract), and a straight region.
-/
import Derived.Test.YtbjgepnkakcjaaaDoorL16
import Derived.RangeFuncCalls
namespace Go.Proofs.YtbjgepnkakcjaaaDoor.Lift
open Go

def GlobG (g : Nat → Option AV) (G : Gh) : Prop := ∀ n v, g n = some v → Rep G (.rp v 0) (.pointer (some ⟨n, 0, none⟩))

/-- what a function's contract says -/
def Ret (G : Gh) (r : AV) (σ' : Sto) : Ending → World → Prop
  | .returned v, w => ∃ G', G'.w = w ∧ G'.σ = σ' ∧ Ext G G' ∧ Inv G' ∧ Rep G' r v
  | _, _ => False

/-- a call of a function: it is entered, or (it has no body) answered at once -/
def CallDone (P : Program) (f : Nat) (args : Array Value) (w : World) (R : Ending → World → Prop) : Prop :=
  ((callFunc f args).run P w = .ok (.enter f args) w ∧ Calls P f args w R) ∨ ∃ v w', (callFunc f args).run P w = .ok (.value v) w' ∧ R (.returned v) w'

structure SoundF (P : Program) (gl : Nat → Option AV) (f : Nat) (S : Spec) : Prop where
  calls : ∀ (G : Gh) (args : List AV) (vals : List Value) (r : AV) (σ' : Sto), S args G.σ = some (r, σ') → Inv G → GlobG gl G → RepL G args vals → CallDone P f vals.toArray G.w (Ret G r σ')

/-- the configuration fits the program -/
structure OkX (P : Program) (X : Cfg) : Prop where
  T : X.T = tiOf P
  E : ∀ f S, X.E.look f = some S → SoundF P X.G f S

def FW (F : Fence) : Prop := F = Fence.wide ∨ ∃ l, F = Fence.wide.inRound l
theorem FW.fn {F : Fence} (h : FW F) (f : FuncId) : F.fn f := by
  rcases h with rfl | ⟨l, rfl⟩ <;> exact trivial
theorem FW.depth {F : Fence} (h : FW F) : F.depth = none := by
  rcases h with rfl | ⟨l, rfl⟩ <;> rfl
theorem FW.calls {F : Fence} (h : FW F) {n : Nat} {P : Program} {f : FuncId} {args : Array Value} {w : World} {R : Ending → World → Prop} (hc : Calls P f args w R) : CallsIn F n P f args w R := by
  rcases h with rfl | ⟨l, rfl⟩
  · exact callsIn_wide.2 hc
  · exact CallsIn.inRound l (callsIn_wide.2 hc)

theorem run_callFunc {P : Program} {f : Nat} {fn : Func} (hf : P.funcs[f]? = some fn) (hb : fn.body.isNone = false) (hn : (fn.name == "runtime.NumGoroutine") = false) (args : Array Value) (w : World) :
    (callFunc f args).run P w = .ok (.enter f args) w := by
  unfold callFunc
  have hb' : fn.body ≠ none := by intro h; rw [h] at hb; cases hb
  simp only [beq_eq_false_iff_ne, ne_eq] at hn
  simp only [Sem.run_bind, run_program, Result.andThen_ok, hf]
  simp [hb', hn]

/-- the outcome of a call -/
theorem evCall_sound {P : Program} {X : Cfg} (ok : OkX P X) {G : Gh} (inv : Inv G) (hg : Glob X G) {s : ASt} {a : Act} (hs : Slots G s a) (o : Oper) (hc : isCallV o.op = true) {v : AV} {st : Sto}
    (h : evOper X s o = some (v, st)) : (∃ f args, (execOp a.eval o).run P G.w = .ok (.enter f args) G.w ∧ Calls P f args G.w (Ret G v st)) ∨ ∃ u w', (execOp a.eval o).run P G.w = .ok (.value u) w' ∧ Ret G v st (.returned u) w' := by
  obtain ⟨_, _, hσ⟩ := id hs
  obtain ⟨dst, op, type, pos, after, guard⟩ := o
  cases op <;> simp only [isCallV, Bool.false_eq_true] at hc
  rename_i c
  obtain ⟨callee, args, ats⟩ := c
  cases callee <;> simp only [Bool.false_eq_true] at hc
  rename_i fo
  simp only [evOper, callV] at h
  split at h
  · rename_i k first cap hf
    split at h
    · rename_i S hS
      have sf := ok.E k S hS
      have hr := hs.ev hg fo
      rw [hf] at hr
      generalize hv : a.eval fo = fv at hr
      cases hr
      rename_i fa ca hfa hca
      have hargs : RepL G (args.toList.map (s.ev X)) (args.map a.eval).toList := by
        refine RepL.of_get (by simp) fun i x u hx hu => ?_
        simp only [Array.toList_map, List.getElem?_map] at hx hu
        cases hq : args.toList[i]? with
        | none => rw [hq] at hx; cases hx
        | some q => rw [hq] at hx hu; cases hx; cases hu; exact hs.ev hg q
      rw [← hσ] at h
      have hrun : (execOp a.eval ⟨dst, .call ⟨.value fo, args, ats⟩, type, pos, after, guard⟩).run P G.w = (callFunc k (fa ++ args.map a.eval ++ ca)).run P G.w := by
        simp only [execOp, resolve, hv, Deferred.ofValue, Sem.run_bind, Sem.run_pure, Result.andThen_ok, invoke]
      have hcd := sf.calls G _ ((fa ++ args.map a.eval ++ ca).toList) v st h inv (fun n u hu => hg n u hu) (by
          rw [Array.toList_append, Array.toList_append]
          exact (hfa.append hargs).append hca)
      rw [Array.toArray_toList] at hcd
      rw [hrun]
      rcases hcd with ⟨h1, h2⟩ | ⟨u, w', h1, h2⟩
      · exact .inl ⟨k, _, h1, h2⟩
      · exact .inr ⟨u, w', h1, h2⟩
    · cases h
  · cases h
end Go.Proofs.YtbjgepnkakcjaaaDoor.Lift
