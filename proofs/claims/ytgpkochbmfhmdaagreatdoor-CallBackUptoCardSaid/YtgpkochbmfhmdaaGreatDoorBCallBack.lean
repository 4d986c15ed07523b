/-
  larchlaw17.CallBack, for every input of bulk at most 1048576: what is pushed is popped, and leaves a call as it was (the card of the second form).
-/
import Derived.Test.YtgpkochbmfhmdaaGreatDoorQ11
import Derived.Test.YtgpkochbmfhmdaaGreatDoorCards
import Derived.Test.YtgpkochbmfhmdaaGreatDoorTie
import Derived.WalkKit
import Derived.ProofKit
import Derived.OpenShut
import Derived.Deep.DeepHandedRow
import Derived.Lib.LaidTab
namespace Go.Proofs.YtgpkochbmfhmdaaGreatDoor.BCallBack
open Go.ChangeShapes Go.WideShapes Go.ChangeAt Go.RowKit Go.Proofs.YtgpkochbmfhmdaaGreatDoor.Lift
set_option maxRecDepth 100000

theorem own : ownKnob Tryz.prog.godebug = none := by kernel_rfl
/-- no slice's elements are of no size -/
theorem noNull : NoNull Tryz.prog := by unfold NoNull; kernel_rfl

/-- the variables that are read lie as the row says -/
theorem globs {W : World} (hL : laidMet Tryz.prog Rows.callBackUptoRow.laid W) : GlobG gl (startG W) := by
  intro n v hv
  dsimp only [gl] at hv
  split at hv
  · rename_i e
    subst e
    cases hv
    exact glob_of hL (name := "larch/class.kinds") (List.Mem.tail _ (List.Mem.head _)) (t := 335) (by kernel_rfl) (by kernel_rfl) F0 (fun fuel cs p h => cells_of_arr F0 (n := 5) (e := 3) (by kernel_rfl) (by kernel_rfl) (F0_int (k := .i64) (by kernel_rfl)) h) (by kernel_rfl) (by kernel_rfl)
  split at hv
  · rename_i e
    subst e
    cases hv
    exact glob_of hL (name := "larch/link.faults") (List.Mem.tail _ (List.Mem.tail _ (List.Mem.head _))) (t := 113) (by kernel_rfl) (by kernel_rfl) F0 (fun fuel cs p h => cells_of_arr F0 (n := 7) (e := 9) (by kernel_rfl) (by kernel_rfl) (F0_str (by kernel_rfl)) h) (by kernel_rfl) (by kernel_rfl)
  split at hv
  · rename_i e
    subst e
    cases hv
    exact glob_of hL (name := "larch/link.calls") (List.Mem.tail _ (List.Mem.tail _ (List.Mem.tail _ (List.Mem.head _)))) (t := 112) (by kernel_rfl) (by kernel_rfl) F1 (fun fuel cs p h => cells_of_arr F1 (n := 6) (e := 111) (by kernel_rfl) (by kernel_rfl) (F1_arr (n := 2) (e := 9) (by kernel_rfl) (by kernel_rfl) (by kernel_rfl)) h) (by kernel_rfl) (by kernel_rfl)
  cases hv

theorem contract (H : Type) (enc : TypeId × Value → H) (W : World) (base : Nat) (args : Array Value) (ds gs : List (DataW H)) (before : List MemPlace)
    (hval : ∀ (j : Nat) t v, Tryz.f4.params[j]? = some t → args[j]? = some v → Value.okWide Tryz.prog W .any base t v)
    (hW : DataW.Whole enc Tryz.prog Tryz.f4.params.toList Rows.callBackSpec.vars false W args.toList ds gs before)
    (hcond : Rows.uptoBulkAll (ds ++ gs) ≤ 1048576)
    (hL : laidMet Tryz.prog Rows.callBackUptoRow.laid W) :
    Calls Tryz.prog 4 args W fun e W' => ∃ v, e = .returned v ∧ Rows.callBackSpec.post enc Tryz.prog Tryz.f4 false true false false W args v W' := by
  have hW' := hW
  obtain ⟨p, q, hA0, hV, rfl, hfz, hnd⟩ := hW
  have hA : DataW.TrodAll enc Tryz.prog W 0 (fun _ => true) true Tryz.f4.params.toList args.toList ds p := hA0
  rw [Tryz.params4] at hA hval
  obtain ⟨v0, vs0, d0, ds0, p0, q0, hargs, rfl, rfl, h0, r0⟩ := trodAll_cons hA
  obtain ⟨v1, vs1, d1, ds1, p1, q1, rfl, rfl, rfl, h1, r1⟩ := trodAll_cons r0
  obtain ⟨rfl, rfl, rfl⟩ := trodAll_nil r1
  obtain ⟨rfl, rfl⟩ := trodVars_none hV
  obtain ⟨n0, hn0⟩ := h0
  obtain ⟨a0, ha0, hz0⟩ := rd_CallF.read hn0
  have t0 := rd_CallF.top (hval 0 _ v0 rfl (by rw [← Array.getElem?_toList, hargs]; rfl)) ha0
  obtain ⟨n1, hn1⟩ := h1
  obtain ⟨a1, ha1, hz1⟩ := rd_Vals.read hn1
  have t1 := rd_Vals.top (hval 1 _ v1 rfl (by rw [← Array.getElem?_toList, hargs]; rfl)) ha1
  have hrep := (RepL.cons t0 (RepL.cons t1 (RepL.nil)) : RepL (startG W) _ [v0, v1])
  rw [← hargs] at hrep
  simp only [List.append_nil, Rows.uptoBulkAll] at hcond
  simp only at hz0
  simp only at hz1
  exact post_trueG noNull p_CallBack Tryz.func4 rfl rfl Tryz.underlying4 (by kernel_rfl) rfl (of_decide_eq_true (by kernel_rfl)) hW' rfl (globs hL) hrep (by simp only [fn2_eq, Cod.de, Option.bind_some]; show (gCallBack a0 a1).map encBool = _; unfold gCallBack; rw [if_pos (by have h0 := zL_len zVal_pos a0.locals; have h1 := zL_len zVal_pos a0.stack; have h2 := zL_len zVal_pos a1; have e0 : zCallF a0 = 1 + (1 + (1 + (zL zVal a0.locals + (zL zVal a0.stack + 1)))) + 1 := rfl; exact ⟨by omega, by omega, by omega⟩)]; rfl)

/-- a block's cells, laid -/
def layBlock (vs : List Value) : Obj → Obj
  | .cells _ t frozen => .cells vs.toArray t frozen
  | o => o
/-- a world for the witness -/
noncomputable def laidWorld (os : Os) : World :=
  { World.holding Tryz.prog os ⟨#[], #[], []⟩ with
    heap := (((((World.holding Tryz.prog os ⟨#[], #[], []⟩).heap.modify 3 (layBlock (Go.Pinned.utf8FirstZ.map fun (n : Nat) => Value.int .u8 (n : Int)))).modify 4 (layBlock (([128, 191, 160, 191, 128, 159, 144, 191, 128, 143, 0, 0, 0, 0, 0, 0, 0, 0, 0, 0, 0, 0, 0, 0, 0, 0, 0, 0, 0, 0, 0, 0] : List Int).map fun n => Value.int .u8 n))).modify 5 (layBlock (([0, 1, 4, 5, 7] : List Int).map fun n => Value.int .i64 n))).modify 1 (layBlock (([[65, 114, 105, 116, 104, 109, 101, 116, 105, 99], [78, 117, 108, 108], [73, 110, 100, 101, 120], [78, 101, 103, 97, 116, 105, 118, 101], [67, 97, 115, 116], [83, 116, 111, 114, 101], [77, 111, 110, 105, 116, 111, 114]] : List (List UInt8)).map fun s => Value.string ⟨s.toArray⟩))).modify 0 (layBlock (([[111, 117, 116], [40, 73, 41, 86], [105, 110], [40, 41, 73], [115, 112, 97, 119, 110], [40, 76, 79, 98, 106, 101, 99, 116, 59, 41, 86], [119, 97, 105, 116], [40, 76, 79, 98, 106, 101, 99, 116, 59, 41, 86], [110, 111, 116, 105, 102, 121], [40, 76, 79, 98, 106, 101, 99, 116, 59, 41, 86], [121, 105, 101, 108, 100], [40, 41, 86]] : List (List UInt8)).map fun s => Value.string ⟨s.toArray⟩)) }
/-- the witness: nothing -/
def wArgs : Array Value := #[.agg #[.int .i64 0, .int .i64 0, .int .i64 0, .slice none 0 0, .slice none 0 0, .int .i64 0], .slice none 0 0]
theorem laid_met (os : Os) : laidMet Tryz.prog Rows.callBackUptoRow.laid ((laidWorld os).forCall (fun _ _ => 0) ⟨#[], wArgs, []⟩).memory :=
  laidMet_of_run' 8 (by kernel_rfl) (by kernel_rfl)
theorem reads (os : Os) {H : Type} (enc : TypeId × Value → H) : ∃ places, DataW.whole enc Tryz.prog ((laidWorld os).forCall (fun _ _ => 0) ⟨#[], wArgs, []⟩).memory Tryz.f4.params.toList Rows.callBackSpec.vars false wArgs.toList 8 = some ([.agg [.lit (.int .i64 0), .lit (.int .i64 0), .lit (.int .i64 0), .nil, .nil, .lit (.int .i64 0)], .nil], [], places) :=
  ⟨[], by kernel_rfl⟩

theorem lifted (os : Os) (started : os.Started) (H : Type) (enc : TypeId × Value → H) (F : Stop.Interp) :
    ReturnsInHanded {} Tryz.checked os 4 .any ((Rows.OpenSpec.upto Rows.callBackSpec).preRow enc Tryz.prog Tryz.f4 Rows.callBackUptoRow.domain false Rows.callBackUptoRow.laid) (((Rows.OpenSpec.upto Rows.callBackSpec).at F).post enc Tryz.prog Tryz.f4 false true false false) := by
  obtain ⟨places, hx⟩ := reads os enc
  refine returnsInHanded_of_row (C := Tryz.checked) (s := Rows.OpenSpec.upto Rows.callBackSpec) own started (by kernel_rfl) Tryz.func4
    (witness_row_at (enc := enc) (C := Tryz.checked) false (laidWorld os) wArgs rfl (by kernel_rfl) (by kernel_rfl) (by kernel_rfl)
      (OpenSpec.preRow_of_cond 8 hx (by kernel_rfl) (fun k hk => by cases hk; kernel_rfl) (by kernel_rfl) (laid_met os))) ?_
  intro W base args ds gs before hval hW h3 h4 h5 hL h6 h7
  exact contract H enc W base args ds gs before hval hW (of_decide_eq_true (h4 _ rfl)) hL

theorem said : Rows.CallBackUptoSaid :=
  OpenClaim.holds_of_cond 4 Tryz.f4 rfl rfl rfl rfl rfl rfl rfl ⟨rfl, rfl, rfl, rfl, rfl⟩ rfl rfl rfl rfl rfl (by kernel_rfl) Tryz.func4 (by kernel_rfl)
    (of_decide_eq_true (by kernel_rfl)) (by unfold Func.isWrapper; first | (rw [if_pos (by decide +kernel)]; kernel_rfl) | (rw [if_neg (by decide +kernel)]; exact ⟨rfl, rfl⟩))
    (fun os started H enc _ F => by rw [OpenClaim.pre_eq_preRow]; exact lifted os started H enc F)

theorem plain (f : FuncId) (fn : Func) (hf : Tryz.pinned.checked.prog.funcNamed "larch/larchlaw17.CallBack" = some f) (hfn : Tryz.pinned.checked.prog.funcs[f]? = some fn) :
    false = Tryz.pinned.checked.prog.looks [] ∧ ∀ (j : Nat) t, fn.params[j]? = some t → Tryz.pinned.checked.prog.wantsStandIn t = false := by
  obtain rfl : f = 4 := Option.some.inj ((show Tryz.prog.funcNamed "larch/larchlaw17.CallBack" = some 4 by kernel_rfl).symm.trans hf) |>.symm
  obtain rfl : fn = Tryz.f4 := (Option.some.inj (Tryz.func4.symm.trans hfn)).symm
  refine ⟨by kernel_rfl, fun j t ht => ?_⟩
  rw [Tryz.params4] at ht
  have hall : ∀ t ∈ ([59, 55] : List TypeId), Tryz.prog.wantsStandIn t = false := by
    intro t ht
    have h : ([59, 55] : List TypeId).all (fun t => !Tryz.prog.wantsStandIn t) = true := by kernel_rfl
    simpa using List.all_eq_true.1 h t ht
  exact hall t (by have := Array.mem_of_getElem? ht; simp at this ⊢; omega)

/-- THE CARD -/
theorem card : Rows.CallBackUptoCardSaid :=
  Claim7.holds_tied_plain_at .later [] _ _ _ _ said (fun _ h => by cases h) (by kernel_rfl) (fun _ h => by cases h) callBackUpto_row_tie rfl ⟨rfl, rfl⟩ (by kernel_rfl) rfl plain (by kernel_rfl)
end Go.Proofs.YtgpkochbmfhmdaaGreatDoor.BCallBack
