/-
  larchlaw10.KindOrder, for every input of bulk at most 1048576: each type may stand for itself, and that what may stand for one that may stand for a third may stand for that (the card of the second form).
-/
import Derived.Test.YtbjgepnkakcjaaaDoorQ7
import Derived.Test.YtbjgepnkakcjaaaDoorCards
import Derived.Test.YtbjgepnkakcjaaaDoorTie
import Derived.WalkKit
import Derived.ProofKit
import Derived.OpenShut
import Derived.Deep.DeepHandedRow
import Derived.Lib.LaidTab
namespace Go.Proofs.YtbjgepnkakcjaaaDoor.BKindOrder
open Go.ChangeShapes Go.WideShapes Go.ChangeAt Go.RowKit Go.Proofs.YtbjgepnkakcjaaaDoor.Lift
set_option maxRecDepth 100000

theorem own : ownKnob Tryd.prog.godebug = none := by kernel_rfl
/-- no slice's elements are of no size -/
theorem noNull : NoNull Tryd.prog := by unfold NoNull; kernel_rfl

theorem contract (H : Type) (enc : TypeId × Value → H) (W : World) (base : Nat) (args : Array Value) (ds gs : List (DataW H)) (before : List MemPlace)
    (hval : ∀ (j : Nat) t v, Tryd.f8.params[j]? = some t → args[j]? = some v → Value.okWide Tryd.prog W .any base t v)
    (hW : DataW.Whole enc Tryd.prog Tryd.f8.params.toList Rows.kindOrderSpec.vars false W args.toList ds gs before)
    (hcond : Rows.uptoBulkAll (ds ++ gs) ≤ 1048576) :
    Calls Tryd.prog 8 args W fun e W' => ∃ v, e = .returned v ∧ Rows.kindOrderSpec.post enc Tryd.prog Tryd.f8 false true false false W args v W' := by
  have hW' := hW
  obtain ⟨p, q, hA0, hV, rfl, hfz, hnd⟩ := hW
  have hA : DataW.TrodAll enc Tryd.prog W 0 (fun _ => true) true Tryd.f8.params.toList args.toList ds p := hA0
  rw [Tryd.params8] at hA hval
  obtain ⟨v0, vs0, d0, ds0, p0, q0, hargs, rfl, rfl, h0, r0⟩ := trodAll_cons hA
  obtain ⟨v1, vs1, d1, ds1, p1, q1, rfl, rfl, rfl, h1, r1⟩ := trodAll_cons r0
  obtain ⟨v2, vs2, d2, ds2, p2, q2, rfl, rfl, rfl, h2, r2⟩ := trodAll_cons r1
  obtain ⟨v3, vs3, d3, ds3, p3, q3, rfl, rfl, rfl, h3, r3⟩ := trodAll_cons r2
  obtain ⟨rfl, rfl, rfl⟩ := trodAll_nil r3
  obtain ⟨rfl, rfl⟩ := trodVars_none hV
  obtain ⟨n0, hn0⟩ := h0
  obtain ⟨a0, ha0, hz0⟩ := rd_Pairs.read hn0
  have t0 := rd_Pairs.top (hval 0 _ v0 rfl (by rw [← Array.getElem?_toList, hargs]; rfl)) ha0
  obtain ⟨n1, hn1⟩ := h1
  obtain ⟨a1, ha1, hz1⟩ := rd_Ty.read hn1
  have t1 := rd_Ty.top (hval 1 _ v1 rfl (by rw [← Array.getElem?_toList, hargs]; rfl)) ha1
  obtain ⟨n2, hn2⟩ := h2
  obtain ⟨a2, ha2, hz2⟩ := rd_Ty.read hn2
  have t2 := rd_Ty.top (hval 2 _ v2 rfl (by rw [← Array.getElem?_toList, hargs]; rfl)) ha2
  obtain ⟨n3, hn3⟩ := h3
  obtain ⟨a3, ha3, hz3⟩ := rd_Ty.read hn3
  have t3 := rd_Ty.top (hval 3 _ v3 rfl (by rw [← Array.getElem?_toList, hargs]; rfl)) ha3
  have hrep := (RepL.cons t0 (RepL.cons t1 (RepL.cons t2 (RepL.cons t3 (RepL.nil)))) : RepL (startG W) _ [v0, v1, v2, v3])
  rw [← hargs] at hrep
  simp only [List.append_nil, Rows.uptoBulkAll] at hcond
  simp only at hz0
  simp only at hz1
  simp only at hz2
  simp only at hz3
  exact post_true noNull p_KindOrder Tryd.func8 rfl rfl Tryd.underlying4 (by kernel_rfl) rfl (of_decide_eq_true (by kernel_rfl)) hW' rfl hrep (by simp only [fn4_eq, Cod.de, Option.bind_some]; rw [if_pos (show a0.length < 1099511627776 ∧ a1.name.length < 1099511600000 ∧ a2.name.length < 1099511600000 ∧ a3.name.length < 1099511600000 by have := zL_len zPair_pos a0; unfold zTy at hz1 hz2 hz3; exact ⟨by omega, by omega, by omega, by omega⟩)]; rfl)

/-- a block's cells, laid -/
def layBlock (vs : List Value) : Obj → Obj
  | .cells _ t frozen => .cells vs.toArray t frozen
  | o => o
/-- a world for the witness -/
noncomputable def laidWorld (os : Os) : World :=
  { World.holding Tryd.prog os ⟨#[], #[], []⟩ with
    heap := ((World.holding Tryd.prog os ⟨#[], #[], []⟩).heap.modify 1 (layBlock (Go.Pinned.utf8FirstZ.map fun (n : Nat) => Value.int .u8 (n : Int)))).modify 2
      (layBlock (([128, 191, 160, 191, 128, 159, 144, 191, 128, 143, 0, 0, 0, 0, 0, 0, 0, 0, 0, 0, 0, 0, 0, 0, 0, 0, 0, 0, 0, 0, 0, 0] : List Int).map fun n => Value.int .u8 n)) }
/-- the witness: nothing -/
def wArgs : Array Value := #[.slice none 0 0, .agg #[.int .i64 0, .string ⟨#[]⟩], .agg #[.int .i64 0, .string ⟨#[]⟩], .agg #[.int .i64 0, .string ⟨#[]⟩]]
theorem laid_met (os : Os) : laidMet Tryd.prog Rows.kindOrderUptoRow.laid ((laidWorld os).forCall (fun _ _ => 0) ⟨#[], wArgs, []⟩).memory :=
  laidMet_of_run' 8 (by kernel_rfl) (by kernel_rfl)
theorem reads (os : Os) {H : Type} (enc : TypeId × Value → H) : ∃ places, DataW.whole enc Tryd.prog ((laidWorld os).forCall (fun _ _ => 0) ⟨#[], wArgs, []⟩).memory Tryd.f8.params.toList Rows.kindOrderSpec.vars false wArgs.toList 8 = some ([.nil, .agg [.lit (.int .i64 0), .lit (.string [])], .agg [.lit (.int .i64 0), .lit (.string [])], .agg [.lit (.int .i64 0), .lit (.string [])]], [], places) :=
  ⟨[], by kernel_rfl⟩

theorem lifted (os : Os) (started : os.Started) (H : Type) (enc : TypeId × Value → H) (F : Stop.Interp) :
    ReturnsInHanded {} Tryd.checked os 8 .any ((Rows.OpenSpec.upto Rows.kindOrderSpec).preRow enc Tryd.prog Tryd.f8 Rows.kindOrderUptoRow.domain false Rows.kindOrderUptoRow.laid) (((Rows.OpenSpec.upto Rows.kindOrderSpec).at F).post enc Tryd.prog Tryd.f8 false true false false) := by
  obtain ⟨places, hx⟩ := reads os enc
  refine returnsInHanded_of_row (C := Tryd.checked) (s := Rows.OpenSpec.upto Rows.kindOrderSpec) own started (by kernel_rfl) Tryd.func8
    (witness_row_at (enc := enc) (C := Tryd.checked) false (laidWorld os) wArgs rfl (by kernel_rfl) (by kernel_rfl) (by kernel_rfl)
      (OpenSpec.preRow_of_cond 8 hx (by kernel_rfl) (fun k hk => by cases hk; kernel_rfl) (by kernel_rfl) (laid_met os))) ?_
  intro W base args ds gs before hval hW h3 h4 h5 hL h6 h7
  exact contract H enc W base args ds gs before hval hW (of_decide_eq_true (h4 _ rfl))

theorem said : Rows.KindOrderUptoSaid :=
  OpenClaim.holds_of_cond 8 Tryd.f8 rfl rfl rfl rfl rfl rfl rfl ⟨rfl, rfl, rfl, rfl, rfl⟩ rfl rfl rfl rfl rfl (by kernel_rfl) Tryd.func8 (by kernel_rfl)
    (of_decide_eq_true (by kernel_rfl)) (by unfold Func.isWrapper; first | (rw [if_pos (by decide +kernel)]; kernel_rfl) | (rw [if_neg (by decide +kernel)]; exact ⟨rfl, rfl⟩))
    (fun os started H enc _ F => by rw [OpenClaim.pre_eq_preRow]; exact lifted os started H enc F)

theorem plain (f : FuncId) (fn : Func) (hf : Tryd.pinned.checked.prog.funcNamed "larch/larchlaw10.KindOrder" = some f) (hfn : Tryd.pinned.checked.prog.funcs[f]? = some fn) :
    false = Tryd.pinned.checked.prog.looks [] ∧ ∀ (j : Nat) t, fn.params[j]? = some t → Tryd.pinned.checked.prog.wantsStandIn t = false := by
  obtain rfl : f = 8 := Option.some.inj ((show Tryd.prog.funcNamed "larch/larchlaw10.KindOrder" = some 8 by kernel_rfl).symm.trans hf) |>.symm
  obtain rfl : fn = Tryd.f8 := (Option.some.inj (Tryd.func8.symm.trans hfn)).symm
  refine ⟨by kernel_rfl, fun j t ht => ?_⟩
  rw [Tryd.params8] at ht
  have hall : ∀ t ∈ ([42, 23] : List TypeId), Tryd.prog.wantsStandIn t = false := by
    intro t ht
    have h : ([42, 23] : List TypeId).all (fun t => !Tryd.prog.wantsStandIn t) = true := by kernel_rfl
    simpa using List.all_eq_true.1 h t ht
  exact hall t (by have := Array.mem_of_getElem? ht; simp at this ⊢; omega)

/-- THE CARD -/
theorem card : Rows.KindOrderUptoCardSaid :=
  Claim7.holds_tied_plain_at .later [] _ _ _ _ said (fun _ h => by cases h) (by kernel_rfl) (fun _ h => by cases h) kindOrderUpto_row_tie rfl ⟨rfl, rfl⟩ (by kernel_rfl) rfl plain (by kernel_rfl)
end Go.Proofs.YtbjgepnkakcjaaaDoor.BKindOrder
