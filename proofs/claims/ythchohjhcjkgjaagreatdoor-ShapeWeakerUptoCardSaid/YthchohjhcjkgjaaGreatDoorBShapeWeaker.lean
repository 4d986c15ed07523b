/-
  larchlaw11.ShapeWeaker, for every input of bulk at most 1048576: what may be done to a frame may be done to one that may stand for it, and what comes of this may stand for what comes of that (the card of the second form).
-/
import Derived.Test.YthchohjhcjkgjaaGreatDoorQ11
import Derived.Test.YthchohjhcjkgjaaGreatDoorCards
import Derived.Test.YthchohjhcjkgjaaGreatDoorTie
import Derived.WalkKit
import Derived.ProofKit
import Derived.OpenShut
import Derived.Deep.DeepHandedRow
import Derived.Lib.LaidTab
namespace Go.Proofs.YthchohjhcjkgjaaGreatDoor.BShapeWeaker
open Go.ChangeShapes Go.WideShapes Go.ChangeAt Go.RowKit Go.Proofs.YthchohjhcjkgjaaGreatDoor.Lift
set_option maxRecDepth 100000

theorem own : ownKnob Tryz.prog.godebug = none := by kernel_rfl
/-- no slice's elements are of no size -/
theorem noNull : NoNull Tryz.prog := by unfold NoNull; kernel_rfl

theorem contract (H : Type) (enc : TypeId × Value → H) (W : World) (base : Nat) (args : Array Value) (ds gs : List (DataW H)) (before : List MemPlace)
    (hval : ∀ (j : Nat) t v, Tryz.f3.params[j]? = some t → args[j]? = some v → Value.okWide Tryz.prog W .any base t v)
    (hW : DataW.Whole enc Tryz.prog Tryz.f3.params.toList Rows.shapeWeakerSpec.vars false W args.toList ds gs before)
    (hcond : Rows.uptoBulkAll (ds ++ gs) ≤ 1048576) :
    Calls Tryz.prog 3 args W fun e W' => ∃ v, e = .returned v ∧ Rows.shapeWeakerSpec.post enc Tryz.prog Tryz.f3 false true false false W args v W' := by
  have hW' := hW
  obtain ⟨p, q, hA0, hV, rfl, hfz, hnd⟩ := hW
  have hA : DataW.TrodAll enc Tryz.prog W 0 (fun _ => true) true Tryz.f3.params.toList args.toList ds p := hA0
  rw [Tryz.params3] at hA hval
  obtain ⟨v0, vs0, d0, ds0, p0, q0, hargs, rfl, rfl, h0, r0⟩ := trodAll_cons hA
  obtain ⟨v1, vs1, d1, ds1, p1, q1, rfl, rfl, rfl, h1, r1⟩ := trodAll_cons r0
  obtain ⟨v2, vs2, d2, ds2, p2, q2, rfl, rfl, rfl, h2, r2⟩ := trodAll_cons r1
  obtain ⟨v3, vs3, d3, ds3, p3, q3, rfl, rfl, rfl, h3, r3⟩ := trodAll_cons r2
  obtain ⟨rfl, rfl, rfl⟩ := trodAll_nil r3
  obtain ⟨rfl, rfl⟩ := trodVars_none hV
  obtain ⟨n0, hn0⟩ := h0
  obtain ⟨a0, ha0, hz0⟩ := rd_Place.read hn0
  have t0 := rd_Place.top (hval 0 _ v0 rfl (by rw [← Array.getElem?_toList, hargs]; rfl)) ha0
  obtain ⟨n1, hn1⟩ := h1
  obtain ⟨a1, ha1, hz1⟩ := rd_Instr.read hn1
  have t1 := rd_Instr.top (hval 1 _ v1 rfl (by rw [← Array.getElem?_toList, hargs]; rfl)) ha1
  obtain ⟨n2, hn2⟩ := h2
  obtain ⟨a2, ha2, hz2⟩ := rd_Frame.read hn2
  have t2 := rd_Frame.top (hval 2 _ v2 rfl (by rw [← Array.getElem?_toList, hargs]; rfl)) ha2
  obtain ⟨n3, hn3⟩ := h3
  obtain ⟨a3, ha3, hz3⟩ := rd_Frame.read hn3
  have t3 := rd_Frame.top (hval 3 _ v3 rfl (by rw [← Array.getElem?_toList, hargs]; rfl)) ha3
  have hrep := (RepL.cons t0 (RepL.cons t1 (RepL.cons t2 (RepL.cons t3 (RepL.nil)))) : RepL (startG W) _ [v0, v1, v2, v3])
  rw [← hargs] at hrep
  simp only [List.append_nil, Rows.uptoBulkAll] at hcond
  simp only at hz0
  simp only at hz1
  simp only at hz2
  simp only at hz3
  exact post_true noNull p_ShapeWeaker Tryz.func3 rfl rfl Tryz.underlying4 (by kernel_rfl) rfl (of_decide_eq_true (by kernel_rfl)) hW' rfl hrep (by simp only [fn4_eq, Cod.de, Option.bind_some]; show (gWeaker a0 a1 a2 a3).map encBool = _; unfold gWeaker; rw [if_pos (by have h0 := zL_len zPair_pos a0.classes; have h1 := zL_len zEntry_pos a0.pool; have e0 : zPlace a0 = zL zPair a0.classes + (zL zEntry a0.pool + (zTy a0.back + 1)) + 1 := rfl; have e1 : zTy a0.back = 1 + (a0.back.name.length + 1) + 1 := rfl; have e2 : zFrame a2 = zL zTy a2.locals + zL zTy a2.stack + 1 := rfl; have e3 : zFrame a3 = zL zTy a3.locals + zL zTy a3.stack + 1 := rfl; exact ⟨by omega, by omega, by omega, fun x hx => by have := zName_mem hx; omega, fun x hx => by have := zName_mem hx; omega, fun x hx => by have := zName_mem hx; omega, fun x hx => by have := zName_mem hx; omega⟩)]; rfl)

/-- a block's cells, laid -/
def layBlock (vs : List Value) : Obj → Obj
  | .cells _ t frozen => .cells vs.toArray t frozen
  | o => o
/-- a world for the witness -/
noncomputable def laidWorld (os : Os) : World :=
  { World.holding Tryz.prog os ⟨#[], #[], []⟩ with
    heap := ((World.holding Tryz.prog os ⟨#[], #[], []⟩).heap.modify 1 (layBlock (Go.Pinned.utf8FirstZ.map fun (n : Nat) => Value.int .u8 (n : Int)))).modify 2
      (layBlock (([128, 191, 160, 191, 128, 159, 144, 191, 128, 143, 0, 0, 0, 0, 0, 0, 0, 0, 0, 0, 0, 0, 0, 0, 0, 0, 0, 0, 0, 0, 0, 0] : List Int).map fun n => Value.int .u8 n)) }
/-- the witness: nothing -/
def wArgs : Array Value := #[.agg #[.slice none 0 0, .slice none 0 0, .int .i64 0, .string ⟨#[]⟩, .int .i64 0], .agg #[.int .i64 0, .int .i64 0, .int .i64 0, .int .i64 0, .slice none 0 0], .agg #[.slice none 0 0, .slice none 0 0], .agg #[.slice none 0 0, .slice none 0 0]]
theorem laid_met (os : Os) : laidMet Tryz.prog Rows.shapeWeakerUptoRow.laid ((laidWorld os).forCall (fun _ _ => 0) ⟨#[], wArgs, []⟩).memory :=
  laidMet_of_run' 8 (by kernel_rfl) (by kernel_rfl)
theorem reads (os : Os) {H : Type} (enc : TypeId × Value → H) : ∃ places, DataW.whole enc Tryz.prog ((laidWorld os).forCall (fun _ _ => 0) ⟨#[], wArgs, []⟩).memory Tryz.f3.params.toList Rows.shapeWeakerSpec.vars false wArgs.toList 8 = some ([.agg [.nil, .nil, .agg [.lit (.int .i64 0), .lit (.string [])], .lit (.int .i64 0)], .agg [.lit (.int .i64 0), .lit (.int .i64 0), .lit (.int .i64 0), .lit (.int .i64 0), .nil], .agg [.nil, .nil], .agg [.nil, .nil]], [], places) :=
  ⟨[], by kernel_rfl⟩

theorem lifted (os : Os) (started : os.Started) (H : Type) (enc : TypeId × Value → H) (F : Stop.Interp) :
    ReturnsInHanded {} Tryz.checked os 3 .any ((Rows.OpenSpec.upto Rows.shapeWeakerSpec).preRow enc Tryz.prog Tryz.f3 Rows.shapeWeakerUptoRow.domain false Rows.shapeWeakerUptoRow.laid) (((Rows.OpenSpec.upto Rows.shapeWeakerSpec).at F).post enc Tryz.prog Tryz.f3 false true false false) := by
  obtain ⟨places, hx⟩ := reads os enc
  refine returnsInHanded_of_row (C := Tryz.checked) (s := Rows.OpenSpec.upto Rows.shapeWeakerSpec) own started (by kernel_rfl) Tryz.func3
    (witness_row_at (enc := enc) (C := Tryz.checked) false (laidWorld os) wArgs rfl (by kernel_rfl) (by kernel_rfl) (by kernel_rfl)
      (OpenSpec.preRow_of_cond 8 hx (by kernel_rfl) (fun k hk => by cases hk; kernel_rfl) (by kernel_rfl) (laid_met os))) ?_
  intro W base args ds gs before hval hW h3 h4 h5 hL h6 h7
  exact contract H enc W base args ds gs before hval hW (of_decide_eq_true (h4 _ rfl))

theorem said : Rows.ShapeWeakerUptoSaid :=
  OpenClaim.holds_of_cond 3 Tryz.f3 rfl rfl rfl rfl rfl rfl rfl ⟨rfl, rfl, rfl, rfl, rfl⟩ rfl rfl rfl rfl rfl (by kernel_rfl) Tryz.func3 (by kernel_rfl)
    (of_decide_eq_true (by kernel_rfl)) (by unfold Func.isWrapper; first | (rw [if_pos (by decide +kernel)]; kernel_rfl) | (rw [if_neg (by decide +kernel)]; exact ⟨rfl, rfl⟩))
    (fun os started H enc _ F => by rw [OpenClaim.pre_eq_preRow]; exact lifted os started H enc F)

theorem plain (f : FuncId) (fn : Func) (hf : Tryz.pinned.checked.prog.funcNamed "larch/larchlaw11.ShapeWeaker" = some f) (hfn : Tryz.pinned.checked.prog.funcs[f]? = some fn) :
    false = Tryz.pinned.checked.prog.looks [] ∧ ∀ (j : Nat) t, fn.params[j]? = some t → Tryz.pinned.checked.prog.wantsStandIn t = false := by
  obtain rfl : f = 3 := Option.some.inj ((show Tryz.prog.funcNamed "larch/larchlaw11.ShapeWeaker" = some 3 by kernel_rfl).symm.trans hf) |>.symm
  obtain rfl : fn = Tryz.f3 := (Option.some.inj (Tryz.func3.symm.trans hfn)).symm
  refine ⟨by kernel_rfl, fun j t ht => ?_⟩
  rw [Tryz.params3] at ht
  have hall : ∀ t ∈ ([27, 30, 33] : List TypeId), Tryz.prog.wantsStandIn t = false := by
    intro t ht
    have h : ([27, 30, 33] : List TypeId).all (fun t => !Tryz.prog.wantsStandIn t) = true := by kernel_rfl
    simpa using List.all_eq_true.1 h t ht
  exact hall t (by have := Array.mem_of_getElem? ht; simp at this ⊢; omega)

/-- THE CARD -/
theorem card : Rows.ShapeWeakerUptoCardSaid :=
  Claim7.holds_tied_plain_at .later [] _ _ _ _ said (fun _ h => by cases h) (by kernel_rfl) (fun _ h => by cases h) shapeWeakerUpto_row_tie rfl ⟨rfl, rfl⟩ (by kernel_rfl) rfl plain (by kernel_rfl)
end Go.Proofs.YthchohjhcjkgjaaGreatDoor.BShapeWeaker
