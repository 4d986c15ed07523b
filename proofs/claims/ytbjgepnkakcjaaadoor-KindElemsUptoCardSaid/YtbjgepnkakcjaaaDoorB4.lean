/-
  larchlaw10.KindElems, for every input of bulk at most 1048576: the elements of an array of a type are that type (the second form's card).
-/
import Derived.Test.YtbjgepnkakcjaaaDoorK12
import Derived.Test.YtbjgepnkakcjaaaDoorLZ
import Derived.Test.YtbjgepnkakcjaaaDoorCards
import Derived.Test.YtbjgepnkakcjaaaDoorTie
import Derived.WalkKit
import Derived.ProofKit
import Derived.OpenShut
import Derived.Deep.DeepHandedRow
import Derived.Lib.LaidTab
namespace Go.Proofs.YtbjgepnkakcjaaaDoor.B4
open Go.ChangeShapes Go.WideShapes Go.ChangeAt Go.RowKit Go.Proofs.YtbjgepnkakcjaaaDoor.Lift
set_option maxRecDepth 100000

theorem own : ownKnob Tryd.prog.godebug = none := by kernel_rfl
/-- no slice's elements are of no size -/
theorem noNull : NoNull Tryd.prog := by unfold NoNull; kernel_rfl

theorem contract (H : Type) (enc : TypeId × Value → H) (W : World) (base : Nat) (args : Array Value) (ds gs : List (DataW H)) (before : List MemPlace)
    (hval : ∀ (j : Nat) t v, Tryd.f6.params[j]? = some t → args[j]? = some v → Value.okWide Tryd.prog W .any base t v)
    (hW : DataW.Whole enc Tryd.prog Tryd.f6.params.toList Rows.kindElemsSpec.vars false W args.toList ds gs before)
    (hcond : Rows.uptoBulkAll (ds ++ gs) ≤ 1048576) :
    Calls Tryd.prog 6 args W fun e W' => ∃ v, e = .returned v ∧ Rows.kindElemsSpec.post enc Tryd.prog Tryd.f6 false true false false W args v W' := by
  have hW' := hW
  obtain ⟨p, q, hA0, hV, rfl, hfz, hnd⟩ := hW
  have hA : DataW.TrodAll enc Tryd.prog W 0 (fun _ => true) true Tryd.f6.params.toList args.toList ds p := hA0
  rw [Tryd.params6] at hA hval
  obtain ⟨v1, vs1, d1, ds1, p1, q1, hargs, rfl, rfl, h1, r1⟩ := trodAll_cons hA
  obtain ⟨rfl, rfl, rfl⟩ := trodAll_nil r1
  obtain ⟨rfl, rfl⟩ := trodVars_none hV
  obtain ⟨c1, rfl, hsz⟩ := okWide_struct Tryd.underlying23 (hval 0 _ v1 rfl (by rw [← Array.getElem?_toList, hargs]; rfl))
  obtain ⟨n1, hn1⟩ := h1
  obtain ⟨xs, m, rfl, hx, hl, hxl, hfs⟩ := DataW.trod_struct Tryd.underlying23 hn1
  have hc2 : Tryd.prog.cellsOf 23 = 2 := by kernel_rfl
  have hci : Tryd.prog.cellsOf 3 = 1 := by kernel_rfl
  have hcs : Tryd.prog.cellsOf 9 = 1 := by kernel_rfl
  obtain ⟨a, b, hab⟩ : ∃ a b, c1.toList = [a, b] := by
    have : c1.toList.length = 2 := by rw [Array.length_toList, hsz, hc2]
    match hq : c1.toList, this with
    | [a, b], _ => exact ⟨a, b, rfl⟩
  have hcells : (Value.agg c1).cells.toList = [a, b] := hab
  have f0 := hfs 0 _ rfl
  have f1 := hfs 1 _ rfl
  have hx0 : xs[0]? = some (xs[0]'(by rw [hxl]; decide)) := by simp
  have hx1 : xs[1]? = some (xs[1]'(by rw [hxl]; decide)) := by simp
  rw [hx0] at f0
  rw [hx1] at f1
  obtain ⟨k, h2, _⟩ := DataW.trod_int Tryd.underlying3 f0
  obtain ⟨nm, h3, h3x, _⟩ := DataW.trod_string Tryd.underlying9 f1
  have h2' : a = .int .i64 k := by
    have := h2
    rw [hcells] at this
    simpa [hci] using this
  have h3' : b = .string nm := by
    have := h3
    rw [hcells] at this
    simpa [hcs] using this
  subst h2' h3'
  have hrep : RepL (startG W) [encTy ⟨k, nm.data.toList⟩] args.toList := by
    rw [hargs]
    refine .cons (.agg ?_) .nil
    rw [hab]
    exact .cons (.int _ _) (.cons (.str _) .nil)
  have hnm : nm.data.toList.length < 1099511600000 := by
    have hd : d1 = .agg (xs.map (·.1)) := congrArg Prod.fst hx
    have hmem : DataW.lit (Lit.string nm.data.toList) ∈ xs.map (·.1) := List.mem_map.2 ⟨_, List.getElem_mem (by rw [hxl]; decide : 1 < xs.length), by rw [h3x]⟩
    have key : ∀ (l : List (DataW H)) (d : DataW H), d ∈ l → Rows.uptoBulk d ≤ Rows.uptoBulkAll l := by
      intro l
      induction l with
      | nil => intro d h; cases h
      | cons a l ih =>
        intro d h
        simp only [Rows.uptoBulkAll]
        rcases List.mem_cons.1 h with rfl | h
        · omega
        · have := ih d h; omega
    have h5 := key _ _ hmem
    rw [hd] at hcond
    simp only [List.append_nil, Rows.uptoBulkAll, Rows.uptoBulk] at hcond h5
    omega
  exact post_true noNull p_KindElems Tryd.func6 rfl rfl Tryd.underlying4 (by kernel_rfl) rfl (of_decide_eq_true (by kernel_rfl)) hW' rfl hrep (by rw [show encTy ⟨k, nm.data.toList⟩ = cTy.enc ⟨k, nm.data.toList⟩ from rfl, fn1_eq, cTy.de]; simp only [Option.bind_some, if_pos hnm]; rfl)

/-- a block's cells, laid -/
def layBlock (vs : List Value) : Obj → Obj
  | .cells _ t frozen => .cells vs.toArray t frozen
  | o => o
/-- a world for the witness -/
noncomputable def laidWorld (os : Os) : World :=
  { World.holding Tryd.prog os ⟨#[], #[], []⟩ with
    heap := ((World.holding Tryd.prog os ⟨#[], #[], []⟩).heap.modify 1 (layBlock (Go.Pinned.utf8FirstZ.map fun (n : Nat) => Value.int .u8 (n : Int)))).modify 2
      (layBlock (([128, 191, 160, 191, 128, 159, 144, 191, 128, 143, 0, 0, 0, 0, 0, 0, 0, 0, 0, 0, 0, 0, 0, 0, 0, 0, 0, 0, 0, 0, 0, 0] : List Int).map fun n => Value.int .u8 n)) }
/-- the witness: an empty text, and the type of nothing -/
def wArgs : Array Value := #[.agg #[.int .i64 0, .string ⟨#[]⟩]]
theorem laid_met (os : Os) : laidMet Tryd.prog Rows.kindElemsUptoRow.laid ((laidWorld os).forCall (fun _ _ => 0) ⟨#[], wArgs, []⟩).memory :=
  laidMet_of_run' 8 (by kernel_rfl) (by kernel_rfl)
theorem reads (os : Os) {H : Type} (enc : TypeId × Value → H) : ∃ places, DataW.whole enc Tryd.prog ((laidWorld os).forCall (fun _ _ => 0) ⟨#[], wArgs, []⟩).memory Tryd.f6.params.toList Rows.kindElemsSpec.vars false wArgs.toList 8 = some ([.agg [.lit (.int .i64 0), .lit (.string [])]], [], places) :=
  ⟨[], by kernel_rfl⟩

theorem lifted (os : Os) (started : os.Started) (H : Type) (enc : TypeId × Value → H) (F : Stop.Interp) :
    ReturnsInHanded {} Tryd.checked os 6 .any ((Rows.OpenSpec.upto Rows.kindElemsSpec).preRow enc Tryd.prog Tryd.f6 Rows.kindElemsUptoRow.domain false Rows.kindElemsUptoRow.laid) (((Rows.OpenSpec.upto Rows.kindElemsSpec).at F).post enc Tryd.prog Tryd.f6 false true false false) := by
  obtain ⟨places, hx⟩ := reads os enc
  refine returnsInHanded_of_row (C := Tryd.checked) (s := Rows.OpenSpec.upto Rows.kindElemsSpec) own started (by kernel_rfl) Tryd.func6
    (witness_row_at (enc := enc) (C := Tryd.checked) false (laidWorld os) wArgs rfl (by kernel_rfl) (by kernel_rfl) (by kernel_rfl)
      (OpenSpec.preRow_of_cond 8 hx (by kernel_rfl) (fun k hk => by cases hk; kernel_rfl) (by kernel_rfl) (laid_met os))) ?_
  intro W base args ds gs before hval hW h3 h4 h5 hL h6 h7
  exact contract H enc W base args ds gs before hval hW (of_decide_eq_true (h4 _ rfl))

theorem said : Rows.KindElemsUptoSaid :=
  OpenClaim.holds_of_cond 6 Tryd.f6 rfl rfl rfl rfl rfl rfl rfl ⟨rfl, rfl, rfl, rfl, rfl⟩ rfl rfl rfl rfl rfl (by kernel_rfl) Tryd.func6 (by kernel_rfl)
    (of_decide_eq_true (by kernel_rfl)) (by unfold Func.isWrapper; first | (rw [if_pos (by decide +kernel)]; kernel_rfl) | (rw [if_neg (by decide +kernel)]; exact ⟨rfl, rfl⟩))
    (fun os started H enc _ F => by rw [OpenClaim.pre_eq_preRow]; exact lifted os started H enc F)

theorem plain (f : FuncId) (fn : Func) (hf : Tryd.pinned.checked.prog.funcNamed "larch/larchlaw10.KindElems" = some f) (hfn : Tryd.pinned.checked.prog.funcs[f]? = some fn) :
    false = Tryd.pinned.checked.prog.looks [] ∧ ∀ (j : Nat) t, fn.params[j]? = some t → Tryd.pinned.checked.prog.wantsStandIn t = false := by
  obtain rfl : f = 6 := Option.some.inj ((show Tryd.prog.funcNamed "larch/larchlaw10.KindElems" = some 6 by kernel_rfl).symm.trans hf) |>.symm
  obtain rfl : fn = Tryd.f6 := (Option.some.inj (Tryd.func6.symm.trans hfn)).symm
  refine ⟨by kernel_rfl, fun j t ht => ?_⟩
  rw [Tryd.params6] at ht
  obtain rfl : t = 23 := by simpa using Array.mem_of_getElem? ht
  exact (show Tryd.prog.wantsStandIn 23 = false by kernel_rfl)

/-- THE CARD -/
theorem card : Rows.KindElemsUptoCardSaid :=
  Claim7.holds_tied_plain_at .later [] _ _ _ _ said (fun _ h => by cases h) (by kernel_rfl) (fun _ h => by cases h) kindElemsUpto_row_tie rfl ⟨rfl, rfl⟩ (by kernel_rfl) rfl plain (by kernel_rfl)
end Go.Proofs.YtbjgepnkakcjaaaDoor.B4
