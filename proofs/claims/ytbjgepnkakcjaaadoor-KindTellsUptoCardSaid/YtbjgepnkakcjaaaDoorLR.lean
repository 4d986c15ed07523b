/-
  LIFT, R: how the program's structs are read out of a statement's arguments.
-/
import Derived.Test.YtbjgepnkakcjaaaDoorLY
import Derived.KernelRfl
namespace Go.Proofs.YtbjgepnkakcjaaaDoor.Lift
open Go
set_option maxRecDepth 100000

theorem rd_int : Reads Tryd.prog 3 cInt (fun _ => 1) := reads_int Tryd.underlying3 (by kernel_rfl)
theorem rd_str : Reads Tryd.prog 9 cStr (fun s => s.length + 1) := reads_str Tryd.underlying9 (by kernel_rfl)
theorem rd_bool : Reads Tryd.prog 4 cBool (fun _ => 1) := reads_bool Tryd.underlying4 (by kernel_rfl)

def zTy (x : ATy) : Nat := 1 + (x.name.length + 1) + 1
theorem rd_Ty : Reads Tryd.prog 23 cTy zTy :=
  reads_struct (fun x : Int × Str × Unit => ⟨x.1, x.2.1⟩) zTy Tryd.underlying23
    (readsF_cons rd_int rfl (off' := 1) (by kernel_rfl) (readsF_cons rd_str rfl (by kernel_rfl) readsF_nil)) (fun _ => rfl) (fun _ => by simp [zTy]) (fun _ => rfl) (fun _ => by show 2 = _; kernel_rfl)
theorem rd_Tys : Reads Tryd.prog 27 (cL cTy) (zL zTy) := reads_slice Tryd.underlying27 rd_Ty (by kernel_rfl) (by kernel_rfl)
theorem zTy_pos (x : ATy) : 1 ≤ zTy x := by unfold zTy; omega
end Go.Proofs.YtbjgepnkakcjaaaDoor.Lift
