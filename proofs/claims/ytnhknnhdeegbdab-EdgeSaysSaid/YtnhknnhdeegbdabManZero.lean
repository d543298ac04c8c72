/- a new document's machine: 1180 zeros, kept shut -/
import Derived.Test.YtnhknnhdeegbdabAgree
namespace Go.Proofs.Ytnhknnhdeegbdab
open Go.RowKit Go.ChangeMaps

noncomputable def manZeroV : Value := match Try.prog.info? 51 with
  | some i => i.zero.getD undef
  | none => undef
noncomputable def manZeroC : Array Value := manZeroV.cells
theorem manZero_size : manZeroC.size = 1180 := by kernel_rfl
noncomputable def manIn : ManS := ⟨0, fun i => manZeroC.toList.getD i undef, fun _ => false, fun _ => 0, fun _ _ => 0⟩
theorem manZero_cells : manZeroC.toList = (List.range 1180).map (manCell manIn) := by kernel_rfl
theorem man_exec (ρ : Operand → Value) (dst : Option Tmp) (ty : TypeId) (pos : String) (after : Array Edge) (guard : Option (Nat × Bool)) (w : World) :
    (execOp ρ ⟨dst, .alloc 51, ty, pos, after, guard⟩).run Try.prog w = .ok (.value (.pointer (some ⟨w.heap.size, 0, none⟩))) (w.alloc (.cells manZeroC 51)) := by kernel_rfl
@[go_sem] theorem zero_man (w : World) : (zeroValue 51).run Try.prog w = .ok (.agg manZeroC) w := by kernel_rfl
noncomputable def manNew (H : Nat) : ManS := ⟨H, manIn.base, fun _ => false, fun _ => 0, fun _ _ => 0⟩
theorem manNew_cell (H : Nat) : manCell (manNew H) = manCell manIn := rfl
theorem man_new (w : World) : ManRep (w.alloc (.cells manZeroC 51)) (manNew w.heap.size) := by
  have h := World.rowIs_alloc w manZeroC 51 (manCell (manNew w.heap.size)) (fun i hi => by
    rw [← Array.getElem?_toList, manZero_cells, List.getElem?_map, List.getElem?_range (by rw [manZero_size] at hi; exact hi), manNew_cell, Option.map_some])
  rw [manZero_size] at h
  exact h
end Go.Proofs.Ytnhknnhdeegbdab
