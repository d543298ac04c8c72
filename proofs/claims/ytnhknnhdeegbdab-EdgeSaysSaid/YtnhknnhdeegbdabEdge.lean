/-
EdgeSays: for arbitrary memory contents and registers, Text, Take and Give of the program return what the reference returns: the law returns true for every input, and its arguments read afterwards as before.
Conditions: none.
-/
import Derived.Test.YtnhknnhdeegbdabLaw
import Derived.Test.YtnhknnhdeegbdabRowKit
namespace Go.Proofs.Ytnhknnhdeegbdab
open Go.ChangeShapes Go.WideShapes Go.ChangeAt Go.RowKit

theorem own : ownKnob Try.prog.godebug = none := by kernel_rfl
theorem laidOut : laidOutB Try.prog = true := by kernel_rfl

set_option maxRecDepth 100000 in
theorem edge_lifted (os : Os) (started : os.Started) (H : Type) (enc : TypeId × Value → H) :
    ReturnsInHanded {} Try.checked os 3 .any (Rows.edgeSaysSpec.pre6 enc Try.prog Try.f3 Rows.edgeSaysRow.domain false) (Rows.edgeSaysSpec.post enc Try.prog Try.f3 false true false false) := by
  refine returnsInHanded_of_change (C := Try.checked) own started (by kernel_rfl) Try.func3
    (ChangeSpec.witness6 (enc := enc) (C := Try.checked) false ⟨#[], #[.slice none 0 0, .int .i64 0, regsV (fun _ => 0) 0 0, ansV ⟨0, 0, 0, .slice none 0 0, fun _ => 0⟩ (.slice none 0 0)], []⟩ 12 (by kernel_rfl) (by kernel_rfl) (by kernel_rfl) (by kernel_rfl)) ?_
  intro W base args ds gs before hval0 hW _ _
  have hval : ∀ (j : Nat) t v, Try.f3.params[j]? = some t → args[j]? = some v → Value.okWide Try.prog W .any base t v := hval0
  have hW' := hW
  obtain ⟨p, q, hA0, hV, rfl, hfz, _⟩ := hW
  have hA : DataW.TrodAll enc Try.prog W 0 (fun _ => true) true Try.f3.params.toList args.toList ds p := hA0
  rw [Try.params3] at hA hval
  obtain ⟨v0, v1, v2, v3, d0, d1, d2, d3, p0, p1, p2, p3, rfl, rfl, rfl, h0, h1, h2, h3⟩ := trodAll_four hA
  obtain ⟨rfl, rfl⟩ := trodVars_none hV
  obtain ⟨x0, y0, z0, rfl⟩ := okWide_slice uB (hval 0 22 v0 rfl rfl)
  obtain ⟨page, rfl, rfl, rfl, wp⟩ := open_int Try.underlying3 (hval 1 3 v1 rfl rfl) h1
  obtain ⟨cs2, rfl, _⟩ := okWide_struct Try.underlying26 (hval 2 26 v2 rfl rfl)
  obtain ⟨cs3, rfl, _⟩ := okWide_struct Try.underlying32 (hval 3 32 v3 rfl rfl)
  obtain ⟨r, pc, ring, e2, hr0, hr1⟩ := open_regs h2 ⟨_, rfl⟩
  obtain ⟨a, da, data, cap, e3, htx, hdl, hdm, hdd⟩ := open_answer h3 ⟨_, rfl⟩
  obtain ⟨n0, h0'⟩ := h0
  obtain ⟨ba, bytes, bcap, e0, hbl, hbm, hdb⟩ := cell_bytes h0'
  rw [e0, e2, e3] at hW' ⊢
  have bp := bounds_i64 wp
  have hm : maxLen ≤ 9223372036854775807 := by decide
  refine (law_walk (w := W) r pc ring a data bytes da ba cap bcap page htx hr0 hr1 hbl hdb hdd hdl (by omega) bp.1 bp.2).mono fun e W' ⟨he, hu⟩ => ?_
  subst he
  exact ⟨_, rfl, post_law laidOut (by kernel_rfl) rfl (tb := 4) (by kernel_rfl) Try.underlying4 hW' ⟨rfl, rfl, rfl⟩ (hu.below fun _ _ h => h)⟩

theorem edge_over : Rows.edgeSaysRow.holds Try.pinned (OpenSpec.ofChange Rows.edgeSaysSpec) :=
  OpenClaim.holds_of_wide 3 Try.f3 rfl rfl rfl rfl rfl rfl rfl ⟨rfl, rfl, rfl, rfl, rfl⟩ rfl rfl rfl rfl rfl (by kernel_rfl) Try.func3 (by kernel_rfl)
    (of_decide_eq_true (by kernel_rfl)) (by unfold Func.isWrapper; first | (rw [if_pos (by decide +kernel)]; kernel_rfl) | (rw [if_neg (by decide +kernel)]; exact ⟨rfl, rfl⟩))
    (fun os started H enc _ => edge_lifted os started H enc)

theorem edgeSays_holds : Rows.EdgeSaysSaid := edge_over
#print axioms edgeSays_holds
end Go.Proofs.Ytnhknnhdeegbdab
