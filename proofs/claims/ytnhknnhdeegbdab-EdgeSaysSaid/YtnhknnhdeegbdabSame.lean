/- sameCall -/
import Derived.Test.YtnhknnhdeegbdabTake
import Derived.Test.YtnhknnhdeegbdabEqual
namespace Go.Proofs.Ytnhknnhdeegbdab
open Go.RowKit Go.ChangeMaps
section
variable {w : World}

set_option maxHeartbeats 2000000 in
set_option maxRecDepth 100000 in
theorem same_rep (c : CallS) (d1 d2 : Value) (h1 : Bytes w d1 c.data) (h2 : Bytes w d2 c.data) (hb : c.data.length ≤ 1000) :
    Calls Try.prog 12 #[callV c d1, callV c d2] w fun e w' => e = .returned (.bool true) ∧ Upd (fun _ => False) w w' := by
  obtain ⟨num, A, B, C, name, other, data⟩ := c
  have heq : ∀ w', Upd (fun _ => False) w w' → Calls Try.prog 23 #[d1, d2] w' fun e w'' => e = .returned (.bool true) ∧ ∃ q, w'' = w'.drewN q := fun w' u => by
    have := equal_rep (h1.upd u) (h2.upd u) (show data.length ≤ 1000000 from Nat.le_trans hb (by omega))
    rw [show (data == data) = true from by simp] at this
    exact this
  obtain ⟨a1, c1, rfl, _⟩ := h1
  obtain ⟨a2, c2, rfl, _⟩ := h2
  have HQ := Lib.hid heq
  clear heq
  simp only [callV, strOf]
  go_enter Try.func12, Try.ntmps12
  go_wp2_with (go_at_call 23; refine (HQ.out _ (((Upd.refl _ _).alloc _).alloc _)).mono ?_; rintro e w' ⟨rfl, q, rfl⟩)
  go_ret
  exact ⟨rfl, (((Upd.refl _ _).alloc _).alloc _).drewN _⟩
end
end Go.Proofs.Ytnhknnhdeegbdab
