/- (*Man).Text -/
import Derived.Test.YtnhknnhdeegbdabTextS
namespace Go.Proofs.Ytnhknnhdeegbdab
open Go.RowKit Go.ChangeMaps

def manGet (m : ManS) (at_ : Int) (k : Nat) : Option UInt8 := manByte m (addr32 at_ k) 1
def manText (m : ManS) (at_ : Int) : List UInt8 × Int := textR (manGet m at_) 65 0 []

theorem ManRep.upd {w w' : World} {m : ManS} (R : ManRep w m) {F : Nat → Prop} (u : Upd F w w') (h : ¬ F m.H) : ManRep w' m := World.rowIs.of_block R (u.block _ (World.rowIs.lt R) h)

section
variable {w : World} {m : ManS}
set_option maxHeartbeats 1000000 in
set_option maxRecDepth 100000 in
theorem manText_rep (R : ManRep w m) (at_ : Int) :
    Calls Try.prog 9 #[.pointer (some ⟨m.H, 0, none⟩), .int .u32 at_] w fun e w' => e = .returned (.tuple #[strOf (manText m at_).1, .int .i64 (manText m at_).2]) ∧ Upd (fun _ => False) w w' := by
  have HR := Lib.hid R
  clear R
  go_enter Try.func9, Try.ntmps9
  go_wp2
  go_loopw [6, 10] (fun v i wr => ∃ k : Nat, k ≤ 65 ∧ i = .int .u32 k ∧ v = strOf (accOf (manGet m at_) k) ∧ goodTo (manGet m at_) k ∧ Upd (fun _ => False) w wr) (fun _ i _ => (65 - intOf i).toNat)
  case atStart => exact ⟨0, by omega, rfl, rfl, fun j hj => by omega, Upd.refl _ _⟩
  case round =>
    obtain ⟨k, hk, rfl, rfl, hg, hU⟩ := hrel
    have hR := HR.out.upd hU (fun h => h)
    have HG := Lib.hid hg
    have HU := Lib.hid hU
    clear hg hU
    by_cases hlt : k < 65
    · have hby := byte_rep hR (addr32 at_ k) 1
      have hw32 : IntKind.u32.wrap (at_ + k) = addr32 at_ k := by rfl
      have ha0 : 0 ≤ addr32 at_ k := Int.emod_nonneg _ (by omega)
      have ha1 : addr32 at_ k < 4294967296 := Int.emod_lt_of_pos _ (by omega)
      cases hb : manGet m at_ k with
      | none =>
        have HX : Hid (manText m at_ = ([], 11)) := textR_none hlt HG.out hb
        rw [show manByte m (addr32 at_ k) 1 = none from hb] at hby
        have HB := Lib.hid hby
        clear hb hby hR
        go_wp2_with (go_at_call 20; refine HB.out.mono ?_; rintro e w' ⟨rfl, rfl⟩)
        go_ret2
        rw [HX.out]
        exact ⟨rfl, HU.out⟩
      | some b =>
        rw [show manByte m (addr32 at_ k) 1 = some b from hb] at hby
        by_cases hb0 : b = 0
        · subst hb0
          have HX : Hid (manText m at_ = (accOf (manGet m at_) k, 0)) := textR_zero hlt HG.out hb
          have HB := Lib.hid hby
          clear hb hby hR
          go_wp2_with (go_at_call 20; refine HB.out.mono ?_; rintro e w' ⟨rfl, rfl⟩)
          go_ret2
          rw [HX.out]
          exact ⟨rfl, HU.out⟩
        · have hacc : accOf (manGet m at_) (k + 1) = accOf (manGet m at_) k ++ [b] := by rw [accOf_succ, hb]; rfl
          have HAC := Lib.hid hacc
          have HG2 := Lib.hid (goodTo_succ HG.out hb hb0)
          have hbne : ((b.toNat : Int) == 0) = false := by
            rw [beq_eq_false_iff_ne]; intro e; exact hb0 (by apply UInt8.toNat_inj.1; simpa using e)
          have HB := Lib.hid hby
          have hlen := accOf_length (manGet m at_) k
          generalize accOf (manGet m at_) k = acc at *
          have hcat := cat_run acc [b] (by omega) (by simp)
          have HL := Lib.hid hlen
          clear hlen
          clear hb hby hR hacc
          go_wp2_with (go_at_call 20; refine HB.out.mono ?_; rintro e w' ⟨rfl, rfl⟩)
          refine ⟨⟨k + 1, by omega, by go_num, ?_, HG2.out, HU.out.alloc _⟩, by simp [intOf]; omega⟩
          rw [HAC.out]
    · have HE : Hid (k = 65) := (by omega : k = 65)
      have HX : Hid (manText m at_ = ([], 2)) := textR_large (HE.out ▸ HG.out)
      clear hR
      go_wp2_with fail
      go_ret2
      rw [HX.out]
      exact ⟨rfl, HU.out⟩
end
end Go.Proofs.Ytnhknnhdeegbdab
