/- texts, signed, Rest -/
import Derived.Test.YtnhknnhdeegbdabLib
namespace Go.Proofs.Ytnhknnhdeegbdab
open Go.RowKit

def textsN (n : Int) : Int :=
  if n = 14 ∨ n = 15 ∨ n = 16 ∨ n = 27 then 2
  else if n = 3 ∨ n = 5 ∨ n = 12 ∨ n = 13 ∨ n = 17 ∨ n = 18 ∨ n = 19 ∨ n = 28 ∨ n = 29 ∨ n = 32 ∨ n = 33 then 1 else 0

set_option maxHeartbeats 1000000 in
theorem texts_rep (n : Int) (w : World) : Calls Try.prog 21 #[.int .i64 n] w fun e w' => e = .returned (.int .i64 (textsN n)) ∧ w = w' := by
  go_enter Try.func21, Try.ntmps21
  go_wp2
  all_goals
    go_ret
    refine ⟨ret_int ?_, rfl⟩
    simp_all [textsN]

def signed32 (x : Int) : Int := if x < 2147483648 then x else x - 4294967296
theorem signed32_wrap {x : Int} (h0 : 0 ≤ x) (h1 : x < 4294967296) : IntKind.i32.wrap x = signed32 x := by
  unfold signed32 IntKind.wrap
  have e : x % (2 ^ IntKind.i32.bits : Int) = x := Int.emod_eq_of_lt h0 h1
  simp only [e]
  by_cases h : x < 2147483648
  · rw [if_neg (by simp [IntKind.bits]; intro _; omega), if_pos h]
  · rw [if_pos (by simp [IntKind.bits, IntKind.signed]; omega), if_neg h]; rfl
theorem signed32_bd {x : Int} (h0 : 0 ≤ x) (h1 : x < 4294967296) : -2147483648 ≤ signed32 x ∧ signed32 x ≤ 2147483647 := by
  unfold signed32; split <;> omega

theorem signed_rep (x : Int) (h0 : 0 ≤ x) (h1 : x < 4294967296) (w : World) : Calls Try.prog 22 #[.int .u32 x] w fun e w' => e = .returned (.int .i64 (signed32 x)) ∧ w = w' := by
  by_cases h : x < 2147483648
  · have HX : Hid (signed32 x = x) := if_pos h
    go_enter Try.func22, Try.ntmps22
    go_wp2
    go_ret
    exact ⟨ret_int HX.out.symm, rfl⟩
  · have HX : Hid (signed32 x = x - 4294967296) := if_neg h
    go_enter Try.func22, Try.ntmps22
    go_wp2
    go_ret
    exact ⟨ret_int HX.out.symm, rfl⟩

/-- the rest of a division by 60, from 0 on -/
theorem rest_rep (n : Int) (h0 : -9223372036854775808 ≤ n) (h1 : n ≤ 9223372036854775807) (w : World) : Calls Try.prog 6 #[.int .i64 n, .int .i64 60] w fun e w' => e = .returned (.int .i64 (n % 60)) ∧ w = w' := by
  have e : n.tmod 60 = if 0 ≤ n then n % 60 else if n % 60 = 0 then 0 else n % 60 - 60 := by
    split
    · exact Int.tmod_eq_emod_of_nonneg (by omega)
    · have := Int.tmod_eq_emod (a := n) (b := 60)
      rw [this]
      split <;> split <;> omega
  have HE := Lib.hid e
  clear e
  have b0 := Int.emod_nonneg n (show (60 : Int) ≠ 0 by omega)
  have b1 := Int.emod_lt_of_pos n (show (0 : Int) < 60 by omega)
  obtain ⟨t, ht⟩ : ∃ t, t = n.tmod 60 := ⟨_, rfl⟩
  have hb2 : -60 < t ∧ t < 60 := by
    rw [ht, HE.out]; split
    · omega
    · split <;> omega
  by_cases hneg : t < 0
  · have HF : Hid (t + 60 = n % 60) := by
      rw [HE.out] at ht
      split at ht
      · first | exact ht | (exfalso; omega)
      · split at ht <;> (unfold Hid; omega)
    have hlt : n.tmod 60 < 0 := by omega
    have h2 : -60 < n.tmod 60 := by omega
    have HT := Lib.hid ht
    clear ht
    go_enter Try.func6, Try.ntmps6
    go_wp2
    go_ret
    refine ⟨ret_int ?_, rfl⟩
    rw [← HF.out, HT.out]
  · have HF : Hid (t = n % 60) := by
      rw [HE.out] at ht
      split at ht
      · first | exact ht | (exfalso; omega)
      · split at ht <;> (unfold Hid; omega)
    have hlt : 0 ≤ n.tmod 60 := by omega
    have h2 : n.tmod 60 < 60 := by omega
    have HT := Lib.hid ht
    clear ht
    go_enter Try.func6, Try.ntmps6
    go_wp2
    go_ret
    refine ⟨ret_int ?_, rfl⟩
    rw [← HF.out, HT.out]
end Go.Proofs.Ytnhknnhdeegbdab
