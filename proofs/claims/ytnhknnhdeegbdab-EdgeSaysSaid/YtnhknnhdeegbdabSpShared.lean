/- shared. -/
import Derived.Test.YtnhknnhdeegbdabSpRead
namespace Go.Proofs.Ytnhknnhdeegbdab
open Go.RowKit Go.ChangeMaps

def isShared (s : Mem) (en : Int → Option (Nat × Int)) (k : Int) : Bool :=
  match en k with
  | some x => decide (1 < (s.pg x.1).users)
  | none => false
def sharedN (s : Mem) (en : Int → Option (Nat × Int)) (lo : Int) (c : Nat) : Nat := ((List.range c).filter fun (j : Nat) => isShared s en (lo + (j : Int))).length
theorem sharedN_succ (s : Mem) (en : Int → Option (Nat × Int)) (lo : Int) (c : Nat) : sharedN s en lo (c + 1) = sharedN s en lo c + if isShared s en (lo + c) then 1 else 0 := by
  unfold sharedN
  rw [List.range_succ, List.filter_append]
  by_cases h : isShared s en (lo + c) = true <;> simp [h]
theorem sharedN_le (s : Mem) (en : Int → Option (Nat × Int)) (lo : Int) (c : Nat) : sharedN s en lo c ≤ c := by
  have := List.length_filter_le (fun (j : Nat) => isShared s en (lo + (j : Int))) (List.range c)
  simpa [sharedN] using this
def spanN (addr n : Int) : Nat := ((addr + n - 1) / 16 + 1 - addr / 16).toNat
def Mem.sharedIn (s : Mem) (en : Int → Option (Nat × Int)) (addr n : Int) : Nat := if 0 < n then sharedN s en (addr / 16) (spanN addr n) else 0

section
variable {w : World} {s : Mem}

set_option maxHeartbeats 1000000 in
set_option maxRecDepth 100000 in
theorem shared_rep (R : Rep w s) (E : s.EnOk) (sn addr n : Int) (hw : (Lit.int .i64 sn).wf = true) {X : Nat} (h : s.sp sn = some X) (h1 : 0 ≤ addr) (h2 : 1 ≤ n) (h3 : addr + n ≤ 1024) (hen : ∀ j, addr ≤ j → j < addr + n → ∃ x, s.en X (j / 16) = some x) :
    Calls Try.prog 32 #[.pointer (some ⟨s.M, 0, none⟩), .int .i64 sn, .int .i64 addr, .int .i64 n] w fun e w' => e = .returned (.int .i64 (s.sharedIn (s.en X) addr n)) ∧ w' = w := by
  have c4 := R.c4
  have L := R.lookS_some hw h
  have HX : Hid (s.sharedIn (s.en X) addr n = sharedN s (s.en X) (addr / 16) (spanN addr n)) := if_pos (by omega)
  have HEN := Lib.hid hen; clear hen
  have HSp : Hid (spanN addr n = ((addr + n - 1) / 16 + 1 - addr / 16).toNat) := rfl
  have HR := Lib.hid R
  clear R
  go_enter Try.func32, Try.ntmps32
  go_wp2
  go_loop [9, 10] (fun c i => ∃ k : Nat, i = .int .i64 k ∧ addr / 16 ≤ k ∧ k ≤ (addr + n - 1) / 16 + 1 ∧ c = .int .i64 (sharedN s (s.en X) (addr / 16) (k - addr / 16).toNat)) (fun _ i => (80 - (intOf i)).toNat)
  case atStart =>
    obtain ⟨k, hk⟩ := Int.eq_ofNat_of_zero_le (show 0 ≤ addr / 16 by omega)
    refine ⟨k, by rw [hk], by omega, by omega, ?_⟩
    rw [show ((k : Int) - addr / 16).toNat = 0 by omega]
    simp [sharedN]
  case round =>
    obtain ⟨k, rfl, hk1, hk2, rfl⟩ := hrel
    have hle := sharedN_le s (s.en X) (addr / 16) (k - addr / 16).toNat
    have hs := sharedN_succ s (s.en X) (addr / 16) (k - addr / 16).toNat
    rw [show addr / 16 + (((k : Int) - addr / 16).toNat : Int) = k by omega, show ((k : Int) - addr / 16).toNat + 1 = (k + 1 - addr / 16).toNat by omega] at hs
    have hle2 : (sharedN s (s.en X) (addr / 16) (k - addr / 16).toNat : Int) ≤ 1000 := by omega
    have hle0 : 0 ≤ (sharedN s (s.en X) (addr / 16) (k - addr / 16).toNat : Int) := by omega
    have HS := Lib.hid hs; clear hs hle
    by_cases hlt : (k : Int) ≤ (addr + n - 1) / 16
    · obtain ⟨x, hx⟩ := HEN.out (max addr (16 * k)) (by omega) (by omega)
      rw [show max addr (16 * (k : Int)) / 16 = k by omega] at hx
      have L2 := HR.out.lookE_some (k := (k : Int)) (wfI (by omega)) h hx false
      rw [if_neg (by simp)] at L2
      have hpx := E sn X _ x h hx
      have p16 := HR.out.p16 hpx
      by_cases hu : 1 < (s.pg x.1).users
      · have HF : Hid (isShared s (s.en X) k = true) := by simp [isShared, hx, hu, Hid]
        clear hx
        go_wp2
        refine ⟨⟨k + 1, by go_num, by omega, by omega, ?_⟩, by simp [intOf]; omega⟩
        rw [show (((k + 1 : Nat) : Int) - addr / 16).toNat = (k + 1 - addr / 16).toNat by omega, HS.out, HF.out]; simp
      · have HF : Hid (isShared s (s.en X) k = false) := by simp [isShared, hx, Hid]; omega
        clear hx
        go_wp2
        refine ⟨⟨k + 1, by go_num, by omega, by omega, ?_⟩, by simp [intOf]; omega⟩
        rw [show (((k + 1 : Nat) : Int) - addr / 16).toNat = (k + 1 - addr / 16).toNat by omega, HS.out, HF.out]; simp
    · go_wp2
      go_ret
      refine ⟨ret_int ?_, rfl⟩
      rw [HX.out, HSp.out, show ((addr + n - 1) / 16 + 1 - addr / 16).toNat = ((k : Int) - addr / 16).toNat by omega]

set_option maxRecDepth 100000 in
theorem shared_zero (M : Nat) (sn addr : Int) (h0 : -9223372036854775808 ≤ addr) (h1 : addr ≤ 9223372036854775807) :
    Calls Try.prog 32 #[.pointer (some ⟨M, 0, none⟩), .int .i64 sn, .int .i64 addr, .int .i64 0] w fun e w' => e = .returned (.int .i64 0) ∧ w' = w := by
  go_enter Try.func32, Try.ntmps32
  go_wp2
  refine wp_loop_rounds 1 ?_
  rw [rounds_succ]
  go_wp2
  go_ret
  exact ⟨rfl, rfl⟩
end
end Go.Proofs.Ytnhknnhdeegbdab
