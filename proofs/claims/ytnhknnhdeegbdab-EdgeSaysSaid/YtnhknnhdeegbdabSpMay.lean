/- may. -/
import Derived.Test.YtnhknnhdeegbdabSpSpan
namespace Go.Proofs.Ytnhknnhdeegbdab
open Go.RowKit Go.ChangeMaps

def okE (want : Int) : Option (Nat × Int) → Bool
  | none => false
  | some x => bits BinOp.and IntKind.i64 x.2 want == want
def mayAll (en : Int → Option (Nat × Int)) (want : Int) (lo : Int) (c : Nat) : Bool := (List.range c).all fun j => okE want (en (lo + j))
theorem mayAll_succ (en : Int → Option (Nat × Int)) (want : Int) (lo : Int) (c : Nat) : mayAll en want lo (c + 1) = (mayAll en want lo c && okE want (en (lo + c))) := by
  simp [mayAll, List.range_succ, List.all_append]
theorem mayAll_false (en : Int → Option (Nat × Int)) (want : Int) (lo : Int) (c d : Nat) (hd : d < c) (h : okE want (en (lo + d)) = false) : mayAll en want lo c = false := by
  rw [mayAll, List.all_eq_false]
  exact ⟨d, by simpa using hd, by simp [h]⟩
def mayB (en : Int → Option (Nat × Int)) (addr n want : Int) : Bool :=
  n == 0 || (decide (0 ≤ addr) && decide (addr ≤ 1024 - n) && mayAll en want (addr / 16) ((addr + n - 1) / 16 + 1 - addr / 16).toNat)

section
variable {w : World} {s : Mem}

set_option maxHeartbeats 1000000 in
set_option maxRecDepth 100000 in
theorem may_loop (R : Rep w s) (sn addr n want : Int) (hw : (Lit.int .i64 sn).wf = true) {X : Nat} (h : s.sp sn = some X) (h1 : 0 ≤ addr) (h2 : 1 ≤ n) (h3 : addr ≤ 1024 - n) (h4 : n ≤ 1024) :
    Calls Try.prog 26 #[.pointer (some ⟨s.M, 0, none⟩), .int .i64 sn, .int .i64 addr, .int .i64 n, .int .i64 want] w fun e w' => e = .returned (.bool (mayAll (s.en X) want (addr / 16) ((addr + n - 1) / 16 + 1 - addr / 16).toNat)) ∧ Upd (fun _ => False) w w' := by
  go_enter Try.func26, Try.ntmps26
  have HR := Lib.hid R
  clear R
  have hq : (n == 0) = false := by simp; omega
  go_wp2
  go_loopw [11] (fun i wr => ∃ k : Nat, i = .int .i64 k ∧ addr / 16 ≤ k ∧ k ≤ (addr + n - 1) / 16 + 1 ∧ mayAll (s.en X) want (addr / 16) (k - addr / 16).toNat = true ∧ Upd (fun _ => False) w wr) (fun i _ => (80 - (intOf i)).toNat)
  case atStart =>
    obtain ⟨k, hk⟩ := Int.eq_ofNat_of_zero_le (show 0 ≤ addr / 16 by omega)
    refine ⟨k, by rw [hk], by omega, by omega, ?_, Upd.refl _ _⟩
    rw [show ((k : Int) - addr / 16).toNat = 0 by omega]
    rfl
  case round =>
    obtain ⟨k, rfl, hk1, hk2, hm, hU⟩ := hrel
    have R1 := HR.out.upd hU (fun _ _ h => h)
    have c4 := R1.c4
    have L := R1.lookS_some hw h
    have HM := Lib.hid hm; clear hm
    have HU := Lib.hid hU; clear hU
    have HR1 := Lib.hid R1; clear R1
    have hs := mayAll_succ (s.en X) want (addr / 16) (k - addr / 16).toNat
    rw [show addr / 16 + (((k : Int) - addr / 16).toNat : Int) = k by omega, show ((k : Int) - addr / 16).toNat + 1 = (k + 1 - addr / 16).toNat by omega] at hs
    have HS := Lib.hid hs; clear hs
    by_cases hlt : (k : Int) ≤ (addr + n - 1) / 16
    · cases hx : s.en X k with
      | none =>
        have L2 := HR1.out.lookE_none (wfI (n := (k : Int)) (by omega)) h hx true
        rw [if_pos rfl] at L2
        have HF : Hid (mayAll (s.en X) want (addr / 16) ((addr + n - 1) / 16 + 1 - addr / 16).toNat = false) := mayAll_false _ _ _ _ ((k : Int) - addr / 16).toNat (by omega) (by rw [show addr / 16 + (((k : Int) - addr / 16).toNat : Int) = k by omega, hx]; rfl)
        clear hx
        go_wp2
        go_ret
        exact ⟨ret_bool HF.out.symm, HU.out.alloc _⟩
      | some x =>
        have L2 := HR1.out.lookE_some (wfI (n := (k : Int)) (by omega)) h hx true
        rw [if_pos rfl] at L2
        by_cases hb : bits BinOp.and IntKind.i64 x.snd want = want
        · have HF : Hid (okE want (s.en X k) = true) := by rw [hx]; simp [okE, hb, Hid]
          have hb' : (bits BinOp.and IntKind.i64 x.snd want != want) = false := by simp [hb]
          clear hx hb
          go_wp2
          refine ⟨⟨k + 1, by go_num, by omega, by omega, ?_, HU.out.alloc _⟩, by simp [intOf]; omega⟩
          rw [show (((k + 1 : Nat) : Int) - addr / 16).toNat = (k + 1 - addr / 16).toNat by omega, HS.out, HM.out, HF.out]; rfl
        · have HF : Hid (mayAll (s.en X) want (addr / 16) ((addr + n - 1) / 16 + 1 - addr / 16).toNat = false) := mayAll_false _ _ _ _ ((k : Int) - addr / 16).toNat (by omega) (by rw [show addr / 16 + (((k : Int) - addr / 16).toNat : Int) = k by omega, hx]; simp [okE, hb])
          have hb' : (bits BinOp.and IntKind.i64 x.snd want != want) = true := by simp [hb]
          clear hx hb
          go_wp2
          go_ret
          exact ⟨ret_bool HF.out.symm, HU.out.alloc _⟩
    · go_wp2
      go_ret
      refine ⟨ret_bool ?_, HU.out⟩
      rw [show ((addr + n - 1) / 16 + 1 - addr / 16).toNat = ((k : Int) - addr / 16).toNat by omega, HM.out]

theorem mayB_mid {en : Int → Option (Nat × Int)} {addr n want : Int} (h0 : 1 ≤ n) (h1 : 0 ≤ addr) (h2 : addr ≤ 1024 - n) : mayB en addr n want = mayAll en want (addr / 16) ((addr + n - 1) / 16 + 1 - addr / 16).toNat := by
  have : (n == 0) = false := by simp; omega
  simp [mayB, this, h1, h2]

set_option maxRecDepth 100000 in
theorem may_rep (R : Rep w s) (sn addr n want : Int) (hw : (Lit.int .i64 sn).wf = true) {X : Nat} (h : s.sp sn = some X) (h2 : 0 ≤ n) (h4 : n ≤ 1024) :
    Calls Try.prog 26 #[.pointer (some ⟨s.M, 0, none⟩), .int .i64 sn, .int .i64 addr, .int .i64 n, .int .i64 want] w fun e w' => e = .returned (.bool (mayB (s.en X) addr n want)) ∧ Upd (fun _ => False) w w' := by
  by_cases hn : n = 0
  · subst hn
    have HX : Hid (mayB (s.en X) addr 0 want = true) := by simp [mayB, Hid]
    clear h R
    go_enter Try.func26, Try.ntmps26
    go_wp2
    go_ret
    exact ⟨ret_bool HX.out.symm, Upd.refl _ _⟩
  · by_cases ha : 0 ≤ addr ∧ addr ≤ 1024 - n
    · rw [mayB_mid (by omega) ha.1 ha.2]
      exact may_loop R sn addr n want hw h ha.1 (by omega) ha.2 h4
    · have HX : Hid (mayB (s.en X) addr n want = false) := by
        have hq : (n == 0) = false := by simp; omega
        have : (decide (0 ≤ addr) && decide (addr ≤ 1024 - n)) = false := by simp; omega
        simp only [mayB, hq, this, Hid]; rfl
      have hq : (n == 0) = false := by simp; omega
      clear h R
      rcases (show addr < 0 ∨ (0 ≤ addr ∧ 1024 - n < addr) by omega) with h | ⟨h, h'⟩
      all_goals
        clear ha hn
        go_enter Try.func26, Try.ntmps26
        go_wp2
        go_ret
        exact ⟨ret_bool HX.out.symm, Upd.refl _ _⟩
end
end Go.Proofs.Ytnhknnhdeegbdab
