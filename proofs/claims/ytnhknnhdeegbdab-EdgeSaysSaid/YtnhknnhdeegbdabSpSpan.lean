/- span, may, shared: what only reads. -/
import Derived.Test.YtnhknnhdeegbdabSpAsk
import Derived.Laws.Cover3
namespace Go.Proofs.Ytnhknnhdeegbdab
open Go.RowKit Go.ChangeMaps

theorem uS : Try.prog.underlying 67 = some (.map 3 71) := by kernel_rfl
theorem uX : Try.prog.underlying 71 = some (.map 3 75) := by kernel_rfl
theorem uI : Try.prog.underlying 3 = some (.int .i64) := by kernel_rfl
theorem zX (w : World) : (zeroValue 71).run Try.prog w = .ok (.map none) w := by kernel_rfl
theorem zE (w : World) : (zeroValue 75).run Try.prog w = .ok (.agg #[.pointer none, .int .i64 0]) w := by kernel_rfl

@[go_sem] theorem eqX (m : Option Nat) (w : World) : (binOp .eql 71 (.map m) (.map none)).run Try.prog w = .ok (.bool m.isNone) w := run_eql_map_nil w _ _ _ m uX
theorem wfI {n : Int} (h : -9223372036854775808 ≤ n ∧ n ≤ 9223372036854775807) : (Lit.int .i64 n).wf = true := WalkArith.wf_i64 h

def Mem.span (s : Mem) (sn first n r : Int) : Int :=
  match s.sp sn with
  | none => 4
  | some _ => if first < 0 ∨ first ≥ 64 ∨ n < 1 ∨ n > 64 - first ∨ r < 0 ∨ r > 7 then 1 else 0

section
variable {w : World} {s : Mem}
theorem Rep.lookS_some (R : Rep w s) {sn : Int} (hw : (Lit.int .i64 sn).wf = true) {X : Nat} (h : s.sp sn = some X) :
    (Instr.lookup 67 (.map (some s.S)) (.int .i64 sn) false).run Try.prog w = .ok (.map (some X)) w := R.spm.look_some uS uI hw (zX w) h
theorem Rep.lookS_none (R : Rep w s) {sn : Int} (hw : (Lit.int .i64 sn).wf = true) (h : s.sp sn = none) :
    (Instr.lookup 67 (.map (some s.S)) (.int .i64 sn) false).run Try.prog w = .ok (.map none) w := R.spm.look_none uS uI hw (zX w) h
theorem Rep.lookE_some (R : Rep w s) {sn k : Int} (hw : (Lit.int .i64 k).wf = true) {X : Nat} (h : s.sp sn = some X) {x : Nat × Int} (hx : s.en X k = some x) (ok : Bool) :
    (Instr.lookup 71 (.map (some X)) (.int .i64 k) ok).run Try.prog w = .ok (if ok then .tuple #[.agg #[.pointer (some ⟨x.1, 0, none⟩), .int .i64 x.2], .bool true] else .agg #[.pointer (some ⟨x.1, 0, none⟩), .int .i64 x.2]) w := by
  rw [(R.enm sn X h).look uX uI hw (zE w) ok, hx]; rfl
theorem Rep.lookE_none (R : Rep w s) {sn k : Int} (hw : (Lit.int .i64 k).wf = true) {X : Nat} (h : s.sp sn = some X) (hx : s.en X k = none) (ok : Bool) :
    (Instr.lookup 71 (.map (some X)) (.int .i64 k) ok).run Try.prog w = .ok (if ok then .tuple #[.agg #[.pointer none, .int .i64 0], .bool false] else .agg #[.pointer none, .int .i64 0]) w := by
  rw [(R.enm sn X h).look uX uI hw (zE w) ok, hx]

set_option maxRecDepth 100000 in
theorem span_rep (R : Rep w s) (sn first n r : Int) (hw : (Lit.int .i64 sn).wf = true) :
    Calls Try.prog 16 #[.pointer (some ⟨s.M, 0, none⟩), .int .i64 sn, .int .i64 first, .int .i64 n, .int .i64 r] w fun e w' => e = .returned (.int .i64 (s.span sn first n r)) ∧ w' = w := by
  have c4 := R.c4
  cases hs : s.sp sn with
  | none =>
    have L := R.lookS_none hw hs
    have HX : Hid (s.span sn first n r = 4) := by simp [Mem.span, hs, Hid]
    clear hs R
    go_enter Try.func16, Try.ntmps16
    go_wp2
    go_ret
    exact ⟨ret_int HX.out.symm, rfl⟩
  | some X =>
    have L := R.lookS_some hw hs
    by_cases hb : first < 0 ∨ first ≥ 64 ∨ n < 1 ∨ n > 64 - first ∨ r < 0 ∨ r > 7
    · have HX : Hid (s.span sn first n r = 1) := by simp only [Mem.span, hs]; exact if_pos hb
      clear hs R
      rcases (show first < 0 ∨ (0 ≤ first ∧ 64 ≤ first) ∨ (0 ≤ first ∧ first < 64 ∧ n < 1) ∨ (0 ≤ first ∧ first < 64 ∧ 1 ≤ n ∧ 64 - first < n) ∨ (0 ≤ first ∧ first < 64 ∧ 1 ≤ n ∧ n ≤ 64 - first ∧ r < 0) ∨ (0 ≤ first ∧ first < 64 ∧ 1 ≤ n ∧ n ≤ 64 - first ∧ 0 ≤ r ∧ 7 < r) by omega) with h | ⟨h1, h⟩ | ⟨h1, h2, h⟩ | ⟨h1, h2, h3, h⟩ | ⟨h1, h2, h3, h4, h⟩ | ⟨h1, h2, h3, h4, h5, h⟩
      all_goals
        clear hb
        go_enter Try.func16, Try.ntmps16
        go_wp2
        go_ret
        exact ⟨ret_int HX.out.symm, rfl⟩
    · have HX : Hid (s.span sn first n r = 0) := by simp only [Mem.span, hs]; exact if_neg hb
      clear hs R
      have h1 : 0 ≤ first := by omega
      have h2 : first < 64 := by omega
      have h3 : 1 ≤ n := by omega
      have h4 : n ≤ 64 - first := by omega
      have h5 : 0 ≤ r := by omega
      have h6 : r ≤ 7 := by omega
      clear hb
      go_enter Try.func16, Try.ntmps16
      go_wp2
      go_ret
      exact ⟨ret_int HX.out.symm, rfl⟩
end
end Go.Proofs.Ytnhknnhdeegbdab
