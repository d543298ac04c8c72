/- ringref5.Man: its pages. -/
import Derived.Test.YtnhknnhdeegbdabSpMay
namespace Go.Proofs.Ytnhknnhdeegbdab
open Go.RowKit Go.ChangeMaps

structure ManS where
  H : Nat
  base : Nat → Value
  there : Nat → Bool
  may : Nat → Int
  byte : Nat → Nat → UInt8

def manCell (m : ManS) (i : Nat) : Value :=
  if i < 28 then m.base i else if (i - 28) % 18 = 0 then .bool (m.there ((i - 28) / 18)) else if (i - 28) % 18 = 1 then .int .i64 (m.may ((i - 28) / 18)) else .int .u8 (m.byte ((i - 28) / 18) ((i - 28) % 18 - 2)).toNat

def ManRep (w : World) (m : ManS) : Prop := w.rowIs m.H 51 1180 (manCell m)

theorem ManRep.there {w : World} {m : ManS} (R : ManRep w m) {q : Nat} (hq : q < 64) : w.cell? ⟨m.H, 28 + q * 18, none⟩ = some (.bool (m.there q)) := by
  rw [World.rowIs.cell R (i := 28 + q * 18) (by omega)]
  unfold manCell
  rw [if_neg (by omega), if_pos (by omega), show (28 + q * 18 - 28) / 18 = q by omega]
theorem ManRep.may {w : World} {m : ManS} (R : ManRep w m) {q : Nat} (hq : q < 64) : w.cell? ⟨m.H, 28 + q * 18 + 1, none⟩ = some (.int .i64 (m.may q)) := by
  rw [World.rowIs.cell R (i := 28 + q * 18 + 1) (by omega)]
  unfold manCell
  rw [if_neg (by omega), if_neg (by omega), if_pos (by omega), show (28 + q * 18 + 1 - 28) / 18 = q by omega]
theorem ManRep.byte {w : World} {m : ManS} (R : ManRep w m) {q i : Nat} (hq : q < 64) (hi : i < 16) : w.cell? ⟨m.H, 28 + q * 18 + 2 + i, none⟩ = some (.int .u8 (m.byte q i).toNat) := by
  rw [World.rowIs.cell R (i := 28 + q * 18 + 2 + i) (by omega)]
  unfold manCell
  rw [if_neg (by omega), if_neg (by omega), if_neg (by omega), show (28 + q * 18 + 2 + i - 28) / 18 = q by omega, show (28 + q * 18 + 2 + i - 28) % 18 - 2 = i by omega]

def manByte (m : ManS) (a want : Int) : Option UInt8 :=
  if a < 0 ∨ 1023 < a then none else if m.there (a / 16).toNat = false then none else if bits BinOp.andNot IntKind.i64 want (m.may (a / 16).toNat) ≠ 0 then none else some (m.byte (a / 16).toNat (a % 16).toNat)

section
variable {w : World} {m : ManS}
set_option maxHeartbeats 1000000 in
set_option maxRecDepth 100000 in
theorem byte_rep (R : ManRep w m) (a want : Int) :
    Calls Try.prog 20 #[.pointer (some ⟨m.H, 0, none⟩), .int .i64 a, .int .i64 want] w fun e w' => e = .returned (.tuple #[.int .u8 ((manByte m a want).getD 0).toNat, .bool (manByte m a want).isSome]) ∧ w = w' := by
  by_cases h1 : a < 0 ∨ 1023 < a
  · have HX : Hid (manByte m a want = none) := if_pos h1
    clear R
    rcases (show a < 0 ∨ (0 ≤ a ∧ 1023 < a) by omega) with h | ⟨h, h'⟩
    all_goals
      clear h1
      go_enter Try.func20, Try.ntmps20
      go_wp2
      go_ret2
      rw [HX.out]; exact ⟨rfl, rfl⟩
  · have h0 : 0 ≤ a := by omega
    have h2 : a ≤ 1023 := by omega
    have ct := R.there (q := (a / 16).toNat) (by omega)
    have cm := R.may (q := (a / 16).toNat) (by omega)
    have cb := R.byte (q := (a / 16).toNat) (i := (a % 16).toNat) (by omega) (by omega)
    cases ht : m.there (a / 16).toNat with
    | false =>
      have HX : Hid (manByte m a want = none) := by unfold manByte; rw [if_neg h1, if_pos ht]; rfl
      rw [ht] at ct
      clear ht R h1 cm cb
      go_enter Try.func20, Try.ntmps20
      go_wp2
      go_ret2
      rw [HX.out]; exact ⟨rfl, rfl⟩
    | true =>
      rw [ht] at ct
      by_cases hm : bits BinOp.andNot IntKind.i64 want (m.may (a / 16).toNat) = 0
      · have HX : Hid (manByte m a want = some (m.byte (a / 16).toNat (a % 16).toNat)) := by
          unfold manByte; rw [if_neg h1, if_neg (by rw [ht]; simp), if_neg (by simpa using hm)]; rfl
        have hm' : (bits BinOp.andNot IntKind.i64 want (m.may (a / 16).toNat) != 0) = false := by simp [hm]
        clear ht R h1 hm
        go_enter Try.func20, Try.ntmps20
        go_wp2
        go_ret2
        rw [HX.out]; exact ⟨rfl, rfl⟩
      · have HX : Hid (manByte m a want = none) := by
          unfold manByte; rw [if_neg h1, if_neg (by rw [ht]; simp), if_pos hm]; rfl
        have hm' : (bits BinOp.andNot IntKind.i64 want (m.may (a / 16).toNat) != 0) = true := by simp [hm]
        clear ht R h1 hm cb
        go_enter Try.func20, Try.ntmps20
        go_wp2
        go_ret2
        rw [HX.out]; exact ⟨rfl, rfl⟩
end
end Go.Proofs.Ytnhknnhdeegbdab
