/- what a call's registers tell, as plain data -/
import Derived.Test.YtnhknnhdeegbdabEdText
import Derived.Test.YtnhknnhdeegbdabManText
import Derived.Test.YtnhknnhdeegbdabEdSmall
namespace Go.Proofs.Ytnhknnhdeegbdab
open Go.RowKit Go.ChangeMaps

structure CallS where
  num : Int
  A : Int
  B : Int
  C : Int
  name : List UInt8
  other : List UInt8
  data : List UInt8
def CallS.zero : CallS := ⟨0, 0, 0, 0, [], [], []⟩

/-- the numbers behind n texts; for a write its data, too -/
def takeEnd (read : Int → Int → List UInt8 × Int) (r : Nat → Int) (n : Nat) (name other : List UInt8) : CallS × Int :=
  if signed32 (r 0) = 8 then
    if signed32 (r (3 + n)) < 0 ∨ 256 < signed32 (r (3 + n)) then (.zero, 1)
    else if (read (signed32 (r (2 + n))) (signed32 (r (3 + n)))).2 ≠ 0 then (.zero, (read (signed32 (r (2 + n))) (signed32 (r (3 + n)))).2)
    else (⟨signed32 (r 0), signed32 (r (1 + n)), signed32 (r (2 + n)), signed32 (r (3 + n)), name, other, (read (signed32 (r (2 + n))) (signed32 (r (3 + n)))).1⟩, 0)
  else (⟨signed32 (r 0), signed32 (r (1 + n)), signed32 (r (2 + n)), signed32 (r (3 + n)), name, other, []⟩, 0)
def takeP (text : Int → List UInt8 × Int) (read : Int → Int → List UInt8 × Int) (r : Nat → Int) : CallS × Int :=
  if textsN (signed32 (r 0)) = 0 then takeEnd read r 0 [] []
  else if (text (r 1)).2 ≠ 0 then (.zero, (text (r 1)).2)
  else if textsN (signed32 (r 0)) = 1 then takeEnd read r 1 (text (r 1)).1 []
  else if (text (r 2)).2 ≠ 0 then (.zero, (text (r 2)).2)
  else takeEnd read r 2 (text (r 1)).1 (text (r 2)).1

def regsV (r : Nat → Int) (pc ring : Int) : Value := .agg #[.int .u32 (r 0), .int .u32 (r 1), .int .u32 (r 2), .int .u32 (r 3), .int .u32 (r 4), .int .u32 (r 5), .int .u32 (r 6), .int .u32 (r 7), .int .u32 pc, .int .i64 ring]
def callV (c : CallS) (d : Value) : Value := .agg #[.int .i64 c.num, .int .i64 c.A, .int .i64 c.B, .int .i64 c.C, strOf c.name, strOf c.other, d]

theorem textsN_cases (n : Int) : textsN n = 0 ∨ textsN n = 1 ∨ textsN n = 2 := by unfold textsN; split; simp; split <;> simp
/-- a write has no text -/
theorem textsN_eight : textsN 8 = 0 := by decide
end Go.Proofs.Ytnhknnhdeegbdab
