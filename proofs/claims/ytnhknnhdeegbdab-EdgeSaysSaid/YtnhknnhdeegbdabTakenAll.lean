/- (*Man).Taken, whole -/
import Derived.Test.YtnhknnhdeegbdabTaken0
import Derived.Test.YtnhknnhdeegbdabTaken1
import Derived.Test.YtnhknnhdeegbdabTaken2
namespace Go.Proofs.Ytnhknnhdeegbdab
open Go.RowKit Go.ChangeMaps
section
variable {w : World} {m : ManS}
theorem taken_rep (R : ManRep w m) (r : Nat → Int) (hr0 : ∀ i, 0 ≤ r i) (hr1 : ∀ i, r i < 4294967296) (pc ring : Int) :
    Calls Try.prog 11 #[.pointer (some ⟨m.H, 0, none⟩), regsV r pc ring] w (TakenPost w (takeP (manText m) (manRead m) r)) := by
  rcases textsN_cases (signed32 (r 0)) with h | h | h
  · exact taken0 R r hr0 hr1 pc ring h
  · exact taken1 R r hr0 hr1 pc ring h
  · exact taken2 R r hr0 hr1 pc ring h
end
end Go.Proofs.Ytnhknnhdeegbdab
