/- a text that ends with 0, as plain data -/
import Derived.Test.YtnhknnhdeegbdabMan
import Derived.Test.YtnhknnhdeegbdabSpPut
import Derived.Laws.BytesArg
namespace Go.Proofs.Ytnhknnhdeegbdab
open Go.RowKit Go.ChangeMaps

/-- what is read from place k on, acc being read already -/
def textR (get : Nat → Option UInt8) : Nat → Nat → List UInt8 → List UInt8 × Int
  | 0, _, _ => ([], 2)
  | f + 1, k, acc => match get k with
    | none => ([], 11)
    | some b => if b = 0 then (acc, 0) else textR get f (k + 1) (acc ++ [b])
def accOf (get : Nat → Option UInt8) (k : Nat) : List UInt8 := (List.range k).map fun j => (get j).getD 0
def goodTo (get : Nat → Option UInt8) (k : Nat) : Prop := ∀ j, j < k → ∃ b, get j = some b ∧ b ≠ 0
theorem accOf_succ (get : Nat → Option UInt8) (k : Nat) : accOf get (k + 1) = accOf get k ++ [(get k).getD 0] := by simp [accOf, List.range_succ]
theorem accOf_length (get : Nat → Option UInt8) (k : Nat) : (accOf get k).length = k := by simp [accOf]
theorem goodTo_succ {get : Nat → Option UInt8} {k : Nat} (h : goodTo get k) {b : UInt8} (hb : get k = some b) (h0 : b ≠ 0) : goodTo get (k + 1) := fun j hj => by
  by_cases e : j = k
  · subst e; exact ⟨b, hb, h0⟩
  · exact h j (by omega)
theorem textR_good {get : Nat → Option UInt8} : ∀ (k n : Nat), k ≤ n → goodTo get k → textR get n 0 [] = textR get (n - k) k (accOf get k) := by
  intro k
  induction k with
  | zero => intro n _ _; simp [accOf]
  | succ k ih =>
    intro n hn hg
    rw [ih n (by omega) (fun j hj => hg j (by omega))]
    obtain ⟨b, hb, h0⟩ := hg k (by omega)
    rw [show n - k = (n - (k + 1)) + 1 by omega, textR, hb]
    simp only
    rw [if_neg h0, accOf_succ, hb]; rfl
theorem textR_none {get : Nat → Option UInt8} {k n : Nat} (hk : k < n) (hg : goodTo get k) (h : get k = none) : textR get n 0 [] = ([], 11) := by
  rw [textR_good k n (by omega) hg, show n - k = (n - k - 1) + 1 by omega, textR, h]
theorem textR_zero {get : Nat → Option UInt8} {k n : Nat} (hk : k < n) (hg : goodTo get k) (h : get k = some 0) : textR get n 0 [] = (accOf get k, 0) := by
  rw [textR_good k n (by omega) hg, show n - k = (n - k - 1) + 1 by omega, textR, h]; rfl
theorem textR_large {get : Nat → Option UInt8} {n : Nat} (hg : goodTo get n) : textR get n 0 [] = ([], 2) := by
  rw [textR_good n n (Nat.le_refl _) hg, Nat.sub_self]; rfl

def strOf (l : List UInt8) : Value := .string ⟨l.toArray⟩
def addr32 (a : Int) (k : Nat) : Int := (a + k) % 4294967296
theorem uStr : Try.prog.underlying 9 = some .string := by kernel_rfl
theorem u8u : Try.prog.underlying 5 = some (.int .u8) := by kernel_rfl

theorem strOfNums_bytes (l : List UInt8) : strOfNums (l.map fun b => (b.toNat : Int)) = ⟨l.toArray⟩ := by
  have h : (strOfNums (l.map fun b => (b.toNat : Int))).data.toList = l := by
    rw [strOfNums_data, List.map_map]
    conv => rhs; rw [← List.map_id l]
    refine List.map_congr_left fun b _ => ?_
    simp
  cases hs : strOfNums (l.map fun b => (b.toNat : Int)) with
  | mk d =>
    rw [hs] at h
    congr 1
    rw [← h]

@[go_sem] theorem conv_one (W : World) (b : UInt8) : (convert 22 9 (.slice (some ⟨W.heap.size, 0, none⟩) 1 1)).run Try.prog (W.alloc (.cells #[.int .u8 b.toNat] 5)) = .ok (strOf [b]) (W.alloc (.cells #[.int .u8 b.toNat] 5)) := by
  have := run_convert_bytes_arg (P := Try.prog) (W.alloc (.cells #[.int .u8 b.toNat] 5)) 22 5 uB u8u W.heap.size 0 1 1 ([b].map fun b => (b.toNat : Int)) rfl (fun i hi => by
    obtain rfl : i = 0 := by omega
    simp) 9 uStr
  rw [strOfNums_bytes] at this
  exact this

/-- the string of an owned slice of bytes -/
theorem conv_own {W : World} {B n : Nat} {v : Value} {l : List UInt8} (h : W.ownsRow B 5 1 v n (l.map byteV)) (hn : l.length = n) : (convert 22 9 v).run Try.prog W = .ok (strOf l) W := by
  have h' := h
  obtain ⟨_, ⟨rfl, h0⟩ | ⟨g, cap, cur, rfl, _⟩⟩ := h
  · have hl : l = [] := List.eq_nil_of_length_eq_zero (by omega)
    subst hl
    exact run_convert_bytes_nil W _ _ uB u8u 0 0 _ uStr
  · have := run_convert_bytes_arg (P := Try.prog) W 22 5 uB u8u g 0 n cap (l.map fun b => (b.toNat : Int)) (by simpa using hn) (fun i hi => by
      have := World.ownsRow.cells h' (g := g) rfl i (byteV (l.getD i 0)) (by simp [List.getD, hn, hi])
      have e : (⟨g, 0, none⟩ : Addr).add i = ⟨g, 0 + i, none⟩ := by unfold Addr.add; split <;> simp_all
      rw [e] at this
      rw [this]
      simp [List.getD, hn, hi, byteV]) 9 uStr
    rw [strOfNums_bytes] at this
    exact this

theorem cat_run (x y : List UInt8) (hx : (x.length : Int) ≤ 8388608) (hy : (y.length : Int) ≤ 8388608) (W : World) : (binOp .add 9 (strOf x) (strOf y)).run Try.prog W = .ok (strOf (x ++ y)) W := by
  unfold strOf
  rw [binOp_string_add, run_string_add_lists W x y hx hy]
end Go.Proofs.Ytnhknnhdeegbdab
