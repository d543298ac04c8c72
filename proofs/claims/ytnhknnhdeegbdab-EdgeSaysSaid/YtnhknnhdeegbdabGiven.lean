/- (*Man).Given -/
import Derived.Test.YtnhknnhdeegbdabGive
import Derived.Test.YtnhknnhdeegbdabManPut
import Derived.Test.YtnhknnhdeegbdabTaken
namespace Go.Proofs.Ytnhknnhdeegbdab
open Go.RowKit Go.ChangeMaps

def ManS.puts (m : ManS) (a : Int) (data : List UInt8) : Nat → ManS
  | 0 => m
  | k + 1 => (m.puts a data k).put (a + k) (data.getD k 0)
theorem puts_H (m : ManS) (a : Int) (data : List UInt8) (k : Nat) : (m.puts a data k).H = m.H := by induction k with | zero => rfl | succ k ih => exact ih
theorem put_isSome (m : ManS) (a : Int) (b : UInt8) (x want : Int) : (manByte (m.put a b) x want).isSome = (manByte m x want).isSome := by
  unfold manByte ManS.put
  simp only
  repeat' split
  all_goals rfl
theorem puts_isSome (m : ManS) (a : Int) (data : List UInt8) (k : Nat) (x want : Int) : (manByte (m.puts a data k) x want).isSome = (manByte m x want).isSome := by
  induction k with
  | zero => rfl
  | succ k ih => rw [ManS.puts, put_isSome, ih]

def mayGive (m : ManS) (a : Int) (n : Nat) : Bool := (List.range n).all fun k => (manByte m (a + (k : Int)) 2).isSome
def applied2 (a : AnsS) (c : CallS) : Prop := a.err = 0 ∧ c.num = 7
instance (a : AnsS) (c : CallS) : Decidable (applied2 a c) := by unfold applied2; infer_instance

theorem mayGive_true {m : ManS} {a : Int} {n : Nat} (h : ∀ j, j < n → (manByte m (a + (j : Int)) 2).isSome = true) : mayGive m a n = true := by
  rw [mayGive, List.all_eq_true]
  intro j hj
  exact h j (List.mem_range.1 hj)
theorem mayGive_false {m : ManS} {a : Int} {n k : Nat} (hk : k < n) (h : (manByte m (a + (k : Int)) 2).isSome = false) : mayGive m a n = false := by
  rw [mayGive, List.all_eq_false]
  exact ⟨k, List.mem_range.2 hk, by simp [h]⟩
/-- the answer's box holds a bare fault -/
structure FaultAns (W : World) (n : Nat) (wx : World) : Prop where
  a0 : wx.cell? ⟨n + 1 + 1, 0, none⟩ = some (.int .i64 11)
  a1 : wx.cell? ⟨n + 1 + 1, 1, none⟩ = some (.int .i64 0)
  a2 : wx.cell? ⟨n + 1 + 1, 2, none⟩ = some (.int .i64 0)
  a3 : wx.cell? ⟨n + 1 + 1, 3, none⟩ = some (.slice none 0 0)
  upd : Upd (fun x => x = n + 1 + 1) W wx

/-- where the walk stands behind the bytes -/
structure NMid (w : World) (m : ManS) (c : CallS) (a : AnsS) (data : List UInt8) (r : Nat → Int) (pc ring : Int) (wx : World) (A err B : Int) (m' : ManS) : Prop where
  q7 : wx.heap[w.heap.size]? = some (.cells (regCells r pc ring) 26 (0, 0))
  q10 : wx.heap[w.heap.size + 1 + 1 + 1]? = some (.cells zeroRegs 26 (0, 0))
  a0 : wx.cell? ⟨w.heap.size + 1 + 1, 0, none⟩ = some (.int .i64 err)
  a1 : wx.cell? ⟨w.heap.size + 1 + 1, 1, none⟩ = some (.int .i64 A)
  a2 : wx.cell? ⟨w.heap.size + 1 + 1, 2, none⟩ = some (.int .i64 B)
  rep : ManRep wx m'
  hH : m'.H = m.H
  upd : Upd (fun x => x = m.H) w wx
  yes : applied2 a c → if mayGive m c.B data.length then m' = m.puts c.B data data.length ∧ A = a.A ∧ err = a.err ∧ B = a.B else m' = m ∧ A = 0 ∧ err = 11 ∧ B = 0
  no : ¬ applied2 a c → m' = m ∧ A = a.A ∧ err = a.err ∧ B = a.B

theorem mayGive_at {m : ManS} {a : Int} {n k : Nat} (h : mayGive m a n = true) (hk : k < n) : (manByte m (a + (k : Int)) 2).isSome = true := by
  rw [mayGive, List.all_eq_true] at h
  exact h k (List.mem_range.2 hk)
theorem faultAns {W : World} {n : Nat} {e A B s0 s1 s2 s3 s4 s5 : Int} {d t : Value} (h : W.heap[n + 1 + 1]? = some (.cells #[.int .i64 e, .int .i64 A, .int .i64 B, d, t, .int .i64 s0, .int .i64 s1, .int .i64 s2, .int .i64 s3, .int .i64 s4, .int .i64 s5] 32 (0, 0))) :
    FaultAns W n (((((((((((W.setCell ⟨n + 1 + 1, 0, none⟩ (.int .i64 11)).setCell ⟨n + 1 + 1, 1, none⟩ (.int .i64 0)).setCell ⟨n + 1 + 1, 2, none⟩ (.int .i64 0)).setCell ⟨n + 1 + 1, 3, none⟩ (.slice none 0 0)).setCell ⟨n + 1 + 1, 4, none⟩ (.slice none 0 0)).setCell ⟨n + 1 + 1, 5, none⟩ (.int .i64 0)).setCell ⟨n + 1 + 1, 6, none⟩ (.int .i64 0)).setCell ⟨n + 1 + 1, 7, none⟩ (.int .i64 0)).setCell ⟨n + 1 + 1, 8, none⟩ (.int .i64 0)).setCell ⟨n + 1 + 1, 9, none⟩ (.int .i64 0)).setCell ⟨n + 1 + 1, 10, none⟩ (.int .i64 0)) := by
  have h0 : (W.setCell ⟨n + 1 + 1, 0, none⟩ (.int .i64 11)).heap[n + 1 + 1]? = some (.cells #[.int .i64 11, .int .i64 A, .int .i64 B, d, t, .int .i64 s0, .int .i64 s1, .int .i64 s2, .int .i64 s3, .int .i64 s4, .int .i64 s5] 32 (0, 0)) := Go.heap_setCell_same _ (n + 1 + 1) 0 _ _ (.int .i64 11) h
  have h1 : ((W.setCell ⟨n + 1 + 1, 0, none⟩ (.int .i64 11)).setCell ⟨n + 1 + 1, 1, none⟩ (.int .i64 0)).heap[n + 1 + 1]? = some (.cells #[.int .i64 11, .int .i64 0, .int .i64 B, d, t, .int .i64 s0, .int .i64 s1, .int .i64 s2, .int .i64 s3, .int .i64 s4, .int .i64 s5] 32 (0, 0)) := Go.heap_setCell_same _ (n + 1 + 1) 1 _ _ (.int .i64 0) h0
  have h2 : (((W.setCell ⟨n + 1 + 1, 0, none⟩ (.int .i64 11)).setCell ⟨n + 1 + 1, 1, none⟩ (.int .i64 0)).setCell ⟨n + 1 + 1, 2, none⟩ (.int .i64 0)).heap[n + 1 + 1]? = some (.cells #[.int .i64 11, .int .i64 0, .int .i64 0, d, t, .int .i64 s0, .int .i64 s1, .int .i64 s2, .int .i64 s3, .int .i64 s4, .int .i64 s5] 32 (0, 0)) := Go.heap_setCell_same _ (n + 1 + 1) 2 _ _ (.int .i64 0) h1
  have h3 : ((((W.setCell ⟨n + 1 + 1, 0, none⟩ (.int .i64 11)).setCell ⟨n + 1 + 1, 1, none⟩ (.int .i64 0)).setCell ⟨n + 1 + 1, 2, none⟩ (.int .i64 0)).setCell ⟨n + 1 + 1, 3, none⟩ (.slice none 0 0)).heap[n + 1 + 1]? = some (.cells #[.int .i64 11, .int .i64 0, .int .i64 0, .slice none 0 0, t, .int .i64 s0, .int .i64 s1, .int .i64 s2, .int .i64 s3, .int .i64 s4, .int .i64 s5] 32 (0, 0)) := Go.heap_setCell_same _ (n + 1 + 1) 3 _ _ (.slice none 0 0) h2
  have h4 : (((((W.setCell ⟨n + 1 + 1, 0, none⟩ (.int .i64 11)).setCell ⟨n + 1 + 1, 1, none⟩ (.int .i64 0)).setCell ⟨n + 1 + 1, 2, none⟩ (.int .i64 0)).setCell ⟨n + 1 + 1, 3, none⟩ (.slice none 0 0)).setCell ⟨n + 1 + 1, 4, none⟩ (.slice none 0 0)).heap[n + 1 + 1]? = some (.cells #[.int .i64 11, .int .i64 0, .int .i64 0, .slice none 0 0, .slice none 0 0, .int .i64 s0, .int .i64 s1, .int .i64 s2, .int .i64 s3, .int .i64 s4, .int .i64 s5] 32 (0, 0)) := Go.heap_setCell_same _ (n + 1 + 1) 4 _ _ (.slice none 0 0) h3
  have h5 : ((((((W.setCell ⟨n + 1 + 1, 0, none⟩ (.int .i64 11)).setCell ⟨n + 1 + 1, 1, none⟩ (.int .i64 0)).setCell ⟨n + 1 + 1, 2, none⟩ (.int .i64 0)).setCell ⟨n + 1 + 1, 3, none⟩ (.slice none 0 0)).setCell ⟨n + 1 + 1, 4, none⟩ (.slice none 0 0)).setCell ⟨n + 1 + 1, 5, none⟩ (.int .i64 0)).heap[n + 1 + 1]? = some (.cells #[.int .i64 11, .int .i64 0, .int .i64 0, .slice none 0 0, .slice none 0 0, .int .i64 0, .int .i64 s1, .int .i64 s2, .int .i64 s3, .int .i64 s4, .int .i64 s5] 32 (0, 0)) := Go.heap_setCell_same _ (n + 1 + 1) 5 _ _ (.int .i64 0) h4
  have h6 : (((((((W.setCell ⟨n + 1 + 1, 0, none⟩ (.int .i64 11)).setCell ⟨n + 1 + 1, 1, none⟩ (.int .i64 0)).setCell ⟨n + 1 + 1, 2, none⟩ (.int .i64 0)).setCell ⟨n + 1 + 1, 3, none⟩ (.slice none 0 0)).setCell ⟨n + 1 + 1, 4, none⟩ (.slice none 0 0)).setCell ⟨n + 1 + 1, 5, none⟩ (.int .i64 0)).setCell ⟨n + 1 + 1, 6, none⟩ (.int .i64 0)).heap[n + 1 + 1]? = some (.cells #[.int .i64 11, .int .i64 0, .int .i64 0, .slice none 0 0, .slice none 0 0, .int .i64 0, .int .i64 0, .int .i64 s2, .int .i64 s3, .int .i64 s4, .int .i64 s5] 32 (0, 0)) := Go.heap_setCell_same _ (n + 1 + 1) 6 _ _ (.int .i64 0) h5
  have h7 : ((((((((W.setCell ⟨n + 1 + 1, 0, none⟩ (.int .i64 11)).setCell ⟨n + 1 + 1, 1, none⟩ (.int .i64 0)).setCell ⟨n + 1 + 1, 2, none⟩ (.int .i64 0)).setCell ⟨n + 1 + 1, 3, none⟩ (.slice none 0 0)).setCell ⟨n + 1 + 1, 4, none⟩ (.slice none 0 0)).setCell ⟨n + 1 + 1, 5, none⟩ (.int .i64 0)).setCell ⟨n + 1 + 1, 6, none⟩ (.int .i64 0)).setCell ⟨n + 1 + 1, 7, none⟩ (.int .i64 0)).heap[n + 1 + 1]? = some (.cells #[.int .i64 11, .int .i64 0, .int .i64 0, .slice none 0 0, .slice none 0 0, .int .i64 0, .int .i64 0, .int .i64 0, .int .i64 s3, .int .i64 s4, .int .i64 s5] 32 (0, 0)) := Go.heap_setCell_same _ (n + 1 + 1) 7 _ _ (.int .i64 0) h6
  have h8 : (((((((((W.setCell ⟨n + 1 + 1, 0, none⟩ (.int .i64 11)).setCell ⟨n + 1 + 1, 1, none⟩ (.int .i64 0)).setCell ⟨n + 1 + 1, 2, none⟩ (.int .i64 0)).setCell ⟨n + 1 + 1, 3, none⟩ (.slice none 0 0)).setCell ⟨n + 1 + 1, 4, none⟩ (.slice none 0 0)).setCell ⟨n + 1 + 1, 5, none⟩ (.int .i64 0)).setCell ⟨n + 1 + 1, 6, none⟩ (.int .i64 0)).setCell ⟨n + 1 + 1, 7, none⟩ (.int .i64 0)).setCell ⟨n + 1 + 1, 8, none⟩ (.int .i64 0)).heap[n + 1 + 1]? = some (.cells #[.int .i64 11, .int .i64 0, .int .i64 0, .slice none 0 0, .slice none 0 0, .int .i64 0, .int .i64 0, .int .i64 0, .int .i64 0, .int .i64 s4, .int .i64 s5] 32 (0, 0)) := Go.heap_setCell_same _ (n + 1 + 1) 8 _ _ (.int .i64 0) h7
  have h9 : ((((((((((W.setCell ⟨n + 1 + 1, 0, none⟩ (.int .i64 11)).setCell ⟨n + 1 + 1, 1, none⟩ (.int .i64 0)).setCell ⟨n + 1 + 1, 2, none⟩ (.int .i64 0)).setCell ⟨n + 1 + 1, 3, none⟩ (.slice none 0 0)).setCell ⟨n + 1 + 1, 4, none⟩ (.slice none 0 0)).setCell ⟨n + 1 + 1, 5, none⟩ (.int .i64 0)).setCell ⟨n + 1 + 1, 6, none⟩ (.int .i64 0)).setCell ⟨n + 1 + 1, 7, none⟩ (.int .i64 0)).setCell ⟨n + 1 + 1, 8, none⟩ (.int .i64 0)).setCell ⟨n + 1 + 1, 9, none⟩ (.int .i64 0)).heap[n + 1 + 1]? = some (.cells #[.int .i64 11, .int .i64 0, .int .i64 0, .slice none 0 0, .slice none 0 0, .int .i64 0, .int .i64 0, .int .i64 0, .int .i64 0, .int .i64 0, .int .i64 s5] 32 (0, 0)) := Go.heap_setCell_same _ (n + 1 + 1) 9 _ _ (.int .i64 0) h8
  have h10 : (((((((((((W.setCell ⟨n + 1 + 1, 0, none⟩ (.int .i64 11)).setCell ⟨n + 1 + 1, 1, none⟩ (.int .i64 0)).setCell ⟨n + 1 + 1, 2, none⟩ (.int .i64 0)).setCell ⟨n + 1 + 1, 3, none⟩ (.slice none 0 0)).setCell ⟨n + 1 + 1, 4, none⟩ (.slice none 0 0)).setCell ⟨n + 1 + 1, 5, none⟩ (.int .i64 0)).setCell ⟨n + 1 + 1, 6, none⟩ (.int .i64 0)).setCell ⟨n + 1 + 1, 7, none⟩ (.int .i64 0)).setCell ⟨n + 1 + 1, 8, none⟩ (.int .i64 0)).setCell ⟨n + 1 + 1, 9, none⟩ (.int .i64 0)).setCell ⟨n + 1 + 1, 10, none⟩ (.int .i64 0)).heap[n + 1 + 1]? = some (.cells #[.int .i64 11, .int .i64 0, .int .i64 0, .slice none 0 0, .slice none 0 0, .int .i64 0, .int .i64 0, .int .i64 0, .int .i64 0, .int .i64 0, .int .i64 0] 32 (0, 0)) := Go.heap_setCell_same _ (n + 1 + 1) 10 _ _ (.int .i64 0) h9
  obtain ⟨k, _⟩ := block_cells h10
  exact ⟨by rw [k]; rfl, by rw [k]; rfl, by rw [k]; rfl, by rw [k]; rfl, upd11 W (n + 1 + 1) (.int .i64 11) (.int .i64 0) (.int .i64 0) (.slice none 0 0) (.slice none 0 0) (.int .i64 0) (.int .i64 0) (.int .i64 0) (.int .i64 0) (.int .i64 0) (.int .i64 0)⟩

theorem nmid_yes {w W1 wx : World} {m : ManS} {c : CallS} {aerr aA aB : Int} {astat : Nat → Int} {at_ dv : Value} {data : List UInt8} {r : Nat → Int} {pc ring : Int}
    (hap : applied2 ⟨aerr, aA, aB, at_, astat⟩ c) (hm : mayGive m c.B data.length = true)
    (q7 : W1.heap[w.heap.size]? = some (.cells (regCells r pc ring) 26 (0, 0))) (q9 : W1.heap[w.heap.size + 1 + 1]? = some (.cells (ansCells ⟨aerr, aA, aB, at_, astat⟩ dv) 32 (0, 0)))
    (q10 : W1.heap[w.heap.size + 1 + 1 + 1]? = some (.cells zeroRegs 26 (0, 0))) (hr : ManRep wx (m.puts c.B data data.length)) (u1 : Upd (fun _ => False) w W1) (u : Upd (fun x => x = m.H) W1 wx) (hH : m.H < w.heap.size) :
    ∃ A err B m', NMid w m c ⟨aerr, aA, aB, at_, astat⟩ data r pc ring wx A err B m' := by
  have keep : ∀ {b : Nat} {o : Obj}, w.heap.size ≤ b → W1.heap[b]? = some o → wx.heap[b]? = some o := fun {b o} hb ho => (u.block b (Array.getElem?_eq_some_iff.1 ho).1 (by omega)).trans ho
  obtain ⟨k9, _⟩ := block_cells (keep (by omega) q9)
  exact ⟨aA, aerr, aB, m.puts c.B data data.length, keep (by omega) q7, keep (by omega) q10, by rw [k9]; rfl, by rw [k9]; rfl, by rw [k9]; rfl, hr, puts_H _ _ _ _, (u1.mono (fun _ _ h => h.elim)).trans u (fun x hx h => h), fun _ => by rw [if_pos hm]; exact ⟨rfl, rfl, rfl, rfl⟩, fun h => absurd hap h⟩
theorem nmid_no {w W1 wx : World} {m : ManS} {c : CallS} {aerr aA aB : Int} {astat : Nat → Int} {at_ : Value} {data : List UInt8} {r : Nat → Int} {pc ring : Int}
    (hap : applied2 ⟨aerr, aA, aB, at_, astat⟩ c) (hm : mayGive m c.B data.length = false)
    (q7 : W1.heap[w.heap.size]? = some (.cells (regCells r pc ring) 26 (0, 0)))
    (q10 : W1.heap[w.heap.size + 1 + 1 + 1]? = some (.cells zeroRegs 26 (0, 0))) (hr : ManRep W1 m) (u1 : Upd (fun _ => False) w W1) (F : FaultAns W1 w.heap.size wx) (hH : m.H < w.heap.size) :
    ∃ A err B m', NMid w m c ⟨aerr, aA, aB, at_, astat⟩ data r pc ring wx A err B m' := by
  have keep : ∀ {b : Nat} {o : Obj}, b ≠ w.heap.size + 1 + 1 → W1.heap[b]? = some o → wx.heap[b]? = some o := fun {b o} hb ho => (F.upd.block b (Array.getElem?_eq_some_iff.1 ho).1 hb).trans ho
  exact ⟨0, 11, 0, m, keep (by omega) q7, keep (by omega) q10, F.a0, F.a1, F.a2, hr.upd F.upd (by omega), rfl, (u1.mono (fun _ _ h => h.elim)).trans F.upd (fun x hx h => by omega), fun _ => by rw [if_neg (by simp [hm])]; exact ⟨rfl, rfl, rfl, rfl⟩, fun h => absurd hap h⟩

def GivenPost (w : World) (m : ManS) (c : CallS) (a : AnsS) (data : List UInt8) (r : Nat → Int) (pc ring : Int) (e : Ending) (w' : World) : Prop :=
  ∃ A err B m', e = .returned (regsV (giveRegs r A err B) pc ring) ∧ ManRep w' m' ∧ m'.H = m.H ∧ Upd (fun x => x = m.H) w w' ∧ (applied2 a c → if mayGive m c.B data.length then m' = m.puts c.B data data.length ∧ A = a.A ∧ err = a.err ∧ B = a.B else m' = m ∧ A = 0 ∧ err = 11 ∧ B = 0) ∧ (¬ applied2 a c → m' = m ∧ A = a.A ∧ err = a.err ∧ B = a.B)

section
variable {w : World} {m : ManS}
set_option maxHeartbeats 1000000 in
set_option maxRecDepth 100000 in
theorem given_rep (R : ManRep w m) (r : Nat → Int) (pc ring : Int) (c : CallS) (cd : Value) (a : AnsS) (data : List UInt8) (da : Option Addr) (cap : Nat)
    (hcd : ∃ x y z, cd = .slice x y z) (htx : ∃ x y z, a.text = .slice x y z)
    (ha0 : -2147483648 ≤ c.B) (ha1 : c.B ≤ 2147483647) (hmx : data.length ≤ 256) (hd : BytesAt w (fun x => x = m.H) da data) :
    Calls Try.prog 14 #[.pointer (some ⟨m.H, 0, none⟩), regsV r pc ring, callV c cd, ansV a (.slice da data.length cap)] w (GivenPost w m c a data r pc ring) := by
  obtain ⟨x1, x2, x3, rfl⟩ := hcd
  obtain ⟨aerr, aA, aB, atext, astat⟩ := a
  obtain ⟨tx, ty, tz, rfl⟩ := htx
  simp only [regsV, callV, ansV, ansCells, strOf]
  have HR := Lib.hid R
  clear R
  go_enter Try.func14, Try.ntmps14
  go_upto_region 1 with fail
  obtain ⟨W1, hW1⟩ : ∃ W1, W1 = (((w.alloc (.cells (regCells r pc ring) 26)).alloc (.cells (callCells c (.slice x1 x2 x3)) 57)).alloc (.cells (ansCells ⟨aerr, aA, aB, .slice tx ty tz, astat⟩ (.slice da data.length cap)) 32)).alloc (.cells zeroRegs 26) := ⟨_, rfl⟩
  obtain ⟨q7, q8, q9, q10⟩ := alloc4 w (.cells (regCells r pc ring) 26) (.cells (callCells c (.slice x1 x2 x3)) 57) (.cells (ansCells ⟨aerr, aA, aB, .slice tx ty tz, astat⟩ (.slice da data.length cap)) 32) (.cells zeroRegs 26)
  have hU1 : Upd (fun _ => False) w W1 := by rw [hW1]; exact ((((Upd.refl _ _).alloc _).alloc _).alloc _).alloc _
  have hR1 : ManRep W1 m := HR.out.upd hU1 (fun h => h)
  rw [← hW1] at q7 q8 q9 q10
  have hD1 : BytesAt W1 (fun x => x = m.H) da data := hd.upd hU1 (fun _ _ h => h.elim)
  change Code.wp _ _ _ _ ((((w.alloc (.cells (regCells r pc ring) 26)).alloc (.cells (callCells c (.slice x1 x2 x3)) 57)).alloc (.cells (ansCells ⟨aerr, aA, aB, .slice tx ty tz, astat⟩ (.slice da data.length cap)) 32)).alloc (.cells zeroRegs 26))
  rw [← hW1]
  clear hW1
  obtain ⟨k8, g8⟩ := block_cells q8
  obtain ⟨k9, g9⟩ := block_cells q9
  simp only [callCells, strOf] at k8
  simp only [ansCells] at k9
  have HQ7 := Lib.hid q7
  have HQ8 := Lib.hid q8
  have HQ9 := Lib.hid q9
  have HQ10 := Lib.hid q10
  have HU1 := Lib.hid hU1
  have HR1 := Lib.hid hR1
  have HD1 := Lib.hid hD1
  clear q7 q8 q9 q10 hU1 hR1 hD1 hd
  go_cut [21] (fun v21 wx => v21 = .bool (decide (applied2 ⟨aerr, aA, aB, .slice tx ty tz, astat⟩ c)) ∧ wx = W1)
  case first =>
    by_cases c1 : aerr = 0
    · have c1' : (aerr == 0) = true := by simpa using c1
      by_cases c2 : c.num = 7
      · have c2' : (c.num == 7) = true := by simpa using c2
        have HX : Hid (decide (applied2 ⟨aerr, aA, aB, .slice tx ty tz, astat⟩ c) = true) := by show decide _ = true; exact decide_eq_true ⟨c1, c2⟩
        clear c1 c2
        go_wp2_with fail
        go_meet
        exact ⟨by rw [HX.out], rfl⟩
      · have c2' : (c.num == 7) = false := by simpa using c2
        have HX : Hid (decide (applied2 ⟨aerr, aA, aB, .slice tx ty tz, astat⟩ c) = false) := by show decide _ = false; exact decide_eq_false (fun h => c2 h.2)
        clear c1 c2
        go_wp2_with fail
        go_meet
        exact ⟨by rw [HX.out], rfl⟩
    · have c1' : (aerr == 0) = false := by simpa using c1
      have HX : Hid (decide (applied2 ⟨aerr, aA, aB, .slice tx ty tz, astat⟩ c) = false) := by show decide _ = false; exact decide_eq_false (fun h => c1 h.1)
      clear c1
      go_wp2_with fail
      go_meet
      exact ⟨by rw [HX.out], rfl⟩
  case rest =>
    obtain ⟨rfl, rfl⟩ := hcut
    generalize wc = W1 at *
    go_upto_if 21 with fail
    go_cut [9] (fun v9 wx => ∃ A err B m', NMid w m c ⟨aerr, aA, aB, .slice tx ty tz, astat⟩ data r pc ring wx A err B m')
    case first =>
      by_cases hap : applied2 ⟨aerr, aA, aB, .slice tx ty tz, astat⟩ c
      · rw [decide_eq_true hap]
        have HAP := Lib.hid hap
        clear hap
        go_upto_block 0 with fail
        go_cut [9] (fun v9 wx => (mayGive m c.B data.length = true ∧ wx = W1) ∨ (mayGive m c.B data.length = false ∧ FaultAns W1 w.heap.size wx))
        case first =>
          go_wp2_with fail
          go_loopw [9, 25] (fun v i wr => ∃ k : Nat, k ≤ data.length ∧ i = .int .i64 k ∧ wr = W1 ∧ ∀ j, j < k → (manByte m (c.B + (j : Int)) 2).isSome = true) (fun _ i _ => (data.length - intOf i).toNat)
          case atStart => exact ⟨0, by omega, rfl, rfl, fun j hj => by omega⟩
          case round =>
            obtain ⟨k, hk, rfl, rfl, hg⟩ := hrel
            have HG := Lib.hid hg
            clear hg
            by_cases hlt : k < data.length
            · have hby := byte_rep HR1.out (c.B + (k : Int)) 2
              have hw : IntKind.i64.wrap (c.B + (k : Int)) = c.B + (k : Int) := IntWalk.i64_in _ (by omega)
              cases hb : (manByte m (c.B + (k : Int)) 2).isSome with
              | false =>
                rw [hb] at hby
                have HX : Hid (mayGive m c.B data.length = false) := mayGive_false hlt hb
                have HB := Lib.hid hby
                clear hby hb
                go_wp2_with (go_at_call 20; refine HB.out.mono ?_; rintro e w' ⟨rfl, rfl⟩)
                go_meet
                refine .inr ⟨HX.out, ?_⟩
                exact faultAns HQ9.out
              | true =>
                rw [hb] at hby
                have HB := Lib.hid hby
                have HG2 := Lib.hid (fun j (hj : j < k + 1) => (if e : j = k then e ▸ hb else HG.out j (by omega) : (manByte m (c.B + (j : Int)) 2).isSome = true))
                clear hby hb
                go_wp2_with (go_at_call 20; refine HB.out.mono ?_; rintro e w' ⟨rfl, rfl⟩)
                refine ⟨⟨k + 1, by omega, by go_num, trivial, HG2.out⟩, by simp [intOf]; omega⟩
            · have HE : Hid (k = data.length) := (by omega : k = data.length)
              have HX : Hid (mayGive m c.B data.length = true) := mayGive_true (HE.out ▸ HG.out)
              go_wp2_with fail
              go_meet
              exact .inl ⟨HX.out, rfl⟩
        case rest =>
          rcases hcut with ⟨hm, rfl⟩ | ⟨hm, hF⟩
          · have HM := Lib.hid hm
            clear hm
            rcases HD1.out with hl | ⟨D, off, rfl, hD1, hD2, hD3⟩
            · have HL := Lib.hid hl
              clear hl
              go_wp2_with fail
              go_loopw [12, 13, 44] (fun _ _ i wr => i = .int .i64 0 ∧ wr = wc) (fun _ _ _ _ => 0)
              case atStart => exact ⟨rfl, rfl⟩
              case round =>
                obtain ⟨rfl, rfl⟩ := hrel
                have hlt : ¬ (0 : Int) < (data.length : Int) := by have := HL.out; omega
                go_wp2_with fail
                go_meet
                exact nmid_yes HAP.out HM.out HQ7.out HQ9.out HQ10.out (by rw [HL.out]; exact HR1.out) HU1.out (Upd.refl _ _) (World.rowIs.lt HR.out)
            · have HD3 := Lib.hid hD3
              clear hD3
              go_wp2_with fail
              go_loopw [12, 13, 44] (fun _ _ i wr => ∃ k : Nat, k ≤ data.length ∧ i = .int .i64 k ∧ ManRep wr (m.puts c.B data k) ∧ Upd (fun x => x = m.H) wc wr) (fun _ _ i _ => (data.length - intOf i).toNat)
              case atStart => exact ⟨0, by omega, rfl, HR1.out, Upd.refl _ _⟩
              case round =>
                obtain ⟨k, hk, rfl, hrr, hu⟩ := hrel
                have HU := Lib.hid hu
                have HRR := Lib.hid hrr
                clear hu hrr
                by_cases hlt : k < data.length
                · have hcell : wr.cell? ⟨D, off + k, none⟩ = some (.int .u8 (data.getD k 0).toNat) := (World.cell?_of_block (HU.out.block D hD2 hD1)).trans (HD3.out k hlt)
                  have hcB : wr.cell? ⟨w.heap.size + 1, 2, none⟩ = some (.int .i64 c.B) := by
                    have hq : wr.heap[w.heap.size + 1]? = _ := (HU.out.block _ (Array.getElem?_eq_some_iff.1 HQ8.out).1 (by have := World.rowIs.lt HR.out; omega)).trans HQ8.out
                    rw [(block_cells hq).1]; rfl
                  have hput := mput_rep HRR.out (c.B + (k : Int)) (data.getD k 0)
                  rw [puts_H, puts_isSome, mayGive_at HM.out hlt] at hput
                  have hw : IntKind.i64.wrap (c.B + (k : Int)) = c.B + (k : Int) := IntWalk.i64_in _ (by omega)
                  have HP := Lib.hid hput
                  clear hput
                  have hpe : m.puts c.B data (k + 1) = (m.puts c.B data k).put (c.B + (k : Int)) (data.getD k 0) := rfl
                  generalize data.getD k 0 = bb at *
                  have HPE := Lib.hid hpe
                  clear hpe
                  go_wp2_with (go_at_call 25; refine HP.out.mono ?_; rintro e w' ⟨rfl, hr', hu'⟩)
                  refine ⟨⟨k + 1, by omega, by go_num, by rw [HPE.out]; exact hr', HU.out.trans hu' (fun _ _ h => h)⟩, by simp [intOf]; omega⟩
                · have HE : Hid (k = data.length) := (by omega : k = data.length)
                  go_wp2_with fail
                  go_meet
                  exact nmid_yes HAP.out HM.out HQ7.out HQ9.out HQ10.out (HE.out ▸ HRR.out) HU1.out HU.out (World.rowIs.lt HR.out)
          · have HM := Lib.hid hm
            clear hm
            have a3 := hF.a3
            have HF := Lib.hid hF
            clear hF
            go_wp2_with fail
            go_loopw [12, 13, 44] (fun _ _ i wr => i = .int .i64 0 ∧ wr = wc) (fun _ _ _ _ => 0)
            case atStart => exact ⟨rfl, rfl⟩
            case round =>
              obtain ⟨rfl, rfl⟩ := hrel
              go_wp2_with fail
              go_meet
              exact nmid_no HAP.out HM.out HQ7.out HQ10.out HR1.out HU1.out HF.out (World.rowIs.lt HR.out)
      · rw [decide_eq_false hap]
        have HAP := Lib.hid hap
        clear hap
        go_wp2_with fail
        go_meet
        exact ⟨aA, aerr, aB, m, HQ7.out, HQ10.out, by rw [k9]; rfl, by rw [k9]; rfl, by rw [k9]; rfl, HR1.out, rfl, HU1.out.mono (fun _ _ h => h.elim), fun h => absurd h HAP.out, fun _ => ⟨rfl, rfl, rfl, rfl⟩⟩
    case rest =>
      obtain ⟨A, err, B, m', hG⟩ := hcut
      clear k8 g8 k9 g9
      generalize wc = W5 at *
      have a0 := hG.a0
      have a1 := hG.a1
      have a2 := hG.a2
      obtain ⟨k7, g7⟩ := block_cells hG.q7
      simp only [regCells] at k7
      have HG := Lib.hid hG
      have hHlt : m.H < w.heap.size := World.rowIs.lt HR.out
      clear hG
      have l0 : IntKind.u32.wrap A = low32 A := rfl
      have l1 : IntKind.u32.wrap err = low32 err := rfl
      have l2 : IntKind.u32.wrap B = low32 B := rfl
      have hne : ∀ (W : World) (i j : Nat) (v : Value), (W.setCell ⟨w.heap.size, i, none⟩ v).cell? ⟨w.heap.size + 1 + 1, j, none⟩ = W.cell? ⟨w.heap.size + 1 + 1, j, none⟩ := fun W i j v => World.cell?_setCell_other _ _ _ _ (by simp)
      go_upto_region 14 with fail
      go_cut [7] (fun v9 wx => Upd (fun b => b = w.heap.size) W5 wx ∧ wx.heap[w.heap.size]? = some (.cells (regCells (giveRegs r A err B) pc ring) 26 (0, 0)))
      case first =>
        go_region_held3 (fun w' => w'.cell? ⟨w.heap.size + 1 + 1, 0, none⟩ = some (.int .i64 err) ∧ w'.cell? ⟨w.heap.size + 1 + 1, 1, none⟩ = some (.int .i64 A) ∧ w'.cell? ⟨w.heap.size + 1 + 1, 2, none⟩ = some (.int .i64 B)) (go_keep) (fail)
        all_goals
          go_wp2_with fail
          go_meet
          exact regsLaid HG.out.q7
      case rest =>
        obtain ⟨hu, hq⟩ := hcut
        have hq10 := (hu.block _ (Array.getElem?_eq_some_iff.1 HG.out.q10).1 (by omega)).trans HG.out.q10
        have hU : Upd (fun x => x = m.H) w wc := HG.out.upd.trans hu (fun x hx e => by omega)
        have hR : ManRep wc m' := HG.out.rep.upd hu (fun e => by rw [HG.out.hH] at e; omega)
        clear k7 g7 a0 a1 a2 hne l0 l1 l2
        obtain ⟨k7, _⟩ := block_cells hq
        obtain ⟨k10, g10⟩ := block_cells hq10
        simp only [regCells] at k7
        simp only [zeroRegs] at k10
        have HU := Lib.hid hU
        have HRr := Lib.hid hR
        clear hu hq hq10 hU hR
        generalize wc = W6 at *
        go_wp2_with fail
        refine bodyPost_ret (v := regsV (giveRegs r A err B) pc ring) (by simp [results, Try.results14, go_sem, k10]; rfl) rfl ?_
        refine ⟨A, err, B, m', rfl, HRr.out.upd (upd10 _ _ _ _ _ _ _ _ _ _ _ _) (fun e => by rw [HG.out.hH] at e; omega), HG.out.hH, HU.out.trans (upd10 _ _ _ _ _ _ _ _ _ _ _ _) (fun x hx e => by omega), HG.out.yes, HG.out.no⟩
end
end Go.Proofs.Ytnhknnhdeegbdab
