/- (*Man).Taken -/
import Derived.Test.YtnhknnhdeegbdabTake
namespace Go.Proofs.Ytnhknnhdeegbdab
open Go.RowKit Go.ChangeMaps

def oneB (n : Int) : Bool := n == 3 || n == 5 || (decide (12 ≤ n) && decide (n ≤ 19)) || (decide (27 ≤ n) && decide (n ≤ 29)) || n == 32 || n == 33
theorem oneB_texts (n : Int) : oneB n = decide (textsN n ≠ 0) := by
  rw [Bool.eq_iff_iff]
  simp only [oneB, textsN, Bool.or_eq_true, Bool.and_eq_true, decide_eq_true_eq, beq_iff_eq]
  constructor
  · intro h
    split
    · decide
    · split
      · decide
      · omega
  · intro h
    split at h
    · omega
    · split at h
      · omega
      · simp at h

theorem oneB_true (n : Int) (h : (3 ≤ n ∧ n ≤ 3) ∨ (5 ≤ n ∧ n ≤ 5) ∨ (12 ≤ n ∧ n ≤ 19) ∨ (27 ≤ n ∧ n ≤ 29) ∨ (32 ≤ n ∧ n ≤ 32) ∨ (33 ≤ n ∧ n ≤ 33)) : oneB n = true := by
  simp only [oneB, Bool.or_eq_true, Bool.and_eq_true, decide_eq_true_eq, beq_iff_eq]
  omega
theorem oneB_false (n : Int) (h : n < 3 ∨ (4 ≤ n ∧ n ≤ 4) ∨ (5 < n ∧ n < 12) ∨ (19 < n ∧ n < 27) ∨ (29 < n ∧ n < 32) ∨ 33 < n) : oneB n = false := by
  rw [← Bool.not_eq_true]
  simp only [oneB, Bool.or_eq_true, Bool.and_eq_true, decide_eq_true_eq, beq_iff_eq]
  omega

def manGetAt (m : ManS) (B : Int) (k : Nat) : Option UInt8 := manByte m (B + k) 1
def allSome (get : Nat → Option UInt8) (n : Nat) : Bool := (List.range n).all fun j => (get j).isSome
def manRead (m : ManS) (B C : Int) : List UInt8 × Int := if allSome (manGetAt m B) C.toNat then (accOf (manGetAt m B) C.toNat, 0) else ([], 11)

def TakenPost (w : World) (c : CallS × Int) (e : Ending) (w' : World) : Prop :=
  ∃ d, e = .returned (.tuple #[callV c.1 d, .int .i64 c.2]) ∧ w'.ownsRow w.heap.size 5 1 d c.1.data.length (c.1.data.map byteV) ∧ Upd (fun _ => False) w w'

structure MIn (w : World) (m : ManS) (c5 c6 c8 : Array Value) (W : World) : Prop where
  q5 : W.heap[w.heap.size]? = some (.cells c5 26 (0, 0))
  q6 : W.heap[w.heap.size + 1]? = some (.cells c6 57 (0, 0))
  q8 : W.heap[w.heap.size + 1 + 1]? = some (.cells c8 57 (0, 0))
  rep : ManRep W m
  upd : Upd (fun _ => False) w W

section
variable {w : World} {m : ManS}

theorem mtext_in {c5 c6 c8 : Array Value} {W : World} (I : MIn w m c5 c6 c8 W) (a : Int) :
    Calls Try.prog 9 #[.pointer (some ⟨m.H, 0, none⟩), .int .u32 a] W fun e w' => e = .returned (.tuple #[.string ⟨(manText m a).1.toArray⟩, .int .i64 (manText m a).2]) ∧
      (∀ i, w'.cell? ⟨w.heap.size, i, none⟩ = c5[i]?) ∧ (∀ i, w'.cell? ⟨w.heap.size + 1, i, none⟩ = c6[i]?) ∧ (∀ i, w'.frozen? ⟨w.heap.size + 1, i, none⟩ = false) ∧ (∀ i, w'.cell? ⟨w.heap.size + 1 + 1, i, none⟩ = c8[i]?) ∧ (∀ i, w'.frozen? ⟨w.heap.size + 1 + 1, i, none⟩ = false) ∧
      Hid (MIn w m c5 c6 c8 w') := by
  refine (manText_rep I.rep a).mono ?_
  rintro e w' ⟨rfl, hu⟩
  have keep : ∀ {b : Nat} {o : Obj}, W.heap[b]? = some o → w'.heap[b]? = some o := fun {b o} ho =>
    (hu.block b (Array.getElem?_eq_some_iff.1 ho).1 (fun hf => hf)).trans ho
  have p5 := keep I.q5
  have p6 := keep I.q6
  have p8 := keep I.q8
  exact ⟨rfl, (block_cells p5).1, (block_cells p6).1, (block_cells p6).2, (block_cells p8).1, (block_cells p8).2, p5, p6, p8, I.rep.upd hu (fun h => h), I.upd.trans' hu⟩

theorem takenPost_of {W w' : World} (u0 : Upd (fun _ => False) w W) (u : Upd (fun b => b = w.heap.size + 1) W w') (c : CallS × Int) (d : Value) (hd : w'.ownsRow w.heap.size 5 1 d c.1.data.length (c.1.data.map byteV)) :
    TakenPost w c (.returned (.tuple #[callV c.1 d, .int .i64 c.2])) w' :=
  ⟨d, rfl, hd, u0.trans u (fun x hx e => by omega)⟩

theorem takenPost_err {W w' : World} (u0 : Upd (fun _ => False) w W) (u : Upd (fun b => b = w.heap.size + 1) W w') (err : Int) :
    TakenPost w (CallS.zero, err) (.returned (.tuple #[callV CallS.zero (.slice none 0 0), .int .i64 err])) w' := by
  refine takenPost_of u0 u (CallS.zero, err) (.slice none 0 0) ?_
  exact World.ownsRow_nil _ _ _ _

theorem allSome_succ (get : Nat → Option UInt8) (k : Nat) : allSome get (k + 1) = (allSome get k && (get k).isSome) := by
  simp [allSome, List.range_succ, List.all_append]
theorem allSome_false {get : Nat → Option UInt8} {n k : Nat} (hk : k < n) (h : (get k).isSome = false) : allSome get n = false := by
  rw [allSome, List.all_eq_false]
  exact ⟨k, List.mem_range.2 hk, by simp [h]⟩

theorem eight_arg {r : Nat → Int} {m : ManS} (h0 : signed32 (r 0) = 8) (h : signed32 (r 3) < 0 ∨ 256 < signed32 (r 3)) : takeEnd (manRead m) r 0 [] [] = (.zero, 1) := by
  unfold takeEnd
  rw [if_pos h0, if_pos h]
theorem eight_fault {r : Nat → Int} {m : ManS} (h0 : signed32 (r 0) = 8) (h : ¬ (signed32 (r 3) < 0 ∨ 256 < signed32 (r 3))) (ha : allSome (manGetAt m (signed32 (r 2))) (signed32 (r 3)).toNat = false) : takeEnd (manRead m) r 0 [] [] = (.zero, 11) := by
  unfold takeEnd
  rw [if_pos h0, if_neg h]
  have hm : manRead m (signed32 (r (2 + 0))) (signed32 (r (3 + 0))) = ([], 11) := by unfold manRead; exact if_neg (by simpa using ha)
  rw [hm]; rfl
theorem eight_good {r : Nat → Int} {m : ManS} (h0 : signed32 (r 0) = 8) (h : ¬ (signed32 (r 3) < 0 ∨ 256 < signed32 (r 3))) (ha : allSome (manGetAt m (signed32 (r 2))) (signed32 (r 3)).toNat = true) :
    takeEnd (manRead m) r 0 [] [] = (⟨signed32 (r 0), signed32 (r 1), signed32 (r 2), signed32 (r 3), [], [], accOf (manGetAt m (signed32 (r 2))) (signed32 (r 3)).toNat⟩, 0) := by
  unfold takeEnd
  rw [if_pos h0, if_neg h]
  have hm : manRead m (signed32 (r (2 + 0))) (signed32 (r (3 + 0))) = (accOf (manGetAt m (signed32 (r 2))) (signed32 (r 3)).toNat, 0) := by unfold manRead; exact if_pos ha
  rw [hm]; rfl

theorem owns_slice {w : World} {base e size n : Nat} {v : Value} {xs : List Value} (h : w.ownsRow base e size v n xs) : ∃ x y z, v = .slice x y z := by
  obtain ⟨_, ⟨h, _⟩ | ⟨g, cap, cur, h, _⟩⟩ := h
  · exact ⟨_, _, _, h⟩
  · exact ⟨_, _, _, h⟩

/-- the two boxes of calls while the bytes are read -/
structure EightIn (w : World) (m : ManS) (num A B C : Int) (v : Value) (xs : List Value) (k : Nat) (W : World) : Prop where
  q6 : W.heap[w.heap.size + 1]? = some (.cells zeroCall 57 (0, 0))
  q8 : W.heap[w.heap.size + 1 + 1]? = some (.cells #[.int .i64 num, .int .i64 A, .int .i64 B, .int .i64 C, .string ⟨#[]⟩, .string ⟨#[]⟩, v] 57 (0, 0))
  own : W.ownsRow (w.heap.size + 1 + 1 + 1) 5 1 v k xs
  rep : ManRep W m
  upd : Upd (fun _ => False) w W

theorem EightIn.step {num A B C : Int} {v v' : Value} {xs xs' : List Value} {k k' : Nat} {W w2 : World} (E : EightIn w m num A B C v xs k W) (hH : m.H < w.heap.size) (u : Upd (fun b => w.heap.size + 1 + 1 + 1 ≤ b) W w2)
    (ho : w2.ownsRow (w.heap.size + 1 + 1 + 1) 5 1 v' k' xs') : EightIn w m num A B C v' xs' k' (w2.setCell ⟨w.heap.size + 1 + 1, 6, none⟩ v') := by
  have u8 : Upd (fun b => b = w.heap.size + 1 + 1) w2 (w2.setCell ⟨w.heap.size + 1 + 1, 6, none⟩ v') := (Upd.refl (fun b => b = w.heap.size + 1 + 1) w2).setCell (.inl rfl) _
  have keep : ∀ {b : Nat} {o : Obj}, b < w.heap.size + 1 + 1 + 1 → W.heap[b]? = some o → w2.heap[b]? = some o := fun {b o} hb ho => (u.block b (Array.getElem?_eq_some_iff.1 ho).1 (by omega)).trans ho
  refine ⟨?_, ?_, ownsRow_upd ho u8 (fun b hb e => by omega), (E.rep.upd u (by omega)).upd u8 (by omega), (E.upd.trans u (fun x hx e => by omega)).trans u8 (fun x hx e => by omega)⟩
  · exact (u8.block _ (Array.getElem?_eq_some_iff.1 (keep (by omega) E.q6)).1 (by omega)).trans (keep (by omega) E.q6)
  · exact Go.heap_setCell_same _ _ _ _ _ _ (keep (by omega) E.q8)

end
end Go.Proofs.Ytnhknnhdeegbdab
