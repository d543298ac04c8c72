/- slices.Equal at bytes -/
import Derived.Test.YtnhknnhdeegbdabTextS
namespace Go.Proofs.Ytnhknnhdeegbdab
open Go.RowKit Go.ChangeMaps

theorem byte_ne (a b : UInt8) : ((a.toNat : Int) != b.toNat) = (a != b) := by
  rw [Bool.eq_iff_iff]
  simp only [bne_iff_ne, ne_eq]
  constructor
  · intro h e; exact h (by rw [e])
  · intro h e; exact h (UInt8.toNat_inj.1 (by omega))

section
variable {w : World}
/-- two lists are alike up to k -/
def sameTo (l1 l2 : List UInt8) (k : Nat) : Prop := ∀ j, j < k → l1.getD j 0 = l2.getD j 0

set_option maxHeartbeats 1000000 in
theorem equal_len (a1 a2 : Option Addr) (n1 n2 c1 c2 : Nat) (hn : n1 ≠ n2) :
    Calls Try.prog 23 #[.slice a1 n1 c1, .slice a2 n2 c2] w fun e w' => e = .returned (.bool false) ∧ w = w' := by
  have hne : ((n1 : Int) != n2) = true := by rw [bne_iff_ne]; omega
  go_enter Try.func23, Try.ntmps23
  go_wp2
  go_ret
  exact ⟨rfl, rfl⟩

set_option maxHeartbeats 1000000 in
theorem equal_zero (a1 a2 : Option Addr) (c1 c2 : Nat) :
    Calls Try.prog 23 #[.slice a1 0 c1, .slice a2 0 c2] w fun e w' => e = .returned (.bool true) ∧ w = w' := by
  go_enter Try.func23, Try.ntmps23
  go_wp2
  refine wp_loop_rounds 1 ?_
  rw [rounds_succ]
  go_wp2
  go_ret
  exact ⟨rfl, rfl⟩

set_option maxHeartbeats 1000000 in
theorem equal_some (D1 D2 o1 o2 n c1 c2 : Nat) (l1 l2 : List UInt8) (h1 : l1.length = n) (h2 : l2.length = n) (hb : n ≤ 1000000)
    (k1 : ∀ j, j < n → w.cell? ⟨D1, o1 + j, none⟩ = some (.int .u8 (l1.getD j 0).toNat)) (k2 : ∀ j, j < n → w.cell? ⟨D2, o2 + j, none⟩ = some (.int .u8 (l2.getD j 0).toNat)) :
    Calls Try.prog 23 #[.slice (some ⟨D1, o1, none⟩) n c1, .slice (some ⟨D2, o2, none⟩) n c2] w fun e w' => e = .returned (.bool (l1 == l2)) ∧ ∃ q, w' = w.drewN q := by
  have HK1 := Lib.hid k1
  have HK2 := Lib.hid k2
  have H1 := Lib.hid h1
  have H2 := Lib.hid h2
  have hne : ((n : Int) != n) = false := by simp
  clear k1 k2 h1 h2
  go_enter Try.func23, Try.ntmps23
  go_wp2
  go_loopw [13] (fun i wr => ∃ k q : Nat, k ≤ n ∧ i = .int .i64 k ∧ sameTo l1 l2 k ∧ wr = w.drewN q) (fun i _ => (n - (intOf i)).toNat)
  case atStart => exact ⟨0, 0, by omega, rfl, fun j hj => by omega, rfl⟩
  case round =>
    obtain ⟨k, q, hk, rfl, hs, rfl⟩ := hrel
    have HS := Lib.hid hs
    clear hs
    by_cases hlt : k < n
    · have p1 := HK1.out k hlt
      have p2 := HK2.out k hlt
      have q1 : (0 : Int) ≤ k := by omega
      have q2 : (k : Int) < n := by omega
      by_cases he : l1.getD k 0 = l2.getD k 0
      · have hbe : (((l1.getD k 0).toNat : Int) != (l2.getD k 0).toNat) = false := by rw [byte_ne, he]; simp
        have HS2 : Hid (sameTo l1 l2 (k + 1)) := fun j hj => by
          by_cases e : j = k
          · subst e; exact he
          · exact HS.out j (by omega)
        generalize (l1.getD k 0).toNat = x at *
        generalize (l2.getD k 0).toNat = y at *
        clear he
        go_wp2
        go_quiet (fail)
        go_wp2
        refine ⟨⟨k + 1, _, by omega, by go_num, HS2.out, rfl⟩, by simp [intOf]; omega⟩
      · have hbe : (((l1.getD k 0).toNat : Int) != (l2.getD k 0).toNat) = true := by rw [byte_ne]; simpa using he
        have HF : Hid ((l1 == l2) = false) := by
          show _ = _
          rw [beq_eq_false_iff_ne]
          intro e; exact he (by rw [e])
        generalize (l1.getD k 0).toNat = x at *
        generalize (l2.getD k 0).toNat = y at *
        clear he
        go_wp2
        go_quiet (fail)
        go_wp2
        go_ret
        exact ⟨ret_bool HF.out.symm, _, World.drewN_drewN _ _ _⟩
    · have HT : Hid ((l1 == l2) = true) := by
        show _ = _
        rw [beq_iff_eq]
        refine List.ext_getElem (by rw [H1.out, H2.out]) (fun i h1 h2 => ?_)
        have := HS.out i (by rw [H1.out] at h1; omega)
        simpa [List.getD, h1, h2] using this
      go_wp2
      go_ret
      exact ⟨ret_bool HT.out.symm, _, rfl⟩

/-- two slices of bytes, owned or not -/
def Bytes (w : World) (v : Value) (l : List UInt8) : Prop := ∃ a c, v = .slice a l.length c ∧ (l.length = 0 ∨ ∃ D off, a = some ⟨D, off, none⟩ ∧ ∀ j, j < l.length → w.cell? ⟨D, off + j, none⟩ = some (.int .u8 (l.getD j 0).toNat))
theorem Bytes.upd {w' : World} {v : Value} {l : List UInt8} (h : Bytes w v l) (u : Upd (fun _ => False) w w') : Bytes w' v l := by
  obtain ⟨a, c, rfl, h | ⟨D, off, rfl, hc⟩⟩ := h
  · exact ⟨a, c, rfl, .inl h⟩
  · exact ⟨_, c, rfl, .inr ⟨D, off, rfl, fun j hj => (World.cell?_of_block (u.block D (World.block_lt_of_cell? _ _ (hc j hj)) (fun h => h))).trans (hc j hj)⟩⟩
theorem Bytes.of_own {B n : Nat} {v : Value} {l : List UInt8} (h : w.ownsRow B 5 1 v n (l.map byteV)) (hn : l.length = n) : Bytes w v l := by
  have h' := h
  obtain ⟨_, ⟨rfl, h0⟩ | ⟨g, cap, cur, rfl, _⟩⟩ := h
  · exact ⟨none, 0, by rw [hn, h0], .inl (by omega)⟩
  · refine ⟨_, cap, by rw [hn], .inr ⟨g, 0, rfl, fun i hi => ?_⟩⟩
    have := World.ownsRow.cells h' (g := g) rfl i (byteV (l.getD i 0)) (by simp [List.getD, hi])
    have e : (⟨g, 0, none⟩ : Addr).add i = ⟨g, 0 + i, none⟩ := by unfold Addr.add; split <;> simp_all
    rw [e] at this
    exact this
theorem equal_rep {v1 v2 : Value} {l1 l2 : List UInt8} (h1 : Bytes w v1 l1) (h2 : Bytes w v2 l2) (b1 : l1.length ≤ 1000000) :
    Calls Try.prog 23 #[v1, v2] w fun e w' => e = .returned (.bool (l1 == l2)) ∧ ∃ q, w' = w.drewN q := by
  obtain ⟨a1, c1, rfl, k1⟩ := h1
  obtain ⟨a2, c2, rfl, k2⟩ := h2
  by_cases hl : l1.length = l2.length
  · rcases Nat.eq_zero_or_pos l1.length with h0 | h0
    · have e1 := List.eq_nil_of_length_eq_zero h0
      have e2 := List.eq_nil_of_length_eq_zero (hl ▸ h0)
      subst e1; subst e2
      refine (equal_zero a1 a2 c1 c2).mono ?_
      rintro e w' ⟨rfl, rfl⟩
      exact ⟨rfl, 0, rfl⟩
    · rcases k1 with k1 | ⟨D1, o1, rfl, k1⟩
      · omega
      rcases k2 with k2 | ⟨D2, o2, rfl, k2⟩
      · omega
      rw [← hl] at k2 ⊢
      exact equal_some D1 D2 o1 o2 l1.length c1 c2 l1 l2 rfl hl.symm b1 k1 k2
  · refine (equal_len a1 a2 l1.length l2.length c1 c2 hl).mono ?_
    rintro e w' ⟨rfl, rfl⟩
    refine ⟨?_, 0, rfl⟩
    rw [show (l1 == l2) = false from by rw [beq_eq_false_iff_ne]; intro e; exact hl (by rw [e])]
end
end Go.Proofs.Ytnhknnhdeegbdab
