import Derived.Test.YtnhknnhdeegbdabLib
namespace Go.Proofs.Ytnhknnhdeegbdab
open Go.RowKit

/-- how many of these pages are in frames -/
def hereN (hr : Nat → Bool) (l : List Nat) : Nat := (l.filter hr).length
theorem hereN_snoc (hr : Nat → Bool) (l : List Nat) (x : Nat) : hereN hr (l ++ [x]) = hereN hr l + if hr x then 1 else 0 := by
  unfold hereN; rw [List.filter_append]; by_cases h : hr x <;> simp [h]
theorem hereN_le (hr : Nat → Bool) (l : List Nat) : hereN hr l ≤ l.length := List.length_filter_le _ _

set_option maxHeartbeats 400000 in
theorem here_any (M P n cap off : Nat) (l : List Nat) (hr : Nat → Bool) (w : World) (hn : l.length = n) (hb : n ≤ 1000)
    (c3 : w.cell? ⟨M, 3, none⟩ = some (.slice (some ⟨P, off, none⟩) n cap))
    (hp : ∀ k, k < n → w.cell? ⟨P, off + k, none⟩ = some (.pointer (some ⟨l.getD k 0, 0, none⟩)))
    (hh : ∀ k, k < n → w.cell? ⟨l.getD k 0, 17, none⟩ = some (.bool (hr (l.getD k 0)))) :
    Calls Try.prog 30 #[.pointer (some ⟨M, 0, none⟩)] w fun e w' => e = .returned (.int .i64 (hereN hr l)) ∧ w' = w := by
  have HN := Lib.hid hn; clear hn
  have HP := Lib.hid hp; clear hp
  have HH := Lib.hid hh; clear hh
  go_enter Try.func30, Try.ntmps30
  go_wp2
  go_loop [3, 11] (fun c i => ∃ k : Nat, k ≤ n ∧ i = .int .i64 k ∧ c = .int .i64 (hereN hr (l.take k))) (fun _ i => n - (intOf i).toNat)
  case atStart => exact ⟨0, Nat.zero_le _, rfl, by simp [hereN]⟩
  case round =>
    obtain ⟨k, hk, rfl, rfl⟩ := hrel
    have hle := hereN_le hr (l.take k)
    have hl2 : (l.take k).length ≤ k := List.length_take_le _ _
    by_cases hlt : k < n
    · have p1 := HP.out k hlt
      have p2 := HH.out k hlt
      have HS : Hid (hereN hr (l.take (k + 1)) = hereN hr (l.take k) + if hr (l.getD k 0) then 1 else 0) := by rw [take_snocN l k (by rw [HN.out]; exact hlt)]; exact hereN_snoc _ _ _
      generalize l.getD k 0 = x at *
      cases hx : hr x with
      | true =>
        have HX := Lib.hid hx; rw [hx] at p2; clear hx
        go_wp2
        go_round
        case rel => exact ⟨k + 1, by omega, by go_num, by rw [HS.out, HX.out]; go_num⟩
        case measure => simp [intOf]; omega
      | false =>
        have HX := Lib.hid hx; rw [hx] at p2; clear hx
        go_wp2
        go_round
        case rel => exact ⟨k + 1, by omega, by go_num, by rw [HS.out, HX.out]; simp⟩
        case measure => simp [intOf]; omega
    · go_wp2
      go_ret
      have : k = n := by omega
      subst this
      exact ⟨ret_int (by rw [List.take_of_length_le (by rw [HN.out]; exact Nat.le_refl _)]), rfl⟩
end Go.Proofs.Ytnhknnhdeegbdab
