/- (*Man).Put -/
import Derived.Test.YtnhknnhdeegbdabMan
namespace Go.Proofs.Ytnhknnhdeegbdab
open Go.RowKit Go.ChangeMaps

def ManS.put (m : ManS) (a : Int) (b : UInt8) : ManS := { m with byte := fun q i => if q = (a / 16).toNat ∧ i = (a % 16).toNat then b else m.byte q i }

theorem ManRep.put {w : World} {m : ManS} (R : ManRep w m) {a : Int} (h0 : 0 ≤ a) (h1 : a ≤ 1023) (b : UInt8) :
    ManRep (w.setCell ⟨m.H, 28 + (a / 16).toNat * 18 + 2 + (a % 16).toNat, none⟩ (.int .u8 b.toNat)) (m.put a b) := by
  refine (World.rowIs.set R (28 + (a / 16).toNat * 18 + 2 + (a % 16).toNat) (.int .u8 b.toNat)).congr (fun j hj => ?_)
  have hq : (a / 16).toNat < 64 := by omega
  have hi : (a % 16).toNat < 16 := by omega
  obtain ⟨q, hqq⟩ : ∃ q, q = (a / 16).toNat := ⟨_, rfl⟩
  obtain ⟨i, hii⟩ : ∃ i, i = (a % 16).toNat := ⟨_, rfl⟩
  rw [← hqq] at hq ⊢
  rw [← hii] at hi ⊢
  have hby : ∀ q' i', (m.put a b).byte q' i' = if q' = q ∧ i' = i then b else m.byte q' i' := fun q' i' => by rw [hqq, hii]; rfl
  by_cases e : j = 28 + q * 18 + 2 + i
  · rw [if_pos e]
    unfold manCell
    rw [if_neg (by omega), if_neg (by omega), if_neg (by omega)]
    have e1 : (j - 28) / 18 = q := by omega
    have e2 : (j - 28) % 18 - 2 = i := by omega
    rw [e1, e2, hby, if_pos ⟨rfl, rfl⟩]
  · rw [if_neg e]
    unfold manCell
    by_cases c1 : j < 28
    · rw [if_pos c1, if_pos c1]; rfl
    · rw [if_neg c1, if_neg c1]
      by_cases c2 : (j - 28) % 18 = 0
      · rw [if_pos c2, if_pos c2]; rfl
      · rw [if_neg c2, if_neg c2]
        by_cases c3 : (j - 28) % 18 = 1
        · rw [if_pos c3, if_pos c3]; rfl
        · rw [if_neg c3, if_neg c3, hby, if_neg (fun h => e (by omega))]

section
variable {w : World} {m : ManS}
set_option maxHeartbeats 1000000 in
theorem mput_rep (R : ManRep w m) (a : Int) (b : UInt8) :
    Calls Try.prog 25 #[.pointer (some ⟨m.H, 0, none⟩), .int .i64 a, .int .u8 b.toNat] w fun e w' =>
      if (manByte m a 2).isSome then e = .returned (.bool true) ∧ ManRep w' (m.put a b) ∧ Upd (fun x => x = m.H) w w' else e = .returned (.bool false) ∧ w' = w := by
  have hby := byte_rep R a 2
  cases hb : manByte m a 2 with
  | none =>
    rw [hb] at hby
    have HB := Lib.hid hby
    simp only [Option.isSome_none, Bool.false_eq_true, if_false]
    clear hby hb R
    go_enter Try.func25, Try.ntmps25
    go_wp2_with (go_at_call 20; refine HB.out.mono ?_; rintro e w' ⟨rfl, rfl⟩)
    go_ret
    exact ⟨rfl, rfl⟩
  | some c =>
    rw [hb] at hby
    have hrg : 0 ≤ a ∧ a ≤ 1023 := by
      unfold manByte at hb
      split at hb
      · cases hb
      · omega
    obtain ⟨h0, h1⟩ := hrg
    have HB := Lib.hid hby
    have hc := R.byte (q := (a / 16).toNat) (i := (a % 16).toNat) (by omega) (by omega)
    have hf := World.rowIs.frozen R (28 + (a / 16).toNat * 18 + 2 + (a % 16).toNat)
    have HP := Lib.hid (R.put h0 h1 b)
    simp only [Option.isSome_some, if_true]
    clear hby hb R
    go_enter Try.func25, Try.ntmps25
    go_wp2_with (go_at_call 20; refine HB.out.mono ?_; rintro e w' ⟨rfl, rfl⟩)
    go_ret
    exact ⟨rfl, HP.out, (Upd.refl (fun x => x = m.H) w).setCell (.inl rfl) _⟩
end
end Go.Proofs.Ytnhknnhdeegbdab
