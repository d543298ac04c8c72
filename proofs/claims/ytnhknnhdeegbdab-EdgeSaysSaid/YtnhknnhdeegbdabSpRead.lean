/- Read. -/
import Derived.Test.YtnhknnhdeegbdabSpLoad
namespace Go.Proofs.Ytnhknnhdeegbdab
open Go.RowKit Go.ChangeMaps

def Mem.read (s : Mem) (sn addr n : Int) : Int × List UInt8 × Mem :=
  match s.sp sn with
  | none => (4, [], s)
  | some X => if n < 0 ∨ n > 256 then (1, [], s) else if mayB (s.en X) addr n 1 then (0, bytesOf s (s.en X) addr n.toNat, s.asks (s.en X) addr n.toNat) else (11, [], s)

section
variable {w : World} {s : Mem}

set_option maxRecDepth 100000 in
theorem fetch_zero (M : Nat) (sn addr : Int) (h0 : -9223372036854775808 ≤ addr) (h1 : addr ≤ 9223372036854775807) :
    Calls Try.prog 27 #[.pointer (some ⟨M, 0, none⟩), .int .i64 sn, .int .i64 addr, .int .i64 0] w fun e w' => e = .returned (.slice none 0 0) ∧ w' = w := by
  go_enter Try.func27, Try.ntmps27
  go_wp2
  refine wp_loop_rounds 1 ?_
  rw [rounds_succ]
  go_wp2
  go_ret
  exact ⟨rfl, rfl⟩

theorem fetch_any (R : Rep w s) (E : s.EnOk) (sn addr n : Int) (hw : (Lit.int .i64 sn).wf = true) {X : Nat} (h : s.sp sn = some X) (hm : mayB (s.en X) addr n 1 = true) (hn0 : 0 ≤ n) (hn1 : n ≤ 256)
    (ha0 : -9223372036854775808 ≤ addr) (ha1 : addr ≤ 9223372036854775807)
    (hb : s.pages.length ≤ 900) (hf : 1 ≤ s.frames) (hk0 : 0 ≤ s.clock) (hk : s.clock < 3000000000000000000) :
    Calls Try.prog 27 #[.pointer (some ⟨s.M, 0, none⟩), .int .i64 sn, .int .i64 addr, .int .i64 n] w fun e w' => ∃ v, e = .returned v ∧ w'.ownsRow w.heap.size 5 1 v n.toNat ((bytesOf s (s.en X) addr n.toNat).map byteV) ∧ Rep w' (s.asks (s.en X) addr n.toNat) ∧ Upd s.foot w w' := by
  by_cases hn : n = 0
  · subst hn
    refine (fetch_zero s.M sn addr ha0 ha1).mono ?_
    rintro e w' ⟨rfl, rfl⟩
    exact ⟨_, rfl, World.ownsRow_nil _ _ _ _, R, Upd.refl _ _⟩
  · obtain ⟨e1, e2, e3⟩ := mayB_entries hm (by omega)
    obtain ⟨k, rfl⟩ := Int.eq_ofNat_of_zero_le hn0
    exact fetch_rep R E sn addr k hw h e1 e2 (fun j a b => by obtain ⟨x, hx, _⟩ := e3 j a b; exact ⟨x, hx⟩) hb hf hk0 hk

set_option maxHeartbeats 1000000 in
set_option maxRecDepth 100000 in
theorem read_rep (R : Rep w s) (E : s.EnOk) (sn addr n : Int) (hw : (Lit.int .i64 sn).wf = true) (ha0 : -9223372036854775808 ≤ addr) (ha1 : addr ≤ 9223372036854775807)
    (hb : s.pages.length ≤ 900) (hf : 1 ≤ s.frames) (hk0 : 0 ≤ s.clock) (hk : s.clock < 3000000000000000000) :
    Calls Try.prog 15 #[.pointer (some ⟨s.M, 0, none⟩), .int .i64 sn, .int .i64 addr, .int .i64 n] w fun e w' => ∃ v, e = .returned (.tuple #[v, .int .i64 (s.read sn addr n).1]) ∧ w'.ownsRow w.heap.size 5 1 v (s.read sn addr n).2.1.length ((s.read sn addr n).2.1.map byteV) ∧ Rep w' (s.read sn addr n).2.2 ∧ Upd s.foot w w' := by
  have c4 := R.c4
  cases hs : s.sp sn with
  | none =>
    have L := R.lookS_none hw hs
    have HX : Hid (s.read sn addr n = (4, [], s)) := by simp [Mem.read, hs, Hid]
    have HR := Lib.hid R
    clear hs R
    go_enter Try.func15, Try.ntmps15
    go_wp2
    go_ret2
    rw [HX.out]
    exact ⟨_, rfl, World.ownsRow_nil _ _ _ _, HR.out, Upd.refl _ _⟩
  | some X =>
    have L := R.lookS_some hw hs
    by_cases hbad : n < 0 ∨ n > 256
    · have HX : Hid (s.read sn addr n = (1, [], s)) := by simp only [Mem.read, hs, Hid]; exact if_pos hbad
      have HR := Lib.hid R
      clear hs R
      rcases (show n < 0 ∨ (0 ≤ n ∧ 256 < n) by omega) with h | ⟨h, h'⟩
      all_goals
        clear hbad
        go_enter Try.func15, Try.ntmps15
        go_wp2
        go_ret2
        rw [HX.out]
        exact ⟨_, rfl, World.ownsRow_nil _ _ _ _, HR.out, Upd.refl _ _⟩
    · have h1 : 0 ≤ n := by omega
      have h7 : n ≤ 256 := by omega
      have hm := may_rep R sn addr n 1 hw hs h1 (by omega)
      clear hbad
      cases hmb : mayB (s.en X) addr n 1 with
      | false =>
        have HX : Hid (s.read sn addr n = (11, [], s)) := by simp only [Mem.read, hs, Hid, hmb]; rw [if_neg (by omega)]; rfl
        rw [hmb] at hm
        have HM := Lib.hid hm
        have HR := Lib.hid R
        clear hs R hm hmb
        go_enter Try.func15, Try.ntmps15
        go_wp2_with (go_at_call 26; refine HM.out.mono ?_; rintro e w' ⟨rfl, hu⟩; have HU := Lib.hid hu; clear hu)
        go_ret2
        rw [HX.out]
        exact ⟨_, rfl, World.ownsRow_nil _ _ _ _, HR.out.upd HU.out (fun _ _ h => h), HU.out.mono (fun _ _ h => h.elim)⟩
      | true =>
        have HX : Hid (s.read sn addr n = (0, bytesOf s (s.en X) addr n.toNat, s.asks (s.en X) addr n.toNat)) := by simp only [Mem.read, hs, Hid, hmb]; rw [if_neg (by omega)]; rfl
        rw [hmb] at hm
        have hfe : ∀ w1, Rep w1 s → Calls Try.prog 27 #[.pointer (some ⟨s.M, 0, none⟩), .int .i64 sn, .int .i64 addr, .int .i64 n] w1 fun e w' => ∃ v, e = .returned v ∧ w'.ownsRow w1.heap.size 5 1 v n.toNat ((bytesOf s (s.en X) addr n.toNat).map byteV) ∧ Rep w' (s.asks (s.en X) addr n.toNat) ∧ Upd s.foot w1 w' := fun w1 R1 =>
          fetch_any R1 E sn addr n hw hs hmb h1 h7 ha0 ha1 hb hf hk0 hk
        have HFE := Lib.hid hfe
        have HM := Lib.hid hm
        have HR := Lib.hid R
        clear hs R hm hmb hfe
        go_enter Try.func15, Try.ntmps15
        go_wp2_with (first | (go_at_call 26; refine HM.out.mono ?_; rintro e w1 ⟨rfl, hu⟩; have HU := Lib.hid hu; clear hu) | (go_at_call 27; refine (HFE.out _ (HR.out.upd HU.out (fun _ _ h => h))).mono ?_; rintro e w2 ⟨v, rfl, ho, hr, hu⟩; have HO := Lib.hid ho; have HU2 := Lib.hid hu; have HR2 := Lib.hid hr; clear hu hr ho))
        go_ret2
        rw [HX.out]
        refine ⟨_, rfl, ?_, HR2.out, (HU.out.mono (fun _ _ h => h.elim)).trans' HU2.out⟩
        obtain ⟨h1, ⟨h2, h3⟩ | ⟨g, cap, cur, h2, h3, h4⟩⟩ := HO.out
        · simp only [bytesOf_length]; exact ⟨h1, .inl ⟨h2, h3⟩⟩
        · simp only [bytesOf_length]; exact ⟨h1, .inr ⟨g, cap, cur, h2, Nat.le_trans HU.out.size h3, h4⟩⟩
end
end Go.Proofs.Ytnhknnhdeegbdab
