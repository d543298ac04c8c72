/- Load, Read. -/
import Derived.Test.YtnhknnhdeegbdabSpFetch
namespace Go.Proofs.Ytnhknnhdeegbdab
open Go.RowKit Go.ChangeMaps

theorem mayAll_get {en : Int → Option (Nat × Int)} {want lo : Int} {c : Nat} (h : mayAll en want lo c = true) (j : Nat) (hj : j < c) : ∃ x, en (lo + j) = some x ∧ bits BinOp.and IntKind.i64 x.2 want = want := by
  rw [mayAll, List.all_eq_true] at h
  have := h j (by simpa using hj)
  cases hx : en (lo + j) with
  | none => rw [hx] at this; simp [okE] at this
  | some x => rw [hx] at this; simp [okE] at this; exact ⟨x, rfl, this⟩
theorem mayB_entries {en : Int → Option (Nat × Int)} {addr n want : Int} (h : mayB en addr n want = true) (hn : 1 ≤ n) : 0 ≤ addr ∧ addr + n ≤ 1024 ∧ ∀ j, addr ≤ j → j < addr + n → ∃ x, en (j / 16) = some x ∧ bits BinOp.and IntKind.i64 x.2 want = want := by
  have hq : (n == 0) = false := by simp; omega
  simp [mayB, hq] at h
  obtain ⟨⟨h1, h2⟩, h3⟩ := h
  refine ⟨h1, by omega, fun j hj1 hj2 => ?_⟩
  obtain ⟨x, hx⟩ := mayAll_get h3 (j / 16 - addr / 16).toNat (by omega)
  rw [show addr / 16 + ((j / 16 - addr / 16).toNat : Int) = j / 16 by omega] at hx
  exact ⟨x, hx⟩

theorem own_one {w : World} {B : Nat} {v : Value} {s : Mem} {en : Int → Option (Nat × Int)} {addr : Int} (h : w.ownsRow B 5 1 v 1 ((bytesOf s en addr 1).map byteV)) : ∃ g cap, v = .slice (some ⟨g, 0, none⟩) 1 cap ∧ w.cell? ⟨g, 0, none⟩ = some (.int .u8 (byteOf s en addr).toNat) := by
  have h' := h
  obtain ⟨_, ⟨_, h0⟩ | ⟨g, cap, cur, rfl, _⟩⟩ := h
  · omega
  · refine ⟨g, cap, rfl, ?_⟩
    have := World.ownsRow.cells h' (g := g) rfl 0 (byteV (byteOf s en addr)) (by simp [bytesOf])
    simpa [Addr.add, byteV] using this

def Mem.load (s : Mem) (sn addr want : Int) : Int × UInt8 × Mem :=
  match s.sp sn with
  | none => (4, 0, s)
  | some X => if want < 1 ∨ want > 7 then (1, 0, s) else if mayB (s.en X) addr 1 want then (0, byteOf s (s.en X) addr, s.asks (s.en X) addr 1) else (11, 0, s)

section
variable {w : World} {s : Mem}

set_option maxHeartbeats 1000000 in
set_option maxRecDepth 100000 in
theorem load_rep (R : Rep w s) (E : s.EnOk) (sn addr want : Int) (hw : (Lit.int .i64 sn).wf = true) (ha0 : 0 ≤ addr) (ha1 : addr ≤ 4294967295)
    (hb : s.pages.length ≤ 900) (hf : 1 ≤ s.frames) (hk0 : 0 ≤ s.clock) (hk : s.clock < 3000000000000000000) :
    Calls Try.prog 19 #[.pointer (some ⟨s.M, 0, none⟩), .int .i64 sn, .int .u32 addr, .int .i64 want] w fun e w' => e = .returned (.tuple #[.int .u8 (s.load sn addr want).2.1.toNat, .int .i64 (s.load sn addr want).1]) ∧ Rep w' (s.load sn addr want).2.2 ∧ Upd s.foot w w' := by
  have c4 := R.c4
  cases hs : s.sp sn with
  | none =>
    have L := R.lookS_none hw hs
    have HX : Hid (s.load sn addr want = (4, 0, s)) := by simp [Mem.load, hs, Hid]
    have HR := Lib.hid R
    clear hs R
    go_enter Try.func19, Try.ntmps19
    go_wp2
    go_ret2
    rw [HX.out]
    exact ⟨rfl, HR.out, Upd.refl _ _⟩
  | some X =>
    have L := R.lookS_some hw hs
    by_cases hbad : want < 1 ∨ want > 7
    · have HX : Hid (s.load sn addr want = (1, 0, s)) := by simp only [Mem.load, hs, Hid]; exact if_pos hbad
      have HR := Lib.hid R
      clear hs R
      rcases (show want < 1 ∨ (1 ≤ want ∧ 7 < want) by omega) with h | ⟨h, h'⟩
      all_goals
        clear hbad
        go_enter Try.func19, Try.ntmps19
        go_wp2
        go_ret2
        rw [HX.out]
        exact ⟨rfl, HR.out, Upd.refl _ _⟩
    · have hm := may_rep R sn addr 1 want hw hs (by omega) (by omega)
      have h1 : 1 ≤ want := by omega
      have h7 : want ≤ 7 := by omega
      clear hbad
      cases hmb : mayB (s.en X) addr 1 want with
      | false =>
        have HX : Hid (s.load sn addr want = (11, 0, s)) := by simp only [Mem.load, hs, Hid, hmb]; rw [if_neg (by omega)]; rfl
        rw [hmb] at hm
        have HM := Lib.hid hm
        have HR := Lib.hid R
        clear hs R hm hmb
        go_enter Try.func19, Try.ntmps19
        go_wp2_with (go_at_call 26; refine HM.out.mono ?_; rintro e w' ⟨rfl, hu⟩; have HU := Lib.hid hu; clear hu)
        go_ret2
        rw [HX.out]
        exact ⟨rfl, HR.out.upd HU.out (fun _ _ h => h), HU.out.mono (fun _ _ h => h.elim)⟩
      | true =>
        have HX : Hid (s.load sn addr want = (0, byteOf s (s.en X) addr, s.asks (s.en X) addr 1)) := by simp only [Mem.load, hs, Hid, hmb]; rw [if_neg (by omega)]; rfl
        rw [hmb] at hm
        obtain ⟨_, e2, e3⟩ := mayB_entries hmb (by omega)
        have hfe : ∀ w1, Rep w1 s → Calls Try.prog 27 #[.pointer (some ⟨s.M, 0, none⟩), .int .i64 sn, .int .i64 addr, .int .i64 1] w1 fun e w' => ∃ v, e = .returned v ∧ w'.ownsRow w1.heap.size 5 1 v 1 ((bytesOf s (s.en X) addr 1).map byteV) ∧ Rep w' (s.asks (s.en X) addr 1) ∧ Upd s.foot w1 w' := fun w1 R1 =>
          fetch_rep R1 E sn addr 1 hw hs ha0 e2 (fun j a b => by obtain ⟨x, hx, _⟩ := e3 j a b; exact ⟨x, hx⟩) hb hf hk0 hk
        have HFE := Lib.hid hfe
        have HM := Lib.hid hm
        have HR := Lib.hid R
        clear hs R hm hmb hfe e2 e3
        go_enter Try.func19, Try.ntmps19
        go_wp2_with (first | (go_at_call 26; refine HM.out.mono ?_; rintro e w1 ⟨rfl, hu⟩; have HU := Lib.hid hu; clear hu) | (go_at_call 27; refine (HFE.out _ (HR.out.upd HU.out (fun _ _ h => h))).mono ?_; rintro e w2 ⟨v, rfl, ho, hr, hu⟩; obtain ⟨g, cap, rfl, hc⟩ : ∃ g cap, v = .slice (some ⟨g, 0, none⟩) 1 cap ∧ w2.cell? ⟨g, 0, none⟩ = some (.int .u8 (byteOf s (s.en X) addr).toNat) := (own_one ho); have HU2 := Lib.hid hu; have HR2 := Lib.hid hr; clear hu hr ho))
        go_ret2
        rw [HX.out]
        exact ⟨rfl, HR2.out, (HU.out.mono (fun _ _ h => h.elim)).trans' HU2.out⟩
end
end Go.Proofs.Ytnhknnhdeegbdab
