/- Write. -/
import Derived.Test.YtnhknnhdeegbdabSpLay
namespace Go.Proofs.Ytnhknnhdeegbdab
open Go.RowKit Go.ChangeMaps

/-- what a memory is after a write, and what is answered -/
inductive Wrote (s : Mem) (sn addr : Int) (data : List UInt8) : Int → Mem → Prop
  | none (h : s.sp sn = Option.none) : Wrote s sn addr data 4 s
  | long (X : Nat) (h : s.sp sn = some X) (hl : 256 < data.length) : Wrote s sn addr data 1 s
  | fault (X : Nat) (h : s.sp sn = some X) (hl : data.length ≤ 256) (hm : mayB (s.en X) addr data.length 2 = false) : Wrote s sn addr data 11 s
  | empty (X : Nat) (h : s.sp sn = some X) (hl : data.length = 0) : Wrote s sn addr data 0 s
  | full (X : Nat) (h : s.sp sn = some X) (h1 : 1 ≤ data.length) (hl : data.length ≤ 256) (hm : mayB (s.en X) addr data.length 2 = true) (hr : ¬ (s.sharedIn (s.en X) addr data.length : Int) ≤ s.frames + s.slots - s.pages.length) : Wrote s sn addr data 6 s
  | done (X : Nat) (t : Mem) (h : s.sp sn = some X) (h1 : 1 ≤ data.length) (hl : data.length ≤ 256) (hm : mayB (s.en X) addr data.length 2 = true) (hr : (s.sharedIn (s.en X) addr data.length : Int) ≤ s.frames + s.slots - s.pages.length) (ht : LayTo s X addr data data.length t) : Wrote s sn addr data 0 t

/-- a slice of bytes that is not the memory's own -/
def BytesAt (w : World) (F : Nat → Prop) (da : Option Addr) (data : List UInt8) : Prop :=
  data.length = 0 ∨ ∃ D off, da = some ⟨D, off, none⟩ ∧ ¬ F D ∧ D < w.heap.size ∧ ∀ j, j < data.length → w.cell? ⟨D, off + j, none⟩ = some (.int .u8 (data.getD j 0).toNat)

theorem BytesAt.upd {w w' : World} {F G : Nat → Prop} {da : Option Addr} {data : List UInt8} (h : BytesAt w F da data) (u : Upd G w w') (hG : ∀ x, x < w.heap.size → G x → F x) : BytesAt w' F da data := by
  rcases h with h | ⟨D, off, h1, h2, h3, h4⟩
  · exact .inl h
  · exact .inr ⟨D, off, h1, h2, Nat.lt_of_lt_of_le h3 u.size, fun j hj => (World.cell?_of_block (u.block D h3 (fun g => h2 (hG D h3 g)))).trans (h4 j hj)⟩

section
variable {w : World} {s : Mem}

theorem lay_any (R : Rep w s) (E : s.EnOk) (sn addr : Int) (data : List UInt8) (hw : (Lit.int .i64 sn).wf = true) {X : Nat} (h : s.sp sn = some X) (ha0 : -9223372036854775808 ≤ addr) (ha1 : addr ≤ 9223372036854775807)
    (hl : data.length ≤ 256) (hm : mayB (s.en X) addr data.length 2 = true) (da : Option Addr) (cap : Nat) (hd : BytesAt w s.foot da data)
    (hus : ∀ b, b ∈ s.pages → (s.pg b).users ≤ 1000000) (hb : s.pages.length ≤ 500) (hf : 1 ≤ s.frames) (hf2 : s.frames ≤ 64) (hs0 : 0 ≤ s.slots) (hs1 : s.slots ≤ 64) (hp : (s.pages.length : Int) ≤ s.frames + s.slots) (hk0 : 0 ≤ s.clock) (hk : s.clock < 3000000000000000000) :
    Calls Try.prog 29 #[.pointer (some ⟨s.M, 0, none⟩), .int .i64 sn, .int .i64 addr, .slice da data.length cap] w fun e w' => ∃ r t, e = .returned (.int .i64 r) ∧ Wrote s sn addr data r t ∧ Rep w' t ∧ Upd s.foot w w' ∧ ∀ x, t.foot x → s.foot x ∨ w.heap.size ≤ x := by
  rcases Nat.eq_zero_or_pos data.length with h0 | h0
  · rw [h0]
    refine (lay_none R sn addr ha0 ha1 da cap hb hf hf2 hs0 hs1 hp).mono ?_
    rintro e w' ⟨rfl, q, rfl⟩
    exact ⟨0, s, rfl, .empty X h h0, R.drewN q, (Upd.refl _ _).drewN q, fun _ h => .inl h⟩
  · obtain ⟨e1, e2, e3⟩ := mayB_entries hm (by omega)
    have hen : ∀ j, addr ≤ j → j < addr + data.length → ∃ x, s.en X (j / 16) = some x := fun j a b => by obtain ⟨x, hx, _⟩ := e3 j a b; exact ⟨x, hx⟩
    rcases hd with hd | ⟨D, off, rfl, hD, hDl, hd⟩
    · omega
    by_cases hroom : (s.sharedIn (s.en X) addr data.length : Int) ≤ s.frames + s.slots - s.pages.length
    · refine (lay_loop R E sn addr data.length hw h e1 (by omega) e2 hen data rfl hl D off cap hD hDl hd hus hb hf hf2 hs0 hs1 hk0 hk hroom).mono ?_
      rintro e w' ⟨rfl, t, ht, hr, hu, hfo⟩
      exact ⟨0, t, rfl, .done X t h (by omega) hl hm hroom ht, hr, hu, hfo⟩
    · refine (lay_full R E sn addr data.length hw h e1 (by omega) e2 hen _ cap hb hf hf2 hs0 hs1 hroom).mono ?_
      rintro e w' ⟨rfl, q, rfl⟩
      exact ⟨6, s, rfl, .full X h (by omega) hl hm hroom, R.drewN q, (Upd.refl _ _).drewN q, fun _ h => .inl h⟩

set_option maxHeartbeats 1000000 in
set_option maxRecDepth 100000 in
theorem write_rep (R : Rep w s) (E : s.EnOk) (sn addr : Int) (data : List UInt8) (hw : (Lit.int .i64 sn).wf = true) (ha0 : -9223372036854775808 ≤ addr) (ha1 : addr ≤ 9223372036854775807)
    (hmx : data.length ≤ 9223372036854775807) (da : Option Addr) (cap : Nat) (hd : BytesAt w s.foot da data)
    (hus : ∀ b, b ∈ s.pages → (s.pg b).users ≤ 1000000) (hb : s.pages.length ≤ 500) (hf : 1 ≤ s.frames) (hf2 : s.frames ≤ 64) (hs0 : 0 ≤ s.slots) (hs1 : s.slots ≤ 64) (hp : (s.pages.length : Int) ≤ s.frames + s.slots) (hk0 : 0 ≤ s.clock) (hk : s.clock < 3000000000000000000) :
    Calls Try.prog 24 #[.pointer (some ⟨s.M, 0, none⟩), .int .i64 sn, .int .i64 addr, .slice da data.length cap] w fun e w' => ∃ r t, e = .returned (.int .i64 r) ∧ Wrote s sn addr data r t ∧ Rep w' t ∧ Upd s.foot w w' ∧ ∀ x, t.foot x → s.foot x ∨ w.heap.size ≤ x := by
  have c4 := R.c4
  cases hs : s.sp sn with
  | none =>
    have L := R.lookS_none hw hs
    have HX : Hid (Wrote s sn addr data 4 s) := .none hs
    have HR := Lib.hid R
    clear hs R
    go_enter Try.func24, Try.ntmps24
    go_wp2
    go_ret
    exact ⟨4, s, rfl, HX.out, HR.out, Upd.refl _ _, fun _ h => .inl h⟩
  | some X =>
    have L := R.lookS_some hw hs
    by_cases hbad : 256 < data.length
    · have HX : Hid (Wrote s sn addr data 1 s) := .long X hs hbad
      have HR := Lib.hid R
      clear hs R
      generalize data.length = n at *
      go_enter Try.func24, Try.ntmps24
      go_wp2
      go_ret
      exact ⟨1, s, rfl, HX.out, HR.out, Upd.refl _ _, fun _ h => .inl h⟩
    · have hm := may_rep R sn addr data.length 2 hw hs (by omega) (by omega)
      cases hmb : mayB (s.en X) addr data.length 2 with
      | false =>
        have HX : Hid (Wrote s sn addr data 11 s) := .fault X hs (by omega) hmb
        rw [hmb] at hm
        have HM := Lib.hid hm
        have HR := Lib.hid R
        clear hs R hm hmb hd
        generalize data.length = n at *
        go_enter Try.func24, Try.ntmps24
        go_wp2_with (go_at_call 26; refine HM.out.mono ?_; rintro e w' ⟨rfl, hu⟩; have HU := Lib.hid hu; clear hu)
        go_ret
        exact ⟨11, s, rfl, HX.out, HR.out.upd HU.out (fun _ _ h => h), HU.out.mono (fun _ _ h => h.elim), fun _ h => .inl h⟩
      | true =>
        rw [hmb] at hm
        have hly : ∀ w1, Upd (fun _ => False) w w1 → Calls Try.prog 29 #[.pointer (some ⟨s.M, 0, none⟩), .int .i64 sn, .int .i64 addr, .slice da data.length cap] w1 fun e w' => ∃ r t, e = .returned (.int .i64 r) ∧ Wrote s sn addr data r t ∧ Rep w' t ∧ Upd s.foot w w' ∧ ∀ x, t.foot x → s.foot x ∨ w.heap.size ≤ x := fun w1 u1 =>
          (lay_any (R.upd u1 (fun _ _ h => h)) E sn addr data hw hs ha0 ha1 (by omega) hmb da cap (hd.upd u1 (fun _ _ h => h.elim)) hus hb hf hf2 hs0 hs1 hp hk0 hk).mono (by
            rintro e w' ⟨r, t, h1, h2, h3, h4, h5⟩
            exact ⟨r, t, h1, h2, h3, (u1.mono (fun _ _ h => h.elim)).trans' h4, fun x hx => by rcases h5 x hx with h | h; exact .inl h; exact .inr (Nat.le_trans u1.size h)⟩)
        have HLy := Lib.hid hly
        have HM := Lib.hid hm
        clear hs R hm hmb hd hly
        generalize hnn : data.length = n at *
        clear hnn
        go_enter Try.func24, Try.ntmps24
        go_wp2_with (first | (go_at_call 26; refine HM.out.mono ?_; rintro e w1 ⟨rfl, hu⟩; have HU := Lib.hid hu; clear hu) | (go_at_call 29; refine (HLy.out _ HU.out).mono ?_; rintro e w2 ⟨r, t, rfl, h1, h2, h3, h4⟩; have H1 := Lib.hid h1; have H2 := Lib.hid h2; have H3 := Lib.hid h3; have H4 := Lib.hid h4; clear h1 h2 h3 h4))
        go_ret
        exact ⟨r, t, rfl, H1.out, H2.out, H3.out, H4.out⟩
end
end Go.Proofs.Ytnhknnhdeegbdab
