/- edge.Text -/
import Derived.Test.YtnhknnhdeegbdabTextS
namespace Go.Proofs.Ytnhknnhdeegbdab
open Go.RowKit Go.ChangeMaps

/-- the same memory, but for what was asked when, and which pages are in frames -/
structure Like (s t : Mem) : Prop where
  M : t.M = s.M
  S : t.S = s.S
  pa : t.pa = s.pa
  frames : t.frames = s.frames
  slots : t.slots = s.slots
  pages : t.pages = s.pages
  sp : t.sp = s.sp
  en : t.en = s.en
  data : ∀ b, (t.pg b).data = (s.pg b).data
  users : ∀ b, (t.pg b).users = (s.pg b).users
theorem Like.refl (s : Mem) : Like s s := ⟨rfl, rfl, rfl, rfl, rfl, rfl, rfl, rfl, fun _ => rfl, fun _ => rfl⟩
theorem Like.trans {s t u : Mem} (h : Like s t) (k : Like t u) : Like s u :=
  ⟨k.M.trans h.M, k.S.trans h.S, k.pa.trans h.pa, k.frames.trans h.frames, k.slots.trans h.slots, k.pages.trans h.pages, k.sp.trans h.sp, k.en.trans h.en, fun b => (k.data b).trans (h.data b), fun b => (k.users b).trans (h.users b)⟩
theorem Like.asks (s : Mem) (en : Int → Option (Nat × Int)) (addr : Int) (k : Nat) : Like s (s.asks en addr k) := ⟨by simp, by simp, by simp, by simp, by simp, by simp, by simp, by simp, fun b => by simp, fun b => by simp⟩
theorem Like.foot {s t : Mem} (h : Like s t) : t.foot = s.foot := by
  funext b
  simp only [Mem.foot, h.M, h.S, h.pa, h.pages, h.sp]
theorem Like.enok {s t : Mem} (h : Like s t) (E : s.EnOk) : t.EnOk := by
  intro k X a x h1 h2
  rw [h.sp] at h1; rw [h.en] at h2; rw [h.pages]
  exact E k X a x h1 h2
theorem Like.byteOf {s t : Mem} (h : Like s t) (en : Int → Option (Nat × Int)) (a : Int) : byteOf t en a = byteOf s en a := by
  unfold Go.Proofs.Ytnhknnhdeegbdab.byteOf; rw [h.data]

def memByte (s : Mem) (X : Nat) (a want : Int) : Option UInt8 := if mayB (s.en X) a 1 want then some (byteOf s (s.en X) a) else none
theorem Like.memByte {s t : Mem} (h : Like s t) (X : Nat) (a want : Int) : memByte t X a want = memByte s X a want := by
  unfold Go.Proofs.Ytnhknnhdeegbdab.memByte; rw [h.en, h.byteOf]
def memGet (s : Mem) (X : Nat) (at_ : Int) (k : Nat) : Option UInt8 := memByte s X (addr32 at_ k) 1
def memText (s : Mem) (X : Nat) (at_ : Int) : List UInt8 × Int := textR (memGet s X at_) 65 0 []

section
variable {w : World} {s : Mem}

/-- Load, at a space that is there, and a right that may be asked -/
theorem load_like (R : Rep w s) (E : s.EnOk) (sn addr : Int) (hw : (Lit.int .i64 sn).wf = true) {X : Nat} (h : s.sp sn = some X) (ha0 : 0 ≤ addr) (ha1 : addr ≤ 4294967295)
    (hb : s.pages.length ≤ 900) (hf : 1 ≤ s.frames) (hk0 : 0 ≤ s.clock) (hk : s.clock < 3000000000000000000) :
    Calls Try.prog 19 #[.pointer (some ⟨s.M, 0, none⟩), .int .i64 sn, .int .u32 addr, .int .i64 1] w fun e w' => e = .returned (.tuple #[.int .u8 ((memByte s X addr 1).getD 0).toNat, .int .i64 (if (memByte s X addr 1).isSome then 0 else 11)]) ∧ ∃ t, Like s t ∧ s.clock ≤ t.clock ∧ t.clock ≤ s.clock + 1 ∧ Rep w' t ∧ Upd s.foot w w' := by
  refine (load_rep R E sn addr 1 hw ha0 ha1 hb hf hk0 hk).mono ?_
  rintro e w' ⟨rfl, hr, hu⟩
  have hl : s.load sn addr 1 = if mayB (s.en X) addr 1 1 then (0, byteOf s (s.en X) addr, s.asks (s.en X) addr 1) else (11, 0, s) := by
    simp only [Mem.load, h]; exact if_neg (by omega)
  rw [hl] at hr ⊢
  unfold memByte
  cases hm : mayB (s.en X) addr 1 1 with
  | true =>
    rw [hm] at hr
    refine ⟨by simp, _, Like.asks _ _ _ _, ?_, ?_, hr, hu⟩
    · simp; omega
    · simp
  | false =>
    rw [hm] at hr
    exact ⟨by simp, _, Like.refl _, Int.le_refl _, by omega, hr, hu⟩

set_option maxHeartbeats 1000000 in
set_option maxRecDepth 100000 in
theorem text_rep (R : Rep w s) (E : s.EnOk) (sn at_ : Int) (hw : (Lit.int .i64 sn).wf = true) {X : Nat} (h : s.sp sn = some X)
    (hb : s.pages.length ≤ 900) (hf : 1 ≤ s.frames) (hk0 : 0 ≤ s.clock) (hk : s.clock < 2000000000000000000) :
    Calls Try.prog 8 #[.pointer (some ⟨s.M, 0, none⟩), .int .i64 sn, .int .u32 at_] w fun e w' => e = .returned (.tuple #[strOf (memText s X at_).1, .int .i64 (memText s X at_).2]) ∧ ∃ t, Like s t ∧ s.clock ≤ t.clock ∧ t.clock ≤ s.clock + 65 ∧ Rep w' t ∧ Upd s.foot w w' := by
  obtain ⟨i0, hi, hz0, hz1, hz2⟩ := info_parts info5
  have HR := Lib.hid R
  clear R
  go_enter Try.func8, Try.ntmps8
  go_wp2
  go_loopw [8, 12] (fun v i wr => ∃ k : Nat, k ≤ 65 ∧ i = .int .u32 k ∧ wr.ownsRow w.heap.size 5 1 v k ((accOf (memGet s X at_) k).map byteV) ∧ goodTo (memGet s X at_) k ∧ ∃ t, Like s t ∧ s.clock ≤ t.clock ∧ t.clock ≤ s.clock + k ∧ Rep wr t ∧ Upd s.foot w wr) (fun _ i _ => (65 - intOf i).toNat)
  case atStart => exact ⟨0, by omega, rfl, World.ownsRow_nil _ _ _ _, fun j hj => by omega, s, Like.refl _, Int.le_refl _, by omega, HR.out, Upd.refl _ _⟩
  case round =>
    obtain ⟨k, hk65, rfl, hown, hg, t, hL, hc0, hc1, hR, hU⟩ := hrel
    by_cases hlt : k < 65
    · have hld := load_like hR (hL.enok E) sn (addr32 at_ k) hw (X := X) (by rw [hL.sp]; exact h) (Int.emod_nonneg _ (by omega)) (Int.le_of_lt_add_one (Int.emod_lt_of_pos _ (by omega))) (by rw [hL.pages]; exact hb) (by rw [hL.frames]; exact hf) (by omega) (by omega)
      rw [hL.memByte, hL.M] at hld
      have hw32 : IntKind.u32.wrap (at_ + k) = addr32 at_ k := by rfl
      have HL := Lib.hid hL
      have HO := Lib.hid hown
      have HG := Lib.hid hg
      have HU := Lib.hid hU
      cases hb' : memGet s X at_ k with
      | none =>
        have HX : Hid (memText s X at_ = ([], 11)) := textR_none hlt hg hb'
        rw [show memByte s X (addr32 at_ k) 1 = none from hb'] at hld
        have HB := Lib.hid hld
        clear hb' hld hR hL hown hg hU
        go_wp2_with (go_at_call 19; refine HB.out.mono ?_; rintro e w' ⟨rfl, t2, hl2, hk1, hk2, hr2, hu2⟩; have HR2 := Lib.hid hr2; have HU2 := Lib.hid hu2; have HL2 := Lib.hid hl2; clear hr2 hu2 hl2)
        go_ret2
        rw [HX.out]
        exact ⟨rfl, t2, HL.out.trans HL2.out, by omega, by omega, HR2.out, HU.out.trans HU2.out (fun x _ hf => by rw [HL.out.foot] at hf; exact hf)⟩
      | some b =>
        rw [show memByte s X (addr32 at_ k) 1 = some b from hb'] at hld
        by_cases hb0 : b = 0
        · subst hb0
          have HX : Hid (memText s X at_ = (accOf (memGet s X at_) k, 0)) := textR_zero hlt hg hb'
          have HB := Lib.hid hld
          have hcv : ∀ w', Upd t.foot wr w' → (convert 22 9 u8).run Try.prog w' = .ok (strOf (accOf (memGet s X at_) k)) w' := fun w' hu =>
            conv_own (ownsRow_upd hown hu (fun b hb hf => by rw [hL.foot] at hf; have := HR.out.foot_lt hf; omega)) (accOf_length _ _)
          have HCV := Lib.hid hcv
          clear hb' hld hR hL hown hg hU hcv
          go_wp2_with (go_at_call 19; refine HB.out.mono ?_; rintro e w' ⟨rfl, t2, hl2, hk1, hk2, hr2, hu2⟩; have hcvr := HCV.out w' hu2; have HR2 := Lib.hid hr2; have HU2 := Lib.hid hu2; have HL2 := Lib.hid hl2; clear hr2 hu2 hl2)
          go_ret2
          rw [HX.out]
          exact ⟨rfl, t2, HL.out.trans HL2.out, by omega, by omega, HR2.out, HU.out.trans HU2.out (fun x _ hf => by rw [HL.out.foot] at hf; exact hf)⟩
        · have hacc : accOf (memGet s X at_) (k + 1) = accOf (memGet s X at_) k ++ [b] := by rw [accOf_succ, hb']; rfl
          have HAC := Lib.hid hacc
          have HG2 := Lib.hid (goodTo_succ hg hb' hb0)
          have hbne : ((b.toNat : Int) == 0) = false := by
            rw [beq_eq_false_iff_ne]; intro e; exact hb0 (by apply UInt8.toNat_inj.1; simpa using e)
          have HB := Lib.hid hld
          have how : ∀ w', Upd t.foot wr w' → w'.ownsRow w.heap.size 5 1 u8 k ((accOf (memGet s X at_) k).map byteV) := fun w' hu => ownsRow_upd hown hu (fun b hb hf => by rw [hL.foot] at hf; have := HR.out.foot_lt hf; omega)
          have HOW := Lib.hid how
          have hwz : w.heap.size ≤ wr.heap.size := hU.size
          clear hb' hld hR hL hown hg hU hacc how
          go_wp2_with (first | (go_at_call 19; refine HB.out.mono ?_; rintro e w' ⟨rfl, t2, hl2, hk1, hk2, hr2, hu2⟩; have hsz : w.heap.size ≤ w'.heap.size := Nat.le_trans hwz hu2.size; have HR2 := Lib.hid hr2; have HU2 := Lib.hid hu2; have HL2 := Lib.hid hl2; clear hr2 hu2 hl2) | (at_builtin; refine wpList_append_own _ rfl (.tmp 31) (.tmp 33) 22 rfl w.heap.size 5 i0 (.int .u8 0) 1 1 uB hi hz0 hz1 hz2 rfl (by decide) u8 k ((accOf (memGet s X at_) k).map byteV) rfl ((HOW.out _ HU2.out).alloc _) ⟨w'.heap.size, 0, none⟩ 1 1 [.int .u8 b.toNat] rfl rfl ?c1 ?c2 ?c3 ?c4 ?c5 ?_))
          case c1 => intro j u hj; match j, hj with | 0, hj => simp at hj; subst hj; simp [Addr.add]
          case c2 => intro u hu; simp at hu; subst hu; rfl
          case c3 => unfold maxLen; omega
          case c4 => omega
          case c5 => simp; omega
          intro v' w2 hown2 hgrow2 _
          have hrow : ∀ q, u8.ownBlock = some q → w.heap.size ≤ q := fun q hq => (HO.out.lt q hq).1
          have U2 : Upd (fun b => w.heap.size ≤ b) w' w2 := ((Upd.refl _ w').alloc _).grown hgrow2 (fun q hq => .inl (hrow q hq))
          have hR2 : Rep w2 t2 := HR2.out.upd U2 (fun b hb hf => by rw [HL2.out.foot, HL.out.foot] at hb; have := HR.out.foot_lt hb; omega)
          have hU2 : Upd s.foot w w2 := ((HU.out.trans HU2.out (fun x _ hf => by rw [HL.out.foot] at hf; exact hf)).alloc _).grown hgrow2 (fun q hq => .inr (hrow q hq))
          have ho2 : w2.ownsRow w.heap.size 5 1 v' (k + 1) ((accOf (memGet s X at_) (k + 1)).map byteV) := by
            rw [HAC.out, List.map_append]; exact hown2
          have HR3 := Lib.hid hR2
          have HU3 := Lib.hid hU2
          have HO3 := Lib.hid ho2
          clear hown2 hgrow2 hR2 hU2 ho2 U2 hrow
          go_wp2_with fail
          refine ⟨⟨k + 1, by omega, by go_num, HO3.out, HG2.out, t2, HL.out.trans HL2.out, by omega, by omega, HR3.out, HU3.out⟩, by simp [intOf]; omega⟩
    · have HE : Hid (k = 65) := (by omega : k = 65)
      have HX : Hid (memText s X at_ = ([], 2)) := textR_large (HE.out ▸ hg)
      have HL := Lib.hid hL
      have HU := Lib.hid hU
      have HRr := Lib.hid hR
      clear hR hL hU hg hown
      go_wp2_with fail
      go_ret2
      rw [HX.out]
      exact ⟨rfl, t, HL.out, hc0, by omega, HRr.out, HU.out⟩
end
end Go.Proofs.Ytnhknnhdeegbdab
