/- where the law stands behind the loop. No program in sight. -/
import Derived.Test.YtnhknnhdeegbdabLawIn
import Derived.Test.YtnhknnhdeegbdabTakenAll
import Derived.Test.YtnhknnhdeegbdabSame
namespace Go.Proofs.Ytnhknnhdeegbdab
open Go.RowKit Go.ChangeMaps

theorem takeP_ok {t : Int → List UInt8 × Int} {m : ManS} {r : Nat → Int} (hr0 : ∀ i, 0 ≤ r i) (hr1 : ∀ i, r i < 4294967296) : -2147483648 ≤ (takeP t (manRead m) r).1.B ∧ (takeP t (manRead m) r).1.B ≤ 2147483647 ∧ (takeP t (manRead m) r).1.data.length ≤ 256 := by
  have hz : -2147483648 ≤ CallS.zero.B ∧ CallS.zero.B ≤ 2147483647 ∧ CallS.zero.data.length ≤ 256 := by decide
  have he : ∀ n name other, -2147483648 ≤ (takeEnd (manRead m) r n name other).1.B ∧ (takeEnd (manRead m) r n name other).1.B ≤ 2147483647 ∧ (takeEnd (manRead m) r n name other).1.data.length ≤ 256 := by
    intro n name other
    have hs := signed32_bd (hr0 (2 + n)) (hr1 (2 + n))
    unfold takeEnd
    split
    · split
      · exact hz
      · split
        · exact hz
        · refine ⟨by simp only; omega, by simp only; omega, ?_⟩
          rename_i h1 h2
          simp only [manRead] at h2 ⊢
          split
          · simp only [accOf_length]; omega
          · simp
    · exact ⟨by simp only; omega, by simp only; omega, by simp⟩
  unfold takeP
  split
  · exact he _ _ _
  · split
    · exact hz
    · split
      · exact he _ _ _
      · split
        · exact hz
        · exact he _ _ _

structure LawAt (w : World) (c6 c7 : Array Value) (p0 : Int) (X H Z : Nat) (K : Int) (t : Mem) (m : ManS) (W : World) : Prop where
  q6 : W.heap[w.heap.size]? = some (.cells c6 26 (0, 0))
  q7 : W.heap[w.heap.size + 1]? = some (.cells c7 32 (0, 0))
  rep : Rep W t
  M : t.M = w.heap.size + 1 + 1 + 1
  sp : t.sp 1 = some X
  frames : t.frames = 64
  slots : t.slots = 0
  len : t.pages.length = 4
  c0 : 0 ≤ t.clock
  c1 : t.clock ≤ K
  enok : t.EnOk
  same : Same1 t X m
  ins : ∀ q, p0 ≤ q → q < p0 + 4 → ∃ x, t.en X q = some x
  foot : ∀ b, t.foot b → w.heap.size + 1 < b ∧ b ≠ H ∧ b < Z
  man : ManRep W m
  mH : m.H = H
  hH : w.heap.size + 1 < H ∧ H < Z
  size : Z ≤ W.heap.size
  upd : Upd (fun _ => False) w W
  us : K ≤ 2000 → ∀ b, b ∈ t.pages → (t.pg b).users ≤ 1

theorem LawIn.lawAt {w : World} {c6 c7 : Array Value} {p0 : Int} {X H : Nat} {t : Mem} {m : ManS} {W : World} (L : LawIn w c6 c7 p0 X H 4 t m W) : LawAt w c6 c7 p0 X H W.heap.size 40 t m W :=
  ⟨L.q6, L.q7, L.rep, L.M, L.sp, L.frames, L.slots, L.len, L.c0, by have := L.c1; omega, L.enok, L.same, fun q h0 h1 => L.ins q h0 (by omega), fun b hb => ⟨(L.foot b hb).1, (L.foot b hb).2, L.rep.foot_lt hb⟩, L.man, L.mH, ⟨L.hH, by rw [← L.mH]; exact World.rowIs.lt L.man⟩, Nat.le_refl _, L.upd, fun _ => L.us⟩

variable {w : World} {c6 c7 : Array Value} {p0 : Int} {X H Z : Nat} {K : Int} {t : Mem} {m : ManS} {W : World}
theorem LawAt.quiet (L : LawAt w c6 c7 p0 X H Z K t m W) {W' : World} (u : Upd (fun _ => False) W W') : LawAt w c6 c7 p0 X H Z K t m W' :=
  { L with
    q6 := (u.block _ (Array.getElem?_eq_some_iff.1 L.q6).1 (fun h => h)).trans L.q6
    q7 := (u.block _ (Array.getElem?_eq_some_iff.1 L.q7).1 (fun h => h)).trans L.q7
    rep := L.rep.upd u (fun _ _ h => h)
    man := L.man.upd u (fun h => h)
    size := Nat.le_trans L.size u.size
    upd := L.upd.trans' u }

theorem LawAt.mem (L : LawAt w c6 c7 p0 X H Z K t m W) {W' : World} {t' : Mem} (K' : Int) (R : Rep W' t') (l : Like t t') (h0 : t.clock ≤ t'.clock) (h1 : t'.clock ≤ K') (hK : K ≤ K') (u : Upd t.foot W W') : LawAt w c6 c7 p0 X H Z K' t' m W' where
  q6 := (u.block _ (Array.getElem?_eq_some_iff.1 L.q6).1 (fun h => by have := (L.foot _ h).1; omega)).trans L.q6
  q7 := (u.block _ (Array.getElem?_eq_some_iff.1 L.q7).1 (fun h => by have := (L.foot _ h).1; omega)).trans L.q7
  rep := R
  M := l.M.trans L.M
  sp := by rw [l.sp]; exact L.sp
  frames := l.frames.trans L.frames
  slots := l.slots.trans L.slots
  len := by rw [l.pages]; exact L.len
  c0 := by have := L.c0; omega
  c1 := h1
  enok := l.enok L.enok
  same := L.same.like l
  ins := fun q a b => by rw [l.en]; exact L.ins q a b
  foot := fun b hb => L.foot b (by rw [l.foot] at hb; exact hb)
  man := L.man.upd u (fun h => by rw [L.mH] at h; exact (L.foot _ h).2.1 rfl)
  mH := L.mH
  hH := L.hH
  size := Nat.le_trans L.size u.size
  upd := L.upd.trans u (fun x hx h => by have := (L.foot _ h).1; omega)
  us := fun h b hb => by rw [l.users]; exact L.us (by omega) b (by rw [← l.pages]; exact hb)

/-- what was laid in a block at the end stays there -/
theorem LawAt.keep (L : LawAt w c6 c7 p0 X H Z K t m W) {W' : World} {b : Nat} {o : Obj} {F : Nat → Prop} (u : Upd F W W') (hF : ∀ x, F x → t.foot x ∨ x = H) (hb : Z ≤ b) (h : W.heap[b]? = some o) : W'.heap[b]? = some o :=
  (u.block _ (Array.getElem?_eq_some_iff.1 h).1 (fun h => by rcases hF _ h with h | h; have := (L.foot _ h).2.2; omega; have := L.hH; omega)).trans h

/-- both gave -/
theorem LawAt.given (L : LawAt w c6 c7 p0 X H Z K t m W) {W' : World} {t' : Mem} {m' : ManS} (K' : Int) (R : Rep W' t') (RM : ManRep W' m') (hm : m'.H = m.H) (l : LaidSame t t' X m') (h0 : t.clock ≤ t'.clock) (h1 : t'.clock ≤ K') (hE : t'.EnOk) (hK : 2000 < K') (u : Upd (fun x => t.foot x ∨ x = H) W W') : LawAt w c6 c7 p0 X H Z K' t' m' W' where
  q6 := (u.block _ (Array.getElem?_eq_some_iff.1 L.q6).1 (fun h => by rcases h with h | h; have := (L.foot _ h).1; omega; have := L.hH; omega)).trans L.q6
  q7 := (u.block _ (Array.getElem?_eq_some_iff.1 L.q7).1 (fun h => by rcases h with h | h; have := (L.foot _ h).1; omega; have := L.hH; omega)).trans L.q7
  rep := R
  M := l.M.trans L.M
  sp := by rw [l.sp]; exact L.sp
  frames := l.frames.trans L.frames
  slots := l.slots.trans L.slots
  len := by rw [l.pages]; exact L.len
  c0 := by have := L.c0; omega
  c1 := h1
  enok := hE
  same := l.same
  ins := fun q a b => by rw [l.en]; exact L.ins q a b
  foot := fun b hb => L.foot b (by rw [l.foot] at hb; exact hb)
  man := RM
  mH := hm.trans L.mH
  hH := L.hH
  size := Nat.le_trans L.size u.size
  upd := L.upd.trans u (fun x hx h => by rcases h with h | h; have := (L.foot _ h).1; omega; have := L.hH; omega)
  us := fun h => by omega

theorem LawAt.box (L : LawAt w c6 c7 p0 X H Z K t m W) {W' : World} {c7' : Array Value} (u : Upd (fun x => x = w.heap.size + 1) W W') (q : W'.heap[w.heap.size + 1]? = some (.cells c7' 32 (0, 0))) : LawAt w c6 c7' p0 X H Z K t m W' :=
  { L with
    q6 := (u.block _ (Array.getElem?_eq_some_iff.1 L.q6).1 (by omega)).trans L.q6
    q7 := q
    rep := L.rep.upd u (fun b hb h => by have := (L.foot _ hb).1; omega)
    man := L.man.upd u (fun h => by rw [L.mH] at h; have := L.hH; omega)
    size := Nat.le_trans L.size u.size
    upd := L.upd.trans u (fun x hx h => by omega) }
theorem LaidSame.enok {s t : Mem} {X : Nat} {m : ManS} (l : LaidSame s t X m) (E : s.EnOk) : t.EnOk := fun k X a x h1 h2 => by
  rw [l.sp] at h1; rw [l.en] at h2; rw [l.pages]; exact E k X a x h1 h2

/-- the four pages are there -/
theorem LawAt.all (L : LawAt w c6 c7 p0 X H Z K t m W) (hp0 : 0 ≤ p0) (hp1 : p0 < 60) : (t.read 1 (16 * p0) 64).1 = 0 ∧ (t.read 1 (16 * p0) 64).2.1 = (List.range 64).map fun j => m.byte (p0.toNat + j / 16) (j % 16) := by
  have h := L.same.read L.sp (16 * p0) 64 (by omega) (by omega)
  have hb : ∀ j : Nat, j < 64 → manByte m (16 * p0 + (j : Int)) 1 = some (m.byte (p0.toNat + j / 16) (j % 16)) := by
    intro j hj
    obtain ⟨x, hx⟩ := L.ins (p0 + ((j / 16 : Nat) : Int)) (by omega) (by omega)
    rcases L.same.page (p0 + ((j / 16 : Nat) : Int)) (by omega) (by omega) with ⟨e, _⟩ | ⟨p, _, e2, e3, _⟩
    · rw [e] at hx; cases hx
    · have e1 : (16 * p0 + (j : Int)) / 16 = p0 + ((j / 16 : Nat) : Int) := by omega
      have e4 : (16 * p0 + (j : Int)) % 16 = ((j % 16 : Nat) : Int) := by omega
      have e5 : (p0 + ((j / 16 : Nat) : Int)).toNat = p0.toNat + j / 16 := by omega
      unfold manByte
      rw [e1, e4, e3, e2, e5, if_neg (by omega), if_neg (by simp), if_neg (by simp [bits_three.2.1]), Int.toNat_natCast]
  have ha : allSome (manGetAt m (16 * p0)) (64 : Int).toNat = true := by
    rw [allSome, List.all_eq_true]
    intro j hj
    rw [manGetAt, hb j (by simpa using List.mem_range.1 hj)]; rfl
  unfold memRead manRead at h
  rw [if_pos ha] at h
  refine ⟨(Prod.mk.inj h).2, (Prod.mk.inj h).1.trans ?_⟩
  unfold accOf
  refine List.map_congr_left fun j hj => ?_
  rw [manGetAt, hb j (by simpa using List.mem_range.1 hj)]; rfl
end Go.Proofs.Ytnhknnhdeegbdab
