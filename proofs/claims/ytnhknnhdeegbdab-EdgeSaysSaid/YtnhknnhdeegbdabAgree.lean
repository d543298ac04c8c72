/- a memory and a document's page table that say the same. No program in sight. -/
import Derived.Test.YtnhknnhdeegbdabGiven
namespace Go.Proofs.Ytnhknnhdeegbdab
open Go.RowKit Go.ChangeMaps

/-- the space X of s says what m says; each right is 3 -/
structure Same1 (s : Mem) (X : Nat) (m : ManS) : Prop where
  page : ∀ q : Int, 0 ≤ q → q ≤ 63 → (s.en X q = none ∧ m.there q.toNat = false) ∨ ∃ p, s.en X q = some (p, 3) ∧ m.there q.toNat = true ∧ m.may q.toNat = 3 ∧ ∀ i, i < 16 → (s.pg p).data i = m.byte q.toNat i
  inj : ∀ q q' x y, s.en X q = some x → s.en X q' = some y → x.1 = y.1 → q = q'
  users : ∀ q x, s.en X q = some x → (s.pg x.1).users ≤ 1

theorem mayB_one (en : Int → Option (Nat × Int)) (a want : Int) : mayB en a 1 want = (decide (0 ≤ a) && decide (a ≤ 1023) && okE want (en (a / 16))) := by
  unfold mayB
  rw [show ((a + 1 - 1) / 16 + 1 - a / 16).toNat = 1 by rw [show a + 1 - 1 = a by omega]; omega, mayAll_succ]
  simp [mayAll]

theorem mayB_bytes (en : Int → Option (Nat × Int)) (a want : Int) (n : Nat) : mayB en a n want = (List.range n).all fun j => mayB en (a + (j : Int)) 1 want := by
  rw [Bool.eq_iff_iff, List.all_eq_true]
  constructor
  · intro h j hj
    have hj := List.mem_range.1 hj
    unfold mayB at h
    rw [Bool.or_eq_true] at h
    rcases h with h | h
    · simp at h; omega
    · simp only [Bool.and_eq_true, decide_eq_true_eq] at h
      obtain ⟨⟨h1, h2⟩, h3⟩ := h
      rw [mayAll, List.all_eq_true] at h3
      rw [mayB_one]
      have := h3 ((a + j) / 16 - a / 16).toNat (List.mem_range.2 (by omega))
      rw [show a / 16 + (((a + j) / 16 - a / 16).toNat : Int) = (a + j) / 16 by omega] at this
      simp only [Bool.and_eq_true, decide_eq_true_eq]
      exact ⟨⟨by omega, by omega⟩, this⟩
  · intro h
    unfold mayB
    by_cases hn : n = 0
    · subst hn; rfl
    · have hb : ∀ j : Nat, j < n → 0 ≤ a + j ∧ a + j ≤ 1023 ∧ okE want (en ((a + j) / 16)) = true := by
        intro j hj
        have := h j (List.mem_range.2 hj)
        rw [mayB_one] at this
        simp only [Bool.and_eq_true, decide_eq_true_eq] at this
        exact ⟨this.1.1, this.1.2, this.2⟩
      have b0 := hb 0 (by omega)
      have b1 := hb (n - 1) (by omega)
      rw [Bool.or_eq_true]
      right
      simp only [Bool.and_eq_true, decide_eq_true_eq]
      refine ⟨⟨by omega, by omega⟩, ?_⟩
      rw [mayAll, List.all_eq_true]
      intro c hc
      have hc := List.mem_range.1 hc
      have := (hb (16 * (a / 16 + c) - a).toNat (by omega)).2.2
      by_cases h0 : c = 0
      · subst h0
        have := b0.2.2
        simpa using this
      · rw [show (a + ((16 * (a / 16 + c) - a).toNat : Int)) / 16 = a / 16 + c by omega] at this
        exact this

theorem bits_three : (∀ x : Nat, okE 1 (some (x, 3)) = true ∧ okE 2 (some (x, 3)) = true) ∧ bits BinOp.andNot IntKind.i64 1 3 = 0 ∧ bits BinOp.andNot IntKind.i64 2 3 = 0 := by
  have h1 : (bits BinOp.and IntKind.i64 3 1 == 1) = true := by kernel_rfl
  have h2 : (bits BinOp.and IntKind.i64 3 2 == 2) = true := by kernel_rfl
  have h3 : bits BinOp.andNot IntKind.i64 1 3 = 0 := by kernel_rfl
  have h4 : bits BinOp.andNot IntKind.i64 2 3 = 0 := by kernel_rfl
  exact ⟨fun x => ⟨h1, h2⟩, h3, h4⟩

theorem Same1.byte {s : Mem} {X : Nat} {m : ManS} (h : Same1 s X m) (a want : Int) (hw : want = 1 ∨ want = 2) : memByte s X a want = manByte m a want := by
  unfold memByte manByte
  rw [mayB_one]
  by_cases h1 : a < 0 ∨ 1023 < a
  · rw [if_pos h1, if_neg]
    simp only [Bool.and_eq_true, decide_eq_true_eq, not_and]
    omega
  · rw [if_neg h1]
    rcases h.page (a / 16) (by omega) (by omega) with ⟨e1, e2⟩ | ⟨p, e1, e2, e3, e4⟩
    · rw [e1, if_pos e2, if_neg]
      simp [okE]
    · have hok : okE want (some (p, 3)) = true := by rcases hw with rfl | rfl <;> simp [bits_three.1]
      have hbits : bits BinOp.andNot IntKind.i64 want 3 = 0 := by
        rcases hw with rfl | rfl
        · exact bits_three.2.1
        · exact bits_three.2.2
      rw [e1, if_pos (by simp only [hok, Bool.and_true, Bool.and_eq_true, decide_eq_true_eq]; omega), if_neg (by simp [e2]), e3, if_neg (by simp [hbits])]
      congr 1
      unfold byteOf pageOf
      rw [e1]
      exact e4 _ (by omega)

theorem Same1.text {s : Mem} {X : Nat} {m : ManS} (h : Same1 s X m) (a : Int) : memText s X a = manText m a := by
  unfold memText manText
  rw [show memGet s X a = manGet m a from funext fun k => h.byte _ 1 (.inl rfl)]

theorem mayB_isSome (s : Mem) (X : Nat) (a want : Int) : mayB (s.en X) a 1 want = (memByte s X a want).isSome := by
  unfold memByte
  cases mayB (s.en X) a 1 want <;> rfl

theorem Same1.may {s : Mem} {X : Nat} {m : ManS} (h : Same1 s X m) (a : Int) (n : Nat) : mayB (s.en X) a n 2 = mayGive m a n := by
  rw [mayB_bytes, mayGive]
  congr 1
  exact funext fun j => by rw [mayB_isSome, h.byte _ 2 (.inr rfl)]

theorem Same1.read {s : Mem} {X : Nat} {m : ManS} (h : Same1 s X m) {sn : Int} (hs : s.sp sn = some X) (a n : Int) (h0 : 0 ≤ n) (h1 : n ≤ 256) : memRead s sn a n = manRead m a n := by
  obtain ⟨k, rfl⟩ := Int.eq_ofNat_of_zero_le h0
  unfold memRead manRead Mem.read
  rw [hs]
  simp only
  rw [if_neg (by omega), mayB_bytes, Int.toNat_natCast]
  have e : (List.range k).all (fun j => mayB (s.en X) (a + (j : Int)) 1 1) = allSome (manGetAt m a) k := by
    unfold allSome
    congr 1
    exact funext fun j => by rw [mayB_isSome, h.byte _ 1 (.inl rfl)]; rfl
  rw [e]
  cases hb : allSome (manGetAt m a) k with
  | false => rfl
  | true =>
    simp only [if_true]
    congr 1
    unfold bytesOf accOf
    refine List.map_congr_left fun j hj => ?_
    have hj := List.mem_range.1 hj
    rw [allSome, List.all_eq_true] at hb
    have := hb j (List.mem_range.2 hj)
    have e2 := h.byte (a + (j : Int)) 1 (.inl rfl)
    unfold manGetAt at this ⊢
    rw [← e2] at this ⊢
    unfold memByte at this ⊢
    split
    · rfl
    · rename_i hn; rw [if_neg hn] at this; simp at this

theorem takeP_congr {t t' : Int → List UInt8 × Int} {rd rd' : Int → Int → List UInt8 × Int} (r : Nat → Int) (h1 : t = t') (h2 : ∀ a n, 0 ≤ n → n ≤ 256 → rd a n = rd' a n) : takeP t rd r = takeP t' rd' r := by
  subst h1
  have he : ∀ n name other, takeEnd rd r n name other = takeEnd rd' r n name other := by
    intro n name other
    unfold takeEnd
    split
    · split
      · rfl
      · rw [h2 _ _ (by omega) (by omega)]
    · rfl
  unfold takeP
  simp only [he]

theorem Same1.take {s : Mem} {X : Nat} {m : ManS} (h : Same1 s X m) {sn : Int} (hs : s.sp sn = some X) (r : Nat → Int) : takeP (memText s X) (memRead s sn) r = takeP (manText m) (manRead m) r :=
  takeP_congr r (funext fun a => h.text a) (fun a n h0 h1 => h.read hs a n h0 h1)

theorem Same1.like {s t : Mem} {X : Nat} {m : ManS} (h : Same1 s X m) (l : Like s t) : Same1 t X m where
  page := fun q h0 h1 => by
    rw [l.en]
    rcases h.page q h0 h1 with h | ⟨p, e1, e2, e3, e4⟩
    · exact .inl h
    · exact .inr ⟨p, e1, e2, e3, fun i hi => by rw [l.data]; exact e4 i hi⟩
  inj := fun q q' x y => by rw [l.en]; exact h.inj q q' x y
  users := fun q x => by rw [l.en, l.users]; exact h.users q x

theorem setByte_data (t : Mem) (p i : Nat) (v : UInt8) (b : Nat) (j : Nat) : ((t.setByte p i v).pg b).data j = if b = p ∧ j = i then v else (t.pg b).data j := by
  unfold Mem.setByte Mem.setPg
  simp only
  by_cases hb : b = p
  · subst hb
    rw [if_pos rfl]
    simp only [Pg.setData, true_and]
  · rw [if_neg hb, if_neg (fun h => hb h.1)]

structure LaidSame (s t : Mem) (X : Nat) (m : ManS) : Prop where
  same : Same1 t X m
  en : t.en = s.en
  sp : t.sp = s.sp
  pages : t.pages = s.pages
  M : t.M = s.M
  S : t.S = s.S
  pa : t.pa = s.pa
  frames : t.frames = s.frames
  slots : t.slots = s.slots
theorem LaidSame.foot {s t : Mem} {X : Nat} {m : ManS} (h : LaidSame s t X m) : t.foot = s.foot := by
  funext b
  simp only [Mem.foot, h.M, h.S, h.pa, h.pages, h.sp]

theorem Same1.lay {s t : Mem} {X : Nat} {m : ManS} {addr : Int} {data : List UInt8} {k n : Nat} (h : Same1 s X m) (h0 : 0 ≤ addr) (hl : LayTo s X addr data k t) (hk : k ≤ n) : LaidSame s t X (m.puts addr data k) := by
  induction hl with
  | start => exact ⟨h, rfl, rfl, rfl, rfl, rfl, rfl, rfl, rfl⟩
  | @own k t hl x hx hu ih =>
    obtain ⟨S, e1, e2, e3, e4, e5, e6, e7, e8⟩ := ih (by omega)
    have hen : ((t.ask x.1).setByte x.1 ((addr + k) % 16).toNat (data.getD k 0)).en = t.en := by simp [Mem.setByte, Mem.setPg]
    refine ⟨⟨fun q hq0 hq1 => ?_, fun q q' y z => by rw [hen]; exact S.inj q q' y z, fun q y => by rw [hen, setByte_users, ask_users]; exact S.users q y⟩, hen.trans e1, by simp [Mem.setByte, Mem.setPg, e2], by simp [Mem.setByte, Mem.setPg, e3], by simp [Mem.setByte, Mem.setPg, e4], by simp [Mem.setByte, Mem.setPg, e5], by simp [Mem.setByte, Mem.setPg, e6], by simp [Mem.setByte, Mem.setPg, e7], by simp [Mem.setByte, Mem.setPg, e8]⟩
    rw [hen]
    rcases S.page q hq0 hq1 with h | ⟨p, f1, f2, f3, f4⟩
    · exact .inl h
    · refine .inr ⟨p, f1, f2, f3, fun i hi => ?_⟩
      rw [setByte_data, ask_data]
      show _ = if q.toNat = ((addr + k) / 16).toNat ∧ i = ((addr + k) % 16).toNat then data.getD k 0 else (m.puts addr data k).byte q.toNat i
      by_cases hp : p = x.1
      · have hqe : q = (addr + k) / 16 := S.inj _ _ _ _ f1 hx hp
        by_cases hie : i = ((addr + k) % 16).toNat
        · rw [if_pos ⟨hp, hie⟩, if_pos ⟨by rw [hqe], hie⟩]
        · rw [if_neg (fun h => hie h.2), if_neg (fun h => hie h.2)]; exact f4 i hi
      · have hqe : q.toNat ≠ ((addr + k) / 16).toNat := fun e => by
          have : q = (addr + k) / 16 := by omega
          rw [this, hx] at f1
          cases f1
          exact hp rfl
        rw [if_neg (fun h => hp h.1), if_neg (fun h => hqe h.1)]; exact f4 i hi
  | @cow k t hl x hx hu b pa hb ih =>
    have := (ih (by omega)).same.users _ _ hx
    omega

theorem Same1.shared {s : Mem} {X : Nat} {m : ManS} (h : Same1 s X m) (addr n : Int) : s.sharedIn (s.en X) addr n = 0 := by
  unfold Mem.sharedIn
  split
  · unfold sharedN
    rw [List.length_eq_zero_iff, List.filter_eq_nil_iff]
    intro j _
    unfold isShared
    cases he : s.en X (addr / 16 + (j : Int)) with
    | none => simp
    | some x => have := h.users _ _ he; simp only [decide_eq_true_eq]; omega
  · rfl

/-- what both gave -/
theorem Same1.given {s t : Mem} {X : Nat} {m m' : ManS} (h : Same1 s X m) {sn : Int} (hs : s.sp sn = some X) {c : CallS} {a : AnsS} {data : List UInt8} (hl : data.length ≤ 256) (hroom : (s.pages.length : Int) ≤ s.frames + s.slots)
    {A err B we A' err' B' : Int}
    (p1 : applied a c data → Wrote s sn c.B data we t ∧ A = (if we = 0 then a.A else 0) ∧ err = we ∧ B = (if we = 0 then a.B else 0)) (p2 : ¬ applied a c data → t = s ∧ A = a.A ∧ err = a.err ∧ B = a.B)
    (q1 : applied2 a c → if mayGive m c.B data.length then m' = m.puts c.B data data.length ∧ A' = a.A ∧ err' = a.err ∧ B' = a.B else m' = m ∧ A' = 0 ∧ err' = 11 ∧ B' = 0) (q2 : ¬ applied2 a c → m' = m ∧ A' = a.A ∧ err' = a.err ∧ B' = a.B) :
    A = A' ∧ err = err' ∧ B = B' ∧ LaidSame s t X m' ∧ s.clock ≤ t.clock ∧ t.clock ≤ s.clock + 600 := by
  have hself : LaidSame s s X m := ⟨h, rfl, rfl, rfl, rfl, rfl, rfl, rfl, rfl⟩
  by_cases hap : applied a c data
  · obtain ⟨hW, hA, hE, hB⟩ := p1 hap
    have q := q1 ⟨hap.1, hap.2.1⟩
    cases hW with
    | none h' => rw [h'] at hs; cases hs
    | long X' h' hl' => omega
    | fault X' h' hl' hm =>
      rw [h'] at hs; cases hs
      rw [h.may] at hm
      rw [if_neg (by simp [hm])] at q
      obtain ⟨rfl, rfl, rfl, rfl⟩ := q
      exact ⟨hA, hE, hB, hself, by omega, by omega⟩
    | empty X' h' hl' => have := hap.2.2; omega
    | full X' h' h1 hl' hm hr => rw [h'] at hs; cases hs; rw [h.shared] at hr; exact absurd (by omega) hr
    | done X' t' h' h1 hl' hm hr ht =>
      rw [h'] at hs; cases hs
      have h0 : 0 ≤ c.B := by
        have := hm
        rw [mayB_bytes, List.all_eq_true] at this
        have := this 0 (List.mem_range.2 (by omega))
        rw [mayB_one] at this
        simp only [Bool.and_eq_true, decide_eq_true_eq] at this
        have := this.1.1
        omega
      rw [h.may] at hm
      rw [if_pos hm] at q
      obtain ⟨rfl, rfl, rfl, rfl⟩ := q
      have i := ht.inv
      exact ⟨hA, hE.trans hap.1.symm, hB, h.lay h0 ht (Nat.le_refl _), i.clock0, by have := i.clock; omega⟩
  · obtain ⟨rfl, rfl, rfl, rfl⟩ := p2 hap
    by_cases h2 : applied2 a c
    · have h0 : data.length = 0 := by
        rcases Nat.eq_zero_or_pos data.length with h0 | h0
        · exact h0
        · exact absurd ⟨h2.1, h2.2, h0⟩ hap
      have q := q1 h2
      rw [h0] at q
      rw [if_pos (by rfl)] at q
      obtain ⟨rfl, rfl, rfl, rfl⟩ := q
      exact ⟨rfl, rfl, rfl, hself, by omega, by omega⟩
    · obtain ⟨rfl, rfl, rfl, rfl⟩ := q2 h2
      exact ⟨rfl, rfl, rfl, hself, by omega, by omega⟩

end Go.Proofs.Ytnhknnhdeegbdab
