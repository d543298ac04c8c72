/- the law's calls, told over the law's state -/
import Derived.Test.YtnhknnhdeegbdabLawAt
namespace Go.Proofs.Ytnhknnhdeegbdab
open Go.RowKit Go.ChangeMaps

/-- one has given, the other has not yet -/
structure LawGave (w : World) (c6 c7 : Array Value) (p0 : Int) (X H Z : Nat) (K : Int) (t : Mem) (m : ManS) (c : CallS) (a : AnsS) (data : List UInt8) (A err B : Int) (t' : Mem) (W0 W : World) : Prop where
  base : LawAt w c6 c7 p0 X H Z K t m W0
  upd : Upd t.foot W0 W
  rep : Rep W t'
  p1 : ∃ we, (applied a c data → Wrote t 1 c.B data we t' ∧ A = (if we = 0 then a.A else 0) ∧ err = we ∧ B = (if we = 0 then a.B else 0)) ∧ (¬ applied a c data → t' = t ∧ A = a.A ∧ err = a.err ∧ B = a.B)

section
variable {w : World} {c6 c7 : Array Value} {p0 : Int} {X H Z : Nat} {K : Int} {t : Mem} {m : ManS} {W : World}
theorem LawAt.textC (L : LawAt w c6 c7 p0 X H Z K t m W) (hK : K ≤ 1000000) (a : Int) :
    Calls Try.prog 8 #[.pointer (some ⟨w.heap.size + 1 + 1 + 1, 0, none⟩), .int .i64 1, .int .u32 a] W fun e w' => e = .returned (.tuple #[strOf (manText m a).1, .int .i64 (manText m a).2]) ∧ ∃ t', LawAt w c6 c7 p0 X H Z (K + 65) t' m w' := by
  have h := text_rep L.rep L.enok 1 a rfl L.sp (by rw [L.len]; omega) (by rw [L.frames]; omega) L.c0 (by have := L.c1; omega)
  rw [L.M, L.same.text] at h
  refine h.mono ?_
  rintro e w' ⟨rfl, t', l, h0, h1, hr, hu⟩
  exact ⟨rfl, t', L.mem (K + 65) hr l h0 (by have := L.c1; omega) (by omega) hu⟩
theorem LawAt.manTextC (L : LawAt w c6 c7 p0 X H Z K t m W) (a : Int) :
    Calls Try.prog 9 #[.pointer (some ⟨H, 0, none⟩), .int .u32 a] W fun e w' => e = .returned (.tuple #[strOf (manText m a).1, .int .i64 (manText m a).2]) ∧ LawAt w c6 c7 p0 X H Z K t m w' := by
  have h := manText_rep L.man a
  rw [L.mH] at h
  refine h.mono ?_
  rintro e w' ⟨rfl, hu⟩
  exact ⟨rfl, L.quiet hu⟩
theorem LawAt.takeC (L : LawAt w c6 c7 p0 X H Z K t m W) (hK : K ≤ 1000000) {r : Nat → Int} (hr0 : ∀ i, 0 ≤ r i) (hr1 : ∀ i, r i < 4294967296) (pc ring : Int) :
    Calls Try.prog 10 #[.pointer (some ⟨w.heap.size + 1 + 1 + 1, 0, none⟩), .int .i64 1, regsV r pc ring] W fun e w' => ∃ d, e = .returned (.tuple #[callV (takeP (manText m) (manRead m) r).1 d, .int .i64 (takeP (manText m) (manRead m) r).2]) ∧ Bytes w' d (takeP (manText m) (manRead m) r).1.data ∧ ∃ t', LawAt w c6 c7 p0 X H Z (K + 1000) t' m w' := by
  have h := take_rep L.rep L.enok 1 rfl L.sp r hr0 hr1 pc ring (by rw [L.len]; omega) (by rw [L.frames]; omega) L.c0 (by have := L.c1; omega)
  rw [L.M, L.same.take L.sp] at h
  refine h.mono ?_
  rintro e w' ⟨d, t', rfl, ho, l, h0, h1, hr, hu⟩
  exact ⟨d, rfl, Bytes.of_own ho rfl, t', L.mem (K + 1000) hr l h0 (by have := L.c1; omega) (by omega) hu⟩
theorem LawAt.takenC (L : LawAt w c6 c7 p0 X H Z K t m W) {r : Nat → Int} (hr0 : ∀ i, 0 ≤ r i) (hr1 : ∀ i, r i < 4294967296) (pc ring : Int) :
    Calls Try.prog 11 #[.pointer (some ⟨H, 0, none⟩), regsV r pc ring] W fun e w' => ∃ d, e = .returned (.tuple #[callV (takeP (manText m) (manRead m) r).1 d, .int .i64 (takeP (manText m) (manRead m) r).2]) ∧ Bytes w' d (takeP (manText m) (manRead m) r).1.data ∧ Upd (fun _ => False) W w' ∧ LawAt w c6 c7 p0 X H Z K t m w' := by
  have h := taken_rep L.man r hr0 hr1 pc ring
  rw [L.mH] at h
  refine h.mono ?_
  rintro e w' ⟨d, rfl, ho, hu⟩
  exact ⟨d, rfl, Bytes.of_own ho rfl, hu, L.quiet hu⟩
theorem LawAt.giveC (L : LawAt w c6 c7 p0 X H Z K t m W) (hK : K ≤ 2000) (r : Nat → Int) (pc ring : Int) (c : CallS) (cd : Value) (a : AnsS) (data : List UInt8) (da : Option Addr) (cap : Nat)
    (hcd : ∃ x y z, cd = .slice x y z) (htx : ∃ x y z, a.text = .slice x y z) (ha0 : -2147483648 ≤ c.B) (ha1 : c.B ≤ 2147483647) (hmx : data.length ≤ 256) (hd : BytesAt w (fun _ => False) da data) :
    Calls Try.prog 13 #[.pointer (some ⟨w.heap.size + 1 + 1 + 1, 0, none⟩), .int .i64 1, regsV r pc ring, callV c cd, ansV a (.slice da data.length cap)] W fun e w' => ∃ A err B t', e = .returned (regsV (giveRegs r A err B) pc ring) ∧ LawGave w c6 c7 p0 X H Z K t m c a data A err B t' W w' := by
  have hd' : BytesAt W t.foot da data := by
    rcases hd with h | ⟨D, off, h1, h2, h3, h4⟩
    · exact .inl h
    · exact .inr ⟨D, off, h1, fun h => by have := (L.foot _ h).1; omega, Nat.lt_of_lt_of_le h3 L.upd.size, fun j hj => (World.cell?_of_block (L.upd.block D h3 (fun h => h))).trans (h4 j hj)⟩
  have hus : ∀ b, b ∈ t.pages → (t.pg b).users ≤ 1000000 := fun b hb => by have := L.us hK b hb; omega
  have h := give_rep L.rep L.enok 1 rfl r pc ring c cd a data da cap hcd htx (by omega) (by omega) hmx hd' hus (by rw [L.len]; omega) (by rw [L.frames]; omega) (by rw [L.frames]; omega) (by rw [L.slots]; omega) (by rw [L.slots]; omega) (by rw [L.len, L.frames, L.slots]; omega) L.c0 (by have := L.c1; omega)
  rw [L.M] at h
  refine h.mono ?_
  rintro e w' ⟨A, err, B, t', we, rfl, hr, hu, p1, p2⟩
  exact ⟨A, err, B, t', rfl, L, hu, hr, we, p1, p2⟩
theorem LawGave.quiet {W0 : World} {c : CallS} {a : AnsS} {data : List UInt8} {A err B : Int} {t' : Mem} (G : LawGave w c6 c7 p0 X H Z K t m c a data A err B t' W0 W) {W' : World} (u : Upd (fun _ => False) W W') : LawGave w c6 c7 p0 X H Z K t m c a data A err B t' W0 W' := by
  exact ⟨G.base, G.upd.trans u (fun _ _ h => h.elim), G.rep.upd u (fun _ _ h => h), G.p1⟩
theorem LawGave.keep {W0 : World} {c : CallS} {a : AnsS} {data : List UInt8} {A err B : Int} {t' : Mem} (G : LawGave w c6 c7 p0 X H Z K t m c a data A err B t' W0 W) {b : Nat} {o : Obj} (hb : b ≤ w.heap.size + 1 ∨ Z ≤ b) (h : W0.heap[b]? = some o) : W.heap[b]? = some o :=
  (G.upd.block _ (Array.getElem?_eq_some_iff.1 h).1 (fun h => by have := G.base.foot _ h; omega)).trans h
theorem LawGave.size {W0 : World} {c : CallS} {a : AnsS} {data : List UInt8} {A err B : Int} {t' : Mem} (G : LawGave w c6 c7 p0 X H Z K t m c a data A err B t' W0 W) : Z ≤ W.heap.size := Nat.le_trans G.base.size G.upd.size
theorem LawGave.givenC {W0 : World} {c : CallS} {a : AnsS} {data : List UInt8} {A err B : Int} {t' : Mem} (G : LawGave w c6 c7 p0 X H Z K t m c a data A err B t' W0 W) (hK : 0 ≤ K) (r : Nat → Int) (pc ring : Int) (cd : Value) (da : Option Addr) (cap : Nat)
    (hcd : ∃ x y z, cd = .slice x y z) (htx : ∃ x y z, a.text = .slice x y z) (ha0 : -2147483648 ≤ c.B) (ha1 : c.B ≤ 2147483647) (hmx : data.length ≤ 256) (hd : BytesAt w (fun _ => False) da data) :
    Calls Try.prog 14 #[.pointer (some ⟨H, 0, none⟩), regsV r pc ring, callV c cd, ansV a (.slice da data.length cap)] W fun e w' => e = .returned (regsV (giveRegs r A err B) pc ring) ∧ Upd (fun x => x = H) W w' ∧ ∃ m', LawAt w c6 c7 p0 X H Z (K + 6000) t' m' w' := by
  have L := G.base
  have u0 := G.upd
  have uw : Upd (fun _ => False) w W := L.upd.trans u0 (fun x hx h => by have := (L.foot _ h).1; omega)
  have hman : ManRep W m := L.man.upd u0 (fun h => by rw [L.mH] at h; exact (L.foot _ h).2.1 rfl)
  have hd' : BytesAt W (fun x => x = m.H) da data := by
    rcases hd with h | ⟨D, off, h1, h2, h3, h4⟩
    · exact .inl h
    · exact .inr ⟨D, off, h1, fun h => by rw [L.mH] at h; have := L.hH; omega, Nat.lt_of_lt_of_le h3 uw.size, fun j hj => (World.cell?_of_block (uw.block D h3 (fun h => h))).trans (h4 j hj)⟩
  have h := given_rep hman r pc ring c cd a data da cap hcd htx ha0 ha1 hmx hd'
  rw [L.mH] at h
  refine h.mono ?_
  rintro e w' ⟨A', err', B', m', rfl, hr, hmH, hu, q1, q2⟩
  rw [L.mH] at hu
  obtain ⟨we, p1, p2⟩ := G.p1
  obtain ⟨rfl, rfl, rfl, l, h0, h1⟩ := L.same.given L.sp hmx (by rw [L.len, L.frames, L.slots]; omega) p1 p2 q1 q2
  exact ⟨rfl, hu, m', L.given (K + 6000) (G.rep.upd hu (fun b hb e => by rw [l.foot] at hb; exact (L.foot _ hb).2.1 e)) hr hmH l h0 (by have := L.c1; omega) (l.enok L.enok) (by omega) ((u0.mono (fun _ _ h => .inl h)).trans hu (fun _ _ h => .inr h))⟩
theorem LawAt.readC (L : LawAt w c6 c7 p0 X H Z K t m W) (hK : K ≤ 1000000) (hp0 : 0 ≤ p0) (hp1 : p0 < 60) :
    Calls Try.prog 15 #[.pointer (some ⟨w.heap.size + 1 + 1 + 1, 0, none⟩), .int .i64 1, .int .i64 (16 * p0), .int .i64 64] W fun e w' => ∃ v, e = .returned (.tuple #[v, .int .i64 0]) ∧ w'.ownsRow W.heap.size 5 1 v 64 ((List.range 64).map fun j => byteV (m.byte (p0.toNat + j / 16) (j % 16))) ∧ ManRep w' m ∧ Upd t.foot W w' := by
  have h := read_rep L.rep L.enok 1 (16 * p0) 64 rfl (by omega) (by omega) (by rw [L.len]; omega) (by rw [L.frames]; omega) L.c0 (by have := L.c1; omega)
  obtain ⟨e1, e2⟩ := L.all hp0 hp1
  rw [L.M, e1, e2, List.length_map, List.length_range, List.map_map] at h
  refine h.mono ?_
  rintro e w' ⟨v, rfl, ho, hr, hu⟩
  exact ⟨v, rfl, ho, L.man.upd hu (fun h => by rw [L.mH] at h; exact (L.foot _ h).2.1 rfl), hu⟩
end
end Go.Proofs.Ytnhknnhdeegbdab
