/- one page more on both sides. No program in sight. -/
import Derived.Test.YtnhknnhdeegbdabManZero
import Derived.Test.YtnhknnhdeegbdabSpPut
import Derived.Laws.IdiomCopy
import Derived.Laws.CopyOwn
namespace Go.Proofs.Ytnhknnhdeegbdab
open Go.RowKit Go.ChangeMaps

def ManS.lay (m : ManS) (q : Nat) (d : Nat → UInt8) : ManS :=
  { m with there := fun x => if x = q then true else m.there x, may := fun x => if x = q then 3 else m.may x, byte := fun x i => if x = q then d i else m.byte x i }

theorem put_en (t : Mem) (b : Nat) (d : Nat → UInt8) (pa : Value) (X : Nat) (q : Int) (x : Int) : (((t.plus b d pa).ask b).setEn X q (b, 3)).en X x = if x = q then some (b, 3) else t.en X x := by
  simp [Mem.setEn, Mem.plus]
theorem put_data (t : Mem) (b : Nat) (d : Nat → UInt8) (pa : Value) (X : Nat) (q : Int) (c : Nat) : ((((t.plus b d pa).ask b).setEn X q (b, 3)).pg c).data = if c = b then d else (t.pg c).data := by
  show (((t.plus b d pa).ask b).pg c).data = _
  rw [ask_data]
  simp only [Mem.plus]
  split <;> rfl
theorem put_users (t : Mem) (b : Nat) (d : Nat → UInt8) (pa : Value) (X : Nat) (q : Int) (c : Nat) : ((((t.plus b d pa).ask b).setEn X q (b, 3)).pg c).users = if c = b then 1 else (t.pg c).users := by
  show (((t.plus b d pa).ask b).pg c).users = _
  rw [ask_users]
  simp only [Mem.plus]
  split <;> rfl

theorem Same1.put {t : Mem} {X : Nat} {m : ManS} (h : Same1 t X m) {q : Int} (h0 : 0 ≤ q) (b : Nat) (pa : Value) (d : Nat → UInt8) (hb : ∀ q' x, t.en X q' = some x → x.1 ≠ b) :
    Same1 (((t.plus b d pa).ask b).setEn X q (b, 3)) X (m.lay q.toNat d) where
  page := fun x hx0 hx1 => by
    rw [put_en]
    by_cases e : x = q
    · subst e
      rw [if_pos rfl]
      exact .inr ⟨b, rfl, by simp [ManS.lay], by simp [ManS.lay], fun i hi => by rw [put_data, if_pos rfl]; simp [ManS.lay]⟩
    · rw [if_neg e]
      have e' : x.toNat ≠ q.toNat := by omega
      rcases h.page x hx0 hx1 with ⟨f1, f2⟩ | ⟨p, f1, f2, f3, f4⟩
      · exact .inl ⟨f1, by simp [ManS.lay, e', f2]⟩
      · exact .inr ⟨p, f1, by simp [ManS.lay, f2], by simp [ManS.lay, e', f3], fun i hi => by rw [put_data, if_neg (hb _ _ f1)]; simp [ManS.lay, e', f4 i hi]⟩
  inj := fun x y u v hx hy huv => by
    rw [put_en] at hx hy
    by_cases e : x = q
    · by_cases f : y = q
      · rw [e, f]
      · rw [if_pos e] at hx; rw [if_neg f] at hy; cases hx; exact absurd huv.symm (hb _ _ hy)
    · by_cases f : y = q
      · rw [if_neg e] at hx; rw [if_pos f] at hy; cases hy; exact absurd huv (hb _ _ hx)
      · rw [if_neg e] at hx; rw [if_neg f] at hy; exact h.inj _ _ _ _ hx hy huv
  users := fun x u hx => by
    rw [put_en] at hx
    rw [put_users]
    split
    · omega
    · rename_i e
      split at hx
      · cases hx; exact absurd rfl e
      · exact h.users _ _ hx

theorem rowIs_setCells {b : Nat} {t : TypeId} {n : Nat} : ∀ (vs : List Value) (o : Nat) (w : World) (f : Nat → Value), w.rowIs b t n f →
    (w.setCells b o vs).rowIs b t n (fun j => if o ≤ j ∧ j < o + vs.length then vs.getD (j - o) undef else f j)
  | [], o, w, f, h => h.congr (fun j _ => by rw [if_neg (by simp only [List.length_nil]; omega)])
  | v :: r, o, w, f, h => by
    have ih := rowIs_setCells r (o + 1) _ _ (h.set o v)
    refine ih.congr (fun j _ => ?_)
    simp only [List.length_cons]
    by_cases e : j = o
    · subst e
      rw [if_neg (by omega), if_pos rfl, if_pos (by omega), Nat.sub_self]
      rfl
    · by_cases e2 : o + 1 ≤ j ∧ j < o + 1 + r.length
      · rw [if_pos e2, if_pos (by omega), show j - o = (j - (o + 1)) + 1 by omega]
        rfl
      · rw [if_neg e2, if_neg e, if_neg (by omega)]

def pageVals (d : Nat → UInt8) : List Value := .bool true :: .int .i64 3 :: (List.range 16).map fun i => byteV (d i)
theorem pageVals_getD (d : Nat → UInt8) (i : Nat) (h : i < 18) : (pageVals d).getD i undef = if i = 0 then .bool true else if i = 1 then .int .i64 3 else byteV (d (i - 2)) := by
  by_cases h0 : i = 0
  · subst h0; rfl
  · by_cases h1 : i = 1
    · subst h1; rfl
    · obtain ⟨k, rfl⟩ : ∃ k, i = k + 2 := ⟨i - 2, by omega⟩
      rw [if_neg h0, if_neg h1, Nat.add_sub_cancel]
      have hk : k < 16 := by omega
      simp only [pageVals, List.getD_cons_succ]
      simp [List.getD, hk]
theorem ManRep.layCells {w : World} {m : ManS} (R : ManRep w m) {q : Nat} (hq : q < 64) (d : Nat → UInt8) : ManRep (w.setCells m.H (28 + q * 18) (pageVals d)) (m.lay q d) := by
  refine (rowIs_setCells (pageVals d) (28 + q * 18) w _ R).congr (fun j hj => ?_)
  have hlen : (pageVals d).length = 18 := by simp [pageVals]
  rw [hlen]
  unfold manCell
  by_cases h1 : 28 + q * 18 ≤ j ∧ j < 28 + q * 18 + 18
  · rw [if_pos h1, if_neg (by omega)]
    obtain ⟨i, rfl⟩ : ∃ i, j = 28 + q * 18 + i := ⟨j - (28 + q * 18), by omega⟩
    have e1 : (28 + q * 18 + i - 28) % 18 = i := by omega
    have e2 : (28 + q * 18 + i - 28) / 18 = q := by omega
    rw [e1, e2, show 28 + q * 18 + i - (28 + q * 18) = i by omega]
    rw [pageVals_getD d i (by omega)]
    simp only [ManS.lay, if_true]
    rfl
  · rw [if_neg h1]
    by_cases h28 : j < 28
    · rw [if_pos h28, if_pos h28]; rfl
    · rw [if_neg h28, if_neg h28]
      have e2 : (j - 28) / 18 ≠ q := by omega
      simp only [ManS.lay, if_neg e2]

theorem upd_setCells (b : Nat) : ∀ (vs : List Value) (o : Nat) (w : World), Upd (fun x => x = b) w (w.setCells b o vs)
  | [], _, w => Upd.refl _ w
  | v :: r, o, w => ((Upd.refl (fun x => x = b) w).setCell (.inl rfl) v).trans (upd_setCells b r (o + 1) _) (fun _ _ h => h)

theorem ManRep.copyCells {w : World} {m : ManS} {q : Nat} (R : ManRep w (m.lay q (fun _ => 0))) (hq : q < 64) {data : List UInt8} (hl : data.length ≤ 16) : ManRep (w.setCells m.H (28 + q * 18 + 2) (data.map byteV)) (m.lay q (padTo data)) := by
  refine (rowIs_setCells (data.map byteV) (28 + q * 18 + 2) w _ R).congr (fun j hj => ?_)
  rw [List.length_map]
  by_cases h1 : 28 + q * 18 + 2 ≤ j ∧ j < 28 + q * 18 + 2 + data.length
  · rw [if_pos h1]
    obtain ⟨i, rfl⟩ : ∃ i, j = 28 + q * 18 + 2 + i := ⟨j - (28 + q * 18 + 2), by omega⟩
    unfold manCell
    rw [if_neg (by omega), if_neg (by omega), if_neg (by omega), show 28 + q * 18 + 2 + i - (28 + q * 18 + 2) = i by omega, show (28 + q * 18 + 2 + i - 28) / 18 = q by omega, show (28 + q * 18 + 2 + i - 28) % 18 - 2 = i by omega]
    have hi : i < data.length := by omega
    simp [ManS.lay, padTo, List.getD, hi, byteV]
  · rw [if_neg h1]
    unfold manCell
    by_cases h28 : j < 28
    · rw [if_pos h28, if_pos h28]; rfl
    · rw [if_neg h28, if_neg h28]
      by_cases e : (j - 28) / 18 = q
      · by_cases e0 : (j - 28) % 18 = 0
        · rw [if_pos e0, if_pos e0]; rfl
        · rw [if_neg e0, if_neg e0]
          by_cases e1 : (j - 28) % 18 = 1
          · rw [if_pos e1, if_pos e1]; rfl
          · rw [if_neg e1, if_neg e1]
            have hlt : data.length ≤ (j - 28) % 18 - 2 := by omega
            simp [ManS.lay, e, padTo, List.getD, hlt]
      · simp only [ManS.lay, if_neg e]

section
variable {P : Program} {w : World}
theorem wpList_store_cells {ops : Array Oper} {rest : List Oper} {o : Oper} {a : Act} {Q : Exit → Act → World → Prop} (hg : o.guard = none) (T : TypeId) (x v : Operand) (ho : o.op = .store T x v)
    (b off : Nat) (vs : List Value) (hx : a.eval x = .pointer (some ⟨b, off, none⟩)) (hv : (a.eval v).cells.toList = vs) (hsz : (P.info? T).map (·.size) = some vs.length)
    (hc : ∀ j, j < vs.length → (w.cell? ⟨b, off + j, none⟩).isSome = true) (hf : ∀ j, j < vs.length → w.frozen? ⟨b, off + j, none⟩ = false) (h1 : ∀ u ∈ vs, u.oneCell' = true)
    (h : wpList P ops Q rest (a.put o.dst undef) (w.setCells b off vs)) : wpList P ops Q (o :: rest) a w := by
  refine wpList_plain hg fun K hK => ?_
  have hst := run_storeCells_cells (P := P) b off vs 0 w (by simpa using hc) (by simpa using hf) h1
  simp only [Nat.add_zero] at hst
  unfold Oper.wp execOp
  simp only [ho, hx]
  obtain ⟨i, hi, hisz⟩ := Option.map_eq_some_iff.1 hsz
  have hs : (a.eval v).cells.size = vs.length := by rw [← hv, Array.length_toList]
  have hrun : (Instr.storeAt T (.pointer (some ⟨b, off, none⟩)) (a.eval v)).run P w = .ok () (w.setCells b off vs) := by
    simp [Instr.storeAt, Instr.sureAddr, storeVar, sizeOf, typeInfo, hi, hisz, hs, hv, hst, Result.andThen]
  simp only [Sem.run_bind, hrun, Result.andThen_ok, Sem.run_pure]
  exact hK _ _ h
theorem wpList_copy_at {ops : Array Oper} {rest : List Oper} {o : Oper} {a : Act} {Q : Exit → Act → World → Prop} (hgd : o.guard = none) (d s : Operand) (dT sT : TypeId)
    (ho : o.op = .call { callee := .builtin .copy, args := #[d, s], argTypes := #[dT, sT] }) (elem : TypeId) (hu : P.underlying dT = some (.slice elem)) (hsz : (P.info? elem).map (·.size) = some 1)
    (b off dLen dCap : Nat) (sp : Option Addr) (sLen sCap : Nat) (hd : a.eval d = .slice (some ⟨b, off, none⟩) dLen dCap) (hs : a.eval s = .slice sp sLen sCap)
    (cs : List Value) (hn : cs.length = Nat.min sLen dLen) (hpos : 0 < cs.length → ∃ ad, sp = some ad ∧ ∀ j v, cs[j]? = some v → w.cell? (ad.add j) = some v)
    (hc : ∀ j, j < cs.length → (w.cell? ⟨b, off + j, none⟩).isSome = true) (hf : ∀ j, j < cs.length → w.frozen? ⟨b, off + j, none⟩ = false) (h1 : ∀ u ∈ cs, u.oneCell' = true)
    (h : wpList P ops Q rest (a.put o.dst (goInt cs.length)) (w.setCells b off cs)) : wpList P ops Q (o :: rest) a w := by
  by_cases h0 : cs.length = 0
  · obtain rfl : cs = [] := List.eq_nil_of_length_eq_zero h0
    exact wpList_copy_nothing hgd d s dT sT ho elem hu hsz _ sp dLen dCap sLen sCap hd hs (by simpa using hn.symm) h
  · obtain ⟨ad, rfl, hsrc⟩ := hpos (by omega)
    refine wpList_plain hgd fun K hK => ?_
    have hr := run_copy_cells (P := P) w dT sT o.type elem b off dLen dCap ad sLen sCap cs hu hsz hn hsrc hc hf h1
    unfold Oper.wp execOp
    simp only [ho, resolve, invoke, builtin, Sem.run_bind, Sem.run_pure, Result.andThen_ok, List.map_toArray, List.map_cons, List.map_nil, hs, hd, hr]
    exact hK _ _ h
end

/-- where the law stands when k pages are laid -/
structure LawIn (w : World) (c6 c7 : Array Value) (p0 : Int) (X H k : Nat) (t : Mem) (m : ManS) (W : World) : Prop where
  q6 : W.heap[w.heap.size]? = some (.cells c6 26 (0, 0))
  q7 : W.heap[w.heap.size + 1]? = some (.cells c7 32 (0, 0))
  rep : Rep W t
  M : t.M = w.heap.size + 1 + 1 + 1
  sp : t.sp 1 = some X
  frames : t.frames = 64
  slots : t.slots = 0
  len : t.pages.length = k
  c0 : 0 ≤ t.clock
  c1 : t.clock ≤ 10 * k
  enok : t.EnOk
  same : Same1 t X m
  out : ∀ q, q < p0 ∨ p0 + k ≤ q → t.en X q = none
  ins : ∀ q, p0 ≤ q → q < p0 + k → ∃ x, t.en X q = some x
  foot : ∀ b, t.foot b → w.heap.size + 1 < b ∧ b ≠ H
  man : ManRep W m
  mH : m.H = H
  hH : w.heap.size + 1 < H
  upd : Upd (fun _ => False) w W
  us : ∀ b, b ∈ t.pages → (t.pg b).users ≤ 1

theorem LawIn.step {w : World} {c6 c7 : Array Value} {p0 : Int} {X H k : Nat} {t : Mem} {m : ManS} {W w' : World} (L : LawIn w c6 c7 p0 X H k t m W) (hp : 0 ≤ p0) (hk : p0 + k < 64) {data : List UInt8} (hl : data.length ≤ 16) {b : Nat} {pa : Value}
    (hb : W.heap.size ≤ b) (hR : Rep w' (((t.plus b (padTo data) pa).ask b).setEn X (p0 + k) (b, 3))) (hu : Upd t.foot W w') (hf : ∀ x, (t.plus b (padTo data) pa).foot x → t.foot x ∨ W.heap.size ≤ x) :
    LawIn w c6 c7 p0 X H (k + 1) (((t.plus b (padTo data) pa).ask b).setEn X (p0 + k) (b, 3)) (m.lay (p0 + k).toNat (padTo data))
      ((w'.setCells H (28 + (p0 + k).toNat * 18) (pageVals (fun _ => 0))).setCells H (28 + (p0 + k).toNat * 18 + 2) (data.map byteV)) := by
  have hHw : H < W.heap.size := by rw [← L.mH]; exact World.rowIs.lt L.man
  have hm1 : ManRep w' m := L.man.upd hu (fun e => by rw [L.mH] at e; exact (L.foot _ e).2 rfl)
  have hm2 := hm1.layCells (q := (p0 + k).toNat) (by omega) (fun _ => 0)
  rw [L.mH] at hm2
  have hm3 := ManRep.copyCells (m := m) (data := data) hm2 (by omega) hl
  rw [L.mH] at hm3
  have u2 := upd_setCells H (pageVals (fun _ => 0)) (28 + (p0 + k).toNat * 18) w'
  have u3 := upd_setCells H (data.map byteV) (28 + (p0 + k).toNat * 18 + 2) (w'.setCells H (28 + (p0 + k).toNat * 18) (pageVals (fun _ => 0)))
  have u : Upd (fun x => x = H) w' _ := u2.trans u3 (fun _ _ h => h)
  have hfo : ∀ x, (((t.plus b (padTo data) pa).ask b).setEn X (p0 + k) (b, 3)).foot x → t.foot x ∨ W.heap.size ≤ x := by
    intro x hx
    apply hf
    have e : (((t.plus b (padTo data) pa).ask b).setEn X (p0 + k) (b, 3)).foot x = ((t.plus b (padTo data) pa).ask b).foot x := rfl
    rw [e, ask_foot] at hx
    exact hx
  have hWw := L.upd.size
  have hq7 := (Array.getElem?_eq_some_iff.1 L.q7).1
  have keep : ∀ {c : Nat} {o : Obj}, c ≤ w.heap.size + 1 → W.heap[c]? = some o → ((w'.setCells H (28 + (p0 + k).toNat * 18) (pageVals (fun _ => 0))).setCells H (28 + (p0 + k).toNat * 18 + 2) (data.map byteV)).heap[c]? = some o := fun {c o} hc ho => by
    have hlt := (Array.getElem?_eq_some_iff.1 ho).1
    have h1 := (hu.block c hlt (fun h => by have := (L.foot c h).1; omega)).trans ho
    exact (u.block c (Array.getElem?_eq_some_iff.1 h1).1 (fun e => by have := L.hH; omega)).trans h1
  refine ⟨keep (by omega) L.q6, keep (by omega) L.q7, hR.upd u (fun x hx e => ?_), ?_, ?_, ?_, ?_, ?_, ?_, ?_, ?_, L.same.put (by omega) b pa _ (fun q' x hx e => ?_), fun q hq => ?_, fun q h0 h1 => ?_, fun x hx => ?_, hm3, L.mH, L.hH, ?_, fun c hc => ?_⟩
  · rcases hfo x hx with h | h
    · exact (L.foot x h).2 e
    · omega
  · simpa [Mem.setEn, Mem.plus] using L.M
  · simpa [Mem.setEn, Mem.plus] using L.sp
  · simpa [Mem.setEn, Mem.plus] using L.frames
  · simpa [Mem.setEn, Mem.plus] using L.slots
  · simpa [Mem.setEn, Mem.plus] using L.len
  · have := L.c0; simp [Mem.setEn, Mem.plus]; omega
  · have := L.c1; simp [Mem.setEn, Mem.plus]; omega
  · intro k' Y q x h1 h2
    have h1' : t.sp k' = some Y := by simpa [Mem.setEn, Mem.plus] using h1
    show x.1 ∈ ((t.plus b (padTo data) pa).ask b).pages
    rw [ask_pages]
    show x.1 ∈ t.pages ++ [b]
    by_cases e : Y = X
    · subst e
      rw [put_en] at h2
      split at h2
      · cases h2; simp
      · exact List.mem_append_left _ (L.enok k' _ q x h1' h2)
    · have h2' : t.en Y q = some x := by simpa [Mem.setEn, Mem.plus, e] using h2
      exact List.mem_append_left _ (L.enok k' _ q x h1' h2')
  · have h1 : x.1 ∈ t.pages := L.enok 1 X q' x L.sp hx
    have h2 : t.foot x.1 := .inr (.inr (.inr (.inl h1)))
    have := L.rep.foot_lt h2
    omega
  · rw [put_en, if_neg (by omega)]; exact L.out q (by omega)
  · rw [put_en]
    split
    · exact ⟨_, rfl⟩
    · exact L.ins q h0 (by omega)
  · rcases hfo x hx with h | h
    · exact L.foot x h
    · omega
  · exact (L.upd.trans hu (fun x hx h => by have := (L.foot x h).1; omega)).trans u (fun x hx e => by have := L.hH; omega)
  · rw [put_users]
    split
    · omega
    · rename_i hne
      have hc' : c ∈ ((t.plus b (padTo data) pa).ask b).pages := hc
      rw [ask_pages] at hc'
      have hc2 : c ∈ t.pages ++ [b] := hc'
      rcases List.mem_append.1 hc2 with h | h
      · exact L.us c h
      · exact absurd (List.mem_singleton.1 h) hne

theorem LawIn.start {w w1 w2 : World} {c6 c7 : Array Value} (p0 : Int) (hu1 : Upd (fun _ => False) ((w.alloc (.cells c6 26)).alloc (.cells c7 32)) w1)
    (hr2 : Rep w2 ((Mem.fresh (w.heap.size + 1 + 1 + 1) (w.heap.size + 1 + 1) 64 0).withSpace 1 w1.heap.size)) (hz : w.heap.size + 1 + 1 + 1 < w1.heap.size)
    (hu2 : Upd (Mem.fresh (w.heap.size + 1 + 1 + 1) (w.heap.size + 1 + 1) 64 0).foot w1 w2) :
    LawIn w c6 c7 p0 w1.heap.size w2.heap.size 0 ((Mem.fresh (w.heap.size + 1 + 1 + 1) (w.heap.size + 1 + 1) 64 0).withSpace 1 w1.heap.size) (manNew w2.heap.size) (w2.alloc (.cells manZeroC 51)) := by
  have hX : w1.heap.size < w2.heap.size := hr2.foot_lt (.inr (.inr (.inr (.inr ⟨1, by simp [Mem.withSpace]⟩))))
  have hfo : ∀ x, (Mem.fresh (w.heap.size + 1 + 1 + 1) (w.heap.size + 1 + 1) 64 0).foot x → x = w.heap.size + 1 + 1 + 1 ∨ x = w.heap.size + 1 + 1 := by
    intro x hx
    rcases hx with h | h | h | h | ⟨k, h⟩
    · exact .inl h
    · exact .inr h
    · cases h
    · cases h
    · cases h
  have ua : Upd (fun _ => False) w ((w.alloc (.cells c6 26)).alloc (.cells c7 32)) := ((Upd.refl _ _).alloc _).alloc _
  have u1 : Upd (fun _ => False) w w1 := ua.trans' hu1
  have u2 : Upd (fun _ => False) w w2 := u1.trans hu2 (fun x hx h => by rcases hfo x h with h | h <;> omega)
  have hen : ∀ q, ((Mem.fresh (w.heap.size + 1 + 1 + 1) (w.heap.size + 1 + 1) 64 0).withSpace 1 w1.heap.size).en w1.heap.size q = none := fun q => by simp [Mem.withSpace]
  have keep : ∀ {c : Nat} {o : Obj}, c ≤ w.heap.size + 1 → ((w.alloc (.cells c6 26)).alloc (.cells c7 32)).heap[c]? = some o → (w2.alloc (.cells manZeroC 51)).heap[c]? = some o := fun {c o} hc ho => by
    have h1 := (hu1.block c (Array.getElem?_eq_some_iff.1 ho).1 (fun h => h)).trans ho
    have h2 := (hu2.block c (Array.getElem?_eq_some_iff.1 h1).1 (fun h => by rcases hfo c h with h | h <;> omega)).trans h1
    exact (((Upd.refl (fun _ => False) w2).alloc _).block c (Array.getElem?_eq_some_iff.1 h2).1 (fun h => h)).trans h2
  refine ⟨keep (by omega) ?_, keep (by omega) ?_, hr2.upd ((Upd.refl (fun _ => False) w2).alloc _) (fun _ _ h => h), rfl, by simp [Mem.withSpace], rfl, rfl, rfl, ?_, ?_, ?_, ⟨fun q _ _ => .inl ⟨hen q, rfl⟩, fun q q' x y h => ?_, fun q x h => ?_⟩, fun q _ => hen q, fun q h0 h1 => by omega, fun x hx => ?_, man_new w2, rfl, by omega, u2.alloc _, fun c hc => by cases hc⟩
  · have h0 := Go.heap_alloc_new w (.cells c6 26)
    exact (((Upd.refl (fun _ => False) (w.alloc (.cells c6 26))).alloc _).block _ (Array.getElem?_eq_some_iff.1 h0).1 (fun h => h)).trans h0
  · have := Go.heap_alloc_new (w.alloc (.cells c6 26)) (.cells c7 32)
    rwa [World.size_alloc] at this
  · simp [Mem.withSpace, Mem.fresh]
  · simp [Mem.withSpace, Mem.fresh]
  · intro k Y q x h1 h2
    by_cases e : Y = w1.heap.size
    · subst e; rw [hen] at h2; cases h2
    · simp [Mem.withSpace, Mem.fresh] at h2
  · rw [hen] at h; cases h
  · rw [hen] at h; cases h
  · rcases hx with h | h | h | h | ⟨k, h⟩
    · have h : x = w.heap.size + 1 + 1 + 1 := h
      omega
    · have h : x = w.heap.size + 1 + 1 := h
      omega
    · cases h
    · cases h
    · have h : (if k = 1 then some w1.heap.size else none) = some x := h
      split at h
      · cases h; omega
      · cases h

end Go.Proofs.Ytnhknnhdeegbdab
