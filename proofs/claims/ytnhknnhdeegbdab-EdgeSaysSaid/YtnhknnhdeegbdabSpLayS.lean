/- lay, as plain data: byte by byte; a page that others have, too, is copied first. -/
import Derived.Test.YtnhknnhdeegbdabSpShared
namespace Go.Proofs.Ytnhknnhdeegbdab
open Go.RowKit Go.ChangeMaps

def Mem.setByte (s : Mem) (b i : Nat) (v : UInt8) : Mem := s.setPg b ((s.pg b).setData i v)
def Mem.setEn (s : Mem) (X : Nat) (k : Int) (x : Nat × Int) : Mem := { s with en := fun Y => if Y = X then (fun j => if j = k then some x else s.en X j) else s.en Y }
def Mem.less (s : Mem) (b : Nat) : Mem := s.setPg b ((s.pg b).setUsers ((s.pg b).users - 1))
/-- the copy of a page in place of it -/
def Mem.copied (s : Mem) (X : Nat) (k : Int) (x : Nat × Int) (b : Nat) (pa : Value) : Mem := ((((s.less x.1).plus b (s.pg x.1).data pa).ask b).setEn X k (b, x.2)).ask b

inductive LayTo (s : Mem) (X : Nat) (addr : Int) (data : List UInt8) : Nat → Mem → Prop
  | start : LayTo s X addr data 0 s
  | own {k : Nat} {t : Mem} (h : LayTo s X addr data k t) (x : Nat × Int) (hx : t.en X ((addr + k) / 16) = some x) (hu : (t.pg x.1).users ≤ 1) :
      LayTo s X addr data (k + 1) ((t.ask x.1).setByte x.1 ((addr + k) % 16).toNat (data.getD k 0))
  | cow {k : Nat} {t : Mem} (h : LayTo s X addr data k t) (x : Nat × Int) (hx : t.en X ((addr + k) / 16) = some x) (hu : 1 < (t.pg x.1).users) (b : Nat) (pa : Value) (hb : b ∉ t.pages) :
      LayTo s X addr data (k + 1) ((t.copied X ((addr + k) / 16) x b pa).setByte b ((addr + k) % 16).toNat (data.getD k 0))

theorem Mem.copied_M (s : Mem) (X : Nat) (k : Int) (x : Nat × Int) (b : Nat) (pa : Value) : (s.copied X k x b pa).M = s.M := by simp [Mem.copied, Mem.setEn, Mem.plus, Mem.less, Mem.setPg]
theorem Mem.copied_S (s : Mem) (X : Nat) (k : Int) (x : Nat × Int) (b : Nat) (pa : Value) : (s.copied X k x b pa).S = s.S := by simp [Mem.copied, Mem.setEn, Mem.plus, Mem.less, Mem.setPg]
theorem Mem.copied_sp (s : Mem) (X : Nat) (k : Int) (x : Nat × Int) (b : Nat) (pa : Value) : (s.copied X k x b pa).sp = s.sp := by simp [Mem.copied, Mem.setEn, Mem.plus, Mem.less, Mem.setPg]
theorem Mem.copied_frames (s : Mem) (X : Nat) (k : Int) (x : Nat × Int) (b : Nat) (pa : Value) : (s.copied X k x b pa).frames = s.frames := by simp [Mem.copied, Mem.setEn, Mem.plus, Mem.less, Mem.setPg]
theorem Mem.copied_slots (s : Mem) (X : Nat) (k : Int) (x : Nat × Int) (b : Nat) (pa : Value) : (s.copied X k x b pa).slots = s.slots := by simp [Mem.copied, Mem.setEn, Mem.plus, Mem.less, Mem.setPg]
theorem Mem.copied_clock (s : Mem) (X : Nat) (k : Int) (x : Nat × Int) (b : Nat) (pa : Value) : (s.copied X k x b pa).clock = s.clock + 2 := by simp [Mem.copied, Mem.setEn, Mem.plus, Mem.less, Mem.setPg]; omega
theorem Mem.copied_pages (s : Mem) (X : Nat) (k : Int) (x : Nat × Int) (b : Nat) (pa : Value) : (s.copied X k x b pa).pages = s.pages ++ [b] := by simp [Mem.copied, Mem.setEn, Mem.plus, Mem.less, Mem.setPg]
theorem Mem.copied_en (s : Mem) (X : Nat) (k : Int) (x : Nat × Int) (b : Nat) (pa : Value) : (s.copied X k x b pa).en = fun Y => if Y = X then (fun j => if j = k then some (b, x.2) else s.en X j) else s.en Y := by simp [Mem.copied, Mem.setEn, Mem.plus, Mem.less, Mem.setPg]

theorem setByte_users (t : Mem) (p i : Nat) (v : UInt8) (b : Nat) : ((t.setByte p i v).pg b).users = (t.pg b).users := setPg_users t p ((t.pg p).setData i v) rfl b
theorem Mem.copied_users (s : Mem) (X : Nat) (k : Int) (x : Nat × Int) (b : Nat) (pa : Value) (c : Nat) : ((s.copied X k x b pa).pg c).users = if c = b then 1 else if c = x.1 then (s.pg x.1).users - 1 else (s.pg c).users := by
  rw [Mem.copied, ask_users]
  show (((((s.less x.1).plus b (s.pg x.1).data pa).ask b)).pg c).users = _
  rw [ask_users]
  simp only [Mem.plus, Mem.less, Mem.setPg]
  split
  · rfl
  · split <;> rfl

structure LayInv (s t : Mem) (X : Nat) (k : Nat) : Prop where
  M : t.M = s.M
  S : t.S = s.S
  sp : t.sp = s.sp
  frames : t.frames = s.frames
  slots : t.slots = s.slots
  clock0 : s.clock ≤ t.clock
  clock : t.clock ≤ s.clock + 2 * k
  pages : t.pages.length ≤ s.pages.length + k
  mem : ∀ b, b ∈ s.pages → b ∈ t.pages
  enok : s.EnOk → t.EnOk
  en : ∀ j x, s.en X j = some x → ∃ b, t.en X j = some (b, x.2)
  enX : ∀ Y, Y ≠ X → t.en Y = s.en Y
  users : ∀ U, 1 ≤ U → (∀ b, b ∈ s.pages → (s.pg b).users ≤ U) → ∀ b, b ∈ t.pages → (t.pg b).users ≤ U

theorem LayTo.inv {s t : Mem} {X : Nat} {addr : Int} {data : List UInt8} {k : Nat} (h : LayTo s X addr data k t) : LayInv s t X k := by
  induction h with
  | start => exact ⟨rfl, rfl, rfl, rfl, rfl, by omega, by omega, by omega, fun _ h => h, fun h => h, fun j x h => ⟨x.1, h⟩, fun _ _ => rfl, fun _ _ h => h⟩
  | own h x hx hu ih =>
    refine ⟨by simp [Mem.setByte, Mem.setPg, ih.M], by simp [Mem.setByte, Mem.setPg, ih.S], by simp [Mem.setByte, Mem.setPg, ih.sp], by simp [Mem.setByte, Mem.setPg, ih.frames], by simp [Mem.setByte, Mem.setPg, ih.slots],
      by have := ih.clock0; simp [Mem.setByte, Mem.setPg]; omega, by have := ih.clock; simp [Mem.setByte, Mem.setPg]; omega, by have := ih.pages; simp [Mem.setByte, Mem.setPg]; omega, fun b hb => by simpa [Mem.setByte, Mem.setPg] using ih.mem b hb, fun he => ?_, fun j y hy => by simpa [Mem.setByte, Mem.setPg] using ih.en j y hy, fun Y hY => by simpa [Mem.setByte, Mem.setPg] using ih.enX Y hY, fun U h1 hU c hc => ?_⟩
    rotate_left
    · rw [setByte_users, ask_users]; exact ih.users U h1 hU c (by simpa [Mem.setByte, Mem.setPg] using hc)
    intro k' X' a y h1 h2
    simp [Mem.setByte, Mem.setPg] at h1 h2 ⊢
    exact ih.enok he k' X' a y h1 h2
  | @cow k' t' h x hx hu b pa hb ih =>
    refine ⟨by simp [Mem.setByte, Mem.setPg, Mem.copied_M, ih.M], by simp [Mem.setByte, Mem.setPg, Mem.copied_S, ih.S], by simp [Mem.setByte, Mem.setPg, Mem.copied_sp, ih.sp], by simp [Mem.setByte, Mem.setPg, Mem.copied_frames, ih.frames], by simp [Mem.setByte, Mem.setPg, Mem.copied_slots, ih.slots],
      by have := ih.clock0; simp [Mem.setByte, Mem.setPg, Mem.copied_clock]; omega, by have := ih.clock; simp [Mem.setByte, Mem.setPg, Mem.copied_clock]; omega, by have := ih.pages; simp [Mem.setByte, Mem.setPg, Mem.copied_pages]; omega, fun c hc => by simp [Mem.setByte, Mem.setPg, Mem.copied_pages, ih.mem c hc], fun he => ?_, fun j y hy => ?_, fun Y hY => ?_, fun U h1 hU c hc => ?_⟩
    · intro k' X' a y h1 h2
      simp only [Mem.setByte, Mem.setPg, Mem.copied_sp, Mem.copied_en, Mem.copied_pages] at h1 h2 ⊢
      by_cases e : X' = X
      · rw [if_pos e] at h2
        split at h2
        · cases h2; simp
        · subst e; exact List.mem_append_left _ (ih.enok he k' _ a y h1 h2)
      · rw [if_neg e] at h2; exact List.mem_append_left _ (ih.enok he k' X' a y h1 h2)
    · obtain ⟨c, hc⟩ := ih.en j y hy
      simp only [Mem.setByte, Mem.setPg, Mem.copied_en, if_pos]
      split
      · rename_i e; subst e
        rw [hx] at hc
        cases hc
        exact ⟨b, rfl⟩
      · exact ⟨c, hc⟩
    · simp only [Mem.setByte, Mem.setPg, Mem.copied_en, if_neg hY]; exact ih.enX Y hY
    · rw [setByte_users, Mem.copied_users]
      have hc' : c ∈ t'.pages ++ [b] := by simpa [Mem.setByte, Mem.setPg, Mem.copied_pages] using hc
      rw [List.mem_append, List.mem_singleton] at hc'
      split
      · exact h1
      · rename_i hcb
        have hm := ih.users U h1 hU c (by rcases hc' with h | h; exact h; exact absurd h hcb)
        split
        · rename_i e; subst e; omega
        · exact hm

section
variable {w : World} {s : Mem}
theorem Rep.setByte (R : Rep w s) {p : Nat} (hp : p ∈ s.pages) (i : Nat) (hi : i < 16) (v : UInt8) : Rep (w.setCell ⟨p, i, none⟩ (.int .u8 v.toNat)) (s.setByte p i v) := by
  refine R.setPage (b := p) hp i _ _ (fun j hj => ?_)
  by_cases h : j = i
  · subst h
    simp only [pgCell, Pg.setData, if_true]
    rw [if_neg (by omega), if_neg (by omega), if_neg (by omega)]
  · simp only [pgCell, Pg.setData, if_neg h]
theorem Rep.less (R : Rep w s) {p : Nat} (hp : p ∈ s.pages) : Rep (w.setCell ⟨p, 16, none⟩ (.int .i64 ((s.pg p).users - 1))) (s.less p) := by
  refine R.setPage (b := p) hp 16 _ _ (fun j hj => ?_)
  by_cases h : j = 16
  · subst h; simp [pgCell, Pg.setUsers]
  · simp [pgCell, Pg.setUsers, h]
theorem Rep.setEn (R : Rep w s) {sn : Int} {X : Nat} (h : s.sp sn = some X) {w' : World} (k : Int) (x : Nat × Int) (u : Upd (fun b => b = X) w w') (m : MapAt w' X (fun j => if j = k then some x else s.en X j) entV) : Rep w' (s.setEn X k x) where
  mem := R.mem.of_block (u.block _ R.mem.lt (fun e => R.X_ne_M h e.symm))
  arr := by
    obtain ⟨hl, h' | ⟨g, cap, cur, hv, hb, hg, hr⟩⟩ := R.arr
    · exact ⟨hl, .inl h'⟩
    · exact ⟨hl, .inr ⟨g, cap, cur, hv, hb, (u.block g (Array.getElem?_eq_some_iff.1 hg).1 (fun e => R.arr_ne_map (R.enm sn X h) (by rw [hv, ← e]; rfl))).trans hg, hr⟩⟩
  pgs := fun b hb => (R.pgs b hb).of_block (u.block _ (R.pgs b hb).lt (fun e => R.X_ne_page h hb e.symm))
  spm := R.spm.of_block (u.block _ R.spm.lt (fun e => R.X_ne_S h e.symm))
  enm := fun k' Y hY => by
    show MapAt w' Y (if Y = X then _ else s.en Y) entV
    by_cases e : Y = X
    · subst e; rw [if_pos rfl]; exact m
    · rw [if_neg e]
      exact (R.enm k' Y hY).of_block (u.block _ (R.enm k' Y hY).lt (fun e' => e e'))
  nodup := R.nodup
  inj := R.inj
  sne := R.sne
end

section
variable {P : Program} {w : World}
/-- a store into a map, for the walk -/
theorem wpList_put_at {α : Type} {ops : Array Oper} {rest : List Oper} {o : Oper} {a : Act} {Q : Exit → Act → World → Prop}
    (hg : o.guard = none) (m x v : Operand) (T : TypeId) (hop : o.op = Op.mapUpdate T m x v)
    {K E : TypeId} (hT : P.underlying T = some (.map K E)) (hK : P.underlying K = some (.int .i64)) {b : Nat} {f : Int → Option α} {toV : α → Value} (h : MapAt w b f toV) {n : Int} (hw : (Lit.int .i64 n).wf = true) (y : α)
    (hm : a.eval m = .map (some b)) (hx : a.eval x = .int .i64 n) (hv : a.eval v = toV y)
    (hN : ∀ w', Upd (fun q => q = b) w w' → w'.heap.size = w.heap.size → MapAt w' b (fun m => if m = n then some y else f m) toV → wpList P ops Q rest (a.put o.dst undef) w') :
    wpList P ops Q (o :: rest) a w := by
  refine wpList_plain hg fun K' hK' => ?_
  obtain ⟨ob, hrun, r1⟩ := h.put (P := P) hT hK hw y
  unfold Oper.wp
  simp [execOp, hop, hm, hx, hv, hrun, Result.andThen]
  exact hK' _ _ (hN _ (Upd.setBlock (F := fun q => q = b) (Upd.refl _ _) (.inl rfl) ob) (by simp [ChangeMaps.setBlock]) r1)
end
end Go.Proofs.Ytnhknnhdeegbdab
