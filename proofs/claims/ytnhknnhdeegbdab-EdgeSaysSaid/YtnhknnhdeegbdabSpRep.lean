/- space.Memory: what its blocks hold, as plain data. -/
import Derived.Test.YtnhknnhdeegbdabMap
namespace Go.Proofs.Ytnhknnhdeegbdab
open Go.RowKit Go.ChangeMaps

structure Pg where
  data : Nat → UInt8
  users : Int
  here : Bool
  asked : Int

def pgCell (p : Pg) (i : Nat) : Value :=
  if i = 16 then .int .i64 p.users else if i = 17 then .bool p.here else if i = 18 then .int .i64 p.asked else .int .u8 (p.data i).toNat

structure Mem where
  M : Nat
  S : Nat
  pa : Value
  frames : Int
  slots : Int
  clock : Int
  pages : List Nat
  pg : Nat → Pg
  sp : Int → Option Nat
  en : Nat → Int → Option (Nat × Int)

def ptr (b : Nat) : Value := .pointer (some ⟨b, 0, none⟩)
def mapV (b : Nat) : Value := .map (some b)
def entV (x : Nat × Int) : Value := .agg #[.pointer (some ⟨x.1, 0, none⟩), .int .i64 x.2]
def memCell (s : Mem) (i : Nat) : Value :=
  if i = 0 then .int .i64 s.frames else if i = 1 then .int .i64 s.slots else if i = 2 then .int .i64 s.clock else if i = 3 then s.pa else .map (some s.S)

/-- the blocks that a memory owns -/
def Mem.foot (s : Mem) (b : Nat) : Prop := b = s.M ∨ b = s.S ∨ s.pa.ownBlock = some b ∨ b ∈ s.pages ∨ ∃ k, s.sp k = some b

structure Rep (w : World) (s : Mem) : Prop where
  mem : w.rowIs s.M 70 5 (memCell s)
  arr : w.ownsRow 0 73 1 s.pa s.pages.length (s.pages.map ptr)
  pgs : ∀ b ∈ s.pages, w.rowIs b 92 19 (pgCell (s.pg b))
  spm : MapAt w s.S s.sp mapV
  enm : ∀ k X, s.sp k = some X → MapAt w X (s.en X) entV
  nodup : s.pages.Nodup
  inj : ∀ k k' X, s.sp k = some X → s.sp k' = some X → k = k'
  sne : ∀ k, s.sp k ≠ some s.S

section
variable {w : World} {s : Mem}

theorem rowIs_type {b : Nat} {t t' n n' : Nat} {f g : Nat → Value} (h : w.rowIs b t n f) (h' : w.rowIs b t' n' g) : t = t' := by
  obtain ⟨c, hb, _, _⟩ := h
  obtain ⟨c', hb', _, _⟩ := h'
  rw [hb] at hb'
  simp at hb'
  exact hb'.2

theorem rowIs_map {α : Type} {b t n : Nat} {f : Nat → Value} {g : Int → Option α} {toV : α → Value} (h : w.rowIs b t n f) (h' : MapAt w b g toV) : False := by
  obtain ⟨c, hb, _, _⟩ := h
  obtain ⟨es, clk, hb', _⟩ := h'
  rw [hb] at hb'
  simp at hb'

theorem ownsRow_block {base e size n : Nat} {v : Value} {xs : List Value} {b : Nat} (h : w.ownsRow base e size v n xs) (hv : v.ownBlock = some b) : ∃ cur, w.heap[b]? = some (.cells cur e (0, 0)) := by
  obtain ⟨_, ⟨rfl, _⟩ | ⟨g, cap, cur, rfl, _, hg, _⟩⟩ := h
  · simp [Value.ownBlock] at hv
  · simp [Value.ownBlock] at hv; subst hv; exact ⟨cur, hg⟩

/-- the block of the array of pages is none of the others -/
theorem Rep.arr_ne_row (R : Rep w s) {b t n : Nat} {f : Nat → Value} (h : w.rowIs b t n f) (ht : t ≠ 73) : s.pa.ownBlock ≠ some b := by
  intro hv
  obtain ⟨cur, hc⟩ := ownsRow_block R.arr hv
  obtain ⟨c, hb, _, _⟩ := h
  rw [hb] at hc
  simp at hc
  exact ht hc.2

theorem Rep.M_ne_page (R : Rep w s) {b : Nat} (hb : b ∈ s.pages) : s.M ≠ b := by
  intro e
  have h1 := R.mem
  rw [e] at h1
  have := rowIs_type h1 (R.pgs b hb)
  simp at this

theorem Rep.S_ne_M (R : Rep w s) : s.S ≠ s.M := fun e => by have h := R.spm; rw [e] at h; exact rowIs_map R.mem h
theorem Rep.X_ne_M (R : Rep w s) {k : Int} {X : Nat} (h : s.sp k = some X) : X ≠ s.M := fun e => by have h' := R.enm k X h; rw [e] at h'; exact rowIs_map R.mem h'
theorem Rep.S_ne_page (R : Rep w s) {b : Nat} (hb : b ∈ s.pages) : s.S ≠ b := fun e => by have h := R.spm; rw [e] at h; exact rowIs_map (R.pgs b hb) h
theorem Rep.X_ne_page (R : Rep w s) {k : Int} {X : Nat} (h : s.sp k = some X) {b : Nat} (hb : b ∈ s.pages) : X ≠ b := fun e => by have h' := R.enm k X h; rw [e] at h'; exact rowIs_map (R.pgs b hb) h'
theorem Rep.X_ne_S (R : Rep w s) {k : Int} {X : Nat} (h : s.sp k = some X) : X ≠ s.S := fun e => R.sne k (by rw [h, e])

theorem Rep.arr_ne_map (R : Rep w s) {α : Type} {b : Nat} {g : Int → Option α} {toV : α → Value} (h : MapAt w b g toV) : s.pa.ownBlock ≠ some b := by
  intro hv
  obtain ⟨cur, hc⟩ := ownsRow_block R.arr hv
  obtain ⟨es, clk, hb', _⟩ := h
  rw [hb'] at hc
  simp at hc

theorem Rep.foot_lt (R : Rep w s) {b : Nat} (h : s.foot b) : b < w.heap.size := by
  rcases h with rfl | rfl | h | h | ⟨k, h⟩
  · exact R.mem.lt
  · exact R.spm.lt
  · exact (R.arr.lt b h).2
  · exact (R.pgs b h).lt
  · exact (R.enm k b h).lt

/-- what the blocks hold is all -/
theorem Rep.of_blocks (R : Rep w s) {w' : World} (h : ∀ b, s.foot b → w'.heap[b]? = w.heap[b]?) : Rep w' s where
  mem := R.mem.of_block (h _ (.inl rfl))
  arr := by
    obtain ⟨hl, h' | ⟨g, cap, cur, hv, hb, hg, hr⟩⟩ := R.arr
    · exact ⟨hl, .inl h'⟩
    · exact ⟨hl, .inr ⟨g, cap, cur, hv, hb, (h g (.inr (.inr (.inl (by rw [hv]; rfl))))).trans hg, hr⟩⟩
  pgs := fun b hb => (R.pgs b hb).of_block (h b (.inr (.inr (.inr (.inl hb)))))
  spm := R.spm.of_block (h _ (.inr (.inl rfl)))
  enm := fun k X hk => (R.enm k X hk).of_block (h X (.inr (.inr (.inr (.inr ⟨k, hk⟩)))))
  nodup := R.nodup
  inj := R.inj
  sne := R.sne

theorem Rep.upd {F : Nat → Prop} (R : Rep w s) {w' : World} (h : Upd F w w') (hF : ∀ b, s.foot b → ¬ F b) : Rep w' s := R.of_blocks fun b hb => h.block b (R.foot_lt hb) (hF b hb)
theorem Rep.alloc (R : Rep w s) (o : Obj) : Rep (w.alloc o) s := R.upd (F := fun _ => False) ((Upd.refl _ _).alloc o) (fun _ _ h => h)
theorem Rep.drew (R : Rep w s) : Rep w.drew s := R.of_blocks fun _ _ => rfl
theorem Rep.drewN (R : Rep w s) (k : Nat) : Rep (w.drewN k) s := R.of_blocks fun _ _ => rfl
theorem Rep.setCell (R : Rep w s) {a : Addr} (v : Value) (h : ¬ s.foot a.block) : Rep (w.setCell a v) s :=
  R.of_blocks fun _ hb => Below.heap_setCell _ _ _ _ (fun e => h (e ▸ hb))

/-- a store into the memory's own cells but the array of pages -/
theorem Rep.setMem (R : Rep w s) (i : Nat) (v : Value) (s' : Mem) (hM : s'.M = s.M) (hS : s'.S = s.S) (hpa : s'.pa = s.pa) (hp : s'.pages = s.pages) (hpg : s'.pg = s.pg) (hsp : s'.sp = s.sp) (hen : s'.en = s.en)
    (hc : ∀ j, j < 5 → memCell s' j = if j = i then v else memCell s j) : Rep (w.setCell ⟨s.M, i, none⟩ v) s' where
  mem := by rw [hM]; exact (R.mem.set i v).congr (fun j hj => (hc j hj).symm)
  arr := by
    rw [hpa, hp]
    exact Go.ownsRow_setCell_other R.arr (R.arr_ne_row R.mem (by decide)) v
  pgs := fun b hb => by rw [hp] at hb; rw [hpg]; exact (R.pgs b hb).setOther (Ne.symm (R.M_ne_page hb)) v
  spm := by rw [hS, hsp]; exact R.spm.setCell _ _
  enm := fun k X hk => by rw [hsp] at hk; rw [hen]; exact (R.enm k X hk).setCell _ _
  nodup := by rw [hp]; exact R.nodup
  inj := by rw [hsp]; exact R.inj
  sne := by rw [hsp, hS]; exact R.sne

/-- a page turned -/
def Mem.setPg (s : Mem) (b : Nat) (p : Pg) : Mem := { s with pg := fun x => if x = b then p else s.pg x }
@[simp] theorem Mem.setPg_foot (s : Mem) (b : Nat) (p : Pg) : (s.setPg b p).foot = s.foot := rfl

theorem Rep.setPage (R : Rep w s) {b : Nat} (hb : b ∈ s.pages) (i : Nat) (v : Value) (p : Pg) (hc : ∀ j, j < 19 → pgCell p j = if j = i then v else pgCell (s.pg b) j) : Rep (w.setCell ⟨b, i, none⟩ v) (s.setPg b p) where
  mem := R.mem.setOther (R.M_ne_page hb) v
  arr := Go.ownsRow_setCell_other R.arr (R.arr_ne_row (R.pgs b hb) (by decide)) v
  pgs := fun c hcm => by
    show (w.setCell _ v).rowIs c _ 19 (pgCell (if c = b then p else s.pg c))
    by_cases e : c = b
    · subst e
      rw [if_pos rfl]
      exact ((R.pgs c hcm).set i v).congr (fun j hj => (hc j hj).symm)
    · rw [if_neg e]
      exact (R.pgs c hcm).setOther e v
  spm := R.spm.setCell _ _
  enm := fun k X hk => (R.enm k X hk).setCell _ _
  nodup := R.nodup
  inj := R.inj
  sne := R.sne

/-- cells -/
theorem Rep.c0 (R : Rep w s) : w.cell? ⟨s.M, 0, none⟩ = some (.int .i64 s.frames) := R.mem.cell (i := 0) (by omega)
theorem Rep.c1 (R : Rep w s) : w.cell? ⟨s.M, 1, none⟩ = some (.int .i64 s.slots) := R.mem.cell (i := 1) (by omega)
theorem Rep.c2 (R : Rep w s) : w.cell? ⟨s.M, 2, none⟩ = some (.int .i64 s.clock) := R.mem.cell (i := 2) (by omega)
theorem Rep.c3 (R : Rep w s) : w.cell? ⟨s.M, 3, none⟩ = some s.pa := R.mem.cell (i := 3) (by omega)
theorem Rep.c4 (R : Rep w s) : w.cell? ⟨s.M, 4, none⟩ = some (.map (some s.S)) := R.mem.cell (i := 4) (by omega)
theorem Rep.f (R : Rep w s) (i : Nat) : w.frozen? ⟨s.M, i, none⟩ = false := R.mem.frozen i
theorem Rep.p16 (R : Rep w s) {b : Nat} (hb : b ∈ s.pages) : w.cell? ⟨b, 16, none⟩ = some (.int .i64 (s.pg b).users) := (R.pgs b hb).cell (i := 16) (by omega)
theorem Rep.p17 (R : Rep w s) {b : Nat} (hb : b ∈ s.pages) : w.cell? ⟨b, 17, none⟩ = some (.bool (s.pg b).here) := (R.pgs b hb).cell (i := 17) (by omega)
theorem Rep.p18 (R : Rep w s) {b : Nat} (hb : b ∈ s.pages) : w.cell? ⟨b, 18, none⟩ = some (.int .i64 (s.pg b).asked) := (R.pgs b hb).cell (i := 18) (by omega)
theorem Rep.pd (R : Rep w s) {b : Nat} (hb : b ∈ s.pages) {i : Nat} (hi : i < 16) : w.cell? ⟨b, i, none⟩ = some (.int .u8 ((s.pg b).data i).toNat) := by
  rw [(R.pgs b hb).cell (i := i) (by omega)]
  unfold pgCell
  rw [if_neg (by omega), if_neg (by omega), if_neg (by omega)]
theorem Rep.pf (R : Rep w s) {b : Nat} (hb : b ∈ s.pages) (i : Nat) : w.frozen? ⟨b, i, none⟩ = false := (R.pgs b hb).frozen i

/-- the array of pages: nil, or written out -/
theorem Rep.pa_cases (R : Rep w s) : (s.pa = .slice none 0 0 ∧ s.pages = []) ∨ ∃ g cap, s.pa = .slice (some ⟨g, 0, none⟩) s.pages.length cap ∧ s.pages.length ≤ cap ∧ ∀ k, k < s.pages.length → w.cell? ⟨g, 0 + k, none⟩ = some (ptr (s.pages.getD k 0)) := by
  obtain ⟨hl, ⟨h1, h2⟩ | ⟨g, cap, cur, hv, _, hg, hn, _, hsz, htk⟩⟩ := R.arr
  · exact .inl ⟨h1, by simpa using h2⟩
  · refine .inr ⟨g, cap, hv, hn, fun k hk => ?_⟩
    rw [cell_of_row w g (0 + k) cur _ _ hg, Nat.zero_add]
    have h1 : (cur.toList.take (s.pages.length * 1))[k]? = some (ptr (s.pages.getD k 0)) := by
      rw [htk]; simp [List.getD, hk]
    rw [List.getElem?_take, if_pos (by omega)] at h1
    simpa using h1

end
end Go.Proofs.Ytnhknnhdeegbdab
