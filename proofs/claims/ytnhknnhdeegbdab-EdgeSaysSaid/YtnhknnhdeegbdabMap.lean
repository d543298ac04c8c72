/- Maps with int keys, elements of whatever kind: what a block holds, look-up, store, delete, at the level of operations. -/
import Derived.Test.YtnhknnhdeegbdabLib
import Derived.Maps.Own
import Derived.Maps.OwnOps
namespace Go.Proofs.Ytnhknnhdeegbdab
open Go.RowKit Go.ChangeMaps Go.MapKept
open Go.Maps (Keyed int_keyed keyOf_int_mk)

/-- os, tape, output as they were; the heap only grows; of what was there only blocks of F may have turned -/
structure Upd (F : Nat → Prop) (w w' : World) : Prop where
  os : w'.os = w.os
  tape : w'.tape = w.tape
  output : w'.output = w.output
  size : w.heap.size ≤ w'.heap.size
  block : ∀ k, k < w.heap.size → ¬ F k → w'.heap[k]? = w.heap[k]?

theorem Upd.refl (F : Nat → Prop) (w : World) : Upd F w w := ⟨rfl, rfl, rfl, Nat.le_refl _, fun _ _ _ => rfl⟩
theorem Upd.trans {F F' : Nat → Prop} {a b c : World} (h : Upd F a b) (k : Upd F' b c) (hF : ∀ x, x < a.heap.size → F' x → F x) : Upd F a c :=
  ⟨k.os.trans h.os, k.tape.trans h.tape, k.output.trans h.output, Nat.le_trans h.size k.size, fun x hx hn => (k.block x (Nat.lt_of_lt_of_le hx h.size) (fun q => hn (hF x hx q))).trans (h.block x hx hn)⟩
theorem Upd.trans' {F : Nat → Prop} {a b c : World} (h : Upd F a b) (k : Upd F b c) : Upd F a c := h.trans k (fun _ _ q => q)
theorem Upd.mono {F F' : Nat → Prop} {w w' : World} (h : Upd F w w') (hF : ∀ x, x < w.heap.size → F x → F' x) : Upd F' w w' :=
  ⟨h.os, h.tape, h.output, h.size, fun x hx hn => h.block x hx (fun q => hn (hF x hx q))⟩
theorem Upd.setCell {F : Nat → Prop} {a w : World} (h : Upd F a w) {p : Addr} (hp : F p.block ∨ a.heap.size ≤ p.block) (u : Value) : Upd F a (w.setCell p u) :=
  ⟨h.os, h.tape, h.output, by rw [World.size_setCell]; exact h.size, fun k hk hn => by
    rw [heap_setCell_other _ _ _ _ (fun e => by subst e; rcases hp with hp | hp; exact hn hp; omega)]; exact h.block k hk hn⟩
theorem Upd.alloc {F : Nat → Prop} {a w : World} (h : Upd F a w) (o : Obj) : Upd F a (w.alloc o) :=
  ⟨h.os, h.tape, h.output, by rw [World.size_alloc]; have := h.size; omega, fun k hk hn => by
    rw [Below.heap_alloc _ _ _ (by have := h.size; omega)]; exact h.block k hk hn⟩
theorem Upd.drew {F : Nat → Prop} {a w : World} (h : Upd F a w) : Upd F a w.drew := ⟨h.os, h.tape, h.output, h.size, h.block⟩
theorem Upd.drewN {F : Nat → Prop} {a w : World} (h : Upd F a w) (n : Nat) : Upd F a (w.drewN n) := ⟨h.os, h.tape, h.output, h.size, h.block⟩
theorem Upd.setBlock {F : Nat → Prop} {a w : World} (h : Upd F a w) {b : Nat} (hp : F b ∨ a.heap.size ≤ b) (o : Obj) : Upd F a (setBlock w b o) :=
  ⟨h.os, h.tape, h.output, by simp [ChangeMaps.setBlock]; exact h.size, fun k hk hn => by
    have hne : b ≠ k := fun e => by subst e; rcases hp with hp | hp; exact hn hp; omega
    simp only [ChangeMaps.setBlock]; rw [Array.getElem?_setIfInBounds_ne hne]; exact h.block k hk hn⟩
theorem Upd.grown {F : Nat → Prop} {a w w' : World} {row : Option Nat} (h : Upd F a w) (hg : w.grownBy w' row) (hr : ∀ k, row = some k → F k ∨ a.heap.size ≤ k) : Upd F a w' :=
  ⟨hg.os.trans h.os, hg.tape.trans h.tape, hg.output.trans h.output, Nat.le_trans h.size hg.size, fun k hk hn => by
    rw [hg.block k (by have := h.size; omega) (fun e => by rcases hr k e.symm with q | q; exact hn q; omega)]; exact h.block k hk hn⟩
theorem Upd.below {F : Nat → Prop} {w w' : World} (h : Upd F w w') (hF : ∀ x, x < w.heap.size → ¬ F x) : Below w.heap.size w w' :=
  ⟨h.os, h.tape, h.output, h.size, fun k hk => h.block k hk (hF k hk)⟩
theorem Upd.of_below {w w' : World} (h : Below w.heap.size w w') (F : Nat → Prop) : Upd F w w' :=
  ⟨h.os, h.tape, h.output, h.size, fun k hk _ => h.block k hk⟩

structure MapIs {α : Type} (es : List MapEntry) (clk : Nat) (f : Int → Option α) (toV : α → Value) : Prop where
  of_mem : ∀ e ∈ es, ∃ n x, f n = some x ∧ e.key = .int .i64 n ∧ e.val = toV x ∧ e.born < clk ∧ (Lit.int .i64 n).wf = true
  mem_of : ∀ n x, f n = some x → ∃ e ∈ es, e.key = .int .i64 n
  keys : es.Pairwise (fun a b => a.key ≠ b.key)
  stamps : es.Pairwise (fun a b => a.born ≠ b.born)

/-- block b is a map: int key n holds toV (f n) -/
def MapAt {α : Type} (w : World) (b : Nat) (f : Int → Option α) (toV : α → Value) : Prop :=
  ∃ es clk, w.heap[b]? = some (.map es clk) ∧ MapIs es.toList clk f toV

section
variable {α : Type} {P : Program} {w : World} {b : Nat} {f : Int → Option α} {toV : α → Value} {T K E : TypeId}

theorem MapAt.of_block {w' : World} (h : MapAt w b f toV) (e : w'.heap[b]? = w.heap[b]?) : MapAt w' b f toV := by
  obtain ⟨es, clk, hb, hm⟩ := h
  exact ⟨es, clk, e.trans hb, hm⟩
theorem MapAt.lt (h : MapAt w b f toV) : b < w.heap.size := by
  obtain ⟨es, clk, hb, hm⟩ := h
  exact (Array.getElem?_eq_some_iff.1 hb).1
theorem MapAt.alloc (h : MapAt w b f toV) (o : Obj) : MapAt (w.alloc o) b f toV := h.of_block (Below.heap_alloc _ _ _ h.lt)
theorem MapAt.drew (h : MapAt w b f toV) : MapAt w.drew b f toV := h
theorem MapAt.drewN (h : MapAt w b f toV) (k : Nat) : MapAt (w.drewN k) b f toV := h
theorem MapAt.cell? (h : MapAt w b f toV) (i : Nat) (s : Option Nat) : w.cell? ⟨b, i, s⟩ = none := by
  obtain ⟨es, clk, hb, hm⟩ := h
  simp [World.cell?, hb]
theorem MapAt.setCell (h : MapAt w b f toV) (a : Addr) (v : Value) : MapAt (w.setCell a v) b f toV := by
  obtain ⟨es, clk, hb, hm⟩ := h
  refine ⟨es, clk, ?_, hm⟩
  simp only [World.setCell, Array.getElem?_modify]
  split <;> simp [hb]
theorem MapAt.keyOf (hK : P.underlying K = some (.int .i64)) {es : List MapEntry} {clk : Nat} (h : MapIs es clk f toV) : ∀ e ∈ es, ∃ l, keyOf P K e.key = some l := by
  intro e he
  obtain ⟨n, x, _, hk, _, _, hw⟩ := h.of_mem e he
  exact ⟨_, by rw [hk]; exact keyOf_int_mk hK hw⟩

theorem MapAt.new (w : World) (toV : α → Value) : MapAt (w.alloc (.map #[] 0)) w.heap.size (fun _ => none) toV :=
  ⟨#[], 0, heap_alloc_new _ _, ⟨by simp, by simp, by simp, by simp⟩⟩

/-- look-up -/
theorem MapAt.look (h : MapAt w b f toV) (hT : P.underlying T = some (.map K E)) (hK : P.underlying K = some (.int .i64)) {n : Int} (hw : (Lit.int .i64 n).wf = true)
    {z : Value} (hz : (zeroValue E).run P w = .ok z w) (ok : Bool) :
    (Instr.lookup T (.map (some b)) (.int .i64 n) ok).run P w = .ok (match f n with | some x => (if ok then .tuple #[toV x, .bool true] else toV x) | none => (if ok then .tuple #[z, .bool false] else z)) w := by
  obtain ⟨es, clk, hb, hm⟩ := h
  have hkey := keyOf_int_mk hK hw
  have KK : Keyed P K := int_keyed hK
  rcases KK.find w hkey es.toList (MapAt.keyOf hK hm) with ⟨h1, h2⟩ | ⟨j, e0, h1, h2, h3⟩
  · have hn : f n = none := by
      cases hf : f n with
      | none => rfl
      | some x => obtain ⟨e, he, hk⟩ := hm.mem_of n x hf; exact absurd hk (h2 e he)
    rw [hn]
    simp [Instr.lookup, run_underlying hT, MapKept.run_getObj_map hb, KK.check w _ hkey, h1, hz, Result.andThen]
  · have hm0 : e0 ∈ es.toList := List.mem_of_getElem? h2
    obtain ⟨n', x, hf, hk, hv, _, _⟩ := hm.of_mem e0 hm0
    rw [h3] at hk
    have : n = n' := by simpa using hk
    subst this
    rw [hf]
    simp [Instr.lookup, run_underlying hT, MapKept.run_getObj_map hb, KK.check w _ hkey, h1, Result.andThen, hv]

theorem MapAt.look_some (h : MapAt w b f toV) (hT : P.underlying T = some (.map K E)) (hK : P.underlying K = some (.int .i64)) {n : Int} (hw : (Lit.int .i64 n).wf = true)
    {z : Value} (hz : (zeroValue E).run P w = .ok z w) {x : α} (hx : f n = some x) :
    (Instr.lookup T (.map (some b)) (.int .i64 n) false).run P w = .ok (toV x) w := by rw [h.look hT hK hw hz, hx]; rfl
theorem MapAt.look_none (h : MapAt w b f toV) (hT : P.underlying T = some (.map K E)) (hK : P.underlying K = some (.int .i64)) {n : Int} (hw : (Lit.int .i64 n).wf = true)
    {z : Value} (hz : (zeroValue E).run P w = .ok z w) (hx : f n = none) :
    (Instr.lookup T (.map (some b)) (.int .i64 n) false).run P w = .ok z w := by rw [h.look hT hK hw hz, hx]; rfl
theorem MapAt.ok_some (h : MapAt w b f toV) (hT : P.underlying T = some (.map K E)) (hK : P.underlying K = some (.int .i64)) {n : Int} (hw : (Lit.int .i64 n).wf = true)
    {z : Value} (hz : (zeroValue E).run P w = .ok z w) {x : α} (hx : f n = some x) :
    (Instr.lookup T (.map (some b)) (.int .i64 n) true).run P w = .ok (.tuple #[toV x, .bool true]) w := by rw [h.look hT hK hw hz, hx]; rfl
theorem MapAt.ok_none (h : MapAt w b f toV) (hT : P.underlying T = some (.map K E)) (hK : P.underlying K = some (.int .i64)) {n : Int} (hw : (Lit.int .i64 n).wf = true)
    {z : Value} (hz : (zeroValue E).run P w = .ok z w) (hx : f n = none) :
    (Instr.lookup T (.map (some b)) (.int .i64 n) true).run P w = .ok (.tuple #[z, .bool false]) w := by rw [h.look hT hK hw hz, hx]; rfl

theorem map_modify_same {β : Type} (g : MapEntry → MapEntry) (q : MapEntry → β) (l : List MapEntry) (j : Nat) (h : ∀ e, l[j]? = some e → q (g e) = q e) : (l.modify j g).map q = l.map q := by
  refine List.ext_getElem? fun i => ?_
  simp only [List.getElem?_map, List.getElem?_modify]
  by_cases hij : j = i
  · subst hij
    cases hl : l[j]? with
    | none => simp
    | some e => simp [h e hl]
  · simp [hij]

/-- store -/
theorem MapAt.put (h : MapAt w b f toV) (hT : P.underlying T = some (.map K E)) (hK : P.underlying K = some (.int .i64)) {n : Int} (hw : (Lit.int .i64 n).wf = true) (x : α) :
    ∃ o, (Instr.mapUpdate T (.map (some b)) (.int .i64 n) (toV x)).run P w = .ok () (setBlock w b o) ∧ MapAt (setBlock w b o) b (fun m => if m = n then some x else f m) toV := by
  obtain ⟨es, clk, hb, hm⟩ := h
  have hlt : b < w.heap.size := (Array.getElem?_eq_some_iff.1 hb).1
  have hkey := keyOf_int_mk hK hw
  have KK : Keyed P K := int_keyed hK
  have hsb : ∀ o, (ChangeMaps.setBlock w b o).heap[b]? = some o := fun o => by simp [ChangeMaps.setBlock, hlt]
  rcases KK.find w hkey es.toList (MapAt.keyOf hK hm) with ⟨h1, h2⟩ | ⟨j, e0, h1, h2, h3⟩
  · refine ⟨.map (es.push ⟨.int .i64 n, toV x, clk⟩) (clk + 1), ?_, ?_⟩
    · simp [Instr.mapUpdate, run_underlying hT, MapKept.run_getObj_map hb, KK.check w _ hkey, h1, MapKept.run_setObj_map _ hb, Result.andThen, ChangeMaps.setBlock]
    · refine ⟨_, _, hsb _, ?_, ?_, ?_, ?_⟩
      · intro e he
        simp only [Array.toList_push, List.mem_append, List.mem_singleton] at he
        rcases he with he | rfl
        · obtain ⟨n', x', hf, hk, hv, hbn, hw'⟩ := hm.of_mem e he
          have hne : n' ≠ n := fun q => by subst q; exact h2 e he hk
          exact ⟨n', x', by simp [hne, hf], hk, hv, by omega, hw'⟩
        · exact ⟨n, x, by simp, rfl, rfl, by simp, hw⟩
      · intro n' x' hf
        by_cases hne : n' = n
        · subst hne; exact ⟨⟨.int .i64 n', toV x, clk⟩, by simp, rfl⟩
        · simp [hne] at hf
          obtain ⟨e, he, hk⟩ := hm.mem_of n' x' hf
          exact ⟨e, by simp [Array.mem_toList_iff.1 he], hk⟩
      · rw [Array.toList_push, List.pairwise_append]
        exact ⟨hm.keys, by simp, fun a ha c hc => by simp at hc; subst hc; exact h2 a ha⟩
      · rw [Array.toList_push, List.pairwise_append]
        refine ⟨hm.stamps, by simp, fun a ha c hc => ?_⟩
        simp at hc; subst hc
        obtain ⟨_, _, _, _, _, hbn, _⟩ := hm.of_mem a ha
        show a.born ≠ clk
        omega
  · have hj : es[j]? = some e0 := by simpa using h2
    have hm0 : e0 ∈ es.toList := List.mem_of_getElem? h2
    refine ⟨.map (es.modify j fun e => { e with key := .int .i64 n, val := toV x }) clk, ?_, ?_⟩
    · simp [Instr.mapUpdate, run_underlying hT, MapKept.run_getObj_map hb, KK.check w _ hkey, h1, hj, h3, KK.stays w hkey, MapKept.run_setObj_map _ hb, Result.andThen, ChangeMaps.setBlock]
    · have hmem : ∀ e ∈ (es.modify j fun e => { e with key := .int .i64 n, val := toV x }).toList, (e ∈ es.toList ∧ e.key ≠ .int .i64 n) ∨ (e = { e0 with key := .int .i64 n, val := toV x }) := by
        intro e he
        rw [List.mem_iff_getElem?] at he
        obtain ⟨i, hi⟩ := he
        simp only [Array.getElem?_toList, Array.getElem?_modify] at hi
        by_cases hij : j = i
        · subst hij; rw [if_pos rfl, hj] at hi; simp at hi; exact Or.inr hi.symm
        · rw [if_neg hij] at hi
          have hi' : es.toList[i]? = some e := by simpa using hi
          refine Or.inl ⟨List.mem_of_getElem? hi', fun q => hij ?_⟩
          have hp := hm.keys
          rw [List.pairwise_iff_getElem] at hp
          obtain ⟨hjl, hje⟩ := List.getElem?_eq_some_iff.1 h2
          obtain ⟨hil, hie⟩ := List.getElem?_eq_some_iff.1 hi'
          rcases Nat.lt_trichotomy j i with hlt | heq | hgt
          · exact absurd (by rw [hje, hie, h3, q]) (hp j i hjl hil hlt)
          · exact heq
          · exact absurd (by rw [hje, hie, h3, q]) (hp i j hil hjl hgt)
      refine ⟨_, _, hsb _, ?_, ?_, ?_, ?_⟩
      · intro e he
        rcases hmem e he with ⟨he, hne⟩ | rfl
        · obtain ⟨n', x', hf, hk, hv, hbn, hw'⟩ := hm.of_mem e he
          have hn' : n' ≠ n := fun q => by subst q; exact hne hk
          exact ⟨n', x', by simp [hn', hf], hk, hv, hbn, hw'⟩
        · obtain ⟨n', x', hf, hk, hv, hbn, hw'⟩ := hm.of_mem e0 hm0
          exact ⟨n, x, by simp, rfl, rfl, hbn, hw⟩
      · intro n' x' hf
        have hjl : j < es.size := (Array.getElem?_eq_some_iff.1 hj).1
        by_cases hne : n' = n
        · subst hne
          refine ⟨{ e0 with key := .int .i64 n', val := toV x }, ?_, rfl⟩
          refine List.mem_of_getElem? (i := j) ?_
          simp only [Array.getElem?_toList, Array.getElem?_modify, if_true, hj]; rfl
        · simp [hne] at hf
          obtain ⟨e, he, hk⟩ := hm.mem_of n' x' hf
          refine ⟨e, ?_, hk⟩
          rw [List.mem_iff_getElem?] at he
          obtain ⟨i, hi⟩ := he
          have hij : j ≠ i := fun q => by
            subst q; rw [h2] at hi; simp at hi; subst hi
            rw [h3] at hk; apply hne; simpa using hk.symm
          refine List.mem_of_getElem? (i := i) ?_
          simp only [Array.getElem?_toList, Array.getElem?_modify, if_neg hij]
          simpa using hi
      · rw [Array.toList_modify, ← List.pairwise_map (f := MapEntry.key) (R := fun a b => a ≠ b), map_modify_same _ _ _ _ (fun e he => by rw [h2] at he; cases he; exact h3.symm), List.pairwise_map]
        exact hm.keys
      · rw [Array.toList_modify, ← List.pairwise_map (f := MapEntry.born) (R := fun a b => a ≠ b), map_modify_same (fun e => { e with key := .int .i64 n, val := toV x }) _ _ _ (fun e _ => rfl), List.pairwise_map]
        exact hm.stamps

end
end Go.Proofs.Ytnhknnhdeegbdab
