/- edge.Give -/
import Derived.Test.YtnhknnhdeegbdabTake
import Derived.Test.YtnhknnhdeegbdabSpWrite
namespace Go.Proofs.Ytnhknnhdeegbdab
open Go.RowKit Go.ChangeMaps

structure AnsS where
  err : Int
  A : Int
  B : Int
  text : Value
  stat : Nat → Int

def ansCells (a : AnsS) (d : Value) : Array Value := #[.int .i64 a.err, .int .i64 a.A, .int .i64 a.B, d, a.text, .int .i64 (a.stat 0), .int .i64 (a.stat 1), .int .i64 (a.stat 2), .int .i64 (a.stat 3), .int .i64 (a.stat 4), .int .i64 (a.stat 5)]
def ansV (a : AnsS) (d : Value) : Value := .agg (ansCells a d)
def callCells (c : CallS) (d : Value) : Array Value := #[.int .i64 c.num, .int .i64 c.A, .int .i64 c.B, .int .i64 c.C, strOf c.name, strOf c.other, d]
def low32 (x : Int) : Int := x % 4294967296
def giveRegs (r : Nat → Int) (A err B : Int) (i : Nat) : Int := if i = 0 then low32 A else if i = 1 then low32 err else if i = 2 then low32 B else r i
def applied (a : AnsS) (c : CallS) (data : List UInt8) : Prop := a.err = 0 ∧ c.num = 7 ∧ 1 ≤ data.length
instance (a : AnsS) (c : CallS) (data : List UInt8) : Decidable (applied a c data) := by unfold applied; infer_instance

theorem alloc4 (w : World) (a b c d : Obj) : ((((w.alloc a).alloc b).alloc c).alloc d).heap[w.heap.size]? = some a ∧ ((((w.alloc a).alloc b).alloc c).alloc d).heap[w.heap.size + 1]? = some b ∧ ((((w.alloc a).alloc b).alloc c).alloc d).heap[w.heap.size + 1 + 1]? = some c ∧ ((((w.alloc a).alloc b).alloc c).alloc d).heap[w.heap.size + 1 + 1 + 1]? = some d := by
  obtain ⟨h1, h2, h3⟩ := alloc3 w a b c
  refine ⟨?_, ?_, ?_, ?_⟩
  · rw [Below.heap_alloc _ _ _ (by simp; omega)]; exact h1
  · rw [Below.heap_alloc _ _ _ (by simp)]; exact h2
  · rw [Below.heap_alloc _ _ _ (by simp)]; exact h3
  · exact heap_alloc_new' _ _ (by simp)

def zeroRegs : Array Value := #[.int .u32 0, .int .u32 0, .int .u32 0, .int .u32 0, .int .u32 0, .int .u32 0, .int .u32 0, .int .u32 0, .int .u32 0, .int .i64 0]

/-- where the walk stands behind the write -/
structure GMid (w : World) (s : Mem) (c : CallS) (a : AnsS) (data : List UInt8) (sn : Int) (r : Nat → Int) (pc ring : Int) (wx : World) (A err B : Int) (t : Mem) (we : Int) : Prop where
  q7 : wx.heap[w.heap.size]? = some (.cells (regCells r pc ring) 26 (0, 0))
  q10 : wx.heap[w.heap.size + 1 + 1 + 1]? = some (.cells zeroRegs 26 (0, 0))
  a0 : wx.cell? ⟨w.heap.size + 1 + 1, 0, none⟩ = some (.int .i64 err)
  a1 : wx.cell? ⟨w.heap.size + 1 + 1, 1, none⟩ = some (.int .i64 A)
  a2 : wx.cell? ⟨w.heap.size + 1 + 1, 2, none⟩ = some (.int .i64 B)
  rep : Rep wx t
  upd : Upd s.foot w wx
  nfoot : ∀ b, w.heap.size ≤ b → b ≤ w.heap.size + 1 + 1 + 1 → ¬ t.foot b
  yes : applied a c data → Wrote s sn c.B data we t ∧ A = (if we = 0 then a.A else 0) ∧ err = we ∧ B = (if we = 0 then a.B else 0)
  no : ¬ applied a c data → t = s ∧ A = a.A ∧ err = a.err ∧ B = a.B

def GivePost (w : World) (s : Mem) (c : CallS) (a : AnsS) (data : List UInt8) (sn : Int) (r : Nat → Int) (pc ring : Int) (e : Ending) (w' : World) : Prop :=
  ∃ A err B t we, e = .returned (regsV (giveRegs r A err B) pc ring) ∧ Rep w' t ∧ Upd s.foot w w' ∧ (applied a c data → Wrote s sn c.B data we t ∧ A = (if we = 0 then a.A else 0) ∧ err = we ∧ B = (if we = 0 then a.B else 0)) ∧ (¬ applied a c data → t = s ∧ A = a.A ∧ err = a.err ∧ B = a.B)

theorem wrote_err {s t : Mem} {sn addr : Int} {data : List UInt8} {r : Int} (h : Wrote s sn addr data r t) : r = 0 ∨ (r ≠ 0 ∧ 0 ≤ r ∧ r ≤ 11) := by
  cases h <;> omega

section
variable {w : World} {s : Mem}
theorem upd11 (W : World) (b : Nat) (v0 v1 v2 v3 v4 v5 v6 v7 v8 v9 v10 : Value) : Upd (fun x => x = b) W (((((((((((W.setCell ⟨b, 0, none⟩ v0).setCell ⟨b, 1, none⟩ v1).setCell ⟨b, 2, none⟩ v2).setCell ⟨b, 3, none⟩ v3).setCell ⟨b, 4, none⟩ v4).setCell ⟨b, 5, none⟩ v5).setCell ⟨b, 6, none⟩ v6).setCell ⟨b, 7, none⟩ v7).setCell ⟨b, 8, none⟩ v8).setCell ⟨b, 9, none⟩ v9).setCell ⟨b, 10, none⟩ v10) := ((((((((((((Upd.refl (fun x => x = b) W).setCell (.inl rfl) _).setCell (.inl rfl) _).setCell (.inl rfl) _).setCell (.inl rfl) _).setCell (.inl rfl) _).setCell (.inl rfl) _).setCell (.inl rfl) _).setCell (.inl rfl) _).setCell (.inl rfl) _).setCell (.inl rfl) _).setCell (.inl rfl) _)

theorem upd10 (W : World) (b : Nat) (v0 v1 v2 v3 v4 v5 v6 v7 v8 v9 : Value) : Upd (fun x => x = b) W ((((((((((W.setCell ⟨b, 0, none⟩ v0).setCell ⟨b, 1, none⟩ v1).setCell ⟨b, 2, none⟩ v2).setCell ⟨b, 3, none⟩ v3).setCell ⟨b, 4, none⟩ v4).setCell ⟨b, 5, none⟩ v5).setCell ⟨b, 6, none⟩ v6).setCell ⟨b, 7, none⟩ v7).setCell ⟨b, 8, none⟩ v8).setCell ⟨b, 9, none⟩ v9) := (((((((((((Upd.refl (fun x => x = b) W).setCell (.inl rfl) _).setCell (.inl rfl) _).setCell (.inl rfl) _).setCell (.inl rfl) _).setCell (.inl rfl) _).setCell (.inl rfl) _).setCell (.inl rfl) _).setCell (.inl rfl) _).setCell (.inl rfl) _).setCell (.inl rfl) _)
theorem regsLaid {W : World} {b : Nat} {r : Nat → Int} {pc ring A err B : Int} (h : W.heap[b]? = some (.cells (regCells r pc ring) 26 (0, 0))) :
    Upd (fun x => x = b) W (((W.setCell ⟨b, 0, none⟩ (.int .u32 (low32 A))).setCell ⟨b, 1, none⟩ (.int .u32 (low32 err))).setCell ⟨b, 2, none⟩ (.int .u32 (low32 B))).drew ∧ (((W.setCell ⟨b, 0, none⟩ (.int .u32 (low32 A))).setCell ⟨b, 1, none⟩ (.int .u32 (low32 err))).setCell ⟨b, 2, none⟩ (.int .u32 (low32 B))).drew.heap[b]? = some (.cells (regCells (giveRegs r A err B) pc ring) 26 (0, 0)) := by
  refine ⟨((((Upd.refl (fun x => x = b) W).setCell (.inl rfl) _).setCell (.inl rfl) _).setCell (.inl rfl) _).drew, ?_⟩
  have h1 := Go.heap_setCell_same W b 0 _ _ (.int .u32 (low32 A)) h
  have h2 := Go.heap_setCell_same _ b 1 _ _ (.int .u32 (low32 err)) h1
  have h3 := Go.heap_setCell_same _ b 2 _ _ (.int .u32 (low32 B)) h2
  exact h3

theorem gmid_of (RR : Rep w s) {c : CallS} {a : AnsS} {data : List UInt8} {sn : Int} {r : Nat → Int} {pc ring : Int} {w2 wx : World} {A B : Int} {t : Mem} {we : Int} {S1 : Nat} (hap : applied a c data) (h1 : Wrote s sn c.B data we t)
    (p7 : w2.heap[w.heap.size]? = some (.cells (regCells r pc ring) 26 (0, 0))) (p10 : w2.heap[w.heap.size + 1 + 1 + 1]? = some (.cells zeroRegs 26 (0, 0))) (h2 : Rep w2 t) (h3 : Upd s.foot w w2) (h4 : ∀ x, t.foot x → s.foot x ∨ S1 ≤ x)
    (hlt : w.heap.size + 1 + 1 + 1 < S1) (hA : A = if we = 0 then a.A else 0) (hB : B = if we = 0 then a.B else 0) (u : Upd (fun b => b = w.heap.size + 1 + 1) w2 wx)
    (a0 : wx.cell? ⟨w.heap.size + 1 + 1, 0, none⟩ = some (.int .i64 we)) (a1 : wx.cell? ⟨w.heap.size + 1 + 1, 1, none⟩ = some (.int .i64 A)) (a2 : wx.cell? ⟨w.heap.size + 1 + 1, 2, none⟩ = some (.int .i64 B)) :
    ∃ A err B t we, GMid w s c a data sn r pc ring wx A err B t we := by
  refine ⟨A, we, B, t, we, (u.block _ (Array.getElem?_eq_some_iff.1 p7).1 (by omega)).trans p7, (u.block _ (Array.getElem?_eq_some_iff.1 p10).1 (by omega)).trans p10, a0, a1, a2, h2.upd u (fun b hb e => ?_), h3.trans u (fun x hx e => by omega), fun b hb0 hb1 hb => ?_, fun _ => ⟨h1, hA, rfl, hB⟩, fun h => absurd hap h⟩
  · rcases h4 b hb with h | h
    · have := RR.foot_lt h; omega
    · omega
  · rcases h4 b hb with h | h
    · have := RR.foot_lt h; omega
    · omega

set_option maxHeartbeats 1000000 in
set_option maxRecDepth 100000 in
theorem give_rep (R : Rep w s) (E : s.EnOk) (sn : Int) (hw : (Lit.int .i64 sn).wf = true) (r : Nat → Int) (pc ring : Int) (c : CallS) (cd : Value) (a : AnsS) (data : List UInt8) (da : Option Addr) (cap : Nat)
    (hcd : ∃ x y z, cd = .slice x y z) (htx : ∃ x y z, a.text = .slice x y z)
    (ha0 : -9223372036854775808 ≤ c.B) (ha1 : c.B ≤ 9223372036854775807) (hmx : data.length ≤ 256) (hd : BytesAt w s.foot da data)
    (hus : ∀ b, b ∈ s.pages → (s.pg b).users ≤ 1000000) (hb : s.pages.length ≤ 500) (hf : 1 ≤ s.frames) (hf2 : s.frames ≤ 64) (hs0 : 0 ≤ s.slots) (hs1 : s.slots ≤ 64) (hp : (s.pages.length : Int) ≤ s.frames + s.slots) (hk0 : 0 ≤ s.clock) (hk : s.clock < 3000000000000000000) :
    Calls Try.prog 13 #[.pointer (some ⟨s.M, 0, none⟩), .int .i64 sn, regsV r pc ring, callV c cd, ansV a (.slice da data.length cap)] w (GivePost w s c a data sn r pc ring) := by
  obtain ⟨x1, x2, x3, rfl⟩ := hcd
  obtain ⟨aerr, aA, aB, atext, astat⟩ := a
  obtain ⟨tx, ty, tz, rfl⟩ := htx
  simp only [regsV, callV, ansV, ansCells, strOf]
  have HR := Lib.hid R
  clear R
  go_enter Try.func13, Try.ntmps13
  go_upto_region 1 with fail
  obtain ⟨W1, hW1⟩ : ∃ W1, W1 = (((w.alloc (.cells (regCells r pc ring) 26)).alloc (.cells (callCells c (.slice x1 x2 x3)) 57)).alloc (.cells (ansCells ⟨aerr, aA, aB, .slice tx ty tz, astat⟩ (.slice da data.length cap)) 32)).alloc (.cells zeroRegs 26) := ⟨_, rfl⟩
  obtain ⟨q7, q8, q9, q10⟩ := alloc4 w (.cells (regCells r pc ring) 26) (.cells (callCells c (.slice x1 x2 x3)) 57) (.cells (ansCells ⟨aerr, aA, aB, .slice tx ty tz, astat⟩ (.slice da data.length cap)) 32) (.cells zeroRegs 26)
  have hU1 : Upd s.foot w W1 := by rw [hW1]; exact ((((Upd.refl _ _).alloc _).alloc _).alloc _).alloc _
  have hR1 : Rep W1 s := by rw [hW1]; exact (((HR.out.alloc _).alloc _).alloc _).alloc _
  rw [← hW1] at q7 q8 q9 q10
  have hD1 : BytesAt W1 s.foot da data := hd.upd hU1 (fun _ _ h => h)
  change Code.wp _ _ _ _ ((((w.alloc (.cells (regCells r pc ring) 26)).alloc (.cells (callCells c (.slice x1 x2 x3)) 57)).alloc (.cells (ansCells ⟨aerr, aA, aB, .slice tx ty tz, astat⟩ (.slice da data.length cap)) 32)).alloc (.cells zeroRegs 26))
  rw [← hW1]
  clear hW1
  obtain ⟨k8, g8⟩ := block_cells q8
  obtain ⟨k9, g9⟩ := block_cells q9
  simp only [callCells, strOf] at k8
  simp only [ansCells] at k9
  have HQ7 := Lib.hid q7
  have HQ9 := Lib.hid q9
  have HQ10 := Lib.hid q10
  have HU1 := Lib.hid hU1
  have HR1 := Lib.hid hR1
  have HD1 := Lib.hid hD1
  clear q7 q8 q9 q10 hU1 hR1 hD1 hd
  go_cut [25] (fun v25 wx => v25 = .bool (decide (applied ⟨aerr, aA, aB, .slice tx ty tz, astat⟩ c data)) ∧ wx = W1)
  case first =>
    by_cases c1 : aerr = 0
    · have c1' : (aerr == 0) = true := by simpa using c1
      by_cases c2 : c.num = 7
      · have c2' : (c.num == 7) = true := by simpa using c2
        by_cases c3 : 1 ≤ data.length
        · have HX : Hid (decide (applied ⟨aerr, aA, aB, .slice tx ty tz, astat⟩ c data) = true) := by show decide _ = true; exact decide_eq_true ⟨c1, c2, c3⟩
          clear c1 c2
          go_wp2_with fail
          go_meet
          exact ⟨by rw [HX.out, decide_eq_true (by omega)], rfl⟩
        · have HX : Hid (decide (applied ⟨aerr, aA, aB, .slice tx ty tz, astat⟩ c data) = false) := by show decide _ = false; exact decide_eq_false (fun h => c3 h.2.2)
          clear c1 c2
          go_wp2_with fail
          go_meet
          exact ⟨by rw [HX.out, decide_eq_false (by omega)], rfl⟩
      · have c2' : (c.num == 7) = false := by simpa using c2
        have HX : Hid (decide (applied ⟨aerr, aA, aB, .slice tx ty tz, astat⟩ c data) = false) := by show decide _ = false; exact decide_eq_false (fun h => c2 h.2.1)
        clear c1 c2
        go_wp2_with fail
        go_meet
        exact ⟨by rw [HX.out], rfl⟩
    · have c1' : (aerr == 0) = false := by simpa using c1
      have HX : Hid (decide (applied ⟨aerr, aA, aB, .slice tx ty tz, astat⟩ c data) = false) := by show decide _ = false; exact decide_eq_false (fun h => c1 h.1)
      clear c1
      go_wp2_with fail
      go_meet
      exact ⟨by rw [HX.out], rfl⟩
  case rest =>
    obtain ⟨rfl, rfl⟩ := hcut
    generalize wc = W1 at *
    go_upto_if 25 with fail
    go_cut [11] (fun v11 wx => ∃ A err B t we, GMid w s c ⟨aerr, aA, aB, .slice tx ty tz, astat⟩ data sn r pc ring wx A err B t we)
    case first =>
      by_cases hap : applied ⟨aerr, aA, aB, .slice tx ty tz, astat⟩ c data
      · have hwr := write_rep HR1.out E sn c.B data hw ha0 ha1 (by omega) da cap HD1.out hus hb hf hf2 hs0 hs1 hp hk0 hk
        have hwr2 : Calls Try.prog 24 #[.pointer (some ⟨s.M, 0, none⟩), .int .i64 sn, .int .i64 c.B, .slice da data.length cap] W1 fun e w' => ∃ we t, e = .returned (.int .i64 we) ∧
            (∀ i, w'.cell? ⟨w.heap.size + 1 + 1, i, none⟩ = (#[.int .i64 aerr, .int .i64 aA, .int .i64 aB, .slice da data.length cap, .slice tx ty tz, .int .i64 (astat 0), .int .i64 (astat 1), .int .i64 (astat 2), .int .i64 (astat 3), .int .i64 (astat 4), .int .i64 (astat 5)] : Array Value)[i]?) ∧ (∀ i, w'.frozen? ⟨w.heap.size + 1 + 1, i, none⟩ = false) ∧
            Hid (Wrote s sn c.B data we t ∧ w'.heap[w.heap.size]? = some (.cells (regCells r pc ring) 26 (0, 0)) ∧ w'.heap[w.heap.size + 1 + 1 + 1]? = some (.cells zeroRegs 26 (0, 0)) ∧ Rep w' t ∧ Upd s.foot w w' ∧ ∀ x, t.foot x → s.foot x ∨ W1.heap.size ≤ x) := by
          refine hwr.mono ?_
          rintro e w' ⟨we, t, rfl, h1, h2, h3, h4⟩
          have keep : ∀ {b : Nat} {o : Obj}, w.heap.size ≤ b → W1.heap[b]? = some o → w'.heap[b]? = some o := fun {b o} hb ho =>
            (h3.block b (Array.getElem?_eq_some_iff.1 ho).1 (fun hf => by have := HR.out.foot_lt hf; omega)).trans ho
          have p9 := keep (by omega) HQ9.out
          exact ⟨we, t, rfl, (block_cells p9).1, (block_cells p9).2, h1, keep (Nat.le_refl _) HQ7.out, keep (by omega) HQ10.out, h2, HU1.out.trans' h3, h4⟩
        have HW := Lib.hid hwr2
        have hlt3 : w.heap.size + 1 + 1 + 1 < W1.heap.size := (Array.getElem?_eq_some_iff.1 HQ10.out).1
        rw [decide_eq_true hap]
        have HAP := Lib.hid hap
        clear hwr hwr2 hap
        go_wp2_with (go_at_call 24; refine HW.out.mono ?_; clear k9 g9; rintro e w2 ⟨we, t, rfl, k9, g9, hh⟩)
        · go_meet
          have hne : (we != 0) = true := by assumption
          have hne' : we ≠ 0 := by simpa using hne
          obtain ⟨h1, p7, p10, h2, h3, h4⟩ := hh.out
          have hA : (0 : Int) = if we = 0 then aA else 0 := by rw [if_neg hne']
          have hB : (0 : Int) = if we = 0 then aB else 0 := by rw [if_neg hne']
          refine gmid_of (a := ⟨aerr, aA, aB, .slice tx ty tz, astat⟩) HR.out HAP.out h1 p7 p10 h2 h3 h4 hlt3 hA hB (upd11 _ _ _ _ _ _ _ _ _ _ _ _ _) ?_ ?_ ?_
          · simp [go_sem, k9]
          · simp [go_sem, k9]
          · simp [go_sem, k9]
        · go_meet
          have hne : (we != 0) = false := by assumption
          have hne' : we = 0 := by simpa using hne
          obtain ⟨h1, p7, p10, h2, h3, h4⟩ := hh.out
          have hae := HAP.out.1
          have hA : aA = if we = 0 then aA else 0 := by rw [if_pos hne']
          have hB : aB = if we = 0 then aB else 0 := by rw [if_pos hne']
          refine gmid_of (a := ⟨aerr, aA, aB, .slice tx ty tz, astat⟩) HR.out HAP.out h1 p7 p10 h2 h3 h4 hlt3 hA hB (Upd.refl _ _) ?_ ?_ ?_
          · rw [k9, hne', ← hae]; rfl
          · rw [k9]; rfl
          · rw [k9]; rfl
      · rw [decide_eq_false hap]
        have HAP := Lib.hid hap
        clear hap
        go_wp2_with fail
        go_meet
        exact ⟨aA, aerr, aB, s, 0, HQ7.out, HQ10.out, by rw [k9]; rfl, by rw [k9]; rfl, by rw [k9]; rfl, HR1.out, HU1.out, fun b hb0 _ hb => by have := HR.out.foot_lt hb; omega, fun h => absurd h HAP.out, fun _ => ⟨rfl, rfl, rfl, rfl⟩⟩
    case rest =>
      obtain ⟨A, err, B, t, we, hG⟩ := hcut
      clear k8 g8 k9 g9
      generalize wc = W5 at *
      have hnB := hG.nfoot w.heap.size (Nat.le_refl _) (by omega)
      have hnB3 := hG.nfoot (w.heap.size + 1 + 1 + 1) (by omega) (Nat.le_refl _)
      have a0 := hG.a0
      have a1 := hG.a1
      have a2 := hG.a2
      obtain ⟨k7, g7⟩ := block_cells hG.q7
      simp only [regCells] at k7
      have HG := Lib.hid hG
      clear hG
      have l0 : IntKind.u32.wrap A = low32 A := rfl
      have l1 : IntKind.u32.wrap err = low32 err := rfl
      have l2 : IntKind.u32.wrap B = low32 B := rfl
      have hne : ∀ (W : World) (i j : Nat) (v : Value), (W.setCell ⟨w.heap.size, i, none⟩ v).cell? ⟨w.heap.size + 1 + 1, j, none⟩ = W.cell? ⟨w.heap.size + 1 + 1, j, none⟩ := fun W i j v => World.cell?_setCell_other _ _ _ _ (by simp)
      go_upto_region 5 with fail
      go_cut [9] (fun v9 wx => Upd (fun b => b = w.heap.size) W5 wx ∧ wx.heap[w.heap.size]? = some (.cells (regCells (giveRegs r A err B) pc ring) 26 (0, 0)))
      case first =>
        go_region_held3 (fun w' => w'.cell? ⟨w.heap.size + 1 + 1, 0, none⟩ = some (.int .i64 err) ∧ w'.cell? ⟨w.heap.size + 1 + 1, 1, none⟩ = some (.int .i64 A) ∧ w'.cell? ⟨w.heap.size + 1 + 1, 2, none⟩ = some (.int .i64 B)) (go_keep) (fail)
        all_goals
          go_wp2_with fail
          go_meet
          exact regsLaid HG.out.q7
      case rest =>
        obtain ⟨hu, hq⟩ := hcut
        have hq10 := (hu.block _ (Array.getElem?_eq_some_iff.1 HG.out.q10).1 (by omega)).trans HG.out.q10
        have hU : Upd s.foot w wc := HG.out.upd.trans hu (fun x hx e => by omega)
        have hR : Rep wc t := HG.out.rep.upd hu (fun b hb e => hnB (by rw [← e]; exact hb))
        clear k7 g7 a0 a1 a2 hne l0 l1 l2
        obtain ⟨k7, _⟩ := block_cells hq
        obtain ⟨k10, g10⟩ := block_cells hq10
        simp only [regCells] at k7
        simp only [zeroRegs] at k10
        have HU := Lib.hid hU
        have HRr := Lib.hid hR
        clear hu hq hq10 hU hR
        generalize wc = W6 at *
        go_wp2_with fail
        refine bodyPost_ret (v := regsV (giveRegs r A err B) pc ring) (by simp [results, Try.results13, go_sem, k10]; rfl) rfl ?_
        refine ⟨A, err, B, t, we, rfl, HRr.out.upd (upd10 _ _ _ _ _ _ _ _ _ _ _ _) (fun b hb e => hnB3 (by rw [← e]; exact hb)), HU.out.trans (upd10 _ _ _ _ _ _ _ _ _ _ _ _) (fun x hx e => by omega), HG.out.yes, HG.out.no⟩
end
end Go.Proofs.Ytnhknnhdeegbdab
