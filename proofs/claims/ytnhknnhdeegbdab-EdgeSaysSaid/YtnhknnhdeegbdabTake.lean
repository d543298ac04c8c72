/- edge.Take -/
import Derived.Test.YtnhknnhdeegbdabTakeS
import Derived.Deep.RegionHeld3
import Derived.IntWalk
import Derived.Deep.DeepCutAuto
import Derived.Deep.CutBlock
namespace Go.Proofs.Ytnhknnhdeegbdab
open Go.RowKit Go.ChangeMaps

section
variable {w : World} {s : Mem}
def memRead (s : Mem) (sn : Int) (a n : Int) : List UInt8 × Int := ((s.read sn a n).2.1, (s.read sn a n).1)

theorem Like.read {s t : Mem} (h : Like s t) (sn a n : Int) : (t.read sn a n).1 = (s.read sn a n).1 ∧ (t.read sn a n).2.1 = (s.read sn a n).2.1 := by
  unfold Mem.read
  rw [h.sp]
  cases s.sp sn with
  | none => exact ⟨rfl, rfl⟩
  | some X =>
    simp only
    rw [h.en]
    split
    · exact ⟨rfl, rfl⟩
    · split
      · refine ⟨rfl, ?_⟩
        simp only [bytesOf]
        refine List.map_congr_left fun j _ => ?_
        rw [h.byteOf]
      · exact ⟨rfl, rfl⟩
theorem Like.afterRead (t : Mem) (sn a n : Int) : Like t (t.read sn a n).2.2 ∧ t.clock ≤ (t.read sn a n).2.2.clock ∧ (t.read sn a n).2.2.clock ≤ t.clock + 256 := by
  unfold Mem.read
  cases t.sp sn with
  | none => exact ⟨Like.refl _, Int.le_refl _, by simp; omega⟩
  | some X =>
    simp only
    split
    · exact ⟨Like.refl _, Int.le_refl _, by simp; omega⟩
    · split
      · refine ⟨Like.asks _ _ _ _, ?_, ?_⟩
        · simp; omega
        · simp; omega
      · exact ⟨Like.refl _, Int.le_refl _, by simp; omega⟩

/-- what Take answers, and leaves -/
def TakePost (w : World) (s : Mem) (c : CallS × Int) (e : Ending) (w' : World) : Prop :=
  ∃ d t, e = .returned (.tuple #[callV c.1 d, .int .i64 c.2]) ∧ w'.ownsRow w.heap.size 5 1 d c.1.data.length (c.1.data.map byteV) ∧ Like s t ∧ s.clock ≤ t.clock ∧ t.clock ≤ s.clock + 1000 ∧ Rep w' t ∧ Upd s.foot w w'

theorem ownsRow_le {w : World} {base base' e size n : Nat} {v : Value} {xs : List Value} (h : w.ownsRow base e size v n xs) (hb : base' ≤ base) : w.ownsRow base' e size v n xs := by
  obtain ⟨o1, ⟨o2, o3⟩ | ⟨og, ocap, ocur, o2, o3, o4⟩⟩ := h
  · exact ⟨o1, .inl ⟨o2, o3⟩⟩
  · exact ⟨o1, .inr ⟨og, ocap, ocur, o2, by omega, o4⟩⟩
theorem block_cells {w : World} {b : Nat} {cs : Array Value} {t : TypeId} (h : w.heap[b]? = some (.cells cs t (0, 0))) : (∀ i, w.cell? ⟨b, i, none⟩ = cs[i]?) ∧ (∀ i, w.frozen? ⟨b, i, none⟩ = false) :=
  ⟨fun i => by simp [World.cell?, h], fun i => by simp [World.frozen?, h]⟩

theorem alloc3 (w : World) (a b c : Obj) : (((w.alloc a).alloc b).alloc c).heap[w.heap.size]? = some a ∧ (((w.alloc a).alloc b).alloc c).heap[w.heap.size + 1]? = some b ∧ (((w.alloc a).alloc b).alloc c).heap[w.heap.size + 1 + 1]? = some c := by
  refine ⟨?_, ?_, ?_⟩
  · rw [Below.heap_alloc _ _ _ (by simp; omega), Below.heap_alloc _ _ _ (by simp)]; exact heap_alloc_new' _ _ rfl
  · rw [Below.heap_alloc _ _ _ (by simp)]; exact heap_alloc_new' _ _ (by simp)
  · exact heap_alloc_new' _ _ (by simp)

def regCells (r : Nat → Int) (pc ring : Int) : Array Value := #[.int .u32 (r 0), .int .u32 (r 1), .int .u32 (r 2), .int .u32 (r 3), .int .u32 (r 4), .int .u32 (r 5), .int .u32 (r 6), .int .u32 (r 7), .int .u32 pc, .int .i64 ring]
def zeroCall : Array Value := #[.int .i64 0, .int .i64 0, .int .i64 0, .int .i64 0, .string ⟨#[]⟩, .string ⟨#[]⟩, .slice none 0 0]
def numCall (n : Int) (name other : List UInt8) : Array Value := #[.int .i64 n, .int .i64 0, .int .i64 0, .int .i64 0, strOf name, strOf other, .slice none 0 0]

/-- the three numbers are laid -/
structure CallLaid (W : World) (B : Nat) (c : CallS) (w' : World) : Prop where
  upd : Upd (fun b => b = B + 1 + 1) W w'
  call : w'.heap[B + 1 + 1]? = some (.cells #[.int .i64 c.num, .int .i64 c.A, .int .i64 c.B, .int .i64 c.C, strOf c.name, strOf c.other, .slice none 0 0] 57 (0, 0))

theorem callLaid {W : World} {B : Nat} {n : Int} {name other : List UInt8} (h : W.heap[B + 1 + 1]? = some (.cells (numCall n name other) 57 (0, 0))) (x y z : Int) :
    CallLaid W B ⟨n, x, y, z, name, other, []⟩ (((W.setCell ⟨B + 1 + 1, 1, none⟩ (.int .i64 x)).setCell ⟨B + 1 + 1, 2, none⟩ (.int .i64 y)).setCell ⟨B + 1 + 1, 3, none⟩ (.int .i64 z)).drew := by
  refine ⟨((((Upd.refl (fun b => b = B + 1 + 1) W).setCell (.inl rfl) _).setCell (.inl rfl) _).setCell (.inl rfl) _).drew, ?_⟩
  have h1 := Go.heap_setCell_same W (B + 1 + 1) 1 _ _ (.int .i64 x) h
  have h2 := Go.heap_setCell_same _ (B + 1 + 1) 2 _ _ (.int .i64 y) h1
  have h3 := Go.heap_setCell_same _ (B + 1 + 1) 3 _ _ (.int .i64 z) h2
  exact h3

/-- where the walk stands behind the texts -/
structure TakeMid (w : World) (s : Mem) (text : Int → List UInt8 × Int) (read : Int → Int → List UInt8 × Int) (r : Nat → Int) (pc ring : Int) (v9 : Value) (wx : World) (n : Nat) (name other : List UInt8) (t : Mem) : Prop where
  v9 : v9 = .int .i64 n
  le : n ≤ 2
  eq : takeP text read r = takeEnd read r n name other
  q5 : wx.heap[w.heap.size]? = some (.cells (regCells r pc ring) 26 (0, 0))
  q6 : wx.heap[w.heap.size + 1]? = some (.cells zeroCall 57 (0, 0))
  q8 : wx.heap[w.heap.size + 1 + 1]? = some (.cells (numCall (signed32 (r 0)) name other) 57 (0, 0))
  like : Like s t
  c0 : s.clock ≤ t.clock
  c1 : t.clock ≤ s.clock + 130
  rep : Rep wx t
  upd : Upd s.foot w wx

theorem regCell {r : Nat → Int} {pc ring : Int} {i : Nat} (h : i < 8) : (regCells r pc ring)[i]? = some (.int .u32 (r i)) := by
  match i, h with
  | 0, _ | 1, _ | 2, _ | 3, _ | 4, _ | 5, _ | 6, _ | 7, _ => rfl
  | n + 8, h => omega

/-- the three blocks of the walk, and the memory -/
structure TIn (w : World) (s : Mem) (c5 c6 c8 : Array Value) (W : World) (t : Mem) (q : Int) : Prop where
  q5 : W.heap[w.heap.size]? = some (.cells c5 26 (0, 0))
  q6 : W.heap[w.heap.size + 1]? = some (.cells c6 57 (0, 0))
  q8 : W.heap[w.heap.size + 1 + 1]? = some (.cells c8 57 (0, 0))
  like : Like s t
  c0 : s.clock ≤ t.clock
  c1 : t.clock ≤ s.clock + q
  rep : Rep W t
  upd : Upd s.foot w W

theorem text_in (RR : Rep w s) (E : s.EnOk) {c5 c6 c8 : Array Value} {W : World} {t : Mem} {q : Int} (I : TIn w s c5 c6 c8 W t q) (sn a : Int) (hw : (Lit.int .i64 sn).wf = true) {X : Nat} (h : s.sp sn = some X) (hb : s.pages.length ≤ 900) (hf : 1 ≤ s.frames) (hk0 : 0 ≤ s.clock) (hq : q ≤ 1000) (hk : s.clock < 1000000000000000000) :
    Calls Try.prog 8 #[.pointer (some ⟨s.M, 0, none⟩), .int .i64 sn, .int .u32 a] W fun e w' => e = .returned (.tuple #[.string ⟨(memText s X a).1.toArray⟩, .int .i64 (memText s X a).2]) ∧
      (∀ i, w'.cell? ⟨w.heap.size, i, none⟩ = c5[i]?) ∧ (∀ i, w'.cell? ⟨w.heap.size + 1, i, none⟩ = c6[i]?) ∧ (∀ i, w'.frozen? ⟨w.heap.size + 1, i, none⟩ = false) ∧ (∀ i, w'.cell? ⟨w.heap.size + 1 + 1, i, none⟩ = c8[i]?) ∧ (∀ i, w'.frozen? ⟨w.heap.size + 1 + 1, i, none⟩ = false) ∧
      Hid (∃ t', TIn w s c5 c6 c8 w' t' (q + 65)) := by
  have := text_rep I.rep (I.like.enok E) sn a hw (X := X) (by rw [I.like.sp]; exact h) (by rw [I.like.pages]; exact hb) (by rw [I.like.frames]; exact hf) (by have := I.c0; omega) (by have := I.c1; omega)
  rw [I.like.M] at this
  refine this.mono ?_
  rintro e w' ⟨rfl, t', hl, hc0, hc1, hr, hu⟩
  have hmt : memText t X a = memText s X a := by
    unfold memText
    congr 1
    funext k
    unfold memGet
    rw [I.like.memByte]
  have keep : ∀ {b : Nat} {o : Obj}, w.heap.size ≤ b → W.heap[b]? = some o → w'.heap[b]? = some o := fun {b o} hb ho =>
    (hu.block b (Array.getElem?_eq_some_iff.1 ho).1 (fun hf => by rw [I.like.foot] at hf; have := RR.foot_lt hf; omega)).trans ho
  have p5 := keep (Nat.le_refl _) I.q5
  have p6 := keep (by omega) I.q6
  have p8 := keep (by omega) I.q8
  rw [hmt]
  exact ⟨rfl, (block_cells p5).1, (block_cells p6).1, (block_cells p6).2, (block_cells p8).1, (block_cells p8).2,
    t', p5, p6, p8, I.like.trans hl, by have := I.c0; omega, by have := I.c1; omega, hr, I.upd.trans hu (fun x _ hf => by rw [I.like.foot] at hf; exact hf)⟩

theorem takePost_of (RR : Rep w s) {c5 c6 c8 : Array Value} {W w' : World} {t : Mem} {q : Int} (I : TIn w s c5 c6 c8 W t q) (hq : q ≤ 1000) (u : Upd (fun b => b = w.heap.size + 1) W w') (c : CallS × Int) (d : Value) (hd : w'.ownsRow w.heap.size 5 1 d c.1.data.length (c.1.data.map byteV)) :
    TakePost w s c (.returned (.tuple #[callV c.1 d, .int .i64 c.2])) w' :=
  ⟨d, t, rfl, hd, I.like, I.c0, by have := I.c1; omega, I.rep.upd u (fun b hb e => by rw [I.like.foot] at hb; have := RR.foot_lt hb; omega), I.upd.trans u (fun x hx e => by omega)⟩
theorem upd7 (W : World) (b : Nat) (v0 v1 v2 v3 v4 v5 v6 : Value) : Upd (fun x => x = b) W (((((((W.setCell ⟨b, 0, none⟩ v0).setCell ⟨b, 1, none⟩ v1).setCell ⟨b, 2, none⟩ v2).setCell ⟨b, 3, none⟩ v3).setCell ⟨b, 4, none⟩ v4).setCell ⟨b, 5, none⟩ v5).setCell ⟨b, 6, none⟩ v6) :=
  (((((((Upd.refl (fun x => x = b) W).setCell (.inl rfl) _).setCell (.inl rfl) _).setCell (.inl rfl) _).setCell (.inl rfl) _).setCell (.inl rfl) _).setCell (.inl rfl) _).setCell (.inl rfl) _

set_option maxHeartbeats 4000000 in
set_option maxRecDepth 100000 in
theorem take_rep (R : Rep w s) (E : s.EnOk) (sn : Int) (hw : (Lit.int .i64 sn).wf = true) {X : Nat} (h : s.sp sn = some X) (r : Nat → Int) (hr0 : ∀ i, 0 ≤ r i) (hr1 : ∀ i, r i < 4294967296) (pc ring : Int)
    (hb : s.pages.length ≤ 900) (hf : 1 ≤ s.frames) (hk0 : 0 ≤ s.clock) (hk : s.clock < 1000000000000000000) :
    Calls Try.prog 10 #[.pointer (some ⟨s.M, 0, none⟩), .int .i64 sn, regsV r pc ring] w (TakePost w s (takeP (memText s X) (memRead s sn) r)) := by
  simp only [regsV]
  have e0 := signed32_wrap (hr0 0) (hr1 0)
  obtain ⟨b0, b1⟩ := signed32_bd (hr0 0) (hr1 0)
  have htx : ∀ W, Calls Try.prog 21 #[.int .i64 (signed32 (r 0))] W fun e w' => e = .returned (.int .i64 (textsN (signed32 (r 0)))) ∧ W = w' := fun W => texts_rep (signed32 (r 0)) W
  have hnc := textsN_cases (signed32 (r 0))
  generalize hnn : textsN (signed32 (r 0)) = nn at *
  have HNN := Lib.hid hnn
  have HNC := Lib.hid hnc
  have HT := Lib.hid htx
  have HR := Lib.hid R
  clear htx R hnn hnc
  go_enter Try.func10, Try.ntmps10
  go_upto_block 0 with (go_at_call 21; refine (HT.out _).mono ?_; rintro e w1 ⟨rfl, rfl⟩)
  go_cut [9] (fun v9 wx => ∃ n name other t, TakeMid w s (memText s X) (memRead s sn) r pc ring v9 wx n name other t)
  case first =>
    obtain ⟨W1, hW1⟩ : ∃ W1, W1 = ((w.alloc (.cells (regCells r pc ring) 26)).alloc (.cells zeroCall 57)).alloc (.cells (numCall (signed32 (r 0)) [] []) 57) := ⟨_, rfl⟩
    have hq5 : W1.heap[w.heap.size]? = some (.cells (regCells r pc ring) 26 (0, 0)) := by rw [hW1]; exact (alloc3 _ _ _ _).1
    have hq6 : W1.heap[w.heap.size + 1]? = some (.cells zeroCall 57 (0, 0)) := by rw [hW1]; exact (alloc3 _ _ _ _).2.1
    have hq8 : W1.heap[w.heap.size + 1 + 1]? = some (.cells (numCall (signed32 (r 0)) [] []) 57 (0, 0)) := by rw [hW1]; exact (alloc3 _ _ _ _).2.2
    have hU1 : Upd s.foot w W1 := by rw [hW1]; exact (((Upd.refl _ _).alloc _).alloc _).alloc _
    have hR1 : Rep W1 s := by rw [hW1]; exact ((HR.out.alloc _).alloc _).alloc _
    change Code.wp _ _ _ _ (((w.alloc (.cells (regCells r pc ring) 26)).alloc (.cells zeroCall 57)).alloc (.cells (numCall (signed32 (r 0)) [] []) 57))
    rw [← hW1]
    clear hW1
    obtain ⟨k5, _⟩ := block_cells hq5
    obtain ⟨k6, g6⟩ := block_cells hq6
    obtain ⟨k8, g8⟩ := block_cells hq8
    simp only [regCells] at k5
    simp only [zeroCall] at k6
    simp only [numCall, strOf] at k8
    have HI := Lib.hid (⟨hq5, hq6, hq8, Like.refl _, Int.le_refl _, by omega, hR1, hU1⟩ : TIn w s (regCells r pc ring) zeroCall (numCall (signed32 (r 0)) [] []) W1 s 0)
    clear hq5 hq6 hq8 hU1 hR1
    rcases HNC.out with rfl | rfl | rfl
    · have HX : Hid (takeP (memText s X) (memRead s sn) r = takeEnd (memRead s sn) r 0 [] []) := by simp [takeP, HNN.out, Hid]
      go_wp2_with fail
      refine wp_loop_rounds 1 ?_
      rw [rounds_succ]
      go_wp2_with fail
      go_meet
      exact ⟨0, [], [], s, rfl, by omega, HX.out, HI.out.q5, HI.out.q6, HI.out.q8, HI.out.like, HI.out.c0, by have := HI.out.c1; omega, HI.out.rep, HI.out.upd⟩
    · have hte := text_in HR.out E HI.out sn (r 1) hw h hb hf hk0 (by omega) hk
      simp only [regCells, zeroCall, numCall, strOf] at hte
      by_cases he : (memText s X (r 1)).2 = 0
      · have HX : Hid (takeP (memText s X) (memRead s sn) r = takeEnd (memRead s sn) r 1 (memText s X (r 1)).1 []) := by simp [takeP, HNN.out, he, Hid]
        rw [he] at hte
        have HTE := Lib.hid hte
        clear hte he k6 g6
        go_wp2_with fail
        refine wp_loop_rounds 2 ?_
        rw [rounds_succ]
        go_wp2_with (go_at_call 8; refine HTE.out.mono ?_; clear k5 k8 g8; rintro e w2 ⟨rfl, k5, k6, g6, k8, g8, hti⟩)
        rw [rounds_succ]
        go_wp2_with fail
        go_meet
        obtain ⟨t', hI⟩ := hti.out
        refine ⟨1, _, [], t', rfl, by omega, HX.out, ?_, ?_, ?_, hI.like, hI.c0, by have := hI.c1; omega, hI.rep.setCell _ ?_, hI.upd.setCell (.inr ?_) _⟩
        · rw [Go.heap_setCell_other _ _ _ _ (by simp; omega)]; exact hI.q5
        · rw [Go.heap_setCell_other _ _ _ _ (by simp)]; exact hI.q6
        · exact Go.heap_setCell_same _ _ _ _ _ _ hI.q8
        · intro hf; rw [hI.like.foot] at hf; have := HR.out.foot_lt hf; simp at this; omega
        · simp; omega
      · have HX : Hid (takeP (memText s X) (memRead s sn) r = (.zero, (memText s X (r 1)).2)) := by simp [takeP, HNN.out, he, Hid]
        have hne : ((memText s X (r 1)).2 != 0) = true := by simpa using he
        have HTE := Lib.hid hte
        generalize (memText s X (r 1)).2 = err at *
        clear hte he k6 g6
        go_wp2_with fail
        refine wp_loop_rounds 1 ?_
        rw [rounds_succ]
        go_wp2_with (go_at_call 8; refine HTE.out.mono ?_; clear k5 k8 g8; rintro e w2 ⟨rfl, k5, k6, g6, k8, g8, hti⟩)
        obtain ⟨t', hI⟩ := hti.out
        refine bodyPost_ret (v := .tuple #[callV .zero (.slice none 0 0), .int .i64 err]) (by simp [results, Try.results10, go_sem, k6]; rfl) rfl ?_
        rw [HX.out]
        exact takePost_of HR.out hI (by omega) (upd7 _ _ _ _ _ _ _ _ _) (.zero, err) _ (World.ownsRow_nil _ _ _ _)
    · have hte := text_in HR.out E HI.out sn (r 1) hw h hb hf hk0 (by omega) hk
      simp only [regCells, zeroCall, numCall, strOf] at hte
      by_cases he : (memText s X (r 1)).2 = 0
      · rw [he] at hte
        have HTE := Lib.hid hte
        have HE := Lib.hid he
        clear hte he k6 g6
        go_wp2_with fail
        refine wp_loop_rounds 3 ?_
        rw [rounds_succ]
        go_wp2_with (go_at_call 8; refine HTE.out.mono ?_; clear k5 k8 g8; rintro e w2 ⟨rfl, k5, k6, g6, k8, g8, hti⟩)
        obtain ⟨t', hI⟩ := hti.out
        have hI2 : TIn w s (regCells r pc ring) zeroCall (numCall (signed32 (r 0)) (memText s X (r 1)).1 []) (w2.setCell ⟨w.heap.size + 1 + 1, 4, none⟩ (.string ⟨(memText s X (r 1)).1.toArray⟩)) t' (0 + 65) := by
          refine ⟨?_, ?_, ?_, hI.like, hI.c0, hI.c1, hI.rep.setCell _ ?_, hI.upd.setCell (.inr ?_) _⟩
          · rw [Go.heap_setCell_other _ _ _ _ (by simp; omega)]; exact hI.q5
          · rw [Go.heap_setCell_other _ _ _ _ (by simp)]; exact hI.q6
          · exact Go.heap_setCell_same _ _ _ _ _ _ hI.q8
          · intro hf; rw [hI.like.foot] at hf; have := HR.out.foot_lt hf; simp at this; omega
          · simp; omega
        have hte2 := text_in HR.out E hI2 sn (r 2) hw h hb hf hk0 (by omega) hk
        simp only [regCells, zeroCall, numCall, strOf] at hte2
        by_cases he2 : (memText s X (r 2)).2 = 0
        · have HX : Hid (takeP (memText s X) (memRead s sn) r = takeEnd (memRead s sn) r 2 (memText s X (r 1)).1 (memText s X (r 2)).1) := by simp [takeP, HNN.out, HE.out, he2, Hid]
          rw [he2] at hte2
          have HTE2 := Lib.hid hte2
          clear hte2 he2 hI hI2 hti k6 g6
          rw [rounds_succ]
          go_wp2_with (go_at_call 8; refine HTE2.out.mono ?_; clear k5 k8 g8; rintro e w3 ⟨rfl, k5, k6, g6, k8, g8, hti⟩)
          rw [rounds_succ]
          go_wp2_with fail
          go_meet
          obtain ⟨t3, hI⟩ := hti.out
          refine ⟨2, _, _, t3, rfl, by omega, HX.out, ?_, ?_, ?_, hI.like, hI.c0, by have := hI.c1; omega, hI.rep.setCell _ ?_, hI.upd.setCell (.inr ?_) _⟩
          · rw [Go.heap_setCell_other _ _ _ _ (by simp; omega)]; exact hI.q5
          · rw [Go.heap_setCell_other _ _ _ _ (by simp)]; exact hI.q6
          · exact Go.heap_setCell_same _ _ _ _ _ _ hI.q8
          · intro hf; rw [hI.like.foot] at hf; have := HR.out.foot_lt hf; simp at this; omega
          · simp; omega
        · have HX : Hid (takeP (memText s X) (memRead s sn) r = (.zero, (memText s X (r 2)).2)) := by simp [takeP, HNN.out, HE.out, he2, Hid]
          have hne : ((memText s X (r 2)).2 != 0) = true := by simpa using he2
          have HTE2 := Lib.hid hte2
          generalize (memText s X (r 2)).2 = err at *
          clear hte2 he2 hI hI2 hti k6 g6
          rw [rounds_succ]
          go_wp2_with (go_at_call 8; refine HTE2.out.mono ?_; clear k5 k8 g8; rintro e w3 ⟨rfl, k5, k6, g6, k8, g8, hti⟩)
          obtain ⟨t3, hI⟩ := hti.out
          refine bodyPost_ret (v := .tuple #[callV .zero (.slice none 0 0), .int .i64 err]) (by simp [results, Try.results10, go_sem, k6]; rfl) rfl ?_
          rw [HX.out]
          exact takePost_of HR.out hI (by omega) (upd7 _ _ _ _ _ _ _ _ _) (.zero, err) _ (World.ownsRow_nil _ _ _ _)
      · have HX : Hid (takeP (memText s X) (memRead s sn) r = (.zero, (memText s X (r 1)).2)) := by simp [takeP, HNN.out, he, Hid]
        have hne : ((memText s X (r 1)).2 != 0) = true := by simpa using he
        have HTE := Lib.hid hte
        generalize (memText s X (r 1)).2 = err at *
        clear hte he k6 g6
        go_wp2_with fail
        refine wp_loop_rounds 1 ?_
        rw [rounds_succ]
        go_wp2_with (go_at_call 8; refine HTE.out.mono ?_; clear k5 k8 g8; rintro e w2 ⟨rfl, k5, k6, g6, k8, g8, hti⟩)
        obtain ⟨t', hI⟩ := hti.out
        refine bodyPost_ret (v := .tuple #[callV .zero (.slice none 0 0), .int .i64 err]) (by simp [results, Try.results10, go_sem, k6]; rfl) rfl ?_
        rw [HX.out]
        exact takePost_of HR.out hI (by omega) (upd7 _ _ _ _ _ _ _ _ _) (.zero, err) _ (World.ownsRow_nil _ _ _ _)
  case rest =>
    obtain ⟨n, name, other, t, hT⟩ := hcut
    generalize wc = W0 at *
    obtain rfl := hT.v9
    have hn2 := hT.le
    have hI : TIn w s (regCells r pc ring) zeroCall (numCall (signed32 (r 0)) name other) W0 t 130 := ⟨hT.q5, hT.q6, hT.q8, hT.like, hT.c0, hT.c1, hT.rep, hT.upd⟩
    have HX := Lib.hid hT.eq
    have z1 : W0.cell? ⟨w.heap.size, 1 + n, none⟩ = some (.int .u32 (r (1 + n))) := by rw [(block_cells hT.q5).1, regCell (by omega)]
    have z2 : W0.cell? ⟨w.heap.size, 2 + n, none⟩ = some (.int .u32 (r (2 + n))) := by rw [(block_cells hT.q5).1, regCell (by omega)]
    have z3 : W0.cell? ⟨w.heap.size, 3 + n, none⟩ = some (.int .u32 (r (3 + n))) := by rw [(block_cells hT.q5).1, regCell (by omega)]
    obtain ⟨k8, g8⟩ := block_cells hT.q8
    simp only [numCall, strOf] at k8
    have HI := Lib.hid hI
    clear hT hI
    have f1 := signed32_wrap (hr0 (1 + n)) (hr1 (1 + n))
    have f2 := signed32_wrap (hr0 (2 + n)) (hr1 (2 + n))
    have f3 := signed32_wrap (hr0 (3 + n)) (hr1 (3 + n))
    have d1 := signed32_bd (hr0 (1 + n)) (hr1 (1 + n))
    have d2 := signed32_bd (hr0 (2 + n)) (hr1 (2 + n))
    have d3 := signed32_bd (hr0 (3 + n)) (hr1 (3 + n))
    have hne : ∀ (W : World) (i j : Nat) (v : Value), (W.setCell ⟨w.heap.size + 1 + 1, i, none⟩ v).cell? ⟨w.heap.size, j, none⟩ = W.cell? ⟨w.heap.size, j, none⟩ := fun W i j v => World.cell?_setCell_other _ _ _ _ (by simp)
    have x1 : IntKind.i64.wrap (1 + (n : Int)) = 1 + (n : Int) := IntWalk.i64_in _ (by omega)
    have x2 : IntKind.i64.wrap (2 + (n : Int)) = 2 + (n : Int) := IntWalk.i64_in _ (by omega)
    have x3 : IntKind.i64.wrap (3 + (n : Int)) = 3 + (n : Int) := IntWalk.i64_in _ (by omega)
    have u1 : (1 + (n : Int)).toNat = 1 + n := by omega
    have u2 : (2 + (n : Int)).toNat = 2 + n := by omega
    have u3 : (3 + (n : Int)).toNat = 3 + n := by omega
    have v1 : (0 : Int) ≤ 1 + (n : Int) := by omega
    have v2 : (0 : Int) ≤ 2 + (n : Int) := by omega
    have v3 : (0 : Int) ≤ 3 + (n : Int) := by omega
    have v1' : 1 + (n : Int) < 8 := by omega
    have v2' : 2 + (n : Int) < 8 := by omega
    have v3' : 3 + (n : Int) < 8 := by omega
    have y1 : IntKind.i64.wrap (signed32 (r (1 + n))) = signed32 (r (1 + n)) := IntWalk.i64_in _ (by omega)
    have y2 : IntKind.i64.wrap (signed32 (r (2 + n))) = signed32 (r (2 + n)) := IntWalk.i64_in _ (by omega)
    have y3 : IntKind.i64.wrap (signed32 (r (3 + n))) = signed32 (r (3 + n)) := IntWalk.i64_in _ (by omega)
    go_upto_region 13 with fail
    go_cut [9] (fun v9 wx => CallLaid W0 w.heap.size ⟨signed32 (r 0), signed32 (r (1 + n)), signed32 (r (2 + n)), signed32 (r (3 + n)), name, other, []⟩ wx)
    case first =>
      go_region_held3 (fun w' => w'.cell? ⟨w.heap.size, 1 + n, none⟩ = some (.int .u32 (r (1 + n))) ∧ w'.cell? ⟨w.heap.size, 2 + n, none⟩ = some (.int .u32 (r (2 + n))) ∧ w'.cell? ⟨w.heap.size, 3 + n, none⟩ = some (.int .u32 (r (3 + n)))) (go_keep) (fail)
      all_goals
        go_wp2_with fail
        go_meet
        exact callLaid HI.out.q8 _ _ _
    case rest =>
      clear k8 g8 z1 z2 z3 f1 f2 f3 hne x1 x2 x3 u1 u2 u3 v1 v2 v3 v1' v2' v3' y1 y2 y3 e0
      have hI : TIn w s (regCells r pc ring) zeroCall #[.int .i64 (signed32 (r 0)), .int .i64 (signed32 (r (1 + n))), .int .i64 (signed32 (r (2 + n))), .int .i64 (signed32 (r (3 + n))), strOf name, strOf other, .slice none 0 0] wc t 130 :=
        ⟨(hcut.upd.block _ (Array.getElem?_eq_some_iff.1 HI.out.q5).1 (by omega)).trans HI.out.q5, (hcut.upd.block _ (Array.getElem?_eq_some_iff.1 HI.out.q6).1 (by omega)).trans HI.out.q6, hcut.call,
          HI.out.like, HI.out.c0, HI.out.c1, HI.out.rep.upd hcut.upd (fun b hb e => by rw [HI.out.like.foot] at hb; have := HR.out.foot_lt hb; omega), HI.out.upd.trans hcut.upd (fun x hx e => by omega)⟩
      have hblk : ∀ {w' : World}, Upd t.foot wc w' → ∀ {b : Nat} {o : Obj}, w.heap.size ≤ b → wc.heap[b]? = some o → w'.heap[b]? = some o := fun {w'} hu {b o} hb ho =>
        (hu.block b (Array.getElem?_eq_some_iff.1 ho).1 (fun hf => by rw [hI.like.foot] at hf; have := HR.out.foot_lt hf; omega)).trans ho
      obtain ⟨k6, g6⟩ := block_cells hI.q6
      obtain ⟨k8, g8⟩ := block_cells hI.q8
      simp only [zeroCall] at k6
      simp only [strOf] at k8
      by_cases h8 : signed32 (r 0) = 8
      · have h8' : (signed32 (r 0) == 8) = true := by simpa using h8
        by_cases hbad : signed32 (r (3 + n)) < 0 ∨ 256 < signed32 (r (3 + n))
        · have HZ : Hid (takeP (memText s X) (memRead s sn) r = (.zero, 1)) := by rw [HX.out]; simp only [takeEnd, if_pos h8, if_pos hbad, Hid]
          have HII := Lib.hid hI
          rcases (show signed32 (r (3 + n)) < 0 ∨ (0 ≤ signed32 (r (3 + n)) ∧ 256 < signed32 (r (3 + n))) by omega) with hx | ⟨hx, hx'⟩
          all_goals
            clear hI hblk h8 hcut hbad
            go_wp2_with fail
            refine bodyPost_ret (v := .tuple #[callV .zero (.slice none 0 0), .int .i64 1]) (by simp [results, Try.results10, go_sem, k6]; rfl) rfl ?_
            rw [HZ.out]
            exact takePost_of HR.out HII.out (by omega) (upd7 _ _ _ _ _ _ _ _ _) (.zero, 1) _ (World.ownsRow_nil _ _ _ _)
        · have hrd := read_rep hI.rep (hI.like.enok E) sn (signed32 (r (2 + n))) (signed32 (r (3 + n))) hw (by omega) (by omega) (by rw [hI.like.pages]; exact hb) (by rw [hI.like.frames]; exact hf) (by have := hI.c0; omega) (by have := hI.c1; omega)
          have hrd2 : Calls Try.prog 15 #[.pointer (some ⟨s.M, 0, none⟩), .int .i64 sn, .int .i64 (signed32 (r (2 + n))), .int .i64 (signed32 (r (3 + n)))] wc fun e w' => ∃ v, e = .returned (.tuple #[v, .int .i64 (memRead s sn (signed32 (r (2 + n))) (signed32 (r (3 + n)))).2]) ∧
              (∀ i, w'.cell? ⟨w.heap.size + 1, i, none⟩ = zeroCall[i]?) ∧ (∀ i, w'.frozen? ⟨w.heap.size + 1, i, none⟩ = false) ∧ (∀ i, w'.cell? ⟨w.heap.size + 1 + 1, i, none⟩ = (#[.int .i64 (signed32 (r 0)), .int .i64 (signed32 (r (1 + n))), .int .i64 (signed32 (r (2 + n))), .int .i64 (signed32 (r (3 + n))), .string ⟨name.toArray⟩, .string ⟨other.toArray⟩, .slice none 0 0] : Array Value)[i]?) ∧ (∀ i, w'.frozen? ⟨w.heap.size + 1 + 1, i, none⟩ = false) ∧ (∃ a l c, v = .slice a l c) ∧
              Hid (w'.ownsRow wc.heap.size 5 1 v (memRead s sn (signed32 (r (2 + n))) (signed32 (r (3 + n)))).1.length ((memRead s sn (signed32 (r (2 + n))) (signed32 (r (3 + n)))).1.map byteV) ∧ ∃ t', TIn w s (regCells r pc ring) zeroCall #[.int .i64 (signed32 (r 0)), .int .i64 (signed32 (r (1 + n))), .int .i64 (signed32 (r (2 + n))), .int .i64 (signed32 (r (3 + n))), strOf name, strOf other, .slice none 0 0] w' t' 400) := by
            rw [hI.like.M] at hrd
            refine hrd.mono ?_
            rintro e w' ⟨v, rfl, ho, hr, hu⟩
            obtain ⟨g1, g2⟩ := hI.like.read sn (signed32 (r (2 + n))) (signed32 (r (3 + n)))
            obtain ⟨a1, a2, a3⟩ := Like.afterRead t sn (signed32 (r (2 + n))) (signed32 (r (3 + n)))
            have p5 := hblk hu (Nat.le_refl _) hI.q5
            have p6 := hblk hu (by omega) hI.q6
            have p8 := hblk hu (by omega) hI.q8
            refine ⟨v, by rw [g1]; rfl, (block_cells p6).1, (block_cells p6).2, (block_cells p8).1, (block_cells p8).2, ?_, ?_, _, p5, p6, p8, hI.like.trans a1, by have := hI.c0; omega, by have := hI.c1; omega, hr, hI.upd.trans hu (fun x _ hf => by rw [hI.like.foot] at hf; exact hf)⟩
            · obtain ⟨_, ⟨h1, _⟩ | ⟨g, cap, cur, h1, _⟩⟩ := ho
              · exact ⟨_, _, _, h1⟩
              · exact ⟨_, _, _, h1⟩
            · rw [g2] at ho; exact ho
          simp only [zeroCall] at hrd2
          have hwz : w.heap.size ≤ wc.heap.size := hI.upd.size
          have hlt2 : w.heap.size + 1 + 1 < wc.heap.size := (Array.getElem?_eq_some_iff.1 hI.q8).1
          have hx0 : 0 ≤ signed32 (r (3 + n)) := by omega
          have hx1 : signed32 (r (3 + n)) ≤ 256 := by omega
          by_cases he : (memRead s sn (signed32 (r (2 + n))) (signed32 (r (3 + n)))).2 = 0
          · have HZ : Hid (takeP (memText s X) (memRead s sn) r = (⟨signed32 (r 0), signed32 (r (1 + n)), signed32 (r (2 + n)), signed32 (r (3 + n)), name, other, (memRead s sn (signed32 (r (2 + n))) (signed32 (r (3 + n)))).1⟩, 0)) := by
              rw [HX.out]; simp only [takeEnd, if_pos h8, if_neg hbad, Hid]; rw [if_neg (by simpa using he)]
            rw [he] at hrd2
            generalize (memRead s sn (signed32 (r (2 + n))) (signed32 (r (3 + n)))).1 = dat at *
            have HRD := Lib.hid hrd2
            clear hI hblk h8 hcut hbad hrd hrd2 he
            go_wp2_with (go_at_call 15; refine HRD.out.mono ?_; clear k8 g8 k6 g6; rintro e w2 ⟨v, rfl, k6, g6, k8, g8, ⟨va, vl, vc, rfl⟩, hti⟩)
            obtain ⟨ho, t', hI⟩ := hti.out
            refine bodyPost_ret (v := .tuple #[callV ⟨signed32 (r 0), signed32 (r (1 + n)), signed32 (r (2 + n)), signed32 (r (3 + n)), name, other, dat⟩ (.slice va vl vc), .int .i64 0]) (by simp [results, Try.results10, go_sem, k6]; rfl) rfl ?_
            rw [HZ.out]
            have h8s := Go.heap_setCell_same w2 (w.heap.size + 1 + 1) 6 _ _ (.slice va vl vc) hI.q8
            obtain ⟨c8', hI2⟩ : ∃ c8, TIn w s (regCells r pc ring) zeroCall c8 (w2.setCell ⟨w.heap.size + 1 + 1, 6, none⟩ (.slice va vl vc)) t' 400 := by
              refine ⟨_, ?_, ?_, h8s, hI.like, hI.c0, hI.c1, hI.rep.setCell _ ?_, hI.upd.setCell (.inr ?_) _⟩
              · rw [Go.heap_setCell_other _ _ _ _ (by simp; omega)]; exact hI.q5
              · rw [Go.heap_setCell_other _ _ _ _ (by simp)]; exact hI.q6
              · intro hf; rw [hI.like.foot] at hf; have := HR.out.foot_lt hf; simp at this; omega
              · simp; omega
            have hB2 : w.heap.size + 1 + 1 < wc.heap.size := hlt2
            refine takePost_of HR.out hI2 (by omega) (upd7 _ _ _ _ _ _ _ _ _) (⟨signed32 (r 0), signed32 (r (1 + n)), signed32 (r (2 + n)), signed32 (r (3 + n)), name, other, dat⟩, 0) _ ?_
            have u8 : Upd (fun b => b = w.heap.size + 1 + 1) w2 (w2.setCell ⟨w.heap.size + 1 + 1, 6, none⟩ (.slice va vl vc)) := (Upd.refl (fun b => b = w.heap.size + 1 + 1) w2).setCell (.inl rfl) _
            exact ownsRow_le (ownsRow_upd (ownsRow_upd ho u8 (fun b hb e => by omega)) (upd7 _ _ _ _ _ _ _ _ _) (fun b hb e => by omega)) (by omega)
          · have HZ : Hid (takeP (memText s X) (memRead s sn) r = (.zero, (memRead s sn (signed32 (r (2 + n))) (signed32 (r (3 + n)))).2)) := by
              rw [HX.out]; simp only [takeEnd, if_pos h8, if_neg hbad, Hid]; rw [if_pos he]
            have hne : ((memRead s sn (signed32 (r (2 + n))) (signed32 (r (3 + n)))).2 != 0) = true := by simpa using he
            generalize (memRead s sn (signed32 (r (2 + n))) (signed32 (r (3 + n)))).2 = err at *
            have HRD := Lib.hid hrd2
            clear hI hblk h8 hcut hbad hrd hrd2 he
            go_wp2_with (go_at_call 15; refine HRD.out.mono ?_; clear k8 g8 k6 g6; rintro e w2 ⟨v, rfl, k6, g6, k8, g8, ⟨va, vl, vc, rfl⟩, hti⟩)
            obtain ⟨ho, t', hI⟩ := hti.out
            refine bodyPost_ret (v := .tuple #[callV .zero (.slice none 0 0), .int .i64 err]) (by simp [results, Try.results10, go_sem, k6]; rfl) rfl ?_
            rw [HZ.out]
            exact takePost_of HR.out hI (by omega) (upd7 _ _ _ _ _ _ _ _ _) (.zero, err) _ (World.ownsRow_nil _ _ _ _)
      · have HZ : Hid (takeP (memText s X) (memRead s sn) r = (⟨signed32 (r 0), signed32 (r (1 + n)), signed32 (r (2 + n)), signed32 (r (3 + n)), name, other, []⟩, 0)) := by rw [HX.out]; simp [takeEnd, h8, Hid]
        have h8' : (signed32 (r 0) == 8) = false := by simpa using h8
        have HII := Lib.hid hI
        clear hI hblk h8 hcut
        go_wp2_with fail
        refine bodyPost_ret (v := .tuple #[callV ⟨signed32 (r 0), signed32 (r (1 + n)), signed32 (r (2 + n)), signed32 (r (3 + n)), name, other, []⟩ (.slice none 0 0), .int .i64 0]) (by simp [results, Try.results10, go_sem, k6]; rfl) rfl ?_
        rw [HZ.out]
        exact takePost_of HR.out HII.out (by omega) (upd7 _ _ _ _ _ _ _ _ _) (⟨signed32 (r 0), signed32 (r (1 + n)), signed32 (r (2 + n)), signed32 (r (3 + n)), name, other, []⟩, 0) _ (World.ownsRow_nil _ _ _ _)
end
end Go.Proofs.Ytnhknnhdeegbdab
