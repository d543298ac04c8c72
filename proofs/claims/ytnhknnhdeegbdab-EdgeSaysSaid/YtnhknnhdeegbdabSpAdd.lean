/- add. -/
import Derived.Test.YtnhknnhdeegbdabSpMay
import Derived.Test.YtnhknnhdeegbdabApp
import Derived.Deep.DeepCutAuto
namespace Go.Proofs.Ytnhknnhdeegbdab
open Go.RowKit Go.ChangeMaps

def cells16 (d : Nat → UInt8) : Array Value := #[.int .u8 (d 0).toNat, .int .u8 (d 1).toNat, .int .u8 (d 2).toNat, .int .u8 (d 3).toNat, .int .u8 (d 4).toNat, .int .u8 (d 5).toNat, .int .u8 (d 6).toNat, .int .u8 (d 7).toNat, .int .u8 (d 8).toNat, .int .u8 (d 9).toNat, .int .u8 (d 10).toNat, .int .u8 (d 11).toNat, .int .u8 (d 12).toNat, .int .u8 (d 13).toNat, .int .u8 (d 14).toNat, .int .u8 (d 15).toNat]
def arr16 (d : Nat → UInt8) : Value := .agg (cells16 d)
def pageCells (d : Nat → UInt8) : Array Value := #[.int .u8 (d 0).toNat, .int .u8 (d 1).toNat, .int .u8 (d 2).toNat, .int .u8 (d 3).toNat, .int .u8 (d 4).toNat, .int .u8 (d 5).toNat, .int .u8 (d 6).toNat, .int .u8 (d 7).toNat, .int .u8 (d 8).toNat, .int .u8 (d 9).toNat, .int .u8 (d 10).toNat, .int .u8 (d 11).toNat, .int .u8 (d 12).toNat, .int .u8 (d 13).toNat, .int .u8 (d 14).toNat, .int .u8 (d 15).toNat, .int .i64 1, .bool false, .int .i64 0]
def Pg.new (d : Nat → UInt8) : Pg := { data := d, users := 1, here := false, asked := 0 }
def Mem.plus (s : Mem) (b : Nat) (d : Nat → UInt8) (pa : Value) : Mem := { s with pages := s.pages ++ [b], pa := pa, pg := fun x => if x = b then Pg.new d else s.pg x }

theorem infoP : (Try.prog.info? 73).map (fun i => (i.zero, i.size, i.bytes)) = some (some (.pointer none), 1, 8) := by kernel_rfl
theorem uPs : Try.prog.underlying 68 = some (.slice 73) := by kernel_rfl

theorem pageCells_row (w : World) (d : Nat → UInt8) : (w.alloc (.cells (pageCells d) 92)).rowIs w.heap.size 92 19 (pgCell (Pg.new d)) := by
  refine ⟨_, Go.heap_alloc_new _ _, rfl, fun i hi => ?_⟩
  match i, hi with
  | 0, _ | 1, _ | 2, _ | 3, _ | 4, _ | 5, _ | 6, _ | 7, _ | 8, _ | 9, _ | 10, _ | 11, _ | 12, _ | 13, _ | 14, _ | 15, _ | 16, _ | 17, _ | 18, _ => rfl
  | n + 19, h => omega

section
variable {w : World} {s : Mem}

/-- a new page at the end of the list -/
theorem Rep.plus {w0 w' : World} (R : Rep w0 s) {b : Nat} {d : Nat → UInt8} {pa : Value} (hb : w0.rowIs b 92 19 (pgCell (Pg.new d))) (hn : b ∉ s.pages)
    (hown : w'.ownsRow 0 73 1 pa (s.pages.length + 1) (s.pages.map ptr ++ [ptr b])) (hg : w0.grownBy w' s.pa.ownBlock) :
    Rep (w'.setCell ⟨s.M, 3, none⟩ pa) (s.plus b d pa) := by
  have hlt : ∀ x o, w0.heap[x]? = some o → x < w0.heap.size := fun x o h => (Array.getElem?_eq_some_iff.1 h).1
  have hrow : ∀ {x t n : Nat} {f : Nat → Value}, w0.rowIs x t n f → t ≠ 73 → w'.rowIs x t n f := fun {x t n f} h ht =>
    h.of_block (hg.block x h.lt (fun e => R.arr_ne_row h ht e.symm))
  have hmap : ∀ {α : Type} {x : Nat} {f : Int → Option α} {toV : α → Value}, MapAt w0 x f toV → MapAt w' x f toV := fun {α x f toV} h =>
    h.of_block (hg.block x h.lt (fun e => R.arr_ne_map h e.symm))
  have hM := hrow R.mem (by decide)
  have hpa : pa.ownBlock ≠ some s.M := fun hv => by
    obtain ⟨cur, hc⟩ := ownsRow_block hown hv
    obtain ⟨c, hb', _, _⟩ := hM
    rw [hc] at hb'
    simp at hb'
  have hbM : b ≠ s.M := fun e => by
    have h1 := R.mem
    rw [← e] at h1
    have := rowIs_type h1 hb
    simp at this
  refine ⟨(hM.set 3 pa).congr (fun j hj => ?_), ?_, ?_, (hmap R.spm).setCell _ _, fun k X hk => (hmap (R.enm k X hk)).setCell _ _, ?_, R.inj, R.sne⟩
  · match j, hj with
    | 0, _ | 1, _ | 2, _ | 3, _ | 4, _ => simp [memCell, Mem.plus]
  · have := Go.ownsRow_setCell_other hown (a := ⟨s.M, 3, none⟩) hpa pa
    simpa [Mem.plus] using this
  · intro x hx
    have hx' : x ∈ s.pages ++ [b] := hx
    show (w'.setCell _ pa).rowIs x _ 19 (pgCell (if x = b then Pg.new d else s.pg x))
    by_cases e : x = b
    · subst e
      rw [if_pos rfl]
      exact (hrow hb (by decide)).setOther hbM pa
    · rw [if_neg e]
      have hxs : x ∈ s.pages := by simpa [e] using hx'
      exact (hrow (R.pgs x hxs) (by decide)).setOther (Ne.symm (R.M_ne_page hxs)) pa
  · show (s.pages ++ [b]).Nodup
    rw [List.nodup_append]
    exact ⟨R.nodup, by simp, fun x hx y hy => by simp at hy; subst hy; exact fun e => hn (e ▸ hx)⟩

theorem ask_foot (s : Mem) (p : Nat) : (s.ask p).foot = s.foot := by
  unfold Mem.ask
  split
  · rfl
  · split
    · unfold Mem.out; split <;> rfl
    · rfl

set_option maxHeartbeats 1000000 in
set_option maxRecDepth 100000 in
theorem add_rep (R : Rep w s) (d : Nat → UInt8) (hb : s.pages.length ≤ 900) (hf : 1 ≤ s.frames) (hk0 : 0 ≤ s.clock) (hk : s.clock < 4000000000000000000) :
    Calls Try.prog 18 #[.pointer (some ⟨s.M, 0, none⟩), arr16 d] w fun e w' => ∃ b pa, e = .returned (.pointer (some ⟨b, 0, none⟩)) ∧ w.heap.size ≤ b ∧ Rep w' ((s.plus b d pa).ask b) ∧ Upd s.foot w w' ∧ ∀ x, (s.plus b d pa).foot x → s.foot x ∨ w.heap.size ≤ x := by
  obtain ⟨i0, hi, hz0, hz1, hz2⟩ := info_parts infoP
  have HR := Lib.hid R
  clear R
  go_enter Try.func18, Try.ntmps18
  go_upto_region 0 with fail
  go_cut [3, 4] (fun v3 v4 wx => v3 = .pointer (some ⟨w.heap.size, 0, none⟩) ∧ v4 = .pointer none ∧ wx = w.alloc (.cells (cells16 d) 46))
  case first =>
    simp only [arr16, cells16]
    go_wp2_with fail
    go_meet
    exact ⟨rfl, rfl, rfl⟩
  case rest =>
    obtain ⟨rfl, rfl, rfl⟩ := hcut
    go_upto_region 1 with fail
    go_cut [5] (fun v5 wx => v5 = .pointer (some ⟨w.heap.size + 1, 0, none⟩) ∧ wx = (w.alloc (.cells (cells16 d) 46)).alloc (.cells (pageCells d) 92))
    case first =>
      simp only [cells16]
      go_wp2_with fail
      go_meet
      exact ⟨rfl, rfl⟩
    case rest =>
      obtain ⟨rfl, rfl⟩ := hcut
      obtain ⟨wA, hA⟩ : ∃ wA, wA = w.alloc (.cells (cells16 d) 46) := ⟨_, rfl⟩
      have hAs : wA.heap.size = w.heap.size + 1 := by rw [hA]; simp
      have RA : Rep wA s := by rw [hA]; exact HR.out.alloc _
      have UA : Upd s.foot w wA := by rw [hA]; exact (Upd.refl _ _).alloc _
      rw [← hA, ← hAs]
      clear hA
      have hrow := pageCells_row wA d
      obtain ⟨w0, h0⟩ : ∃ w0, w0 = wA.alloc (.cells (pageCells d) 92) := ⟨_, rfl⟩
      have R0 : Rep w0 s := by rw [h0]; exact RA.alloc _
      have U0 : Upd s.foot w w0 := by rw [h0]; exact UA.alloc _
      have hs0 : wA.heap.size < w0.heap.size := by rw [h0]; simp
      rw [← h0] at hrow ⊢
      generalize hbb : wA.heap.size = b at *
      clear h0
      have hle : w.heap.size ≤ b := by omega
      clear hAs hbb
      have hbn : b ∉ s.pages := fun h => by have := (HR.out.pgs b h).lt; omega
      have c3 := R0.c3
      have f3 := R0.f 3
      have hM : s.M < w0.heap.size := R0.mem.lt
      have HA := Lib.hid R0.arr
      have HRow := Lib.hid hrow
      have HR0 := Lib.hid R0
      have HU0 := Lib.hid U0
      clear hrow R0 RA U0 UA
      go_wp2_with (at_builtin; refine wpList_append_new _ rfl (.tmp 13) (.tmp 15) 68 rfl 73 i0 (.pointer none) 1 8 uPs hi hz0 hz1 hz2 rfl (by decide) s.pa s.pages.length (s.pages.map ptr) rfl (HA.out.alloc _) ⟨w0.heap.size, 0, none⟩ 1 1 [.pointer (some ⟨b, 0, none⟩)] rfl rfl ?c1 ?c2 ?c3 ?c4 ?_)
      case c1 => intro j u hj; match j, hj with | 0, hj => simp at hj; subst hj; simp [Addr.add]
      case c2 => intro u hu; simp at hu; subst hu; rfl
      case c3 => unfold maxLen; omega
      case c4 => omega
      intro v' w1 hown hgrow hfr
      obtain ⟨gg, cc, rfl⟩ : ∃ g c, v' = .slice (some ⟨g, 0, none⟩) (s.pages.length + 1) c := by
        obtain ⟨_, ⟨_, h⟩ | ⟨g, cap, cur, h, _⟩⟩ := hown
        · omega
        · exact ⟨g, cap, h⟩
      have hg0 : w0.grownBy w1 s.pa.ownBlock := ⟨hgrow.os, hgrow.tape, hgrow.output, Nat.le_trans (by simp) hgrow.size, fun k hk hne => (hgrow.block k (by simp; omega) hne).trans (Below.heap_alloc _ _ _ hk)⟩
      have g3 : w1.cell? ⟨s.M, 3, none⟩ = some s.pa := hg0.cell c3 (fun e => HR0.out.arr_ne_row HR0.out.mem (by decide) e.symm)
      have gf : w1.frozen? ⟨s.M, 3, none⟩ = false := (World.frozen?_of_block (hg0.block s.M hM (fun e => HR0.out.arr_ne_row HR0.out.mem (by decide) e.symm))).trans f3
      have R2 : Rep (w1.setCell ⟨s.M, 3, none⟩ (.slice (some ⟨gg, 0, none⟩) (s.pages.length + 1) cc)) (s.plus b d (.slice (some ⟨gg, 0, none⟩) (s.pages.length + 1) cc)) := HR0.out.plus HRow.out hbn hown hg0
      have hfoot : ∀ x, (s.plus b d (.slice (some ⟨gg, 0, none⟩) (s.pages.length + 1) cc)).foot x → s.foot x ∨ w.heap.size ≤ x := by
        intro x hx
        rcases hx with h | h | h | h | h
        · exact .inl (.inl h)
        · exact .inl (.inr (.inl h))
        · rcases hfr x h with h | h
          · exact .inl (.inr (.inr (.inl h)))
          · have : w0.heap.size + 1 ≤ x := by simpa using h
            exact .inr (by omega)
        · have h' : x ∈ s.pages ++ [b] := h
          rw [List.mem_append, List.mem_singleton] at h'
          rcases h' with h | rfl
          · exact .inl (.inr (.inr (.inr (.inl h))))
          · exact .inr hle
        · exact .inl (.inr (.inr (.inr (.inr h))))
      have U2 : Upd s.foot w (w1.setCell ⟨s.M, 3, none⟩ (.slice (some ⟨gg, 0, none⟩) (s.pages.length + 1) cc)) := (HU0.out.grown hg0 (fun k hk => .inl (.inr (.inr (.inl hk))))).setCell (.inl (.inl rfl)) _
      have ha : Calls Try.prog 28 #[.pointer (some ⟨s.M, 0, none⟩), .pointer (some ⟨b, 0, none⟩)] (w1.setCell ⟨s.M, 3, none⟩ (.slice (some ⟨gg, 0, none⟩) (s.pages.length + 1) cc)) fun e w' => e = .returned (.tuple #[]) ∧ Rep w' ((s.plus b d (.slice (some ⟨gg, 0, none⟩) (s.pages.length + 1) cc)).ask b) ∧ Upd (s.plus b d (.slice (some ⟨gg, 0, none⟩) (s.pages.length + 1) cc)).foot (w1.setCell ⟨s.M, 3, none⟩ (.slice (some ⟨gg, 0, none⟩) (s.pages.length + 1) cc)) w' :=
        ask_rep R2 (p := b) (by simp [Mem.plus]) (by simp [Mem.plus]; omega) hf hk0 hk
      have HAsk := Lib.hid ha
      have HG := Lib.hid hfoot
      have HU2 := Lib.hid U2
      clear ha hown hgrow hfr hg0 R2 hfoot U2 c3 f3
      go_wp2_with (go_at_call 28; refine HAsk.out.mono ?_; rintro e w' ⟨rfl, hr, hu⟩; have HX := Lib.hid hr; have HY := Lib.hid hu; clear hr hu)
      go_ret
      exact ⟨b, (.slice (some ⟨gg, 0, none⟩) (s.pages.length + 1) cc), rfl, hle, HX.out, HU2.out.trans HY.out (fun x hx h => by rcases HG.out x h with h | h; exact h; omega), HG.out⟩
end
end Go.Proofs.Ytnhknnhdeegbdab
