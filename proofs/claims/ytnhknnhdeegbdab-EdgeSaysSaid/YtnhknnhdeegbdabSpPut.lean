/- Put. -/
import Derived.Test.YtnhknnhdeegbdabSpMake
import Derived.Laws.CopyOwn
import Derived.Deep.RegionWith
namespace Go.Proofs.Ytnhknnhdeegbdab
open Go.RowKit Go.ChangeMaps

def padTo (data : List UInt8) (i : Nat) : UInt8 := data.getD i 0
theorem splice16 (data : List UInt8) (h : data.length ≤ 16) : (splice (List.replicate 16 (Value.int .u8 0)) 0 (data.map byteV)).toArray = cells16 (padTo data) := by
  have e : cells16 (padTo data) = (List.ofFn fun i : Fin 16 => byteV (padTo data i.1)).toArray := by
    simp [cells16, byteV, List.ofFn_succ]
  rw [e]
  congr 1
  refine List.ext_getElem ?_ (fun i h1 h2 => ?_)
  · simp [splice]; omega
  · simp only [List.getElem_ofFn, splice, List.take_zero, List.nil_append, Nat.zero_add, List.length_map, List.drop_replicate]
    by_cases hi : i < data.length
    · rw [List.getElem_append_left (by simpa using hi)]
      simp [padTo, List.getD, hi]
    · rw [List.getElem_append_right (by simpa using hi)]
      simp [padTo, List.getD, hi, byteV]

theorem heap_alloc_new' (w : World) (o : Obj) {n : Nat} (h : n = w.heap.size) : (w.alloc o).heap[n]? = some o := by subst h; exact Go.heap_alloc_new _ _
theorem size_ad (w : World) (o : Obj) (q : Nat) : ((w.alloc o).drewN q).heap.size = w.heap.size + 1 := Array.size_push _
theorem bDrewN {B : Nat} {w0 w : World} (h : Below B w0 w) (n : Nat) : Below B w0 (w.drewN n) := ⟨h.os, h.tape, h.output, h.size, h.block⟩
theorem iU8 : (Try.prog.info? 5).map (·.size) = some 1 := by kernel_rfl

section
variable {w : World} {s : Mem}

set_option maxHeartbeats 2000000 in
set_option maxRecDepth 100000 in
theorem put_ok (R : Rep w s) (sn at_ rights : Int) (data : List UInt8) (hw : (Lit.int .i64 sn).wf = true) {X : Nat} (h : s.sp sn = some X) (ha0 : 0 ≤ at_) (ha1 : at_ < 64) (hr0 : 0 ≤ rights) (hr1 : rights ≤ 7) (hl : data.length ≤ 16)
    (hen : s.en X at_ = none) (da : Option Addr) (cap : Nat) (hd : BytesAt w s.foot da data)
    (hb : s.pages.length ≤ 500) (hf : 1 ≤ s.frames) (hf2 : s.frames ≤ 64) (hs0 : 0 ≤ s.slots) (hs1 : s.slots ≤ 64) (hp : (s.pages.length : Int) + 1 ≤ s.frames + s.slots) (hk0 : 0 ≤ s.clock) (hk : s.clock < 3000000000000000000) :
    Calls Try.prog 7 #[.pointer (some ⟨s.M, 0, none⟩), .int .i64 sn, .int .i64 at_, .int .i64 rights, .slice da data.length cap] w fun e w' => e = .returned (.int .i64 0) ∧ ∃ b pa, w.heap.size ≤ b ∧ Rep w' (((s.plus b (padTo data) pa).ask b).setEn X at_ (b, rights)) ∧ Upd s.foot w w' ∧ ∀ x, (s.plus b (padTo data) pa).foot x → s.foot x ∨ w.heap.size ≤ x := by
  have hsp := span_rep R sn at_ 1 rights hw
  have hspv : s.span sn at_ 1 rights = 0 := by simp only [Mem.span, h]; exact if_neg (by omega)
  rw [hspv] at hsp
  have c4 := R.c4
  have L := R.lookS_some hw h
  have L2 := R.lookE_none (wfI (n := at_) (by omega)) h hen true
  rw [if_pos rfl] at L2
  have hrm : ∀ W, Rep W s → Calls Try.prog 17 #[.pointer (some ⟨s.M, 0, none⟩), .int .i64 1] W fun e w' => e = .returned (.bool true) ∧ ∃ k, w' = W.drewN k := fun W RW => by
    have := room_rep RW (by omega) 1 (by omega) hf2 hs0 hs1
    rwa [decide_eq_true (by omega)] at this
  have HR := Lib.hid R
  have HSp := Lib.hid hsp
  have HRm := Lib.hid hrm
  have HD := Lib.hid hd
  clear hsp hspv hrm R hd
  go_enter Try.func7, Try.ntmps7
  go_wp2_with (first | (go_at_call 16; refine HSp.out.mono ?_; rintro e w' ⟨rfl, hww⟩; obtain rfl : w = w' := hww.symm) | (go_at_call 17; refine (HRm.out _ (HR.out.alloc _)).mono ?_; rintro e w' ⟨rfl, q, rfl⟩) | (refine wpList_copy_splice rfl (.tmp 41) (.tmp 42) 22 22 rfl 5 uB iU8 (some ⟨w.heap.size + 1, 0, none⟩) da 16 16 data.length cap rfl rfl (w.heap.size + 1) 0 (List.replicate 16 (.int .u8 0)) 46 ?cg (data.map byteV) ?cn ?cpos ?cfit ?cone w.heap.size w ?cbel (Nat.le_add_right _ _) ?_))
  case cg => exact heap_alloc_new' _ _ (size_ad _ _ _).symm
  case cn => rw [List.length_map]; exact (Nat.min_eq_left hl).symm
  case cpos =>
    intro hpos
    rcases HD.out with h | ⟨D, off, rfl, hD, hDl, hd⟩
    · omega
    · refine ⟨⟨D, off, none⟩, rfl, fun j v hv => ?_⟩
      have hj : j < data.length := (List.getElem?_eq_some_iff.1 hv).1
      have e : (⟨D, off, none⟩ : Addr).add j = ⟨D, off + j, none⟩ := by unfold Addr.add; split <;> simp_all
      rw [e, Go.World.cell?_alloc_lt _ _ _ (by rw [size_ad]; exact Nat.lt_succ_of_lt hDl)]
      show (w.alloc _).cell? _ = _
      rw [Go.World.cell?_alloc_lt _ _ _ hDl, hd j hj]
      have : data.getD j 0 = v := by simp [List.getD, hv]
      rw [this]; rfl
  case cfit => simp; omega
  case cone =>
    intro v hv
    obtain ⟨b, _, rfl⟩ := List.mem_map.1 hv
    rfl
  case cbel => exact (bDrewN ((Below.refl _ _).alloc (Nat.le_refl _) _) _).alloc (by rw [size_ad]; exact Nat.le_succ _) _
  intro w3 hcell hbel
  have hr3 : Rep w3 s := HR.out.upd (Upd.of_below hbel (fun _ => False)) (fun _ _ h => h)
  have hu3 : Upd s.foot w w3 := Upd.of_below hbel _
  have hc3 : w3.heap[w.heap.size + 1]? = some (.cells (cells16 (padTo data)) 46 (0, 0)) := by
    have := hcell.out
    rw [show splice [Value.int .u8 0, .int .u8 0, .int .u8 0, .int .u8 0, .int .u8 0, .int .u8 0, .int .u8 0, .int .u8 0, .int .u8 0, .int .u8 0, .int .u8 0, .int .u8 0, .int .u8 0, .int .u8 0, .int .u8 0, .int .u8 0] 0 (data.map byteV) = splice (List.replicate 16 (.int .u8 0)) 0 (data.map byteV) from rfl, splice16 data hl] at this
    exact this
  have HC3 := Lib.hid hc3
  have HR3 := Lib.hid hr3
  have HU3 := Lib.hid hu3
  clear hcell hc3 hbel hr3 hu3 c4 L L2
  go_wp2_with fail
  obtain ⟨g, hg⟩ : ∃ g, g = w.heap.size + 1 := ⟨_, rfl⟩
  rw [← hg] at HC3 ⊢
  have hgz : w.heap.size ≤ g := by omega
  clear hg
  have hg16 : ∀ j, j < 16 → w3.cell? ⟨g, j, none⟩ = some (.int .u8 (padTo data j).toNat) := by
    intro j hj
    rw [cell_of_row w3 g j _ _ _ HC3.out]
    match j, hj with
    | 0, _ | 1, _ | 2, _ | 3, _ | 4, _ | 5, _ | 6, _ | 7, _ | 8, _ | 9, _ | 10, _ | 11, _ | 12, _ | 13, _ | 14, _ | 15, _ => rfl
    | n + 16, h => omega
  have c4 : w3.cell? ⟨s.M, 4, none⟩ = some (.map (some s.S)) := HR3.out.c4
  have L := (HR3.out.drew).lookS_some hw h
  have had : Calls Try.prog 18 #[.pointer (some ⟨s.M, 0, none⟩), arr16 (padTo data)] w3.drew fun e w' => ∃ b pa, e = .returned (.pointer (some ⟨b, 0, none⟩)) ∧ w.heap.size ≤ b ∧ (w'.cell? ⟨s.M, 4, none⟩ = some (.map (some s.S)) ∧
      (Instr.lookup 67 (.map (some s.S)) (.int .i64 sn) false).run Try.prog w' = .ok (.map (some X)) w' ∧
      ∃ w6, (Instr.mapUpdate 71 (.map (some X)) (.int .i64 at_) (.agg #[.pointer (some ⟨b, 0, none⟩), .int .i64 rights])).run Try.prog w' = .ok () w6 ∧ Hid (Rep w6 (((s.plus b (padTo data) pa).ask b).setEn X at_ (b, rights))) ∧ Hid (Upd s.foot w w6)) ∧ Hid (∀ x, (s.plus b (padTo data) pa).foot x → s.foot x ∨ w.heap.size ≤ x) := by
    refine (add_rep (HR3.out.drew) (padTo data) (by omega) hf hk0 (by omega)).mono ?_
    rintro e w' ⟨b, pa, rfl, hbz, hr, hu, hfo⟩
    have hz3 : w.heap.size ≤ w3.heap.size := HU3.out.size
    have hsp : ((s.plus b (padTo data) pa).ask b).sp sn = some X := by simpa [Mem.plus] using h
    obtain ⟨ob, hrun, hm⟩ := (hr.enm sn X hsp).put (P := Try.prog) (T := 71) uX uI (wfI (n := at_) (by omega)) (b, rights)
    have hux : Upd (fun q => q = X) w' (ChangeMaps.setBlock w' X ob) := Upd.setBlock (F := fun q => q = X) (Upd.refl _ _) (.inl rfl) ob
    refine ⟨b, pa, rfl, Nat.le_trans hz3 hbz, ⟨by have := hr.c4; simpa [Mem.plus] using this, by have := hr.lookS_some hw hsp; simpa [Mem.plus] using this, _, hrun, hr.setEn hsp _ _ hux hm, ?_⟩, fun x hx => ?_⟩
    · exact ((HU3.out.drew).trans' hu).trans hux (fun x _ e => by rw [e]; exact .inr (.inr (.inr (.inr ⟨sn, h⟩))))
    · rcases hfo x hx with h | h
      · exact .inl h
      · exact .inr (Nat.le_trans hz3 h)
  have e0 := hg16 0 (by omega)
  have e1 := hg16 1 (by omega)
  have e2 := hg16 2 (by omega)
  have e3 := hg16 3 (by omega)
  have e4 := hg16 4 (by omega)
  have e5 := hg16 5 (by omega)
  have e6 := hg16 6 (by omega)
  have e7 := hg16 7 (by omega)
  have e8 := hg16 8 (by omega)
  have e9 := hg16 9 (by omega)
  have e10 := hg16 10 (by omega)
  have e11 := hg16 11 (by omega)
  have e12 := hg16 12 (by omega)
  have e13 := hg16 13 (by omega)
  have e14 := hg16 14 (by omega)
  have e15 := hg16 15 (by omega)
  simp only [arr16, cells16] at had
  have HAD := Lib.hid had
  clear had hg16
  go_region_with (go_at_call 18; refine HAD.out.mono ?_; rintro e w5 ⟨b, pa, rfl, hbz, ⟨c45, L5, w6, hrun, hr6, hu6⟩, hfo⟩)
  all_goals
    clear hrun L5 c45
    go_wp2_with fail
    go_ret
    exact ⟨rfl, b, pa, hbz, hr6.out, hu6.out, hfo.out⟩
end
end Go.Proofs.Ytnhknnhdeegbdab
