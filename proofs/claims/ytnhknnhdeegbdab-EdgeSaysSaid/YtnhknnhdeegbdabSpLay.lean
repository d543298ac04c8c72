/- lay. -/
import Derived.Test.YtnhknnhdeegbdabSpLayS
import Derived.Test.YtnhknnhdeegbdabArr
import Derived.StillTailTactics
namespace Go.Proofs.Ytnhknnhdeegbdab
open Go.RowKit Go.ChangeMaps

theorem uA16 : Try.prog.underlying 46 = some (.array 16 5) := by kernel_rfl
theorem iA16 : (Try.prog.info? 46).map (·.size) = some 16 := by kernel_rfl

section
variable {w : World} {s : Mem}

theorem Rep.cells16 (R : Rep w s) {b : Nat} (hb : b ∈ s.pages) : ∀ j v, (Go.Proofs.Ytnhknnhdeegbdab.cells16 (s.pg b).data).toList[j]? = some v → w.cell? ((⟨b, 0, none⟩ : Addr).add j) = some v := by
  intro j v hj
  have hl : j < 16 := by
    have := (List.getElem?_eq_some_iff.1 hj).1
    simpa [Go.Proofs.Ytnhknnhdeegbdab.cells16] using this
  have e : (⟨b, 0, none⟩ : Addr).add j = ⟨b, j, none⟩ := by unfold Addr.add; split <;> simp_all
  rw [e, R.pd hb hl, ← hj]
  match j, hl with
  | 0, _ | 1, _ | 2, _ | 3, _ | 4, _ | 5, _ | 6, _ | 7, _ | 8, _ | 9, _ | 10, _ | 11, _ | 12, _ | 13, _ | 14, _ | 15, _ => rfl
  | n + 16, h => omega

def LayRel (w : World) (s : Mem) (X : Nat) (addr : Int) (data : List UInt8) (n : Nat) (i : Value) (wr : World) : Prop :=
  ∃ (k : Nat) (t : Mem), k ≤ n ∧ i = .int .i64 k ∧ LayTo s X addr data k t ∧ Rep wr t ∧ Upd s.foot w wr ∧ (∀ x, t.foot x → s.foot x ∨ w.heap.size ≤ x)

set_option maxHeartbeats 2000000 in
set_option maxRecDepth 100000 in
theorem lay_loop (R : Rep w s) (E : s.EnOk) (sn addr : Int) (n : Nat) (hw : (Lit.int .i64 sn).wf = true) {X : Nat} (h : s.sp sn = some X) (h1 : 0 ≤ addr) (h2 : 1 ≤ n) (h3 : addr + n ≤ 1024)
    (hen : ∀ j, addr ≤ j → j < addr + n → ∃ x, s.en X (j / 16) = some x) (data : List UInt8) (hn : data.length = n) (hn2 : n ≤ 256) (D off cap : Nat) (hD : ¬ s.foot D) (hDl : D < w.heap.size)
    (hd : ∀ j, j < n → w.cell? ⟨D, off + j, none⟩ = some (.int .u8 (data.getD j 0).toNat))
    (hus : ∀ b, b ∈ s.pages → (s.pg b).users ≤ 1000000) (hb : s.pages.length ≤ 500) (hf : 1 ≤ s.frames) (hf2 : s.frames ≤ 64) (hs0 : 0 ≤ s.slots) (hs1 : s.slots ≤ 64) (hk0 : 0 ≤ s.clock) (hk : s.clock < 3000000000000000000)
    (hroom : (s.sharedIn (s.en X) addr n : Int) ≤ s.frames + s.slots - s.pages.length) :
    Calls Try.prog 29 #[.pointer (some ⟨s.M, 0, none⟩), .int .i64 sn, .int .i64 addr, .slice (some ⟨D, off, none⟩) n cap] w fun e w' => e = .returned (.int .i64 0) ∧ ∃ t, LayTo s X addr data n t ∧ Rep w' t ∧ Upd s.foot w w' ∧ ∀ x, t.foot x → s.foot x ∨ w.heap.size ≤ x := by
  have hsh := shared_rep R E sn addr n hw h h1 (by omega) h3 hen
  have hrm := room_rep R (by omega) (s.sharedIn (s.en X) addr n) (by omega) hf2 hs0 hs1
  rw [decide_eq_true hroom] at hrm
  have HSh := Lib.hid hsh
  have HRm := Lib.hid hrm
  have HR := Lib.hid R
  have HD := Lib.hid hd
  have HEN := Lib.hid hen
  have HRo := Lib.hid hroom
  have HN := Lib.hid hn
  clear R hd hen hsh hrm hroom hn
  go_enter Try.func29, Try.ntmps29
  go_wp2_with (first | (go_at_call 32; refine HSh.out.mono ?_; rintro e w' ⟨rfl, hww⟩; obtain rfl : w = w' := hww.symm) | (go_at_call 17; refine HRm.out.mono ?_; rintro e w' ⟨rfl, q, rfl⟩))
  go_loopw [24] (LayRel w s X addr data n) (fun i _ => (n - (intOf i)).toNat)
  case atStart => exact ⟨0, s, by omega, rfl, .start, HR.out.drewN _, (Upd.refl _ _).drewN _, fun _ h => .inl h⟩
  case round =>
    obtain ⟨k, t, hkn, rfl, hLT, hR, hU, hF⟩ := hrel
    have hI := hLT.inv
    by_cases hlt : k < n
    · obtain ⟨x0, hx0⟩ := HEN.out (addr + k) (by omega) (by omega)
      obtain ⟨b0, hb0⟩ := hI.en _ _ hx0
      obtain ⟨x, hx⟩ : ∃ x, t.en X ((addr + k) / 16) = some x := ⟨_, hb0⟩
      clear hx0 hb0
      have hsp : t.sp sn = some X := by rw [hI.sp]; exact h
      have hpx : x.1 ∈ t.pages := hI.enok E sn X _ x hsp hx
      have c4 := hR.c4
      have L := hR.lookS_some hw hsp
      have L2 := hR.lookE_some (wfI (n := (addr + k) / 16) (by omega)) hsp hx false
      rw [if_neg (by simp)] at L2
      have p16 := hR.p16 hpx
      have hdk : wr.cell? ⟨D, off + k, none⟩ = some (.int .u8 (data.getD k 0).toNat) := (World.cell?_of_block (hU.block D hDl hD)).trans (HD.out k hlt)
      have hMlt := hR.mem.lt
      have hplt := (hR.pgs _ hpx).lt
      have hDlt : D < wr.heap.size := Nat.lt_of_lt_of_le hDl hU.size
      by_cases hu : 1 < (t.pg x.1).users
      · have htM : t.M = s.M := hI.M
        rw [htM] at c4 hMlt
        have hub := hI.users 1000000 (by omega) hus x.1 hpx
        have hbnf : ¬ t.foot wr.heap.size := fun hf => by have := hR.foot_lt hf; omega
        have hR1 : Rep ((wr.setCell ⟨x.1, 16, none⟩ (.int .i64 ((t.pg x.1).users - 1))).alloc (.cells #[.pointer (some ⟨x.1, 0, none⟩), .int .i64 x.2] 75)) (t.less x.1) := (hR.less hpx).alloc _
        have hU1 : Upd s.foot w ((wr.setCell ⟨x.1, 16, none⟩ (.int .i64 ((t.pg x.1).users - 1))).alloc (.cells #[.pointer (some ⟨x.1, 0, none⟩), .int .i64 x.2] 75)) :=
          (hU.setCell (p := ⟨x.1, 16, none⟩) (by rcases hF x.1 (.inr (.inr (.inr (.inl hpx)))) with h | h; exact .inl h; exact .inr h) _).alloc _
        have hcc : ∀ j v, (Go.Proofs.Ytnhknnhdeegbdab.cells16 (t.pg x.1).data).toList[j]? = some v → ((wr.setCell ⟨x.1, 16, none⟩ (.int .i64 ((t.pg x.1).users - 1))).alloc (.cells #[.pointer (some ⟨x.1, 0, none⟩), .int .i64 x.2] 75)).cell? ((⟨x.1, 0, none⟩ : Addr).add j) = some v := by
          have := hR1.cells16 (b := x.1) hpx
          simpa [Mem.less, Mem.setPg, Pg.setUsers] using this
        have had : Calls Try.prog 18 #[.pointer (some ⟨s.M, 0, none⟩), .agg (Go.Proofs.Ytnhknnhdeegbdab.cells16 (t.pg x.1).data)] ((wr.setCell ⟨x.1, 16, none⟩ (.int .i64 ((t.pg x.1).users - 1))).alloc (.cells #[.pointer (some ⟨x.1, 0, none⟩), .int .i64 x.2] 75)) fun e w' => ∃ b pa, e = .returned (.pointer (some ⟨b, 0, none⟩)) ∧
            wr.heap.size < b ∧ Rep w' (((t.less x.1).plus b (t.pg x.1).data pa).ask b) ∧ Upd s.foot w w' ∧ (∀ y, ((t.less x.1).plus b (t.pg x.1).data pa).foot y → s.foot y ∨ w.heap.size ≤ y) ∧
            w'.cell? ⟨wr.heap.size, 0, none⟩ = some (.pointer (some ⟨x.1, 0, none⟩)) ∧ w'.cell? ⟨wr.heap.size, 1, none⟩ = some (.int .i64 x.2) ∧ w'.frozen? ⟨wr.heap.size, 0, none⟩ = false ∧ b ∉ t.pages ∧ ¬ ((t.less x.1).plus b (t.pg x.1).data pa).foot wr.heap.size := by
          have hMM : (t.less x.1).M = s.M := htM
          rw [← hMM]
          refine (add_rep hR1 (t.pg x.1).data (by have := hI.pages; show t.pages.length ≤ 900; omega) (by show 1 ≤ t.frames; rw [hI.frames]; exact hf) (by have := hI.clock0; show 0 ≤ t.clock; omega) (by have := hI.clock; show t.clock < _; omega)).mono ?_
          rintro e w' ⟨b, pa, rfl, hbz, hr, hu, hfo⟩
          have hbz' : wr.heap.size + 1 ≤ b := by simpa using hbz
          have hblk := hu.block wr.heap.size (by simp) hbnf
          refine ⟨b, pa, rfl, by omega, hr, hU1.trans hu (fun y hy hf => by rcases hF y hf with h | h; exact h; omega), fun y hy => ?_, ?_, ?_, ?_, fun hm => ?_, fun hq => ?_⟩
          · rcases hfo y hy with h | h
            · exact hF y h
            · have h' : wr.heap.size + 1 ≤ y := by simpa using h
              have := hU.size
              exact .inr (by omega)
          · rw [World.cell?_of_block hblk, World.cell?_alloc_at _ _ _ _ (by simp)]; rfl
          · rw [World.cell?_of_block hblk, World.cell?_alloc_at _ _ _ _ (by simp)]; rfl
          · rw [World.frozen?_of_block hblk, World.frozen?_alloc_at _ _ _ _ (by simp)]
          · have := (hR.pgs b hm).lt; omega
          · rcases hfo _ hq with h | h
            · exact hbnf h
            · have : wr.heap.size + 1 ≤ wr.heap.size := by simpa using h
              omega
        have HTM := Lib.hid htM
        have HRr := Lib.hid hR
        have HU := Lib.hid hU
        have HF := Lib.hid hF
        have HI := Lib.hid hI
        have HLT := Lib.hid hLT
        have HX := Lib.hid hx
        have HCC := Lib.hid hcc
        have HAD := Lib.hid had
        clear htM hR hU hF hI hLT hx hR1 hU1 hcc had
        have hff : wr.frozen? ⟨x.1, 16, none⟩ = false := HRr.out.pf hpx 16
        go_wp2_with (first | (go_at_call 18; refine HAD.out.mono ?_; rintro e w2 ⟨b, pa, rfl, hbz, hr2, hu2, hfo2, bx0, bx1, bxf, hbn, hnf⟩; have HR2 := Lib.hid hr2; have HU2 := Lib.hid hu2; have HFO2 := Lib.hid hfo2; have HBN := Lib.hid hbn; have HNF := Lib.hid hnf; clear hr2 hu2 hfo2 hbn hnf) | (refine wpList_load_arr rfl 46 (.tmp 59) rfl ⟨x.1, 0, none⟩ rfl (Go.Proofs.Ytnhknnhdeegbdab.cells16 (t.pg x.1).data).toList _ HCC.out uA16 rfl iA16 ?_))
        obtain ⟨w3, hw3⟩ : ∃ w3, w3 = w2.setCell ⟨wr.heap.size, 0, none⟩ (.pointer (some ⟨b, 0, none⟩)) := ⟨_, rfl⟩
        obtain ⟨t2, ht2⟩ : ∃ t2, t2 = ((t.less x.1).plus b (t.pg x.1).data pa).ask b := ⟨_, rfl⟩
        have hr2 : Rep w2 t2 := by rw [ht2]; exact HR2.out
        have hnf2 : ¬ t2.foot wr.heap.size := by rw [ht2, ask_foot]; exact HNF.out
        have hr3 : Rep w3 t2 := by rw [hw3]; exact hr2.setCell _ hnf2
        have hwz : w.heap.size ≤ wr.heap.size := HU.out.size
        have hu3 : Upd s.foot w w3 := by rw [hw3]; exact HU2.out.setCell (p := ⟨wr.heap.size, 0, none⟩) (.inr hwz) _
        have hM2 : t2.M = s.M := by rw [ht2]; simpa [Mem.plus, Mem.less, Mem.setPg] using HTM.out
        have hsp2 : t2.sp sn = some X := by rw [ht2]; simpa [Mem.plus, Mem.less, Mem.setPg] using hsp
        have hen2 : t2.en = t.en := by rw [ht2]; simp [Mem.plus, Mem.less, Mem.setPg]
        have hpg2 : t2.pages = t.pages ++ [b] := by rw [ht2]; simp [Mem.plus, Mem.less, Mem.setPg]
        have hbz0 : w3.cell? ⟨wr.heap.size, 0, none⟩ = some (.pointer (some ⟨b, 0, none⟩)) := by rw [hw3]; exact World.cell?_setCell_same _ _ _ bx0
        have hbz1 : w3.cell? ⟨wr.heap.size, 1, none⟩ = some (.int .i64 x.2) := by rw [hw3, World.cell?_setCell_other _ _ _ _ (by simp)]; exact bx1
        rw [← hw3]
        clear bx0 bx1 bxf c4 L L2 p16 hdk hff hbnf
        have HT2 := Lib.hid ht2
        have HW3 := Lib.hid hw3
        clear ht2 hw3 hr2
        have c4 : w3.cell? ⟨s.M, 4, none⟩ = some (.map (some t2.S)) := by rw [← hM2]; exact hr3.c4
        have L := (hr3.drew).lookS_some hw hsp2
        have hmap : MapAt w3.drew X (t2.en X) entV := (hr3.enm sn X hsp2).drew
        have HMap := Lib.hid hmap
        have HM2 := Lib.hid hM2
        have HSp2 := Lib.hid hsp2
        have HEn2 := Lib.hid hen2
        have HPg2 := Lib.hid hpg2
        have HR3 := Lib.hid hr3
        have HU3 := Lib.hid hu3
        clear hmap hM2 hsp2 hen2 hpg2 hr3 hu3
        have HNF2 := Lib.hid hnf2
        clear hnf2
        go_still_tail 8, (by kernel_rfl)
        refine wpList_put_at rfl _ _ _ 71 rfl uX uI HMap.out (wfI (by omega)) (b, x.2) rfl rfl rfl ?_
        intro w4 hu4 _ hm4
        have hr4 : Rep w4 (t2.setEn X ((addr + k) / 16) (b, x.2)) := (HR3.out.drew).setEn HSp2.out _ _ hu4 hm4
        have hXf : t2.foot X := .inr (.inr (.inr (.inr ⟨sn, HSp2.out⟩)))
        have hXne : wr.heap.size ≠ X := fun e => HNF2.out (by rw [e]; exact hXf)
        have hXs : s.foot X := .inr (.inr (.inr (.inr ⟨sn, h⟩)))
        have hbl4 : w4.heap[wr.heap.size]? = w3.heap[wr.heap.size]? := hu4.block _ (block_lt_of_cell hbz0) hXne
        have hU4 : Upd s.foot w w4 := (HU3.out.drew).trans hu4 (fun y _ e => by rw [e]; exact hXs)
        have hb4 : b ∈ (t2.setEn X ((addr + k) / 16) (b, x.2)).pages := by show b ∈ t2.pages; rw [HPg2.out]; simp
        have hfoot4 : ∀ y, (t2.setEn X ((addr + k) / 16) (b, x.2)).foot y → s.foot y ∨ w.heap.size ≤ y := by
          intro y hy
          have hy' : t2.foot y := hy
          rw [HT2.out, ask_foot] at hy'
          exact HFO2.out y hy'
        have hI := HI.out
        have hc2 : t2.clock = t.clock + 1 := by rw [HT2.out]; simp [Mem.plus, Mem.less, Mem.setPg]
        have hf2 : t2.frames = s.frames := by rw [HT2.out]; simpa [Mem.plus, Mem.less, Mem.setPg] using hI.frames
        have hask : Calls Try.prog 28 #[.pointer (some ⟨s.M, 0, none⟩), .pointer (some ⟨b, 0, none⟩)] w4 fun e w' => e = .returned (.tuple #[]) ∧ Rep w' ((t2.setEn X ((addr + k) / 16) (b, x.2)).ask b) ∧ Upd s.foot w w' ∧
            w'.cell? ⟨wr.heap.size, 0, none⟩ = some (.pointer (some ⟨b, 0, none⟩)) ∧ (∃ v, w'.cell? ⟨b, ((addr + k) % 16).toNat, none⟩ = some v) ∧ w'.frozen? ⟨b, ((addr + k) % 16).toNat, none⟩ = false := by
          rw [show s.M = (t2.setEn X ((addr + k) / 16) (b, x.2)).M from HM2.out.symm]
          refine (ask_rep hr4 hb4 (by have := hI.pages; show t2.pages.length ≤ 1000; rw [HPg2.out]; simp; omega) (by show 1 ≤ t2.frames; rw [hf2]; exact hf) (by have := hI.clock0; show 0 ≤ t2.clock; omega) (by have := hI.clock; show t2.clock < _; omega)).mono ?_
          rintro e w' ⟨rfl, hr, hu⟩
          refine ⟨rfl, hr, hU4.trans hu (fun y hy hf => by rcases hfoot4 y hf with h | h; exact h; omega), ?_, ⟨_, hr.pd (b := b) (by simpa using hb4) (i := ((addr + k) % 16).toNat) (by omega)⟩, hr.pf (b := b) (by simpa using hb4) _⟩
          have hlt4 : wr.heap.size < w4.heap.size := Nat.lt_of_lt_of_le (block_lt_of_cell hbz0) hu4.size
          rw [World.cell?_of_block (hu.block wr.heap.size hlt4 HNF2.out), World.cell?_of_block hbl4]
          exact hbz0
        have g40 : w4.cell? ⟨wr.heap.size, 0, none⟩ = some (.pointer (some ⟨b, 0, none⟩)) := (World.cell?_of_block hbl4).trans hbz0
        have HAsk := Lib.hid hask
        have HR4 := Lib.hid hr4
        have HF4 := Lib.hid hfoot4
        have HU4 := Lib.hid hU4
        have HB4 := Lib.hid hb4
        clear hask hr4 hfoot4 hU4 hb4 hI hc2 hf2 hbl4 hXne hXs hXf hm4 hu4 hbz0 hbz1 c4 L
        go_wp2_with (go_at_call 28; refine HAsk.out.mono ?_; rintro e w5 ⟨rfl, hr, hu, cb, ⟨vq, cq⟩, fq⟩; have HR5 := Lib.hid hr; have HU5 := Lib.hid hu; clear hr hu)
        refine ⟨⟨k + 1, (t.copied X ((addr + k) / 16) x b pa).setByte b ((addr + k) % 16).toNat (data.getD k 0), by omega, by go_num, HLT.out.cow x HX.out hu b pa HBN.out, ?_, ?_, ?_⟩, by simp [intOf]; omega⟩
        · have hr := HR5.out
          rw [HT2.out] at hr
          refine Rep.setByte hr ?_ _ (by omega) _
          simp [Mem.setEn, Mem.plus]
        · refine HU5.out.setCell (p := ⟨b, _, none⟩) ?_ _
          rcases HF4.out b (.inr (.inr (.inr (.inl HB4.out)))) with h | h
          · exact .inl h
          · exact .inr h
        · intro y hy
          refine HF4.out y ?_
          have hy' : (((((t.less x.1).plus b (t.pg x.1).data pa).ask b).setEn X ((addr + k) / 16) (b, x.2)).ask b).foot y := hy
          rw [ask_foot] at hy'
          rw [HT2.out]; exact hy'
      · have htM : t.M = s.M := hI.M
        rw [htM] at c4 hMlt
        have hW : Rep (wr.alloc (.cells #[.pointer (some ⟨x.1, 0, none⟩), .int .i64 x.2] 75)) t := hR.alloc _
        have hbnf : ¬ t.foot wr.heap.size := fun hf => by have := hR.foot_lt hf; omega
        have ha : Calls Try.prog 28 #[.pointer (some ⟨s.M, 0, none⟩), .pointer (some ⟨x.1, 0, none⟩)] (wr.alloc (.cells #[.pointer (some ⟨x.1, 0, none⟩), .int .i64 x.2] 75)) fun e w' => e = .returned (.tuple #[]) ∧ Rep w' (t.ask x.1) ∧
            Upd t.foot (wr.alloc (.cells #[.pointer (some ⟨x.1, 0, none⟩), .int .i64 x.2] 75)) w' ∧ w'.cell? ⟨wr.heap.size, 0, none⟩ = some (.pointer (some ⟨x.1, 0, none⟩)) ∧
            (∃ v, w'.cell? ⟨x.1, ((addr + k) % 16).toNat, none⟩ = some v) ∧ w'.frozen? ⟨x.1, ((addr + k) % 16).toNat, none⟩ = false := by
          rw [← htM]
          refine (ask_rep hW hpx (by have := hI.pages; omega) (by rw [hI.frames]; exact hf) (by have := hI.clock0; omega) (by have := hI.clock; omega)).mono ?_
          rintro e w' ⟨rfl, hr, hu⟩
          refine ⟨rfl, hr, hu, ?_, ⟨_, hr.pd (b := x.1) (by simpa using hpx) (i := ((addr + k) % 16).toNat) (by omega)⟩, hr.pf (b := x.1) (by simpa using hpx) _⟩
          rw [World.cell?_of_block (hu.block wr.heap.size (by simp) hbnf)]
          simp
        have HA := Lib.hid ha
        have HTM := Lib.hid htM
        have HRr := Lib.hid hR
        have HU := Lib.hid hU
        have HF := Lib.hid hF
        have HI := Lib.hid hI
        have HLT := Lib.hid hLT
        have HX := Lib.hid hx
        clear htM hR hU hF hI hLT hx ha hW
        go_wp2_with (go_at_call 28; refine HA.out.mono ?_; rintro e w2 ⟨rfl, hr, hu, cb, ⟨vq, cq⟩, fq⟩; have HR2 := Lib.hid hr; have HU2 := Lib.hid hu; clear hr hu)
        refine ⟨⟨k + 1, _, by omega, by go_num, HLT.out.own x HX.out (by omega), HR2.out.setByte (by simpa using hpx) _ (by omega) _, ?_, ?_⟩, by simp [intOf]; omega⟩
        · exact ((HU.out.alloc _).trans HU2.out (fun b hb hf => by rcases HF.out b hf with h | h; exact h; omega)).setCell (by rcases HF.out x.1 (.inr (.inr (.inr (.inl hpx)))) with h | h; exact .inl h; exact .inr h) _
        · intro b hb
          refine HF.out b ?_
          rw [← ask_foot t x.1]; exact hb
    · have HE : Hid (k = n) := (by omega : k = n)
      have HRr := Lib.hid hR
      have HU := Lib.hid hU
      have HF := Lib.hid hF
      have HLT := Lib.hid hLT
      clear hI hR hU hF hLT
      go_wp2_with fail
      go_ret
      refine ⟨rfl, t, ?_, HRr.out, HU.out, HF.out⟩
      rw [← HE.out]; exact HLT.out

set_option maxHeartbeats 2000000 in
set_option maxRecDepth 100000 in
theorem lay_full (R : Rep w s) (E : s.EnOk) (sn addr : Int) (n : Nat) (hw : (Lit.int .i64 sn).wf = true) {X : Nat} (h : s.sp sn = some X) (h1 : 0 ≤ addr) (h2 : 1 ≤ n) (h3 : addr + n ≤ 1024)
    (hen : ∀ j, addr ≤ j → j < addr + n → ∃ x, s.en X (j / 16) = some x) (da : Option Addr) (cap : Nat)
    (hb : s.pages.length ≤ 500) (hf : 1 ≤ s.frames) (hf2 : s.frames ≤ 64) (hs0 : 0 ≤ s.slots) (hs1 : s.slots ≤ 64)
    (hroom : ¬ (s.sharedIn (s.en X) addr n : Int) ≤ s.frames + s.slots - s.pages.length) :
    Calls Try.prog 29 #[.pointer (some ⟨s.M, 0, none⟩), .int .i64 sn, .int .i64 addr, .slice da n cap] w fun e w' => e = .returned (.int .i64 6) ∧ ∃ q, w' = w.drewN q := by
  have hsh := shared_rep R E sn addr n hw h h1 (by omega) h3 hen
  have hrm := room_rep R (by omega) (s.sharedIn (s.en X) addr n) (by omega) hf2 hs0 hs1
  rw [decide_eq_false hroom] at hrm
  have HSh := Lib.hid hsh
  have HRm := Lib.hid hrm
  clear R hen hsh hrm hroom
  go_enter Try.func29, Try.ntmps29
  go_wp2_with (first | (go_at_call 32; refine HSh.out.mono ?_; rintro e w' ⟨rfl, hww⟩; obtain rfl : w = w' := hww.symm) | (go_at_call 17; refine HRm.out.mono ?_; rintro e w' ⟨rfl, q, rfl⟩))
  go_ret
  exact ⟨rfl, _, rfl⟩

set_option maxHeartbeats 2000000 in
set_option maxRecDepth 100000 in
theorem lay_none (R : Rep w s) (sn addr : Int) (h0 : -9223372036854775808 ≤ addr) (h1 : addr ≤ 9223372036854775807) (da : Option Addr) (cap : Nat)
    (hb : s.pages.length ≤ 500) (hf : 1 ≤ s.frames) (hf2 : s.frames ≤ 64) (hs0 : 0 ≤ s.slots) (hs1 : s.slots ≤ 64) (hp : (s.pages.length : Int) ≤ s.frames + s.slots) :
    Calls Try.prog 29 #[.pointer (some ⟨s.M, 0, none⟩), .int .i64 sn, .int .i64 addr, .slice da 0 cap] w fun e w' => e = .returned (.int .i64 0) ∧ ∃ q, w' = w.drewN q := by
  have hsh := shared_zero (w := w) s.M sn addr h0 h1
  have hrm := room_rep R (by omega) 0 (by omega) hf2 hs0 hs1
  rw [decide_eq_true (by omega)] at hrm
  have HSh := Lib.hid hsh
  have HRm := Lib.hid hrm
  clear R hsh hrm
  go_enter Try.func29, Try.ntmps29
  go_wp2_with (first | (go_at_call 32; refine HSh.out.mono ?_; rintro e w' ⟨rfl, hww⟩; obtain rfl : w = w' := hww.symm) | (go_at_call 17; refine HRm.out.mono ?_; rintro e w' ⟨rfl, q, rfl⟩))
  refine wp_loop_rounds 1 ?_
  rw [rounds_succ]
  go_wp2
  go_ret
  exact ⟨rfl, _, rfl⟩
end
end Go.Proofs.Ytnhknnhdeegbdab
