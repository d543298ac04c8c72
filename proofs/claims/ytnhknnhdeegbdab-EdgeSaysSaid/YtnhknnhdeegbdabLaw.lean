/- EdgeSays: the law's walk -/
import Derived.Test.YtnhknnhdeegbdabLawC
import Derived.Test.YtnhknnhdeegbdabTakenAll
import Derived.Test.YtnhknnhdeegbdabSame
import Derived.Test.YtnhknnhdeegbdabSpMake
import Derived.Test.YtnhknnhdeegbdabSpPut
namespace Go.Proofs.Ytnhknnhdeegbdab
open Go.RowKit Go.ChangeMaps

def page0 : List Value := pageVals (fun _ => 0)
theorem page0_len : page0.length = 18 := by simp [page0, pageVals]
theorem infoPage : (Try.prog.info? 48).map (·.size) = some page0.length := by rw [page0_len]; kernel_rfl
theorem page0_agg : (Value.agg #[.bool true, .int .i64 3, .int .u8 0, .int .u8 0, .int .u8 0, .int .u8 0, .int .u8 0, .int .u8 0, .int .u8 0, .int .u8 0, .int .u8 0, .int .u8 0, .int .u8 0, .int .u8 0, .int .u8 0, .int .u8 0, .int .u8 0, .int .u8 0]).cells.toList = page0 := rfl
theorem page0_eq : page0 = pageVals (fun _ => 0) := rfl
theorem setCells_nil (W : World) (b o : Nat) : W.setCells b o [] = W := rfl
theorem pageVals_one : ∀ u ∈ page0, u.oneCell' = true := by
  intro u hu
  simp only [page0, pageVals, List.mem_cons, List.mem_map] at hu
  rcases hu with rfl | rfl | ⟨i, _, rfl⟩ <;> rfl
theorem ManRep.ok {W : World} {m : ManS} (R : ManRep W m) {H off n : Nat} (hH : m.H = H) (h : off + n ≤ 1180) : (∀ j, j < n → (W.cell? ⟨H, off + j, none⟩).isSome = true) ∧ (∀ j, j < n → W.frozen? ⟨H, off + j, none⟩ = false) := by
  subst hH
  exact ⟨fun j hj => by rw [World.rowIs.cell R (i := off + j) (by omega)]; rfl, fun j hj => World.rowIs.frozen R _⟩

theorem BytesAt.take {w : World} {F : Nat → Prop} {da : Option Addr} {data : List UInt8} (h : BytesAt w F da data) (n : Nat) : BytesAt w F da (data.take n) := by
  rcases h with h | ⟨D, off, h1, h2, h3, h4⟩
  · exact .inl (by rw [List.length_take]; omega)
  · refine .inr ⟨D, off, h1, h2, h3, fun j hj => ?_⟩
    rw [List.length_take] at hj
    rw [h4 j (by omega)]
    simp [List.getD, show j < n by omega]
theorem own_cells {W : World} {B : Nat} {v : Value} {f : Nat → Value} (h : W.ownsRow B 5 1 v 64 ((List.range 64).map f)) : ∃ g cap, v = .slice (some ⟨g, 0, none⟩) 64 cap ∧ ∀ j, j < 64 → W.cell? ⟨g, 0 + j, none⟩ = some (f j) := by
  have h' := h
  obtain ⟨_, ⟨rfl, h0⟩ | ⟨g, cap, cur, rfl, _⟩⟩ := h
  · cases h0
  · refine ⟨g, cap, rfl, fun j hj => ?_⟩
    have := World.ownsRow.cells h' (g := g) rfl j (f j) (by simp [hj])
    have e : (⟨g, 0, none⟩ : Addr).add j = ⟨g, 0 + j, none⟩ := by unfold Addr.add; split <;> simp_all
    rw [e] at this
    exact this
@[go_sem] theorem eq8 (a0 a1 a2 a3 a4 a5 a6 a7 : Int) (w : World) : (Op.equalIn 9999 24 (.agg #[.int .u32 a0, .int .u32 a1, .int .u32 a2, .int .u32 a3, .int .u32 a4, .int .u32 a5, .int .u32 a6, .int .u32 a7]) (.agg #[.int .u32 a0, .int .u32 a1, .int .u32 a2, .int .u32 a3, .int .u32 a4, .int .u32 a5, .int .u32 a6, .int .u32 a7])).run Try.prog w = .ok true w := by
  have u3 := Try.underlying23
  have a3 := Try.isAgg23
  have z3 := Try.sizeOf23
  rw [show (9999 : Nat) = 9998 + 1 from rfl, Op.equalIn]
  simp only [Sem.run_bind, run_underlying Try.underlying24, Result.andThen_ok]
  simp only [Std.Legacy.Range.forIn_eq_forIn_range', Std.Legacy.Range.size, Nat.sub_zero, Nat.add_sub_cancel, Nat.div_one, List.range'_succ, List.range'_zero, List.forIn_cons, List.forIn_nil]
  go_simp
theorem chunk {w : World} {D off : Nat} {bytes : List UInt8} (h : ∀ j, j < bytes.length → w.cell? ⟨D, off + j, none⟩ = some (.int .u8 (bytes.getD j 0).toNat)) (k : Nat) (hk : 16 * k < bytes.length) :
    ∃ d : List UInt8, ((if 16 * (k : Int) + 16 < (bytes.length : Int) then 16 * (k : Int) + 16 else (bytes.length : Int)).toNat - 16 * k) = d.length ∧ d.length ≤ 16 ∧ ∀ j, j < d.length → w.cell? ⟨D, off + 16 * k + j, none⟩ = some (.int .u8 (d.getD j 0).toNat) := by
  refine ⟨(bytes.drop (16 * k)).take 16, ?_, ?_, fun j hj => ?_⟩
  · rw [List.length_take, List.length_drop]; split <;> omega
  · rw [List.length_take]; omega
  · rw [List.length_take, List.length_drop] at hj
    rw [Nat.add_assoc, h (16 * k + j) (by omega)]
    congr 4
    simp [List.getD, show j < 16 by omega]
theorem copy_page {W : World} {m : ManS} {H q : Nat} (R : ManRep W m) (hH : m.H = H) (hq : q < 64) (D off : Nat) (data : List UInt8) (hl : data.length ≤ 16) (hne : D ≠ H) (hc : ∀ j, j < data.length → W.cell? ⟨D, off + j, none⟩ = some (.int .u8 (data.getD j 0).toNat)) (cap : Nat) :
    (Builtin.copy_ #[22, 22] 3 #[.slice (some ⟨H, 28 + q * 18 + 2, none⟩) 16 16, .slice (some ⟨D, off, none⟩) data.length cap]).run Try.prog (W.setCells H (28 + q * 18) page0) = .ok (goInt data.length) ((W.setCells H (28 + q * 18) page0).setCells H (28 + q * 18 + 2) (data.map byteV)) := by
  have R2 := R.layCells hq (fun _ => 0)
  rw [← page0_eq, hH] at R2
  have u := upd_setCells H page0 (28 + q * 18) W
  have h := run_copy_cells (P := Try.prog) (W.setCells H (28 + q * 18) page0) 22 22 3 5 H (28 + q * 18 + 2) 16 16 ⟨D, off, none⟩ data.length cap (data.map byteV) uB iU8
    (by rw [List.length_map]; exact (Nat.min_eq_left hl).symm) (fun j v hj => ?_) (fun j hj => (R2.ok (H := H) hH (off := 28 + q * 18 + 2) (n := 16) (by omega)).1 j (by rw [List.length_map] at hj; omega)) (fun j hj => (R2.ok (H := H) hH (off := 28 + q * 18 + 2) (n := 16) (by omega)).2 j (by rw [List.length_map] at hj; omega)) (fun v hv => by obtain ⟨b, _, rfl⟩ := List.mem_map.1 hv; rfl)
  · rw [List.length_map] at h; exact h
  · rw [List.getElem?_map] at hj
    obtain ⟨b, hb, rfl⟩ := Option.map_eq_some_iff.1 hj
    have hjl := (List.getElem?_eq_some_iff.1 hb).1
    have hcj := hc j hjl
    have hbk := u.block D (World.block_lt_of_cell? _ _ hcj) hne
    clear R2 u
    generalize W.setCells H (28 + q * 18) page0 = W2 at *
    have := (World.cell?_of_block hbk).trans hcj
    have e : (⟨D, off, none⟩ : Addr).add j = ⟨D, off + j, none⟩ := by unfold Addr.add; split <;> simp_all
    rw [e, this]
    simp [List.getD, hb, byteV]
section
variable {w : World}
set_option maxHeartbeats 1000000 in
set_option maxRecDepth 100000 in
theorem law_walk (r : Nat → Int) (pc ring : Int) (a : AnsS) (data bytes : List UInt8) (da ba : Option Addr) (cap bcap : Nat) (page : Int) (htx : ∃ x y z, a.text = .slice x y z) (hr0 : ∀ i, 0 ≤ r i) (hr1 : ∀ i, r i < 4294967296) (hbl : bytes.length ≤ bcap) (hdb : BytesAt w (fun _ => False) ba bytes) (hdd : BytesAt w (fun _ => False) da data) (hdl : data.length ≤ cap) (hdc : cap ≤ 9223372036854775807) (hp0 : -9223372036854775808 ≤ page) (hp1 : page ≤ 9223372036854775807) :
    Calls Try.prog 3 #[.slice ba bytes.length bcap, .int .i64 page, regsV r pc ring, ansV a (.slice da data.length cap)] w fun e w' => e = .returned (.bool true) ∧ Upd (fun _ => False) w w' := by
  obtain ⟨aerr, aA, aB, atext, astat⟩ := a
  obtain ⟨tx, ty, tz, rfl⟩ := htx
  simp only [regsV, ansV, ansCells]
  have hnew : ∀ W, Calls Try.prog 4 #[.int .i64 64, .int .i64 0] W fun e w' => e = .returned (.tuple #[.pointer (some ⟨W.heap.size + 1, 0, none⟩), .int .i64 0]) ∧ Rep w' (Mem.fresh (W.heap.size + 1) W.heap.size 64 0) ∧ Upd (fun _ => False) W w' := fun W => new_rep (w := W) 64 0 (by omega) (by omega) (by omega) (by omega)
  have hmake : ∀ (W : World) (M S : Nat), Rep W (Mem.fresh M S 64 0) → Calls Try.prog 5 #[.pointer (some ⟨M, 0, none⟩)] W fun e w' => e = .returned (.tuple #[.int .i64 1, .int .i64 0]) ∧ Rep w' ((Mem.fresh M S 64 0).withSpace 1 W.heap.size) ∧ Upd (Mem.fresh M S 64 0).foot W w' := fun W M S R => make_rep (w := W) R (j := 0) rfl
  have HN := Lib.hid hnew
  have HM := Lib.hid hmake
  have HRE := Lib.hid (rest_rep page hp0 hp1)
  clear hnew hmake
  go_enter Try.func3, Try.ntmps3
  go_upto_block 0 with (first | (refine wpList_allocTo rfl _ rfl _ _ (man_exec _ _ _ _ _ _ _) ?_) | (go_at_call 4; refine (HN.out _).mono ?_; rintro e w1 ⟨rfl, hr1, hu1⟩; simp only [World.size_alloc] at hr1; have HR1 := Lib.hid hr1; have HU1 := Lib.hid hu1; clear hr1 hu1) | (go_at_call 5; refine (HM.out _ _ _ HR1.out).mono ?_; rintro e w2 ⟨rfl, hr2, hu2⟩; have HR2 := Lib.hid hr2; have HU2 := Lib.hid hu2; clear hr2 hu2) | (go_at_call 6; refine (HRE.out _).mono ?_; rintro e w3 ⟨rfl, rfl⟩))
  have hz1 := HR1.out.foot_lt (b := w.heap.size + 1 + 1 + 1) (.inl rfl)
  have hL := LawIn.start (page % 60) HU1.out HR2.out hz1 HU2.out
  clear HU1 HR1 HU2 HR2 hz1 HN HM HRE
  generalize hW : w2.alloc (.cells manZeroC 51) = W0 at *
  clear hW
  generalize (Mem.fresh (w.heap.size + 1 + 1 + 1) (w.heap.size + 1 + 1) 64 0).withSpace 1 w1.heap.size = t0 at *
  generalize manNew w2.heap.size = m0 at *
  generalize w2.heap.size = H at *
  generalize w1.heap.size = X at *
  obtain ⟨hb0, hb1⟩ : 0 ≤ page % 60 ∧ page % 60 < 60 := ⟨by omega, by omega⟩
  generalize page % 60 = p0 at *
  have HL := Lib.hid hL
  clear hL
  go_cut [13, 14, 15] (fun _ _ _ wx => ∃ t m, LawIn w (regCells r pc ring) (ansCells ⟨aerr, aA, aB, .slice tx ty tz, astat⟩ (.slice da data.length cap)) p0 X H 4 t m wx)
  case first =>
    go_wp2_with fail
    go_loopw [13, 14, 15, 47] (fun _ _ _ i wr => ∃ (k : Nat) (t : Mem) (m : ManS), k ≤ 4 ∧ i = .int .i64 k ∧ LawIn w (regCells r pc ring) (ansCells ⟨aerr, aA, aB, .slice tx ty tz, astat⟩ (.slice da data.length cap)) p0 X H k t m wr) (fun _ _ _ i _ => (4 - intOf i).toNat)
    case atStart => exact ⟨0, t0, m0, by omega, rfl, HL.out⟩
    case round =>
      obtain ⟨k, t, m, hk, rfl, hL⟩ := hrel
      by_cases hlt : k < 4
      · by_cases hc : 16 * (k : Int) < bytes.length
        · obtain ⟨D, off, rfl, -, hD, hcell⟩ := hdb.resolve_left (by omega)
          have hw1 : IntKind.i64.wrap (16 * (k : Int)) = 16 * (k : Int) := IntWalk.i64_in _ (by omega)
          have hw2 : IntKind.i64.wrap (p0 + (k : Int)) = p0 + (k : Int) := IntWalk.i64_in _ (by omega)
          have hw3 : IntKind.i64.wrap (16 * (k : Int) + 16) = 16 * (k : Int) + 16 := IntWalk.i64_in _ (by omega)
          have HL2 := Lib.hid hL
          clear hL
          go_upto_region 13 with fail
          obtain ⟨data1, hd1, hd2, hd3⟩ := chunk hcell k (by omega)
          rw [hd1]
          clear hd1
          generalize (if 16 * (k : Int) + 16 < (bytes.length : Int) then 16 * (k : Int) + 16 else (bytes.length : Int)) = q63
          have hne : ∀ x, t.foot x ∨ x = H → x ≠ D := fun x hx e => by rcases hx with h | h; have := (HL2.out.foot x h).1; omega; have := HL2.out.hH; omega
          have hd4 : ∀ j, j < data1.length → wr.cell? ⟨D, off + 16 * k + j, none⟩ = some (.int .u8 (data1.getD j 0).toNat) := fun j hj => (World.cell?_of_block (HL2.out.upd.block D hD (fun h => h))).trans (hd3 j hj)
          have hp := put_ok HL2.out.rep 1 (p0 + (k : Int)) 3 data1 rfl HL2.out.sp (by omega) (by omega) (by omega) (by omega) hd2 (HL2.out.out _ (.inr (Int.le_refl _))) (some ⟨D, off + 16 * k, none⟩) (bcap - 16 * k) (.inr ⟨D, off + 16 * k, rfl, fun h => hne _ (.inl h) rfl, Nat.lt_of_lt_of_le hD HL2.out.upd.size, hd4⟩) (by rw [HL2.out.len]; omega) (by rw [HL2.out.frames]; omega) (by rw [HL2.out.frames]; omega) (by rw [HL2.out.slots]; omega) (by rw [HL2.out.slots]; omega) (by rw [HL2.out.len, HL2.out.frames, HL2.out.slots]; omega) HL2.out.c0 (by have := HL2.out.c1; omega)
          rw [HL2.out.M] at hp
          have HP := Lib.hid hp
          have HD4 := Lib.hid hd4
          have HNE := Lib.hid hne
          have HD2 := Lib.hid hd2
          clear hp hd4 hne hd2 hd3 hcell hdb
          go_wp2_with (first | (go_at_call 7; refine HP.out.mono ?_; rintro e w' ⟨rfl, b, pa, hb, hr, hu, hf⟩; have hm1 : ManRep w' m := HL2.out.man.upd hu (fun e => by rw [HL2.out.mH] at e; exact (HL2.out.foot _ e).2 rfl); have ho := hm1.ok HL2.out.mH (off := 28 + (p0 + (k : Int)).toNat * 18) (n := page0.length) (by rw [page0_len]; omega); have HO := Lib.hid ho; have HM1 := Lib.hid hm1; clear ho hm1) | (refine wpList_store_cells rfl 48 (.tmp 83) (.tmp 81) rfl H (28 + (p0 + (k : Int)).toNat * 18) page0 rfl page0_agg infoPage ?hcc ?hff pageVals_one ?_))
          case hcc => exact HO.out.1
          case hff => exact HO.out.2
          have hcp := copy_page HM1.out HL2.out.mH (q := (p0 + (k : Int)).toNat) (by omega) D (off + 16 * k) data1 HD2.out (fun e => HNE.out _ (.inr rfl) e.symm) (fun j hj => (World.cell?_of_block (hu.block D (Nat.lt_of_lt_of_le hD HL2.out.upd.size) (fun h => HNE.out _ (.inl h) rfl))).trans (HD4.out j hj)) (bcap - 16 * k)
          go_wp2_with fail
          rw [hcp]
          go_wp2_with fail
          have hs := HL2.out.step hb0 (by omega) HD2.out hb hr hu hf
          rw [← page0_eq] at hs
          have HS := Lib.hid hs
          clear hs
          exact ⟨⟨k + 1, _, _, by omega, by go_num, HS.out⟩, by simp [intOf]; omega⟩
        · have hw1 : IntKind.i64.wrap (16 * (k : Int)) = 16 * (k : Int) := IntWalk.i64_in _ (by omega)
          have hw2 : IntKind.i64.wrap (p0 + (k : Int)) = p0 + (k : Int) := IntWalk.i64_in _ (by omega)
          have hp := put_ok hL.rep 1 (p0 + (k : Int)) 3 [] rfl hL.sp (by omega) (by omega) (by omega) (by omega) (by simp) (hL.out _ (.inr (Int.le_refl _))) none 0 (.inl rfl) (by rw [hL.len]; omega) (by rw [hL.frames]; omega) (by rw [hL.frames]; omega) (by rw [hL.slots]; omega) (by rw [hL.slots]; omega) (by rw [hL.len, hL.frames, hL.slots]; omega) hL.c0 (by have := hL.c1; omega)
          rw [hL.M] at hp
          simp only [List.length_nil] at hp
          have HP := Lib.hid hp
          have HL2 := Lib.hid hL
          clear hp hL
          go_wp2_with (first | (go_at_call 7; refine HP.out.mono ?_; rintro e w' ⟨rfl, b, pa, hb, hr, hu, hf⟩; have hm1 : ManRep w' m := HL2.out.man.upd hu (fun e => by rw [HL2.out.mH] at e; exact (HL2.out.foot _ e).2 rfl); have ho := hm1.ok HL2.out.mH (off := 28 + (p0 + (k : Int)).toNat * 18) (n := page0.length) (by rw [page0_len]; omega); have HO := Lib.hid ho; have HM1 := Lib.hid hm1; clear ho hm1) | (refine wpList_store_cells rfl 48 (.tmp 83) (.tmp 81) rfl H (28 + (p0 + (k : Int)).toNat * 18) page0 rfl page0_agg infoPage ?hcc ?hff pageVals_one ?_))
          case hcc => exact HO.out.1
          case hff => exact HO.out.2
          have hcp : ∀ W, (Builtin.copy_ #[22, 22] 3 #[.slice (some ⟨H, 28 + (p0 + (k : Int)).toNat * 18 + 2, none⟩) 16 16, .slice none 0 0]).run Try.prog W = .ok (goInt 0) W := fun W => run_copy_none (P := Try.prog) W _ _ _ 5 _ none 16 16 0 0 uB iU8 rfl
          go_wp2_with fail
          rw [hcp]
          go_wp2_with fail
          have hs := HL2.out.step hb0 (by omega) (data := []) (by simp) hb hr hu hf
          rw [List.map_nil, setCells_nil, ← page0_eq] at hs
          have HS := Lib.hid hs
          clear hs
          exact ⟨⟨k + 1, _, _, by omega, by go_num, HS.out⟩, by simp [intOf]; omega⟩
      · have HE : Hid (k = 4) := (by omega : k = 4)
        have HL2 := Lib.hid hL
        clear hL
        go_wp2_with fail
        go_meet
        exact ⟨t, m, HE.out ▸ HL2.out⟩
  case rest =>
    obtain ⟨t, m, hL⟩ := hcut
    generalize wc = W at *
    obtain ⟨Z, hA⟩ : ∃ Z, LawAt w (regCells r pc ring) (ansCells ⟨aerr, aA, aB, .slice tx ty tz, astat⟩ (.slice da data.length cap)) p0 X H Z 40 t m W := ⟨_, hL.lawAt⟩
    clear hL HL hdb hbl
    obtain ⟨tb0, tb1, tb2⟩ := takeP_ok (t := manText m) (m := m) hr0 hr1
    have ht := hA.textC (by omega) (r 1)
    have hmt : ∀ (K : Int) t' W', LawAt w (regCells r pc ring) (ansCells ⟨aerr, aA, aB, .slice tx ty tz, astat⟩ (.slice da data.length cap)) p0 X H Z K t' m W' → _ := fun K t' W' L => L.manTextC (r 1)
    have htk : ∀ (K : Int) t' W', K ≤ 1000000 → LawAt w (regCells r pc ring) (ansCells ⟨aerr, aA, aB, .slice tx ty tz, astat⟩ (.slice da data.length cap)) p0 X H Z K t' m W' → _ := fun K t' W' hK L => L.takeC hK hr0 hr1 pc ring
    have htn : ∀ (K : Int) t' W', LawAt w (regCells r pc ring) (ansCells ⟨aerr, aA, aB, .slice tx ty tz, astat⟩ (.slice da data.length cap)) p0 X H Z K t' m W' → _ := fun K t' W' L => L.takenC hr0 hr1 pc ring
    generalize takeP (manText m) (manRead m) r = C at *
    generalize manText m (r 1) = TX at *
    obtain ⟨c, ce⟩ := C
    obtain ⟨cnum, cA, cB, cC, cname, cother, cdata⟩ := c
    simp only [regsV, callV, strOf] at htk htn
    simp only [strOf] at ht hmt
    have HT := Lib.hid ht
    clear ht
    have HMT := Lib.hid hmt
    have HTK := Lib.hid htk
    have HTN := Lib.hid htn
    clear hmt htk htn
    obtain ⟨k6, g6⟩ := block_cells hA.q6
    obtain ⟨k7, g7⟩ := block_cells hA.q7
    have HA := Lib.hid hA
    clear hA
    simp only [regCells] at k6
    go_upto_region 20 with (go_at_call 8; refine HT.out.mono ?_; rintro e w1 ⟨rfl, t1, hA1⟩)
    obtain ⟨k6, g6⟩ := block_cells hA1.q6
    simp only [regCells] at k6
    have HA1 := Lib.hid hA1
    clear hA1
    go_upto_region 21 with (go_at_call 9; refine (HMT.out _ _ _ HA1.out).mono ?_; rintro e w2' ⟨rfl, hA2⟩)
    obtain ⟨k6, g6⟩ := block_cells hA2.q6
    simp only [regCells] at k6
    have HA2 := Lib.hid hA2
    clear hA2
    go_upto_region 22 with (go_at_call 10; refine (HTK.out _ _ _ (by omega) HA2.out).mono ?_; rintro e w3' ⟨d1, rfl, hd1, t3, hA3⟩; obtain ⟨da1, dc1, rfl, hd1'⟩ := id hd1; have HD1 := Lib.hid hd1; clear hd1 hd1')
    have hq20 := Go.heap_alloc_new w3' (.cells #[.int .i64 cnum, .int .i64 cA, .int .i64 cB, .int .i64 cC, .string ⟨cname.toArray⟩, .string ⟨cother.toArray⟩, .slice da1 cdata.length dc1] 57)
    have hua : Upd (fun _ => False) w3' (w3'.alloc (.cells #[.int .i64 cnum, .int .i64 cA, .int .i64 cB, .int .i64 cC, .string ⟨cname.toArray⟩, .string ⟨cother.toArray⟩, .slice da1 cdata.length dc1] 57)) := (Upd.refl _ _).alloc _
    have hA4 := hA3.quiet hua
    have hn20 : Z ≤ w3'.heap.size := hA3.size
    have hd1 := HD1.out.upd hua
    clear hua HD1 hA3 HA2
    generalize w3'.alloc (.cells #[.int .i64 cnum, .int .i64 cA, .int .i64 cB, .int .i64 cC, .string ⟨cname.toArray⟩, .string ⟨cother.toArray⟩, .slice da1 cdata.length dc1] 57) = W4 at *
    generalize w3'.heap.size = n20 at *
    obtain ⟨k6, g6⟩ := block_cells hA4.q6
    simp only [regCells] at k6
    have HA4 := Lib.hid hA4
    have HQ20 := Lib.hid hq20
    have HD1 := Lib.hid hd1
    clear hA4 hq20 hd1
    go_upto_region 23 with (go_at_call 11; refine (HTN.out _ _ _ HA4.out).mono ?_; rintro e w5 ⟨d2, rfl, hd2, hu5, hA5⟩; obtain ⟨da2, dc2, rfl, hd2'⟩ := id hd2; have HD2 := Lib.hid hd2; clear hd2 hd2')
    have hua : Upd (fun _ => False) w5 (w5.alloc (.cells #[.int .i64 cnum, .int .i64 cA, .int .i64 cB, .int .i64 cC, .string ⟨cname.toArray⟩, .string ⟨cother.toArray⟩, .slice da2 cdata.length dc2] 57)) := (Upd.refl _ _).alloc _
    have hq20 := (hua.block _ (Array.getElem?_eq_some_iff.1 ((hu5.block _ (Array.getElem?_eq_some_iff.1 HQ20.out).1 (fun h => h)).trans HQ20.out)).1 (fun h => h)).trans ((hu5.block _ (Array.getElem?_eq_some_iff.1 HQ20.out).1 (fun h => h)).trans HQ20.out)
    have hq22 := Go.heap_alloc_new w5 (.cells #[.int .i64 cnum, .int .i64 cA, .int .i64 cB, .int .i64 cC, .string ⟨cname.toArray⟩, .string ⟨cother.toArray⟩, .slice da2 cdata.length dc2] 57)
    have hA6 := hA5.quiet hua
    have hn22 : Z ≤ w5.heap.size := hA5.size
    have hd1 := (HD1.out.upd hu5).upd hua
    have hd2 := HD2.out.upd hua
    clear hua HD1 HD2 hA5 HA4 hu5 HQ20
    generalize w5.alloc (.cells #[.int .i64 cnum, .int .i64 cA, .int .i64 cB, .int .i64 cC, .string ⟨cname.toArray⟩, .string ⟨cother.toArray⟩, .slice da2 cdata.length dc2] 57) = W6 at *
    generalize w5.heap.size = n22 at *
    have hsame := same_rep (w := W6) ⟨cnum, cA, cB, cC, cname, cother, cdata⟩ _ _ hd1 hd2 (Nat.le_trans tb2 (by omega))
    simp only [callV, strOf] at hsame
    obtain ⟨k20, g20⟩ := block_cells hq20
    obtain ⟨k22, g22⟩ := block_cells hq22
    have HSM := Lib.hid hsame
    have HA6 := Lib.hid hA6
    have HQ20 := Lib.hid hq20
    have HQ22 := Lib.hid hq22
    clear hsame hA6 hq20 hq22 hd1 hd2 k6 g6
    go_upto_region 25 with (go_at_call 12; refine HSM.out.mono ?_; rintro e w7 ⟨rfl, hu7⟩)
    have hA7 := HA6.out.quiet hu7
    have hq20 := (hu7.block _ (Array.getElem?_eq_some_iff.1 HQ20.out).1 (fun h => h)).trans HQ20.out
    have hq22 := (hu7.block _ (Array.getElem?_eq_some_iff.1 HQ22.out).1 (fun h => h)).trans HQ22.out
    clear HA6 HQ20 HQ22 hu7 k20 g20 k22 g22 k7 g7
    obtain ⟨k7, g7⟩ := block_cells hA7.q7
    have HQ7 := Lib.hid hA7.q7
    simp only [ansCells] at k7
    have HA7 := Lib.hid hA7
    have HQ20 := Lib.hid hq20
    have HQ22 := Lib.hid hq22
    clear hA7 hq20 hq22
    go_upto_if 144 with fail
    go_cut [24] (fun _ wx => wx.heap[w.heap.size + 1]? = some (.cells (ansCells ⟨aerr, aA, aB, .slice tx ty tz, astat⟩ (.slice da (data.take 256).length cap)) 32 (0, 0)) ∧ Upd (fun x => x = w.heap.size + 1) w7 wx)
    case first =>
      by_cases hc : (256 : Int) < (data.length : Int)
      · obtain ⟨D, off, rfl, -, hD, hcell⟩ := hdd.resolve_left (by omega)
        have hcap : (256 : Int) ≤ (cap : Int) := by omega
        go_wp2_with fail
        go_meet
        refine ⟨?_, (Upd.refl (fun x => x = w.heap.size + 1) w7).setCell (.inl rfl) _⟩
        rw [List.length_take, show min 256 data.length = 256 by omega]
        exact Go.heap_setCell_same _ _ _ _ _ _ HQ7.out
      · go_wp2_with fail
        go_meet
        refine ⟨?_, Upd.refl _ _⟩
        rw [List.length_take, show min 256 data.length = data.length by omega]
        exact HQ7.out
    case rest =>
      obtain ⟨hq7, hu⟩ := hcut
      have hA8 := HA7.out.box hu hq7
      have hq20 := (hu.block _ (Array.getElem?_eq_some_iff.1 HQ20.out).1 (by have := HA7.out.hH; omega)).trans HQ20.out
      have hq22 := (hu.block _ (Array.getElem?_eq_some_iff.1 HQ22.out).1 (by have := HA7.out.hH; omega)).trans HQ22.out
      have hdt : BytesAt w (fun _ => False) da (data.take 256) := hdd.take 256
      have hlt : (data.take 256).length ≤ 256 := by rw [List.length_take]; omega
      clear HA7 HQ20 HQ22 HQ7 k7 g7 hu hq7 hdd hdl
      generalize data.take 256 = dat at *
      generalize wc = W8 at *
      have hgive := hA8.giveC (by omega) r pc ring ⟨cnum, cA, cB, cC, cname, cother, cdata⟩ (.slice da1 cdata.length dc1) ⟨aerr, aA, aB, .slice tx ty tz, astat⟩ dat da cap ⟨_, _, _, rfl⟩ ⟨_, _, _, rfl⟩ tb0 tb1 hlt hdt
      simp only [regsV, callV, ansV, ansCells, strOf] at hgive
      obtain ⟨k6, g6⟩ := block_cells hA8.q6
      obtain ⟨k7, g7⟩ := block_cells hA8.q7
      obtain ⟨k20, g20⟩ := block_cells hq20
      simp only [ansCells] at k7
      simp only [regCells] at k6
      have HA8 := Lib.hid hA8
      have HQ22 := Lib.hid hq22
      have HG := Lib.hid hgive
      clear hA8 hq20 hq22 hgive
      go_upto_region 28 with (go_at_call 13; refine HG.out.mono ?_; rintro e w9 ⟨A, err, B, t9, rfl, hG9⟩)
      have hua : Upd (fun _ => False) w9 (w9.alloc (.cells (regCells (giveRegs r A err B) pc ring) 26)) := (Upd.refl _ _).alloc _
      have hG := hG9.quiet hua
      have hq6 := hG.keep (.inl (by omega)) HA8.out.q6
      have hq7 := hG.keep (.inl (by omega)) HA8.out.q7
      have hq22 := hG.keep (.inr hn22) HQ22.out
      have hq24 := Go.heap_alloc_new w9 (.cells (regCells (giveRegs r A err B) pc ring) 26)
      have hn24 : Z ≤ w9.heap.size := hG9.size
      change Code.wp _ _ _ _ (w9.alloc (.cells (regCells (giveRegs r A err B) pc ring) 26))
      clear hua hG9 HQ22 k6 g6 k7 g7 k20 g20
      generalize w9.alloc (.cells (regCells (giveRegs r A err B) pc ring) 26) = W10 at *
      generalize w9.heap.size = n24 at *
      have hgiven := hG.givenC (by omega) r pc ring (.slice da2 cdata.length dc2) da cap ⟨_, _, _, rfl⟩ ⟨_, _, _, rfl⟩ tb0 tb1 hlt hdt
      simp only [regsV, callV, ansV, ansCells, strOf] at hgiven
      obtain ⟨k6, g6⟩ := block_cells hq6
      obtain ⟨k7, g7⟩ := block_cells hq7
      obtain ⟨k22, g22⟩ := block_cells hq22
      simp only [ansCells] at k7
      simp only [regCells] at k6
      have HQ24 := Lib.hid hq24
      have HGV := Lib.hid hgiven
      clear hgiven hq6 hq7 hq22 hq24
      go_upto_region 29 with (go_at_call 14; refine HGV.out.mono ?_; rintro e w11 ⟨rfl, hu11, m11, hA11⟩)
      have hua : Upd (fun _ => False) w11 (w11.alloc (.cells (regCells (giveRegs r A err B) pc ring) 26)) := (Upd.refl _ _).alloc _
      have hA12 := hA11.quiet hua
      have hq24 := (hu11.block _ (Array.getElem?_eq_some_iff.1 HQ24.out).1 (by have := hA11.hH; omega)).trans HQ24.out
      have hq24 := (hua.block _ (Array.getElem?_eq_some_iff.1 hq24).1 (fun h => h)).trans hq24
      have hq25 := Go.heap_alloc_new w11 (.cells (regCells (giveRegs r A err B) pc ring) 26)
      have hn25 : Z ≤ w11.heap.size := hA11.size
      change Code.wp _ _ _ _ (w11.alloc (.cells (regCells (giveRegs r A err B) pc ring) 26))
      clear hua hA11 HQ24 k6 g6 k7 g7 k22 g22 hu11 hG
      generalize w11.alloc (.cells (regCells (giveRegs r A err B) pc ring) 26) = W12 at *
      generalize w11.heap.size = n25 at *
      have HRD := Lib.hid (hA12.readC (by omega) hb0 hb1)
      have HA12 := Lib.hid hA12
      have HQ24 := Lib.hid hq24
      have HQ25 := Lib.hid hq25
      have hw16 : IntKind.i64.wrap (16 * p0) = 16 * p0 := IntWalk.i64_in _ (by omega)
      clear hA12 hq24 hq25
      go_upto_region 30 with (go_at_call 15; refine HRD.out.mono ?_; rintro e w13 ⟨v, rfl, ho, hm13, hu13⟩)
      have hq24 := HA12.out.keep hu13 (fun _ h => .inl h) hn24 HQ24.out
      have hq25 := HA12.out.keep hu13 (fun _ h => .inl h) hn25 HQ25.out
      have hmH := HA12.out.mH
      have HUP := Lib.hid (HA12.out.upd.trans hu13 (fun x hx h => by have := (HA12.out.foot x h).1; omega))
      clear HA12 HRD HQ24 HQ25 hu13
      obtain ⟨k24, g24⟩ := block_cells hq24
      obtain ⟨k25, g25⟩ := block_cells hq25
      simp only [regCells] at k24 k25
      clear hq24 hq25
      obtain ⟨g, vcap, rfl, hcells⟩ := own_cells ho
      clear ho
      have HC := Lib.hid hcells
      have HM := Lib.hid hm13
      clear hcells hm13
      go_upto_region 32 with fail
      clear k24 g24 k25 g25
      go_wp2_with fail
      go_loopw [28, 29, 176] (fun _ _ i wr => ∃ k : Nat, k ≤ 64 ∧ i = .int .i64 k ∧ wr = w13) (fun _ _ i _ => (64 - intOf i).toNat)
      case atStart => exact ⟨0, by omega, rfl, rfl⟩
      case round =>
        obtain ⟨k, hk, rfl, rfl⟩ := hrel
        by_cases hlt : k < 64
        · have c1 := HC.out k hlt
          have c2 := HM.out.byte (q := (p0 + (k : Int) / 16).toNat) (i := k % 16) (by omega) (by omega)
          rw [hmH] at c2
          rw [show p0.toNat + k / 16 = (p0 + (k : Int) / 16).toNat by omega] at c1
          generalize m11.byte (p0 + (k : Int) / 16).toNat (k % 16) = bb at *
          simp only [byteV, Nat.zero_add] at c1
          go_wp2_with fail
          exact ⟨⟨k + 1, by omega, by go_num, trivial⟩, by simp [intOf]; omega⟩
        · have HE : Hid (k = 64) := (by omega : k = 64)
          go_wp2_with fail
          go_ret
          exact ⟨rfl, HUP.out⟩
end
end Go.Proofs.Ytnhknnhdeegbdab
