/- a law that leaves all that was there as it was: what its row asks behind the walk; structs of the arguments, opened -/
import Derived.Test.YtnhknnhdeegbdabRows
import Derived.ProofKit
import Derived.OpenShut
import Derived.JoinedCond
import Derived.Below
import Derived.Carry
import Derived.Test.YtnhknnhdeegbdabTakeS
import Derived.Test.YtnhknnhdeegbdabGive
namespace Go.Proofs.Ytnhknnhdeegbdab
open Go.ChangeShapes Go.WideShapes Go.ChangeAt Go.RowKit

section
variable {H : Type} {enc : TypeId × Value → H} {P : Program}
theorem trodAll_stays (hl : laidOutB P = true) {W W' : World} {sp' : Nat → Bool} : ∀ {ts : List TypeId} {vs : List Value} {ds : List (DataW H)} {ps : List MemPlace},
    (ts.all fun t => P.readableRec t && decide (t < P.types.size)) = true → DataW.TrodAll enc P W 0 (fun _ => true) true ts vs ds ps → (∀ p ∈ ps, W.sameAt W' p) → (∀ p ∈ ps, sp' p.block = true) → DataW.TrodAll enc P W' 0 sp' true ts vs ds ps
  | [], [], [], _, _, h, _, _ => h
  | t :: _, _ :: _, _ :: _, _, ht, ⟨p, q, h1, h2, e⟩, hs, hp => by
    rw [List.all_cons, Bool.and_eq_true, Bool.and_eq_true, decide_eq_true_eq] at ht
    exact ⟨p, q, WideElems.Trod_stays hl ht.1.1 ht.1.2 h1 (fun x hx => hs x (by rw [e]; exact List.mem_append_left _ hx)) (fun x hx => hp x (by rw [e]; exact List.mem_append_left _ hx)),
      trodAll_stays hl ht.2 h2 (fun x hx => hs x (by rw [e]; exact List.mem_append_right _ hx)) (fun x hx => hp x (by rw [e]; exact List.mem_append_right _ hx)), e⟩

/-- a law's row, behind its walk -/
theorem post_law {f : Func} {s : ChangeSpec} {apart fresh handsOn again : Bool} {W W' : World} {args : Array Value} {ds gs : List (DataW H)} {before : List MemPlace} {tb : TypeId}
    (hl : laidOutB P = true) (hpar : (f.params.toList.all fun t => P.readableRec t && decide (t < P.types.size)) = true) (hvars : s.vars = []) (hr : f.resultTypes = #[tb]) (hbt : P.underlying tb = some .bool)
    (hW : DataW.Whole enc P f.params.toList s.vars apart W args.toList ds gs before)
    (hfn : (s.fn H (ds ++ gs)).results = [.lit (.bool true)] ∧ (s.fn H (ds ++ gs)).args = ds ∧ (s.fn H (ds ++ gs)).vars = []) (hb : Below W.heap.size W W') :
    s.post enc P f apart fresh handsOn again W args (.bool true) W' := by
  have hlt := hW.lt
  have hW' := hW
  obtain ⟨pa, pv, hA, hV, hps, hz, hn⟩ := hW
  rw [hvars] at hV
  obtain ⟨rfl, rfl⟩ := trodVars_none hV
  rw [List.append_nil] at hps
  subst hps
  obtain ⟨e1, e2, e3⟩ := hfn
  have hres : ∀ (b : Nat) (sp : Nat → Bool) (hd : Bool), DataW.TrodAll enc P W' b sp hd f.resultTypes.toList ((Value.bool true).resultList f.resultTypes.size) (s.fn H (ds ++ [])).results [] := fun b sp hd => by
    rw [hr, e1]; exact trodAll_mk1 (shut_bool hbt _)
  have hargs : ∀ sp : Nat → Bool, (∀ p ∈ before, sp p.block = true) → DataW.TrodAll enc P W' 0 sp true f.params.toList args.toList (s.fn H (ds ++ [])).args before := fun sp hsp => by
    rw [e2]; exact trodAll_stays hl hpar hA (fun p hp => hb.same (hlt p hp)) hsp
  have hvs : ∀ sp : Nat → Bool, DataW.TrodVars enc P W' sp s.vars (s.fn H (ds ++ [])).vars [] := fun sp => by rw [hvars, e3]; rfl
  have hold : ∀ p ∈ before, (fun b => decide (b < W.heap.size)) p.block = true := fun p hp => by simpa using hlt p hp
  refine ⟨ds, [], before, [], before, [], hW', hres _ _ _, hargs _ hold, hvs _, hb.frame _, fun _ => ?_⟩
  refine ⟨ok_one hr rfl (okWide_bool_mk hbt _), _, _, ([] ++ before) ++ [], ⟨[] ++ before, [], trodAll_append (hargs _ (fun _ _ => rfl)) (hres _ _ _), hvs _, rfl, ?_, ?_⟩, ?_⟩
  · intro b off hp
    have hp' : MemPlace.cell b off ∈ before := by simpa using hp
    rw [hb.frozen (p := ⟨b, off, none⟩) (hlt _ hp')]
    exact hz b off hp'
  · intro ha
    simpa using hn ha
  · intro p hp _
    simpa using hp
end

section
variable {H : Type} {enc : TypeId × Value → H} {W : World} {base : Nat} {sp : Nat → Bool} {hd : Bool} {v : Value} {d : DataW H} {ps : List MemPlace}
theorem len8 {l : List Value} (h : l.length = 8) : ∃ a0 a1 a2 a3 a4 a5 a6 a7, l = [a0, a1, a2, a3, a4, a5, a6, a7] := by
  match l, h with
  | [a0, a1, a2, a3, a4, a5, a6, a7], _ => exact ⟨_, _, _, _, _, _, _, _, rfl⟩
theorem len10 {l : List Value} (h : l.length = 10) : ∃ a0 a1 a2 a3 a4 a5 a6 a7 a8 a9, l = [a0, a1, a2, a3, a4, a5, a6, a7, a8, a9] := by
  match l, h with
  | [a0, a1, a2, a3, a4, a5, a6, a7, a8, a9], _ => exact ⟨_, _, _, _, _, _, _, _, _, _, rfl⟩
theorem len11 {l : List Value} (h : l.length = 11) : ∃ a0 a1 a2 a3 a4 a5 a6 a7 a8 a9 a10, l = [a0, a1, a2, a3, a4, a5, a6, a7, a8, a9, a10] := by
  match l, h with
  | [a0, a1, a2, a3, a4, a5, a6, a7, a8, a9, a10], _ => exact ⟨_, _, _, _, _, _, _, _, _, _, _, rfl⟩

theorem some_of {α : Type} {xs : List α} {n i : Nat} (h : xs.length = n) (hi : i < n) : ∃ y, xs[i]? = some y := ⟨xs[i]'(by omega), List.getElem?_eq_getElem (by omega)⟩

/-- an int out of one cell -/
theorem cell_int {n : Nat} {t : TypeId} {k : IntKind} {x : Value} {y : DataW H × List MemPlace} (ht : Try.prog.underlying t = some (.int k)) (h : DataW.trod enc Try.prog W base sp hd n t [x] = some y) : ∃ m, x = .int k m ∧ (Lit.int k m).wf = true := by
  obtain ⟨m, hm, _, hw⟩ := DataW.trod_int ht h
  exact ⟨m, by simpa using hm, hw⟩

theorem c24 : Try.prog.cellsOf 24 = 8 := by kernel_rfl
theorem c23 : Try.prog.cellsOf 23 = 1 := by kernel_rfl
theorem c3 : Try.prog.cellsOf 3 = 1 := by kernel_rfl
theorem c27 : Try.prog.cellsOf 27 = 1 := by kernel_rfl
theorem c22 : Try.prog.cellsOf 22 = 1 := by kernel_rfl
theorem c28 : Try.prog.cellsOf 28 = 1 := by kernel_rfl
theorem c30 : Try.prog.cellsOf 30 = 6 := by kernel_rfl
theorem c26 : Try.prog.cellsOf 26 = 10 := by kernel_rfl
theorem c32 : Try.prog.cellsOf 32 = 11 := by kernel_rfl

theorem open_regs (h : DataW.Trod enc Try.prog W base sp hd 26 v d ps) (hv : ∃ cs, v = .agg cs) : ∃ (r : Nat → Int) (pc ring : Int), v = regsV r pc ring ∧ (∀ i, 0 ≤ r i) ∧ (∀ i, r i < 4294967296) := by
  obtain ⟨cs, rfl⟩ := hv
  obtain ⟨fuel, hf⟩ := h
  obtain ⟨xs, n, rfl, -, hl, hxl, hfd⟩ := DataW.trod_struct Try.underlying26 hf
  obtain ⟨l, rfl⟩ : ∃ l : List Value, cs = l.toArray := ⟨cs.toList, by simp⟩
  simp only [Value.cells] at hl hfd
  rw [c26] at hl
  obtain ⟨a0, a1, a2, a3, a4, a5, a6, a7, a8, a9, rfl⟩ := len10 hl
  obtain ⟨y0, hy0⟩ := some_of hxl (i := 0) (by decide)
  obtain ⟨y1, hy1⟩ := some_of hxl (i := 1) (by decide)
  obtain ⟨y2, hy2⟩ := some_of hxl (i := 2) (by decide)
  have h0 : DataW.trod enc Try.prog W base sp hd n 24 (([a0, a1, a2, a3, a4, a5, a6, a7, a8, a9].toArray.toList.drop 0).take (Try.prog.cellsOf 24)) = some y0 := (hfd 0 _ rfl).trans hy0
  have h1 : DataW.trod enc Try.prog W base sp hd n 23 (([a0, a1, a2, a3, a4, a5, a6, a7, a8, a9].toArray.toList.drop 8).take (Try.prog.cellsOf 23)) = some y1 := (hfd 1 _ rfl).trans hy1
  have h2 : DataW.trod enc Try.prog W base sp hd n 3 (([a0, a1, a2, a3, a4, a5, a6, a7, a8, a9].toArray.toList.drop 9).take (Try.prog.cellsOf 3)) = some y2 := (hfd 2 _ rfl).trans hy2
  rw [c24] at h0
  rw [c23] at h1
  rw [c3] at h2
  obtain ⟨pc, hpc, _⟩ := cell_int Try.underlying23 (by simpa using h1)
  obtain ⟨ring, hring, _⟩ := cell_int Try.underlying3 (by simpa using h2)
  obtain ⟨zs, q, rfl, -, -, hzl, he⟩ := DataW.trod_array Try.underlying24 h0
  have hc : ∀ i, i < 8 → ∃ m, [a0, a1, a2, a3, a4, a5, a6, a7][i]? = some (.int .u32 m) ∧ (Lit.int .u32 m).wf = true := by
    intro i hi
    obtain ⟨z, hz⟩ := some_of hzl hi
    have h := (he i hi).trans hz
    rw [c23] at h
    obtain ⟨x, hx⟩ := some_of (xs := [a0, a1, a2, a3, a4, a5, a6, a7]) (n := 8) rfl hi
    have hone : ((([a0, a1, a2, a3, a4, a5, a6, a7, a8, a9].toArray.toList.drop 0).take 8).drop (i * 1)).take 1 = [x] := by
      match i, hi with
      | 0, _ | 1, _ | 2, _ | 3, _ | 4, _ | 5, _ | 6, _ | 7, _ => simpa using hx
    rw [hone] at h
    obtain ⟨m, hm, hw⟩ := cell_int Try.underlying23 h
    exact ⟨m, by rw [hx, hm], hw⟩
  obtain ⟨m0, e0, w0⟩ := hc 0 (by decide)
  obtain ⟨m1, e1, w1⟩ := hc 1 (by decide)
  obtain ⟨m2, e2, w2⟩ := hc 2 (by decide)
  obtain ⟨m3, e3, w3⟩ := hc 3 (by decide)
  obtain ⟨m4, e4, w4⟩ := hc 4 (by decide)
  obtain ⟨m5, e5, w5⟩ := hc 5 (by decide)
  obtain ⟨m6, e6, w6⟩ := hc 6 (by decide)
  obtain ⟨m7, e7, w7⟩ := hc 7 (by decide)
  cases e0; cases e1; cases e2; cases e3; cases e4; cases e5; cases e6; cases e7
  subst hpc
  subst hring
  refine ⟨fun i => [m0, m1, m2, m3, m4, m5, m6, m7].getD i 0, pc, ring, rfl, fun i => ?_, fun i => ?_⟩ <;>
  · have b0 := bounds_u32 w0; have b1 := bounds_u32 w1; have b2 := bounds_u32 w2; have b3 := bounds_u32 w3; have b4 := bounds_u32 w4; have b5 := bounds_u32 w5; have b6 := bounds_u32 w6; have b7 := bounds_u32 w7
    match i with
    | 0 | 1 | 2 | 3 | 4 | 5 | 6 | 7 => simp; omega
    | _ + 8 => simp

/-- a slice of bytes in one cell -/
theorem cell_bytes {n : Nat} {x : Value} {y : DataW H × List MemPlace} (h : DataW.trod enc Try.prog W base (fun _ => true) hd n 22 [x] = some y) : ∃ (a : Option Addr) (data : List UInt8) (cap : Nat), x = .slice a data.length cap ∧ data.length ≤ cap ∧ cap ≤ maxLen ∧ BytesAt W (fun _ => False) a data := by
  rcases open_ints uB u8u (by kernel_rfl) h with ⟨hx, _⟩ | ⟨a, len, cap, zs, hx, _, hl, hm, hzl, _, hc, hw⟩
  · obtain rfl : x = .slice none 0 0 := by simpa using hx
    exact ⟨none, [], 0, rfl, Nat.le_refl _, Nat.zero_le _, .inl rfl⟩
  · obtain rfl : x = .slice (some a) len cap := by simpa using hx
    have hzl : zs.length = cap := by simpa using hzl
    refine ⟨some a, (zs.take len).map fun n => UInt8.ofNat n.toNat, cap, by simp [show min len zs.length = len by omega], by simp; omega, hm, ?_⟩
    have hlen : ((zs.take len).map fun n => UInt8.ofNat n.toNat).length = len := by simp; omega
    by_cases h0 : len = 0
    · exact .inl (by rw [hlen]; exact h0)
    · obtain ⟨b, off, rfl, hcc⟩ := ints_at hc (by omega)
      have hlt := World.block_lt_of_cell? _ _ (hcc 0 (by omega))
      refine .inr ⟨b, off, rfl, fun h => h, hlt, fun j hj => ?_⟩
      rw [hlen] at hj
      rw [hcc j (by omega)]
      have hz : zs[j]? = some (zs.getD j 0) := by simp [List.getD, show j < zs.length by omega]
      have hb := bounds_u8 (hw _ (List.mem_of_getElem? hz))
      have e : ((zs.take len).map fun n => UInt8.ofNat n.toNat).getD j 0 = UInt8.ofNat (zs.getD j 0).toNat := by
        simp only [List.getD, List.getElem?_map, List.getElem?_take, if_pos hj]
        simp [show j < zs.length by omega]
      rw [e]
      congr 2
      rw [UInt8.toNat_ofNat']
      omega
theorem open_answer (h : DataW.Trod enc Try.prog W base (fun _ => true) hd 32 v d ps) (hv : ∃ cs, v = .agg cs) : ∃ (a : AnsS) (da : Option Addr) (data : List UInt8) (cap : Nat), v = ansV a (.slice da data.length cap) ∧ (∃ x y z, a.text = .slice x y z) ∧ data.length ≤ cap ∧ cap ≤ maxLen ∧ BytesAt W (fun _ => False) da data := by
  obtain ⟨cs, rfl⟩ := hv
  obtain ⟨fuel, hf⟩ := h
  obtain ⟨xs, n, rfl, -, hl, hxl, hfd⟩ := DataW.trod_struct Try.underlying32 hf
  obtain ⟨l, rfl⟩ : ∃ l : List Value, cs = l.toArray := ⟨cs.toList, by simp⟩
  simp only [Value.cells] at hl hfd
  rw [c32] at hl
  obtain ⟨a0, a1, a2, a3, a4, a5, a6, a7, a8, a9, a10, rfl⟩ := len11 hl
  obtain ⟨y0, hy0⟩ := some_of hxl (i := 0) (by decide)
  have h0 : DataW.trod enc Try.prog W base (fun _ => true) hd n 27 (([a0, a1, a2, a3, a4, a5, a6, a7, a8, a9, a10].toArray.toList.drop 0).take (Try.prog.cellsOf 27)) = some y0 := (hfd 0 _ rfl).trans hy0
  obtain ⟨y1, hy1⟩ := some_of hxl (i := 1) (by decide)
  have h1 : DataW.trod enc Try.prog W base (fun _ => true) hd n 3 (([a0, a1, a2, a3, a4, a5, a6, a7, a8, a9, a10].toArray.toList.drop 1).take (Try.prog.cellsOf 3)) = some y1 := (hfd 1 _ rfl).trans hy1
  obtain ⟨y2, hy2⟩ := some_of hxl (i := 2) (by decide)
  have h2 : DataW.trod enc Try.prog W base (fun _ => true) hd n 3 (([a0, a1, a2, a3, a4, a5, a6, a7, a8, a9, a10].toArray.toList.drop 2).take (Try.prog.cellsOf 3)) = some y2 := (hfd 2 _ rfl).trans hy2
  obtain ⟨y3, hy3⟩ := some_of hxl (i := 3) (by decide)
  have h3 : DataW.trod enc Try.prog W base (fun _ => true) hd n 22 (([a0, a1, a2, a3, a4, a5, a6, a7, a8, a9, a10].toArray.toList.drop 3).take (Try.prog.cellsOf 22)) = some y3 := (hfd 3 _ rfl).trans hy3
  obtain ⟨y4, hy4⟩ := some_of hxl (i := 4) (by decide)
  have h4 : DataW.trod enc Try.prog W base (fun _ => true) hd n 28 (([a0, a1, a2, a3, a4, a5, a6, a7, a8, a9, a10].toArray.toList.drop 4).take (Try.prog.cellsOf 28)) = some y4 := (hfd 4 _ rfl).trans hy4
  obtain ⟨y5, hy5⟩ := some_of hxl (i := 5) (by decide)
  have h5 : DataW.trod enc Try.prog W base (fun _ => true) hd n 30 (([a0, a1, a2, a3, a4, a5, a6, a7, a8, a9, a10].toArray.toList.drop 5).take (Try.prog.cellsOf 30)) = some y5 := (hfd 5 _ rfl).trans hy5
  rw [c27] at h0
  rw [c3] at h1 h2
  rw [c22] at h3
  rw [c28] at h4
  rw [c30] at h5
  obtain ⟨zs, q, rfl, -, -, hzl, he⟩ := DataW.trod_struct Try.underlying30 h5
  obtain ⟨z0, hz0⟩ := some_of hzl (i := 0) (by decide)
  have s0 : DataW.trod enc Try.prog W base (fun _ => true) hd q 3 ((((([a0, a1, a2, a3, a4, a5, a6, a7, a8, a9, a10].toArray.toList.drop 5).take 6)).drop 0).take (Try.prog.cellsOf 3)) = some z0 := (he 0 _ rfl).trans hz0
  rw [c3] at s0
  obtain ⟨z1, hz1⟩ := some_of hzl (i := 1) (by decide)
  have s1 : DataW.trod enc Try.prog W base (fun _ => true) hd q 3 ((((([a0, a1, a2, a3, a4, a5, a6, a7, a8, a9, a10].toArray.toList.drop 5).take 6)).drop 1).take (Try.prog.cellsOf 3)) = some z1 := (he 1 _ rfl).trans hz1
  rw [c3] at s1
  obtain ⟨z2, hz2⟩ := some_of hzl (i := 2) (by decide)
  have s2 : DataW.trod enc Try.prog W base (fun _ => true) hd q 3 ((((([a0, a1, a2, a3, a4, a5, a6, a7, a8, a9, a10].toArray.toList.drop 5).take 6)).drop 2).take (Try.prog.cellsOf 3)) = some z2 := (he 2 _ rfl).trans hz2
  rw [c3] at s2
  obtain ⟨z3, hz3⟩ := some_of hzl (i := 3) (by decide)
  have s3 : DataW.trod enc Try.prog W base (fun _ => true) hd q 3 ((((([a0, a1, a2, a3, a4, a5, a6, a7, a8, a9, a10].toArray.toList.drop 5).take 6)).drop 3).take (Try.prog.cellsOf 3)) = some z3 := (he 3 _ rfl).trans hz3
  rw [c3] at s3
  obtain ⟨z4, hz4⟩ := some_of hzl (i := 4) (by decide)
  have s4 : DataW.trod enc Try.prog W base (fun _ => true) hd q 3 ((((([a0, a1, a2, a3, a4, a5, a6, a7, a8, a9, a10].toArray.toList.drop 5).take 6)).drop 4).take (Try.prog.cellsOf 3)) = some z4 := (he 4 _ rfl).trans hz4
  rw [c3] at s4
  obtain ⟨z5, hz5⟩ := some_of hzl (i := 5) (by decide)
  have s5 : DataW.trod enc Try.prog W base (fun _ => true) hd q 3 ((((([a0, a1, a2, a3, a4, a5, a6, a7, a8, a9, a10].toArray.toList.drop 5).take 6)).drop 5).take (Try.prog.cellsOf 3)) = some z5 := (he 5 _ rfl).trans hz5
  rw [c3] at s5
  obtain ⟨err, rfl, _⟩ := cell_int Try.underlying27 (by simpa using h0)
  obtain ⟨A, rfl, _⟩ := cell_int Try.underlying3 (by simpa using h1)
  obtain ⟨B, rfl, _⟩ := cell_int Try.underlying3 (by simpa using h2)
  obtain ⟨da, data, cap, rfl, hd1, hd2, hd3⟩ := cell_bytes (by simpa using h3)
  obtain ⟨tx, ty, tz, rfl⟩ : ∃ x y z, a4 = .slice x y z := by
    have h4' : DataW.trod enc Try.prog W base (fun _ => true) hd (q + 1) 28 [a4] = some y4 := by simpa using h4
    rcases DataW.trod_slice Try.underlying28 h4' with ⟨hx, _⟩ | ⟨a, len, cap', elems, rest, m, _, hx, _⟩
    · exact ⟨_, _, _, by simpa using hx⟩
    · exact ⟨_, _, _, by simpa using hx⟩
  obtain ⟨s0', rfl, _⟩ := cell_int Try.underlying3 (by simpa using s0)
  obtain ⟨s1', rfl, _⟩ := cell_int Try.underlying3 (by simpa using s1)
  obtain ⟨s2', rfl, _⟩ := cell_int Try.underlying3 (by simpa using s2)
  obtain ⟨s3', rfl, _⟩ := cell_int Try.underlying3 (by simpa using s3)
  obtain ⟨s4', rfl, _⟩ := cell_int Try.underlying3 (by simpa using s4)
  obtain ⟨s5', rfl, _⟩ := cell_int Try.underlying3 (by simpa using s5)
  exact ⟨⟨err, A, B, .slice tx ty tz, fun i => [s0', s1', s2', s3', s4', s5'].getD i 0⟩, da, data, cap, rfl, ⟨_, _, _, rfl⟩, hd1, hd2, hd3⟩
end
end Go.Proofs.Ytnhknnhdeegbdab
