/- (*Man).Taken at 0 texts. Written by wip/gen_taken.py. -/
import Derived.Test.YtnhknnhdeegbdabTaken
namespace Go.Proofs.Ytnhknnhdeegbdab
open Go.RowKit Go.ChangeMaps
section
variable {w : World} {m : ManS}
set_option maxHeartbeats 4000000 in
set_option maxRecDepth 100000 in
theorem taken0 (R : ManRep w m) (r : Nat → Int) (hr0 : ∀ i, 0 ≤ r i) (hr1 : ∀ i, r i < 4294967296) (pc ring : Int) (hn : textsN (signed32 (r 0)) = 0) :
    Calls Try.prog 11 #[.pointer (some ⟨m.H, 0, none⟩), regsV r pc ring] w (TakenPost w (takeP (manText m) (manRead m) r)) := by
  simp only [regsV]
  obtain ⟨b0, b1⟩ := signed32_bd (hr0 0) (hr1 0)
  have hsg : ∀ W, Calls Try.prog 22 #[.int .u32 (r 0)] W fun e w' => e = .returned (.int .i64 (signed32 (r 0))) ∧ W = w' := fun W => signed_rep (r 0) (hr0 0) (hr1 0) W
  have hone := oneB_texts (signed32 (r 0))
  generalize hnum : signed32 (r 0) = num at *
  have HNum := Lib.hid hnum
  have HOne := Lib.hid hone
  have HN := Lib.hid hn
  have HSG := Lib.hid hsg
  have HR := Lib.hid R
  clear hsg R hone hn hnum
  go_enter Try.func11, Try.ntmps11
  go_upto_region 3 with (go_at_call 22; refine (HSG.out _).mono ?_; rintro e w1 ⟨rfl, rfl⟩)
  obtain ⟨W1, hW1⟩ : ∃ W1, W1 = ((w.alloc (.cells (regCells r pc ring) 26)).alloc (.cells zeroCall 57)).alloc (.cells (numCall num [] []) 57) := ⟨_, rfl⟩
  have hI : MIn w m (regCells r pc ring) zeroCall (numCall num [] []) W1 := by
    rw [hW1]
    have hu : Upd (fun _ => False) w (((w.alloc (.cells (regCells r pc ring) 26)).alloc (.cells zeroCall 57)).alloc (.cells (numCall num [] []) 57)) := (((Upd.refl _ _).alloc _).alloc _).alloc _
    exact ⟨(alloc3 _ _ _ _).1, (alloc3 _ _ _ _).2.1, (alloc3 _ _ _ _).2.2, HR.out.upd hu (fun h => h), hu⟩
  change Code.wp _ _ _ _ (((w.alloc (.cells (regCells r pc ring) 26)).alloc (.cells zeroCall 57)).alloc (.cells (numCall num [] []) 57))
  rw [← hW1]
  clear hW1
  have HI := Lib.hid hI
  have n0 : W1.cell? ⟨w.heap.size + 1 + 1, 0, none⟩ = some (.int .i64 num) := by rw [(block_cells hI.q8).1]; rfl
  clear hI
  go_cut [8] (fun v8 wx => v8 = .bool (oneB num) ∧ wx = W1)
  case first =>
    clear HSG HR HN HNum HOne HI hr0 hr1
    rcases (show num < 3 ∨ (4 ≤ num ∧ num ≤ 4) ∨ (5 < num ∧ num < 12) ∨ (19 < num ∧ num < 27) ∨ (29 < num ∧ num < 32) ∨ 33 < num ∨ ((3 ≤ num ∧ num ≤ 3) ∨ (5 ≤ num ∧ num ≤ 5) ∨ (12 ≤ num ∧ num ≤ 19) ∨ (27 ≤ num ∧ num ≤ 29) ∨ (32 ≤ num ∧ num ≤ 32) ∨ (33 ≤ num ∧ num ≤ 33)) by omega) with h | ⟨h, h'⟩ | ⟨h, h'⟩ | ⟨h, h'⟩ | ⟨h, h'⟩ | h | h
    rotate_right
    · have HX := Lib.hid (oneB_true num h)
      rcases h with ⟨h, h'⟩ | ⟨h, h'⟩ | ⟨h, h'⟩ | ⟨h, h'⟩ | ⟨h, h'⟩ | ⟨h, h'⟩
      all_goals
        go_wp2_with fail
        go_meet
        refine ⟨?_, rfl⟩
        first | (rw [HX.out]; done) | (rw [HX.out]; simp; done) | (rw [HX.out]; simp; omega)
    all_goals
      have HX := Lib.hid (oneB_false num (by omega))
      go_wp2_with fail
      go_meet
      refine ⟨?_, rfl⟩
      first | (rw [HX.out]; done) | (rw [HX.out]; simp; done) | (rw [HX.out]; simp; omega)
  case rest =>
    obtain ⟨rfl, rfl⟩ := hcut
    have hone : oneB num = false := by rw [HOne.out, HN.out]; rfl
    rw [hone]
    clear hone n0
    have hI := HI.out
    generalize wc = W0 at *
    obtain ⟨k5, _⟩ := block_cells hI.q5
    obtain ⟨k6, g6⟩ := block_cells hI.q6
    obtain ⟨k8, g8⟩ := block_cells hI.q8
    simp only [regCells] at k5
    simp only [zeroCall] at k6
    simp only [numCall, strOf] at k8
    have HX : Hid (takeP (manText m) (manRead m) r = takeEnd (manRead m) r 0 [] []) := by have := HN.out; simp [takeP, HNum.out, this, Hid]
    have T10 : num < 14 ∨ (16 < num ∧ 16 < num) := by
      have h1 := HN.out
      unfold textsN at h1
      split at h1
      · omega
      · omega
    have t2 : (num == 27) = false := by rw [beq_eq_false_iff_ne]; intro e; have h1 := HN.out; unfold textsN at h1; rw [if_pos (by omega)] at h1; omega
    go_upto_region 10 with fail
    go_cut [85] (fun v85 wx => v85 = .bool false ∧ wx = W0)
    case first =>
      rcases T10 with h | ⟨h, h'⟩
      all_goals
        go_wp2_with fail
        go_meet
        exact ⟨by first | rfl | (simp; done) | (simp; omega), rfl⟩
    case rest =>
      obtain ⟨rfl, rfl⟩ := hcut
      generalize wc = W0 at *
      have HI2 := Lib.hid hI
      clear hI
      have hz1 : W0.cell? ⟨w.heap.size, 1, none⟩ = some (.int .u32 (r 1)) := by rw [(block_cells HI2.out.q5).1]; rfl
      have hz2 : W0.cell? ⟨w.heap.size, 2, none⟩ = some (.int .u32 (r 2)) := by rw [(block_cells HI2.out.q5).1]; rfl
      have hz3 : W0.cell? ⟨w.heap.size, 3, none⟩ = some (.int .u32 (r 3)) := by rw [(block_cells HI2.out.q5).1]; rfl
      have hs1 : ∀ W, Calls Try.prog 22 #[.int .u32 (r 1)] W fun e w' => e = .returned (.int .i64 (signed32 (r 1))) ∧ W = w' := fun W => signed_rep (r 1) (hr0 1) (hr1 1) W
      have hs2 : ∀ W, Calls Try.prog 22 #[.int .u32 (r 2)] W fun e w' => e = .returned (.int .i64 (signed32 (r 2))) ∧ W = w' := fun W => signed_rep (r 2) (hr0 2) (hr1 2) W
      have hs3 : ∀ W, Calls Try.prog 22 #[.int .u32 (r 3)] W fun e w' => e = .returned (.int .i64 (signed32 (r 3))) ∧ W = w' := fun W => signed_rep (r 3) (hr0 3) (hr1 3) W
      have HS1 := Lib.hid hs1
      have HS2 := Lib.hid hs2
      have HS3 := Lib.hid hs3
      clear hs1 hs2 hs3 k5 k6 g6
      have d1 := signed32_bd (hr0 1) (hr1 1)
      have d2 := signed32_bd (hr0 2) (hr1 2)
      have d3 := signed32_bd (hr0 3) (hr1 3)
      have hne : ∀ (W : World) (i j : Nat) (v : Value), (W.setCell ⟨w.heap.size + 1 + 1, i, none⟩ v).cell? ⟨w.heap.size, j, none⟩ = W.cell? ⟨w.heap.size, j, none⟩ := fun W i j v => World.cell?_setCell_other _ _ _ _ (by simp)
      have x1 : IntKind.i64.wrap 2 = 2 := rfl
      have x2 : IntKind.i64.wrap 3 = 3 := rfl
      go_upto_region 15 with fail
      go_cut [7] (fun v7 wx => CallLaid W0 w.heap.size ⟨num, signed32 (r 1), signed32 (r 2), signed32 (r 3), [], [], []⟩ wx)
      case first =>
        go_region_held3 (fun w' => w'.cell? ⟨w.heap.size, 1, none⟩ = some (.int .u32 (r 1)) ∧ w'.cell? ⟨w.heap.size, 2, none⟩ = some (.int .u32 (r 2)) ∧ w'.cell? ⟨w.heap.size, 3, none⟩ = some (.int .u32 (r 3))) (go_keep) (first | (go_at_call_of 22 (Value.int .u32 (r 1)); refine (HS1.out _).mono ?_; rintro e w' ⟨rfl, rfl⟩) | (go_at_call_of 22 (Value.int .u32 (r 2)); refine (HS2.out _).mono ?_; rintro e w' ⟨rfl, rfl⟩) | (go_at_call_of 22 (Value.int .u32 (r 3)); refine (HS3.out _).mono ?_; rintro e w' ⟨rfl, rfl⟩))
        all_goals
          go_wp2_with fail
          go_meet
          exact callLaid HI2.out.q8 _ _ _
      case rest =>
        clear k8 g8 hz1 hz2 hz3 hne x1 x2
        have hI3 : MIn w m (regCells r pc ring) zeroCall #[.int .i64 num, .int .i64 (signed32 (r 1)), .int .i64 (signed32 (r 2)), .int .i64 (signed32 (r 3)), strOf [], strOf [], .slice none 0 0] wc :=
          ⟨(hcut.upd.block _ (Array.getElem?_eq_some_iff.1 HI2.out.q5).1 (by omega)).trans HI2.out.q5, (hcut.upd.block _ (Array.getElem?_eq_some_iff.1 HI2.out.q6).1 (by omega)).trans HI2.out.q6, hcut.call,
            HI2.out.rep.upd hcut.upd (fun e => by have := World.rowIs.lt HR.out; omega), HI2.out.upd.trans hcut.upd (fun x hx e => by omega)⟩
        clear hcut
        generalize wc = W3 at *
        obtain ⟨k6, g6⟩ := block_cells hI3.q6
        obtain ⟨k8, g8⟩ := block_cells hI3.q8
        simp only [zeroCall] at k6
        simp only [strOf] at k8
        have HI3 := Lib.hid hI3
        by_cases h8 : num = 8
        · have H8 := Lib.hid h8
          have h8' : (num == 8) = true := by simpa using h8
          have hs0 : signed32 (r 0) = 8 := HNum.out.trans h8
          have hHlt : m.H < w.heap.size := World.rowIs.lt HR.out
          clear hI3 h8 HI2 HOne
          by_cases hC : signed32 (r 3) < 0 ∨ 256 < signed32 (r 3)
          · have HZ := Lib.hid (HX.out.trans (eight_arg (m := m) hs0 hC))
            rcases (show signed32 (r 3) < 0 ∨ (0 ≤ signed32 (r 3) ∧ 256 < signed32 (r 3)) by omega) with h | ⟨h, h'⟩
            all_goals
              clear hC hs0
              generalize signed32 (r 3) = C at *
              generalize signed32 (r 2) = B at *
              generalize signed32 (r 1) = A at *
              go_wp2_with fail
              refine bodyPost_ret (v := .tuple #[callV .zero (.slice none 0 0), .int .i64 1]) (by simp [results, Try.results11, go_sem, k6]; rfl) rfl ?_
              rw [HZ.out]
              exact takenPost_err HI3.out.upd (upd7 _ _ _ _ _ _ _ _ _) 1
          · obtain ⟨i0, hi, hz0, hz1, hz2⟩ := info_parts info5
            have HZf := Lib.hid (fun ha => HX.out.trans (eight_fault (m := m) hs0 hC ha))
            have HZg := Lib.hid (fun ha => HX.out.trans (eight_good (m := m) hs0 hC ha))
            rw [HNum.out] at HZg
            have c0 : 0 ≤ signed32 (r 3) := by omega
            have c1 : signed32 (r 3) ≤ 256 := by omega
            clear hC hs0 HS1 HS2 HS3
            generalize signed32 (r 3) = C at *
            generalize signed32 (r 2) = B at *
            generalize signed32 (r 1) = A at *
            have hE : EightIn w m num A B C (.slice none 0 0) [] 0 W3 := ⟨HI3.out.q6, HI3.out.q8, World.ownsRow_nil _ _ _ _, HI3.out.rep, HI3.out.upd⟩
            have HE0 := Lib.hid hE
            clear hE
            go_wp2_with fail
            go_loopw [10, 11, 137] (fun _ _ i wr => ∃ (k : Nat) (v : Value), (k : Int) ≤ C ∧ i = .int .i64 k ∧ EightIn w m num A B C v ((accOf (manGetAt m B) k).map byteV) k wr ∧ allSome (manGetAt m B) k = true) (fun _ _ i _ => (C - intOf i).toNat)
            case atStart => exact ⟨0, _, by omega, rfl, HE0.out, rfl⟩
            case round =>
              obtain ⟨k, v, hk, rfl, hE, hall⟩ := hrel
              obtain ⟨sx, sy, sz, rfl⟩ := owns_slice hE.own
              obtain ⟨k6, g6⟩ := block_cells hE.q6
              obtain ⟨k8, g8⟩ := block_cells hE.q8
              simp only [zeroCall] at k6
              have HE := Lib.hid hE
              by_cases hlt : (k : Int) < C
              · have hby := byte_rep hE.rep (B + (k : Int)) 1
                have hw : IntKind.i64.wrap (B + (k : Int)) = B + (k : Int) := IntWalk.i64_in _ (by omega)
                cases hb : manGetAt m B k with
                | none =>
                  have HY : Hid (takeP (manText m) (manRead m) r = (.zero, 11)) := HZf.out (allSome_false (k := k) (by omega) (by rw [hb]; rfl))
                  rw [show manByte m (B + (k : Int)) 1 = none from hb] at hby
                  have HB := Lib.hid hby
                  clear hby hb hE hall
                  go_wp2_with (go_at_call 20; refine HB.out.mono ?_; rintro e w' ⟨rfl, rfl⟩)
                  refine bodyPost_ret (v := .tuple #[callV .zero (.slice none 0 0), .int .i64 11]) (by simp [results, Try.results11, go_sem, k6]; rfl) rfl ?_
                  rw [HY.out]
                  exact takenPost_err HE.out.upd (upd7 _ _ _ _ _ _ _ _ _) 11
                | some b =>
                  rw [show manByte m (B + (k : Int)) 1 = some b from hb] at hby
                  have hall2 : allSome (manGetAt m B) (k + 1) = true := by rw [allSome_succ, hall, hb]; rfl
                  have hacc : accOf (manGetAt m B) (k + 1) = accOf (manGetAt m B) k ++ [b] := by rw [accOf_succ, hb]; rfl
                  have HB := Lib.hid hby
                  have HAC := Lib.hid hacc
                  have HAL := Lib.hid hall2
                  clear hby hb hE hall hacc hall2
                  go_wp2_with (first | (go_at_call 20; refine HB.out.mono ?_; rintro e w' ⟨rfl, rfl⟩) | (at_builtin; refine wpList_append_own _ rfl (.tmp 153) (.tmp 155) 22 rfl (w.heap.size + 1 + 1 + 1) 5 i0 (.int .u8 0) 1 1 uB hi hz0 hz1 hz2 rfl (by decide) (.slice sx sy sz) k ((accOf (manGetAt m B) k).map byteV) rfl (HE.out.own.alloc _) ⟨wr.heap.size, 0, none⟩ 1 1 [.int .u8 b.toNat] rfl rfl ?c1 ?c2 ?c3 ?c4 ?c5 ?_))
                  case c1 => intro j u hj; match j, hj with | 0, hj => simp at hj; subst hj; simp [Addr.add]
                  case c2 => intro u hu; simp at hu; subst hu; rfl
                  case c3 => unfold maxLen; omega
                  case c4 => omega
                  case c5 => have := (Array.getElem?_eq_some_iff.1 HE.out.q8).1; simp; omega
                  intro v' w2 hown2 hgrow2 _
                  obtain ⟨tx, ty, tz, rfl⟩ := owns_slice hown2
                  have hrow : ∀ q, (Value.slice sx sy sz).ownBlock = some q → w.heap.size + 1 + 1 + 1 ≤ q := fun q hq => (HE.out.own.lt q hq).1
                  have U2 : Upd (fun b => w.heap.size + 1 + 1 + 1 ≤ b) wr w2 := ((Upd.refl _ wr).alloc _).grown hgrow2 (fun q hq => .inl (hrow q hq))
                  have hq2 := (U2.block _ (Array.getElem?_eq_some_iff.1 HE.out.q8).1 (by omega)).trans HE.out.q8
                  have ho2 : w2.ownsRow (w.heap.size + 1 + 1 + 1) 5 1 (.slice tx ty tz) (k + 1) ((accOf (manGetAt m B) (k + 1)).map byteV) := by
                    rw [HAC.out, List.map_append]; exact hown2
                  have HE2 := Lib.hid (HE.out.step hHlt U2 ho2)
                  clear hown2 hgrow2 U2 ho2 hrow k8 g8
                  obtain ⟨k8, g8⟩ := block_cells hq2
                  clear hq2
                  go_wp2_with fail
                  refine ⟨⟨k + 1, _, by omega, by go_num, HE2.out, HAL.out⟩, by simp [intOf]; omega⟩
              · have HK : Hid (k = C.toNat) := (by omega : k = C.toNat)
                have HY : Hid (takeP (manText m) (manRead m) r = (⟨num, A, B, C, [], [], accOf (manGetAt m B) k⟩, 0)) := by
                  have e := HZg.out (by rw [← HK.out]; exact hall)
                  rw [← HK.out] at e
                  exact e
                clear hE hall
                go_wp2_with fail
                refine bodyPost_ret (v := .tuple #[callV ⟨num, A, B, C, [], [], accOf (manGetAt m B) k⟩ (.slice sx sy sz), .int .i64 0]) (by simp [results, Try.results11, go_sem, k6]; rfl) rfl ?_
                rw [HY.out]
                refine takenPost_of HE.out.upd (upd7 _ _ _ _ _ _ _ _ _) (⟨num, A, B, C, [], [], accOf (manGetAt m B) k⟩, 0) (.slice sx sy sz) ?_
                have ho := ownsRow_upd HE.out.own (upd7 wr (w.heap.size + 1) (.int .i64 num) (.int .i64 A) (.int .i64 B) (.int .i64 C) (.string ⟨#[]⟩) (.string ⟨#[]⟩) (.slice sx sy sz)) (fun b hb e => by omega)
                obtain ⟨h1, ⟨h2, h3⟩ | ⟨g, cap, cur, h2, h3, h4⟩⟩ := ho
                · simp only [accOf_length]; exact ⟨h1, .inl ⟨h2, h3⟩⟩
                · simp only [accOf_length]; exact ⟨h1, .inr ⟨g, cap, cur, h2, by omega, h4⟩⟩
        · have HZ : Hid (takeP (manText m) (manRead m) r = (⟨num, signed32 (r 1), signed32 (r 2), signed32 (r 3), [], [], []⟩, 0)) := by rw [HX.out]; simp [takeEnd, HNum.out, h8, Hid]
          have h8' : (num == 8) = false := by simpa using h8
          clear hI3 h8
          go_wp2_with fail
          refine bodyPost_ret (v := .tuple #[callV ⟨num, signed32 (r 1), signed32 (r 2), signed32 (r 3), [], [], []⟩ (.slice none 0 0), .int .i64 0]) (by simp [results, Try.results11, go_sem, k6]; rfl) rfl ?_
          rw [HZ.out]
          exact takenPost_of HI3.out.upd (upd7 _ _ _ _ _ _ _ _ _) (⟨num, signed32 (r 1), signed32 (r 2), signed32 (r 3), [], [], []⟩, 0) _ (World.ownsRow_nil _ _ _ _)
end
end Go.Proofs.Ytnhknnhdeegbdab
