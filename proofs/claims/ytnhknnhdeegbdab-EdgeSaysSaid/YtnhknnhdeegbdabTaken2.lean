/- (*Man).Taken at 2 texts. Written by wip/gen_taken.py. -/
import Derived.Test.YtnhknnhdeegbdabTaken
namespace Go.Proofs.Ytnhknnhdeegbdab
open Go.RowKit Go.ChangeMaps
section
variable {w : World} {m : ManS}
set_option maxHeartbeats 4000000 in
set_option maxRecDepth 100000 in
theorem taken2 (R : ManRep w m) (r : Nat → Int) (hr0 : ∀ i, 0 ≤ r i) (hr1 : ∀ i, r i < 4294967296) (pc ring : Int) (hn : textsN (signed32 (r 0)) = 2) :
    Calls Try.prog 11 #[.pointer (some ⟨m.H, 0, none⟩), regsV r pc ring] w (TakenPost w (takeP (manText m) (manRead m) r)) := by
  simp only [regsV]
  obtain ⟨b0, b1⟩ := signed32_bd (hr0 0) (hr1 0)
  have hsg : ∀ W, Calls Try.prog 22 #[.int .u32 (r 0)] W fun e w' => e = .returned (.int .i64 (signed32 (r 0))) ∧ W = w' := fun W => signed_rep (r 0) (hr0 0) (hr1 0) W
  have hone := oneB_texts (signed32 (r 0))
  generalize hnum : signed32 (r 0) = num at *
  have HNum := Lib.hid hnum
  have HOne := Lib.hid hone
  have HN := Lib.hid hn
  have HSG := Lib.hid hsg
  have HR := Lib.hid R
  clear hsg R hone hn hnum
  go_enter Try.func11, Try.ntmps11
  go_upto_region 3 with (go_at_call 22; refine (HSG.out _).mono ?_; rintro e w1 ⟨rfl, rfl⟩)
  obtain ⟨W1, hW1⟩ : ∃ W1, W1 = ((w.alloc (.cells (regCells r pc ring) 26)).alloc (.cells zeroCall 57)).alloc (.cells (numCall num [] []) 57) := ⟨_, rfl⟩
  have hI : MIn w m (regCells r pc ring) zeroCall (numCall num [] []) W1 := by
    rw [hW1]
    have hu : Upd (fun _ => False) w (((w.alloc (.cells (regCells r pc ring) 26)).alloc (.cells zeroCall 57)).alloc (.cells (numCall num [] []) 57)) := (((Upd.refl _ _).alloc _).alloc _).alloc _
    exact ⟨(alloc3 _ _ _ _).1, (alloc3 _ _ _ _).2.1, (alloc3 _ _ _ _).2.2, HR.out.upd hu (fun h => h), hu⟩
  change Code.wp _ _ _ _ (((w.alloc (.cells (regCells r pc ring) 26)).alloc (.cells zeroCall 57)).alloc (.cells (numCall num [] []) 57))
  rw [← hW1]
  clear hW1
  have HI := Lib.hid hI
  have n0 : W1.cell? ⟨w.heap.size + 1 + 1, 0, none⟩ = some (.int .i64 num) := by rw [(block_cells hI.q8).1]; rfl
  clear hI
  go_cut [8] (fun v8 wx => v8 = .bool (oneB num) ∧ wx = W1)
  case first =>
    clear HSG HR HN HNum HOne HI hr0 hr1
    rcases (show num < 3 ∨ (4 ≤ num ∧ num ≤ 4) ∨ (5 < num ∧ num < 12) ∨ (19 < num ∧ num < 27) ∨ (29 < num ∧ num < 32) ∨ 33 < num ∨ ((3 ≤ num ∧ num ≤ 3) ∨ (5 ≤ num ∧ num ≤ 5) ∨ (12 ≤ num ∧ num ≤ 19) ∨ (27 ≤ num ∧ num ≤ 29) ∨ (32 ≤ num ∧ num ≤ 32) ∨ (33 ≤ num ∧ num ≤ 33)) by omega) with h | ⟨h, h'⟩ | ⟨h, h'⟩ | ⟨h, h'⟩ | ⟨h, h'⟩ | h | h
    rotate_right
    · have HX := Lib.hid (oneB_true num h)
      rcases h with ⟨h, h'⟩ | ⟨h, h'⟩ | ⟨h, h'⟩ | ⟨h, h'⟩ | ⟨h, h'⟩ | ⟨h, h'⟩
      all_goals
        go_wp2_with fail
        go_meet
        refine ⟨?_, rfl⟩
        first | (rw [HX.out]; done) | (rw [HX.out]; simp; done) | (rw [HX.out]; simp; omega)
    all_goals
      have HX := Lib.hid (oneB_false num (by omega))
      go_wp2_with fail
      go_meet
      refine ⟨?_, rfl⟩
      first | (rw [HX.out]; done) | (rw [HX.out]; simp; done) | (rw [HX.out]; simp; omega)
  case rest =>
    obtain ⟨rfl, rfl⟩ := hcut
    have hone : oneB num = true := by rw [HOne.out, HN.out]; rfl
    rw [hone]
    clear hone n0
    have hI := HI.out
    generalize wc = W0 at *
    obtain ⟨k5, _⟩ := block_cells hI.q5
    obtain ⟨k6, g6⟩ := block_cells hI.q6
    obtain ⟨k8, g8⟩ := block_cells hI.q8
    simp only [regCells] at k5
    simp only [zeroCall] at k6
    simp only [numCall, strOf] at k8
    have hte := mtext_in hI (r 1)
    simp only [regCells, zeroCall, numCall, strOf] at hte
    by_cases he : (manText m (r 1)).2 = 0
    · have HE1 := Lib.hid he
      rw [he] at hte
      have HTE := Lib.hid hte
      clear hte he
      have T10 : (14 ≤ num ∧ num ≤ 16) ∨ (16 < num ∧ (num == 27) = true) := by
        have h1 := HN.out
        unfold textsN at h1
        split at h1
        · rename_i h2
          rcases h2 with h2 | h2 | h2 | h2
          · exact .inl (by omega)
          · exact .inl (by omega)
          · exact .inl (by omega)
          · exact .inr ⟨by omega, by simpa using h2⟩
        · split at h1 <;> omega
      go_upto_region 10 with (go_at_call 9; refine HTE.out.mono ?_; clear k5 k8 g8 k6 g6; rintro e w2 ⟨rfl, k5, k6, g6, k8, g8, hti⟩)
      have hI2 : MIn w m (regCells r pc ring) zeroCall (numCall num (manText m (r 1)).1 []) (w2.setCell ⟨w.heap.size + 1 + 1, 4, none⟩ (.string ⟨((manText m (r 1)).1).toArray⟩)) := by
        have u8 : Upd (fun b => b = w.heap.size + 1 + 1) w2 (w2.setCell ⟨w.heap.size + 1 + 1, 4, none⟩ (.string ⟨((manText m (r 1)).1).toArray⟩)) := (Upd.refl (fun b => b = w.heap.size + 1 + 1) w2).setCell (.inl rfl) _
        refine ⟨?_, ?_, ?_, hti.out.rep.upd u8 (fun e => by have := World.rowIs.lt HR.out; omega), hti.out.upd.trans u8 (fun x hx e => by omega)⟩
        · rw [Go.heap_setCell_other _ _ _ _ (by simp; omega)]; exact hti.out.q5
        · rw [Go.heap_setCell_other _ _ _ _ (by simp)]; exact hti.out.q6
        · exact Go.heap_setCell_same _ _ _ _ _ _ hti.out.q8
      clear hI hti k5 k6 g6 k8 g8
      have hI := hI2
      clear hI2
      obtain ⟨k5, _⟩ := block_cells hI.q5
      obtain ⟨k6, g6⟩ := block_cells hI.q6
      obtain ⟨k8, g8⟩ := block_cells hI.q8
      simp only [regCells] at k5
      simp only [zeroCall] at k6
      simp only [numCall, strOf] at k8
      generalize w2.setCell ⟨w.heap.size + 1 + 1, 4, none⟩ (.string ⟨((manText m (r 1)).1).toArray⟩) = W0 at *
      go_cut [85] (fun v85 wx => v85 = .bool true ∧ wx = W0)
      case first =>
        rcases T10 with ⟨h, h'⟩ | ⟨h, t2⟩
        all_goals
          go_wp2_with fail
          go_meet
          exact ⟨by first | rfl | (simp; done) | (simp; omega), rfl⟩
      case rest =>
        obtain ⟨rfl, rfl⟩ := hcut
        generalize wc = W0 at *
        have HI2 := Lib.hid hI
        clear hI
        clear T10
        have hI := HI2.out
        clear HI2
        have hte := mtext_in hI (r 2)
        simp only [regCells, zeroCall, numCall, strOf] at hte
        by_cases he : (manText m (r 2)).2 = 0
        · have HX : Hid (takeP (manText m) (manRead m) r = takeEnd (manRead m) r 2 (manText m (r 1)).1 (manText m (r 2)).1) := by have h1 := HN.out; simp [takeP, HNum.out, h1, HE1.out, he, Hid]
          rw [he] at hte
          have HTE := Lib.hid hte
          clear hte he
          go_upto_region 14 with (go_at_call 9; refine HTE.out.mono ?_; clear k5 k8 g8 k6 g6; rintro e w2 ⟨rfl, k5, k6, g6, k8, g8, hti⟩)
          have hI2 : MIn w m (regCells r pc ring) zeroCall (numCall num (manText m (r 1)).1 (manText m (r 2)).1) (w2.setCell ⟨w.heap.size + 1 + 1, 5, none⟩ (.string ⟨((manText m (r 2)).1).toArray⟩)) := by
            have u8 : Upd (fun b => b = w.heap.size + 1 + 1) w2 (w2.setCell ⟨w.heap.size + 1 + 1, 5, none⟩ (.string ⟨((manText m (r 2)).1).toArray⟩)) := (Upd.refl (fun b => b = w.heap.size + 1 + 1) w2).setCell (.inl rfl) _
            refine ⟨?_, ?_, ?_, hti.out.rep.upd u8 (fun e => by have := World.rowIs.lt HR.out; omega), hti.out.upd.trans u8 (fun x hx e => by omega)⟩
            · rw [Go.heap_setCell_other _ _ _ _ (by simp; omega)]; exact hti.out.q5
            · rw [Go.heap_setCell_other _ _ _ _ (by simp)]; exact hti.out.q6
            · exact Go.heap_setCell_same _ _ _ _ _ _ hti.out.q8
          clear hI hti k5 k6 g6 k8 g8
          have hI := hI2
          clear hI2
          obtain ⟨k5, _⟩ := block_cells hI.q5
          obtain ⟨k6, g6⟩ := block_cells hI.q6
          obtain ⟨k8, g8⟩ := block_cells hI.q8
          simp only [regCells] at k5
          simp only [zeroCall] at k6
          simp only [numCall, strOf] at k8
          generalize w2.setCell ⟨w.heap.size + 1 + 1, 5, none⟩ (.string ⟨((manText m (r 2)).1).toArray⟩) = W0 at *
          have HI2 := Lib.hid hI
          clear hI
          have hz1 : W0.cell? ⟨w.heap.size, 3, none⟩ = some (.int .u32 (r 3)) := by rw [(block_cells HI2.out.q5).1]; rfl
          have hz2 : W0.cell? ⟨w.heap.size, 4, none⟩ = some (.int .u32 (r 4)) := by rw [(block_cells HI2.out.q5).1]; rfl
          have hz3 : W0.cell? ⟨w.heap.size, 5, none⟩ = some (.int .u32 (r 5)) := by rw [(block_cells HI2.out.q5).1]; rfl
          have hs1 : ∀ W, Calls Try.prog 22 #[.int .u32 (r 3)] W fun e w' => e = .returned (.int .i64 (signed32 (r 3))) ∧ W = w' := fun W => signed_rep (r 3) (hr0 3) (hr1 3) W
          have hs2 : ∀ W, Calls Try.prog 22 #[.int .u32 (r 4)] W fun e w' => e = .returned (.int .i64 (signed32 (r 4))) ∧ W = w' := fun W => signed_rep (r 4) (hr0 4) (hr1 4) W
          have hs3 : ∀ W, Calls Try.prog 22 #[.int .u32 (r 5)] W fun e w' => e = .returned (.int .i64 (signed32 (r 5))) ∧ W = w' := fun W => signed_rep (r 5) (hr0 5) (hr1 5) W
          have HS1 := Lib.hid hs1
          have HS2 := Lib.hid hs2
          have HS3 := Lib.hid hs3
          clear hs1 hs2 hs3 k5 k6 g6
          have d1 := signed32_bd (hr0 3) (hr1 3)
          have d2 := signed32_bd (hr0 4) (hr1 4)
          have d3 := signed32_bd (hr0 5) (hr1 5)
          have hne : ∀ (W : World) (i j : Nat) (v : Value), (W.setCell ⟨w.heap.size + 1 + 1, i, none⟩ v).cell? ⟨w.heap.size, j, none⟩ = W.cell? ⟨w.heap.size, j, none⟩ := fun W i j v => World.cell?_setCell_other _ _ _ _ (by simp)
          have x1 : IntKind.i64.wrap 4 = 4 := rfl
          have x2 : IntKind.i64.wrap 5 = 5 := rfl
          go_upto_region 15 with fail
          go_cut [7] (fun v7 wx => CallLaid W0 w.heap.size ⟨num, signed32 (r 3), signed32 (r 4), signed32 (r 5), (manText m (r 1)).1, (manText m (r 2)).1, []⟩ wx)
          case first =>
            go_region_held3 (fun w' => w'.cell? ⟨w.heap.size, 3, none⟩ = some (.int .u32 (r 3)) ∧ w'.cell? ⟨w.heap.size, 4, none⟩ = some (.int .u32 (r 4)) ∧ w'.cell? ⟨w.heap.size, 5, none⟩ = some (.int .u32 (r 5))) (go_keep) (first | (go_at_call_of 22 (Value.int .u32 (r 3)); refine (HS1.out _).mono ?_; rintro e w' ⟨rfl, rfl⟩) | (go_at_call_of 22 (Value.int .u32 (r 4)); refine (HS2.out _).mono ?_; rintro e w' ⟨rfl, rfl⟩) | (go_at_call_of 22 (Value.int .u32 (r 5)); refine (HS3.out _).mono ?_; rintro e w' ⟨rfl, rfl⟩))
            all_goals
              go_wp2_with fail
              go_meet
              exact callLaid HI2.out.q8 _ _ _
          case rest =>
            clear k8 g8 hz1 hz2 hz3 hne x1 x2
            have hI3 : MIn w m (regCells r pc ring) zeroCall #[.int .i64 num, .int .i64 (signed32 (r 3)), .int .i64 (signed32 (r 4)), .int .i64 (signed32 (r 5)), strOf (manText m (r 1)).1, strOf (manText m (r 2)).1, .slice none 0 0] wc :=
              ⟨(hcut.upd.block _ (Array.getElem?_eq_some_iff.1 HI2.out.q5).1 (by omega)).trans HI2.out.q5, (hcut.upd.block _ (Array.getElem?_eq_some_iff.1 HI2.out.q6).1 (by omega)).trans HI2.out.q6, hcut.call,
                HI2.out.rep.upd hcut.upd (fun e => by have := World.rowIs.lt HR.out; omega), HI2.out.upd.trans hcut.upd (fun x hx e => by omega)⟩
            clear hcut
            generalize wc = W3 at *
            obtain ⟨k6, g6⟩ := block_cells hI3.q6
            obtain ⟨k8, g8⟩ := block_cells hI3.q8
            simp only [zeroCall] at k6
            simp only [strOf] at k8
            have HI3 := Lib.hid hI3
            have h8 : ¬ num = 8 := fun e => by have h1 := HN.out; rw [e] at h1; exact absurd h1 (by decide)
            have HZ : Hid (takeP (manText m) (manRead m) r = (⟨num, signed32 (r 3), signed32 (r 4), signed32 (r 5), (manText m (r 1)).1, (manText m (r 2)).1, []⟩, 0)) := by rw [HX.out]; simp [takeEnd, HNum.out, h8, Hid]
            have h8' : (num == 8) = false := by simpa using h8
            clear hI3 h8
            go_wp2_with fail
            refine bodyPost_ret (v := .tuple #[callV ⟨num, signed32 (r 3), signed32 (r 4), signed32 (r 5), (manText m (r 1)).1, (manText m (r 2)).1, []⟩ (.slice none 0 0), .int .i64 0]) (by simp [results, Try.results11, go_sem, k6]; rfl) rfl ?_
            rw [HZ.out]
            exact takenPost_of HI3.out.upd (upd7 _ _ _ _ _ _ _ _ _) (⟨num, signed32 (r 3), signed32 (r 4), signed32 (r 5), (manText m (r 1)).1, (manText m (r 2)).1, []⟩, 0) _ (World.ownsRow_nil _ _ _ _)
        · have HX : Hid (takeP (manText m) (manRead m) r = (.zero, (manText m (r 2)).2)) := by have h1 := HN.out; simp [takeP, HNum.out, h1, HE1.out, he, Hid]
          have hne : ((manText m (r 2)).2 != 0) = true := by simpa using he
          have HTE := Lib.hid hte
          generalize (manText m (r 2)).2 = err at *
          clear hte he
          go_wp2_with (go_at_call 9; refine HTE.out.mono ?_; clear k5 k8 g8 k6 g6; rintro e w2 ⟨rfl, k5, k6, g6, k8, g8, hti⟩)
          refine bodyPost_ret (v := .tuple #[callV .zero (.slice none 0 0), .int .i64 err]) (by simp [results, Try.results11, go_sem, k6]; rfl) rfl ?_
          rw [HX.out]
          exact takenPost_err (hti.out.upd.trans ((Upd.refl (fun x => x = w.heap.size + 1 + 1) w2).setCell (.inl rfl) _) (fun x hx e => by omega)) (upd7 _ _ _ _ _ _ _ _ _) err
    · have HX : Hid (takeP (manText m) (manRead m) r = (.zero, (manText m (r 1)).2)) := by have h1 := HN.out; simp [takeP, HNum.out, h1, he, Hid]
      have hne : ((manText m (r 1)).2 != 0) = true := by simpa using he
      have HTE := Lib.hid hte
      generalize (manText m (r 1)).2 = err at *
      clear hte he
      go_wp2_with (go_at_call 9; refine HTE.out.mono ?_; clear k5 k8 g8 k6 g6; rintro e w2 ⟨rfl, k5, k6, g6, k8, g8, hti⟩)
      refine bodyPost_ret (v := .tuple #[callV .zero (.slice none 0 0), .int .i64 err]) (by simp [results, Try.results11, go_sem, k6]; rfl) rfl ?_
      rw [HX.out]
      exact takenPost_err (hti.out.upd.trans ((Upd.refl (fun x => x = w.heap.size + 1 + 1) w2).setCell (.inl rfl) _) (fun x hx e => by omega)) (upd7 _ _ _ _ _ _ _ _ _) err
end
end Go.Proofs.Ytnhknnhdeegbdab
