/- ask. -/
import Derived.Test.YtnhknnhdeegbdabSpOld
import Derived.StillTailTactics
namespace Go.Proofs.Ytnhknnhdeegbdab
open Go.RowKit Go.ChangeMaps

def Pg.setAsked (p : Pg) (c : Int) : Pg := { p with asked := c }
def Pg.setHere (p : Pg) (h : Bool) : Pg := { p with here := h }
def Pg.setUsers (p : Pg) (u : Int) : Pg := { p with users := u }
def Pg.setData (p : Pg) (i : Nat) (b : UInt8) : Pg := { p with data := fun j => if j = i then b else p.data j }
def Mem.setClock (s : Mem) (c : Int) : Mem := { s with clock := c }

/-- the page that was asked longest ago leaves its frame -/
def Mem.out (s : Mem) : Mem :=
  match s.oldest with
  | some q => s.setPg q ((s.pg q).setHere false)
  | none => s
/-- asked now -/
def Mem.touch (s : Mem) (p : Nat) : Mem := (s.setClock (s.clock + 1)).setPg p ((s.pg p).setAsked (s.clock + 1))
def Mem.into (s : Mem) (p : Nat) : Mem := s.setPg p ((s.pg p).setHere true)
def Mem.ask (s : Mem) (p : Nat) : Mem :=
  if (s.pg p).here then s.touch p
  else if ((s.touch p).hereN : Int) = s.frames then (s.touch p).out.into p else (s.touch p).into p

section
variable {w : World} {s : Mem}
theorem Rep.touch (R : Rep w s) {p : Nat} (hp : p ∈ s.pages) : Rep ((w.setCell ⟨s.M, 2, none⟩ (.int .i64 (s.clock + 1))).setCell ⟨p, 18, none⟩ (.int .i64 (s.clock + 1))) (s.touch p) := by
  have R1 : Rep (w.setCell ⟨s.M, 2, none⟩ (.int .i64 (s.clock + 1))) (s.setClock (s.clock + 1)) :=
    R.setMem 2 _ _ rfl rfl rfl rfl rfl rfl rfl (fun j hj => by
      match j, hj with
      | 0, _ | 1, _ | 2, _ | 3, _ | 4, _ => simp [memCell, Mem.setClock])
  refine R1.setPage (b := p) hp 18 _ _ (fun j hj => ?_)
  by_cases h : j = 18
  · subst h; simp [pgCell, Pg.setAsked]
  · simp [pgCell, Pg.setAsked, h, Mem.setClock]
theorem Rep.setHere (R : Rep w s) {p : Nat} (hp : p ∈ s.pages) (h : Bool) : Rep (w.setCell ⟨p, 17, none⟩ (.bool h)) (s.setPg p ((s.pg p).setHere h)) := by
  refine R.setPage (b := p) hp 17 _ _ (fun j hj => ?_)
  by_cases h : j = 17
  · subst h; simp [pgCell, Pg.setHere]
  · simp [pgCell, Pg.setHere, h]

theorem hereN_touch (s : Mem) (p : Nat) : (s.touch p).hereN = s.hereN := by
  unfold Mem.hereN Mem.touch
  congr 1
  funext b
  simp only [Mem.setPg, Mem.setClock]
  split <;> simp_all [Pg.setAsked]

theorem oldest_some (hp : 0 < s.hereN) : ∃ q, s.oldest = some q := by
  have key : ∀ (l : List Nat) (acc : Option Nat), (acc ≠ none ∨ 0 < (l.filter fun b => (s.pg b).here).length) → ∃ q, l.foldl (oldStep s.pg) acc = some q := by
    intro l
    induction l with
    | nil =>
      intro acc h
      rcases h with h | h
      · cases acc with
        | none => exact absurd rfl h
        | some q => exact ⟨q, rfl⟩
      · simp at h
    | cons x l ih =>
      intro acc h
      refine ih _ ?_
      by_cases hx : (s.pg x).here = true
      · left
        unfold oldStep
        cases acc with
        | none => simp [hx, younger]
        | some b => split <;> simp
      · rcases h with h | h
        · left; unfold oldStep; simp [hx]; exact h
        · right; simpa [List.filter_cons, hx] using h
  exact key _ none (.inr hp)
theorem oldest_here {q : Nat} (h : s.oldest = some q) : (s.pg q).here = true := by
  have key : ∀ (l : List Nat) (acc : Option Nat), (∀ b, acc = some b → (s.pg b).here = true) → ∀ q, l.foldl (oldStep s.pg) acc = some q → (s.pg q).here = true := by
    intro l
    induction l with
    | nil => intro acc h q hq; exact h q hq
    | cons x l ih =>
      intro acc h q hq
      refine ih _ ?_ q hq
      intro b hb
      unfold oldStep at hb
      split at hb
      · rename_i hc; simp at hb; subst hb; simp at hc; exact hc.1
      · exact h b hb
  exact key _ none (fun b hb => by cases hb) q h
theorem oldest_mem {q : Nat} (h : s.oldest = some q) : q ∈ s.pages := oldFold_mem _ _ _ h

set_option maxHeartbeats 1000000 in
theorem ask_rep (R : Rep w s) {p : Nat} (hp : p ∈ s.pages) (hb : s.pages.length ≤ 1000) (hf : 1 ≤ s.frames) (hk0 : 0 ≤ s.clock) (hk : s.clock < 4000000000000000000) :
    Calls Try.prog 28 #[.pointer (some ⟨s.M, 0, none⟩), .pointer (some ⟨p, 0, none⟩)] w fun e w' => e = .returned (.tuple #[]) ∧ Rep w' (s.ask p) ∧ Upd s.foot w w' := by
  have R1 := R.touch hp
  have hMp := R.M_ne_page hp
  have c2 := R.c2
  have p17 := R.p17 hp
  have p18 := R.p18 hp
  have f2 := R.f 2
  have fp := R.pf hp 17
  have fp2 := R.pf hp 18
  have U1 : Upd s.foot w ((w.setCell ⟨s.M, 2, none⟩ (.int .i64 (s.clock + 1))).setCell ⟨p, 18, none⟩ (.int .i64 (s.clock + 1))) :=
    ((Upd.refl _ _).setCell (.inl (.inl rfl)) _).setCell (.inl (.inr (.inr (.inr (.inl hp))))) _
  have HR := Lib.hid R; clear R
  have HR1 := Lib.hid R1; clear R1
  have HU := Lib.hid U1; clear U1
  cases hx : (s.pg p).here with
  | true =>
    rw [hx] at p17
    have HX : Hid (s.ask p = s.touch p) := by simp [Mem.ask, hx, Hid]
    clear hx
    go_enter Try.func28, Try.ntmps28
    go_wp2_with fail
    refine bodyPost_ret (v := .tuple #[]) (results_none rfl _ _ _) rfl ⟨rfl, ?_, HU.out⟩
    rw [HX.out]; exact HR1.out
  | false =>
    rw [hx] at p17
    go_enter Try.func28, Try.ntmps28
    go_wp2_with fail
    generalize (w.setCell ⟨s.M, 2, none⟩ (.int .i64 (s.clock + 1))).setCell ⟨p, 18, none⟩ (.int .i64 (s.clock + 1)) = W1 at *
    have R1 := HR1.out
    have hh : ∀ k, Calls Try.prog 30 #[.pointer (some ⟨s.M, 0, none⟩)] (W1.drewN k) fun e w' => e = .returned (.int .i64 (s.touch p).hereN) ∧ w' = W1.drewN k := fun k => here_rep (R1.drewN k) hb
    have ho : ∀ k, Calls Try.prog 31 #[.pointer (some ⟨s.M, 0, none⟩)] (W1.drewN k) fun e w' => e = .returned (optPtr (s.touch p).oldest) ∧ ∃ m, w' = (W1.drewN k).drewN m := fun k => oldest_rep (R1.drewN k) hb (fun h => by rw [show (s.touch p).pages = s.pages from rfl] at h; rw [h] at hp; simp at hp)
    have c0 : W1.cell? ⟨s.M, 0, none⟩ = some (.int .i64 s.frames) := R1.c0
    have HH := Lib.hid hh; have HO := Lib.hid ho
    clear hh ho c2 p17 p18 f2 fp fp2 R1
    have g17 : W1.frozen? ⟨p, 17, none⟩ = false := HR1.out.pf (show p ∈ (s.touch p).pages from hp) 17
    obtain ⟨v17, h17⟩ : ∃ v, W1.cell? ⟨p, 17, none⟩ = some v := ⟨_, HR1.out.p17 (show p ∈ (s.touch p).pages from hp)⟩
    by_cases hfull : ((s.touch p).hereN : Int) = s.frames
    · obtain ⟨q, hq⟩ := oldest_some (s := s.touch p) (by omega)
      have hqm : q ∈ (s.touch p).pages := oldest_mem hq
      have hqp : q ≠ p := fun e => by
        have h1 := oldest_here hq
        rw [e] at h1
        simp [Mem.touch, Mem.setPg, Pg.setAsked, Mem.setClock, hx] at h1
      have HX : Hid (s.ask p = ((s.touch p).setPg q (((s.touch p).pg q).setHere false)).into p) := by simp [Mem.ask, hx, hfull, Mem.out, hq, Hid]
      clear hx
      have q17 : W1.frozen? ⟨q, 17, none⟩ = false := HR1.out.pf hqm 17
      obtain ⟨u17, hu17⟩ : ∃ v, W1.cell? ⟨q, 17, none⟩ = some v := ⟨_, HR1.out.p17 hqm⟩
      rw [hq] at HO
      simp only [optPtr] at HO
      generalize hnn : (s.touch p).hereN = nn at *
      have hfl : ((nn : Int) == s.frames) = true := by simpa using hfull
      clear hnn hfull hq
      go_quiet ((go_at_call 30; exact Calls.quiet_of_same (HH.out _)))
      go_wp2_with (go_at_call 31; refine (HO.out _).mono ?_; rintro e w' ⟨rfl, m, rfl⟩)
      go_end0
      refine ⟨rfl, ?_, ?_⟩
      · rw [HX.out]
        exact ((HR1.out.setHere hqm false).setHere (show p ∈ ((s.touch p).setPg q _).pages from hp) true).drewN _
      · exact ((HU.out.drewN _).setCell (p := ⟨q, 17, none⟩) (.inl (.inr (.inr (.inr (.inl hqm))))) _).setCell (p := ⟨p, 17, none⟩) (.inl (.inr (.inr (.inr (.inl hp))))) _
    · have HX : Hid (s.ask p = (s.touch p).into p) := by simp [Mem.ask, hx, hfull, Hid]
      clear hx
      generalize hnn : (s.touch p).hereN = nn at *
      have hfl : ((nn : Int) == s.frames) = false := by simpa using hfull
      clear hnn hfull
      go_quiet ((go_at_call 30; exact Calls.quiet_of_same (HH.out _)))
      go_wp2_with fail
      go_end0
      refine ⟨rfl, ?_, ?_⟩
      · rw [HX.out]
        exact (HR1.out.setHere (show p ∈ (s.touch p).pages from hp) true).drewN _
      · exact (HU.out.drewN _).setCell (p := ⟨p, 17, none⟩) (.inl (.inr (.inr (.inr (.inl hp))))) _
end
end Go.Proofs.Ytnhknnhdeegbdab
