/- New, Make. -/
import Derived.Test.YtnhknnhdeegbdabSpWrite
namespace Go.Proofs.Ytnhknnhdeegbdab
open Go.RowKit Go.ChangeMaps

def Mem.fresh (M S : Nat) (frames slots : Int) : Mem := { M := M, S := S, pa := .slice none 0 0, frames := frames, slots := slots, clock := 0, pages := [], pg := fun _ => Pg.new fun _ => 0, sp := fun _ => none, en := fun _ _ => none }
/-- the first number of a space that is free -/
def Mem.free (s : Mem) : Option Nat := (List.range 16).find? fun (j : Nat) => (s.sp (j + 1 : Int)).isNone
def Mem.withSpace (s : Mem) (k : Int) (X : Nat) : Mem := { s with sp := fun j => if j = k then some X else s.sp j, en := fun Y => if Y = X then (fun _ => none) else s.en Y }

@[go_sem] theorem makeS (w : World) : (Instr.makeMap 67 none).run Try.prog w = .ok (.map (some w.heap.size)) (w.alloc (.map #[] 0)) := by kernel_rfl
@[go_sem] theorem makeX (w : World) : (Instr.makeMap 71 none).run Try.prog w = .ok (.map (some w.heap.size)) (w.alloc (.map #[] 0)) := by kernel_rfl

section
variable {w : World} {s : Mem}

set_option maxRecDepth 100000 in
theorem new_rep (frames slots : Int) (h1 : 4 ≤ frames) (h2 : frames ≤ 64) (h3 : 0 ≤ slots) (h4 : slots ≤ 64) :
    Calls Try.prog 4 #[.int .i64 frames, .int .i64 slots] w fun e w' => e = .returned (.tuple #[.pointer (some ⟨w.heap.size + 1, 0, none⟩), .int .i64 0]) ∧ Rep w' (Mem.fresh (w.heap.size + 1) w.heap.size frames slots) ∧ Upd (fun _ => False) w w' := by
  go_enter Try.func4, Try.ntmps4
  go_wp2
  go_ret2
  refine ⟨rfl, ?_, ((Upd.refl _ _).alloc _).alloc _⟩
  have hS : MapAt ((w.alloc (.map #[] 0)).alloc (.cells #[.int .i64 frames, .int .i64 slots, .int .i64 0, .slice none 0 0, .map (some w.heap.size)] 70)) w.heap.size (fun _ => (none : Option Nat)) mapV := (MapAt.new w mapV).alloc _
  refine ⟨?_, World.ownsRow_nil _ _ _ _, (fun b hb => by cases hb), hS, (fun k X hk => by cases hk), List.nodup_nil, (fun k k' X hk => by cases hk), (fun k => by simp [Mem.fresh])⟩
  refine ⟨#[.int .i64 frames, .int .i64 slots, .int .i64 0, .slice none 0 0, .map (some w.heap.size)], ?_, rfl, fun i hi => ?_⟩
  · have := Go.heap_alloc_new (w.alloc (.map #[] 0)) (.cells #[.int .i64 frames, .int .i64 slots, .int .i64 0, .slice none 0 0, .map (some w.heap.size)] 70)
    rw [World.size_alloc] at this
    exact this
  · match i, hi with
    | 0, _ | 1, _ | 2, _ | 3, _ | 4, _ => rfl
    | n + 5, h => omega

set_option maxRecDepth 100000 in
theorem new_bad (frames slots : Int) (h : frames < 4 ∨ 64 < frames ∨ slots < 0 ∨ 64 < slots) :
    Calls Try.prog 4 #[.int .i64 frames, .int .i64 slots] w fun e w' => e = .returned (.tuple #[.pointer none, .int .i64 1]) ∧ w' = w := by
  rcases (show frames < 4 ∨ (4 ≤ frames ∧ 64 < frames) ∨ (4 ≤ frames ∧ frames ≤ 64 ∧ slots < 0) ∨ (4 ≤ frames ∧ frames ≤ 64 ∧ 0 ≤ slots ∧ 64 < slots) by omega) with h | ⟨h1, h⟩ | ⟨h1, h2, h⟩ | ⟨h1, h2, h3, h⟩
  all_goals
    go_enter Try.func4, Try.ntmps4
    go_wp2
    go_ret2
    exact ⟨rfl, rfl⟩

theorem Rep.withSpace (R : Rep w s) {k : Int} {w' : World} (u : Upd (fun b => b = s.S) (w.alloc (.map #[] 0)) w') (m : MapAt w' s.S (fun j => if j = k then some w.heap.size else s.sp j) mapV) : Rep w' (s.withSpace k w.heap.size) := by
  have Ra := R.alloc (.map #[] 0)
  have hne : ∀ j X, s.sp j = some X → X ≠ w.heap.size := fun j X h e => by have := (R.enm j X h).lt; omega
  have hS : w.heap.size ≠ s.S := fun e => by have := R.spm.lt; omega
  refine ⟨Ra.mem.of_block (u.block _ Ra.mem.lt (fun e => R.S_ne_M e.symm)), ?_, fun b hb => (Ra.pgs b hb).of_block (u.block _ (Ra.pgs b hb).lt (fun e => R.S_ne_page hb e.symm)), m, ?_, R.nodup, ?_, ?_⟩
  · obtain ⟨hl, h' | ⟨g, cap, cur, hv, hb, hg, hr⟩⟩ := Ra.arr
    · exact ⟨hl, .inl h'⟩
    · exact ⟨hl, .inr ⟨g, cap, cur, hv, hb, (u.block g (Array.getElem?_eq_some_iff.1 hg).1 (fun e => Ra.arr_ne_map Ra.spm (by rw [hv, ← e]; rfl))).trans hg, hr⟩⟩
  · intro j X hj
    show MapAt w' X (if X = w.heap.size then (fun _ => none) else s.en X) entV
    have hj' : (if j = k then some w.heap.size else s.sp j) = some X := hj
    split at hj'
    · cases hj'
      rw [if_pos rfl]
      exact (MapAt.new w entV).of_block (u.block _ (by simp) hS)
    · rw [if_neg (hne j X hj')]
      exact (Ra.enm j X hj').of_block (u.block _ (Ra.enm j X hj').lt (fun e => R.X_ne_S hj' e))
  · intro j j' X h1 h2
    have h1' : (if j = k then some w.heap.size else s.sp j) = some X := h1
    have h2' : (if j' = k then some w.heap.size else s.sp j') = some X := h2
    split at h1' <;> split at h2'
    · rename_i a b; rw [a, b]
    · cases h1'; exact absurd rfl (hne _ _ h2')
    · cases h2'; exact absurd rfl (hne _ _ h1')
    · exact R.inj j j' X h1' h2'
  · intro j h1
    have h1' : (if j = k then some w.heap.size else s.sp j) = some s.S := h1
    split at h1'
    · simp at h1'; exact hS h1'
    · exact R.sne j h1'

theorem find_before {p : Nat → Bool} {n j : Nat} (h : (List.range n).find? p = some j) : j < n ∧ p j = true ∧ ∀ i, i < j → p i = false := by
  rw [List.find?_range_eq_some] at h
  obtain ⟨h1, h2, h3⟩ := h
  exact ⟨by simpa using h2, h1, fun i hi => by simpa using h3 i hi⟩

set_option maxHeartbeats 1000000 in
set_option maxRecDepth 100000 in
theorem make_rep (R : Rep w s) {j : Nat} (hj : s.free = some j) :
    Calls Try.prog 5 #[.pointer (some ⟨s.M, 0, none⟩)] w fun e w' => e = .returned (.tuple #[.int .i64 (j + 1 : Int), .int .i64 0]) ∧ Rep w' (s.withSpace (j + 1) w.heap.size) ∧ Upd s.foot w w' := by
  obtain ⟨hj1, hj2, hj3⟩ := find_before hj
  have hjn : s.sp (j + 1 : Int) = none := by simpa using hj2
  have hjs : ∀ i, i < j → ∃ X, s.sp (i + 1 : Int) = some X := fun i hi => by
    have := hj3 i hi
    cases h : s.sp (i + 1 : Int) with
    | none => simp [h] at this
    | some X => exact ⟨X, rfl⟩
  have c4 := R.c4
  have HR := Lib.hid R
  have HJ := Lib.hid hjn
  have HJS := Lib.hid hjs
  clear hj hj2 hj3 hjn hjs R
  go_enter Try.func5, Try.ntmps5
  go_wp2
  go_loop [4] (fun i => ∃ k : Nat, i = .int .i64 (k + 1 : Int) ∧ k ≤ j) (fun i => (20 - intOf i).toNat)
  case atStart => exact ⟨0, rfl, by omega⟩
  case round =>
    obtain ⟨k, rfl, hk⟩ := hrel
    by_cases hlt : k < j
    · obtain ⟨X, hX⟩ := HJS.out k hlt
      have L := HR.out.lookS_some (wfI (n := (k : Int) + 1) (by omega)) hX
      clear hX
      go_wp2
      refine ⟨⟨k + 1, by congr 1, by omega⟩, by simp [intOf]; omega⟩
    · have HE : Hid (k = j) := (by omega : k = j)
      have hn : s.sp (k + 1 : Int) = none := by rw [HE.out]; exact HJ.out
      have L := HR.out.lookS_none (wfI (n := (k : Int) + 1) (by omega)) hn
      have hmp := HR.out.spm.alloc (.map #[] 0)
      have HMp := Lib.hid hmp
      clear hmp hn
      go_wp2_with (at_mapUpdate; refine wpList_put_at rfl _ _ _ 67 rfl uS uI HMp.out (wfI (by omega)) w.heap.size rfl rfl rfl ?_)
      intro w1 hu1 _ hm1
      have hr1 := HR.out.withSpace hu1 hm1
      have HR1 := Lib.hid hr1
      have HU1 := Lib.hid hu1
      clear hr1 hu1 hm1
      go_wp2
      go_ret2
      rw [← HE.out]
      exact ⟨rfl, HR1.out, ((Upd.refl _ _).alloc _).trans HU1.out (fun x _ e => .inr (.inl e))⟩
end
end Go.Proofs.Ytnhknnhdeegbdab
