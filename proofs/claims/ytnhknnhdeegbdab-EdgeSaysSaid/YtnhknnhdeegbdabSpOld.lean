/- here, room, oldest. -/
import Derived.Test.YtnhknnhdeegbdabSpRep
import Derived.Test.YtnhknnhdeegbdabSpHere
import Derived.Deep.QuietTactic
import Derived.BigQuiet
namespace Go.Proofs.Ytnhknnhdeegbdab
open Go.RowKit Go.ChangeMaps

def Mem.hereN (s : Mem) : Nat := Go.Proofs.Ytnhknnhdeegbdab.hereN (fun b => (s.pg b).here) s.pages

theorem getD_mem {l : List Nat} {k : Nat} (h : k < l.length) : l.getD k 0 ∈ l := by simp [List.getD, h]

section
variable {w : World} {s : Mem}

theorem here_rep (R : Rep w s) (hb : s.pages.length ≤ 1000) :
    Calls Try.prog 30 #[.pointer (some ⟨s.M, 0, none⟩)] w fun e w' => e = .returned (.int .i64 s.hereN) ∧ w' = w := by
  have c3 := R.c3
  rcases R.pa_cases with ⟨hp, hn⟩ | ⟨g, cap, hp, hle, hc⟩
  · rw [hp] at c3
    have hz : s.hereN = 0 := by unfold Mem.hereN Go.Proofs.Ytnhknnhdeegbdab.hereN; rw [hn]; rfl
    rw [hz]
    generalize s.M = M at *
    clear hp hn hz R
    go_enter Try.func30, Try.ntmps30
    go_wp2
    refine wp_loop_rounds 1 ?_
    rw [rounds_succ]
    go_wp2
    go_ret
    exact ⟨rfl, rfl⟩
  · rw [hp] at c3
    exact here_any s.M g s.pages.length cap 0 s.pages (fun b => (s.pg b).here) w rfl hb c3 hc (fun k hk => R.p17 (getD_mem hk))

theorem room_rep (R : Rep w s) (hb : s.pages.length ≤ 1000) (n : Int) (h0 : 0 ≤ s.frames) (h1 : s.frames ≤ 64) (h2 : 0 ≤ s.slots) (h3 : s.slots ≤ 64) :
    Calls Try.prog 17 #[.pointer (some ⟨s.M, 0, none⟩), .int .i64 n] w fun e w' => e = .returned (.bool (decide (n ≤ s.frames + s.slots - s.pages.length))) ∧ ∃ k, w' = w.drewN k := by
  have c0 := R.c0
  have c1 := R.c1
  have c3 := R.c3
  obtain ⟨a, cap, hp⟩ : ∃ a cap, s.pa = .slice a s.pages.length cap := by
    rcases R.pa_cases with ⟨hp, hn⟩ | ⟨g, cap, hp, _⟩
    · exact ⟨none, 0, by rw [hp, hn]; rfl⟩
    · exact ⟨_, cap, hp⟩
  rw [hp] at c3
  clear hp R
  generalize s.M = M at *
  generalize s.frames = fr at *
  generalize s.slots = sl at *
  generalize s.pages.length = np at *
  go_enter Try.func17, Try.ntmps17
  go_wp2
  go_quiet (fail)
  go_wp2
  go_ret
  exact ⟨rfl, _, rfl⟩
end

def optPtr : Option Nat → Value
  | none => .pointer none
  | some b => .pointer (some ⟨b, 0, none⟩)
def younger (pg : Nat → Pg) (best : Option Nat) (p : Nat) : Bool :=
  match best with
  | none => true
  | some b => decide ((pg p).asked < (pg b).asked)
def oldStep (pg : Nat → Pg) (best : Option Nat) (p : Nat) : Option Nat := if (pg p).here && younger pg best p then some p else best
def oldFold (pg : Nat → Pg) (l : List Nat) : Option Nat := l.foldl (oldStep pg) none
def Mem.oldest (s : Mem) : Option Nat := oldFold s.pg s.pages
theorem oldFold_snoc (pg : Nat → Pg) (l : List Nat) (x : Nat) : oldFold pg (l ++ [x]) = oldStep pg (oldFold pg l) x := by simp [oldFold]
theorem oldFold_mem' (pg : Nat → Pg) (l : List Nat) : ∀ (acc : Option Nat) (b : Nat), l.foldl (oldStep pg) acc = some b → b ∈ l ∨ acc = some b := by
  induction l with
  | nil => intro acc b h; exact .inr h
  | cons x l ih =>
    intro acc b h
    rcases ih _ b h with h | h
    · exact .inl (by simp [h])
    · unfold oldStep at h
      split at h
      · simp at h; subst h; exact .inl (by simp)
      · exact .inr h
theorem oldFold_mem (pg : Nat → Pg) (l : List Nat) (b : Nat) (h : oldFold pg l = some b) : b ∈ l := by
  rcases oldFold_mem' pg l none b h with h | h
  · exact h
  · cases h

set_option maxHeartbeats 1000000 in
theorem oldest_any (M P n cap off : Nat) (l : List Nat) (pg : Nat → Pg) (w : World) (hn : l.length = n) (hb : n ≤ 1000)
    (c3 : w.cell? ⟨M, 3, none⟩ = some (.slice (some ⟨P, off, none⟩) n cap))
    (hp : ∀ k, k < n → w.cell? ⟨P, off + k, none⟩ = some (.pointer (some ⟨l.getD k 0, 0, none⟩)))
    (hh : ∀ b, b ∈ l → w.cell? ⟨b, 17, none⟩ = some (.bool (pg b).here))
    (ha : ∀ b, b ∈ l → w.cell? ⟨b, 18, none⟩ = some (.int .i64 (pg b).asked)) :
    Calls Try.prog 31 #[.pointer (some ⟨M, 0, none⟩)] w fun e w' => e = .returned (optPtr (oldFold pg l)) ∧ ∃ k, w' = w.drewN k := by
  have HN := Lib.hid hn; clear hn
  have HP := Lib.hid hp; clear hp
  have HH := Lib.hid hh; clear hh
  have HA := Lib.hid ha; clear ha
  go_enter Try.func31, Try.ntmps31
  go_wp2
  go_loopw [3, 11] (fun c i wr => ∃ k q : Nat, k ≤ n ∧ i = .int .i64 k ∧ c = optPtr (oldFold pg (l.take k)) ∧ wr = w.drewN q) (fun _ i _ => n - (intOf i).toNat)
  case atStart => exact ⟨0, 0, Nat.zero_le _, rfl, rfl, rfl⟩
  case round =>
    obtain ⟨k, q, hk, rfl, rfl, rfl⟩ := hrel
    by_cases hlt : k < n
    · have p1 := HP.out k hlt
      have hm : l.getD k 0 ∈ l := getD_mem (by rw [HN.out]; exact hlt)
      have p2 := HH.out _ hm
      have p3 := HA.out _ hm
      have HS : Hid (oldFold pg (l.take (k + 1)) = oldStep pg (oldFold pg (l.take k)) (l.getD k 0)) := by rw [take_snocN l k (by rw [HN.out]; exact hlt)]; exact oldFold_snoc _ _ _
      have HB : Hid (∀ b, oldFold pg (l.take k) = some b → b ∈ l) := fun b hb => List.mem_of_mem_take (oldFold_mem pg _ b hb)
      generalize l.getD k 0 = x at *
      generalize oldFold pg (l.take k) = best at *
      clear hm
      cases hx : (pg x).here with
      | false =>
        have HX : Hid (oldStep pg best x = best) := by simp [oldStep, hx, Hid]
        rw [hx] at p2; clear hx
        cases best with
        | none =>
          go_wp2
          go_quiet (fail)
          go_wp2
          go_roundw
          case rel => exact ⟨k + 1, _, by omega, by go_num, by rw [HS.out, HX.out], rfl⟩
          case measure => simp [intOf]; omega
        | some b =>
          simp only [optPtr]
          go_wp2
          go_quiet (fail)
          go_wp2
          go_roundw
          case rel => exact ⟨k + 1, _, by omega, by go_num, by rw [HS.out, HX.out], rfl⟩
          case measure => simp [intOf]; omega
      | true =>
        rw [hx] at p2
        cases best with
        | none =>
          have HX : Hid (oldStep pg none x = some x) := by simp [oldStep, hx, younger, Hid]
          clear hx
          simp only [optPtr]
          go_wp2
          go_quiet (fail)
          go_wp2
          go_roundw
          case rel => exact ⟨k + 1, _, by omega, by go_num, by rw [HS.out, HX.out], rfl⟩
          case measure => simp [intOf]; omega
        | some b =>
          have p4 := HA.out b (HB.out b rfl)
          by_cases hlt2 : (pg x).asked < (pg b).asked
          · have HX : Hid (oldStep pg (some b) x = some x) := by simp [oldStep, hx, younger, hlt2, Hid]
            clear hx
            simp only [optPtr]
            go_wp2
            go_quiet (fail)
            go_wp2
            go_roundw
            case rel => exact ⟨k + 1, _, by omega, by go_num, by rw [HS.out, HX.out], rfl⟩
            case measure => simp [intOf]; omega
          · have HX : Hid (oldStep pg (some b) x = some b) := by simp [oldStep, hx, younger, hlt2, Hid]
            clear hx
            simp only [optPtr]
            go_wp2
            go_quiet (fail)
            go_wp2
            go_roundw
            case rel => exact ⟨k + 1, _, by omega, by go_num, by rw [HS.out, HX.out], rfl⟩
            case measure => simp [intOf]; omega
    · go_wp2
      go_ret
      have : k = n := by omega
      subst this
      exact ⟨by rw [List.take_of_length_le (by rw [HN.out]; exact Nat.le_refl _)]; rfl, _, rfl⟩

theorem oldest_rep {w : World} {s : Mem} (R : Rep w s) (hb : s.pages.length ≤ 1000) (hne : s.pages ≠ []) :
    Calls Try.prog 31 #[.pointer (some ⟨s.M, 0, none⟩)] w fun e w' => e = .returned (optPtr s.oldest) ∧ ∃ k, w' = w.drewN k := by
  have c3 := R.c3
  rcases R.pa_cases with ⟨hp, hn⟩ | ⟨g, cap, hp, hle, hc⟩
  · exact absurd hn hne
  · rw [hp] at c3
    exact oldest_any s.M g s.pages.length cap 0 s.pages s.pg w rfl hb c3 hc (fun b hb => R.p17 hb) (fun b hb => R.p18 hb)
end Go.Proofs.Ytnhknnhdeegbdab
