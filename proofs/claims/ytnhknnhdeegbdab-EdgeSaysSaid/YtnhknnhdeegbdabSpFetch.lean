/- fetch. -/
import Derived.Test.YtnhknnhdeegbdabSpAdd
namespace Go.Proofs.Ytnhknnhdeegbdab
open Go.RowKit Go.ChangeMaps

section
variable (s : Mem) (p : Nat)
theorem out_same {β : Type} (f : Mem → β) (h : ∀ t q x, f (Mem.setPg t q x) = f t) : f s.out = f s := by
  unfold Mem.out
  cases s.oldest with
  | none => rfl
  | some q => exact h _ _ _
theorem ask_same {β : Type} (f : Mem → β) (h : ∀ t q x, f (Mem.setPg t q x) = f t) : f (s.ask p) = f (s.setClock (s.clock + 1)) := by
  unfold Mem.ask
  by_cases h1 : (s.pg p).here = true
  · rw [if_pos h1]; exact h _ _ _
  · rw [if_neg h1]
    by_cases h2 : ((s.touch p).hereN : Int) = s.frames
    · rw [if_pos h2]; unfold Mem.into; rw [h, out_same _ f h]; exact h _ _ _
    · rw [if_neg h2]; unfold Mem.into; rw [h]; exact h _ _ _
@[simp] theorem ask_M : (s.ask p).M = s.M := ask_same s p (·.M) (fun _ _ _ => rfl)
@[simp] theorem ask_S : (s.ask p).S = s.S := ask_same s p (·.S) (fun _ _ _ => rfl)
@[simp] theorem ask_pa : (s.ask p).pa = s.pa := ask_same s p (·.pa) (fun _ _ _ => rfl)
@[simp] theorem ask_frames : (s.ask p).frames = s.frames := ask_same s p (·.frames) (fun _ _ _ => rfl)
@[simp] theorem ask_slots : (s.ask p).slots = s.slots := ask_same s p (·.slots) (fun _ _ _ => rfl)
@[simp] theorem ask_pages : (s.ask p).pages = s.pages := ask_same s p (·.pages) (fun _ _ _ => rfl)
@[simp] theorem ask_sp : (s.ask p).sp = s.sp := ask_same s p (·.sp) (fun _ _ _ => rfl)
@[simp] theorem ask_en : (s.ask p).en = s.en := ask_same s p (·.en) (fun _ _ _ => rfl)
@[simp] theorem ask_clock : (s.ask p).clock = s.clock + 1 := ask_same s p (·.clock) (fun _ _ _ => rfl)
theorem setPg_data (t : Mem) (q : Nat) (x : Pg) (h : x.data = (t.pg q).data) (b : Nat) : ((t.setPg q x).pg b).data = (t.pg b).data := by
  simp only [Mem.setPg]; split
  · rename_i e; subst e; exact h
  · rfl
theorem setPg_users (t : Mem) (q : Nat) (x : Pg) (h : x.users = (t.pg q).users) (b : Nat) : ((t.setPg q x).pg b).users = (t.pg b).users := by
  simp only [Mem.setPg]; split
  · rename_i e; subst e; exact h
  · rfl
@[simp] theorem out_data (b : Nat) : ((s.out).pg b).data = (s.pg b).data := by
  unfold Mem.out; split
  · rename_i q _; exact setPg_data _ q ((s.pg q).setHere false) rfl _
  · rfl
@[simp] theorem out_users (b : Nat) : ((s.out).pg b).users = (s.pg b).users := by
  unfold Mem.out; split
  · rename_i q _; exact setPg_users _ q ((s.pg q).setHere false) rfl _
  · rfl
@[simp] theorem touch_data (b : Nat) : ((s.touch p).pg b).data = (s.pg b).data := setPg_data (s.setClock (s.clock + 1)) p ((s.pg p).setAsked (s.clock + 1)) rfl b
@[simp] theorem touch_users (b : Nat) : ((s.touch p).pg b).users = (s.pg b).users := setPg_users (s.setClock (s.clock + 1)) p ((s.pg p).setAsked (s.clock + 1)) rfl b
@[simp] theorem into_data (b : Nat) : ((s.into p).pg b).data = (s.pg b).data := setPg_data s p ((s.pg p).setHere true) rfl b
@[simp] theorem into_users (b : Nat) : ((s.into p).pg b).users = (s.pg b).users := setPg_users s p ((s.pg p).setHere true) rfl b
@[simp] theorem ask_data (b : Nat) : ((s.ask p).pg b).data = (s.pg b).data := by
  unfold Mem.ask; split
  · simp
  · split <;> simp
@[simp] theorem ask_users (b : Nat) : ((s.ask p).pg b).users = (s.pg b).users := by
  unfold Mem.ask; split
  · simp
  · split <;> simp
end

def pageOf (en : Int → Option (Nat × Int)) (a : Int) : Nat := match en (a / 16) with | some x => x.1 | none => 0
def byteOf (s : Mem) (en : Int → Option (Nat × Int)) (a : Int) : UInt8 := (s.pg (pageOf en a)).data (a % 16).toNat
/-- after k bytes from an address on were asked for -/
def Mem.asks (s : Mem) (en : Int → Option (Nat × Int)) (addr : Int) : Nat → Mem
  | 0 => s
  | k + 1 => (s.asks en addr k).ask (pageOf en (addr + k))
def bytesOf (s : Mem) (en : Int → Option (Nat × Int)) (addr : Int) (n : Nat) : List UInt8 := (List.range n).map fun (j : Nat) => byteOf s en (addr + (j : Int))

section
variable (s : Mem) (en : Int → Option (Nat × Int)) (addr : Int) (k : Nat)
@[simp] theorem asks_M : (s.asks en addr k).M = s.M := by induction k with | zero => rfl | succ k ih => simp [Mem.asks, ih]
@[simp] theorem asks_S : (s.asks en addr k).S = s.S := by induction k with | zero => rfl | succ k ih => simp [Mem.asks, ih]
@[simp] theorem asks_pa : (s.asks en addr k).pa = s.pa := by induction k with | zero => rfl | succ k ih => simp [Mem.asks, ih]
@[simp] theorem asks_frames : (s.asks en addr k).frames = s.frames := by induction k with | zero => rfl | succ k ih => simp [Mem.asks, ih]
@[simp] theorem asks_slots : (s.asks en addr k).slots = s.slots := by induction k with | zero => rfl | succ k ih => simp [Mem.asks, ih]
@[simp] theorem asks_pages : (s.asks en addr k).pages = s.pages := by induction k with | zero => rfl | succ k ih => simp [Mem.asks, ih]
@[simp] theorem asks_sp : (s.asks en addr k).sp = s.sp := by induction k with | zero => rfl | succ k ih => simp [Mem.asks, ih]
@[simp] theorem asks_en : (s.asks en addr k).en = s.en := by induction k with | zero => rfl | succ k ih => simp [Mem.asks, ih]
@[simp] theorem asks_clock : (s.asks en addr k).clock = s.clock + k := by induction k with | zero => simp [Mem.asks] | succ k ih => simp [Mem.asks, ih]; omega
@[simp] theorem asks_foot : (s.asks en addr k).foot = s.foot := by induction k with | zero => rfl | succ k ih => rw [Mem.asks, ask_foot, ih]
@[simp] theorem asks_data (b : Nat) : ((s.asks en addr k).pg b).data = (s.pg b).data := by induction k with | zero => rfl | succ k ih => simp [Mem.asks, ih]
@[simp] theorem asks_users (b : Nat) : ((s.asks en addr k).pg b).users = (s.pg b).users := by induction k with | zero => rfl | succ k ih => simp [Mem.asks, ih]
end

/-- what an entry of a space names is a page of the memory -/
def Mem.EnOk (s : Mem) : Prop := ∀ k X a x, s.sp k = some X → s.en X a = some x → x.1 ∈ s.pages

def byteV (b : UInt8) : Value := .int .u8 b.toNat
theorem bytesOf_succ (s : Mem) (en : Int → Option (Nat × Int)) (addr : Int) (n : Nat) : bytesOf s en addr (n + 1) = bytesOf s en addr n ++ [byteOf s en (addr + n)] := by simp [bytesOf, List.range_succ]
theorem bytesOf_length (s : Mem) (en : Int → Option (Nat × Int)) (addr : Int) (n : Nat) : (bytesOf s en addr n).length = n := by simp [bytesOf]
@[go_sem] theorem fieldE0 (a : Option Addr) (r : Int) (w : World) : (Instr.field 75 (.agg #[.pointer a, .int .i64 r]) 0).run Try.prog w = .ok (.pointer a) w := by kernel_rfl
theorem info5 : (Try.prog.info? 5).map (fun i => (i.zero, i.size, i.bytes)) = some (some (.int .u8 0), 1, 1) := by kernel_rfl
theorem uB : Try.prog.underlying 22 = some (.slice 5) := by kernel_rfl

theorem ownsRow_upd {F : Nat → Prop} {w w' : World} {base e size n : Nat} {v : Value} {xs : List Value} (h : w.ownsRow base e size v n xs) (u : Upd F w w') (hF : ∀ b, base ≤ b → ¬ F b) : w'.ownsRow base e size v n xs := by
  obtain ⟨hl, h' | ⟨g, cap, cur, hv, hb, hg, hr⟩⟩ := h
  · exact ⟨hl, .inl h'⟩
  · exact ⟨hl, .inr ⟨g, cap, cur, hv, hb, (u.block g (Array.getElem?_eq_some_iff.1 hg).1 (hF g hb)).trans hg, hr⟩⟩

section
variable {w : World} {s : Mem}

set_option maxHeartbeats 1000000 in
set_option maxRecDepth 100000 in
theorem fetch_rep (R : Rep w s) (E : s.EnOk) (sn addr : Int) (n : Nat) (hw : (Lit.int .i64 sn).wf = true) {X : Nat} (h : s.sp sn = some X) (h1 : 0 ≤ addr) (h3 : addr + n ≤ 1024) (hen : ∀ j, addr ≤ j → j < addr + n → ∃ x, s.en X (j / 16) = some x)
    (hb : s.pages.length ≤ 900) (hf : 1 ≤ s.frames) (hk0 : 0 ≤ s.clock) (hk : s.clock < 3000000000000000000) :
    Calls Try.prog 27 #[.pointer (some ⟨s.M, 0, none⟩), .int .i64 sn, .int .i64 addr, .int .i64 n] w fun e w' => ∃ v, e = .returned v ∧ w'.ownsRow w.heap.size 5 1 v n ((bytesOf s (s.en X) addr n).map byteV) ∧ Rep w' (s.asks (s.en X) addr n) ∧ Upd s.foot w w' := by
  obtain ⟨i0, hi, hz0, hz1, hz2⟩ := info_parts info5
  go_enter Try.func27, Try.ntmps27
  have HR := Lib.hid R
  clear R
  have HEN := Lib.hid hen; clear hen
  go_wp2
  go_loopw [9, 10] (fun v i wr => ∃ k : Nat, k ≤ n ∧ i = .int .i64 (addr + k) ∧ wr.ownsRow w.heap.size 5 1 v k ((bytesOf s (s.en X) addr k).map byteV) ∧ Rep wr (s.asks (s.en X) addr k) ∧ Upd s.foot w wr) (fun _ i _ => (addr + n - intOf i).toNat)
  case atStart => exact ⟨0, by omega, by simp, World.ownsRow_nil _ _ _ _, HR.out, Upd.refl _ _⟩
  case round =>
    obtain ⟨k, hkn, rfl, hown, hR, hU⟩ := hrel
    have HO := Lib.hid hown
    have HRr := Lib.hid hR
    have HU := Lib.hid hU
    by_cases hlt : k < n
    · obtain ⟨x, hx⟩ := HEN.out (addr + k) (by omega) (by omega)
      have hpx : x.1 ∈ s.pages := E sn X _ x h hx
      have hpo : pageOf (s.en X) (addr + k) = x.1 := by simp [pageOf, hx]
      have c4 : wr.cell? ⟨s.M, 4, none⟩ = some (.map (some s.S)) := by have := hR.c4; simpa using this
      have L := hR.lookS_some (sn := sn) hw (X := X) (by simpa using h)
      have L2 := hR.lookE_some (sn := sn) (k := (addr + k) / 16) (wfI (by omega)) (X := X) (by simpa using h) (x := x) (by simpa using hx) false
      simp only [asks_S] at L
      rw [if_neg (by simp)] at L2
      have ha : Calls Try.prog 28 #[.pointer (some ⟨s.M, 0, none⟩), .pointer (some ⟨x.1, 0, none⟩)] wr fun e w' => e = .returned (.tuple #[]) ∧ Rep w' (s.asks (s.en X) addr (k + 1)) ∧ Upd s.foot wr w' := by
        have := ask_rep hR (p := x.1) (by simpa using hpx) (by simp; omega) (by simpa using hf) (by simp; omega) (by simp; omega)
        simpa [Mem.asks, hpo] using this
      have hpd : ∀ w', Rep w' (s.asks (s.en X) addr (k + 1)) → w'.cell? ⟨x.1, ((addr + k) % 16).toNat, none⟩ = some (.int .u8 (byteOf s (s.en X) (addr + k)).toNat) := by
        intro w' hr
        have := hr.pd (b := x.1) (by simpa using hpx) (i := ((addr + k) % 16).toNat) (by omega)
        rw [this, byteOf, hpo]; simp
      have how : ∀ w', Upd s.foot wr w' → w'.ownsRow w.heap.size 5 1 u9 k ((bytesOf s (s.en X) addr k).map byteV) := fun w' hu => ownsRow_upd hown hu (fun b hb hf => by have := HR.out.foot_lt hf; omega)
      have hwz : w.heap.size ≤ wr.heap.size := hU.size
      have HA := Lib.hid ha
      have HPD := Lib.hid hpd
      have HOW := Lib.hid how
      have HX := Lib.hid hx
      have HPO := Lib.hid hpo
      clear hown hR hU ha hx hpo hpd how
      go_wp2_with (first | (go_at_call 28; refine HA.out.mono ?_; rintro e w' ⟨rfl, hr, hu⟩; have cb := HPD.out w' hr; have hsz : w.heap.size ≤ w'.heap.size := Nat.le_trans hwz hu.size; have HRw := Lib.hid hr; have HUw := Lib.hid hu; clear hr hu) | (at_builtin; refine wpList_append_own _ rfl (.tmp 33) (.tmp 41) 22 rfl w.heap.size 5 i0 (.int .u8 0) 1 1 uB hi hz0 hz1 hz2 rfl (by decide) u9 k ((bytesOf s (s.en X) addr k).map byteV) rfl ((HOW.out _ HUw.out).alloc _) ⟨w'.heap.size, 0, none⟩ 1 1 [.int .u8 (byteOf s (s.en X) (addr + k)).toNat] rfl rfl ?c1 ?c2 ?c3 ?c4 ?c5 ?_))
      case c1 => intro j u hj; match j, hj with | 0, hj => simp at hj; subst hj; simp [Addr.add]
      case c2 => intro u hu; simp at hu; subst hu; rfl
      case c3 => unfold maxLen; omega
      case c4 => omega
      case c5 => simp; omega
      intro v' w2 hown2 hgrow2 _
      have hrow : ∀ q, u9.ownBlock = some q → w.heap.size ≤ q := fun q hq => (HO.out.lt q hq).1
      have U2 : Upd (fun b => w.heap.size ≤ b) w' w2 := ((Upd.refl _ w').alloc _).grown hgrow2 (fun q hq => .inl (hrow q hq))
      have hR2 : Rep w2 (s.asks (s.en X) addr (k + 1)) := HRw.out.upd U2 (fun b hb hf => by rw [asks_foot] at hb; have := HR.out.foot_lt hb; omega)
      have hU2 : Upd s.foot w w2 := ((HU.out.trans' HUw.out).alloc _).grown hgrow2 (fun q hq => .inr (hrow q hq))
      have ho2 : w2.ownsRow w.heap.size 5 1 v' (k + 1) ((bytesOf s (s.en X) addr (k + 1)).map byteV) := by
        rw [bytesOf_succ, List.map_append]; exact hown2
      have HR2 := Lib.hid hR2
      have HU2 := Lib.hid hU2
      have HO2 := Lib.hid ho2
      clear hown2 hgrow2 hR2 hU2 ho2 U2 hrow cb L L2 c4
      go_wp2_with fail
      refine ⟨⟨k + 1, by omega, ?_, HO2.out, HR2.out, HU2.out⟩, ?_⟩
      · congr 1; simp; omega
      · simp [intOf]; omega
    · have HE : Hid (k = n) := (by omega : k = n)
      clear hown hR hU
      go_wp2_with fail
      go_ret
      exact ⟨u9, rfl, HE.out ▸ HO.out, HE.out ▸ HRr.out, HU.out⟩
end
end Go.Proofs.Ytnhknnhdeegbdab
