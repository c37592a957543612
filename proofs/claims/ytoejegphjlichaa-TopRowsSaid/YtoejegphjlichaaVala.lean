/- The contracts of the reference's Printable and ValidValue, and of value.printable and value.Valid: which values are valid. -/
import Derived.Test.YtoejegphjlichaaCodc
namespace Go.Proofs.Ytoejegphjlichaa
open Go.RowKit
set_option linter.unusedVariables false
set_option linter.unusedSimpArgs false

/-- All bytes are from 32 to 126. -/
def prB (b : UInt8) : Bool := decide (32 ≤ b.toNat) && decide (b.toNat ≤ 126)
def pr (l : List UInt8) : Bool := l.all prB
theorem pr_bad {l : List UInt8} {k : Nat} (hk : k < l.length) (h : prB l[k] = false) : pr l = false := by
  unfold pr
  rw [List.all_eq_false]
  exact ⟨l[k], List.getElem_mem _, by simp [h]⟩
theorem pr_step {l : List UInt8} {k : Nat} (hk : k < l.length) (h0 : pr (l.take k) = true) (h : prB l[k] = true) : pr (l.take (k + 1)) = true := by
  unfold pr at *
  rw [List.take_add_one, List.getElem?_eq_getElem hk]
  simp only [List.all_append, h0, Option.toList_some, List.all_cons, h, List.all_nil, Bool.and_self]

set_option maxRecDepth 100000 in
set_option maxHeartbeats 1000000 in
theorem RPrintable_any (s : ByteArray) (w : World) (hs : s.size ≤ maxLen) :
    Calls Try.prog 52 #[.string s] w fun e w' => e = .returned (.bool (pr s.data.toList)) ∧ w = w' := by
  unfold maxLen at hs
  have es : s.size = s.data.toList.length := by rw [Array.length_toList]; rfl
  have ES := Lib.hid es
  clear es
  obtain ⟨R, hR⟩ : ∃ R, R = pr s.data.toList := ⟨_, rfl⟩
  have HR := Lib.hid hR
  rw [← hR]
  clear hR
  go_enter Try.func52, Try.ntmps52
  go_wp2
  go_loop [3] (fun i => ∃ k : Nat, k ≤ s.size ∧ i = .int .i64 k ∧ Hid (pr (s.data.toList.take k) = true)) (fun i => s.size - (intOf i).toNat)
  case atStart => exact ⟨0, Nat.zero_le _, rfl, rfl⟩
  case round =>
    obtain ⟨k, hk, rfl, hp⟩ := hrel
    by_cases hlt : k < s.size
    · have hkl : k < s.data.toList.length := by rw [← ES.out]; exact hlt
      have hb : s.data.toList[k]'hkl = s[k]'hlt := by rw [Array.getElem_toList]; rfl
      have hstep := pr_step hkl hp.out
      have hbad := pr_bad hkl
      rw [hb] at hstep hbad
      have HST := Lib.hid hstep
      have HBD := Lib.hid hbad
      clear hstep hbad hb
      rcases Int.lt_or_le (s[k].toNat : Int) 32 with h1 | h1
      rotate_left
      · rcases Int.lt_or_le 126 (s[k].toNat : Int) with h2 | h2
        rotate_left
        · have hb : prB s[k] = true := by unfold prB; simp; omega
          have hst := HST.out hb
          have HS2 := Lib.hid hst
          clear hst hb
          go_wp2
          go_round
          case rel => exact ⟨k + 1, by omega, by go_num, HS2.out⟩
          case measure => simp [intOf]; omega
        · have hb : prB s[k] = false := by unfold prB; simp; omega
          have hst := HBD.out hb
          have HS2 := Lib.hid hst
          clear hst hb
          go_wp2
          go_ret
          exact ⟨by rw [HR.out, HS2.out]; rfl, rfl⟩
      · have hb : prB s[k] = false := by unfold prB; simp; omega
        have hst := HBD.out hb
        have HS2 := Lib.hid hst
        clear hst hb
        go_wp2
        go_ret
        exact ⟨by rw [HR.out, HS2.out]; rfl, rfl⟩
    · have hr : R = true := by
        have h1 := hp.out
        have h2 := ES.out
        rw [HR.out]
        rwa [List.take_of_length_le (by omega)] at h1
      have HRR := Lib.hid hr
      clear hr
      go_wp2
      go_ret
      exact ⟨by rw [HRR.out]; rfl, rfl⟩

set_option maxRecDepth 100000 in
set_option maxHeartbeats 1000000 in
theorem Printable_any (s : ByteArray) (w : World) (hs : s.size ≤ maxLen) :
    Calls Try.prog 68 #[.string s] w fun e w' => e = .returned (.bool (pr s.data.toList)) ∧ w = w' := by
  unfold maxLen at hs
  have es : s.size = s.data.toList.length := by rw [Array.length_toList]; rfl
  have ES := Lib.hid es
  clear es
  obtain ⟨R, hR⟩ : ∃ R, R = pr s.data.toList := ⟨_, rfl⟩
  have HR := Lib.hid hR
  rw [← hR]
  clear hR
  go_enter Try.func68, Try.ntmps68
  go_wp2
  go_loop [6] (fun i => ∃ k : Nat, k ≤ s.size ∧ i = .int .i64 k ∧ Hid (pr (s.data.toList.take k) = true)) (fun i => s.size - (intOf i).toNat)
  case atStart => exact ⟨0, Nat.zero_le _, rfl, rfl⟩
  case round =>
    obtain ⟨k, hk, rfl, hp⟩ := hrel
    by_cases hlt : k < s.size
    · have hkl : k < s.data.toList.length := by rw [← ES.out]; exact hlt
      have hb : s.data.toList[k]'hkl = s[k]'hlt := by rw [Array.getElem_toList]; rfl
      have hstep := pr_step hkl hp.out
      have hbad := pr_bad hkl
      rw [hb] at hstep hbad
      have HST := Lib.hid hstep
      have HBD := Lib.hid hbad
      clear hstep hbad hb
      rcases Int.lt_or_le (s[k].toNat : Int) 32 with h1 | h1
      rotate_left
      · rcases Int.lt_or_le 126 (s[k].toNat : Int) with h2 | h2
        rotate_left
        · have hb : prB s[k] = true := by unfold prB; simp; omega
          have hst := HST.out hb
          have HS2 := Lib.hid hst
          clear hst hb
          go_wp2
          go_round
          case rel => exact ⟨k + 1, by omega, by go_num, HS2.out⟩
          case measure => simp [intOf]; omega
        · have hb : prB s[k] = false := by unfold prB; simp; omega
          have hst := HBD.out hb
          have HS2 := Lib.hid hst
          clear hst hb
          go_wp2
          go_ret
          exact ⟨by rw [HR.out, HS2.out]; rfl, rfl⟩
      · have hb : prB s[k] = false := by unfold prB; simp; omega
        have hst := HBD.out hb
        have HS2 := Lib.hid hst
        clear hst hb
        go_wp2
        go_ret
        exact ⟨by rw [HR.out, HS2.out]; rfl, rfl⟩
    · have hr : R = true := by
        have h1 := hp.out
        have h2 := ES.out
        rw [HR.out]
        rwa [List.take_of_length_le (by omega)] at h1
      have HRR := Lib.hid hr
      clear hr
      go_wp2
      go_ret
      exact ⟨by rw [HRR.out]; rfl, rfl⟩

/-- A valid value. -/
def vV (v : Val) : Bool :=
  if v.kind = 0 then v.int == 0 && v.text.data.toList.isEmpty
  else if v.kind = 1 then decide (-1125899906842624 ≤ v.int) && decide (v.int ≤ 1125899906842624) && v.text.data.toList.isEmpty
  else if v.kind = 2 then v.int == 0 && decide (v.text.size ≤ 200) && pr v.text.data.toList
  else if v.kind = 3 then (v.int == 0 || v.int == 1) && v.text.data.toList.isEmpty
  else false

set_option maxRecDepth 100000 in
set_option maxHeartbeats 2000000 in
theorem RValidValue_any (v : Val) (w : World) (hs : v.text.size ≤ maxLen) :
    Calls Try.prog 24 #[.agg v.cells.toArray] w fun e w' => e = .returned (.bool (vV v)) ∧ Below w.heap.size w w' := by
  have hbb : Below w.heap.size w (w.alloc (.cells v.cells.toArray 37)) := (Below.refl _ _).alloc (Nat.le_refl _) _
  obtain ⟨R, hR⟩ : ∃ R, R = vV v := ⟨_, rfl⟩
  rw [← hR]
  have HR := Lib.hid hR
  clear hR
  obtain ⟨k, n, s⟩ := v
  have hE : (s.toList = []) = (s.data = #[]) := by rw [ByteArray.toList_eq]; simp
  have HE := Lib.hid hE
  clear hE
  have hs9 : s.size ≤ 9223372036854775807 := by simp only at hs; unfold maxLen at hs; omega
  have HR0 := HR
  clear HR
  rw [show (Val.cells ⟨k, n, s⟩).toArray = #[.int .i64 k, .int .i64 n, .string s] from rfl] at hbb ⊢
  have HR := HR0
  clear HR0
  by_cases k0 : k = 0
  · subst k0
    go_enter Try.func24, Try.ntmps24
    go_wp2
    all_goals (go_ret; exact ⟨by rw [HR.out]; have hE := HE.out; first | (simp [vV, ByteArray.toList_eq, *]; done) | (simp [vV, ByteArray.toList_eq, *]; intros; omega) | (simp only [HE.out] at *; simp [vV, *]; done) | (simp only [HE.out] at *; simp [vV, *]; intros; omega), (Below.refl _ _).alloc (Nat.le_refl _) _⟩)
  · by_cases k1 : k = 1
    · subst k1
      go_enter Try.func24, Try.ntmps24
      go_wp2
      all_goals (go_ret; exact ⟨by rw [HR.out]; have hE := HE.out; first | (simp [vV, ByteArray.toList_eq, *]; done) | (simp [vV, ByteArray.toList_eq, *]; intros; omega) | (simp only [HE.out] at *; simp [vV, *]; done) | (simp only [HE.out] at *; simp [vV, *]; intros; omega), (Below.refl _ _).alloc (Nat.le_refl _) _⟩)
    · by_cases k2 : k = 2
      · subst k2
        go_enter Try.func24, Try.ntmps24
        go_wp2_with (go_at_call 52; refine (RPrintable_any s _ hs).mono ?_; rintro e w' ⟨rfl, rfl⟩)
        all_goals (go_ret; exact ⟨by rw [HR.out]; have hE := HE.out; first | (simp [vV, ByteArray.toList_eq, *]; done) | (simp [vV, ByteArray.toList_eq, *]; intros; omega) | (simp only [HE.out] at *; simp [vV, *]; done) | (simp only [HE.out] at *; simp [vV, *]; intros; omega), (Below.refl _ _).alloc (Nat.le_refl _) _⟩)
      · by_cases k3 : k = 3
        · subst k3
          go_enter Try.func24, Try.ntmps24
          go_wp2
          all_goals (go_ret; exact ⟨by rw [HR.out]; have hE := HE.out; first | (simp [vV, ByteArray.toList_eq, *]; done) | (simp [vV, ByteArray.toList_eq, *]; intros; omega) | (simp only [HE.out] at *; simp [vV, *]; done) | (simp only [HE.out] at *; simp [vV, *]; intros; omega), (Below.refl _ _).alloc (Nat.le_refl _) _⟩)
        · have t0 : (k == 0) = false := by simpa using k0
          have t1 : (k == 1) = false := by simpa using k1
          have t2 : (k == 2) = false := by simpa using k2
          have t3 : (k == 3) = false := by simpa using k3
          go_enter Try.func24, Try.ntmps24
          go_wp2
          all_goals (go_ret; exact ⟨by rw [HR.out]; have hE := HE.out; first | (simp [vV, ByteArray.toList_eq, *]; done) | (simp [vV, ByteArray.toList_eq, *]; intros; omega) | (simp only [HE.out] at *; simp [vV, *]; done) | (simp only [HE.out] at *; simp [vV, *]; intros; omega), (Below.refl _ _).alloc (Nat.le_refl _) _⟩)

set_option maxRecDepth 100000 in
set_option maxHeartbeats 2000000 in
theorem Valid_any (v : Val) (w : World) (hs : v.text.size ≤ maxLen) :
    Calls Try.prog 61 #[.agg v.cells.toArray] w fun e w' => e = .returned (.bool (vV v)) ∧ Below w.heap.size w w' := by
  have hbb : Below w.heap.size w (w.alloc (.cells v.cells.toArray 37)) := (Below.refl _ _).alloc (Nat.le_refl _) _
  obtain ⟨R, hR⟩ : ∃ R, R = vV v := ⟨_, rfl⟩
  rw [← hR]
  have HR := Lib.hid hR
  clear hR
  obtain ⟨k, n, s⟩ := v
  have hE : (s.toList = []) = (s.data = #[]) := by rw [ByteArray.toList_eq]; simp
  have HE := Lib.hid hE
  clear hE
  have hs9 : s.size ≤ 9223372036854775807 := by simp only at hs; unfold maxLen at hs; omega
  have HR0 := HR
  clear HR
  rw [show (Val.cells ⟨k, n, s⟩).toArray = #[.int .i64 k, .int .i64 n, .string s] from rfl] at hbb ⊢
  have HR := HR0
  clear HR0
  by_cases k0 : k = 0
  · subst k0
    go_enter Try.func61, Try.ntmps61
    go_wp2
    all_goals (go_ret; exact ⟨by rw [HR.out]; have hE := HE.out; first | (simp [vV, ByteArray.toList_eq, *]; done) | (simp [vV, ByteArray.toList_eq, *]; intros; omega) | (simp only [HE.out] at *; simp [vV, *]; done) | (simp only [HE.out] at *; simp [vV, *]; intros; omega), (Below.refl _ _).alloc (Nat.le_refl _) _⟩)
  · by_cases k1 : k = 1
    · subst k1
      go_enter Try.func61, Try.ntmps61
      go_wp2
      all_goals (go_ret; exact ⟨by rw [HR.out]; have hE := HE.out; first | (simp [vV, ByteArray.toList_eq, *]; done) | (simp [vV, ByteArray.toList_eq, *]; intros; omega) | (simp only [HE.out] at *; simp [vV, *]; done) | (simp only [HE.out] at *; simp [vV, *]; intros; omega), (Below.refl _ _).alloc (Nat.le_refl _) _⟩)
    · by_cases k2 : k = 2
      · subst k2
        go_enter Try.func61, Try.ntmps61
        go_wp2_with (go_at_call 68; refine (Printable_any s _ hs).mono ?_; rintro e w' ⟨rfl, rfl⟩)
        all_goals (go_ret; exact ⟨by rw [HR.out]; have hE := HE.out; first | (simp [vV, ByteArray.toList_eq, *]; done) | (simp [vV, ByteArray.toList_eq, *]; intros; omega) | (simp only [HE.out] at *; simp [vV, *]; done) | (simp only [HE.out] at *; simp [vV, *]; intros; omega), (Below.refl _ _).alloc (Nat.le_refl _) _⟩)
      · by_cases k3 : k = 3
        · subst k3
          go_enter Try.func61, Try.ntmps61
          go_wp2
          all_goals (go_ret; exact ⟨by rw [HR.out]; have hE := HE.out; first | (simp [vV, ByteArray.toList_eq, *]; done) | (simp [vV, ByteArray.toList_eq, *]; intros; omega) | (simp only [HE.out] at *; simp [vV, *]; done) | (simp only [HE.out] at *; simp [vV, *]; intros; omega), (Below.refl _ _).alloc (Nat.le_refl _) _⟩)
        · have t0 : (k == 0) = false := by simpa using k0
          have t1 : (k == 1) = false := by simpa using k1
          have t2 : (k == 2) = false := by simpa using k2
          have t3 : (k == 3) = false := by simpa using k3
          go_enter Try.func61, Try.ntmps61
          go_wp2
          all_goals (go_ret; exact ⟨by rw [HR.out]; have hE := HE.out; first | (simp [vV, ByteArray.toList_eq, *]; done) | (simp [vV, ByteArray.toList_eq, *]; intros; omega) | (simp only [HE.out] at *; simp [vV, *]; done) | (simp only [HE.out] at *; simp [vV, *]; intros; omega), (Below.refl _ _).alloc (Nat.le_refl _) _⟩)

end Go.Proofs.Ytoejegphjlichaa
