/- The contract of codec.Int: which integer is read from any bytes at any offset. -/
import Derived.Test.YtoejegphjlichaaCoda
namespace Go.Proofs.Ytoejegphjlichaa
open Go.RowKit
set_option linter.unusedVariables false

/-- The groups from the i-th on, z being the number of those before: an error, or the number and how many groups there are. -/
def rI : Nat → Nat → List UInt8 → Sum Int (Nat × Nat)
  | _, _, [] => .inl 2
  | i, z, c :: t => if i = 9 ∧ 1 < c.toNat ∨ 0 < i ∧ c.toNat = 0 then .inl 1 else if c.toNat < 128 then .inr (z + c.toNat % 128 * 128 ^ i, i + 1) else rI (i + 1) (z + c.toNat % 128 * 128 ^ i) t

/-- The integer at an offset, the offset after it, the error. -/
def dI (l : List UInt8) (at_ : Int) : Int × Int × Int :=
  if at_ < 0 ∨ (l.length : Int) < at_ then (0, 0, 6) else
  match rI 0 0 (l.drop at_.toNat) with
  | .inl e => (0, 0, e)
  | .inr (z, k) => (unzig z, at_ + k, 0)

theorem run_drop {w : World} (A : Option Addr) (n c k : Nat) (hk : k ≤ n) (hn : n ≤ c) (hc : (c : Int) ≤ 9223372036854775807) : (Instr.slice 22 (.slice A n c) (some (.int .i64 k)) none none).run Try.prog w = .ok (.slice (if c = k then A else A.map (·.add k)) (n - k) (c - k)) w := by
  obtain ⟨i, hi, hz, hs, hb⟩ := info_parts infoByte
  simp [Instr.slice, Instr.sliceBounds, Instr.sliceBound, asIntOf, run_underlying Try.underlying22, sizeOf, typeInfo, hi, hk, hs]

set_option maxRecDepth 100000 in
set_option maxHeartbeats 2000000 in
theorem Int_out (A : Option Addr) (l : List UInt8) (c : Nat) (at_ : Int) (w : World) (hl : (l.length : Int) ≤ 9223372036854775807) (h : at_ < 0 ∨ (l.length : Int) < at_) :
    Calls Try.prog 12 #[.slice A l.length c, .int .i64 at_] w fun e w' => e = .returned (.tuple #[.int .i64 0, .int .i64 0, .int .i64 6]) ∧ w = w' := by
  rcases h with h | h
  · go_enter Try.func12, Try.ntmps12
    go_wp2
    go_ret3
    exact ⟨rfl, rfl⟩
  · have h' : ¬ at_ < 0 := by omega
    go_enter Try.func12, Try.ntmps12
    go_wp2
    go_ret3
    exact ⟨rfl, rfl⟩

/-- The call has returned these three numbers. -/
def Ret3 (r : Int × Int × Int) (e : Ending) : Prop := e = .returned (.tuple #[.int .i64 r.1, .int .i64 r.2.1, .int .i64 r.2.2])

set_option maxRecDepth 100000 in
set_option maxHeartbeats 4000000 in
theorem Int_in (A : Option Addr) (l : List UInt8) (c k0 : Nat) (w : World) (hA : Cs w A (B l)) (hlc : l.length ≤ c) (hc : c ≤ maxLen) (hk0 : k0 ≤ l.length) :
    Calls Try.prog 12 #[.slice A l.length c, .int .i64 k0] w fun e w' => Ret3 (dI l k0) e ∧ w = w' := by
  unfold maxLen at hc
  have hsl := fun w => run_drop (w := w) A l.length c k0 hk0 hlc (by omega)
  have hA' := hA.drop k0 c (by rw [B_length]; exact hlc)
  rw [B_drop] at hA'
  revert hsl hA'
  generalize (if c = k0 then A else A.map (·.add k0)) = A2
  intro hsl hA'
  obtain ⟨rest, hrest⟩ : ∃ rest, rest = l.drop k0 := ⟨_, rfl⟩
  have hrl : rest.length = l.length - k0 := by rw [hrest, List.length_drop]
  rw [← hrest] at hA'
  have HD : Hid (dI l k0 = match rI 0 0 rest with | .inl e => (0, 0, e) | .inr (z, k) => (unzig z, (k0 : Int) + k, 0)) := by
    unfold Hid dI
    rw [if_neg (by omega), hrest]
    rfl
  rw [← hrl] at hsl
  clear hrest
  have HRL := Lib.hid hrl
  clear hrl
  have hr9 : rest.length ≤ 9223372036854775807 := by have := HRL.out; omega
  have hk9 : (k0 : Int) ≤ 9223372036854775807 := by omega
  have hs1 : decide ((k0 : Int) < 0) = false := by simp
  have hs2 : decide (l.length < k0) = false := by simp; omega
  go_enter Try.func12, Try.ntmps12
  go_wp2
  go_loop [7, 22] (fun uv iv => ∃ (k z : Nat), k ≤ rest.length ∧ iv = .int .i64 k ∧ uv = .int .u64 z ∧ k ≤ 9 ∧ Hid (z < 128 ^ k) ∧ Hid (rI k z (rest.drop k) = rI 0 0 rest)) (fun _ iv => rest.length - (intOf iv).toNat)
  case atStart => exact ⟨0, 0, Nat.zero_le _, rfl, rfl, by omega, by unfold Hid; decide, by simp [Hid]⟩
  case round =>
    obtain ⟨k, z, hk, rfl, rfl, hk9', hz, hI⟩ := hrel
    by_cases hlt : k < rest.length
    · have hbk : (k0 : Int) + (k : Int) ≤ 9223372036854775806 := by have := HRL.out; omega
      obtain ⟨a, rfl, hcell⟩ := byte_at hA' hlt
      obtain ⟨m, hm⟩ : ∃ m : UInt8, m = rest.getD k 0 := ⟨_, rfl⟩
      rw [← hm] at hcell
      have hm8 := m.toNat_lt
      obtain ⟨b, hb⟩ : ∃ b : Nat, b = m.toNat := ⟨_, rfl⟩
      rw [← hb] at hcell hm8
      have hdr : rest.drop k = m :: rest.drop (k + 1) := by
        rw [hm, List.drop_eq_getElem_cons hlt, List.getD_eq_getElem?_getD, List.getElem?_eq_getElem hlt]
        rfl
      rw [hdr] at hI
      have HI : Hid ((if k = 9 ∧ 1 < b ∨ 0 < k ∧ b = 0 then Sum.inl 1 else if b < 128 then .inr (z + b % 128 * 128 ^ k, k + 1) else rI (k + 1) (z + b % 128 * 128 ^ k) (rest.drop (k + 1))) = rI 0 0 rest) := by rw [hb]; exact hI
      clear hI hdr hm hb m
      have hkk : (k = 9 ∧ 1 < b ∨ 0 < k ∧ b = 0) ↔ (9 ≤ k ∧ 1 < b ∨ 0 < k ∧ b < 1) := by omega
      have HI := HI.out
      simp only [hkk] at HI
      have HI := Lib.hid HI
      clear hkk
      by_cases he : 9 ≤ k ∧ 1 < b ∨ 0 < k ∧ b < 1
      · have hE : Hid (dI l k0 = (0, 0, 1)) := by
          unfold Hid at *
          rw [if_pos he] at HI
          rw [HD, ← HI]
        by_cases h9 : k < 9
        · have h0 : 0 < k ∧ b < 1 := by omega
          clear he
          obtain ⟨h0, h1⟩ := h0
          have t1 : ((k : Int) == 9) = false := by simp; omega
          have t2 : ((b : Int) == 0) = true := by simp; omega
          go_wp2
          go_ret3
          exact ⟨by rw [hE.out]; rfl, rfl⟩
        · by_cases h1 : b < 1
          · have h0 : 0 < k := by omega
            clear he
            have t1 : ((k : Int) == 9) = true := by simp; omega
            have t2 : ((b : Int) == 0) = true := by simp; omega
            go_wp2
            go_ret3
            exact ⟨by rw [hE.out]; rfl, rfl⟩
          · have h0 : 1 < b := by omega
            clear he
            have t1 : ((k : Int) == 9) = true := by simp; omega
            go_wp2
            go_ret3
            exact ⟨by rw [hE.out]; rfl, rfl⟩
      · have hp9 := pow_le9 hk9'
        have hps : b % 128 * 128 ^ k < 18446744073709551616 := by
          by_cases h9 : k < 9
          · have h1 : b % 128 * 128 ^ k ≤ 127 * 128 ^ k := Nat.mul_le_mul_right _ (by omega)
            have h2 : (128 : Nat) ^ k ≤ 128 ^ 8 := Nat.pow_le_pow_right (by decide) (by omega)
            have h3 : (128 : Nat) ^ 8 = 72057594037927936 := by decide
            omega
          · have h1 : b % 128 * 128 ^ k ≤ 1 * 128 ^ k := Nat.mul_le_mul_right _ (by omega)
            omega
        have hU0 := or_step hz.out hk9' hm8 hps
        have hz2 : Hid (z + b % 128 * 128 ^ k < 18446744073709551616) := by
          have h1 := hz.out
          unfold Hid
          by_cases h9 : k < 9
          · have h2 := pow_step h1 hm8
            have h3 := pow_le9 (k := k + 1) (by omega)
            omega
          · have h2 : b % 128 * 128 ^ k ≤ 1 * 128 ^ k := Nat.mul_le_mul_right _ (by omega)
            omega
        have hz3 : Hid (z + b % 128 * 128 ^ k < 128 ^ (k + 1)) := pow_step hz.out hm8
        have HI2 : Hid ((if b < 128 then Sum.inr (z + b % 128 * 128 ^ k, k + 1) else rI (k + 1) (z + b % 128 * 128 ^ k) (rest.drop (k + 1))) = rI 0 0 rest) := by
          have := HI.out
          rw [if_neg he] at this
          exact this
        clear HI hps hp9
        revert hU0 hz2 hz3 HI2
        generalize z + b % 128 * 128 ^ k = z'
        intro hU0 hz2 hz3 HI2
        by_cases hb8 : b < 128
        · have hE : Hid (dI l k0 = (unzig z', (k0 : Int) + k + 1, 0)) := by
            unfold Hid at *
            rw [if_pos hb8] at HI2
            rw [HD, ← HI2, Int.add_assoc]
            rfl
          by_cases h9 : k < 9
          · by_cases h0 : 0 < k
            · have h1 : 0 < b := by omega
              clear he
              go_wp2
              rw [unzig_bits hz2.out]
              go_ret3
              exact ⟨by rw [hE.out]; rfl, rfl⟩
            · clear he
              have t1 : ((k : Int) == 9) = false := by simp; omega
              go_wp2
              rw [unzig_bits hz2.out]
              go_ret3
              exact ⟨by rw [hE.out]; rfl, rfl⟩
          · have h1 : b ≤ 1 := by omega
            have h2 : 0 < b := by omega
            have h0 : 0 < k := by omega
            have t1 : ((k : Int) == 9) = true := by simp; omega
            have t2 : ((b : Int) == 0) = false := by simp; omega
            clear he
            go_wp2
            rw [unzig_bits hz2.out]
            go_ret3
            exact ⟨by rw [hE.out]; rfl, rfl⟩
        · have h9 : k < 9 := by omega
          by_cases h0 : 0 < k
          · have h1 : 0 < b := by omega
            clear he
            go_wp2
            go_round
            case rel => first | exact ⟨k + 1, z', by omega, by go_num, rfl, by omega, hz3, by have := HI2.out; rw [if_neg hb8] at this; exact this⟩ | ((repeat apply Exists.intro); exact ⟨⟨k + 1, z', by omega, by go_num, rfl, by omega, hz3, by have := HI2.out; rw [if_neg hb8] at this; exact this⟩, rfl⟩)
            case measure => simp [intOf]; omega
          · clear he
            have t1 : ((k : Int) == 9) = false := by simp; omega
            go_wp2
            go_round
            case rel => first | exact ⟨k + 1, z', by omega, by go_num, rfl, by omega, hz3, by have := HI2.out; rw [if_neg hb8] at this; exact this⟩ | ((repeat apply Exists.intro); exact ⟨⟨k + 1, z', by omega, by go_num, rfl, by omega, hz3, by have := HI2.out; rw [if_neg hb8] at this; exact this⟩, rfl⟩)
            case measure => simp [intOf]; omega
    · go_wp2
      go_ret3
      obtain rfl : k = rest.length := by omega
      refine ⟨?_, rfl⟩
      have h1 := HD.out
      have h2 := hI.out
      rw [List.drop_of_length_le (Nat.le_refl _)] at h2
      rw [h1, ← h2]
      rfl

/-- codec.Int at any offset. -/
theorem Int_any (A : Option Addr) (l : List UInt8) (c : Nat) (at_ : Int) (w : World) (hA : Cs w A (B l)) (hlc : l.length ≤ c) (hc : c ≤ maxLen) :
    Calls Try.prog 12 #[.slice A l.length c, .int .i64 at_] w fun e w' => Ret3 (dI l at_) e ∧ w = w' := by
  have hl : (l.length : Int) ≤ 9223372036854775807 := by unfold maxLen at hc; omega
  by_cases h : at_ < 0 ∨ (l.length : Int) < at_
  · have e : dI l at_ = (0, 0, 6) := by unfold dI; rw [if_pos h]
    rw [e]
    exact Int_out A l c at_ w hl h
  · obtain ⟨k, rfl⟩ := Int.eq_ofNat_of_zero_le (show 0 ≤ at_ by omega)
    exact Int_in A l c k w hA hlc hc (by omega)

end Go.Proofs.Ytoejegphjlichaa
