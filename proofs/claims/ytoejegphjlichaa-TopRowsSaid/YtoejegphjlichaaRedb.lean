/- The contract of the reference's Int: the same integer as codec.Int's is read. -/
import Derived.Test.YtoejegphjlichaaReda
namespace Go.Proofs.Ytoejegphjlichaa
open Go.RowKit
set_option linter.unusedVariables false

set_option maxRecDepth 100000 in
set_option maxHeartbeats 2000000 in
theorem RInt_out (A : Option Addr) (l : List UInt8) (c : Nat) (at_ : Int) (w : World) (hl : (l.length : Int) ≤ 9223372036854775807) (h : at_ < 0 ∨ (l.length : Int) < at_) :
    Calls Try.prog 13 #[.slice A l.length c, .int .i64 at_] w fun e w' => e = .returned (.tuple #[.int .i64 0, .int .i64 0, .int .i64 6]) ∧ w = w' := by
  rcases h with h | h
  · go_enter Try.func13, Try.ntmps13
    go_wp2
    go_ret3
    exact ⟨rfl, rfl⟩
  · have h' : ¬ at_ < 0 := by omega
    go_enter Try.func13, Try.ntmps13
    go_wp2
    go_ret3
    exact ⟨rfl, rfl⟩

set_option maxRecDepth 100000 in
set_option maxHeartbeats 1000000 in
theorem RInt_in (A : Option Addr) (l : List UInt8) (c k0 : Nat) (w : World) (hA : Cs w A (B l)) (hlc : l.length ≤ c) (hc : c ≤ maxLen) (hk0 : k0 ≤ l.length) :
    Calls Try.prog 13 #[.slice A l.length c, .int .i64 k0] w fun e w' => Ret3 (dI l k0) e ∧ w = w' := by
  unfold maxLen at hc
  obtain ⟨rest, hrest⟩ : ∃ rest, rest = l.drop k0 := ⟨_, rfl⟩
  have hrl : rest.length = l.length - k0 := by rw [hrest, List.length_drop]
  have HD : Hid (dI l k0 = match rI 0 0 rest with | .inl e => (0, 0, e) | .inr (z, k) => (unzig z, (k0 : Int) + k, 0)) := by
    unfold Hid dI
    rw [if_neg (by omega), hrest]
    rfl
  have HRest := Lib.hid hrest
  clear hrest
  have HRL := Lib.hid hrl
  clear hrl
  have hr9 : rest.length ≤ 9223372036854775807 := by have := HRL.out; omega
  have hk9 : (k0 : Int) ≤ 9223372036854775807 := by omega
  have hs1 : decide ((k0 : Int) < 0) = false := by simp
  have hs2 : decide (l.length < k0) = false := by simp; omega
  go_enter Try.func13, Try.ntmps13
  go_wp2
  go_loop [7, 8, 9] (fun uv nv iv => ∃ (k z u : Nat), k ≤ rest.length ∧ iv = .int .i64 k ∧ uv = .int .u64 z ∧ nv = .int .u64 u ∧ k ≤ 9 ∧ Hid (u = 128 ^ k) ∧ Hid (z < 128 ^ k) ∧ Hid (rI k z (rest.drop k) = rI 0 0 rest)) (fun _ _ iv => rest.length - (intOf iv).toNat)
  case atStart => exact ⟨0, 0, 1, Nat.zero_le _, rfl, rfl, rfl, by omega, by unfold Hid; decide, by unfold Hid; decide, by simp [Hid]⟩
  case round =>
    obtain ⟨k, z, u, hk, rfl, rfl, rfl, hk9', hu, hz, hI⟩ := hrel
    by_cases hlt : k < rest.length
    · have hbk : (k0 : Int) + (k : Int) ≤ 9223372036854775806 := by have := HRL.out; omega
      have hlt2 : k0 + k < l.length := by have := HRL.out; omega
      obtain ⟨a, rfl, hcell⟩ := byte_at hA hlt2
      obtain ⟨m, hm⟩ : ∃ m : UInt8, m = l.getD (k0 + k) 0 := ⟨_, rfl⟩
      rw [← hm] at hcell
      have hm8 := m.toNat_lt
      obtain ⟨b, hb⟩ : ∃ b : Nat, b = m.toNat := ⟨_, rfl⟩
      rw [← hb] at hcell hm8
      have hdr : rest.drop k = m :: rest.drop (k + 1) := by
        have hm2 : m = rest.getD k 0 := by rw [hm, HRest.out, List.getD_eq_getElem?_getD, List.getD_eq_getElem?_getD, List.getElem?_drop]
        rw [hm2, List.drop_eq_getElem_cons hlt, List.getD_eq_getElem?_getD, List.getElem?_eq_getElem hlt]
        rfl
      rw [hdr] at hI
      have HI : Hid ((if k = 9 ∧ 1 < b ∨ 0 < k ∧ b = 0 then Sum.inl 1 else if b < 128 then .inr (z + b % 128 * 128 ^ k, k + 1) else rI (k + 1) (z + b % 128 * 128 ^ k) (rest.drop (k + 1))) = rI 0 0 rest) := by rw [hb]; exact hI
      clear hI hdr hm hb m
      have hkk : (k = 9 ∧ 1 < b ∨ 0 < k ∧ b = 0) ↔ (9 ≤ k ∧ 1 < b ∨ 0 < k ∧ b < 1) := by omega
      have HI := HI.out
      simp only [hkk] at HI
      have HI := Lib.hid HI
      clear hkk
      by_cases he : 9 ≤ k ∧ 1 < b ∨ 0 < k ∧ b < 1
      · have hE : Hid (dI l k0 = (0, 0, 1)) := by
          unfold Hid at *
          rw [if_pos he] at HI
          rw [HD, ← HI]
        by_cases h9 : k < 9
        · have h0 : 0 < k ∧ b < 1 := by omega
          clear he
          obtain ⟨h0, h1⟩ := h0
          have t1 : ((k : Int) == 9) = false := by simp; omega
          have t2 : ((b : Int) == 0) = true := by simp; omega
          go_wp2
          go_ret3
          exact ⟨by rw [hE.out]; rfl, rfl⟩
        · by_cases h1 : b < 1
          · have h0 : 0 < k := by omega
            clear he
            have t1 : ((k : Int) == 9) = true := by simp; omega
            have t2 : ((b : Int) == 0) = true := by simp; omega
            go_wp2
            go_ret3
            exact ⟨by rw [hE.out]; rfl, rfl⟩
          · have h0 : 1 < b := by omega
            clear he
            have t1 : ((k : Int) == 9) = true := by simp; omega
            go_wp2
            go_ret3
            exact ⟨by rw [hE.out]; rfl, rfl⟩
      · have hp9 := pow_le9 hk9'
        have hps : b % 128 * 128 ^ k < 18446744073709551616 := by
          by_cases h9 : k < 9
          · have h1 : b % 128 * 128 ^ k ≤ 127 * 128 ^ k := Nat.mul_le_mul_right _ (by omega)
            have h2 : (128 : Nat) ^ k ≤ 128 ^ 8 := Nat.pow_le_pow_right (by decide) (by omega)
            have h3 : (128 : Nat) ^ 8 = 72057594037927936 := by decide
            omega
          · have h1 : b % 128 * 128 ^ k ≤ 1 * 128 ^ k := Nat.mul_le_mul_right _ (by omega)
            omega
        have hz2 : Hid (z + b % 128 * 128 ^ k < 18446744073709551616) := by
          have h1 := hz.out
          unfold Hid
          by_cases h9 : k < 9
          · have h2 := pow_step h1 hm8
            have h3 := pow_le9 (k := k + 1) (by omega)
            omega
          · have h2 : b % 128 * 128 ^ k ≤ 1 * 128 ^ k := Nat.mul_le_mul_right _ (by omega)
            omega
        have hz3 : Hid (z + b % 128 * 128 ^ k < 128 ^ (k + 1)) := pow_step hz.out hm8
        have hU0 := add_step (b := b) hu.out hz2.out
        have HI2 : Hid ((if b < 128 then Sum.inr (z + b % 128 * 128 ^ k, k + 1) else rI (k + 1) (z + b % 128 * 128 ^ k) (rest.drop (k + 1))) = rI 0 0 rest) := by
          have := HI.out
          rw [if_neg he] at this
          exact this
        clear HI hps hp9
        have hu2 : k < 9 → Hid (IntKind.u64.wrap ((u : Int) * 128) = ((128 ^ (k + 1) : Nat) : Int)) := fun h9 => by
          have h1 := pow_le9 (k := k + 1) (by omega)
          have h2 := hu.out
          unfold Hid
          rw [IntKind.wrap_u64, h2]
          rw [Nat.pow_succ] at h1 ⊢
          omega
        revert hU0 hz2 hz3 HI2
        generalize z + b % 128 * 128 ^ k = z'
        intro hz2 hz3 hU0 HI2
        by_cases hb8 : b < 128
        · have hE : Hid (dI l k0 = (unzig z', (k0 : Int) + k + 1, 0)) := by
            unfold Hid at *
            rw [if_pos hb8] at HI2
            rw [HD, ← HI2, Int.add_assoc]
            rfl
          by_cases h9 : k < 9
          · by_cases h0 : 0 < k
            · have h1 : 0 < b := by omega
              clear he hu2
              by_cases hp : z' % 2 = 1
              · have t3 : ((z' : Int) % 2 == 1) = true := by simp; omega
                have HP := Lib.hid hp
                clear hp
                go_wp2
                rw [unzig_odd hz2.out HP.out]
                go_ret3
                exact ⟨by rw [hE.out]; rfl, rfl⟩
              · have t3 : ((z' : Int) % 2 == 1) = false := by simp; omega
                have HP := Lib.hid hp
                clear hp
                go_wp2
                rw [unzig_even hz2.out HP.out]
                go_ret3
                exact ⟨by rw [hE.out]; rfl, rfl⟩
            · have t1 : ((k : Int) == 9) = false := by simp; omega
              clear he hu2
              by_cases hp : z' % 2 = 1
              · have t3 : ((z' : Int) % 2 == 1) = true := by simp; omega
                have HP := Lib.hid hp
                clear hp
                go_wp2
                rw [unzig_odd hz2.out HP.out]
                go_ret3
                exact ⟨by rw [hE.out]; rfl, rfl⟩
              · have t3 : ((z' : Int) % 2 == 1) = false := by simp; omega
                have HP := Lib.hid hp
                clear hp
                go_wp2
                rw [unzig_even hz2.out HP.out]
                go_ret3
                exact ⟨by rw [hE.out]; rfl, rfl⟩
          · have h1 : b ≤ 1 := by omega
            have h2 : 0 < b := by omega
            have h0 : 0 < k := by omega
            have t1 : ((k : Int) == 9) = true := by simp; omega
            have t2 : ((b : Int) == 0) = false := by simp; omega
            clear he hu2
            by_cases hp : z' % 2 = 1
            · have t3 : ((z' : Int) % 2 == 1) = true := by simp; omega
              have HP := Lib.hid hp
              clear hp
              go_wp2
              rw [unzig_odd hz2.out HP.out]
              go_ret3
              exact ⟨by rw [hE.out]; rfl, rfl⟩
            · have t3 : ((z' : Int) % 2 == 1) = false := by simp; omega
              have HP := Lib.hid hp
              clear hp
              go_wp2
              rw [unzig_even hz2.out HP.out]
              go_ret3
              exact ⟨by rw [hE.out]; rfl, rfl⟩
        · have h9 : k < 9 := by omega
          by_cases h0 : 0 < k
          · have h1 : 0 < b := by omega
            have t1 : ((k : Int) == 9) = false := by simp; omega
            have t2 : ((b : Int) == 0) = false := by simp; omega
            have hu3 := hu2 h9
            clear he hu2
            go_wp2
            rw [hu3.out]
            go_round
            case rel => first | exact ⟨k + 1, z', 128 ^ (k + 1), by omega, by go_num, rfl, rfl, by omega, rfl, hz3, by have := HI2.out; rw [if_neg hb8] at this; exact this⟩ | ((repeat apply Exists.intro); exact ⟨⟨k + 1, z', 128 ^ (k + 1), by omega, by go_num, rfl, rfl, by omega, rfl, hz3, by have := HI2.out; rw [if_neg hb8] at this; exact this⟩, rfl⟩)
            case measure => simp [intOf]; omega
          · clear he
            have t1 : ((k : Int) == 9) = false := by simp; omega
            have hu3 := hu2 h9
            clear hu2
            go_wp2
            rw [hu3.out]
            go_round
            case rel => first | exact ⟨k + 1, z', 128 ^ (k + 1), by omega, by go_num, rfl, rfl, by omega, rfl, hz3, by have := HI2.out; rw [if_neg hb8] at this; exact this⟩ | ((repeat apply Exists.intro); exact ⟨⟨k + 1, z', 128 ^ (k + 1), by omega, by go_num, rfl, rfl, by omega, rfl, hz3, by have := HI2.out; rw [if_neg hb8] at this; exact this⟩, rfl⟩)
            case measure => simp [intOf]; omega
    · have hlt2 : l.length ≤ k0 + k := by have := HRL.out; omega
      have hbk : (k0 : Int) + (k : Int) ≤ 9223372036854775807 := by have := HRL.out; omega
      go_wp2
      go_ret3
      obtain rfl : k = rest.length := by omega
      refine ⟨?_, rfl⟩
      have h1 := HD.out
      have h2 := hI.out
      rw [List.drop_of_length_le (Nat.le_refl _)] at h2
      rw [h1, ← h2]
      rfl

/-- bitemporalref09.Int at any offset. -/
theorem RInt_any (A : Option Addr) (l : List UInt8) (c : Nat) (at_ : Int) (w : World) (hA : Cs w A (B l)) (hlc : l.length ≤ c) (hc : c ≤ maxLen) :
    Calls Try.prog 13 #[.slice A l.length c, .int .i64 at_] w fun e w' => Ret3 (dI l at_) e ∧ w = w' := by
  have hl : (l.length : Int) ≤ 9223372036854775807 := by unfold maxLen at hc; omega
  by_cases h : at_ < 0 ∨ (l.length : Int) < at_
  · have e : dI l at_ = (0, 0, 6) := by unfold dI; rw [if_pos h]
    rw [e]
    exact RInt_out A l c at_ w hl h
  · obtain ⟨k, rfl⟩ := Int.eq_ofNat_of_zero_le (show 0 ≤ at_ by omega)
    exact RInt_in A l c k w hA hlc hc (by omega)


end Go.Proofs.Ytoejegphjlichaa
