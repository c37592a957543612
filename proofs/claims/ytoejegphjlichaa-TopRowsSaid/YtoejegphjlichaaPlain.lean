/- Plain laws of the encoding: what was put is read again, and what is read has exactly the bytes that are put for it. -/
import Derived.Test.YtoejegphjlichaaRedf
namespace Go.Proofs.Ytoejegphjlichaa
open Go.RowKit
set_option linter.unusedVariables false
set_option linter.unusedSimpArgs false

theorem pow9 {i z : Nat} (hi : i ≤ 9) (h : z * 128 ^ i < 18446744073709551616) : (i = 9 → z ≤ 1) ∧ (128 ≤ z → i < 9) := by
  have h9 : i = 9 → z ≤ 1 := by
    rintro rfl
    simp only [Nat.reducePow] at h
    omega
  refine ⟨h9, fun hz => ?_⟩
  rcases Nat.lt_or_ge i 9 with h1 | h1
  · exact h1
  · have := h9 (by omega); omega

theorem byte_small {z : Nat} (h : z < 256) : (UInt8.ofNat z).toNat = z := by simp; omega

theorem rI_put : ∀ (z i z0 : Nat) (y : List UInt8), i ≤ 9 → z * 128 ^ i < 18446744073709551616 → (0 < i → 0 < z) → rI i z0 (grp z ++ y) = .inr (z0 + z * 128 ^ i, i + (grp z).length) := by
  intro z
  induction z using Nat.strongRecOn with
  | ind z ih =>
    intro i z0 y hi hz hp
    obtain ⟨h9, h128⟩ := pow9 hi hz
    by_cases hlt : z < 128
    · rw [grp_small hlt]
      show rI i z0 (UInt8.ofNat z :: y) = _
      rw [rI, byte_small (by omega), if_neg (by omega), if_pos hlt, Nat.mod_eq_of_lt hlt]
      rfl
    · have hi9 := h128 (by omega)
      rw [grp_big (by omega)]
      show rI i z0 (UInt8.ofNat (z % 128 + 128) :: (grp (z / 128) ++ y)) = _
      have e : z % 128 * 128 ^ i + z / 128 * 128 ^ (i + 1) = z * 128 ^ i := by
        rw [Nat.pow_succ, Nat.mul_comm (128 ^ i) 128, ← Nat.mul_assoc, ← Nat.add_mul]
        congr 1
        omega
      rw [rI, byte_small (by omega), if_neg (by omega), if_neg (by omega), ih (z / 128) (by omega) (i + 1) _ y (by omega) (by omega) (by omega)]
      simp only [List.length_cons]
      rw [show (z % 128 + 128) % 128 = z % 128 by omega, Nat.add_assoc z0, e]
      congr 2
      omega

theorem dI_put (x y : List UInt8) {n : Int} (h1 : -9223372036854775808 ≤ n) (h2 : n < 9223372036854775808) : dI (x ++ (pI n ++ y)) x.length = (n, (x.length : Int) + (pI n).length, 0) := by
  have hz := zig_lt h1 h2
  have hr := rI_put (zig n) 0 0 y (by decide) (by simpa using hz) (by simp)
  unfold dI
  rw [if_neg (by simp only [List.length_append]; omega), show ((x.length : Nat) : Int).toNat = x.length from rfl, List.drop_left]
  unfold pI at *
  rw [hr]
  simp [unzig_zig]

theorem rI_back : ∀ (l : List UInt8) (i z0 zz k : Nat), rI i z0 l = .inr (zz, k) → ∃ z, zz = z0 + z * 128 ^ i ∧ l.take (k - i) = grp z ∧ i < k ∧ (0 < i → 0 < z)
  | [], i, z0, zz, k, h => by simp [rI] at h
  | c :: t, i, z0, zz, k, h => by
    have hc : c.toNat < 256 := UInt8.toNat_lt c
    rw [rI] at h
    split at h
    · cases h
    · rename_i hno
      split at h
      · rename_i hlt
        simp only [Sum.inr.injEq, Prod.mk.injEq] at h
        obtain ⟨rfl, rfl⟩ := h
        refine ⟨c.toNat, by rw [Nat.mod_eq_of_lt hlt], ?_, by omega, by omega⟩
        rw [show i + 1 - i = 1 by omega, grp_small hlt]
        simp
      · rename_i hge
        obtain ⟨z, rfl, ht, hk, hz⟩ := rI_back t (i + 1) _ zz k h
        have hz0 := hz (by omega)
        refine ⟨c.toNat % 128 + 128 * z, ?_, ?_, by omega, fun _ => by omega⟩
        · rw [Nat.pow_succ, Nat.add_assoc, Nat.add_mul]
          congr 2
          rw [Nat.mul_comm (128 ^ i) 128, ← Nat.mul_assoc, Nat.mul_comm z 128]
        · rw [grp_big (by omega), show k - i = (k - (i + 1)) + 1 by omega, List.take_succ_cons, ht]
          congr 1
          · apply UInt8.toNat_inj.1
            rw [byte_small (by omega)]
            omega
          · congr 1
            omega

theorem take_of {l : List UInt8} {a k : Nat} {e : List UInt8} (hk : a ≤ k) (h : (l.drop a).take (k - a) = e) : l.take k = l.take a ++ e := by
  rw [← h, show k = a + (k - a) by omega, List.take_add]
  simp

/-- What is read as an integer has exactly its bytes. -/
theorem dI_back {l : List UInt8} {a n k : Int} (h : dI l a = (n, k, 0)) : l.take k.toNat = l.take a.toNat ++ pI n := by
  have hok := dI_ok h
  unfold dI at h
  rw [if_neg (by omega)] at h
  revert h
  cases hr : rI 0 0 (l.drop a.toNat) with
  | inl e => intro h; rcases rI_err _ _ _ _ hr with rfl | rfl <;> simp at h
  | inr p =>
    obtain ⟨z, j⟩ := p
    intro h
    simp only [Prod.mk.injEq] at h
    obtain ⟨rfl, rfl, _⟩ := h
    obtain ⟨z', rfl, ht, hj, _⟩ := rI_back _ _ _ _ _ hr
    refine take_of (by omega) ?_
    unfold pI
    rw [zig_unzig, show (a + (j : Int)).toNat - a.toNat = j - 0 by omega, ht]
    simp

/-- A text that was put is read again. -/
theorem dT_put (x y s : List UInt8) {most : Int} (h : (s.length : Int) ≤ (if most < 0 then 0 else most)) (h2 : s.length ≤ 140737488355328) : dT (x ++ (pT s ++ y)) x.length most = (s, (x.length : Int) + (pT s).length, 0) := by
  have e : x ++ (pT s ++ y) = x ++ (pI s.length ++ (s ++ y)) := by simp [pT]
  have hI := dI_put x (s ++ y) (n := (s.length : Int)) (by omega) (by omega)
  unfold dT
  rw [e, hI]
  simp only [if_true]
  rw [if_neg (by omega), if_neg (by omega), if_neg (by simp only [List.length_append]; omega)]
  refine Prod.ext ?_ (Prod.ext ?_ rfl)
  · show ((x ++ (pI s.length ++ (s ++ y))).drop ((x.length : Int) + (pI s.length).length).toNat).take (s.length : Int).toNat = s
    rw [← List.append_assoc, show ((x.length : Int) + (pI s.length).length).toNat = (x ++ pI s.length).length by rw [List.length_append]; omega, List.drop_left]
    exact List.take_left
  · show (x.length : Int) + (pI s.length).length + s.length = _
    simp only [pT, List.length_append]
    omega

theorem dT_back {l : List UInt8} {a most k : Int} {s : List UInt8} (h : dT l a most = (s, k, 0)) : l.take k.toNat = l.take a.toNat ++ pT s := by
  unfold dT at h
  obtain ⟨r, hr⟩ : ∃ r, r = dI l a := ⟨_, rfl⟩
  obtain ⟨n, k0, e0⟩ := r
  rw [← hr] at h
  simp only at h
  by_cases he : e0 = 0
  · subst he
    have hok := dI_ok hr.symm
    have hb := dI_back hr.symm
    rw [if_pos rfl] at h
    by_cases h1 : n < 0
    · rw [if_pos h1] at h; simp at h
    · rw [if_neg h1] at h
      by_cases h2 : (if most < 0 then 0 else most) < n
      · rw [if_pos h2] at h; simp at h
      · rw [if_neg h2] at h
        by_cases h3 : (l.length : Int) - k0 < n
        · rw [if_pos h3] at h; simp at h
        · rw [if_neg h3] at h
          simp only [Prod.mk.injEq] at h
          obtain ⟨rfl, rfl, _⟩ := h
          have hl : ((l.drop k0.toNat).take n.toNat).length = n.toNat := by rw [List.length_take, List.length_drop]; omega
          have h4 : l.take (k0 + n).toNat = l.take k0.toNat ++ (l.drop k0.toNat).take n.toNat := take_of (by omega) (by rw [show (k0 + n).toNat - k0.toNat = n.toNat by omega])
          rw [h4, hb, pT, hl, List.append_assoc, show ((n.toNat : Nat) : Int) = n by omega]
  · rw [if_neg he] at h
    simp only [Prod.mk.injEq] at h
    omega

end Go.Proofs.Ytoejegphjlichaa
