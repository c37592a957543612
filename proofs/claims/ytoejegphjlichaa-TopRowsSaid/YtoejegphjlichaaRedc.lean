/- The contracts of Text and Period, of package codec and of the reference: what is read from any bytes. -/
import Derived.Test.YtoejegphjlichaaRedb
import Derived.Test.YtoejegphjlichaaRefa
namespace Go.Proofs.Ytoejegphjlichaa
open Go.RowKit
set_option linter.unusedVariables false

theorem rI_range : ∀ (l : List UInt8) (i z zz k : Nat), i ≤ 9 → z < 128 ^ i → rI i z l = .inr (zz, k) → zz < 18446744073709551616 ∧ i < k ∧ k ≤ i + l.length
  | [], _, _, _, _, _, _, h => by simp [rI] at h
  | c :: t, i, z, zz, k, hi, hz, h => by
    rw [rI] at h
    have hc := c.toNat_lt
    split at h
    · cases h
    · rename_i hg
      have hps := pow_step hz hc
      split at h
      · rename_i hlt
        simp only [Sum.inr.injEq, Prod.mk.injEq] at h
        obtain ⟨rfl, rfl⟩ := h
        refine ⟨?_, by omega, by simp⟩
        by_cases h9 : i < 9
        · have h3 := pow_le9 (k := i + 1) (by omega)
          omega
        · have h4 := pow_le9 hi
          have h2 : c.toNat % 128 * 128 ^ i ≤ 1 * 128 ^ i := Nat.mul_le_mul_right _ (by omega)
          omega
      · have h9 : i < 9 := by omega
        have := rI_range t (i + 1) _ zz k (by omega) hps h
        simp only [List.length_cons]
        omega
theorem rI_err : ∀ (l : List UInt8) (i z : Nat) (e : Int), rI i z l = .inl e → e = 1 ∨ e = 2
  | [], _, _, e, h => by
    simp only [rI, Sum.inl.injEq] at h
    exact .inr h.symm
  | c :: t, i, z, e, h => by
    rw [rI] at h
    split at h
    · simp only [Sum.inl.injEq] at h
      exact .inl h.symm
    · split at h
      · cases h
      · exact rI_err t _ _ e h

/-- A number that was read: it fits, and the offset behind it lies in the bytes. -/
theorem dI_ok {l : List UInt8} {at_ n k : Int} (h : dI l at_ = (n, k, 0)) : 0 ≤ at_ ∧ at_ < k ∧ k ≤ l.length ∧ -9223372036854775808 ≤ n ∧ n < 9223372036854775808 := by
  unfold dI at h
  split at h
  · simp at h
  · rename_i hr
    split at h
    · rename_i e he
      rcases rI_err _ _ _ _ he with rfl | rfl <;> simp at h
    · rename_i z j hz
      simp only [Prod.mk.injEq] at h
      obtain ⟨rfl, rfl, _⟩ := h
      obtain ⟨h1, h2, h3⟩ := rI_range _ 0 0 z j (by omega) (by decide) hz
      rw [List.length_drop] at h3
      have := unzig_range h1
      omega
theorem dI_err {l : List UInt8} {at_ n k e : Int} (h : dI l at_ = (n, k, e)) (he : ¬ e = 0) : n = 0 ∧ k = 0 := by
  unfold dI at h
  split at h
  · simp only [Prod.mk.injEq] at h; omega
  · split at h
    · simp only [Prod.mk.injEq] at h; omega
    · simp only [Prod.mk.injEq] at h; omega

/-- The text at an offset, the offset after it, the error. -/
def dT (l : List UInt8) (at_ most : Int) : List UInt8 × Int × Int :=
  let r := dI l at_
  if r.2.2 = 0 then if r.1 < 0 then ([], 0, 1) else if (if most < 0 then 0 else most) < r.1 then ([], 0, 5) else if (l.length : Int) - r.2.1 < r.1 then ([], 0, 2) else ((l.drop r.2.1.toNat).take r.1.toNat, r.2.1 + r.1, 0)
  else ([], 0, r.2.2)

/-- The call has returned a text and two numbers. -/
def RetT (r : List UInt8 × Int × Int) (e : Ending) : Prop := e = .returned (.tuple #[.string ⟨r.1.toArray⟩, .int .i64 r.2.1, .int .i64 r.2.2])

theorem run_mid {w : World} (A : Option Addr) (n c i j : Nat) (hi : i ≤ j) (hj : j ≤ c) (hc : (c : Int) ≤ 9223372036854775807) : (Instr.slice 22 (.slice A n c) (some (.int .i64 i)) (some (.int .i64 j)) none).run Try.prog w = .ok (.slice (if c = i then A else A.map (·.add i)) (j - i) (c - i)) w := by
  obtain ⟨i', hi', hz, hs, hb⟩ := info_parts infoByte
  simp [Instr.slice, Instr.sliceBounds, Instr.sliceBound, asIntOf, run_underlying Try.underlying22, sizeOf, typeInfo, hi', hi, hj, hs]

set_option maxRecDepth 100000 in
set_option maxHeartbeats 2000000 in
theorem Text_any (A : Option Addr) (l : List UInt8) (c : Nat) (at_ most : Int) (w : World) (hA : Cs w A (B l)) (hlc : l.length ≤ c) (hc : c ≤ maxLen) :
    Calls Try.prog 29 #[.slice A l.length c, .int .i64 at_, .int .i64 most] w fun e w' => RetT (dT l at_ most) e ∧ w = w' := by
  have hm9 : (c : Int) ≤ 9223372036854775807 := by unfold maxLen at hc; omega
  obtain ⟨r, hr⟩ : ∃ r, r = dI l at_ := ⟨_, rfl⟩
  obtain ⟨n, k, e0⟩ := r
  have HT : Hid (dT l at_ most = if e0 = 0 then if n < 0 then ([], 0, 1) else if (if most < 0 then 0 else most) < n then ([], 0, 5) else if (l.length : Int) - k < n then ([], 0, 2) else ((l.drop k.toNat).take n.toNat, k + n, 0) else ([], 0, e0)) := by
    unfold Hid dT
    rw [← hr]
  by_cases he : e0 = 0
  · subst he
    have hok := dI_ok hr.symm
    have HR := Lib.hid hr
    clear hr
    obtain ⟨k, rfl⟩ := Int.eq_ofNat_of_zero_le (show 0 ≤ k by omega)
    have hkl : k ≤ l.length := by omega
    have hk9 : (k : Int) ≤ 9223372036854775807 := by omega
    have hl9 : (l.length : Int) ≤ 9223372036854775807 := by omega
    rw [if_pos rfl] at HT
    by_cases hn : n < 0
    · have HT2 : Hid (dT l at_ most = ([], 0, 1)) := by unfold Hid at *; rw [HT, if_pos hn]
      clear hok HT
      go_enter Try.func29, Try.ntmps29
      go_wp2_with fail
      refine (Int_any A l c at_ w hA hlc hc).mono ?_
      rintro e w1 ⟨hr1, rfl⟩
      rw [← HR.out] at hr1
      unfold Ret3 at hr1
      subst hr1
      go_wp2
      go_ret3
      exact ⟨by rw [HT2.out]; rfl, rfl⟩
    · obtain ⟨n, rfl⟩ := Int.eq_ofNat_of_zero_le (show 0 ≤ n by omega)
      have HT1 : Hid (dT l at_ most = if (if most < 0 then 0 else most) < (n : Int) then ([], 0, 5) else if (l.length : Int) - k < n then ([], 0, 2) else ((l.drop k).take n, (k : Int) + n, 0)) := by
        unfold Hid at *
        rw [HT, if_neg hn]
        rfl
      have hn9 : (n : Int) ≤ 9223372036854775807 := by omega
      clear hok HT
      by_cases hmo : most < 0
      all_goals
        by_cases hmx : (if most < 0 then 0 else most) < (n : Int)
        · have HT2 : Hid (dT l at_ most = ([], 0, 5)) := by unfold Hid at *; rw [HT1, if_pos hmx]
          first | rw [if_pos hmo] at hmx | rw [if_neg hmo] at hmx
          go_enter Try.func29, Try.ntmps29
          go_wp2_with fail
          refine (Int_any A l c at_ w hA hlc hc).mono ?_
          rintro e w1 ⟨hr1, rfl⟩
          rw [← HR.out] at hr1
          unfold Ret3 at hr1
          subst hr1
          go_wp2
          go_ret3
          exact ⟨by rw [HT2.out]; rfl, rfl⟩
        · by_cases hle : (l.length : Int) - k < n
          · have HT2 : Hid (dT l at_ most = ([], 0, 2)) := by unfold Hid at *; rw [HT1, if_neg hmx, if_pos hle]
            first | rw [if_pos hmo] at hmx | rw [if_neg hmo] at hmx
            go_enter Try.func29, Try.ntmps29
            go_wp2_with fail
            refine (Int_any A l c at_ w hA hlc hc).mono ?_
            rintro e w1 ⟨hr1, rfl⟩
            rw [← HR.out] at hr1
            unfold Ret3 at hr1
            subst hr1
            go_wp2
            all_goals (go_ret3; exact ⟨by rw [HT2.out]; rfl, rfl⟩)
          · have HT2 : Hid (dT l at_ most = ((l.drop k).take n, (k : Int) + n, 0)) := by unfold Hid at *; rw [HT1, if_neg hmx, if_neg hle]
            first | rw [if_pos hmo] at hmx | rw [if_neg hmo] at hmx
            have hkn : k + n ≤ l.length := by omega
            have hsl := fun w => run_mid (w := w) A l.length c k (k + n) (by omega) (by omega) hm9
            have hC := ((hA.drop k c (by rw [B_length]; exact hlc)).take n)
            rw [B_drop, B_take] at hC
            have hln : ((l.drop k).take n).length = n := by rw [List.length_take, List.length_drop]; omega
            have hcv := run_string hC 22 9 5 Try.underlying22 Try.underlying5 Try.underlying9 (c - k)
            rw [hln] at hcv
            rw [show k + n - k = n by omega, show ((k + n : Nat) : Int) = (k : Int) + n by omega] at hsl
            obtain ⟨s, hs⟩ : ∃ s, s = (l.drop k).take n := ⟨_, rfl⟩
            rw [← hs] at hcv HT2
            revert hsl hcv
            generalize (if c = k then A else A.map (·.add k)) = A2
            intro hsl hcv
            clear hs hln hC
            go_enter Try.func29, Try.ntmps29
            go_wp2_with fail
            refine (Int_any A l c at_ w hA hlc hc).mono ?_
            rintro e w1 ⟨hr1, rfl⟩
            rw [← HR.out] at hr1
            unfold Ret3 at hr1
            subst hr1
            go_wp2
            go_ret3
            exact ⟨by rw [HT2.out]; rfl, rfl⟩
  · obtain ⟨rfl, rfl⟩ := dI_err hr.symm he
    have HR := Lib.hid hr
    clear hr
    have HT2 : Hid (dT l at_ most = ([], 0, e0)) := by unfold Hid at *; rw [HT, if_neg he]
    have t1 : (e0 != 0) = true := by simpa using he
    clear HT
    go_enter Try.func29, Try.ntmps29
    go_wp2_with fail
    refine (Int_any A l c at_ w hA hlc hc).mono ?_
    rintro e w1 ⟨hr1, rfl⟩
    rw [← HR.out] at hr1
    unfold Ret3 at hr1
    subst hr1
    go_wp2
    go_ret3
    exact ⟨by rw [HT2.out]; rfl, rfl⟩

set_option maxRecDepth 100000 in
set_option maxHeartbeats 2000000 in
theorem RText_any (A : Option Addr) (l : List UInt8) (c : Nat) (at_ most : Int) (w : World) (hA : Cs w A (B l)) (hlc : l.length ≤ c) (hc : c ≤ maxLen) :
    Calls Try.prog 30 #[.slice A l.length c, .int .i64 at_, .int .i64 most] w fun e w' => RetT (dT l at_ most) e ∧ w = w' := by
  have hm9 : (c : Int) ≤ 9223372036854775807 := by unfold maxLen at hc; omega
  obtain ⟨r, hr⟩ : ∃ r, r = dI l at_ := ⟨_, rfl⟩
  obtain ⟨n, k, e0⟩ := r
  have HT : Hid (dT l at_ most = if e0 = 0 then if n < 0 then ([], 0, 1) else if (if most < 0 then 0 else most) < n then ([], 0, 5) else if (l.length : Int) - k < n then ([], 0, 2) else ((l.drop k.toNat).take n.toNat, k + n, 0) else ([], 0, e0)) := by
    unfold Hid dT
    rw [← hr]
  by_cases he : e0 = 0
  · subst he
    have hok := dI_ok hr.symm
    have HR := Lib.hid hr
    clear hr
    obtain ⟨k, rfl⟩ := Int.eq_ofNat_of_zero_le (show 0 ≤ k by omega)
    have hkl : k ≤ l.length := by omega
    have hk9 : (k : Int) ≤ 9223372036854775807 := by omega
    have hl9 : (l.length : Int) ≤ 9223372036854775807 := by omega
    rw [if_pos rfl] at HT
    by_cases hn : n < 0
    · have HT2 : Hid (dT l at_ most = ([], 0, 1)) := by unfold Hid at *; rw [HT, if_pos hn]
      clear hok HT
      go_enter Try.func30, Try.ntmps30
      go_wp2_with fail
      refine (RInt_any A l c at_ w hA hlc hc).mono ?_
      rintro e w1 ⟨hr1, rfl⟩
      rw [← HR.out] at hr1
      unfold Ret3 at hr1
      subst hr1
      go_wp2
      go_ret3
      exact ⟨by rw [HT2.out]; rfl, rfl⟩
    · obtain ⟨n, rfl⟩ := Int.eq_ofNat_of_zero_le (show 0 ≤ n by omega)
      have HT1 : Hid (dT l at_ most = if (if most < 0 then 0 else most) < (n : Int) then ([], 0, 5) else if (l.length : Int) - k < n then ([], 0, 2) else ((l.drop k).take n, (k : Int) + n, 0)) := by
        unfold Hid at *
        rw [HT, if_neg hn]
        rfl
      have hn9 : (n : Int) ≤ 9223372036854775807 := by omega
      clear hok HT
      by_cases hmo : most < 0
      all_goals
        by_cases hmx : (if most < 0 then 0 else most) < (n : Int)
        · have HT2 : Hid (dT l at_ most = ([], 0, 5)) := by unfold Hid at *; rw [HT1, if_pos hmx]
          first | rw [if_pos hmo] at hmx | rw [if_neg hmo] at hmx
          go_enter Try.func30, Try.ntmps30
          go_wp2_with fail
          refine (RInt_any A l c at_ w hA hlc hc).mono ?_
          rintro e w1 ⟨hr1, rfl⟩
          rw [← HR.out] at hr1
          unfold Ret3 at hr1
          subst hr1
          go_wp2
          go_ret3
          exact ⟨by rw [HT2.out]; rfl, rfl⟩
        · by_cases hle : (l.length : Int) - k < n
          · have HT2 : Hid (dT l at_ most = ([], 0, 2)) := by unfold Hid at *; rw [HT1, if_neg hmx, if_pos hle]
            first | rw [if_pos hmo] at hmx | rw [if_neg hmo] at hmx
            go_enter Try.func30, Try.ntmps30
            go_wp2_with fail
            refine (RInt_any A l c at_ w hA hlc hc).mono ?_
            rintro e w1 ⟨hr1, rfl⟩
            rw [← HR.out] at hr1
            unfold Ret3 at hr1
            subst hr1
            go_wp2
            all_goals (go_ret3; exact ⟨by rw [HT2.out]; rfl, rfl⟩)
          · have HT2 : Hid (dT l at_ most = ((l.drop k).take n, (k : Int) + n, 0)) := by unfold Hid at *; rw [HT1, if_neg hmx, if_neg hle]
            first | rw [if_pos hmo] at hmx | rw [if_neg hmo] at hmx
            have hkn : k + n ≤ l.length := by omega
            have hsl := fun w => run_mid (w := w) A l.length c k (k + n) (by omega) (by omega) hm9
            have hC := ((hA.drop k c (by rw [B_length]; exact hlc)).take n)
            rw [B_drop, B_take] at hC
            have hln : ((l.drop k).take n).length = n := by rw [List.length_take, List.length_drop]; omega
            have hcv := run_string hC 22 9 5 Try.underlying22 Try.underlying5 Try.underlying9 (c - k)
            rw [hln] at hcv
            rw [show k + n - k = n by omega, show ((k + n : Nat) : Int) = (k : Int) + n by omega] at hsl
            obtain ⟨s, hs⟩ : ∃ s, s = (l.drop k).take n := ⟨_, rfl⟩
            rw [← hs] at hcv HT2
            revert hsl hcv
            generalize (if c = k then A else A.map (·.add k)) = A2
            intro hsl hcv
            clear hs hln hC
            go_enter Try.func30, Try.ntmps30
            go_wp2_with fail
            refine (RInt_any A l c at_ w hA hlc hc).mono ?_
            rintro e w1 ⟨hr1, rfl⟩
            rw [← HR.out] at hr1
            unfold Ret3 at hr1
            subst hr1
            go_wp2
            go_ret3
            exact ⟨by rw [HT2.out]; rfl, rfl⟩
  · obtain ⟨rfl, rfl⟩ := dI_err hr.symm he
    have HR := Lib.hid hr
    clear hr
    have HT2 : Hid (dT l at_ most = ([], 0, e0)) := by unfold Hid at *; rw [HT, if_neg he]
    have t1 : (e0 != 0) = true := by simpa using he
    clear HT
    go_enter Try.func30, Try.ntmps30
    go_wp2_with fail
    refine (RInt_any A l c at_ w hA hlc hc).mono ?_
    rintro e w1 ⟨hr1, rfl⟩
    rw [← HR.out] at hr1
    unfold Ret3 at hr1
    subst hr1
    go_wp2
    go_ret3
    exact ⟨by rw [HT2.out]; rfl, rfl⟩

end Go.Proofs.Ytoejegphjlichaa
