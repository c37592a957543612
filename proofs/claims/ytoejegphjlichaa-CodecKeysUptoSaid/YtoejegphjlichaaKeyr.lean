/- The contract of the reference's Key: the key of any valid values. -/
import Derived.Test.YtoejegphjlichaaKeyp
namespace Go.Proofs.Ytoejegphjlichaa
open Go.RowKit
set_option linter.unusedVariables false
set_option linter.unusedSimpArgs false

/-- The unit of the j-th byte; 0 behind the last. -/
def un (j : Nat) : Nat := if j < 8 then 2 ^ (56 - 8 * j) else 0
theorem un_pos {j : Nat} (h : j < 8) : 0 < un j := by unfold un; rw [if_pos h]; exact Nat.pow_pos (by decide)

theorem un_cells {u U j : Nat} (hu : u < 18446744073709551616) (hj : j < 8) (hU : U = un j) : (#[.int .u8 ((IntKind.u64.wrap ((u : Int) / (U : Int))).tmod 256 % 256)] : Array Value).toList = B [beAt u j] := by
  unfold un at hU
  rw [if_pos hj] at hU
  have h1 : u / U ≤ u := Nat.div_le_self _ _
  have e1 : ((u : Int) / (U : Int)) = ((u / U : Nat) : Int) := by simp
  have e4 : beAt u j = UInt8.ofNat (u / U) := by rw [hU]; rfl
  rw [e1, e4]
  generalize u / U = q at h1
  have hq : q < 18446744073709551616 := by omega
  have e2 : IntKind.u64.wrap (q : Int) = (q : Int) := by rw [IntKind.wrap_u64]; omega
  have e3 : ((q : Int)).tmod 256 % 256 = ((UInt8.ofNat q).toNat : Int) := by
    rw [Int.tmod_eq_emod_of_nonneg (by omega)]
    simp
  rw [e2, e3]
  rfl
theorem un_wrap {U j : Nat} (hU : U = un j) (hj : j < 8) : IntKind.u64.wrap ((U : Int) / 256) = (un (j + 1) : Int) ∧ un (j + 1) < U := by
  subst hU
  rcases (by omega : j = 0 ∨ j = 1 ∨ j = 2 ∨ j = 3 ∨ j = 4 ∨ j = 5 ∨ j = 6 ∨ j = 7) with rfl | rfl | rfl | rfl | rfl | rfl | rfl | rfl <;> exact ⟨by rfl, by decide⟩

set_option maxRecDepth 100000 in
set_option maxHeartbeats 2000000 in
theorem RKey_any (A : Option Addr) (vs : List Val) (c : Nat) (w : World) (hf : ∀ v ∈ vs, v.Fits) (hval : vs.all vV = true) (hA : Cs w A (Row Val.cells vs)) (hn : vs.length ≤ 140737488355328) (hl : wt vs ≤ 140737488355328) :
    Calls Try.prog 20 #[.slice A vs.length c] w fun e w' => ∃ v', e = .returned v' ∧ Own w' w.heap.size v' (kR vs) ∧ Below w.heap.size w w' := by
  have HF := Lib.hid hf
  have HVV := Lib.hid hval
  clear hf hval
  have hn' : vs.length ≤ 9223372036854775807 := by omega
  go_enter Try.func20, Try.ntmps20
  go_wp2_with fail
  go_loopw [3, 10] (fun bv iv wr => ∃ (k : Nat), k ≤ vs.length ∧ iv = .int .i64 k ∧ Own wr w.heap.size bv (keyAcc vs k) ∧ Below w.heap.size w wr ∧ Cs wr A (Row Val.cells vs))
    (fun _ iv _ => vs.length - (intOf iv).toNat)
  case atStart => exact ⟨0, Nat.zero_le _, rfl, Own.nil _ _, Below.refl _ _, hA⟩
  case round =>
    obtain ⟨k, hk, rfl, hown, hbr, hCr⟩ := hrel
    by_cases hlt : k < vs.length
    · obtain ⟨v, hv⟩ : ∃ v, vs[k]? = some v := ⟨_, List.getElem?_eq_getElem hlt⟩
      obtain ⟨a, rfl, hc1, hc2, hc3⟩ := val_at hCr hv
      have hkl := keyAcc_len hv
      have hfv := HF.out v (List.mem_of_getElem? hv)
      have hvv : Hid (vV v = true) := by
        have := HVV.out
        rw [List.all_eq_true] at this
        exact this v (List.mem_of_getElem? hv)
      have hks := keyAcc_succ hv
      obtain ⟨kd, n, t⟩ := v
      simp only at hc1 hc2 hc3 hkl
      have HV := Lib.hid hv
      have HFV := Lib.hid hfv
      have HKS := Lib.hid hks
      clear hv hfv hks
      by_cases h1 : kd = 1
      · subst h1
        go_wp2_with (at_builtin; refine app_bytes rfl (.tmp 21) (.tmp 22) rfl _ _ rfl (hown.alloc _) _ [2] rfl rfl (by simp) rfl (by omega) (hbr.alloc hbr.size _) (by have := hbr.size; simp; omega) ?_; intro v1 w1 ho1 hb1 hs1 hg1 _; have hcx := box_kept hown hg1 1 _ rfl)
        have hcx : w1.cell? ⟨wr.heap.size, 1, none⟩ = some (.int .i64 n) := hcx
        go_wp2_with fail
        rw [u_key HFV.out.i1 HFV.out.i2]
        obtain ⟨u, hu⟩ : ∃ u : Nat, u = (n + 9223372036854775808).toNat := ⟨_, rfl⟩
        have hu9 : Hid (u < 18446744073709551616) := by have := HFV.out.i2; simp only at this; unfold Hid; omega
        have hkv : Hid (kV ⟨1, n, t⟩ = 2 :: be8 u) := by unfold Hid; rw [hu]; rfl
        rw [← hu]
        clear hu
        obtain ⟨wo, rfl⟩ : ∃ wo : World, wo = wr := ⟨_, rfl⟩
        go_loopw [3, 7] (fun bv sv wr => ∃ (j U : Nat), j ≤ 8 ∧ sv = .int .u64 (U : Int) ∧ Hid (U = un j) ∧ Own wr w.heap.size bv (keyAcc vs k ++ [2] ++ (be8 u).take j) ∧ Below w.heap.size w wr)
          (fun _ sv _ => (intOf sv).toNat)
        case atStart => exact ⟨0, un 0, by omega, rfl, rfl, by simpa using ho1, hb1⟩
        case round =>
          obtain ⟨j, U, hj, rfl, hU, hown2, hbr2⟩ := hrel
          by_cases hj8 : j < 8
          · have hU0 := un_pos hj8
            rw [← hU.out] at hU0
            have hUp : (0 : Int) < (U : Int) := by omega
            have hUs := un_wrap hU.out hj8
            obtain ⟨U2, hU2⟩ : ∃ U2, U2 = un (j + 1) := ⟨_, rfl⟩
            rw [← hU2] at hUs
            obtain ⟨hUw, hUl⟩ := hUs
            have HU2 := Lib.hid hU2
            clear hU2
            have HX : Hid ((#[.int .u8 ((IntKind.u64.wrap ((u : Int) / (U : Int))).tmod 256 % 256)] : Array Value).toList = B [beAt u j]) := un_cells hu9.out hj8 hU.out
            go_wp2_with (at_builtin; refine app_bytes rfl (.tmp 32) (.tmp 38) rfl _ _ rfl hown2 _ [beAt u j] HX.out rfl rfl rfl (by simp only [List.length_append, List.length_take, be8_len, List.length_cons, List.length_nil]; omega) hbr2 hbr2.size ?_; intro v2 w2 ho2 hb2 hs2 _ _)
            rw [List.append_assoc, ← be8_take hj8] at ho2
            go_roundw
            case rel => exact ⟨j + 1, U2, by omega, rfl, HU2.out, ho2, hb2⟩
            case measure => simp [intOf]; omega
          · obtain rfl : j = 8 := by omega
            have hU0 : U = 0 := hU.out
            subst hU0
            go_wp2_with fail
            have e : keyAcc vs k ++ [2] ++ (be8 u).take 8 = keyAcc vs (k + 1) := by
              rw [HKS.out, hkv.out, List.take_of_length_le (Nat.le_of_eq (be8_len u)), List.append_assoc]
              rfl
            rw [e] at hown2
            clear e
            go_roundw
            case rel => exact ⟨k + 1, by omega, by go_num, hown2, hbr2, hA.kept hbr2⟩
            case measure => simp [intOf]; omega
      · by_cases h2 : kd = 2
        · subst h2
          have hts := HFV.out.s
          simp only at hts
          have es : t.size = t.data.toList.length := by rw [Array.length_toList]; rfl
          have ES := Lib.hid es
          clear es
          go_wp2_with (first
            | (at_builtin; refine app_bytes rfl (.tmp 42) (.tmp 43) rfl _ _ rfl (hown.alloc _) _ [3] rfl rfl (by simp) rfl (by omega) (hbr.alloc hbr.size _) (by have := hbr.size; simp; omega) ?_; intro v1 w1 ho1 hb1 hs1 hg1 _; have hcx := box_kept hown hg1 2 _ rfl; have hcx : w1.cell? ⟨wr.heap.size, 2, none⟩ = some (.string t) := hcx; obtain ⟨A5, c5, w5, hrb, hb5, hC5, hsc⟩ := run_bytes w1 t)
            | (at_builtin; refine app_sl rfl (.tmp 45) (.tmp 48) rfl v1 _ rfl (ho1.kept hb5) A5 t.data.toList c5 (by rw [← ES.out]; rfl) hC5 (by simp only [List.length_append, List.length_cons, List.length_nil, ← ES.out]; omega) (below_comp hb1 hs1 hb5) (by have := hb5.size; omega) ?_; intro v2 w2 ho2 hb2 hs2 _ _)
            | (at_builtin; refine app_bytes rfl (.tmp 50) (.tmp 51) rfl _ _ rfl ho2 _ [0] rfl rfl rfl rfl (by have := ES.out; simp only [List.length_append, List.length_cons, List.length_nil]; omega) hb2 hs2 ?_; intro v3 w3 ho3 hb3 hs3 _ _))
          have e : keyAcc vs k ++ [3] ++ t.data.toList ++ [0] = keyAcc vs (k + 1) := by
            rw [HKS.out, List.append_assoc, List.append_assoc]
            rfl
          rw [e] at ho3
          clear e
          go_roundw
          case rel => exact ⟨k + 1, by omega, by go_num, ho3, hb3, hA.kept hb3⟩
          case measure => simp [intOf]; omega
        · by_cases h3 : kd = 3
          · subst h3
            have hvi : n = 0 ∨ n = 1 := by
              have := vV_cases hvv.out
              simp only at this
              omega
            have hn2 : Hid (n = 0 ∨ n = 1) := hvi
            clear hvi
            have HX : Hid ((#[.int .u8 4, .int .u8 (IntKind.u8.wrap (n.tmod 2))] : Array Value).toList = B [4, UInt8.ofNat (n % 256).toNat]) := by
              rcases hn2.out with rfl | rfl <;> rfl
            go_wp2_with (at_builtin; refine app_bytes rfl (.tmp 55) (.tmp 60) rfl _ _ rfl (hown.alloc _) _ [4, UInt8.ofNat (n % 256).toNat] HX.out rfl (by simp) rfl (by omega) (hbr.alloc hbr.size _) (by have := hbr.size; simp; omega) ?_; intro v1 w1 ho1 hb1 hs1 _ _)
            have e : keyAcc vs k ++ [4, UInt8.ofNat (n % 256).toNat] = keyAcc vs (k + 1) := by
              rw [HKS.out]
              rfl
            rw [e] at ho1
            clear e
            go_roundw
            case rel => exact ⟨k + 1, by omega, by go_num, ho1, hb1, hA.kept hb1⟩
            case measure => simp [intOf]; omega
          · have k1 : (kd == 1) = false := by simpa using h1
            have k2 : (kd == 2) = false := by simpa using h2
            have k3 : (kd == 3) = false := by simpa using h3
            have HE : Hid (keyAcc vs k ++ [1] = keyAcc vs (k + 1)) := by
              unfold Hid
              rw [HKS.out]
              unfold kV
              rw [if_neg h1, if_neg h2, if_neg h3]
            go_wp2_with (at_builtin; refine app_bytes rfl (.tmp 16) (.tmp 17) rfl _ _ rfl (hown.alloc _) _ [1] rfl rfl (by simp) rfl (by omega) (hbr.alloc hbr.size _) (by have := hbr.size; simp; omega) ?_; intro v1 w1 ho1 hb1 hs1 _ _)
            rw [HE.out] at ho1
            go_roundw
            case rel => exact ⟨k + 1, by omega, by go_num, ho1, hb1, hA.kept hb1⟩
            case measure => simp [intOf]; omega
    · go_wp2_with fail
      go_ret
      obtain rfl : k = vs.length := by omega
      rw [keyAcc_end] at hown
      exact ⟨_, rfl, hown, hbr⟩

end Go.Proofs.Ytoejegphjlichaa
