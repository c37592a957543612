/- The contracts of the law's rows (on equal rows) and valid, and of the reference's ValidRow. -/
import Derived.Test.YtoejegphjlichaaVala
import Derived.Test.YtoejegphjlichaaCodd
import Derived.BigRegion
namespace Go.Proofs.Ytoejegphjlichaa
open Go.RowKit
set_option linter.unusedVariables false
set_option linter.unusedSimpArgs false

set_option maxRecDepth 100000 in
set_option maxHeartbeats 2000000 in
theorem rows_same (A : Option Addr) (vs : List Val) (c : Nat) (A2 : Option Addr) (c2 : Nat) (w : World) (hA : Cs w A (Row Val.cells vs)) (hA2 : Cs w A2 (Row Val.cells vs)) (hn' : vs.length ≤ 9223372036854775807) :
    Calls Try.prog 46 #[.slice A vs.length c, .slice A2 vs.length c2] w fun e w' => e = .returned (.bool true) ∧ Below w.heap.size w w' := by
  go_enter Try.func46, Try.ntmps46
  go_wp2_with fail
  go_loopw [13] (fun iv wr => ∃ (k : Nat), k ≤ vs.length ∧ iv = .int .i64 k ∧ Below w.heap.size w wr)
    (fun iv _ => vs.length - (intOf iv).toNat)
  case atStart => exact ⟨0, Nat.zero_le _, rfl, Below.refl _ _⟩
  case round =>
    obtain ⟨k, hk, rfl, hbr⟩ := hrel
    by_cases hlt : k < vs.length
    · obtain ⟨v, hv⟩ : ∃ v, vs[k]? = some v := ⟨_, List.getElem?_eq_getElem hlt⟩
      obtain ⟨a, rfl, hc1, hc2, hc3⟩ := val_at (hA.kept hbr) hv
      obtain ⟨b, rfl, hd1, hd2, hd3⟩ := val_at (hA2.kept hbr) hv
      obtain ⟨vk, vi, vt⟩ := v
      simp only at hc1 hc2 hc3 hd1 hd2 hd3
      clear hv
      go_wp2_with fail
      go_region
      go_wp2_with fail
      go_roundw
      case rel => exact ⟨k + 1, by omega, by go_num, hbr.drew⟩
      case measure => simp [intOf]; omega
    · go_wp2_with fail
      go_ret
      exact ⟨rfl, hbr⟩

theorem all_bad {vs : List Val} {k : Nat} {v : Val} (hv : vs[k]? = some v) (h : vV v = false) : vs.all vV = false := by
  rw [List.all_eq_false]
  exact ⟨v, List.mem_of_getElem? hv, by simp [h]⟩
theorem all_step {vs : List Val} {k : Nat} {v : Val} (hv : vs[k]? = some v) (h0 : (vs.take k).all vV = true) (h : vV v = true) : (vs.take (k + 1)).all vV = true := by
  rw [List.take_add_one, hv]
  simp only [List.all_append, h0, Option.toList_some, List.all_cons, h, List.all_nil, Bool.and_self]
/-- A valid row. -/
def vRow (vs : List Val) : Bool := vs.all vV && decide (vs.length ≤ 12)

set_option maxRecDepth 100000 in
set_option maxHeartbeats 2000000 in
theorem RValidRow_any (A : Option Addr) (vs : List Val) (c : Nat) (w : World) (hA : Cs w A (Row Val.cells vs)) (hs : ∀ v ∈ vs, v.text.size ≤ maxLen) (hn : vs.length ≤ 140737488355328) :
    Calls Try.prog 47 #[.slice A vs.length c] w fun e w' => e = .returned (.bool (vRow vs)) ∧ Below w.heap.size w w' := by
  have hn' : vs.length ≤ 9223372036854775807 := by omega
  have HS := Lib.hid hs
  clear hs
  obtain ⟨R, hR⟩ : ∃ R, R = vRow vs := ⟨_, rfl⟩
  rw [← hR]
  have HR := Lib.hid hR
  clear hR
  go_enter Try.func47, Try.ntmps47
  go_wp2_with fail
  go_loopw [7] (fun iv wr => ∃ (k : Nat), k ≤ vs.length ∧ iv = .int .i64 k ∧ Hid ((vs.take k).all vV = true) ∧ Below w.heap.size w wr)
    (fun iv _ => vs.length - (intOf iv).toNat)
  case atStart => exact ⟨0, Nat.zero_le _, rfl, rfl, Below.refl _ _⟩
  case round =>
    obtain ⟨k, hk, rfl, hall, hbr⟩ := hrel
    by_cases hlt : k < vs.length
    · obtain ⟨v, hv⟩ : ∃ v, vs[k]? = some v := ⟨_, List.getElem?_eq_getElem hlt⟩
      obtain ⟨a, rfl, hc1, hc2, hc3⟩ := val_at (hA.kept hbr) hv
      have HV := Lib.hid hv
      clear hv
      go_wp2_with fail
      refine (RValidValue_any v _ (HS.out v (List.mem_of_getElem? HV.out))).mono ?_
      rintro e w2 ⟨rfl, hb2⟩
      have hb3 := (hbr.alloc hbr.size (.cells v.cells.toArray 37)).trans (hb2.mono (by have := hbr.size; simp; omega))
      cases hvv : vV v
      · have hbad := all_bad HV.out hvv
        have HB := Lib.hid hbad
        clear hbad hvv
        go_wp2_with fail
        go_ret
        exact ⟨by rw [HR.out, vRow, HB.out]; rfl, hb3⟩
      · have hst := all_step HV.out hall.out hvv
        have HB := Lib.hid hst
        clear hst hvv
        go_wp2_with fail
        go_roundw
        case rel => exact ⟨k + 1, by omega, by go_num, HB, hb3⟩
        case measure => simp [intOf]; omega
    · have hall2 : vs.all vV = true := by
        have := hall.out
        rwa [List.take_of_length_le (by omega)] at this
      have HA := Lib.hid hall2
      clear hall2
      have HR2 : Hid (R = decide (vs.length ≤ 12)) := by unfold Hid; rw [HR.out, vRow, HA.out, Bool.true_and]
      by_cases h12 : vs.length ≤ 12
      · go_wp2_with fail
        go_ret
        exact ⟨by rw [HR2.out]; simp [h12]; omega, hbr⟩
      · have h13 : 12 < vs.length := by omega
        go_wp2_with fail
        go_ret
        exact ⟨by rw [HR2.out]; simp [h12]; omega, hbr⟩

set_option maxRecDepth 100000 in
set_option maxHeartbeats 2000000 in
theorem lvalid_any (A : Option Addr) (vs : List Val) (c : Nat) (w : World) (hA : Cs w A (Row Val.cells vs)) (hs : ∀ v ∈ vs, v.text.size ≤ maxLen) (hn : vs.length ≤ 140737488355328) :
    Calls Try.prog 18 #[.slice A vs.length c] w fun e w' => e = .returned (.bool (vs.all vV)) ∧ Below w.heap.size w w' := by
  have hn' : vs.length ≤ 9223372036854775807 := by omega
  have HS := Lib.hid hs
  clear hs
  obtain ⟨R, hR⟩ : ∃ R, R = vs.all vV := ⟨_, rfl⟩
  rw [← hR]
  have HR := Lib.hid hR
  clear hR
  go_enter Try.func18, Try.ntmps18
  go_wp2_with fail
  go_loopw [7] (fun iv wr => ∃ (k : Nat), k ≤ vs.length ∧ iv = .int .i64 k ∧ Hid ((vs.take k).all vV = true) ∧ Below w.heap.size w wr)
    (fun iv _ => vs.length - (intOf iv).toNat)
  case atStart => exact ⟨0, Nat.zero_le _, rfl, rfl, Below.refl _ _⟩
  case round =>
    obtain ⟨k, hk, rfl, hall, hbr⟩ := hrel
    by_cases hlt : k < vs.length
    · obtain ⟨v, hv⟩ : ∃ v, vs[k]? = some v := ⟨_, List.getElem?_eq_getElem hlt⟩
      obtain ⟨a, rfl, hc1, hc2, hc3⟩ := val_at (hA.kept hbr) hv
      have HV := Lib.hid hv
      clear hv
      go_wp2_with fail
      refine (RValidValue_any v _ (HS.out v (List.mem_of_getElem? HV.out))).mono ?_
      rintro e w2 ⟨rfl, hb2⟩
      have hb3 := (hbr.alloc hbr.size (.cells v.cells.toArray 37)).trans (hb2.mono (by have := hbr.size; simp; omega))
      cases hvv : vV v
      · have hbad := all_bad HV.out hvv
        have HB := Lib.hid hbad
        clear hbad hvv
        go_wp2_with fail
        go_ret
        exact ⟨by rw [HR.out, HB.out]; rfl, hb3⟩
      · have hst := all_step HV.out hall.out hvv
        have HB := Lib.hid hst
        clear hst hvv
        go_wp2_with fail
        go_roundw
        case rel => exact ⟨k + 1, by omega, by go_num, HB, hb3⟩
        case measure => simp [intOf]; omega
    · have hall2 : vs.all vV = true := by
        have := hall.out
        rwa [List.take_of_length_le (by omega)] at this
      have HA := Lib.hid hall2
      clear hall2
      go_wp2_with fail
      go_ret
      exact ⟨by rw [HR.out, HA.out]; rfl, hbr⟩

end Go.Proofs.Ytoejegphjlichaa
