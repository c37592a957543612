/- CodecRows: for every slice of bytes, row and integer the law returns true, and the arguments read as before. No condition. -/
import Derived.Test.YtoejegphjlichaaOpenv
import Derived.Test.YtoejegphjlichaaWork
import Derived.Test.YtoejegphjlichaaRedg
import Derived.Test.YtoejegphjlichaaRefc
import Derived.Test.YtoejegphjlichaaValb
import Derived.Lib.SmallJoins
namespace Go.Proofs.Ytoejegphjlichaa
open Go.RowKit Go.ChangeShapes Go.WideShapes Go.ChangeAt Go.Joins
set_option linter.unusedVariables false
set_option linter.unusedSimpArgs false

theorem vV_small {v : Val} (h : vV v = true) : v.text.size ≤ 200 := by
  obtain ⟨k, n, s⟩ := v
  have e : s.size = s.data.toList.length := by rw [Array.length_toList]; rfl
  unfold vV at h
  simp only at h ⊢
  have hz : s.data.toList.isEmpty = true → s.size ≤ 200 := fun h => by
    rw [List.isEmpty_iff] at h
    rw [e, h]
    decide
  split at h
  · simp only [Bool.and_eq_true] at h; exact hz h.2
  · split at h
    · simp only [Bool.and_eq_true] at h; exact hz h.2
    · split at h
      · simp only [Bool.and_eq_true, decide_eq_true_eq] at h; exact h.1.2
      · split at h
        · simp only [Bool.and_eq_true] at h; exact hz h.2
        · cases h
theorem wt_small {vs : List Val} (h : vs.all vV = true) : wt vs ≤ vs.length * 211 := by
  induction vs with
  | nil => simp [wt]
  | cons x xs ih =>
    simp only [List.all_cons, Bool.and_eq_true] at h
    have h1 := vV_small h.1
    have h2 := ih h.2
    simp only [wt, List.map_cons, List.sum_cons, List.length_cons] at h2 ⊢
    omega
theorem fits_of {vs : List Val} (hr : ∀ v ∈ vs, v.Rough) (h : vs.all vV = true) : (∀ v ∈ vs, v.Fits) ∧ ∀ v ∈ vs, vV v = true := by
  rw [List.all_eq_true] at h
  refine ⟨fun v hv => ?_, h⟩
  have h1 := hr v hv
  have h2 := vV_small (h v hv)
  exact ⟨h1.k1, h1.k2, h1.i1, h1.i2, by omega⟩

set_option maxRecDepth 100000 in
set_option maxHeartbeats 4000000 in
theorem rows_walk_yes (A : Option Addr) (l : List UInt8) (c : Nat) (A1 : Option Addr) (vs : List Val) (c1 : Nat) (at_ : Int) (w : World) (hA : Cs w A (B l)) (hlc : l.length ≤ c) (hc : c ≤ maxLen) (hl : l.length ≤ 140737488351232) (hA1 : Cs w A1 (Row Val.cells vs)) (hr : Hid (∀ v ∈ vs, v.Rough)) (hn : vs.length * 32 ≤ 140737488351232) (hvv : vRow vs = true) :
    Calls Try.prog 10 #[.slice A l.length c, .slice A1 vs.length c1, .int .i64 at_] w fun e w' => e = .returned (.bool true) ∧ Below w.heap.size w w' := by
  obtain ⟨r, hrr⟩ : ∃ r, r = dR l at_ := ⟨_, rfl⟩
  obtain ⟨xs, k, e0⟩ := r
  have HR := Lib.hid hrr
  clear hrr
  have hall : vs.all vV = true ∧ vs.length ≤ 12 := by simpa [vRow] using hvv
  have hwt := wt_small hall.1
  have HF := Lib.hid (fits_of hr.out hall.1)
  obtain ⟨Z, HL⟩ : ∃ Z : List UInt8, Hid (Z = l ++ pR vs) := ⟨_, Lib.hid rfl⟩
  go_enter Try.func10, Try.ntmps10
  go_wp2_with fail
  refine (Row_any A l c at_ _ hA hlc hc).mono ?_
  rintro e w1 ⟨hr1, hb1⟩
  rw [← HR.out] at hr1
  obtain ⟨A2, c2, rfl, hl2, hm2, hC2⟩ := hr1
  simp only at hl2 hC2 ⊢
  have hxs : xs.length ≤ 9223372036854775807 := by unfold maxLen at hm2; omega
  have hA' := hA.kept hb1
  go_wp2_with fail
  refine (RRow_any A l c at_ _ hA' hlc hc).mono ?_
  rintro e w2 ⟨hr1, hb2⟩
  rw [← HR.out] at hr1
  obtain ⟨A3, c3, rfl, hl3, hm3, hC3⟩ := hr1
  simp only at hl3 hC3 ⊢
  go_wp2_with fail
  refine (rows_same A2 xs c2 A3 c3 _ (hC2.kept hb2) hC3 hxs).mono ?_
  rintro e w3 ⟨rfl, hb3⟩
  have hb03 := below_join (below_join hb1 hb2) hb3
  go_wp2_with fail
  refine (RValidRow_any A1 vs c1 _ (hA1.kept hb03) (fun v hv => (hr.out v hv).s) (by omega)).mono ?_
  rintro e w4 ⟨rfl, hb4⟩
  rw [hvv]
  have hb04 := below_join hb03 hb4
  go_wp2_with fail
  refine (PutRow_any A l c A1 vs c1 _ HF.out.1 (hA.kept hb04) hlc hc (hA1.kept hb04) (by omega) (by omega)).mono ?_
  rintro e w5 ⟨v5, rfl, ho5, hb5⟩
  rw [← HL.out] at ho5
  obtain ⟨A5, c5, rfl, hl5, hm5, hC5⟩ := ho5.cs
  have hb05 := below_join hb04 hb5
  go_wp2_with fail
  refine (RPutRow_any A l c A1 vs c1 _ HF.out.1 HF.out.2 (hA.kept hb05) (hA1.kept hb05) (by omega) (by omega)).mono ?_
  rintro e w6 ⟨v6, rfl, ho6, hb6⟩
  rw [← HL.out] at ho6
  obtain ⟨A6, c6, rfl, hl6, hm6, hC6⟩ := ho6.cs
  have hb06 := below_join hb05 hb6
  go_wp2_with fail
  refine (equal_any A5 Z c5 A6 Z c6 _ (hC5.kept hb6) hC6).mono ?_
  rintro e w7 ⟨rfl, rfl⟩
  rw [show (Z == Z) = true from by simp]
  go_wp2_with fail
  refine (works_any _).mono ?_
  rintro e w8 ⟨rfl, hb8⟩
  go_wp2
  go_ret
  exact ⟨rfl, below_join hb06 hb8⟩

set_option maxRecDepth 100000 in
set_option maxHeartbeats 4000000 in
theorem rows_walk_no (A : Option Addr) (l : List UInt8) (c : Nat) (A1 : Option Addr) (vs : List Val) (c1 : Nat) (at_ : Int) (w : World) (hA : Cs w A (B l)) (hlc : l.length ≤ c) (hc : c ≤ maxLen) (hl : l.length ≤ 140737488351232) (hA1 : Cs w A1 (Row Val.cells vs)) (hr : Hid (∀ v ∈ vs, v.Rough)) (hn : vs.length * 32 ≤ 140737488351232) (hvv : vRow vs = false) :
    Calls Try.prog 10 #[.slice A l.length c, .slice A1 vs.length c1, .int .i64 at_] w fun e w' => e = .returned (.bool true) ∧ Below w.heap.size w w' := by
  obtain ⟨r, hrr⟩ : ∃ r, r = dR l at_ := ⟨_, rfl⟩
  obtain ⟨xs, k, e0⟩ := r
  have HR := Lib.hid hrr
  clear hrr
  go_enter Try.func10, Try.ntmps10
  go_wp2_with fail
  refine (Row_any A l c at_ _ hA hlc hc).mono ?_
  rintro e w1 ⟨hr1, hb1⟩
  rw [← HR.out] at hr1
  obtain ⟨A2, c2, rfl, hl2, hm2, hC2⟩ := hr1
  simp only at hl2 hC2 ⊢
  have hxs : xs.length ≤ 9223372036854775807 := by unfold maxLen at hm2; omega
  have hA' := hA.kept hb1
  go_wp2_with fail
  refine (RRow_any A l c at_ _ hA' hlc hc).mono ?_
  rintro e w2 ⟨hr1, hb2⟩
  rw [← HR.out] at hr1
  obtain ⟨A3, c3, rfl, hl3, hm3, hC3⟩ := hr1
  simp only at hl3 hC3 ⊢
  go_wp2_with fail
  refine (rows_same A2 xs c2 A3 c3 _ (hC2.kept hb2) hC3 hxs).mono ?_
  rintro e w3 ⟨rfl, hb3⟩
  have hb03 := below_join (below_join hb1 hb2) hb3
  go_wp2_with fail
  refine (RValidRow_any A1 vs c1 _ (hA1.kept hb03) (fun v hv => (hr.out v hv).s) (by omega)).mono ?_
  rintro e w4 ⟨rfl, hb4⟩
  rw [hvv]
  have hb04 := below_join hb03 hb4
  go_wp2_with fail
  refine (works_any _).mono ?_
  rintro e w8 ⟨rfl, hb8⟩
  go_wp2
  go_ret
  exact ⟨rfl, below_join hb04 hb8⟩

theorem rows_walk (A : Option Addr) (l : List UInt8) (c : Nat) (A1 : Option Addr) (vs : List Val) (c1 : Nat) (at_ : Int) (w : World) (hA : Cs w A (B l)) (hlc : l.length ≤ c) (hc : c ≤ maxLen) (hl : l.length ≤ 140737488351232) (hA1 : Cs w A1 (Row Val.cells vs)) (hr : ∀ v ∈ vs, v.Rough) (hn : vs.length * 32 ≤ 140737488351232) :
    Calls Try.prog 10 #[.slice A l.length c, .slice A1 vs.length c1, .int .i64 at_] w fun e w' => e = .returned (.bool true) ∧ Below w.heap.size w w' := by
  cases hv : vRow vs
  · exact rows_walk_no A l c A1 vs c1 at_ w hA hlc hc hl hA1 (Lib.hid hr) hn hv
  · exact rows_walk_yes A l c A1 vs c1 at_ w hA hlc hc hl hA1 (Lib.hid hr) hn hv

set_option maxRecDepth 100000 in
theorem CodecRows_lifted (os : Os) (started : os.Started) (H : Type) (enc : TypeId × Value → H) :
    ReturnsInHanded {} Try.checked os 10 .any (Rows.codecRowsSpec.pre6 enc Try.prog Try.f10 Rows.codecRowsRow.domain false) (Rows.codecRowsSpec.post enc Try.prog Try.f10 false true false false) := by
  refine returnsInHanded_of_change_sized (C := Try.checked) ownK started (by kernel_rfl) Try.func10
    (ChangeSpec.witness6 (enc := enc) (C := Try.checked) false ⟨#[], #[.slice none 0 0, .slice none 0 0, .int .i64 0], []⟩ 8 (by kernel_rfl) (by kernel_rfl) (by kernel_rfl) (by kernel_rfl)) ?_
  intro W base args ds gs before hval0 hW hcnd hsz0 _
  have hsz : (DataW.weightsEach Try.prog (Try.f10.params.toList ++ Rows.codecRowsSpec.plain.varTypes Try.prog) (ds ++ gs)).all (· ≤ reachBytes) = true := hsz0
  have hval : ∀ (j : Nat) t v, Try.f10.params[j]? = some t → args[j]? = some v → Value.okWide Try.prog W .any base t v := hval0
  have hW' := hW
  obtain ⟨p, q, hA0, hV, rfl, hfz, hnd⟩ := hW
  have hA : DataW.TrodAll enc Try.prog W 0 (fun _ => true) true Try.f10.params.toList args.toList ds p := hA0
  rw [Try.params10] at hA hval hsz
  obtain ⟨v0, vs0, d0, ds0, p0, q0, hargs, rfl, rfl, h0, r0⟩ := trodAll_cons hA
  obtain ⟨v1, vs1, d1, ds1, p1, q1, rfl, rfl, rfl, h1, r1⟩ := trodAll_cons r0
  obtain ⟨v2, vs2, d2, ds2, p2, q2, rfl, rfl, rfl, h2, r2⟩ := trodAll_cons r1
  obtain ⟨rfl, rfl, rfl⟩ := trodAll_nil r2
  obtain rfl : args = #[v0, v1, v2] := by cases args; simp_all
  obtain ⟨rfl, rfl⟩ := trodVars_none hV
  have k0 := h0
  have lt0 : ∀ x ∈ p0, x.block < W.heap.size := by obtain ⟨m, hm⟩ := k0; exact DataW.trod_lt m _ _ _ hm
  have k1 := h1
  have lt1 : ∀ x ∈ p1, x.block < W.heap.size := by obtain ⟨m, hm⟩ := k1; exact DataW.trod_lt m _ _ _ hm
  have k2 := h2
  have lt2 : ∀ x ∈ p2, x.block < W.heap.size := by obtain ⟨m, hm⟩ := k2; exact DataW.trod_lt m _ _ _ hm
  obtain ⟨A, l, c, rfl, hlc, hc, hCA, hl⟩ := open_bytes (hval 0 22 v0 rfl rfl) h0 hsz (j := 0) rfl rfl
  obtain ⟨A1, vs, c1, rfl, _, _, hCA1, hrough, hn⟩ := open_vals (hval 1 30 v1 rfl rfl) h1 hsz (j := 1) rfl rfl
  obtain ⟨m, rfl, _, _, wm⟩ := open_int Try.underlying3 (hval 2 3 v2 rfl rfl) h2
  clear hA0 hval0 hsz0
  refine (rows_walk A l c A1 vs c1 m W hCA hlc hc hl hCA1 hrough hn).mono fun e W' ⟨he, bel⟩ => ?_
  subst he
  exact ⟨_, rfl, _, _, _, [], _, [], hW', trodAll_mk1 (shut_bool Try.underlying4 _), (trodAll_cons_mk (Below.trod laidK (by kernel_rfl) (of_decide_eq_true (by kernel_rfl)) k0 bel lt0) (trodAll_cons_mk (Below.trod laidK (by kernel_rfl) (of_decide_eq_true (by kernel_rfl)) k1 bel lt1) (trodAll_cons_mk (Below.trod laidK (by kernel_rfl) (of_decide_eq_true (by kernel_rfl)) k2 bel lt2) trodAll_mk0))), rfl, bel.frame _, fun h => by cases h⟩

/-- CodecRows holds. -/
theorem CodecRows_holds : Rows.CodecRowsSaid :=
  OpenClaim.holds_of_wide 10 Try.f10 rfl rfl rfl rfl rfl rfl rfl ⟨rfl, rfl, rfl, rfl, rfl⟩ rfl rfl rfl rfl rfl (by kernel_rfl) Try.func10 (by kernel_rfl)
    (of_decide_eq_true (by kernel_rfl)) (by unfold Func.isWrapper; first | (rw [if_pos (by decide +kernel)]; kernel_rfl) | (rw [if_neg (by decide +kernel)]; exact ⟨rfl, rfl⟩))
    (fun os started H enc _ => CodecRows_lifted os started H enc)
#print axioms CodecRows_holds
end Go.Proofs.Ytoejegphjlichaa

