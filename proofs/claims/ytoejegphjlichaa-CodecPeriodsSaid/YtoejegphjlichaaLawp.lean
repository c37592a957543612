/- CodecPeriods: for every slice of bytes, period and integer the law returns true, and the arguments read as before. No condition. -/
import Derived.Test.YtoejegphjlichaaOpen
import Derived.Test.YtoejegphjlichaaWork
import Derived.Test.YtoejegphjlichaaRedd
import Derived.Lib.SmallJoins
namespace Go.Proofs.Ytoejegphjlichaa
open Go.RowKit Go.ChangeShapes Go.WideShapes Go.ChangeAt Go.Joins
set_option linter.unusedVariables false

set_option maxRecDepth 100000 in
set_option maxHeartbeats 4000000 in
theorem periods_walk (A : Option Addr) (l : List UInt8) (c : Nat) (f t at_ : Int) (w : World) (hA : Cs w A (B l)) (hlc : l.length ≤ c) (hc : c ≤ maxLen) (hl : l.length ≤ 140737488351232) (hf1 : -9223372036854775808 ≤ f) (hf2 : f < 9223372036854775808) (ht1 : -9223372036854775808 ≤ t) (ht2 : t < 9223372036854775808) :
    Calls Try.prog 8 #[.slice A l.length c, .agg #[.int .i64 f, .int .i64 t], .int .i64 at_] w fun e w' => e = .returned (.bool true) ∧ Below w.heap.size w w' := by
  have HF : Hid ((-9223372036854775808 ≤ f ∧ f < 9223372036854775808) ∧ -9223372036854775808 ≤ t ∧ t < 9223372036854775808) := ⟨⟨hf1, hf2⟩, ht1, ht2⟩
  clear hf1 hf2 ht1 ht2
  obtain ⟨r, hr⟩ : ∃ r, r = dP l at_ := ⟨_, rfl⟩
  obtain ⟨⟨a, b⟩, k, e0⟩ := r
  have HR := Lib.hid hr
  clear hr
  obtain ⟨L, HL⟩ : ∃ L, Hid (L = l ++ pP f t) := ⟨_, rfl⟩
  have hA0 : Cs (w.alloc (.cells #[.int .i64 f, .int .i64 t] 44)) A (B l) := hA.alloc _
  go_enter Try.func8, Try.ntmps8
  go_wp2_with fail
  refine (Period_any A l c at_ _ hA0 hlc hc).mono ?_
  rintro e w1 ⟨hr1, hb1⟩
  rw [← HR.out] at hr1
  unfold RetP at hr1
  subst hr1
  have hA1 := (hA0.kept hb1).alloc (.cells #[.int .i64 a, .int .i64 b] 44)
  go_wp2_with fail
  refine (RPeriod_any A l c at_ _ hA1 hlc hc).mono ?_
  rintro e w2 ⟨hr1, hb2⟩
  rw [← HR.out] at hr1
  unfold RetP at hr1
  subst hr1
  have hA2 := (hA1.kept hb2).alloc (.cells #[.int .i64 a, .int .i64 b] 44)
  have hc1 : (w2.alloc (.cells #[.int .i64 a, .int .i64 b] 44)).cell? ⟨w.heap.size, 0, none⟩ = some (.int .i64 f) := cell_kept ((Below.refl _ _).alloc (Nat.le_refl _) _) (cell_kept hb2 (cell_kept ((Below.refl _ _).alloc (Nat.le_refl _) _) (cell_kept hb1 (blk_cell (blk_new _ _) rfl))))
  have hc2 : (w2.alloc (.cells #[.int .i64 a, .int .i64 b] 44)).cell? ⟨w.heap.size, 1, none⟩ = some (.int .i64 t) := cell_kept ((Below.refl _ _).alloc (Nat.le_refl _) _) (cell_kept hb2 (cell_kept ((Below.refl _ _).alloc (Nat.le_refl _) _) (cell_kept hb1 (blk_cell (blk_new _ _) rfl))))
  have hc3 : (w2.alloc (.cells #[.int .i64 a, .int .i64 b] 44)).cell? ⟨w1.heap.size, 0, none⟩ = some (.int .i64 a) := cell_kept ((Below.refl _ _).alloc (Nat.le_refl _) _) (cell_kept hb2 (blk_cell (blk_new _ _) rfl))
  have hc4 : (w2.alloc (.cells #[.int .i64 a, .int .i64 b] 44)).cell? ⟨w1.heap.size, 1, none⟩ = some (.int .i64 b) := cell_kept ((Below.refl _ _).alloc (Nat.le_refl _) _) (cell_kept hb2 (blk_cell (blk_new _ _) rfl))
  have hc5 : (w2.alloc (.cells #[.int .i64 a, .int .i64 b] 44)).cell? ⟨w2.heap.size, 0, none⟩ = some (.int .i64 a) := blk_cell (blk_new _ _) rfl
  have hc6 : (w2.alloc (.cells #[.int .i64 a, .int .i64 b] 44)).cell? ⟨w2.heap.size, 1, none⟩ = some (.int .i64 b) := blk_cell (blk_new _ _) rfl
  have hbw : Below w.heap.size w (w2.alloc (.cells #[.int .i64 a, .int .i64 b] 44)) := below_join (below_join (below_join (below_join ((Below.refl w.heap.size w).alloc (Nat.le_refl _) _) hb1) ((Below.refl _ _).alloc (Nat.le_refl _) _)) hb2) ((Below.refl _ _).alloc (Nat.le_refl _) _)
  go_wp2_with fail
  go_region_held3 (fun w' => w'.cell? ⟨w.heap.size, 0, none⟩ = some (.int .i64 f) ∧ w'.cell? ⟨w.heap.size, 1, none⟩ = some (.int .i64 t) ∧ w'.cell? ⟨w1.heap.size, 0, none⟩ = some (.int .i64 a) ∧ w'.cell? ⟨w1.heap.size, 1, none⟩ = some (.int .i64 b) ∧ w'.cell? ⟨w2.heap.size, 0, none⟩ = some (.int .i64 a) ∧ w'.cell? ⟨w2.heap.size, 1, none⟩ = some (.int .i64 b))
    (first
      | exact ⟨hc1, hc2, hc3, hc4, hc5, hc6⟩
      | (go_split_ands; refine ⟨?_, ?_, ?_, ?_, ?_, ?_⟩ <;> exact cell_kept hb3 (by assumption))
      | (go_split_ands; refine ⟨?_, ?_, ?_, ?_, ?_, ?_⟩ <;> exact cell_kept hb4 (by assumption))
      | (go_split_ands; refine ⟨?_, ?_, ?_, ?_, ?_, ?_⟩ <;> assumption)
      | (go_split_ands; refine ⟨?_, ?_, ?_, ?_, ?_, ?_⟩ <;> exact cell_kept hb5 (by assumption)))
    (first
      | (go_at_call 28; refine (PutPeriod_any A l c f t _ HF.out.1.1 HF.out.1.2 HF.out.2.1 HF.out.2.2 hA2.drew hlc hc (by omega)).mono ?_; rintro e w3 ⟨v3, rfl, ho3, hb3⟩; rw [← HL.out] at ho3; obtain ⟨A3, c3, rfl, hl3, hm3, hC3⟩ := ho3.cs)
      | (go_at_call 41; refine (RPutPeriod_any A l c f t _ HF.out.1.1 HF.out.1.2 HF.out.2.1 HF.out.2.2 (hA2.drew.kept hb3) (by omega)).mono ?_; rintro e w4 ⟨v4, rfl, ho4, hb4⟩; rw [List.append_assoc] at ho4; have ho4 : Own w4 w3.heap.size v4 L := by rw [HL.out]; exact ho4
         obtain ⟨A4, c4, rfl, hl4, hm4, hC4⟩ := ho4.cs)
      | (go_at_call 14; refine (equal_any A3 L c3 A4 L c4 w4 (hC3.kept hb4) hC4).mono ?_; rintro e w5 ⟨rfl, rfl⟩; rw [show (L == L) = true from by simp])
      | (go_at_call 17; refine (works_any w4).mono ?_; rintro e w5 ⟨rfl, hb5⟩))
  go_wp2
  go_ret
  exact ⟨rfl, below_join (below_join (below_join hbw.drew hb3) hb4) hb5⟩

set_option maxRecDepth 100000 in
theorem CodecPeriods_lifted (os : Os) (started : os.Started) (H : Type) (enc : TypeId × Value → H) :
    ReturnsInHanded {} Try.checked os 8 .any (Rows.codecPeriodsSpec.pre6 enc Try.prog Try.f8 Rows.codecPeriodsRow.domain false) (Rows.codecPeriodsSpec.post enc Try.prog Try.f8 false true false false) := by
  refine returnsInHanded_of_change_sized (C := Try.checked) ownK started (by kernel_rfl) Try.func8
    (ChangeSpec.witness6 (enc := enc) (C := Try.checked) false ⟨#[], #[.slice none 0 0, .agg #[.int .i64 0, .int .i64 0], .int .i64 0], []⟩ 8 (by kernel_rfl) (by kernel_rfl) (by kernel_rfl) (by kernel_rfl)) ?_
  intro W base args ds gs before hval0 hW hcnd hsz0 _
  have hsz : (DataW.weightsEach Try.prog (Try.f8.params.toList ++ Rows.codecPeriodsSpec.plain.varTypes Try.prog) (ds ++ gs)).all (· ≤ reachBytes) = true := hsz0
  have hval : ∀ (j : Nat) t v, Try.f8.params[j]? = some t → args[j]? = some v → Value.okWide Try.prog W .any base t v := hval0
  have hW' := hW
  obtain ⟨p, q, hA0, hV, rfl, hfz, hnd⟩ := hW
  have hA : DataW.TrodAll enc Try.prog W 0 (fun _ => true) true Try.f8.params.toList args.toList ds p := hA0
  rw [Try.params8] at hA hval hsz
  obtain ⟨v0, vs0, d0, ds0, p0, q0, hargs, rfl, rfl, h0, r0⟩ := trodAll_cons hA
  obtain ⟨v1, vs1, d1, ds1, p1, q1, rfl, rfl, rfl, h1, r1⟩ := trodAll_cons r0
  obtain ⟨v2, vs2, d2, ds2, p2, q2, rfl, rfl, rfl, h2, r2⟩ := trodAll_cons r1
  obtain ⟨rfl, rfl, rfl⟩ := trodAll_nil r2
  obtain rfl : args = #[v0, v1, v2] := by cases args; simp_all
  obtain ⟨rfl, rfl⟩ := trodVars_none hV
  have k0 := h0
  have lt0 : ∀ x ∈ p0, x.block < W.heap.size := by obtain ⟨m, hm⟩ := k0; exact DataW.trod_lt m _ _ _ hm
  have k1 := h1
  have lt1 : ∀ x ∈ p1, x.block < W.heap.size := by obtain ⟨m, hm⟩ := k1; exact DataW.trod_lt m _ _ _ hm
  have k2 := h2
  have lt2 : ∀ x ∈ p2, x.block < W.heap.size := by obtain ⟨m, hm⟩ := k2; exact DataW.trod_lt m _ _ _ hm
  obtain ⟨A, l, c, rfl, hlc, hc, hCA, hl⟩ := open_bytes (hval 0 22 v0 rfl rfl) h0 hsz (j := 0) rfl rfl
  obtain ⟨f, t, rfl, ⟨hf1, hf2⟩, ht1, ht2⟩ := open_period (hval 1 44 v1 rfl rfl) h1
  obtain ⟨m, rfl, _, _, wm⟩ := open_int Try.underlying3 (hval 2 3 v2 rfl rfl) h2
  clear hA0 hval0 hsz0
  refine (periods_walk A l c f t m W hCA hlc hc hl hf1 hf2 ht1 ht2).mono fun e W' ⟨he, bel⟩ => ?_
  subst he
  exact ⟨_, rfl, _, _, _, [], _, [], hW', trodAll_mk1 (shut_bool Try.underlying4 _), (trodAll_cons_mk (Below.trod laidK (by kernel_rfl) (of_decide_eq_true (by kernel_rfl)) k0 bel lt0) (trodAll_cons_mk (Below.trod laidK (by kernel_rfl) (of_decide_eq_true (by kernel_rfl)) k1 bel lt1) (trodAll_cons_mk (Below.trod laidK (by kernel_rfl) (of_decide_eq_true (by kernel_rfl)) k2 bel lt2) trodAll_mk0))), rfl, bel.frame _, fun h => by cases h⟩

/-- CodecPeriods holds. -/
theorem CodecPeriods_holds : Rows.CodecPeriodsSaid :=
  OpenClaim.holds_of_wide 8 Try.f8 rfl rfl rfl rfl rfl rfl rfl ⟨rfl, rfl, rfl, rfl, rfl⟩ rfl rfl rfl rfl rfl (by kernel_rfl) Try.func8 (by kernel_rfl)
    (of_decide_eq_true (by kernel_rfl)) (by unfold Func.isWrapper; first | (rw [if_pos (by decide +kernel)]; kernel_rfl) | (rw [if_neg (by decide +kernel)]; exact ⟨rfl, rfl⟩))
    (fun os started H enc _ => CodecPeriods_lifted os started H enc)
#print axioms CodecPeriods_holds
end Go.Proofs.Ytoejegphjlichaa
