/- CodecSpare: for every slice of bytes, value and integers the law returns true, and the arguments read as before. No condition. -/
import Derived.Test.YtoejegphjlichaaOpen
import Derived.Test.YtoejegphjlichaaWork
import Derived.Test.YtoejegphjlichaaCodd
import Derived.Test.YtoejegphjlichaaVala
import Derived.Lib.SmallJoins
namespace Go.Proofs.Ytoejegphjlichaa
open Go.RowKit Go.ChangeShapes Go.WideShapes Go.ChangeAt Go.Joins
set_option linter.unusedVariables false
set_option linter.unusedSimpArgs false

theorem run_to {w : World} (A : Option Addr) (m c i : Nat) (hi : i ≤ c) (hc : (c : Int) ≤ 9223372036854775807) : (Instr.slice 22 (.slice A m c) none (some (.int .i64 i)) none).run Try.prog w = .ok (.slice A i c) w := by
  obtain ⟨i', hi', hz, hs, hb⟩ := info_parts infoByte
  simp [Instr.slice, Instr.sliceBounds, Instr.sliceBound, asIntOf, run_underlying Try.underlying22, sizeOf, typeInfo, hi', hi]
  cases A <;> simp [Addr.add]

theorem pV_pos (v : Val) : 0 < (pV v).length := by
  unfold pV
  split
  · simp
  · split
    · simp
    · split <;> simp

set_option maxRecDepth 100000 in
set_option maxHeartbeats 2000000 in
/-- What begins so begins so. -/
theorem begins_yes (A : Option Addr) (p r : List UInt8) (l : List UInt8) (c : Nat) (A2 : Option Addr) (c2 : Nat) (w : World) (hl : Hid (l = p ++ r)) (hA : Cs w A (B l)) (hA2 : Cs w A2 (B p)) (hlc : l.length ≤ c) (hc : c ≤ maxLen) :
    Calls Try.prog 23 #[.slice A l.length c, .slice A2 p.length c2] w fun e w' => e = .returned (.bool true) ∧ Below w.heap.size w w' := by
  have hpl : p.length ≤ l.length := by rw [hl.out, List.length_append]; omega
  have hm9 : (c : Int) ≤ 9223372036854775807 := by unfold maxLen at hc; omega
  have hs := fun w => run_to (w := w) A l.length c p.length (by omega) hm9
  have hCp : Cs w A (B p) := by
    have := hA.take p.length
    rwa [B_take, hl.out, List.take_left] at this
  have hp9 : (p.length : Int) ≤ (l.length : Int) := by omega
  go_enter Try.func23, Try.ntmps23
  go_wp2_with fail
  go_region_held3 (fun w' => (convert 22 9 (.slice A p.length c)).run Try.prog w' = .ok (.string ⟨p.toArray⟩) w' ∧ (convert 22 9 (.slice A2 p.length c2)).run Try.prog w' = .ok (.string ⟨p.toArray⟩) w')
    (first
      | assumption
      | exact ⟨run_string hCp.drew 22 9 5 Try.underlying22 Try.underlying5 Try.underlying9 c, run_string hA2.drew 22 9 5 Try.underlying22 Try.underlying5 Try.underlying9 c2⟩)
    (fail)
  go_wp2
  go_ret
  exact ⟨rfl, (Below.refl _ _).drew⟩

set_option maxRecDepth 100000 in
set_option maxHeartbeats 4000000 in
theorem spare_yes (A : Option Addr) (l : List UInt8) (c : Nat) (cut : Int) (kk nn : Int) (ss : ByteArray) (n : Int) (w : World) (hA : Cs w A (B l)) (hlc : l.length ≤ c) (hc : c ≤ maxLen) (hl : l.length ≤ 140737488351232) (hs : ss.size ≤ maxLen) (hs2 : ss.size ≤ 200) (HF : Hid (Val.Fits ⟨kk, nn, ss⟩)) (HN : Hid (-9223372036854775808 ≤ n ∧ n < 9223372036854775808)) (hvv : vV ⟨kk, nn, ss⟩ = true) :
    Calls Try.prog 5 #[.slice A l.length c, .int .i64 cut, .agg #[.int .i64 kk, .int .i64 nn, .string ss], .int .i64 n] w fun e w' => e = .returned (.bool true) ∧ Below w.heap.size w w' := by
  have hb0 : Below w.heap.size w (w.alloc (.cells #[.int .i64 kk, .int .i64 nn, .string ss] 37)) := (Below.refl _ _).alloc (Nat.le_refl _) _
  go_enter Try.func5, Try.ntmps5
  go_wp2_with fail
  refine (RValidValue_any ⟨kk, nn, ss⟩ _ hs).mono ?_
  rintro e w1 ⟨rfl, hb1⟩
  rw [hvv]
  have hb01 := below_join hb0 hb1
  have hc1 : w1.cell? ⟨w.heap.size, 0, none⟩ = some (.int .i64 kk) := cell_kept hb1 (blk_cell (blk_new _ _) rfl)
  have hc2 : w1.cell? ⟨w.heap.size, 1, none⟩ = some (.int .i64 nn) := cell_kept hb1 (blk_cell (blk_new _ _) rfl)
  have hc3 : w1.cell? ⟨w.heap.size, 2, none⟩ = some (.string ss) := cell_kept hb1 (blk_cell (blk_new _ _) rfl)
  have hstr := run_string (hA.kept hb01) 22 9 5 Try.underlying22 Try.underlying5 Try.underlying9 c
  obtain ⟨m, hm⟩ : ∃ m : Int, (if (l.length : Int) < cut then (l.length : Int) else cut) = m := ⟨_, rfl⟩
  obtain ⟨k, hk⟩ : ∃ k : Nat, (if 0 < m then m else 0) = (k : Int) := ⟨m.toNat, by split <;> omega⟩
  have hkl : k ≤ l.length := by
    split at hm <;> split at hk <;> omega
  go_wp2_with fail
  clear hm hk
  obtain ⟨p, hp, hpk⟩ : ∃ p : List UInt8, Hid (p = l.take k) ∧ p.length = k := ⟨_, rfl, by rw [List.length_take]; omega⟩
  subst hpk
  have hpc : p.length ≤ c := by omega
  have hb02 := hb01.alloc hb01.size (.cells #[.int .i64 kk, .int .i64 nn, .string ss] 37)
  have hAw := (hA.kept hb01).alloc (.cells #[.int .i64 kk, .int .i64 nn, .string ss] 37)
  have hCp : Cs (w1.alloc (.cells #[.int .i64 kk, .int .i64 nn, .string ss] 37)) A (B p) := by
    have := hAw.take p.length
    rwa [B_take, ← hp.out] at this
  have hRow : Cs (w1.alloc (.cells #[.int .i64 kk, .int .i64 nn, .string ss] 37)) (some ⟨w1.heap.size, 0, none⟩) (Row Val.cells [⟨kk, nn, ss⟩]) := box_cs w1 #[.int .i64 kk, .int .i64 nn, .string ss] 37
  have hd1 := (((Below.refl w1.heap.size w1).alloc (Nat.le_refl _) (.cells #[.int .i64 kk, .int .i64 nn, .string ss] 37)))
  have hc1 := cell_kept hd1 hc1
  have hc2 := cell_kept hd1 hc2
  have hc3 := cell_kept hd1 hc3
  have hm9 : (c : Int) ≤ 9223372036854775807 := by unfold maxLen at hc; omega
  have hpc9 : (p.length : Int) ≤ (c : Int) := by omega
  have hsl := fun w => run_to (w := w) A l.length c p.length hpc hm9
  obtain ⟨L2, HL2⟩ : ∃ L, Hid (L = p ++ pI n) := ⟨_, rfl⟩
  obtain ⟨L3, HL3⟩ : ∃ L, Hid (L = p ++ pT [116, 101, 120, 116]) := ⟨_, rfl⟩
  obtain ⟨L4, HL4⟩ : ∃ L, Hid (L = p ++ pV ⟨kk, nn, ss⟩) := ⟨_, rfl⟩
  obtain ⟨L5, HL5⟩ : ∃ L, Hid (L = p ++ pR [⟨kk, nn, ss⟩]) := ⟨_, rfl⟩
  obtain ⟨L6, HL6⟩ : ∃ L, Hid (L = p ++ pP n n) := ⟨_, rfl⟩
  have hR1 : Hid (∀ v ∈ [(⟨kk, nn, ss⟩ : Val)], v.Fits) := by
    intro v hv
    rw [List.mem_singleton] at hv
    subst hv
    exact HF.out
  have hR2 : [(⟨kk, nn, ss⟩ : Val)].length ≤ 140737488355328 := by simp
  have hwt : wt [⟨kk, nn, ss⟩] ≤ 1000 := by simp [wt]; omega
  go_region_held3 (fun w' => w'.cell? ⟨w.heap.size, 0, none⟩ = some (.int .i64 kk) ∧ w'.cell? ⟨w.heap.size, 1, none⟩ = some (.int .i64 nn) ∧ w'.cell? ⟨w.heap.size, 2, none⟩ = some (.string ss))
    (first
      | exact ⟨hc1, hc2, hc3⟩
      | (go_split_ands; refine ⟨?_, ?_, ?_⟩ <;> exact cell_kept hb2 (by assumption))
      | (go_split_ands; refine ⟨?_, ?_, ?_⟩ <;> exact cell_kept hb3 (by assumption))
      | (go_split_ands; refine ⟨?_, ?_, ?_⟩ <;> exact cell_kept hb4 (by assumption))
      | (go_split_ands; refine ⟨?_, ?_, ?_⟩ <;> exact cell_kept hb5 (by assumption))
      | (go_split_ands; refine ⟨?_, ?_, ?_⟩ <;> exact cell_kept hb6 (by assumption))
      | (go_split_ands; refine ⟨?_, ?_, ?_⟩ <;> assumption)
      | (go_split_ands; refine ⟨?_, ?_, ?_⟩ <;> exact cell_kept ((Below.refl _ _).alloc (Nat.le_refl _) _) (by assumption)))
    (first
      | (go_at_call 15; refine (PutInt_any A p c n _ HN.out.1 HN.out.2 hCp.drew hpc hc (by omega)).mono ?_; rintro e w2 ⟨v2, rfl, ho2, hb2⟩; rw [← HL2.out] at ho2; obtain ⟨A2, c2, rfl, hl2, hm2, hC2⟩ := ho2.cs)
      | (go_at_call 25; refine (PutText_any A p c ⟨#[116, 101, 120, 116]⟩ _ (by decide) (hCp.drew.kept hb2) hpc hc (by show p.length + 10 + 4 ≤ _; omega)).mono ?_; rintro e w3 ⟨v3, rfl, ho3, hb3⟩; rw [show (⟨#[116, 101, 120, 116]⟩ : ByteArray).data.toList = [116, 101, 120, 116] from rfl, ← HL3.out] at ho3; obtain ⟨A3, c3, rfl, hl3, hm3, hC3⟩ := ho3.cs)
      | (go_at_call 26; refine (PutValue_any A p c ⟨kk, nn, ss⟩ _ HF.out ((hCp.drew.kept hb2).kept hb3) hpc hc (by show p.length + 11 + ss.size ≤ _; omega)).mono ?_; rintro e w4 ⟨v4, rfl, ho4, hb4⟩; rw [← HL4.out] at ho4; obtain ⟨A4, c4, rfl, hl4, hm4, hC4⟩ := ho4.cs)
      | (go_at_call 27; refine (PutRow_any A p c (some ⟨w1.heap.size, 0, none⟩) [⟨kk, nn, ss⟩] 1 _ hR1.out (((hCp.drew.kept hb2).kept hb3).kept hb4) hpc hc (((hRow.drew.kept hb2).kept hb3).kept hb4) hR2 (by omega)).mono ?_; rintro e w5 ⟨v5, rfl, ho5, hb5⟩; rw [← HL5.out] at ho5; obtain ⟨A5, c5, rfl, hl5, hm5, hC5⟩ := ho5.cs)
      | (go_at_call 28; refine (PutPeriod_any A p c n n _ HN.out.1 HN.out.2 HN.out.1 HN.out.2 ((((hCp.drew.kept hb2).kept hb3).kept hb4).kept hb5) hpc hc (by omega)).mono ?_; rintro e w6 ⟨v6, rfl, ho6, hb6⟩; rw [← HL6.out] at ho6; obtain ⟨A6, c6, rfl, hl6, hm6, hC6⟩ := ho6.cs))
  go_wp2_with fail
  obtain ⟨W7, hW7⟩ : ∃ W, W = w6.alloc (.cells #[.slice A2 L2.length c2, .slice A3 L3.length c3, .slice A4 L4.length c4, .slice A5 L5.length c5, .slice A6 L6.length c6] 22) := ⟨_, rfl⟩
  have hb7 : Below w6.heap.size w6 W7 := by rw [hW7]; exact (Below.refl _ _).alloc (Nat.le_refl _) _
  have hbA : Below w.heap.size w W7 := below_join (below_join (below_join (below_join (below_join (below_join hb02.drew hb2) hb3) hb4) hb5) hb6) hb7
  have hr2 := pI_pos n
  have hr3 : 0 < (pT [116, 101, 120, 116]).length := by unfold pT; rw [List.length_append]; simp
  have hr4 := pV_pos ⟨kk, nn, ss⟩
  have hr5 : 0 < (pR [⟨kk, nn, ss⟩]).length := by unfold pR; rw [List.length_append]; have := pI_pos (([⟨kk, nn, ss⟩] : List Val).length : Int); omega
  have hr6 : 0 < (pP n n).length := by unfold pP; rw [List.length_append]; omega
  have hall : ∀ j : Nat, j < 5 → ∃ (Aj : Option Addr) (Lj rj : List UInt8) (cj : Nat), W7.cell? ⟨w6.heap.size, j, none⟩ = some (.slice Aj Lj.length cj) ∧ Hid (Lj = p ++ rj ∧ 0 < rj.length) ∧ Cs W7 Aj (B Lj) ∧ Lj.length ≤ cj ∧ cj ≤ maxLen := by
    intro j hj
    match j, hj with
    | 0, _ => exact ⟨A2, L2, _, c2, by rw [hW7]; exact blk_cell (blk_new _ _) rfl, ⟨HL2.out, hr2⟩, ((((hC2.kept hb3).kept hb4).kept hb5).kept hb6).kept hb7, hl2, hm2⟩
    | 1, _ => exact ⟨A3, L3, _, c3, by rw [hW7]; exact blk_cell (blk_new _ _) rfl, ⟨HL3.out, hr3⟩, (((hC3.kept hb4).kept hb5).kept hb6).kept hb7, hl3, hm3⟩
    | 2, _ => exact ⟨A4, L4, _, c4, by rw [hW7]; exact blk_cell (blk_new _ _) rfl, ⟨HL4.out, hr4⟩, ((hC4.kept hb5).kept hb6).kept hb7, hl4, hm4⟩
    | 3, _ => exact ⟨A5, L5, _, c5, by rw [hW7]; exact blk_cell (blk_new _ _) rfl, ⟨HL5.out, hr5⟩, (hC5.kept hb6).kept hb7, hl5, hm5⟩
    | 4, _ => exact ⟨A6, L6, _, c6, by rw [hW7]; exact blk_cell (blk_new _ _) rfl, ⟨HL6.out, hr6⟩, hC6.kept hb7, hl6, hm6⟩
  have hCp7 := (((((hCp.drew.kept hb2).kept hb3).kept hb4).kept hb5).kept hb6).kept hb7
  have HALL := Lib.hid hall
  rw [← hW7]
  clear hall hr2 hr3 hr4 hr5 hr6 hC2 hC3 hC4 hC5 hC6 ho2 ho3 ho4 ho5 ho6 hW7 hl2 hl3 hl4 hl5 hl6 hm2 hm3 hm4 hm5 hm6 hstr
  go_loopw [56] (fun iv wr => ∃ j : Nat, j ≤ 5 ∧ iv = .int .i64 j ∧ Below W7.heap.size W7 wr) (fun iv _ => 5 - (intOf iv).toNat)
  case atStart => exact ⟨0, by omega, rfl, Below.refl _ _⟩
  case round =>
    obtain ⟨j, hj, rfl, hbr⟩ := hrel
    by_cases hlt : j < 5
    · obtain ⟨Aj, Lj, rj, cj, hcj, HLj, hCj, hlj, hmj⟩ := HALL.out j hlt
      have hcw := cell_kept hbr hcj
      have hj5 : (j : Int) < 5 := by omega
      have hj0 : (0 : Int) ≤ (j : Int) := by omega
      have hpl : (Lj.length : Int) ≤ (p.length : Int) ↔ False := by
        have h1 := HLj.out.1
        have h2 := HLj.out.2
        have h3 := congrArg List.length h1
        rw [List.length_append] at h3
        constructor
        · intro h; omega
        · exact False.elim
      go_wp2_with fail
      go_region_held3 (fun w' => w'.cell? ⟨w6.heap.size, j, none⟩ = some (.slice Aj Lj.length cj))
        (first | exact hcw | assumption | exact cell_kept hbb (by assumption))
        (first
          | (go_at_call 23; refine (begins_yes Aj p rj Lj cj A c _ HLj.out.1 (hCj.kept hbr).drew (hCp7.kept hbr).drew hlj hmj).mono ?_; rintro e wb ⟨rfl, hbb⟩))
      go_wp2_with fail
      go_roundw
      case rel => exact ⟨j + 1, by omega, by go_num, below_join hbr.drew hbb⟩
      case measure => simp [intOf]; omega
    · have hstr := run_string ((hA.kept hbA).kept hbr) 22 9 5 Try.underlying22 Try.underlying5 Try.underlying9 c
      go_wp2_with fail
      refine (works_any wr).mono ?_
      rintro e w9 ⟨rfl, hb9⟩
      go_wp2
      go_ret
      exact ⟨rfl, below_join (below_join hbA hbr) hb9⟩

set_option maxRecDepth 100000 in
set_option maxHeartbeats 1000000 in
theorem spare_no (v0 : Value) (cut : Int) (kk nn : Int) (ss : ByteArray) (n : Int) (w : World) (hs : ss.size ≤ maxLen) (hvv : vV ⟨kk, nn, ss⟩ = false) :
    Calls Try.prog 5 #[v0, .int .i64 cut, .agg #[.int .i64 kk, .int .i64 nn, .string ss], .int .i64 n] w fun e w' => e = .returned (.bool true) ∧ Below w.heap.size w w' := by
  have hb0 : Below w.heap.size w (w.alloc (.cells #[.int .i64 kk, .int .i64 nn, .string ss] 37)) := (Below.refl _ _).alloc (Nat.le_refl _) _
  go_enter Try.func5, Try.ntmps5
  go_wp2_with fail
  refine (RValidValue_any ⟨kk, nn, ss⟩ _ hs).mono ?_
  rintro e w1 ⟨rfl, hb1⟩
  rw [hvv]
  go_wp2_with fail
  refine (works_any w1).mono ?_
  rintro e w2 ⟨rfl, hb2⟩
  go_wp2
  go_ret
  exact ⟨rfl, below_join (below_join hb0 hb1) hb2⟩

theorem vV_short' {v : Val} (h : vV v = true) (hk : v.text.size ≤ maxLen) : v.text.size ≤ 200 := by
  have e : v.text.size = v.text.data.toList.length := by rw [Array.length_toList]; rfl
  unfold vV at h
  have hz : v.text.data.toList.isEmpty = true → v.text.size ≤ 200 := fun h => by
    rw [List.isEmpty_iff] at h
    rw [e, h]
    decide
  split at h
  · simp only [Bool.and_eq_true] at h; exact hz h.2
  · split at h
    · simp only [Bool.and_eq_true] at h; exact hz h.2
    · split at h
      · simp only [Bool.and_eq_true, decide_eq_true_eq] at h; exact h.1.2
      · split at h
        · simp only [Bool.and_eq_true] at h; exact hz h.2
        · cases h

theorem spare_walk (A : Option Addr) (l : List UInt8) (c : Nat) (cut : Int) (kk nn : Int) (ss : ByteArray) (n : Int) (w : World) (hA : Cs w A (B l)) (hlc : l.length ≤ c) (hc : c ≤ maxLen) (hl : l.length ≤ 140737488351232) (hs : ss.size ≤ maxLen) (b0 : -9223372036854775808 ≤ kk ∧ kk < 9223372036854775808) (b1 : -9223372036854775808 ≤ nn ∧ nn < 9223372036854775808) (HN : -9223372036854775808 ≤ n ∧ n < 9223372036854775808) :
    Calls Try.prog 5 #[.slice A l.length c, .int .i64 cut, .agg #[.int .i64 kk, .int .i64 nn, .string ss], .int .i64 n] w fun e w' => e = .returned (.bool true) ∧ Below w.heap.size w w' := by
  by_cases hvv : vV ⟨kk, nn, ss⟩ = true
  · have h2 := vV_short' hvv hs
    simp only at h2
    exact spare_yes A l c cut kk nn ss n w hA hlc hc hl hs h2 ⟨b0.1, b0.2, b1.1, b1.2, by simp only; omega⟩ HN hvv
  · exact spare_no _ cut kk nn ss n w hs (by simpa using hvv)

set_option maxRecDepth 100000 in
theorem CodecSpare_lifted (os : Os) (started : os.Started) (H : Type) (enc : TypeId × Value → H) :
    ReturnsInHanded {} Try.checked os 5 .any (Rows.codecSpareSpec.pre6 enc Try.prog Try.f5 Rows.codecSpareRow.domain false) (Rows.codecSpareSpec.post enc Try.prog Try.f5 false true false false) := by
  refine returnsInHanded_of_change_sized (C := Try.checked) ownK started (by kernel_rfl) Try.func5
    (ChangeSpec.witness6 (enc := enc) (C := Try.checked) false ⟨#[], #[.slice none 0 0, .int .i64 0, .agg #[.int .i64 0, .int .i64 0, .string ⟨#[]⟩], .int .i64 0], []⟩ 8 (by kernel_rfl) (by kernel_rfl) (by kernel_rfl) (by kernel_rfl)) ?_
  intro W base args ds gs before hval0 hW hcnd hsz0 _
  have hsz : (DataW.weightsEach Try.prog (Try.f5.params.toList ++ Rows.codecSpareSpec.plain.varTypes Try.prog) (ds ++ gs)).all (· ≤ reachBytes) = true := hsz0
  have hval : ∀ (j : Nat) t v, Try.f5.params[j]? = some t → args[j]? = some v → Value.okWide Try.prog W .any base t v := hval0
  have hW' := hW
  obtain ⟨p, q, hA0, hV, rfl, hfz, hnd⟩ := hW
  have hA : DataW.TrodAll enc Try.prog W 0 (fun _ => true) true Try.f5.params.toList args.toList ds p := hA0
  rw [Try.params5] at hA hval hsz
  obtain ⟨v0, vs0, d0, ds0, p0, q0, hargs, rfl, rfl, h0, r0⟩ := trodAll_cons hA
  obtain ⟨v1, vs1, d1, ds1, p1, q1, rfl, rfl, rfl, h1, r1⟩ := trodAll_cons r0
  obtain ⟨v2, vs2, d2, ds2, p2, q2, rfl, rfl, rfl, h2, r2⟩ := trodAll_cons r1
  obtain ⟨v3, vs3, d3, ds3, p3, q3, rfl, rfl, rfl, h3, r3⟩ := trodAll_cons r2
  obtain ⟨rfl, rfl, rfl⟩ := trodAll_nil r3
  obtain rfl : args = #[v0, v1, v2, v3] := by cases args; simp_all
  obtain ⟨rfl, rfl⟩ := trodVars_none hV
  have k0 := h0
  have lt0 : ∀ x ∈ p0, x.block < W.heap.size := by obtain ⟨m, hm⟩ := k0; exact DataW.trod_lt m _ _ _ hm
  have k1 := h1
  have lt1 : ∀ x ∈ p1, x.block < W.heap.size := by obtain ⟨m, hm⟩ := k1; exact DataW.trod_lt m _ _ _ hm
  have k2 := h2
  have lt2 : ∀ x ∈ p2, x.block < W.heap.size := by obtain ⟨m, hm⟩ := k2; exact DataW.trod_lt m _ _ _ hm
  have k3 := h3
  have lt3 : ∀ x ∈ p3, x.block < W.heap.size := by obtain ⟨m, hm⟩ := k3; exact DataW.trod_lt m _ _ _ hm
  obtain ⟨A, l, c, rfl, hlc, hc, hCA, hl⟩ := open_bytes (hval 0 22 v0 rfl rfl) h0 hsz (j := 0) rfl rfl
  obtain ⟨cut, rfl, _, _, wc⟩ := open_int Try.underlying3 (hval 1 3 v1 rfl rfl) h1
  obtain ⟨kk, nn, ss, rfl, b0, b1, hss⟩ := open_value (hval 2 37 v2 rfl rfl) h2
  obtain ⟨n, rfl, _, _, wn⟩ := open_int Try.underlying3 (hval 3 3 v3 rfl rfl) h3
  have bn := bounds_i64 wn
  clear hA0 hval0 hsz0
  refine (spare_walk A l c cut kk nn ss n W hCA hlc hc hl hss b0 b1 ⟨bn.1, by omega⟩).mono fun e W' ⟨he, bel⟩ => ?_
  subst he
  exact ⟨_, rfl, _, _, _, [], _, [], hW', trodAll_mk1 (shut_bool Try.underlying4 _), (trodAll_cons_mk (Below.trod laidK (by kernel_rfl) (of_decide_eq_true (by kernel_rfl)) k0 bel lt0) (trodAll_cons_mk (Below.trod laidK (by kernel_rfl) (of_decide_eq_true (by kernel_rfl)) k1 bel lt1) (trodAll_cons_mk (Below.trod laidK (by kernel_rfl) (of_decide_eq_true (by kernel_rfl)) k2 bel lt2) (trodAll_cons_mk (Below.trod laidK (by kernel_rfl) (of_decide_eq_true (by kernel_rfl)) k3 bel lt3) trodAll_mk0)))), rfl, bel.frame _, fun h => by cases h⟩

/-- CodecSpare holds. -/
theorem CodecSpare_holds : Rows.CodecSpareSaid :=
  OpenClaim.holds_of_wide 5 Try.f5 rfl rfl rfl rfl rfl rfl rfl ⟨rfl, rfl, rfl, rfl, rfl⟩ rfl rfl rfl rfl rfl (by kernel_rfl) Try.func5 (by kernel_rfl)
    (of_decide_eq_true (by kernel_rfl)) (by unfold Func.isWrapper; first | (rw [if_pos (by decide +kernel)]; kernel_rfl) | (rw [if_neg (by decide +kernel)]; exact ⟨rfl, rfl⟩))
    (fun os started H enc _ => CodecSpare_lifted os started H enc)
#print axioms CodecSpare_holds
end Go.Proofs.Ytoejegphjlichaa
