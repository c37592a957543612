/- CodecBack: for every slice of bytes, row, period and integer the law returns true, and the arguments read as before. No condition. -/
import Derived.Test.YtoejegphjlichaaOpenv
import Derived.Test.YtoejegphjlichaaWork
import Derived.Test.YtoejegphjlichaaPlainb
import Derived.Test.YtoejegphjlichaaValb
import Derived.Test.YtoejegphjlichaaRefc
import Derived.Lib.SmallJoins
namespace Go.Proofs.Ytoejegphjlichaa
open Go.RowKit Go.ChangeShapes Go.WideShapes Go.ChangeAt Go.Joins
set_option linter.unusedVariables false
set_option linter.unusedSimpArgs false

theorem run_cut {w : World} (A : Option Addr) (m c i : Nat) (hi : i ≤ c) (hc : (c : Int) ≤ 9223372036854775807) : (Instr.slice 22 (.slice A m c) none (some (.int .i64 i)) (some (.int .i64 i))).run Try.prog w = .ok (.slice A i i) w := by
  obtain ⟨i', hi', hz, hs, hb⟩ := info_parts infoByte
  simp [Instr.slice, Instr.sliceBounds, Instr.sliceBound, asIntOf, run_underlying Try.underlying22, sizeOf, typeInfo, hi', hi]
  cases A <;> simp [Addr.add]
theorem run_upto {w : World} (A : Option Addr) (m c i : Nat) (hi : i ≤ c) (hc : (c : Int) ≤ 9223372036854775807) : (Instr.slice 22 (.slice A m c) none (some (.int .i64 i)) none).run Try.prog w = .ok (.slice A i c) w := by
  obtain ⟨i', hi', hz, hs, hb⟩ := info_parts infoByte
  simp [Instr.slice, Instr.sliceBounds, Instr.sliceBound, asIntOf, run_underlying Try.underlying22, sizeOf, typeInfo, hi', hi]
  cases A <;> simp [Addr.add]
theorem wt_texts {vs : List Val} (h : ∀ v ∈ vs, v.Fits ∧ v.text.size ≤ 200) : wt vs ≤ vs.length * 211 := by
  induction vs with
  | nil => simp [wt]
  | cons x xs ih =>
    have h1 := (h x (by simp)).2
    have h2 := ih (fun v hv => h v (by simp [hv]))
    simp only [wt, List.map_cons, List.sum_cons, List.length_cons] at h2 ⊢
    omega
theorem vV_short {v : Val} (h : vV v = true) : v.text.size ≤ 200 := by
  obtain ⟨k, n, s⟩ := v
  have e : s.size = s.data.toList.length := by rw [Array.length_toList]; rfl
  unfold vV at h
  simp only at h ⊢
  have hz : s.data.toList.isEmpty = true → s.size ≤ 200 := fun h => by
    rw [List.isEmpty_iff] at h
    rw [e, h]
    decide
  split at h
  · simp only [Bool.and_eq_true] at h; exact hz h.2
  · split at h
    · simp only [Bool.and_eq_true] at h; exact hz h.2
    · split at h
      · simp only [Bool.and_eq_true, decide_eq_true_eq] at h; exact h.1.2
      · split at h
        · simp only [Bool.and_eq_true] at h; exact hz h.2
        · cases h
theorem fits_short {vs : List Val} (hr : ∀ v ∈ vs, v.Rough) (h : vs.all vV = true) : ∀ v ∈ vs, v.Fits ∧ v.text.size ≤ 200 := by
  rw [List.all_eq_true] at h
  intro v hv
  have h1 := hr v hv
  have h2 := vV_short (h v hv)
  exact ⟨⟨h1.k1, h1.k2, h1.i1, h1.i2, by omega⟩, h2⟩

set_option maxRecDepth 100000 in
set_option maxHeartbeats 16000000 in
theorem back_no (A : Option Addr) (l : List UInt8) (c : Nat) (A1 : Option Addr) (vs : List Val) (c1 : Nat) (f t at_ : Int) (w : World) (hA : Cs w A (B l)) (hlc : l.length ≤ c) (hc : c ≤ maxLen) (hl : l.length ≤ 140737488351232) (hA1 : Cs w A1 (Row Val.cells vs)) (hr : Hid (∀ v ∈ vs, v.Rough)) (hn : vs.length * 32 ≤ 140737488351232) (HP : Hid ((-9223372036854775808 ≤ f ∧ f < 9223372036854775808) ∧ -9223372036854775808 ≤ t ∧ t < 9223372036854775808)) (hvv : vRow vs = false) :
    Calls Try.prog 11 #[.slice A l.length c, .slice A1 vs.length c1, .agg #[.int .i64 f, .int .i64 t], .int .i64 at_] w fun e w' => e = .returned (.bool true) ∧ Below w.heap.size w w' := by
  have hb0 : Below w.heap.size w (w.alloc (.cells #[.int .i64 f, .int .i64 t] 44)) := (Below.refl _ _).alloc (Nat.le_refl _) _
  go_enter Try.func11, Try.ntmps11
  go_wp2_with fail
  refine (RValidRow_any A1 vs c1 _ (hA1.kept hb0) (fun v hv => (hr.out v hv).s) (by omega)).mono ?_
  rintro e w1 ⟨rfl, hb1⟩
  rw [hvv]
  go_wp2_with fail
  refine (works_any _).mono ?_
  rintro e w2 ⟨rfl, hb2⟩
  go_wp2
  go_ret
  exact ⟨rfl, below_join (below_join hb0 hb1) hb2⟩

set_option maxRecDepth 100000 in
set_option maxHeartbeats 16000000 in
theorem back_yes (A : Option Addr) (l : List UInt8) (c : Nat) (A1 : Option Addr) (vs : List Val) (c1 : Nat) (f t at_ : Int) (w : World) (hA : Cs w A (B l)) (hlc : l.length ≤ c) (hc : c ≤ maxLen) (hl : l.length ≤ 140737488351232) (hA1 : Cs w A1 (Row Val.cells vs)) (hr : Hid (∀ v ∈ vs, v.Rough)) (hn : vs.length * 32 ≤ 140737488351232) (HP : Hid ((-9223372036854775808 ≤ f ∧ f < 9223372036854775808) ∧ -9223372036854775808 ≤ t ∧ t < 9223372036854775808)) (hvv : vRow vs = true) :
    Calls Try.prog 11 #[.slice A l.length c, .slice A1 vs.length c1, .agg #[.int .i64 f, .int .i64 t], .int .i64 at_] w fun e w' => e = .returned (.bool true) ∧ Below w.heap.size w w' := by
  have hb0 : Below w.heap.size w (w.alloc (.cells #[.int .i64 f, .int .i64 t] 44)) := (Below.refl _ _).alloc (Nat.le_refl _) _
  have hall : vs.all vV = true ∧ vs.length ≤ 12 := by simpa [vRow] using hvv
  have HF := Lib.hid (fits_short hr.out hall.1)
  have hwt := wt_texts HF.out
  obtain ⟨Z1, HL1⟩ : ∃ Z1 : List UInt8, Hid (Z1 = l ++ pR vs) := ⟨_, Lib.hid rfl⟩
  obtain ⟨Z, HL⟩ : ∃ Z : List UInt8, Hid (Z = Z1 ++ pP f t) := ⟨_, Lib.hid rfl⟩
  have hpR : (pR vs).length ≤ 10 + wt vs := by
    have h1 : (pI (vs.length : Int)).length ≤ 10 := pI_len (by omega) (by omega)
    have h2 := wt_len (vs := vs) (fun v hv => (HF.out v hv).1)
    simp only [pR, List.length_append]
    omega
  have hZ1 : Hid (Z1.length = l.length + (pR vs).length) := by unfold Hid; rw [HL1.out, List.length_append]
  have hZ : Hid (Z.length = Z1.length + (pI f).length + (pI t).length) := by unfold Hid; rw [HL.out, pP, List.length_append, List.length_append]; omega
  have E1 : Hid (dR Z l.length = (vs, ((Z1.length : Nat) : Int), 0)) := by
    unfold Hid
    have := dR_put l (pP f t) hall.1 hall.2
    rw [HL.out, HL1.out, List.append_assoc, this, List.length_append]
    rfl
  have E2 : Hid (dI Z (Z1.length : Nat) = (f, ((Z1.length + (pI f).length : Nat) : Int), 0)) := by
    unfold Hid
    have := dI_put Z1 (pI t) HP.out.1.1 HP.out.1.2
    rw [HL.out]
    exact this
  have E3 : Hid (dI Z ((Z1.length + (pI f).length : Nat) : Int) = (t, ((Z.length : Nat) : Int), 0)) := by
    unfold Hid
    have := dI_put (Z1 ++ pI f) [] HP.out.2.1 HP.out.2.2
    rw [List.append_nil, List.append_assoc, List.length_append] at this
    rw [hZ.out, HL.out]
    exact this
  obtain ⟨M, hM⟩ : ∃ M : Int, M = ((Z1.length + (pI f).length : Nat) : Int) := ⟨_, rfl⟩
  rw [← hM] at E2 E3
  clear hM
  obtain ⟨r, hrr⟩ : ∃ r, r = dR l at_ := ⟨_, rfl⟩
  obtain ⟨ys, k1, e1⟩ := r
  have HR := Lib.hid hrr
  obtain ⟨r, hrq⟩ : ∃ r, r = dP l at_ := ⟨_, rfl⟩
  obtain ⟨⟨f2, t2⟩, k2, e2⟩ := r
  have HQ := Lib.hid hrq
  clear hrr hrq
  go_enter Try.func11, Try.ntmps11
  go_wp2_with fail
  refine (RValidRow_any A1 vs c1 _ (hA1.kept hb0) (fun v hv => (hr.out v hv).s) (by omega)).mono ?_
  rintro e w1 ⟨rfl, hb1⟩
  rw [hvv]
  have hb01 := below_join hb0 hb1
  have hc1 : w1.cell? ⟨w.heap.size, 0, none⟩ = some (.int .i64 f) := cell_kept hb1 (blk_cell (blk_new _ _) rfl)
  have hc2 : w1.cell? ⟨w.heap.size, 1, none⟩ = some (.int .i64 t) := cell_kept hb1 (blk_cell (blk_new _ _) rfl)
  go_wp2_with fail
  go_region_held3 (fun w' => w'.cell? ⟨w.heap.size, 0, none⟩ = some (.int .i64 f) ∧ w'.cell? ⟨w.heap.size, 1, none⟩ = some (.int .i64 t))
    (first
      | exact ⟨hc1, hc2⟩
      | (go_split_ands; refine ⟨?_, ?_⟩ <;> exact cell_kept hb2 (by assumption))
      | (go_split_ands; refine ⟨?_, ?_⟩ <;> exact cell_kept hb3 (by assumption))
      | (go_split_ands; refine ⟨?_, ?_⟩ <;> assumption))
    (first
      | (go_at_call 27; refine (PutRow_any A l c A1 vs c1 _ (fun v hv => (HF.out v hv).1) (hA.kept hb01.drew) hlc hc (hA1.kept hb01.drew) (by omega) (by omega)).mono ?_; rintro e w2 ⟨v2, rfl, ho2, hb2⟩; rw [← HL1.out] at ho2; obtain ⟨A2, c2, rfl, hl2, hm2, hC2⟩ := ho2.cs)
      | (go_at_call 28; refine (PutPeriod_any A2 Z1 c2 f t _ HP.out.1.1 HP.out.1.2 HP.out.2.1 HP.out.2.2 hC2 hl2 hm2 (by have := hZ1.out; omega)).mono ?_; rintro e w3 ⟨v3, rfl, ho3, hb3⟩; rw [← HL.out] at ho3; obtain ⟨A3, c3, rfl, hl3, hm3, hC3⟩ := ho3.cs))
  have hb03 := below_join (below_join hb01.drew hb2) hb3
  have hc3 : w3.cell? ⟨w.heap.size, 0, none⟩ = some (.int .i64 f) := cell_kept hb3 (cell_kept hb2 hc1)
  have hc4 : w3.cell? ⟨w.heap.size, 1, none⟩ = some (.int .i64 t) := cell_kept hb3 (cell_kept hb2 hc2)
  go_wp2_with fail
  refine (Row_any A3 Z c3 l.length _ hC3 hl3 hm3).mono ?_
  rintro e w4 ⟨hr4, hb4⟩
  rw [E1.out] at hr4
  obtain ⟨A4, c4, rfl, hl4, hm4, hC4⟩ := hr4
  simp only at hl4 hC4 ⊢
  go_wp2_with fail
  refine (rows_same A4 vs c4 A1 c1 _ hC4 (hA1.kept (below_join hb03 hb4)) (by omega)).mono ?_
  rintro e w5 ⟨rfl, hb5⟩
  have hC3' := (hC3.kept hb4).kept hb5
  go_wp2_with fail
  refine (Int_any A3 Z c3 _ _ hC3' hl3 hm3).mono ?_
  rintro e w6 ⟨hr6, rfl⟩
  rw [E2.out] at hr6
  unfold Ret3 at hr6
  subst hr6
  go_wp2_with fail
  refine (Int_any A3 Z c3 _ _ hC3' hl3 hm3).mono ?_
  rintro e w6 ⟨hr6, rfl⟩
  rw [E3.out] at hr6
  unfold Ret3 at hr6
  subst hr6
  have hb05 := below_join (below_join hb03 hb4) hb5
  have hc5 : w5.cell? ⟨w.heap.size, 0, none⟩ = some (.int .i64 f) := cell_kept hb5 (cell_kept hb4 hc3)
  have hc6 : w5.cell? ⟨w.heap.size, 1, none⟩ = some (.int .i64 t) := cell_kept hb5 (cell_kept hb4 hc4)
  clear hc1 hc2 hc3 hc4
  go_wp2_with fail
  refine (Row_any A l c at_ _ (hA.kept hb05) hlc hc).mono ?_
  rintro e w7 ⟨hr7, hb7⟩
  rw [← HR.out] at hr7
  obtain ⟨A7, c7, rfl, hl7, hm7, hC7⟩ := hr7
  simp only at hl7 hC7 ⊢
  have hb07 := below_join hb05 hb7
  by_cases he1 : e1 = 0
  · subst he1
    have hback := dR_back HR.out.symm
    obtain ⟨i, hi⟩ := Int.eq_ofNat_of_zero_le (show 0 ≤ at_ by omega)
    obtain ⟨j, rfl⟩ := Int.eq_ofNat_of_zero_le (show 0 ≤ k1 by omega)
    have HB := Lib.hid hback
    have hj : j ≤ l.length := by omega
    have hij : i < j := by omega
    have hyl : ys.length ≤ 12 := hback.2.2.2.2.1
    have hwy := wt_texts hback.2.2.2.2.2
    clear hback
    obtain ⟨p, hp⟩ : ∃ p, p = l.take i := ⟨_, rfl⟩
    obtain ⟨q, hq⟩ : ∃ q, q = l.take j := ⟨_, rfl⟩
    have hpl : p.length = i := by rw [hp, List.length_take]; omega
    have hql : q.length = j := by rw [hq, List.length_take]; omega
    have hpq : Hid (p ++ pR ys = q) := by have := HB.out.1; rw [hi] at this; unfold Hid; rw [hp, hq]; exact this.symm
    have hCp : Cs w A (B p) := by rw [hp, ← B_take]; exact hA.take _
    have hCq : Cs w A (B q) := by rw [hq, ← B_take]; exact hA.take _
    clear hp hq
    subst hpl
    subst hql
    have hs1 := fun w => run_cut (w := w) A l.length c p.length (by omega) (by unfold maxLen at hc; omega)
    have hs2 := fun w => run_upto (w := w) A l.length c q.length (by omega) (by unfold maxLen at hc; omega)
    rw [← hi] at hs1
    have HI := Lib.hid hi
    clear hi
    have hpe : p.length ≤ maxLen := by unfold maxLen; omega
    go_wp2_with fail
    refine wp_region_held_drew (S := (fun w' => (convert 22 9 (.slice A q.length c)).run Try.prog w' = .ok (.string ⟨q.toArray⟩) w')) (by kernel_rfl) (run_string (hCq.kept hb07.drew) 22 9 5 Try.underlying22 Try.underlying5 Try.underlying9 c) (fun hHeld => ?_)
    refine wpAnyH_take (i := 0) (v := ?_) rfl (by kernel_rfl) (by kernel_rfl) (by kernel_rfl) (fun _ _ _ h => h) (Or.inl ⟨by rfl, ?_⟩) (by assumption) ?_
    rotate_left
    · (intro w hSw; (try dsimp only at hSw); go_simp <;> with_reducible rfl)
    try simp only [List.getElem_toArray, List.getElem_cons_zero, List.getElem_cons_succ, Act.put, List.setIfInBounds_toArray, List.set_cons_zero, List.set_cons_succ]
    refine wpAnyH_take (i := 1) (v := ?_) rfl (by kernel_rfl) (by kernel_rfl) (by kernel_rfl) (fun _ _ _ h => h) (Or.inl ⟨by rfl, ?_⟩) (by assumption) ?_
    rotate_left
    · (intro w hSw; (try dsimp only at hSw); go_simp <;> with_reducible rfl)
    try simp only [List.getElem_toArray, List.getElem_cons_zero, List.getElem_cons_succ, Act.put, List.setIfInBounds_toArray, List.set_cons_zero, List.set_cons_succ]
    refine wpAnyH_take (i := 2) (v := ?_) rfl (by kernel_rfl) (by kernel_rfl) (by kernel_rfl) (fun _ _ _ h => h) (Or.inl ⟨by rfl, ?_⟩) (by assumption) ?_
    rotate_left
    · (intro w hSw; (try dsimp only at hSw); go_simp <;> with_reducible rfl)
    try simp only [List.getElem_toArray, List.getElem_cons_zero, List.getElem_cons_succ, Act.put, List.setIfInBounds_toArray, List.set_cons_zero, List.set_cons_succ]
    refine wpAnyH_take (i := 3) (v := ?_) rfl (by kernel_rfl) (by kernel_rfl) (by kernel_rfl) (fun _ _ _ h => h) (Or.inl ⟨by rfl, ?_⟩) (by assumption) ?_
    rotate_left
    · (intro w hSw; (try dsimp only at hSw); go_simp <;> with_reducible rfl)
    try simp only [List.getElem_toArray, List.getElem_cons_zero, List.getElem_cons_succ, Act.put, List.setIfInBounds_toArray, List.set_cons_zero, List.set_cons_succ]
    refine wpAnyH_take (i := 4) (v := ?_) rfl (by kernel_rfl) (by kernel_rfl) (by kernel_rfl) (fun _ _ _ h => h) (Or.inl ⟨by rfl, ?_⟩) (by assumption) ?_
    rotate_left
    · (intro w hSw; (try dsimp only at hSw); go_simp <;> with_reducible rfl)
    try simp only [List.getElem_toArray, List.getElem_cons_zero, List.getElem_cons_succ, Act.put, List.setIfInBounds_toArray, List.set_cons_zero, List.set_cons_succ]
    refine wpAnyH_take (i := 5) (v := ?_) rfl (by kernel_rfl) (by kernel_rfl) (by kernel_rfl) (fun _ _ _ h => h) (Or.inl ⟨by rfl, ?_⟩) (by assumption) ?_
    rotate_left
    · (intro w hSw; (try dsimp only at hSw); go_simp <;> with_reducible rfl)
    try simp only [List.getElem_toArray, List.getElem_cons_zero, List.getElem_cons_succ, Act.put, List.setIfInBounds_toArray, List.set_cons_zero, List.set_cons_succ]
    refine wpAnyH_take (i := 6) (v := ?_) rfl (by kernel_rfl) (by kernel_rfl) (by kernel_rfl) (fun _ _ _ h => h) (Or.inl ⟨by rfl, ?_⟩) (by assumption) ?_
    rotate_left
    · (intro w hSw; (try dsimp only at hSw); go_simp <;> with_reducible rfl)
    try simp only [List.getElem_toArray, List.getElem_cons_zero, List.getElem_cons_succ, Act.put, List.setIfInBounds_toArray, List.set_cons_zero, List.set_cons_succ]
    refine wpAnyH_take (i := 7) (v := ?_) rfl (by kernel_rfl) (by kernel_rfl) (by kernel_rfl) (fun _ _ _ h => h) (Or.inl ⟨by rfl, ?_⟩) (by assumption) ?_
    rotate_left
    · (intro w hSw; (try dsimp only at hSw); go_simp <;> with_reducible rfl)
    try simp only [List.getElem_toArray, List.getElem_cons_zero, List.getElem_cons_succ, Act.put, List.setIfInBounds_toArray, List.set_cons_zero, List.set_cons_succ]
    refine wpAnyH_take (i := 10) (v := ?_) rfl (by kernel_rfl) (by kernel_rfl) (by kernel_rfl) (fun _ _ _ h => h) (Or.inl ⟨by rfl, ?_⟩) (by assumption) ?_
    rotate_left
    · (intro w hSw; (try dsimp only at hSw); go_simp <;> with_reducible rfl)
    try simp only [List.getElem_toArray, List.getElem_cons_zero, List.getElem_cons_succ, Act.put, List.setIfInBounds_toArray, List.set_cons_zero, List.set_cons_succ]
    refine wpAnyH_take (i := 11) (v := ?_) rfl (by kernel_rfl) (by kernel_rfl) (by kernel_rfl) (fun _ _ _ h => h) (Or.inl ⟨by rfl, ?_⟩) (by assumption) ?_
    rotate_left
    · (intro w hSw; (try dsimp only at hSw); go_simp <;> with_reducible rfl)
    try simp only [List.getElem_toArray, List.getElem_cons_zero, List.getElem_cons_succ, Act.put, List.setIfInBounds_toArray, List.set_cons_zero, List.set_cons_succ]
    refine wpAnyH_take (i := 12) (v := ?_) rfl (by kernel_rfl) (by kernel_rfl) (by kernel_rfl) (fun _ _ _ h => h) (Or.inl ⟨by rfl, ?_⟩) (by assumption) ?_
    rotate_left
    · (intro w hSw; (try dsimp only at hSw); go_simp <;> with_reducible rfl)
    try simp only [List.getElem_toArray, List.getElem_cons_zero, List.getElem_cons_succ, Act.put, List.setIfInBounds_toArray, List.set_cons_zero, List.set_cons_succ]
    refine wpAnyH_take (i := 13) (v := ?_) rfl (by kernel_rfl) (by kernel_rfl) (by kernel_rfl) (fun _ _ _ h => h) (Or.inl ⟨by rfl, ?_⟩) (by assumption) ?_
    rotate_left
    · (intro w hSw; (try dsimp only at hSw); go_simp <;> with_reducible rfl)
    try simp only [List.getElem_toArray, List.getElem_cons_zero, List.getElem_cons_succ, Act.put, List.setIfInBounds_toArray, List.set_cons_zero, List.set_cons_succ]
    refine wpAnyH_ready (rs := [8]) (by kernel_rfl) (by simp) ?_
    refine AllReadyH.cons rfl (fun K hK => ?_) AllReadyH.nil
    try simp only [List.getElem_toArray, List.getElem_cons_zero, List.getElem_cons_succ]
    go_simp
    (go_at_call 27; refine (PutRow_any A p p.length A7 ys c7 _ (fun v hv => (HB.out.2.2.2.2.2 v hv).1) (hCp.kept hb07.drew) (Nat.le_refl _) hpe hC7.drew (by omega) (by omega)).mono ?_; rintro e w8 ⟨v8, rfl, ho8, hb8⟩; rw [hpq.out] at ho8; obtain ⟨A8, c8, rfl, hl8, hm8, hC8⟩ := ho8.cs; have hs8 := run_string hC8 22 9 5 Try.underlying22 Try.underlying5 Try.underlying9 c8)
    go_wp2_with fail
    refine hK.out _ _ (by (try dsimp only); exact run_string (hCq.kept (below_join hb07.drew hb8)) 22 9 5 Try.underlying22 Try.underlying5 Try.underlying9 c) (fun hHeld => ?_)
    clear hK K
    try simp only [List.getElem_toArray, List.getElem_cons_zero, List.getElem_cons_succ, Act.put, List.setIfInBounds_toArray, List.set_cons_zero, List.set_cons_succ]
    refine wpAnyH_ready (rs := [9]) (by kernel_rfl) (by simp) ?_
    refine AllReadyH.cons rfl (fun K hK => ?_) AllReadyH.nil
    try simp only [List.getElem_toArray, List.getElem_cons_zero, List.getElem_cons_succ]
    go_simp
    refine hK.out _ _ (by assumption) (fun hHeld => ?_)
    clear hK K
    try simp only [List.getElem_toArray, List.getElem_cons_zero, List.getElem_cons_succ, Act.put, List.setIfInBounds_toArray, List.set_cons_zero, List.set_cons_succ]
    refine wpAnyH_take (i := 14) (v := ?_) rfl (by kernel_rfl) (by kernel_rfl) (by kernel_rfl) (fun _ _ _ h => h) (Or.inl ⟨by rfl, ?_⟩) (by assumption) ?_
    rotate_left
    · (intro w hSw; (try dsimp only at hSw); go_simp <;> with_reducible rfl)
    try simp only [List.getElem_toArray, List.getElem_cons_zero, List.getElem_cons_succ, Act.put, List.setIfInBounds_toArray, List.set_cons_zero, List.set_cons_succ]
    refine wpAnyH_take (i := 15) (v := ?_) rfl (by kernel_rfl) (by kernel_rfl) (by kernel_rfl) (fun _ _ _ h => h) (Or.inl ⟨by rfl, ?_⟩) (by assumption) ?_
    rotate_left
    · (intro w hSw; (try dsimp only at hSw); go_simp <;> with_reducible rfl)
    try simp only [List.getElem_toArray, List.getElem_cons_zero, List.getElem_cons_succ, Act.put, List.setIfInBounds_toArray, List.set_cons_zero, List.set_cons_succ]
    refine wpAnyH_done (by kernel_rfl) ?_ _
    have hb08 := below_join hb07.drew hb8
    clear hs1 hs2
    have hA9 := hA.kept hb08
    go_wp2_with fail
    refine (Period_any A l c at_ _ hA9 hlc hc).mono ?_
    rintro e w11 ⟨hr11, hb11⟩
    rw [← HQ.out] at hr11
    unfold RetP at hr11
    subst hr11
    have hb12 := (below_join hb08 hb11).alloc (by have := (below_join hb08 hb11).size; omega) (.cells #[.int .i64 f2, .int .i64 t2] 44)
    by_cases he2 : e2 = 0
    · subst he2
      have hback := dP_back HQ.out.symm
      obtain ⟨i2, hi2⟩ := Int.eq_ofNat_of_zero_le (show 0 ≤ at_ by omega)
      obtain ⟨j2, rfl⟩ := Int.eq_ofNat_of_zero_le (show 0 ≤ k2 by omega)
      have HB2 := Lib.hid hback
      have hj2 : j2 ≤ l.length := by omega
      have hij2 : i2 < j2 := by omega
      clear hback
      obtain ⟨p2, hp2⟩ : ∃ p2, p2 = l.take i2 := ⟨_, rfl⟩
      obtain ⟨q2, hq2⟩ : ∃ q2, q2 = l.take j2 := ⟨_, rfl⟩
      have hpl2 : p2.length = i2 := by rw [hp2, List.length_take]; omega
      have hql2 : q2.length = j2 := by rw [hq2, List.length_take]; omega
      have hpq2 : Hid (p2 ++ pP f2 t2 = q2) := by have := HB2.out.1; rw [hi2] at this; unfold Hid; rw [hp2, hq2]; exact this.symm
      have hCp2 : Cs w A (B p2) := by rw [hp2, ← B_take]; exact hA.take _
      have hCq2 : Cs w A (B q2) := by rw [hq2, ← B_take]; exact hA.take _
      clear hp2 hq2
      subst hpl2
      subst hql2
      have hs3 := fun w => run_cut (w := w) A l.length c p2.length (by omega) (by unfold maxLen at hc; omega)
      have hs4 := fun w => run_upto (w := w) A l.length c q2.length (by omega) (by unfold maxLen at hc; omega)
      rw [← hi2] at hs3
      have HI2 := Lib.hid hi2
      clear hi2
      have hc21 : (w11.alloc (.cells #[.int .i64 f2, .int .i64 t2] 44)).cell? ⟨w11.heap.size, 0, none⟩ = some (.int .i64 f2) := blk_cell (blk_new _ _) rfl
      have hc22 : (w11.alloc (.cells #[.int .i64 f2, .int .i64 t2] 44)).cell? ⟨w11.heap.size, 1, none⟩ = some (.int .i64 t2) := blk_cell (blk_new _ _) rfl
      have hpe3 : p2.length + 20 ≤ 140737488355328 := Nat.le_trans (Nat.add_le_add_right (Nat.le_trans (Nat.le_of_lt hij2) (Nat.le_trans hj2 hl)) 20) (by decide)
      have hpe2 : p2.length ≤ maxLen := by unfold maxLen; omega
      go_wp2_with fail
      refine wp_region_held_drew (S := (fun w' => (convert 22 9 (.slice A q2.length c)).run Try.prog w' = .ok (.string ⟨q2.toArray⟩) w' ∧ w'.cell? ⟨w11.heap.size, 0, none⟩ = some (.int .i64 f2) ∧ w'.cell? ⟨w11.heap.size, 1, none⟩ = some (.int .i64 t2))) (by kernel_rfl) (⟨run_string (hCq2.kept hb12.drew) 22 9 5 Try.underlying22 Try.underlying5 Try.underlying9 c, hc21, hc22⟩) (fun hHeld => ?_)
      refine wpAnyH_take (i := 0) (v := ?_) rfl (by kernel_rfl) (by kernel_rfl) (by kernel_rfl) (fun _ _ _ h => h) (Or.inl ⟨by rfl, ?_⟩) (by assumption) ?_
      rotate_left
      · (intro w hSw; (try dsimp only at hSw); go_simp <;> with_reducible rfl)
      try simp only [List.getElem_toArray, List.getElem_cons_zero, List.getElem_cons_succ, Act.put, List.setIfInBounds_toArray, List.set_cons_zero, List.set_cons_succ]
      refine wpAnyH_take (i := 1) (v := ?_) rfl (by kernel_rfl) (by kernel_rfl) (by kernel_rfl) (fun _ _ _ h => h) (Or.inl ⟨by rfl, ?_⟩) (by assumption) ?_
      rotate_left
      · (intro w hSw; (try dsimp only at hSw); go_simp <;> with_reducible rfl)
      try simp only [List.getElem_toArray, List.getElem_cons_zero, List.getElem_cons_succ, Act.put, List.setIfInBounds_toArray, List.set_cons_zero, List.set_cons_succ]
      refine wpAnyH_take (i := 2) (v := ?_) rfl (by kernel_rfl) (by kernel_rfl) (by kernel_rfl) (fun _ _ _ h => h) (Or.inl ⟨by rfl, ?_⟩) (by assumption) ?_
      rotate_left
      · (intro w hSw; (try dsimp only at hSw); go_simp <;> with_reducible rfl)
      try simp only [List.getElem_toArray, List.getElem_cons_zero, List.getElem_cons_succ, Act.put, List.setIfInBounds_toArray, List.set_cons_zero, List.set_cons_succ]
      refine wpAnyH_take (i := 3) (v := ?_) rfl (by kernel_rfl) (by kernel_rfl) (by kernel_rfl) (fun _ _ _ h => h) (Or.inl ⟨by rfl, ?_⟩) (by assumption) ?_
      rotate_left
      · (intro w hSw; (try dsimp only at hSw); go_simp <;> with_reducible rfl)
      try simp only [List.getElem_toArray, List.getElem_cons_zero, List.getElem_cons_succ, Act.put, List.setIfInBounds_toArray, List.set_cons_zero, List.set_cons_succ]
      refine wpAnyH_take (i := 4) (v := ?_) rfl (by kernel_rfl) (by kernel_rfl) (by kernel_rfl) (fun _ _ _ h => h) (Or.inl ⟨by rfl, ?_⟩) (by assumption) ?_
      rotate_left
      · (intro w hSw; (try dsimp only at hSw); go_simp <;> with_reducible rfl)
      try simp only [List.getElem_toArray, List.getElem_cons_zero, List.getElem_cons_succ, Act.put, List.setIfInBounds_toArray, List.set_cons_zero, List.set_cons_succ]
      refine wpAnyH_take (i := 5) (v := ?_) rfl (by kernel_rfl) (by kernel_rfl) (by kernel_rfl) (fun _ _ _ h => h) (Or.inl ⟨by rfl, ?_⟩) (by assumption) ?_
      rotate_left
      · (intro w hSw; (try dsimp only at hSw); go_simp <;> with_reducible rfl)
      try simp only [List.getElem_toArray, List.getElem_cons_zero, List.getElem_cons_succ, Act.put, List.setIfInBounds_toArray, List.set_cons_zero, List.set_cons_succ]
      refine wpAnyH_take (i := 6) (v := ?_) rfl (by kernel_rfl) (by kernel_rfl) (by kernel_rfl) (fun _ _ _ h => h) (Or.inl ⟨by rfl, ?_⟩) (by assumption) ?_
      rotate_left
      · (intro w hSw; (try dsimp only at hSw); go_simp <;> with_reducible rfl)
      try simp only [List.getElem_toArray, List.getElem_cons_zero, List.getElem_cons_succ, Act.put, List.setIfInBounds_toArray, List.set_cons_zero, List.set_cons_succ]
      refine wpAnyH_take (i := 7) (v := ?_) rfl (by kernel_rfl) (by kernel_rfl) (by kernel_rfl) (fun _ _ _ h => h) (Or.inl ⟨by rfl, ?_⟩) (by assumption) ?_
      rotate_left
      · (intro w hSw; (try dsimp only at hSw); go_simp <;> with_reducible rfl)
      try simp only [List.getElem_toArray, List.getElem_cons_zero, List.getElem_cons_succ, Act.put, List.setIfInBounds_toArray, List.set_cons_zero, List.set_cons_succ]
      refine wpAnyH_take (i := 10) (v := ?_) rfl (by kernel_rfl) (by kernel_rfl) (by kernel_rfl) (fun _ _ _ h => h) (Or.inl ⟨by rfl, ?_⟩) (by assumption) ?_
      rotate_left
      · (intro w hSw; (try dsimp only at hSw); go_simp <;> with_reducible rfl)
      try simp only [List.getElem_toArray, List.getElem_cons_zero, List.getElem_cons_succ, Act.put, List.setIfInBounds_toArray, List.set_cons_zero, List.set_cons_succ]
      refine wpAnyH_take (i := 11) (v := ?_) rfl (by kernel_rfl) (by kernel_rfl) (by kernel_rfl) (fun _ _ _ h => h) (Or.inl ⟨by rfl, ?_⟩) (by assumption) ?_
      rotate_left
      · (intro w hSw; (try dsimp only at hSw); go_simp <;> with_reducible rfl)
      try simp only [List.getElem_toArray, List.getElem_cons_zero, List.getElem_cons_succ, Act.put, List.setIfInBounds_toArray, List.set_cons_zero, List.set_cons_succ]
      refine wpAnyH_take (i := 12) (v := ?_) rfl (by kernel_rfl) (by kernel_rfl) (by kernel_rfl) (fun _ _ _ h => h) (Or.inl ⟨by rfl, ?_⟩) (by assumption) ?_
      rotate_left
      · (intro w hSw; (try dsimp only at hSw); go_simp <;> with_reducible rfl)
      try simp only [List.getElem_toArray, List.getElem_cons_zero, List.getElem_cons_succ, Act.put, List.setIfInBounds_toArray, List.set_cons_zero, List.set_cons_succ]
      refine wpAnyH_take (i := 13) (v := ?_) rfl (by kernel_rfl) (by kernel_rfl) (by kernel_rfl) (fun _ _ _ h => h) (Or.inl ⟨by rfl, ?_⟩) (by assumption) ?_
      rotate_left
      · (intro w hSw; (try dsimp only at hSw); go_simp <;> with_reducible rfl)
      try simp only [List.getElem_toArray, List.getElem_cons_zero, List.getElem_cons_succ, Act.put, List.setIfInBounds_toArray, List.set_cons_zero, List.set_cons_succ]
      refine wpAnyH_ready (rs := [8]) (by kernel_rfl) (by simp) ?_
      refine AllReadyH.cons rfl (fun K hK => ?_) AllReadyH.nil
      try simp only [List.getElem_toArray, List.getElem_cons_zero, List.getElem_cons_succ]
      go_simp
      (go_at_call 28; refine (PutPeriod_any A p2 p2.length f2 t2 _ HB2.out.2.2.2.2.1.1 HB2.out.2.2.2.2.1.2 HB2.out.2.2.2.2.2.1 HB2.out.2.2.2.2.2.2 (hCp2.kept hb12.drew) (Nat.le_refl _) hpe2 hpe3).mono ?_; rintro e w13 ⟨v13, rfl, ho13, hb13⟩; rw [hpq2.out] at ho13; obtain ⟨A13, c13, rfl, hl13, hm13, hC13⟩ := ho13.cs; have hs13 := run_string hC13 22 9 5 Try.underlying22 Try.underlying5 Try.underlying9 c13)
      go_wp2_with fail
      refine hK.out _ _ (by (try dsimp only); exact ⟨run_string (hCq2.kept (below_join hb12.drew hb13)) 22 9 5 Try.underlying22 Try.underlying5 Try.underlying9 c, cell_kept hb13 hHeld.2.1, cell_kept hb13 hHeld.2.2⟩) (fun hHeld => ?_)
      clear hK K
      try simp only [List.getElem_toArray, List.getElem_cons_zero, List.getElem_cons_succ, Act.put, List.setIfInBounds_toArray, List.set_cons_zero, List.set_cons_succ]
      refine wpAnyH_ready (rs := [9]) (by kernel_rfl) (by simp) ?_
      refine AllReadyH.cons rfl (fun K hK => ?_) AllReadyH.nil
      try simp only [List.getElem_toArray, List.getElem_cons_zero, List.getElem_cons_succ]
      go_simp
      refine hK.out _ _ (by assumption) (fun hHeld => ?_)
      clear hK K
      try simp only [List.getElem_toArray, List.getElem_cons_zero, List.getElem_cons_succ, Act.put, List.setIfInBounds_toArray, List.set_cons_zero, List.set_cons_succ]
      refine wpAnyH_take (i := 14) (v := ?_) rfl (by kernel_rfl) (by kernel_rfl) (by kernel_rfl) (fun _ _ _ h => h) (Or.inl ⟨by rfl, ?_⟩) (by assumption) ?_
      rotate_left
      · (intro w hSw; (try dsimp only at hSw); go_simp <;> with_reducible rfl)
      try simp only [List.getElem_toArray, List.getElem_cons_zero, List.getElem_cons_succ, Act.put, List.setIfInBounds_toArray, List.set_cons_zero, List.set_cons_succ]
      refine wpAnyH_take (i := 15) (v := ?_) rfl (by kernel_rfl) (by kernel_rfl) (by kernel_rfl) (fun _ _ _ h => h) (Or.inl ⟨by rfl, ?_⟩) (by assumption) ?_
      rotate_left
      · (intro w hSw; (try dsimp only at hSw); go_simp <;> with_reducible rfl)
      try simp only [List.getElem_toArray, List.getElem_cons_zero, List.getElem_cons_succ, Act.put, List.setIfInBounds_toArray, List.set_cons_zero, List.set_cons_succ]
      refine wpAnyH_done (by kernel_rfl) ?_ _
      have hb14 := below_join hb12.drew hb13
      go_wp2_with fail
      refine (works_any _).mono ?_
      rintro e w20 ⟨rfl, hb20⟩
      go_wp2
      go_ret
      exact ⟨rfl, below_join hb14 hb20⟩
    · have t9 : (e2 == 0) = false := by simpa using he2
      go_wp2_with fail
      refine wp_region_held_drew (S := (fun _ => True)) (by kernel_rfl) (True.intro) (fun hHeld => ?_)
      refine wpAnyH_take (i := 0) (v := ?_) rfl (by kernel_rfl) (by kernel_rfl) (by kernel_rfl) (fun _ _ _ h => h) (Or.inl ⟨by rfl, ?_⟩) (by assumption) ?_
      rotate_left
      · (intro w hSw; (try dsimp only at hSw); go_simp <;> with_reducible rfl)
      try simp only [List.getElem_toArray, List.getElem_cons_zero, List.getElem_cons_succ, Act.put, List.setIfInBounds_toArray, List.set_cons_zero, List.set_cons_succ]
      refine wpAnyH_take (i := 1) (v := ?_) rfl (by kernel_rfl) (by kernel_rfl) (by kernel_rfl) (fun _ _ _ h => h) (Or.inl ⟨by rfl, ?_⟩) (by assumption) ?_
      rotate_left
      · (intro w hSw; (try dsimp only at hSw); go_simp <;> with_reducible rfl)
      try simp only [List.getElem_toArray, List.getElem_cons_zero, List.getElem_cons_succ, Act.put, List.setIfInBounds_toArray, List.set_cons_zero, List.set_cons_succ]
      refine wpAnyH_take (i := 2) (v := ?_) rfl (by kernel_rfl) (by kernel_rfl) (by kernel_rfl) (fun _ _ _ h => h) (Or.inl ⟨by rfl, ?_⟩) (by assumption) ?_
      rotate_left
      · (intro w hSw; (try dsimp only at hSw); go_simp <;> with_reducible rfl)
      try simp only [List.getElem_toArray, List.getElem_cons_zero, List.getElem_cons_succ, Act.put, List.setIfInBounds_toArray, List.set_cons_zero, List.set_cons_succ]
      refine wpAnyH_take (i := 3) (v := undef) rfl (by kernel_rfl) (by kernel_rfl) (by kernel_rfl) (fun _ _ _ h => h) (Or.inr ⟨by rfl, rfl⟩) (by assumption) ?_
      try simp only [List.getElem_toArray, List.getElem_cons_zero, List.getElem_cons_succ, Act.put, List.setIfInBounds_toArray, List.set_cons_zero, List.set_cons_succ]
      refine wpAnyH_take (i := 4) (v := undef) rfl (by kernel_rfl) (by kernel_rfl) (by kernel_rfl) (fun _ _ _ h => h) (Or.inr ⟨by rfl, rfl⟩) (by assumption) ?_
      try simp only [List.getElem_toArray, List.getElem_cons_zero, List.getElem_cons_succ, Act.put, List.setIfInBounds_toArray, List.set_cons_zero, List.set_cons_succ]
      refine wpAnyH_take (i := 5) (v := undef) rfl (by kernel_rfl) (by kernel_rfl) (by kernel_rfl) (fun _ _ _ h => h) (Or.inr ⟨by rfl, rfl⟩) (by assumption) ?_
      try simp only [List.getElem_toArray, List.getElem_cons_zero, List.getElem_cons_succ, Act.put, List.setIfInBounds_toArray, List.set_cons_zero, List.set_cons_succ]
      refine wpAnyH_take (i := 6) (v := undef) rfl (by kernel_rfl) (by kernel_rfl) (by kernel_rfl) (fun _ _ _ h => h) (Or.inr ⟨by rfl, rfl⟩) (by assumption) ?_
      try simp only [List.getElem_toArray, List.getElem_cons_zero, List.getElem_cons_succ, Act.put, List.setIfInBounds_toArray, List.set_cons_zero, List.set_cons_succ]
      refine wpAnyH_take (i := 7) (v := undef) rfl (by kernel_rfl) (by kernel_rfl) (by kernel_rfl) (fun _ _ _ h => h) (Or.inr ⟨by rfl, rfl⟩) (by assumption) ?_
      try simp only [List.getElem_toArray, List.getElem_cons_zero, List.getElem_cons_succ, Act.put, List.setIfInBounds_toArray, List.set_cons_zero, List.set_cons_succ]
      refine wpAnyH_take (i := 8) (v := undef) rfl (by kernel_rfl) (by kernel_rfl) (by kernel_rfl) (fun _ _ _ h => h) (Or.inr ⟨by rfl, rfl⟩) (by assumption) ?_
      try simp only [List.getElem_toArray, List.getElem_cons_zero, List.getElem_cons_succ, Act.put, List.setIfInBounds_toArray, List.set_cons_zero, List.set_cons_succ]
      refine wpAnyH_take (i := 9) (v := undef) rfl (by kernel_rfl) (by kernel_rfl) (by kernel_rfl) (fun _ _ _ h => h) (Or.inr ⟨by rfl, rfl⟩) (by assumption) ?_
      try simp only [List.getElem_toArray, List.getElem_cons_zero, List.getElem_cons_succ, Act.put, List.setIfInBounds_toArray, List.set_cons_zero, List.set_cons_succ]
      refine wpAnyH_take (i := 10) (v := undef) rfl (by kernel_rfl) (by kernel_rfl) (by kernel_rfl) (fun _ _ _ h => h) (Or.inr ⟨by rfl, rfl⟩) (by assumption) ?_
      try simp only [List.getElem_toArray, List.getElem_cons_zero, List.getElem_cons_succ, Act.put, List.setIfInBounds_toArray, List.set_cons_zero, List.set_cons_succ]
      refine wpAnyH_take (i := 11) (v := undef) rfl (by kernel_rfl) (by kernel_rfl) (by kernel_rfl) (fun _ _ _ h => h) (Or.inr ⟨by rfl, rfl⟩) (by assumption) ?_
      try simp only [List.getElem_toArray, List.getElem_cons_zero, List.getElem_cons_succ, Act.put, List.setIfInBounds_toArray, List.set_cons_zero, List.set_cons_succ]
      refine wpAnyH_take (i := 12) (v := undef) rfl (by kernel_rfl) (by kernel_rfl) (by kernel_rfl) (fun _ _ _ h => h) (Or.inr ⟨by rfl, rfl⟩) (by assumption) ?_
      try simp only [List.getElem_toArray, List.getElem_cons_zero, List.getElem_cons_succ, Act.put, List.setIfInBounds_toArray, List.set_cons_zero, List.set_cons_succ]
      refine wpAnyH_take (i := 13) (v := undef) rfl (by kernel_rfl) (by kernel_rfl) (by kernel_rfl) (fun _ _ _ h => h) (Or.inr ⟨by rfl, rfl⟩) (by assumption) ?_
      try simp only [List.getElem_toArray, List.getElem_cons_zero, List.getElem_cons_succ, Act.put, List.setIfInBounds_toArray, List.set_cons_zero, List.set_cons_succ]
      refine wpAnyH_take (i := 14) (v := undef) rfl (by kernel_rfl) (by kernel_rfl) (by kernel_rfl) (fun _ _ _ h => h) (Or.inr ⟨by rfl, rfl⟩) (by assumption) ?_
      try simp only [List.getElem_toArray, List.getElem_cons_zero, List.getElem_cons_succ, Act.put, List.setIfInBounds_toArray, List.set_cons_zero, List.set_cons_succ]
      refine wpAnyH_take (i := 15) (v := ?_) rfl (by kernel_rfl) (by kernel_rfl) (by kernel_rfl) (fun _ _ _ h => h) (Or.inl ⟨by rfl, ?_⟩) (by assumption) ?_
      rotate_left
      · (intro w hSw; (try dsimp only at hSw); go_simp <;> with_reducible rfl)
      try simp only [List.getElem_toArray, List.getElem_cons_zero, List.getElem_cons_succ, Act.put, List.setIfInBounds_toArray, List.set_cons_zero, List.set_cons_succ]
      refine wpAnyH_done (by kernel_rfl) ?_ _
      go_wp2_with fail
      refine (works_any _).mono ?_
      rintro e w20 ⟨rfl, hb20⟩
      go_wp2
      go_ret
      exact ⟨rfl, below_join hb12.drew hb20⟩
  · have t9 : (e1 == 0) = false := by simpa using he1
    go_wp2_with fail
    refine wp_region_held_drew (S := (fun _ => True)) (by kernel_rfl) (True.intro) (fun hHeld => ?_)
    refine wpAnyH_take (i := 0) (v := ?_) rfl (by kernel_rfl) (by kernel_rfl) (by kernel_rfl) (fun _ _ _ h => h) (Or.inl ⟨by rfl, ?_⟩) (by assumption) ?_
    rotate_left
    · (intro w hSw; (try dsimp only at hSw); go_simp <;> with_reducible rfl)
    try simp only [List.getElem_toArray, List.getElem_cons_zero, List.getElem_cons_succ, Act.put, List.setIfInBounds_toArray, List.set_cons_zero, List.set_cons_succ]
    refine wpAnyH_take (i := 1) (v := ?_) rfl (by kernel_rfl) (by kernel_rfl) (by kernel_rfl) (fun _ _ _ h => h) (Or.inl ⟨by rfl, ?_⟩) (by assumption) ?_
    rotate_left
    · (intro w hSw; (try dsimp only at hSw); go_simp <;> with_reducible rfl)
    try simp only [List.getElem_toArray, List.getElem_cons_zero, List.getElem_cons_succ, Act.put, List.setIfInBounds_toArray, List.set_cons_zero, List.set_cons_succ]
    refine wpAnyH_take (i := 2) (v := ?_) rfl (by kernel_rfl) (by kernel_rfl) (by kernel_rfl) (fun _ _ _ h => h) (Or.inl ⟨by rfl, ?_⟩) (by assumption) ?_
    rotate_left
    · (intro w hSw; (try dsimp only at hSw); go_simp <;> with_reducible rfl)
    try simp only [List.getElem_toArray, List.getElem_cons_zero, List.getElem_cons_succ, Act.put, List.setIfInBounds_toArray, List.set_cons_zero, List.set_cons_succ]
    refine wpAnyH_take (i := 3) (v := undef) rfl (by kernel_rfl) (by kernel_rfl) (by kernel_rfl) (fun _ _ _ h => h) (Or.inr ⟨by rfl, rfl⟩) (by assumption) ?_
    try simp only [List.getElem_toArray, List.getElem_cons_zero, List.getElem_cons_succ, Act.put, List.setIfInBounds_toArray, List.set_cons_zero, List.set_cons_succ]
    refine wpAnyH_take (i := 4) (v := undef) rfl (by kernel_rfl) (by kernel_rfl) (by kernel_rfl) (fun _ _ _ h => h) (Or.inr ⟨by rfl, rfl⟩) (by assumption) ?_
    try simp only [List.getElem_toArray, List.getElem_cons_zero, List.getElem_cons_succ, Act.put, List.setIfInBounds_toArray, List.set_cons_zero, List.set_cons_succ]
    refine wpAnyH_take (i := 5) (v := undef) rfl (by kernel_rfl) (by kernel_rfl) (by kernel_rfl) (fun _ _ _ h => h) (Or.inr ⟨by rfl, rfl⟩) (by assumption) ?_
    try simp only [List.getElem_toArray, List.getElem_cons_zero, List.getElem_cons_succ, Act.put, List.setIfInBounds_toArray, List.set_cons_zero, List.set_cons_succ]
    refine wpAnyH_take (i := 6) (v := undef) rfl (by kernel_rfl) (by kernel_rfl) (by kernel_rfl) (fun _ _ _ h => h) (Or.inr ⟨by rfl, rfl⟩) (by assumption) ?_
    try simp only [List.getElem_toArray, List.getElem_cons_zero, List.getElem_cons_succ, Act.put, List.setIfInBounds_toArray, List.set_cons_zero, List.set_cons_succ]
    refine wpAnyH_take (i := 7) (v := undef) rfl (by kernel_rfl) (by kernel_rfl) (by kernel_rfl) (fun _ _ _ h => h) (Or.inr ⟨by rfl, rfl⟩) (by assumption) ?_
    try simp only [List.getElem_toArray, List.getElem_cons_zero, List.getElem_cons_succ, Act.put, List.setIfInBounds_toArray, List.set_cons_zero, List.set_cons_succ]
    refine wpAnyH_take (i := 8) (v := undef) rfl (by kernel_rfl) (by kernel_rfl) (by kernel_rfl) (fun _ _ _ h => h) (Or.inr ⟨by rfl, rfl⟩) (by assumption) ?_
    try simp only [List.getElem_toArray, List.getElem_cons_zero, List.getElem_cons_succ, Act.put, List.setIfInBounds_toArray, List.set_cons_zero, List.set_cons_succ]
    refine wpAnyH_take (i := 9) (v := undef) rfl (by kernel_rfl) (by kernel_rfl) (by kernel_rfl) (fun _ _ _ h => h) (Or.inr ⟨by rfl, rfl⟩) (by assumption) ?_
    try simp only [List.getElem_toArray, List.getElem_cons_zero, List.getElem_cons_succ, Act.put, List.setIfInBounds_toArray, List.set_cons_zero, List.set_cons_succ]
    refine wpAnyH_take (i := 10) (v := undef) rfl (by kernel_rfl) (by kernel_rfl) (by kernel_rfl) (fun _ _ _ h => h) (Or.inr ⟨by rfl, rfl⟩) (by assumption) ?_
    try simp only [List.getElem_toArray, List.getElem_cons_zero, List.getElem_cons_succ, Act.put, List.setIfInBounds_toArray, List.set_cons_zero, List.set_cons_succ]
    refine wpAnyH_take (i := 11) (v := undef) rfl (by kernel_rfl) (by kernel_rfl) (by kernel_rfl) (fun _ _ _ h => h) (Or.inr ⟨by rfl, rfl⟩) (by assumption) ?_
    try simp only [List.getElem_toArray, List.getElem_cons_zero, List.getElem_cons_succ, Act.put, List.setIfInBounds_toArray, List.set_cons_zero, List.set_cons_succ]
    refine wpAnyH_take (i := 12) (v := undef) rfl (by kernel_rfl) (by kernel_rfl) (by kernel_rfl) (fun _ _ _ h => h) (Or.inr ⟨by rfl, rfl⟩) (by assumption) ?_
    try simp only [List.getElem_toArray, List.getElem_cons_zero, List.getElem_cons_succ, Act.put, List.setIfInBounds_toArray, List.set_cons_zero, List.set_cons_succ]
    refine wpAnyH_take (i := 13) (v := undef) rfl (by kernel_rfl) (by kernel_rfl) (by kernel_rfl) (fun _ _ _ h => h) (Or.inr ⟨by rfl, rfl⟩) (by assumption) ?_
    try simp only [List.getElem_toArray, List.getElem_cons_zero, List.getElem_cons_succ, Act.put, List.setIfInBounds_toArray, List.set_cons_zero, List.set_cons_succ]
    refine wpAnyH_take (i := 14) (v := undef) rfl (by kernel_rfl) (by kernel_rfl) (by kernel_rfl) (fun _ _ _ h => h) (Or.inr ⟨by rfl, rfl⟩) (by assumption) ?_
    try simp only [List.getElem_toArray, List.getElem_cons_zero, List.getElem_cons_succ, Act.put, List.setIfInBounds_toArray, List.set_cons_zero, List.set_cons_succ]
    refine wpAnyH_take (i := 15) (v := ?_) rfl (by kernel_rfl) (by kernel_rfl) (by kernel_rfl) (fun _ _ _ h => h) (Or.inl ⟨by rfl, ?_⟩) (by assumption) ?_
    rotate_left
    · (intro w hSw; (try dsimp only at hSw); go_simp <;> with_reducible rfl)
    try simp only [List.getElem_toArray, List.getElem_cons_zero, List.getElem_cons_succ, Act.put, List.setIfInBounds_toArray, List.set_cons_zero, List.set_cons_succ]
    refine wpAnyH_done (by kernel_rfl) ?_ _
    have hA9 := hA.kept hb07.drew
    go_wp2_with fail
    refine (Period_any A l c at_ _ hA9 hlc hc).mono ?_
    rintro e w11 ⟨hr11, hb11⟩
    rw [← HQ.out] at hr11
    unfold RetP at hr11
    subst hr11
    have hb12 := (below_join hb07.drew hb11).alloc (by have := (below_join hb07.drew hb11).size; omega) (.cells #[.int .i64 f2, .int .i64 t2] 44)
    by_cases he2 : e2 = 0
    · subst he2
      have hback := dP_back HQ.out.symm
      obtain ⟨i2, hi2⟩ := Int.eq_ofNat_of_zero_le (show 0 ≤ at_ by omega)
      obtain ⟨j2, rfl⟩ := Int.eq_ofNat_of_zero_le (show 0 ≤ k2 by omega)
      have HB2 := Lib.hid hback
      have hj2 : j2 ≤ l.length := by omega
      have hij2 : i2 < j2 := by omega
      clear hback
      obtain ⟨p2, hp2⟩ : ∃ p2, p2 = l.take i2 := ⟨_, rfl⟩
      obtain ⟨q2, hq2⟩ : ∃ q2, q2 = l.take j2 := ⟨_, rfl⟩
      have hpl2 : p2.length = i2 := by rw [hp2, List.length_take]; omega
      have hql2 : q2.length = j2 := by rw [hq2, List.length_take]; omega
      have hpq2 : Hid (p2 ++ pP f2 t2 = q2) := by have := HB2.out.1; rw [hi2] at this; unfold Hid; rw [hp2, hq2]; exact this.symm
      have hCp2 : Cs w A (B p2) := by rw [hp2, ← B_take]; exact hA.take _
      have hCq2 : Cs w A (B q2) := by rw [hq2, ← B_take]; exact hA.take _
      clear hp2 hq2
      subst hpl2
      subst hql2
      have hs3 := fun w => run_cut (w := w) A l.length c p2.length (by omega) (by unfold maxLen at hc; omega)
      have hs4 := fun w => run_upto (w := w) A l.length c q2.length (by omega) (by unfold maxLen at hc; omega)
      rw [← hi2] at hs3
      have HI2 := Lib.hid hi2
      clear hi2
      have hc21 : (w11.alloc (.cells #[.int .i64 f2, .int .i64 t2] 44)).cell? ⟨w11.heap.size, 0, none⟩ = some (.int .i64 f2) := blk_cell (blk_new _ _) rfl
      have hc22 : (w11.alloc (.cells #[.int .i64 f2, .int .i64 t2] 44)).cell? ⟨w11.heap.size, 1, none⟩ = some (.int .i64 t2) := blk_cell (blk_new _ _) rfl
      have hpe3 : p2.length + 20 ≤ 140737488355328 := Nat.le_trans (Nat.add_le_add_right (Nat.le_trans (Nat.le_of_lt hij2) (Nat.le_trans hj2 hl)) 20) (by decide)
      have hpe2 : p2.length ≤ maxLen := by unfold maxLen; omega
      go_wp2_with fail
      refine wp_region_held_drew (S := (fun w' => (convert 22 9 (.slice A q2.length c)).run Try.prog w' = .ok (.string ⟨q2.toArray⟩) w' ∧ w'.cell? ⟨w11.heap.size, 0, none⟩ = some (.int .i64 f2) ∧ w'.cell? ⟨w11.heap.size, 1, none⟩ = some (.int .i64 t2))) (by kernel_rfl) (⟨run_string (hCq2.kept hb12.drew) 22 9 5 Try.underlying22 Try.underlying5 Try.underlying9 c, hc21, hc22⟩) (fun hHeld => ?_)
      refine wpAnyH_take (i := 0) (v := ?_) rfl (by kernel_rfl) (by kernel_rfl) (by kernel_rfl) (fun _ _ _ h => h) (Or.inl ⟨by rfl, ?_⟩) (by assumption) ?_
      rotate_left
      · (intro w hSw; (try dsimp only at hSw); go_simp <;> with_reducible rfl)
      try simp only [List.getElem_toArray, List.getElem_cons_zero, List.getElem_cons_succ, Act.put, List.setIfInBounds_toArray, List.set_cons_zero, List.set_cons_succ]
      refine wpAnyH_take (i := 1) (v := ?_) rfl (by kernel_rfl) (by kernel_rfl) (by kernel_rfl) (fun _ _ _ h => h) (Or.inl ⟨by rfl, ?_⟩) (by assumption) ?_
      rotate_left
      · (intro w hSw; (try dsimp only at hSw); go_simp <;> with_reducible rfl)
      try simp only [List.getElem_toArray, List.getElem_cons_zero, List.getElem_cons_succ, Act.put, List.setIfInBounds_toArray, List.set_cons_zero, List.set_cons_succ]
      refine wpAnyH_take (i := 2) (v := ?_) rfl (by kernel_rfl) (by kernel_rfl) (by kernel_rfl) (fun _ _ _ h => h) (Or.inl ⟨by rfl, ?_⟩) (by assumption) ?_
      rotate_left
      · (intro w hSw; (try dsimp only at hSw); go_simp <;> with_reducible rfl)
      try simp only [List.getElem_toArray, List.getElem_cons_zero, List.getElem_cons_succ, Act.put, List.setIfInBounds_toArray, List.set_cons_zero, List.set_cons_succ]
      refine wpAnyH_take (i := 3) (v := ?_) rfl (by kernel_rfl) (by kernel_rfl) (by kernel_rfl) (fun _ _ _ h => h) (Or.inl ⟨by rfl, ?_⟩) (by assumption) ?_
      rotate_left
      · (intro w hSw; (try dsimp only at hSw); go_simp <;> with_reducible rfl)
      try simp only [List.getElem_toArray, List.getElem_cons_zero, List.getElem_cons_succ, Act.put, List.setIfInBounds_toArray, List.set_cons_zero, List.set_cons_succ]
      refine wpAnyH_take (i := 4) (v := ?_) rfl (by kernel_rfl) (by kernel_rfl) (by kernel_rfl) (fun _ _ _ h => h) (Or.inl ⟨by rfl, ?_⟩) (by assumption) ?_
      rotate_left
      · (intro w hSw; (try dsimp only at hSw); go_simp <;> with_reducible rfl)
      try simp only [List.getElem_toArray, List.getElem_cons_zero, List.getElem_cons_succ, Act.put, List.setIfInBounds_toArray, List.set_cons_zero, List.set_cons_succ]
      refine wpAnyH_take (i := 5) (v := ?_) rfl (by kernel_rfl) (by kernel_rfl) (by kernel_rfl) (fun _ _ _ h => h) (Or.inl ⟨by rfl, ?_⟩) (by assumption) ?_
      rotate_left
      · (intro w hSw; (try dsimp only at hSw); go_simp <;> with_reducible rfl)
      try simp only [List.getElem_toArray, List.getElem_cons_zero, List.getElem_cons_succ, Act.put, List.setIfInBounds_toArray, List.set_cons_zero, List.set_cons_succ]
      refine wpAnyH_take (i := 6) (v := ?_) rfl (by kernel_rfl) (by kernel_rfl) (by kernel_rfl) (fun _ _ _ h => h) (Or.inl ⟨by rfl, ?_⟩) (by assumption) ?_
      rotate_left
      · (intro w hSw; (try dsimp only at hSw); go_simp <;> with_reducible rfl)
      try simp only [List.getElem_toArray, List.getElem_cons_zero, List.getElem_cons_succ, Act.put, List.setIfInBounds_toArray, List.set_cons_zero, List.set_cons_succ]
      refine wpAnyH_take (i := 7) (v := ?_) rfl (by kernel_rfl) (by kernel_rfl) (by kernel_rfl) (fun _ _ _ h => h) (Or.inl ⟨by rfl, ?_⟩) (by assumption) ?_
      rotate_left
      · (intro w hSw; (try dsimp only at hSw); go_simp <;> with_reducible rfl)
      try simp only [List.getElem_toArray, List.getElem_cons_zero, List.getElem_cons_succ, Act.put, List.setIfInBounds_toArray, List.set_cons_zero, List.set_cons_succ]
      refine wpAnyH_take (i := 10) (v := ?_) rfl (by kernel_rfl) (by kernel_rfl) (by kernel_rfl) (fun _ _ _ h => h) (Or.inl ⟨by rfl, ?_⟩) (by assumption) ?_
      rotate_left
      · (intro w hSw; (try dsimp only at hSw); go_simp <;> with_reducible rfl)
      try simp only [List.getElem_toArray, List.getElem_cons_zero, List.getElem_cons_succ, Act.put, List.setIfInBounds_toArray, List.set_cons_zero, List.set_cons_succ]
      refine wpAnyH_take (i := 11) (v := ?_) rfl (by kernel_rfl) (by kernel_rfl) (by kernel_rfl) (fun _ _ _ h => h) (Or.inl ⟨by rfl, ?_⟩) (by assumption) ?_
      rotate_left
      · (intro w hSw; (try dsimp only at hSw); go_simp <;> with_reducible rfl)
      try simp only [List.getElem_toArray, List.getElem_cons_zero, List.getElem_cons_succ, Act.put, List.setIfInBounds_toArray, List.set_cons_zero, List.set_cons_succ]
      refine wpAnyH_take (i := 12) (v := ?_) rfl (by kernel_rfl) (by kernel_rfl) (by kernel_rfl) (fun _ _ _ h => h) (Or.inl ⟨by rfl, ?_⟩) (by assumption) ?_
      rotate_left
      · (intro w hSw; (try dsimp only at hSw); go_simp <;> with_reducible rfl)
      try simp only [List.getElem_toArray, List.getElem_cons_zero, List.getElem_cons_succ, Act.put, List.setIfInBounds_toArray, List.set_cons_zero, List.set_cons_succ]
      refine wpAnyH_take (i := 13) (v := ?_) rfl (by kernel_rfl) (by kernel_rfl) (by kernel_rfl) (fun _ _ _ h => h) (Or.inl ⟨by rfl, ?_⟩) (by assumption) ?_
      rotate_left
      · (intro w hSw; (try dsimp only at hSw); go_simp <;> with_reducible rfl)
      try simp only [List.getElem_toArray, List.getElem_cons_zero, List.getElem_cons_succ, Act.put, List.setIfInBounds_toArray, List.set_cons_zero, List.set_cons_succ]
      refine wpAnyH_ready (rs := [8]) (by kernel_rfl) (by simp) ?_
      refine AllReadyH.cons rfl (fun K hK => ?_) AllReadyH.nil
      try simp only [List.getElem_toArray, List.getElem_cons_zero, List.getElem_cons_succ]
      go_simp
      (go_at_call 28; refine (PutPeriod_any A p2 p2.length f2 t2 _ HB2.out.2.2.2.2.1.1 HB2.out.2.2.2.2.1.2 HB2.out.2.2.2.2.2.1 HB2.out.2.2.2.2.2.2 (hCp2.kept hb12.drew) (Nat.le_refl _) hpe2 hpe3).mono ?_; rintro e w13 ⟨v13, rfl, ho13, hb13⟩; rw [hpq2.out] at ho13; obtain ⟨A13, c13, rfl, hl13, hm13, hC13⟩ := ho13.cs; have hs13 := run_string hC13 22 9 5 Try.underlying22 Try.underlying5 Try.underlying9 c13)
      go_wp2_with fail
      refine hK.out _ _ (by (try dsimp only); exact ⟨run_string (hCq2.kept (below_join hb12.drew hb13)) 22 9 5 Try.underlying22 Try.underlying5 Try.underlying9 c, cell_kept hb13 hHeld.2.1, cell_kept hb13 hHeld.2.2⟩) (fun hHeld => ?_)
      clear hK K
      try simp only [List.getElem_toArray, List.getElem_cons_zero, List.getElem_cons_succ, Act.put, List.setIfInBounds_toArray, List.set_cons_zero, List.set_cons_succ]
      refine wpAnyH_ready (rs := [9]) (by kernel_rfl) (by simp) ?_
      refine AllReadyH.cons rfl (fun K hK => ?_) AllReadyH.nil
      try simp only [List.getElem_toArray, List.getElem_cons_zero, List.getElem_cons_succ]
      go_simp
      refine hK.out _ _ (by assumption) (fun hHeld => ?_)
      clear hK K
      try simp only [List.getElem_toArray, List.getElem_cons_zero, List.getElem_cons_succ, Act.put, List.setIfInBounds_toArray, List.set_cons_zero, List.set_cons_succ]
      refine wpAnyH_take (i := 14) (v := ?_) rfl (by kernel_rfl) (by kernel_rfl) (by kernel_rfl) (fun _ _ _ h => h) (Or.inl ⟨by rfl, ?_⟩) (by assumption) ?_
      rotate_left
      · (intro w hSw; (try dsimp only at hSw); go_simp <;> with_reducible rfl)
      try simp only [List.getElem_toArray, List.getElem_cons_zero, List.getElem_cons_succ, Act.put, List.setIfInBounds_toArray, List.set_cons_zero, List.set_cons_succ]
      refine wpAnyH_take (i := 15) (v := ?_) rfl (by kernel_rfl) (by kernel_rfl) (by kernel_rfl) (fun _ _ _ h => h) (Or.inl ⟨by rfl, ?_⟩) (by assumption) ?_
      rotate_left
      · (intro w hSw; (try dsimp only at hSw); go_simp <;> with_reducible rfl)
      try simp only [List.getElem_toArray, List.getElem_cons_zero, List.getElem_cons_succ, Act.put, List.setIfInBounds_toArray, List.set_cons_zero, List.set_cons_succ]
      refine wpAnyH_done (by kernel_rfl) ?_ _
      have hb14 := below_join hb12.drew hb13
      go_wp2_with fail
      refine (works_any _).mono ?_
      rintro e w20 ⟨rfl, hb20⟩
      go_wp2
      go_ret
      exact ⟨rfl, below_join hb14 hb20⟩
    · have t9 : (e2 == 0) = false := by simpa using he2
      go_wp2_with fail
      refine wp_region_held_drew (S := (fun _ => True)) (by kernel_rfl) (True.intro) (fun hHeld => ?_)
      refine wpAnyH_take (i := 0) (v := ?_) rfl (by kernel_rfl) (by kernel_rfl) (by kernel_rfl) (fun _ _ _ h => h) (Or.inl ⟨by rfl, ?_⟩) (by assumption) ?_
      rotate_left
      · (intro w hSw; (try dsimp only at hSw); go_simp <;> with_reducible rfl)
      try simp only [List.getElem_toArray, List.getElem_cons_zero, List.getElem_cons_succ, Act.put, List.setIfInBounds_toArray, List.set_cons_zero, List.set_cons_succ]
      refine wpAnyH_take (i := 1) (v := ?_) rfl (by kernel_rfl) (by kernel_rfl) (by kernel_rfl) (fun _ _ _ h => h) (Or.inl ⟨by rfl, ?_⟩) (by assumption) ?_
      rotate_left
      · (intro w hSw; (try dsimp only at hSw); go_simp <;> with_reducible rfl)
      try simp only [List.getElem_toArray, List.getElem_cons_zero, List.getElem_cons_succ, Act.put, List.setIfInBounds_toArray, List.set_cons_zero, List.set_cons_succ]
      refine wpAnyH_take (i := 2) (v := ?_) rfl (by kernel_rfl) (by kernel_rfl) (by kernel_rfl) (fun _ _ _ h => h) (Or.inl ⟨by rfl, ?_⟩) (by assumption) ?_
      rotate_left
      · (intro w hSw; (try dsimp only at hSw); go_simp <;> with_reducible rfl)
      try simp only [List.getElem_toArray, List.getElem_cons_zero, List.getElem_cons_succ, Act.put, List.setIfInBounds_toArray, List.set_cons_zero, List.set_cons_succ]
      refine wpAnyH_take (i := 3) (v := undef) rfl (by kernel_rfl) (by kernel_rfl) (by kernel_rfl) (fun _ _ _ h => h) (Or.inr ⟨by rfl, rfl⟩) (by assumption) ?_
      try simp only [List.getElem_toArray, List.getElem_cons_zero, List.getElem_cons_succ, Act.put, List.setIfInBounds_toArray, List.set_cons_zero, List.set_cons_succ]
      refine wpAnyH_take (i := 4) (v := undef) rfl (by kernel_rfl) (by kernel_rfl) (by kernel_rfl) (fun _ _ _ h => h) (Or.inr ⟨by rfl, rfl⟩) (by assumption) ?_
      try simp only [List.getElem_toArray, List.getElem_cons_zero, List.getElem_cons_succ, Act.put, List.setIfInBounds_toArray, List.set_cons_zero, List.set_cons_succ]
      refine wpAnyH_take (i := 5) (v := undef) rfl (by kernel_rfl) (by kernel_rfl) (by kernel_rfl) (fun _ _ _ h => h) (Or.inr ⟨by rfl, rfl⟩) (by assumption) ?_
      try simp only [List.getElem_toArray, List.getElem_cons_zero, List.getElem_cons_succ, Act.put, List.setIfInBounds_toArray, List.set_cons_zero, List.set_cons_succ]
      refine wpAnyH_take (i := 6) (v := undef) rfl (by kernel_rfl) (by kernel_rfl) (by kernel_rfl) (fun _ _ _ h => h) (Or.inr ⟨by rfl, rfl⟩) (by assumption) ?_
      try simp only [List.getElem_toArray, List.getElem_cons_zero, List.getElem_cons_succ, Act.put, List.setIfInBounds_toArray, List.set_cons_zero, List.set_cons_succ]
      refine wpAnyH_take (i := 7) (v := undef) rfl (by kernel_rfl) (by kernel_rfl) (by kernel_rfl) (fun _ _ _ h => h) (Or.inr ⟨by rfl, rfl⟩) (by assumption) ?_
      try simp only [List.getElem_toArray, List.getElem_cons_zero, List.getElem_cons_succ, Act.put, List.setIfInBounds_toArray, List.set_cons_zero, List.set_cons_succ]
      refine wpAnyH_take (i := 8) (v := undef) rfl (by kernel_rfl) (by kernel_rfl) (by kernel_rfl) (fun _ _ _ h => h) (Or.inr ⟨by rfl, rfl⟩) (by assumption) ?_
      try simp only [List.getElem_toArray, List.getElem_cons_zero, List.getElem_cons_succ, Act.put, List.setIfInBounds_toArray, List.set_cons_zero, List.set_cons_succ]
      refine wpAnyH_take (i := 9) (v := undef) rfl (by kernel_rfl) (by kernel_rfl) (by kernel_rfl) (fun _ _ _ h => h) (Or.inr ⟨by rfl, rfl⟩) (by assumption) ?_
      try simp only [List.getElem_toArray, List.getElem_cons_zero, List.getElem_cons_succ, Act.put, List.setIfInBounds_toArray, List.set_cons_zero, List.set_cons_succ]
      refine wpAnyH_take (i := 10) (v := undef) rfl (by kernel_rfl) (by kernel_rfl) (by kernel_rfl) (fun _ _ _ h => h) (Or.inr ⟨by rfl, rfl⟩) (by assumption) ?_
      try simp only [List.getElem_toArray, List.getElem_cons_zero, List.getElem_cons_succ, Act.put, List.setIfInBounds_toArray, List.set_cons_zero, List.set_cons_succ]
      refine wpAnyH_take (i := 11) (v := undef) rfl (by kernel_rfl) (by kernel_rfl) (by kernel_rfl) (fun _ _ _ h => h) (Or.inr ⟨by rfl, rfl⟩) (by assumption) ?_
      try simp only [List.getElem_toArray, List.getElem_cons_zero, List.getElem_cons_succ, Act.put, List.setIfInBounds_toArray, List.set_cons_zero, List.set_cons_succ]
      refine wpAnyH_take (i := 12) (v := undef) rfl (by kernel_rfl) (by kernel_rfl) (by kernel_rfl) (fun _ _ _ h => h) (Or.inr ⟨by rfl, rfl⟩) (by assumption) ?_
      try simp only [List.getElem_toArray, List.getElem_cons_zero, List.getElem_cons_succ, Act.put, List.setIfInBounds_toArray, List.set_cons_zero, List.set_cons_succ]
      refine wpAnyH_take (i := 13) (v := undef) rfl (by kernel_rfl) (by kernel_rfl) (by kernel_rfl) (fun _ _ _ h => h) (Or.inr ⟨by rfl, rfl⟩) (by assumption) ?_
      try simp only [List.getElem_toArray, List.getElem_cons_zero, List.getElem_cons_succ, Act.put, List.setIfInBounds_toArray, List.set_cons_zero, List.set_cons_succ]
      refine wpAnyH_take (i := 14) (v := undef) rfl (by kernel_rfl) (by kernel_rfl) (by kernel_rfl) (fun _ _ _ h => h) (Or.inr ⟨by rfl, rfl⟩) (by assumption) ?_
      try simp only [List.getElem_toArray, List.getElem_cons_zero, List.getElem_cons_succ, Act.put, List.setIfInBounds_toArray, List.set_cons_zero, List.set_cons_succ]
      refine wpAnyH_take (i := 15) (v := ?_) rfl (by kernel_rfl) (by kernel_rfl) (by kernel_rfl) (fun _ _ _ h => h) (Or.inl ⟨by rfl, ?_⟩) (by assumption) ?_
      rotate_left
      · (intro w hSw; (try dsimp only at hSw); go_simp <;> with_reducible rfl)
      try simp only [List.getElem_toArray, List.getElem_cons_zero, List.getElem_cons_succ, Act.put, List.setIfInBounds_toArray, List.set_cons_zero, List.set_cons_succ]
      refine wpAnyH_done (by kernel_rfl) ?_ _
      go_wp2_with fail
      refine (works_any _).mono ?_
      rintro e w20 ⟨rfl, hb20⟩
      go_wp2
      go_ret
      exact ⟨rfl, below_join hb12.drew hb20⟩

theorem back_walk (A : Option Addr) (l : List UInt8) (c : Nat) (A1 : Option Addr) (vs : List Val) (c1 : Nat) (f t at_ : Int) (w : World) (hA : Cs w A (B l)) (hlc : l.length ≤ c) (hc : c ≤ maxLen) (hl : l.length ≤ 140737488351232) (hA1 : Cs w A1 (Row Val.cells vs)) (hr : Hid (∀ v ∈ vs, v.Rough)) (hn : vs.length * 32 ≤ 140737488351232) (HP : Hid ((-9223372036854775808 ≤ f ∧ f < 9223372036854775808) ∧ -9223372036854775808 ≤ t ∧ t < 9223372036854775808)) :
    Calls Try.prog 11 #[.slice A l.length c, .slice A1 vs.length c1, .agg #[.int .i64 f, .int .i64 t], .int .i64 at_] w fun e w' => e = .returned (.bool true) ∧ Below w.heap.size w w' := by
  cases hv : vRow vs
  · exact back_no A l c A1 vs c1 f t at_ w hA hlc hc hl hA1 hr hn HP hv
  · exact back_yes A l c A1 vs c1 f t at_ w hA hlc hc hl hA1 hr hn HP hv

set_option maxRecDepth 100000 in
theorem CodecBack_lifted (os : Os) (started : os.Started) (H : Type) (enc : TypeId × Value → H) :
    ReturnsInHanded {} Try.checked os 11 .any (Rows.codecBackSpec.pre6 enc Try.prog Try.f11 Rows.codecBackRow.domain false) (Rows.codecBackSpec.post enc Try.prog Try.f11 false true false false) := by
  refine returnsInHanded_of_change_sized (C := Try.checked) ownK started (by kernel_rfl) Try.func11
    (ChangeSpec.witness6 (enc := enc) (C := Try.checked) false ⟨#[], #[.slice none 0 0, .slice none 0 0, .agg #[.int .i64 0, .int .i64 0], .int .i64 0], []⟩ 8 (by kernel_rfl) (by kernel_rfl) (by kernel_rfl) (by kernel_rfl)) ?_
  intro W base args ds gs before hval0 hW hcnd hsz0 _
  have hsz : (DataW.weightsEach Try.prog (Try.f11.params.toList ++ Rows.codecBackSpec.plain.varTypes Try.prog) (ds ++ gs)).all (· ≤ reachBytes) = true := hsz0
  have hval : ∀ (j : Nat) t v, Try.f11.params[j]? = some t → args[j]? = some v → Value.okWide Try.prog W .any base t v := hval0
  have hW' := hW
  obtain ⟨p, q, hA0, hV, rfl, hfz, hnd⟩ := hW
  have hA : DataW.TrodAll enc Try.prog W 0 (fun _ => true) true Try.f11.params.toList args.toList ds p := hA0
  rw [Try.params11] at hA hval hsz
  obtain ⟨v0, vs0, d0, ds0, p0, q0, hargs, rfl, rfl, h0, r0⟩ := trodAll_cons hA
  obtain ⟨v1, vs1, d1, ds1, p1, q1, rfl, rfl, rfl, h1, r1⟩ := trodAll_cons r0
  obtain ⟨v2, vs2, d2, ds2, p2, q2, rfl, rfl, rfl, h2, r2⟩ := trodAll_cons r1
  obtain ⟨v3, vs3, d3, ds3, p3, q3, rfl, rfl, rfl, h3, r3⟩ := trodAll_cons r2
  obtain ⟨rfl, rfl, rfl⟩ := trodAll_nil r3
  obtain rfl : args = #[v0, v1, v2, v3] := by cases args; simp_all
  obtain ⟨rfl, rfl⟩ := trodVars_none hV
  have k0 := h0
  have lt0 : ∀ x ∈ p0, x.block < W.heap.size := by obtain ⟨m, hm⟩ := k0; exact DataW.trod_lt m _ _ _ hm
  have k1 := h1
  have lt1 : ∀ x ∈ p1, x.block < W.heap.size := by obtain ⟨m, hm⟩ := k1; exact DataW.trod_lt m _ _ _ hm
  have k2 := h2
  have lt2 : ∀ x ∈ p2, x.block < W.heap.size := by obtain ⟨m, hm⟩ := k2; exact DataW.trod_lt m _ _ _ hm
  have k3 := h3
  have lt3 : ∀ x ∈ p3, x.block < W.heap.size := by obtain ⟨m, hm⟩ := k3; exact DataW.trod_lt m _ _ _ hm
  obtain ⟨A, l, c, rfl, hlc, hc, hCA, hl⟩ := open_bytes (hval 0 22 v0 rfl rfl) h0 hsz (j := 0) rfl rfl
  obtain ⟨A1, vs, c1, rfl, _, _, hCA1, hrough, hn⟩ := open_vals (hval 1 30 v1 rfl rfl) h1 hsz (j := 1) rfl rfl
  obtain ⟨f, t, rfl, ⟨hf1, hf2⟩, ht1, ht2⟩ := open_period (hval 2 44 v2 rfl rfl) h2
  obtain ⟨m, rfl, _, _, wm⟩ := open_int Try.underlying3 (hval 3 3 v3 rfl rfl) h3
  clear hA0 hval0 hsz0
  refine (back_walk A l c A1 vs c1 f t m W hCA hlc hc hl hCA1 (Lib.hid hrough) hn (Lib.hid ⟨⟨hf1, hf2⟩, ht1, ht2⟩)).mono fun e W' ⟨he, bel⟩ => ?_
  subst he
  exact ⟨_, rfl, _, _, _, [], _, [], hW', trodAll_mk1 (shut_bool Try.underlying4 _), (trodAll_cons_mk (Below.trod laidK (by kernel_rfl) (of_decide_eq_true (by kernel_rfl)) k0 bel lt0) (trodAll_cons_mk (Below.trod laidK (by kernel_rfl) (of_decide_eq_true (by kernel_rfl)) k1 bel lt1) (trodAll_cons_mk (Below.trod laidK (by kernel_rfl) (of_decide_eq_true (by kernel_rfl)) k2 bel lt2) (trodAll_cons_mk (Below.trod laidK (by kernel_rfl) (of_decide_eq_true (by kernel_rfl)) k3 bel lt3) trodAll_mk0)))), rfl, bel.frame _, fun h => by cases h⟩

/-- CodecBack holds. -/
theorem CodecBack_holds : Rows.CodecBackSaid :=
  OpenClaim.holds_of_wide 11 Try.f11 rfl rfl rfl rfl rfl rfl rfl ⟨rfl, rfl, rfl, rfl, rfl⟩ rfl rfl rfl rfl rfl (by kernel_rfl) Try.func11 (by kernel_rfl)
    (of_decide_eq_true (by kernel_rfl)) (by unfold Func.isWrapper; first | (rw [if_pos (by decide +kernel)]; kernel_rfl) | (rw [if_neg (by decide +kernel)]; exact ⟨rfl, rfl⟩))
    (fun os started H enc _ => CodecBack_lifted os started H enc)
#print axioms CodecBack_holds
end Go.Proofs.Ytoejegphjlichaa
