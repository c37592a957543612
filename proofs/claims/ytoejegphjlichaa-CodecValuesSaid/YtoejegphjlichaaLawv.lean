/- CodecValues: for every slice of bytes, value and integer the law returns true, and the arguments read as before. No condition. -/
import Derived.Test.YtoejegphjlichaaOpen
import Derived.Test.YtoejegphjlichaaWork
import Derived.Test.YtoejegphjlichaaRede
import Derived.Test.YtoejegphjlichaaRefc
import Derived.Lib.SmallJoins
namespace Go.Proofs.Ytoejegphjlichaa
open Go.RowKit Go.ChangeShapes Go.WideShapes Go.ChangeAt Go.Joins
set_option linter.unusedVariables false
set_option linter.unusedSimpArgs false

theorem vV_size {v : Val} (h : vV v = true) : v.text.size ≤ 200 := by
  obtain ⟨k, n, s⟩ := v
  have e : s.size = s.data.toList.length := by rw [Array.length_toList]; rfl
  unfold vV at h
  simp only at h ⊢
  have hz : s.data.toList.isEmpty = true → s.size ≤ 200 := fun h => by
    rw [List.isEmpty_iff] at h
    rw [e, h]
    decide
  split at h
  · simp only [Bool.and_eq_true] at h; exact hz h.2
  · split at h
    · simp only [Bool.and_eq_true] at h; exact hz h.2
    · split at h
      · simp only [Bool.and_eq_true, decide_eq_true_eq] at h; exact h.1.2
      · split at h
        · simp only [Bool.and_eq_true] at h; exact hz h.2
        · cases h

set_option maxRecDepth 100000 in
set_option maxHeartbeats 8000000 in
theorem values_walk_yes (A : Option Addr) (l : List UInt8) (c : Nat) (kk nn : Int) (ss : ByteArray) (at_ : Int) (w : World) (hA : Cs w A (B l)) (hlc : l.length ≤ c) (hc : c ≤ maxLen) (hl : l.length ≤ 140737488351232) (hs : ss.size ≤ maxLen) (hs2 : ss.size ≤ 200) (HF : Hid (Val.Fits ⟨kk, nn, ss⟩)) (hvv : vV ⟨kk, nn, ss⟩ = true) :
    Calls Try.prog 9 #[.slice A l.length c, .agg #[.int .i64 kk, .int .i64 nn, .string ss], .int .i64 at_] w fun e w' => e = .returned (.bool true) ∧ Below w.heap.size w w' := by
  obtain ⟨r, hr⟩ : ∃ r, r = dV l at_ := ⟨_, rfl⟩
  obtain ⟨⟨a, b, t⟩, k, e0⟩ := r
  have HR := Lib.hid hr
  clear hr
  obtain ⟨Z, HL⟩ : ∃ Z : List UInt8, Hid (Z = l ++ pV ⟨kk, nn, ss⟩) := ⟨_, Lib.hid rfl⟩
  have hA0 : Cs (w.alloc (.cells #[.int .i64 kk, .int .i64 nn, .string ss] 37)) A (B l) := hA.alloc _
  go_enter Try.func9, Try.ntmps9
  go_wp2_with fail
  refine (Value_any A l c at_ _ hA0 hlc hc).mono ?_
  rintro e w1 ⟨hr1, hb1⟩
  rw [← HR.out] at hr1
  change e = .returned (.tuple #[.agg #[.int .i64 a, .int .i64 b, .string t], .int .i64 k, .int .i64 e0]) at hr1
  subst hr1
  have hA1 := (hA0.kept hb1).alloc (.cells #[.int .i64 a, .int .i64 b, .string t] 37)
  go_wp2_with fail
  refine (RValue_any A l c at_ _ hA1 hlc hc).mono ?_
  rintro e w2 ⟨hr1, hb2⟩
  rw [← HR.out] at hr1
  change e = .returned (.tuple #[.agg #[.int .i64 a, .int .i64 b, .string t], .int .i64 k, .int .i64 e0]) at hr1
  subst hr1
  have hA2 := (hA1.kept hb2).alloc (.cells #[.int .i64 a, .int .i64 b, .string t] 37)
  have hc1 : (w2.alloc (.cells #[.int .i64 a, .int .i64 b, .string t] 37)).cell? ⟨w.heap.size, 0, none⟩ = some (.int .i64 kk) := cell_kept ((Below.refl _ _).alloc (Nat.le_refl _) _) (cell_kept hb2 (cell_kept ((Below.refl _ _).alloc (Nat.le_refl _) _) (cell_kept hb1 (blk_cell (blk_new _ _) rfl))))
  have hc2 : (w2.alloc (.cells #[.int .i64 a, .int .i64 b, .string t] 37)).cell? ⟨w.heap.size, 1, none⟩ = some (.int .i64 nn) := cell_kept ((Below.refl _ _).alloc (Nat.le_refl _) _) (cell_kept hb2 (cell_kept ((Below.refl _ _).alloc (Nat.le_refl _) _) (cell_kept hb1 (blk_cell (blk_new _ _) rfl))))
  have hc3 : (w2.alloc (.cells #[.int .i64 a, .int .i64 b, .string t] 37)).cell? ⟨w.heap.size, 2, none⟩ = some (.string ss) := cell_kept ((Below.refl _ _).alloc (Nat.le_refl _) _) (cell_kept hb2 (cell_kept ((Below.refl _ _).alloc (Nat.le_refl _) _) (cell_kept hb1 (blk_cell (blk_new _ _) rfl))))
  have hc4 : (w2.alloc (.cells #[.int .i64 a, .int .i64 b, .string t] 37)).cell? ⟨w1.heap.size, 0, none⟩ = some (.int .i64 a) := cell_kept ((Below.refl _ _).alloc (Nat.le_refl _) _) (cell_kept hb2 (blk_cell (blk_new _ _) rfl))
  have hc5 : (w2.alloc (.cells #[.int .i64 a, .int .i64 b, .string t] 37)).cell? ⟨w1.heap.size, 1, none⟩ = some (.int .i64 b) := cell_kept ((Below.refl _ _).alloc (Nat.le_refl _) _) (cell_kept hb2 (blk_cell (blk_new _ _) rfl))
  have hc6 : (w2.alloc (.cells #[.int .i64 a, .int .i64 b, .string t] 37)).cell? ⟨w1.heap.size, 2, none⟩ = some (.string t) := cell_kept ((Below.refl _ _).alloc (Nat.le_refl _) _) (cell_kept hb2 (blk_cell (blk_new _ _) rfl))
  have hc7 : (w2.alloc (.cells #[.int .i64 a, .int .i64 b, .string t] 37)).cell? ⟨w2.heap.size, 0, none⟩ = some (.int .i64 a) := blk_cell (blk_new _ _) rfl
  have hc8 : (w2.alloc (.cells #[.int .i64 a, .int .i64 b, .string t] 37)).cell? ⟨w2.heap.size, 1, none⟩ = some (.int .i64 b) := blk_cell (blk_new _ _) rfl
  have hc9 : (w2.alloc (.cells #[.int .i64 a, .int .i64 b, .string t] 37)).cell? ⟨w2.heap.size, 2, none⟩ = some (.string t) := blk_cell (blk_new _ _) rfl
  have hbw : Below w.heap.size w (w2.alloc (.cells #[.int .i64 a, .int .i64 b, .string t] 37)) := below_join (below_join (below_join (below_join ((Below.refl w.heap.size w).alloc (Nat.le_refl _) _) hb1) ((Below.refl _ _).alloc (Nat.le_refl _) _)) hb2) ((Below.refl _ _).alloc (Nat.le_refl _) _)
  go_wp2_with fail
  go_region_held3 (fun w' => w'.cell? ⟨w.heap.size, 0, none⟩ = some (.int .i64 kk) ∧ w'.cell? ⟨w.heap.size, 1, none⟩ = some (.int .i64 nn) ∧ w'.cell? ⟨w.heap.size, 2, none⟩ = some (.string ss) ∧ w'.cell? ⟨w1.heap.size, 0, none⟩ = some (.int .i64 a) ∧ w'.cell? ⟨w1.heap.size, 1, none⟩ = some (.int .i64 b) ∧ w'.cell? ⟨w1.heap.size, 2, none⟩ = some (.string t) ∧ w'.cell? ⟨w2.heap.size, 0, none⟩ = some (.int .i64 a) ∧ w'.cell? ⟨w2.heap.size, 1, none⟩ = some (.int .i64 b) ∧ w'.cell? ⟨w2.heap.size, 2, none⟩ = some (.string t))
    (first
      | exact ⟨hc1, hc2, hc3, hc4, hc5, hc6, hc7, hc8, hc9⟩
      | (go_split_ands; refine ⟨?_, ?_, ?_, ?_, ?_, ?_, ?_, ?_, ?_⟩ <;> exact cell_kept hb3 (by assumption))
      | (go_split_ands; refine ⟨?_, ?_, ?_, ?_, ?_, ?_, ?_, ?_, ?_⟩ <;> exact cell_kept hb4 (by assumption))
      | (go_split_ands; refine ⟨?_, ?_, ?_, ?_, ?_, ?_, ?_, ?_, ?_⟩ <;> exact cell_kept hb5 (by assumption))
      | (go_split_ands; refine ⟨?_, ?_, ?_, ?_, ?_, ?_, ?_, ?_, ?_⟩ <;> exact cell_kept hb6 (by assumption))
      | (go_split_ands; refine ⟨?_, ?_, ?_, ?_, ?_, ?_, ?_, ?_, ?_⟩ <;> assumption))
    (first
      | (go_at_call 24; refine (RValidValue_any ⟨kk, nn, ss⟩ _ hs).mono ?_; rintro e w3 ⟨rfl, hb3⟩; rw [hvv])
      | (go_at_call 26; refine (PutValue_any A l c ⟨kk, nn, ss⟩ _ HF.out (hA2.drew.kept hb3) hlc hc (by simp only; omega)).mono ?_; rintro e w4 ⟨v4, rfl, ho4, hb4⟩; rw [← HL.out] at ho4; obtain ⟨A4, c4, rfl, hl4, hm4, hC4⟩ := ho4.cs)
      | (go_at_call 44; refine (RPutValue_any A l c ⟨kk, nn, ss⟩ _ HF.out hvv ((hA2.drew.kept hb3).kept hb4) (by simp only; omega)).mono ?_; rintro e w5 ⟨v5, rfl, ho5, hb5⟩; rw [← HL.out] at ho5; obtain ⟨A5, c5, rfl, hl5, hm5, hC5⟩ := ho5.cs)
      | (go_at_call 14; refine (equal_any A4 Z c4 A5 Z c5 w5 (hC4.kept hb5) hC5).mono ?_; rintro e w6 ⟨rfl, rfl⟩; rw [show (Z == Z) = true from by simp])
      | (go_at_call 17; refine (works_any w5).mono ?_; rintro e w6 ⟨rfl, hb6⟩))
  go_wp2
  go_ret
  exact ⟨rfl, below_join (below_join (below_join (below_join hbw.drew hb3) hb4) hb5) hb6⟩

set_option maxRecDepth 100000 in
set_option maxHeartbeats 8000000 in
theorem values_walk_no (A : Option Addr) (l : List UInt8) (c : Nat) (kk nn : Int) (ss : ByteArray) (at_ : Int) (w : World) (hA : Cs w A (B l)) (hlc : l.length ≤ c) (hc : c ≤ maxLen) (hl : l.length ≤ 140737488351232) (hs : ss.size ≤ maxLen) (hvv : vV ⟨kk, nn, ss⟩ = false) :
    Calls Try.prog 9 #[.slice A l.length c, .agg #[.int .i64 kk, .int .i64 nn, .string ss], .int .i64 at_] w fun e w' => e = .returned (.bool true) ∧ Below w.heap.size w w' := by
  obtain ⟨r, hr⟩ : ∃ r, r = dV l at_ := ⟨_, rfl⟩
  obtain ⟨⟨a, b, t⟩, k, e0⟩ := r
  have HR := Lib.hid hr
  clear hr
  have hA0 : Cs (w.alloc (.cells #[.int .i64 kk, .int .i64 nn, .string ss] 37)) A (B l) := hA.alloc _
  go_enter Try.func9, Try.ntmps9
  go_wp2_with fail
  refine (Value_any A l c at_ _ hA0 hlc hc).mono ?_
  rintro e w1 ⟨hr1, hb1⟩
  rw [← HR.out] at hr1
  change e = .returned (.tuple #[.agg #[.int .i64 a, .int .i64 b, .string t], .int .i64 k, .int .i64 e0]) at hr1
  subst hr1
  have hA1 := (hA0.kept hb1).alloc (.cells #[.int .i64 a, .int .i64 b, .string t] 37)
  go_wp2_with fail
  refine (RValue_any A l c at_ _ hA1 hlc hc).mono ?_
  rintro e w2 ⟨hr1, hb2⟩
  rw [← HR.out] at hr1
  change e = .returned (.tuple #[.agg #[.int .i64 a, .int .i64 b, .string t], .int .i64 k, .int .i64 e0]) at hr1
  subst hr1
  have hA2 := (hA1.kept hb2).alloc (.cells #[.int .i64 a, .int .i64 b, .string t] 37)
  have hc1 : (w2.alloc (.cells #[.int .i64 a, .int .i64 b, .string t] 37)).cell? ⟨w.heap.size, 0, none⟩ = some (.int .i64 kk) := cell_kept ((Below.refl _ _).alloc (Nat.le_refl _) _) (cell_kept hb2 (cell_kept ((Below.refl _ _).alloc (Nat.le_refl _) _) (cell_kept hb1 (blk_cell (blk_new _ _) rfl))))
  have hc2 : (w2.alloc (.cells #[.int .i64 a, .int .i64 b, .string t] 37)).cell? ⟨w.heap.size, 1, none⟩ = some (.int .i64 nn) := cell_kept ((Below.refl _ _).alloc (Nat.le_refl _) _) (cell_kept hb2 (cell_kept ((Below.refl _ _).alloc (Nat.le_refl _) _) (cell_kept hb1 (blk_cell (blk_new _ _) rfl))))
  have hc3 : (w2.alloc (.cells #[.int .i64 a, .int .i64 b, .string t] 37)).cell? ⟨w.heap.size, 2, none⟩ = some (.string ss) := cell_kept ((Below.refl _ _).alloc (Nat.le_refl _) _) (cell_kept hb2 (cell_kept ((Below.refl _ _).alloc (Nat.le_refl _) _) (cell_kept hb1 (blk_cell (blk_new _ _) rfl))))
  have hc4 : (w2.alloc (.cells #[.int .i64 a, .int .i64 b, .string t] 37)).cell? ⟨w1.heap.size, 0, none⟩ = some (.int .i64 a) := cell_kept ((Below.refl _ _).alloc (Nat.le_refl _) _) (cell_kept hb2 (blk_cell (blk_new _ _) rfl))
  have hc5 : (w2.alloc (.cells #[.int .i64 a, .int .i64 b, .string t] 37)).cell? ⟨w1.heap.size, 1, none⟩ = some (.int .i64 b) := cell_kept ((Below.refl _ _).alloc (Nat.le_refl _) _) (cell_kept hb2 (blk_cell (blk_new _ _) rfl))
  have hc6 : (w2.alloc (.cells #[.int .i64 a, .int .i64 b, .string t] 37)).cell? ⟨w1.heap.size, 2, none⟩ = some (.string t) := cell_kept ((Below.refl _ _).alloc (Nat.le_refl _) _) (cell_kept hb2 (blk_cell (blk_new _ _) rfl))
  have hc7 : (w2.alloc (.cells #[.int .i64 a, .int .i64 b, .string t] 37)).cell? ⟨w2.heap.size, 0, none⟩ = some (.int .i64 a) := blk_cell (blk_new _ _) rfl
  have hc8 : (w2.alloc (.cells #[.int .i64 a, .int .i64 b, .string t] 37)).cell? ⟨w2.heap.size, 1, none⟩ = some (.int .i64 b) := blk_cell (blk_new _ _) rfl
  have hc9 : (w2.alloc (.cells #[.int .i64 a, .int .i64 b, .string t] 37)).cell? ⟨w2.heap.size, 2, none⟩ = some (.string t) := blk_cell (blk_new _ _) rfl
  have hbw : Below w.heap.size w (w2.alloc (.cells #[.int .i64 a, .int .i64 b, .string t] 37)) := below_join (below_join (below_join (below_join ((Below.refl w.heap.size w).alloc (Nat.le_refl _) _) hb1) ((Below.refl _ _).alloc (Nat.le_refl _) _)) hb2) ((Below.refl _ _).alloc (Nat.le_refl _) _)
  go_wp2_with fail
  refine wp_region_held_drew (S := (fun w' => w'.cell? ⟨w.heap.size, 0, none⟩ = some (.int .i64 kk) ∧ w'.cell? ⟨w.heap.size, 1, none⟩ = some (.int .i64 nn) ∧ w'.cell? ⟨w.heap.size, 2, none⟩ = some (.string ss) ∧ w'.cell? ⟨w1.heap.size, 0, none⟩ = some (.int .i64 a) ∧ w'.cell? ⟨w1.heap.size, 1, none⟩ = some (.int .i64 b) ∧ w'.cell? ⟨w1.heap.size, 2, none⟩ = some (.string t) ∧ w'.cell? ⟨w2.heap.size, 0, none⟩ = some (.int .i64 a) ∧ w'.cell? ⟨w2.heap.size, 1, none⟩ = some (.int .i64 b) ∧ w'.cell? ⟨w2.heap.size, 2, none⟩ = some (.string t))) (by kernel_rfl) (⟨hc1, hc2, hc3, hc4, hc5, hc6, hc7, hc8, hc9⟩) (fun hHeld => ?_)
  refine wpAnyH_take (i := 0) (v := ?_) rfl (by kernel_rfl) (by kernel_rfl) (by kernel_rfl) (fun _ _ _ h => h) (Or.inl ⟨by rfl, ?_⟩) (by assumption) ?_
  rotate_left
  · (intro w hSw; (try dsimp only at hSw); go_simp <;> with_reducible rfl)
  try simp only [List.getElem_toArray, List.getElem_cons_zero, List.getElem_cons_succ, Act.put, List.setIfInBounds_toArray, List.set_cons_zero, List.set_cons_succ]
  refine wpAnyH_take (i := 1) (v := ?_) rfl (by kernel_rfl) (by kernel_rfl) (by kernel_rfl) (fun _ _ _ h => h) (Or.inl ⟨by rfl, ?_⟩) (by assumption) ?_
  rotate_left
  · (intro w hSw; (try dsimp only at hSw); go_simp <;> with_reducible rfl)
  try simp only [List.getElem_toArray, List.getElem_cons_zero, List.getElem_cons_succ, Act.put, List.setIfInBounds_toArray, List.set_cons_zero, List.set_cons_succ]
  refine wpAnyH_take (i := 2) (v := ?_) rfl (by kernel_rfl) (by kernel_rfl) (by kernel_rfl) (fun _ _ _ h => h) (Or.inl ⟨by rfl, ?_⟩) (by assumption) ?_
  rotate_left
  · (intro w hSw; (try dsimp only at hSw); go_simp <;> with_reducible rfl)
  try simp only [List.getElem_toArray, List.getElem_cons_zero, List.getElem_cons_succ, Act.put, List.setIfInBounds_toArray, List.set_cons_zero, List.set_cons_succ]
  refine wpAnyH_take (i := 3) (v := ?_) rfl (by kernel_rfl) (by kernel_rfl) (by kernel_rfl) (fun _ _ _ h => h) (Or.inl ⟨by rfl, ?_⟩) (by assumption) ?_
  rotate_left
  · (intro w hSw; (try dsimp only at hSw); go_simp <;> with_reducible rfl)
  try simp only [List.getElem_toArray, List.getElem_cons_zero, List.getElem_cons_succ, Act.put, List.setIfInBounds_toArray, List.set_cons_zero, List.set_cons_succ]
  refine wpAnyH_take (i := 4) (v := ?_) rfl (by kernel_rfl) (by kernel_rfl) (by kernel_rfl) (fun _ _ _ h => h) (Or.inl ⟨by rfl, ?_⟩) (by assumption) ?_
  rotate_left
  · (intro w hSw; (try dsimp only at hSw); go_simp <;> with_reducible rfl)
  try simp only [List.getElem_toArray, List.getElem_cons_zero, List.getElem_cons_succ, Act.put, List.setIfInBounds_toArray, List.set_cons_zero, List.set_cons_succ]
  refine wpAnyH_take (i := 5) (v := ?_) rfl (by kernel_rfl) (by kernel_rfl) (by kernel_rfl) (fun _ _ _ h => h) (Or.inl ⟨by rfl, ?_⟩) (by assumption) ?_
  rotate_left
  · (intro w hSw; (try dsimp only at hSw); go_simp <;> with_reducible rfl)
  try simp only [List.getElem_toArray, List.getElem_cons_zero, List.getElem_cons_succ, Act.put, List.setIfInBounds_toArray, List.set_cons_zero, List.set_cons_succ]
  refine wpAnyH_take (i := 6) (v := ?_) rfl (by kernel_rfl) (by kernel_rfl) (by kernel_rfl) (fun _ _ _ h => h) (Or.inl ⟨by rfl, ?_⟩) (by assumption) ?_
  rotate_left
  · (intro w hSw; (try dsimp only at hSw); go_simp <;> with_reducible rfl)
  try simp only [List.getElem_toArray, List.getElem_cons_zero, List.getElem_cons_succ, Act.put, List.setIfInBounds_toArray, List.set_cons_zero, List.set_cons_succ]
  refine wpAnyH_take (i := 7) (v := ?_) rfl (by kernel_rfl) (by kernel_rfl) (by kernel_rfl) (fun _ _ _ h => h) (Or.inl ⟨by rfl, ?_⟩) (by assumption) ?_
  rotate_left
  · (intro w hSw; (try dsimp only at hSw); go_simp <;> with_reducible rfl)
  try simp only [List.getElem_toArray, List.getElem_cons_zero, List.getElem_cons_succ, Act.put, List.setIfInBounds_toArray, List.set_cons_zero, List.set_cons_succ]
  refine wpAnyH_take (i := 8) (v := ?_) rfl (by kernel_rfl) (by kernel_rfl) (by kernel_rfl) (fun _ _ _ h => h) (Or.inl ⟨by rfl, ?_⟩) (by assumption) ?_
  rotate_left
  · (intro w hSw; (try dsimp only at hSw); go_simp <;> with_reducible rfl)
  try simp only [List.getElem_toArray, List.getElem_cons_zero, List.getElem_cons_succ, Act.put, List.setIfInBounds_toArray, List.set_cons_zero, List.set_cons_succ]
  refine wpAnyH_take (i := 9) (v := ?_) rfl (by kernel_rfl) (by kernel_rfl) (by kernel_rfl) (fun _ _ _ h => h) (Or.inl ⟨by rfl, ?_⟩) (by assumption) ?_
  rotate_left
  · (intro w hSw; (try dsimp only at hSw); go_simp <;> with_reducible rfl)
  try simp only [List.getElem_toArray, List.getElem_cons_zero, List.getElem_cons_succ, Act.put, List.setIfInBounds_toArray, List.set_cons_zero, List.set_cons_succ]
  refine wpAnyH_take (i := 10) (v := ?_) rfl (by kernel_rfl) (by kernel_rfl) (by kernel_rfl) (fun _ _ _ h => h) (Or.inl ⟨by rfl, ?_⟩) (by assumption) ?_
  rotate_left
  · (intro w hSw; (try dsimp only at hSw); go_simp <;> with_reducible rfl)
  try simp only [List.getElem_toArray, List.getElem_cons_zero, List.getElem_cons_succ, Act.put, List.setIfInBounds_toArray, List.set_cons_zero, List.set_cons_succ]
  refine wpAnyH_take (i := 11) (v := ?_) rfl (by kernel_rfl) (by kernel_rfl) (by kernel_rfl) (fun _ _ _ h => h) (Or.inl ⟨by rfl, ?_⟩) (by assumption) ?_
  rotate_left
  · (intro w hSw; (try dsimp only at hSw); go_simp <;> with_reducible rfl)
  try simp only [List.getElem_toArray, List.getElem_cons_zero, List.getElem_cons_succ, Act.put, List.setIfInBounds_toArray, List.set_cons_zero, List.set_cons_succ]
  refine wpAnyH_take (i := 12) (v := ?_) rfl (by kernel_rfl) (by kernel_rfl) (by kernel_rfl) (fun _ _ _ h => h) (Or.inl ⟨by rfl, ?_⟩) (by assumption) ?_
  rotate_left
  · (intro w hSw; (try dsimp only at hSw); go_simp <;> with_reducible rfl)
  try simp only [List.getElem_toArray, List.getElem_cons_zero, List.getElem_cons_succ, Act.put, List.setIfInBounds_toArray, List.set_cons_zero, List.set_cons_succ]
  refine wpAnyH_take (i := 13) (v := ?_) rfl (by kernel_rfl) (by kernel_rfl) (by kernel_rfl) (fun _ _ _ h => h) (Or.inl ⟨by rfl, ?_⟩) (by assumption) ?_
  rotate_left
  · (intro w hSw; (try dsimp only at hSw); go_simp <;> with_reducible rfl)
  try simp only [List.getElem_toArray, List.getElem_cons_zero, List.getElem_cons_succ, Act.put, List.setIfInBounds_toArray, List.set_cons_zero, List.set_cons_succ]
  refine wpAnyH_take (i := 14) (v := ?_) rfl (by kernel_rfl) (by kernel_rfl) (by kernel_rfl) (fun _ _ _ h => h) (Or.inl ⟨by rfl, ?_⟩) (by assumption) ?_
  rotate_left
  · (intro w hSw; (try dsimp only at hSw); go_simp <;> with_reducible rfl)
  try simp only [List.getElem_toArray, List.getElem_cons_zero, List.getElem_cons_succ, Act.put, List.setIfInBounds_toArray, List.set_cons_zero, List.set_cons_succ]
  refine wpAnyH_ready (rs := [15]) (by kernel_rfl) (by simp) ?_
  refine AllReadyH.cons rfl (fun K hK => ?_) AllReadyH.nil
  try simp only [List.getElem_toArray, List.getElem_cons_zero, List.getElem_cons_succ]
  go_simp
  (go_at_call 24; refine (RValidValue_any ⟨kk, nn, ss⟩ _ hs).mono ?_; rintro e w3 ⟨rfl, hb3⟩; rw [hvv])
  go_wp2_with fail
  refine hK.out _ _ (by (try dsimp only); (go_split_ands; refine ⟨?_, ?_, ?_, ?_, ?_, ?_, ?_, ?_, ?_⟩ <;> exact cell_kept hb3 (by assumption))) (fun hHeld => ?_)
  clear hK K
  try simp only [List.getElem_toArray, List.getElem_cons_zero, List.getElem_cons_succ, Act.put, List.setIfInBounds_toArray, List.set_cons_zero, List.set_cons_succ]
  refine wpAnyH_take (i := 16) (v := ?_) rfl (by kernel_rfl) (by kernel_rfl) (by kernel_rfl) (fun _ _ _ h => h) (Or.inl ⟨by rfl, ?_⟩) (by assumption) ?_
  rotate_left
  · (intro w hSw; (try dsimp only at hSw); go_simp <;> with_reducible rfl)
  try simp only [List.getElem_toArray, List.getElem_cons_zero, List.getElem_cons_succ, Act.put, List.setIfInBounds_toArray, List.set_cons_zero, List.set_cons_succ]
  refine wpAnyH_take (i := 17) (v := ?_) rfl (by kernel_rfl) (by kernel_rfl) (by kernel_rfl) (fun _ _ _ h => h) (Or.inl ⟨by rfl, ?_⟩) (by assumption) ?_
  rotate_left
  · (intro w hSw; (try dsimp only at hSw); go_simp <;> with_reducible rfl)
  try simp only [List.getElem_toArray, List.getElem_cons_zero, List.getElem_cons_succ, Act.put, List.setIfInBounds_toArray, List.set_cons_zero, List.set_cons_succ]
  refine wpAnyH_take (i := 18) (v := undef) rfl (by kernel_rfl) (by kernel_rfl) (by kernel_rfl) (fun _ _ _ h => h) (Or.inr ⟨by rfl, rfl⟩) (by assumption) ?_
  try simp only [List.getElem_toArray, List.getElem_cons_zero, List.getElem_cons_succ, Act.put, List.setIfInBounds_toArray, List.set_cons_zero, List.set_cons_succ]
  refine wpAnyH_take (i := 19) (v := undef) rfl (by kernel_rfl) (by kernel_rfl) (by kernel_rfl) (fun _ _ _ h => h) (Or.inr ⟨by rfl, rfl⟩) (by assumption) ?_
  try simp only [List.getElem_toArray, List.getElem_cons_zero, List.getElem_cons_succ, Act.put, List.setIfInBounds_toArray, List.set_cons_zero, List.set_cons_succ]
  refine wpAnyH_take (i := 21) (v := undef) rfl (by kernel_rfl) (by kernel_rfl) (by kernel_rfl) (fun _ _ _ h => h) (Or.inr ⟨by rfl, rfl⟩) (by assumption) ?_
  try simp only [List.getElem_toArray, List.getElem_cons_zero, List.getElem_cons_succ, Act.put, List.setIfInBounds_toArray, List.set_cons_zero, List.set_cons_succ]
  refine wpAnyH_take (i := 22) (v := undef) rfl (by kernel_rfl) (by kernel_rfl) (by kernel_rfl) (fun _ _ _ h => h) (Or.inr ⟨by rfl, rfl⟩) (by assumption) ?_
  try simp only [List.getElem_toArray, List.getElem_cons_zero, List.getElem_cons_succ, Act.put, List.setIfInBounds_toArray, List.set_cons_zero, List.set_cons_succ]
  refine wpAnyH_ready (rs := [20]) (by kernel_rfl) (by simp) ?_
  refine AllReadyH.cons rfl (fun K hK => ?_) AllReadyH.nil
  rw [if_neg (by exact Bool.false_ne_true)]
  refine hK.out _ _ (by assumption) (fun hHeld => ?_)
  clear hK K
  try simp only [List.getElem_toArray, List.getElem_cons_zero, List.getElem_cons_succ, Act.put, List.setIfInBounds_toArray, List.set_cons_zero, List.set_cons_succ]
  refine wpAnyH_ready (rs := [23]) (by kernel_rfl) (by simp) ?_
  refine AllReadyH.cons rfl (fun K hK => ?_) AllReadyH.nil
  rw [if_neg (by exact Bool.false_ne_true)]
  refine hK.out _ _ (by assumption) (fun hHeld => ?_)
  clear hK K
  try simp only [List.getElem_toArray, List.getElem_cons_zero, List.getElem_cons_succ, Act.put, List.setIfInBounds_toArray, List.set_cons_zero, List.set_cons_succ]
  refine wpAnyH_ready (rs := [24]) (by kernel_rfl) (by simp) ?_
  refine AllReadyH.cons rfl (fun K hK => ?_) AllReadyH.nil
  rw [if_neg (by exact Bool.false_ne_true)]
  refine hK.out _ _ (by assumption) (fun hHeld => ?_)
  clear hK K
  try simp only [List.getElem_toArray, List.getElem_cons_zero, List.getElem_cons_succ, Act.put, List.setIfInBounds_toArray, List.set_cons_zero, List.set_cons_succ]
  refine wpAnyH_take (i := 25) (v := ?_) rfl (by kernel_rfl) (by kernel_rfl) (by kernel_rfl) (fun _ _ _ h => h) (Or.inl ⟨by rfl, ?_⟩) (by assumption) ?_
  rotate_left
  · (intro w hSw; (try dsimp only at hSw); go_simp <;> with_reducible rfl)
  try simp only [List.getElem_toArray, List.getElem_cons_zero, List.getElem_cons_succ, Act.put, List.setIfInBounds_toArray, List.set_cons_zero, List.set_cons_succ]
  refine wpAnyH_take (i := 26) (v := ?_) rfl (by kernel_rfl) (by kernel_rfl) (by kernel_rfl) (fun _ _ _ h => h) (Or.inl ⟨by rfl, ?_⟩) (by assumption) ?_
  rotate_left
  · (intro w hSw; (try dsimp only at hSw); go_simp <;> with_reducible rfl)
  try simp only [List.getElem_toArray, List.getElem_cons_zero, List.getElem_cons_succ, Act.put, List.setIfInBounds_toArray, List.set_cons_zero, List.set_cons_succ]
  refine wpAnyH_take (i := 27) (v := ?_) rfl (by kernel_rfl) (by kernel_rfl) (by kernel_rfl) (fun _ _ _ h => h) (Or.inl ⟨by rfl, ?_⟩) (by assumption) ?_
  rotate_left
  · (intro w hSw; (try dsimp only at hSw); go_simp <;> with_reducible rfl)
  try simp only [List.getElem_toArray, List.getElem_cons_zero, List.getElem_cons_succ, Act.put, List.setIfInBounds_toArray, List.set_cons_zero, List.set_cons_succ]
  refine wpAnyH_ready (rs := [28]) (by kernel_rfl) (by simp) ?_
  refine AllReadyH.cons rfl (fun K hK => ?_) AllReadyH.nil
  try simp only [List.getElem_toArray, List.getElem_cons_zero, List.getElem_cons_succ]
  go_simp
  (go_at_call 17; refine (works_any w3).mono ?_; rintro e w6 ⟨rfl, hb6⟩)
  go_wp2_with fail
  refine hK.out _ _ (by (try dsimp only); (go_split_ands; refine ⟨?_, ?_, ?_, ?_, ?_, ?_, ?_, ?_, ?_⟩ <;> exact cell_kept hb6 (by assumption))) (fun hHeld => ?_)
  clear hK K
  try simp only [List.getElem_toArray, List.getElem_cons_zero, List.getElem_cons_succ, Act.put, List.setIfInBounds_toArray, List.set_cons_zero, List.set_cons_succ]
  refine wpAnyH_take (i := 29) (v := ?_) rfl (by kernel_rfl) (by kernel_rfl) (by kernel_rfl) (fun _ _ _ h => h) (Or.inl ⟨by rfl, ?_⟩) (by assumption) ?_
  rotate_left
  · (intro w hSw; (try dsimp only at hSw); go_simp <;> with_reducible rfl)
  try simp only [List.getElem_toArray, List.getElem_cons_zero, List.getElem_cons_succ, Act.put, List.setIfInBounds_toArray, List.set_cons_zero, List.set_cons_succ]
  refine wpAnyH_take (i := 30) (v := ?_) rfl (by kernel_rfl) (by kernel_rfl) (by kernel_rfl) (fun _ _ _ h => h) (Or.inl ⟨by rfl, ?_⟩) (by assumption) ?_
  rotate_left
  · (intro w hSw; (try dsimp only at hSw); go_simp <;> with_reducible rfl)
  try simp only [List.getElem_toArray, List.getElem_cons_zero, List.getElem_cons_succ, Act.put, List.setIfInBounds_toArray, List.set_cons_zero, List.set_cons_succ]
  refine wpAnyH_done (by kernel_rfl) ?_ _
  go_wp2
  go_ret
  exact ⟨rfl, below_join (below_join hbw.drew hb3) hb6⟩

theorem values_walk (A : Option Addr) (l : List UInt8) (c : Nat) (kk nn : Int) (ss : ByteArray) (at_ : Int) (w : World) (hA : Cs w A (B l)) (hlc : l.length ≤ c) (hc : c ≤ maxLen) (hl : l.length ≤ 140737488351232) (hs : ss.size ≤ maxLen)
    (hk1 : -9223372036854775808 ≤ kk) (hk2 : kk < 9223372036854775808) (hn1 : -9223372036854775808 ≤ nn) (hn2 : nn < 9223372036854775808) :
    Calls Try.prog 9 #[.slice A l.length c, .agg #[.int .i64 kk, .int .i64 nn, .string ss], .int .i64 at_] w fun e w' => e = .returned (.bool true) ∧ Below w.heap.size w w' := by
  cases hv : vV ⟨kk, nn, ss⟩
  · exact values_walk_no A l c kk nn ss at_ w hA hlc hc hl hs hv
  · have h := vV_size hv
    exact values_walk_yes A l c kk nn ss at_ w hA hlc hc hl hs h (Lib.hid ⟨hk1, hk2, hn1, hn2, by simp only at h ⊢; omega⟩) hv

set_option maxRecDepth 100000 in
theorem CodecValues_lifted (os : Os) (started : os.Started) (H : Type) (enc : TypeId × Value → H) :
    ReturnsInHanded {} Try.checked os 9 .any (Rows.codecValuesSpec.pre6 enc Try.prog Try.f9 Rows.codecValuesRow.domain false) (Rows.codecValuesSpec.post enc Try.prog Try.f9 false true false false) := by
  refine returnsInHanded_of_change_sized (C := Try.checked) ownK started (by kernel_rfl) Try.func9
    (ChangeSpec.witness6 (enc := enc) (C := Try.checked) false ⟨#[], #[.slice none 0 0, .agg #[.int .i64 0, .int .i64 0, .string ⟨#[]⟩], .int .i64 0], []⟩ 8 (by kernel_rfl) (by kernel_rfl) (by kernel_rfl) (by kernel_rfl)) ?_
  intro W base args ds gs before hval0 hW hcnd hsz0 _
  have hsz : (DataW.weightsEach Try.prog (Try.f9.params.toList ++ Rows.codecValuesSpec.plain.varTypes Try.prog) (ds ++ gs)).all (· ≤ reachBytes) = true := hsz0
  have hval : ∀ (j : Nat) t v, Try.f9.params[j]? = some t → args[j]? = some v → Value.okWide Try.prog W .any base t v := hval0
  have hW' := hW
  obtain ⟨p, q, hA0, hV, rfl, hfz, hnd⟩ := hW
  have hA : DataW.TrodAll enc Try.prog W 0 (fun _ => true) true Try.f9.params.toList args.toList ds p := hA0
  rw [Try.params9] at hA hval hsz
  obtain ⟨v0, vs0, d0, ds0, p0, q0, hargs, rfl, rfl, h0, r0⟩ := trodAll_cons hA
  obtain ⟨v1, vs1, d1, ds1, p1, q1, rfl, rfl, rfl, h1, r1⟩ := trodAll_cons r0
  obtain ⟨v2, vs2, d2, ds2, p2, q2, rfl, rfl, rfl, h2, r2⟩ := trodAll_cons r1
  obtain ⟨rfl, rfl, rfl⟩ := trodAll_nil r2
  obtain rfl : args = #[v0, v1, v2] := by cases args; simp_all
  obtain ⟨rfl, rfl⟩ := trodVars_none hV
  have k0 := h0
  have lt0 : ∀ x ∈ p0, x.block < W.heap.size := by obtain ⟨m, hm⟩ := k0; exact DataW.trod_lt m _ _ _ hm
  have k1 := h1
  have lt1 : ∀ x ∈ p1, x.block < W.heap.size := by obtain ⟨m, hm⟩ := k1; exact DataW.trod_lt m _ _ _ hm
  have k2 := h2
  have lt2 : ∀ x ∈ p2, x.block < W.heap.size := by obtain ⟨m, hm⟩ := k2; exact DataW.trod_lt m _ _ _ hm
  obtain ⟨A, l, c, rfl, hlc, hc, hCA, hl⟩ := open_bytes (hval 0 22 v0 rfl rfl) h0 hsz (j := 0) rfl rfl
  obtain ⟨kk, nn, ss, rfl, ⟨hk1, hk2⟩, ⟨hn1, hn2⟩, hs⟩ := open_value (hval 1 37 v1 rfl rfl) h1
  obtain ⟨m, rfl, _, _, wm⟩ := open_int Try.underlying3 (hval 2 3 v2 rfl rfl) h2
  clear hA0 hval0 hsz0
  refine (values_walk A l c kk nn ss m W hCA hlc hc hl hs hk1 hk2 hn1 hn2).mono fun e W' ⟨he, bel⟩ => ?_
  subst he
  exact ⟨_, rfl, _, _, _, [], _, [], hW', trodAll_mk1 (shut_bool Try.underlying4 _), (trodAll_cons_mk (Below.trod laidK (by kernel_rfl) (of_decide_eq_true (by kernel_rfl)) k0 bel lt0) (trodAll_cons_mk (Below.trod laidK (by kernel_rfl) (of_decide_eq_true (by kernel_rfl)) k1 bel lt1) (trodAll_cons_mk (Below.trod laidK (by kernel_rfl) (of_decide_eq_true (by kernel_rfl)) k2 bel lt2) trodAll_mk0))), rfl, bel.frame _, fun h => by cases h⟩

/-- CodecValues holds. -/
theorem CodecValues_holds : Rows.CodecValuesSaid :=
  OpenClaim.holds_of_wide 9 Try.f9 rfl rfl rfl rfl rfl rfl rfl ⟨rfl, rfl, rfl, rfl, rfl⟩ rfl rfl rfl rfl rfl (by kernel_rfl) Try.func9 (by kernel_rfl)
    (of_decide_eq_true (by kernel_rfl)) (by unfold Func.isWrapper; first | (rw [if_pos (by decide +kernel)]; kernel_rfl) | (rw [if_neg (by decide +kernel)]; exact ⟨rfl, rfl⟩))
    (fun os started H enc _ => CodecValues_lifted os started H enc)
#print axioms CodecValues_holds
end Go.Proofs.Ytoejegphjlichaa

