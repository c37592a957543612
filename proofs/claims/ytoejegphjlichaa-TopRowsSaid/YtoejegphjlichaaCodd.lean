/- The contracts of codec.PutPeriod and codec.PutRow: the bytes that each appends. -/
import Derived.Test.YtoejegphjlichaaCodc
namespace Go.Proofs.Ytoejegphjlichaa
open Go.RowKit
set_option linter.unusedVariables false

/-- The encoding of a period. -/
def pP (a b : Int) : List UInt8 := pI a ++ pI b

set_option maxRecDepth 100000 in
set_option maxHeartbeats 2000000 in
theorem PutPeriod_any (A : Option Addr) (l : List UInt8) (c : Nat) (f t : Int) (w : World) (hf1 : -9223372036854775808 ≤ f) (hf2 : f < 9223372036854775808) (ht1 : -9223372036854775808 ≤ t) (ht2 : t < 9223372036854775808) (hA : Cs w A (B l)) (hlc : l.length ≤ c) (hc : c ≤ maxLen) (hl : l.length + 20 ≤ 140737488355328) :
    Calls Try.prog 28 #[.slice A l.length c, .agg #[.int .i64 f, .int .i64 t]] w fun e w' => ∃ v', e = .returned v' ∧ Own w' w.heap.size v' (l ++ pP f t) ∧ Below w.heap.size w w' := by
  have hm : l.length ≤ maxLen := Nat.le_trans hlc hc
  have hpl := pI_len hf1 hf2
  have HF : Hid ((-9223372036854775808 ≤ f ∧ f < 9223372036854775808) ∧ -9223372036854775808 ≤ t ∧ t < 9223372036854775808) := ⟨⟨hf1, hf2⟩, ht1, ht2⟩
  clear hf1 hf2 ht1 ht2
  have hA1 : Cs (w.alloc (.cells #[.int .i64 f, .int .i64 t] 44)) A (B l) := hA.alloc _
  go_enter Try.func28, Try.ntmps28
  go_wp2_with fail
  go_region_held3 (fun w' => w'.cell? ⟨w.heap.size, 0, none⟩ = some (.int .i64 f) ∧ w'.cell? ⟨w.heap.size, 1, none⟩ = some (.int .i64 t))
    (first | go_keep | (rw [at_below hb1 _ 0 (Nat.lt_succ_self _), at_below hb1 _ 1 (Nat.lt_succ_self _)]; assumption) | (rw [at_below hb2 _ 0 (Nat.lt_succ_self _), at_below hb2 _ 1 (Nat.lt_succ_self _)]; assumption))
    (first
      | (go_at_call 50; refine (grow_any A l.length c _ hlc hc).mono ?_; rintro e w' ⟨rfl, rfl⟩)
      | (go_at_call_of 49 (Value.slice A l.length l.length); refine (put_any (w.heap.size + 1) _ l f _ HF.out.1.1 HF.out.1.2 (Apb.full hA1.drew hm) (by omega) (by simp)).mono ?_; rintro e w1 ⟨v1, rfl, ho1, hb1⟩)
      | (go_at_call 49; refine (put_any (w.heap.size + 1) _ _ t _ HF.out.2.1 HF.out.2.2 ho1.apb (by rw [List.length_append]; omega) (by have := hb1.size; simp at this; omega)).mono ?_; rintro e w2 ⟨v2, rfl, ho2, hb2⟩))
  go_wp2
  go_ret
  refine ⟨v2, rfl, ?_, ?_⟩
  · rw [List.append_assoc] at ho2
    exact Own.low ho2 (by omega)
  · exact (((Below.refl w.heap.size w).alloc (Nat.le_refl _) _).drew.trans (hb1.mono (by omega))).trans (hb2.mono (by omega))

theorem Val.len (v : Val) : v.cells.length = 3 := rfl
/-- The cells of element i of a row of values, as the walk spells their places. -/
theorem val_at {w : World} {A : Option Addr} {vs : List Val} (h : Cs w A (Row Val.cells vs)) {i : Nat} {v : Val} (hv : vs[i]? = some v) :
    ∃ a, A = some a ∧ w.cell? (a.add (i * 3)) = some (.int .i64 v.kind) ∧ w.cell? ⟨(a.add (i * 3)).block, (a.add (i * 3)).off + 1, none⟩ = some (.int .i64 v.int) ∧ w.cell? ⟨(a.add (i * 3)).block, (a.add (i * 3)).off + 2, none⟩ = some (.string v.text) := by
  obtain ⟨a, e, hc⟩ := h.elem Val.len (by decide) hv
  exact ⟨a, e, hc 0 _ rfl, by rw [add_off _ _ _ (by decide)]; exact hc 1 _ rfl, by rw [add_off _ _ _ (by decide)]; exact hc 2 _ rfl⟩

/-- How much room the encoding of a row needs at most. -/
def wt (vs : List Val) : Nat := (vs.map fun v => 11 + v.text.size).sum
/-- The encoding of a row. -/
def pR (vs : List Val) : List UInt8 := pI vs.length ++ (vs.map pV).flatten

theorem take_map_succ {vs : List Val} {k : Nat} {v : Val} (hv : vs[k]? = some v) : ((vs.take (k + 1)).map pV).flatten = ((vs.take k).map pV).flatten ++ pV v := by
  rw [List.take_add_one, hv]
  simp
theorem wt_take {vs : List Val} : ∀ {k : Nat} {v : Val}, vs[k]? = some v → wt (vs.take k) + (11 + v.text.size) ≤ wt vs := by
  induction vs with
  | nil => intro k v h; simp at h
  | cons x xs ih =>
    intro k v h
    cases k with
    | zero => simp at h; subst h; simp [wt]
    | succ k =>
      have := ih (k := k) (v := v) (by simpa using h)
      simp [wt] at this ⊢
      omega
theorem wt_len {vs : List Val} (hf : ∀ v ∈ vs, v.Fits) : ((vs.map pV).flatten).length ≤ wt vs := by
  induction vs with
  | nil => simp [wt]
  | cons x xs ih =>
    have h1 := ih (fun v hv => hf v (by simp [hv]))
    have h2 := pV_len (hf x (by simp))
    simp only [List.map_cons, List.flatten_cons, List.length_append, wt, List.sum_cons] at h1 ⊢
    omega

/-- What has been written after k values. -/
def rowAcc (l : List UInt8) (vs : List Val) (k : Nat) : List UInt8 := l ++ (pI vs.length ++ ((vs.take k).map pV).flatten)
theorem rowAcc_zero (l : List UInt8) (vs : List Val) : rowAcc l vs 0 = l ++ pI vs.length := by simp [rowAcc]
theorem rowAcc_succ {l : List UInt8} {vs : List Val} {k : Nat} {v : Val} (hv : vs[k]? = some v) : rowAcc l vs (k + 1) = rowAcc l vs k ++ pV v := by unfold rowAcc; rw [take_map_succ hv, List.append_assoc, List.append_assoc]
theorem rowAcc_end (l : List UInt8) (vs : List Val) : rowAcc l vs vs.length = l ++ pR vs := by simp [rowAcc, pR]
theorem rowAcc_len {l : List UInt8} {vs : List Val} (hf : ∀ v ∈ vs, v.Fits) (hn : vs.length ≤ 140737488355328) {k : Nat} {v : Val} (hv : vs[k]? = some v) : (rowAcc l vs k).length + 11 + v.text.size ≤ l.length + 10 + wt vs := by
  have h1 := wt_take hv
  have h2 := wt_len (vs := vs.take k) (fun v hv => hf v (List.mem_of_mem_take hv))
  have hpl : (pI (vs.length : Int)).length ≤ 10 := pI_len (by omega) (by omega)
  simp only [rowAcc, List.length_append]
  omega

set_option maxRecDepth 100000 in
set_option maxHeartbeats 2000000 in
theorem PutRow_any (A : Option Addr) (l : List UInt8) (c : Nat) (A1 : Option Addr) (vs : List Val) (c1 : Nat) (w : World) (hf : ∀ v ∈ vs, v.Fits) (hA : Cs w A (B l)) (hlc : l.length ≤ c) (hc : c ≤ maxLen) (hA1 : Cs w A1 (Row Val.cells vs)) (hn : vs.length ≤ 140737488355328) (hl : l.length + 10 + wt vs ≤ 140737488355328) :
    Calls Try.prog 27 #[.slice A l.length c, .slice A1 vs.length c1] w fun e w' => ∃ v', e = .returned v' ∧ Own w' w.heap.size v' (l ++ pR vs) ∧ Below w.heap.size w w' := by
  have hm : l.length ≤ maxLen := Nat.le_trans hlc hc
  have hpl : (pI (vs.length : Int)).length ≤ 10 := pI_len (by omega) (by omega)
  have HF := Lib.hid hf
  clear hf
  go_enter Try.func27, Try.ntmps27
  go_wp2_with fail
  refine (grow_any A l.length c _ hlc hc).mono ?_
  rintro e w' ⟨rfl, rfl⟩
  go_wp2_with fail
  refine (put_any w.heap.size _ l _ w (by omega) (by omega) (Apb.full hA hm) (by omega) (Nat.le_refl _)).mono ?_
  rintro e w1 ⟨v1, rfl, ho, hb⟩
  go_wp2_with fail
  rw [← rowAcc_zero] at ho
  obtain ⟨A0, c0, rfl, hl0, hc0, hC0⟩ := ho.cs
  have hA2 := hA1.kept hb
  have hn' : vs.length ≤ 9223372036854775807 := by omega
  go_loopw [0, 14] (fun bv iv wr => ∃ (k c' : Nat) (A' : Option Addr), k ≤ vs.length ∧ iv = .int .i64 k ∧ bv = .slice A' (rowAcc l vs k).length c' ∧ Own wr w.heap.size (.slice A' (rowAcc l vs k).length c') (rowAcc l vs k) ∧ Below w.heap.size w wr ∧ Cs wr A1 (Row Val.cells vs))
    (fun _ iv _ => vs.length - (intOf iv).toNat)
  case atStart => exact ⟨0, c0, A0, Nat.zero_le _, rfl, rfl, ho, hb, hA2⟩
  case round =>
    obtain ⟨k, c', A', hk, rfl, rfl, hown, hbr, hCr⟩ := hrel
    by_cases hlt : k < vs.length
    · obtain ⟨v, hv⟩ : ∃ v, vs[k]? = some v := ⟨_, List.getElem?_eq_getElem hlt⟩
      obtain ⟨a, rfl, hc1, hc2, hc3⟩ := val_at hCr hv
      have HV := Lib.hid hv
      clear hv
      go_wp2_with fail
      obtain ⟨A3, c3, he3, hl3, hm3, hC3⟩ := hown.cs
      simp only [Value.slice.injEq] at he3
      obtain ⟨rfl, _, rfl⟩ := he3
      have hwl := rowAcc_len (l := l) HF.out hn HV.out
      refine (PutValue_any A' (rowAcc l vs k) c' v _ (HF.out v (List.mem_of_getElem? HV.out)) (hC3.alloc _) hl3 hm3 (by omega)).mono ?_
      rintro e w2 ⟨v2, rfl, ho2, hb2⟩
      rw [← rowAcc_succ HV.out] at ho2
      have ho3 := ho2.low (base' := w.heap.size) (by have := hbr.size; simp; omega)
      obtain ⟨A4, c4, rfl, hl4, hm4, hC4⟩ := ho3.cs
      have hb4 := (hbr.alloc hbr.size _).trans (hb2.mono (by have := hbr.size; simp; omega))
      have hC5 := (hCr.alloc _).kept hb2
      go_wp2_with fail
      go_roundw
      case rel => exact ⟨k + 1, c4, A4, by omega, by go_num, rfl, ho3, hb4, hC5⟩
      case measure => simp [intOf]; omega
    · go_wp2_with fail
      go_ret
      obtain rfl : k = vs.length := by omega
      exact ⟨.slice A' (rowAcc l vs vs.length).length c', rfl, by rw [← rowAcc_end]; exact hown, hbr⟩

end Go.Proofs.Ytoejegphjlichaa
