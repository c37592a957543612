/- The contracts of the reference's PutValue and PutRow, for valid values: the bytes that each appends. -/
import Derived.Test.YtoejegphjlichaaRefa
import Derived.Test.YtoejegphjlichaaCodd
import Derived.Test.YtoejegphjlichaaVala
namespace Go.Proofs.Ytoejegphjlichaa
open Go.RowKit
set_option linter.unusedVariables false

/-- The cells of a box that was just laid. -/
theorem box_vs (w : World) (cs : Array Value) (T : TypeId) : Cs (w.alloc (.cells cs T)) (some ⟨w.heap.size, 0, none⟩) cs.toList := fun j u hj => ⟨_, rfl, World.news_of_block (cs := cs) (t := T) (fr := (0, 0)) (heap_alloc_new w _) j u hj⟩

set_option maxRecDepth 100000 in
set_option maxHeartbeats 2000000 in
theorem RPutValue_int (A : Option Addr) (l : List UInt8) (c : Nat) (i : Int) (t : ByteArray) (w : World) (hf : Val.Fits ⟨1, i, t⟩) (hA : Cs w A (B l)) (hl : l.length + 11 ≤ 140737488355328) :
    Calls Try.prog 44 #[.slice A l.length c, .agg #[.int .i64 1, .int .i64 i, .string t]] w fun e w' => ∃ v', e = .returned v' ∧ Own w' w.heap.size v' (l ++ pV ⟨1, i, t⟩) ∧ Below w.heap.size w w' := by
  have HF := Lib.hid hf
  clear hf
  have hA1 : Cs (w.alloc (.cells #[.int .i64 1, .int .i64 i, .string t] 37)) A (B l) := hA.alloc _
  obtain ⟨L, HL⟩ : ∃ L : List UInt8, Hid (L = l ++ [1]) := ⟨_, Lib.hid rfl⟩
  have hbx := ((box_vs (w.alloc (.cells #[.int .i64 1, .int .i64 i, .string t] 37)) #[.int .u8 1] 5)).drew
  rw [World.size_alloc] at hbx
  have hb0 : Below w.heap.size w (((w.alloc (.cells #[.int .i64 1, .int .i64 i, .string t] 37)).alloc (.cells #[.int .u8 1] 5)).drew) := (((Below.refl w.heap.size w).alloc (Nat.le_refl _) _).alloc (by simp) _).drew
  go_enter Try.func44, Try.ntmps44
  go_wp2_with fail
  go_region_held3 (fun w' => w'.cell? ⟨w.heap.size, 1, none⟩ = some (.int .i64 i))
    (first | go_keep | (rw [at_below hb1 _ 1 (by simp; omega)]; assumption) | (rw [at_below hb2 _ 1 (by have := hb1.size; simp at this; omega)]; assumption))
    (first
      | (go_at_call 51; refine (with_any A l c _ [1] 1 _ (hA1.alloc _).drew hbx (by simp; omega)).mono ?_; rintro e w1 ⟨v1, rfl, ho1, hb1⟩; rw [← HL.out] at ho1; obtain ⟨A2, c2, rfl, hl2, hm2, hC2⟩ := ho1.cs)
      | (go_at_call 16; refine (RPutInt_any _ L _ i _ HF.out.i1 HF.out.i2 hC2 (by rw [HL.out, List.length_append]; simp; omega)).mono ?_; rintro e w2 ⟨v2, rfl, ho2, hb2⟩))
  go_wp2
  go_ret
  refine ⟨v2, rfl, ?_, ?_⟩
  · rw [HL.out] at ho2
    have e : l ++ [1] ++ pI i = l ++ pV ⟨1, i, t⟩ := by simp [pV]
    rw [e] at ho2
    exact Own.low ho2 (by have := hb1.size; simp at this; omega)
  · exact below_join hb0 (below_join hb1 hb2)

set_option maxRecDepth 100000 in
set_option maxHeartbeats 2000000 in
theorem RPutValue_text (A : Option Addr) (l : List UInt8) (c : Nat) (i : Int) (t : ByteArray) (w : World) (hf : Val.Fits ⟨2, i, t⟩) (hA : Cs w A (B l)) (hl : l.length + 11 + t.size ≤ 140737488355328) :
    Calls Try.prog 44 #[.slice A l.length c, .agg #[.int .i64 2, .int .i64 i, .string t]] w fun e w' => ∃ v', e = .returned v' ∧ Own w' w.heap.size v' (l ++ pV ⟨2, i, t⟩) ∧ Below w.heap.size w w' := by
  have hts := hf.s
  clear hf
  have hA1 : Cs (w.alloc (.cells #[.int .i64 2, .int .i64 i, .string t] 37)) A (B l) := hA.alloc _
  obtain ⟨L, HL⟩ : ∃ L : List UInt8, Hid (L = l ++ [2]) := ⟨_, Lib.hid rfl⟩
  have hbx := ((box_vs (w.alloc (.cells #[.int .i64 2, .int .i64 i, .string t] 37)) #[.int .u8 2] 5)).drew
  rw [World.size_alloc] at hbx
  have hb0 : Below w.heap.size w (((w.alloc (.cells #[.int .i64 2, .int .i64 i, .string t] 37)).alloc (.cells #[.int .u8 2] 5)).drew) := (((Below.refl w.heap.size w).alloc (Nat.le_refl _) _).alloc (by simp) _).drew
  go_enter Try.func44, Try.ntmps44
  go_wp2_with fail
  go_region_held3 (fun w' => w'.cell? ⟨w.heap.size, 2, none⟩ = some (.string t))
    (first | go_keep | (rw [at_below hb1 _ 2 (by simp; omega)]; assumption) | (rw [at_below hb2 _ 2 (by have := hb1.size; simp at this; omega)]; assumption))
    (first
      | (go_at_call 51; refine (with_any A l c _ [2] 1 _ (hA1.alloc _).drew hbx (by simp; omega)).mono ?_; rintro e w1 ⟨v1, rfl, ho1, hb1⟩; rw [← HL.out] at ho1; obtain ⟨A2, c2, rfl, hl2, hm2, hC2⟩ := ho1.cs)
      | (go_at_call 31; refine (RPutText_any _ L _ t _ (by omega) hC2 (by rw [HL.out, List.length_append]; simp; omega)).mono ?_; rintro e w2 ⟨v2, rfl, ho2, hb2⟩))
  go_wp2
  go_ret
  refine ⟨v2, rfl, ?_, ?_⟩
  · rw [HL.out] at ho2
    have e : l ++ [2] ++ pT t.data.toList = l ++ pV ⟨2, i, t⟩ := by simp [pV]
    rw [e] at ho2
    exact Own.low ho2 (by have := hb1.size; simp at this; omega)
  · exact below_join hb0 (below_join hb1 hb2)

set_option maxRecDepth 100000 in
set_option maxHeartbeats 2000000 in
theorem RPutValue_bool (A : Option Addr) (l : List UInt8) (c : Nat) (i : Int) (t : ByteArray) (w : World) (hi : i = 0 ∨ i = 1) (hA : Cs w A (B l)) (hl : l.length + 11 ≤ 140737488355328) :
    Calls Try.prog 44 #[.slice A l.length c, .agg #[.int .i64 3, .int .i64 i, .string t]] w fun e w' => ∃ v', e = .returned v' ∧ Own w' w.heap.size v' (l ++ pV ⟨3, i, t⟩) ∧ Below w.heap.size w w' := by
  rcases hi with rfl | rfl
  · have hA1 : Cs ((w.alloc (.cells #[.int .i64 3, .int .i64 0, .string t] 37)).alloc (.cells #[.int .u8 3] 5)) A (B l) := (hA.alloc _).alloc _
    have hbx := ((box_vs (w.alloc (.cells #[.int .i64 3, .int .i64 0, .string t] 37)) #[.int .u8 3] 5))
    rw [World.size_alloc] at hbx
    go_enter Try.func44, Try.ntmps44
    go_wp2_with fail
    refine (with_any A l c _ [3] 1 _ hA1 hbx (by simp; omega)).mono ?_
    rintro e w1 ⟨v1, rfl, ho1, hb1⟩
    go_wp2
    go_ret
    exact ⟨v1, rfl, by simpa [pV] using ho1.low (by simp; omega), below_join (((Below.refl w.heap.size w).alloc (Nat.le_refl _) _).alloc (by simp) _) hb1⟩
  · have hA1 : Cs ((w.alloc (.cells #[.int .i64 3, .int .i64 1, .string t] 37)).alloc (.cells #[.int .u8 4] 5)) A (B l) := (hA.alloc _).alloc _
    have hbx := ((box_vs (w.alloc (.cells #[.int .i64 3, .int .i64 1, .string t] 37)) #[.int .u8 4] 5))
    rw [World.size_alloc] at hbx
    go_enter Try.func44, Try.ntmps44
    go_wp2_with fail
    refine (with_any A l c _ [4] 1 _ hA1 hbx (by simp; omega)).mono ?_
    rintro e w1 ⟨v1, rfl, ho1, hb1⟩
    go_wp2
    go_ret
    exact ⟨v1, rfl, by simpa [pV] using ho1.low (by simp; omega), below_join (((Below.refl w.heap.size w).alloc (Nat.le_refl _) _).alloc (by simp) _) hb1⟩

set_option maxRecDepth 100000 in
set_option maxHeartbeats 2000000 in
theorem RPutValue_null (A : Option Addr) (l : List UInt8) (c : Nat) (i : Int) (t : ByteArray) (w : World) (hA : Cs w A (B l)) (hl : l.length + 11 ≤ 140737488355328) :
    Calls Try.prog 44 #[.slice A l.length c, .agg #[.int .i64 0, .int .i64 i, .string t]] w fun e w' => ∃ v', e = .returned v' ∧ Own w' w.heap.size v' (l ++ pV ⟨0, i, t⟩) ∧ Below w.heap.size w w' := by
  have hA1 : Cs ((w.alloc (.cells #[.int .i64 0, .int .i64 i, .string t] 37)).alloc (.cells #[.int .u8 0] 5)) A (B l) := (hA.alloc _).alloc _
  have hbx := ((box_vs (w.alloc (.cells #[.int .i64 0, .int .i64 i, .string t] 37)) #[.int .u8 0] 5))
  rw [World.size_alloc] at hbx
  go_enter Try.func44, Try.ntmps44
  go_wp2_with fail
  refine (with_any A l c _ [0] 1 _ hA1 hbx (by simp; omega)).mono ?_
  rintro e w1 ⟨v1, rfl, ho1, hb1⟩
  go_wp2
  go_ret
  exact ⟨v1, rfl, by simpa [pV] using ho1.low (by simp; omega), below_join (((Below.refl w.heap.size w).alloc (Nat.le_refl _) _).alloc (by simp) _) hb1⟩

/-- The reference's PutValue appends the encoding of a valid value. -/
theorem RPutValue_any (A : Option Addr) (l : List UInt8) (c : Nat) (v : Val) (w : World) (hf : v.Fits) (hv : vV v = true) (hA : Cs w A (B l)) (hl : l.length + 11 + v.text.size ≤ 140737488355328) :
    Calls Try.prog 44 #[.slice A l.length c, .agg v.cells.toArray] w fun e w' => ∃ v', e = .returned v' ∧ Own w' w.heap.size v' (l ++ pV v) ∧ Below w.heap.size w w' := by
  obtain ⟨k, i, t⟩ := v
  by_cases h1 : k = 1
  · subst h1; exact RPutValue_int A l c i t w hf hA (by omega)
  · by_cases h2 : k = 2
    · subst h2; exact RPutValue_text A l c i t w hf hA hl
    · by_cases h3 : k = 3
      · subst h3; exact RPutValue_bool A l c i t w (by simp [vV] at hv; exact hv.1) hA (by omega)
      · by_cases h0 : k = 0
        · subst h0; exact RPutValue_null A l c i t w hA (by omega)
        · simp [vV, h0, h1, h2, h3] at hv

set_option maxRecDepth 100000 in
set_option maxHeartbeats 2000000 in
/-- The reference's PutRow appends the encoding of a row of valid values. -/
theorem RPutRow_any (A : Option Addr) (l : List UInt8) (c : Nat) (A1 : Option Addr) (vs : List Val) (c1 : Nat) (w : World) (hf : ∀ v ∈ vs, v.Fits) (hv : ∀ v ∈ vs, vV v = true) (hA : Cs w A (B l)) (hA1 : Cs w A1 (Row Val.cells vs)) (hn : vs.length ≤ 140737488355328) (hl : l.length + 10 + wt vs ≤ 140737488355328) :
    Calls Try.prog 48 #[.slice A l.length c, .slice A1 vs.length c1] w fun e w' => ∃ v', e = .returned v' ∧ Own w' w.heap.size v' (l ++ pR vs) ∧ Below w.heap.size w w' := by
  have hpl : (pI (vs.length : Int)).length ≤ 10 := pI_len (by omega) (by omega)
  have HF := Lib.hid hf
  have HVV := Lib.hid hv
  clear hf hv
  go_enter Try.func48, Try.ntmps48
  go_wp2_with fail
  refine (RPutInt_any A l c _ w (by omega) (by omega) hA (by omega)).mono ?_
  rintro e w1 ⟨v1, rfl, ho, hb⟩
  go_wp2_with fail
  rw [← rowAcc_zero] at ho
  obtain ⟨A0, c0, rfl, hl0, hc0, hC0⟩ := ho.cs
  have hA2 := hA1.kept hb
  have hn' : vs.length ≤ 9223372036854775807 := by omega
  go_loopw [5, 14] (fun bv iv wr => ∃ (k c' : Nat) (A' : Option Addr), k ≤ vs.length ∧ iv = .int .i64 k ∧ bv = .slice A' (rowAcc l vs k).length c' ∧ Own wr w.heap.size (.slice A' (rowAcc l vs k).length c') (rowAcc l vs k) ∧ Below w.heap.size w wr ∧ Cs wr A1 (Row Val.cells vs))
    (fun _ iv _ => vs.length - (intOf iv).toNat)
  case atStart => exact ⟨0, c0, A0, Nat.zero_le _, rfl, rfl, ho, hb, hA2⟩
  case round =>
    obtain ⟨k, c', A', hk, rfl, rfl, hown, hbr, hCr⟩ := hrel
    by_cases hlt : k < vs.length
    · obtain ⟨v, hv⟩ : ∃ v, vs[k]? = some v := ⟨_, List.getElem?_eq_getElem hlt⟩
      obtain ⟨a, rfl, hc1, hc2, hc3⟩ := val_at hCr hv
      have HV := Lib.hid hv
      clear hv
      go_wp2_with fail
      obtain ⟨A3, c3, he3, hl3, hm3, hC3⟩ := hown.cs
      simp only [Value.slice.injEq] at he3
      obtain ⟨rfl, _, rfl⟩ := he3
      have hwl := rowAcc_len (l := l) HF.out hn HV.out
      refine (RPutValue_any A' (rowAcc l vs k) c' v _ (HF.out v (List.mem_of_getElem? HV.out)) (HVV.out v (List.mem_of_getElem? HV.out)) (hC3.alloc _) (by omega)).mono ?_
      rintro e w2 ⟨v2, rfl, ho2, hb2⟩
      rw [← rowAcc_succ HV.out] at ho2
      have ho3 := ho2.low (base' := w.heap.size) (by have := hbr.size; simp; omega)
      obtain ⟨A4, c4, rfl, hl4, hm4, hC4⟩ := ho3.cs
      have hb4 := (hbr.alloc hbr.size _).trans (hb2.mono (by have := hbr.size; simp; omega))
      have hC5 := (hCr.alloc _).kept hb2
      go_wp2_with fail
      go_roundw
      case rel => exact ⟨k + 1, c4, A4, by omega, by go_num, rfl, ho3, hb4, hC5⟩
      case measure => simp [intOf]; omega
    · go_wp2_with fail
      go_ret
      obtain rfl : k = vs.length := by omega
      exact ⟨.slice A' (rowAcc l vs vs.length).length c', rfl, by rw [← rowAcc_end]; exact hown, hbr⟩

end Go.Proofs.Ytoejegphjlichaa
