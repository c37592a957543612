/- The contract of codec.PutValue: the bytes that it appends for any value. -/
import Derived.Test.YtoejegphjlichaaCodb
namespace Go.Proofs.Ytoejegphjlichaa
open Go.RowKit
set_option linter.unusedVariables false

/-- A value: its kind, its integer, its text. -/
structure Val where
  kind : Int
  int : Int
  text : ByteArray

/-- The value as cells. -/
def Val.cells (v : Val) : List Value := [.int .i64 v.kind, .int .i64 v.int, .string v.text]
/-- Its numbers fit, and its text is no longer than memory bears. -/
structure Val.Fits (v : Val) : Prop where
  k1 : -9223372036854775808 ≤ v.kind
  k2 : v.kind < 9223372036854775808
  i1 : -9223372036854775808 ≤ v.int
  i2 : v.int < 9223372036854775808
  s : v.text.size ≤ 140737488351232

/-- The encoding of a value. -/
def pV (v : Val) : List UInt8 :=
  if v.kind = 1 then 1 :: pI v.int else if v.kind = 2 then 2 :: pT v.text.data.toList else if v.kind = 3 then [UInt8.ofNat (3 + (v.int % 2).toNat)] else [0]

set_option maxRecDepth 100000 in
set_option maxHeartbeats 2000000 in
theorem PutValue_int (A : Option Addr) (l : List UInt8) (c : Nat) (i : Int) (t : ByteArray) (w : World) (hf : Val.Fits ⟨1, i, t⟩) (hA : Cs w A (B l)) (hlc : l.length ≤ c) (hc : c ≤ maxLen) (hl : l.length + 11 ≤ 140737488355328) :
    Calls Try.prog 26 #[.slice A l.length c, .agg #[.int .i64 1, .int .i64 i, .string t]] w fun e w' => ∃ v', e = .returned v' ∧ Own w' w.heap.size v' (l ++ pV ⟨1, i, t⟩) ∧ Below w.heap.size w w' := by
  have hm : l.length ≤ maxLen := Nat.le_trans hlc hc
  have HF := Lib.hid hf
  clear hf
  have hA1 : Cs (w.alloc (.cells #[.int .i64 1, .int .i64 i, .string t] 37)) A (B l) := hA.alloc _
  go_enter Try.func26, Try.ntmps26
  go_wp2_with fail
  refine (grow_any A l.length c _ hlc hc).mono ?_
  rintro e w' ⟨rfl, rfl⟩
  go_wp2_with fail
  have hbx : ∀ o : Obj, (((w.alloc (.cells #[.int .i64 1, .int .i64 i, .string t] 37)).alloc o).drew).heap[w.heap.size + 1]? = some o := fun o => by
    have := heap_alloc_new (w.alloc (.cells #[.int .i64 1, .int .i64 i, .string t] 37)) o
    rwa [World.size_alloc] at this
  go_region_held3 (fun w' => w'.cell? ⟨w.heap.size, 1, none⟩ = some (.int .i64 i))
    (first | go_keep | exact (hb1.cell (p := ⟨w.heap.size, 1, none⟩) (Nat.lt_succ_self _)).trans (by assumption) | exact (hb2.cell (p := ⟨w.heap.size, 1, none⟩) (Nat.lt_succ_self _)).trans (by assumption))
    (first
      | (refine sapp_byte (base := w.heap.size + 1) rfl _ _ rfl (W := ((w.alloc (.cells #[.int .i64 1, .int .i64 i, .string t] 37)).alloc (.cells #[.int .u8 1] 5)).drew) _ l rfl (Apb.full (hA1.alloc _).drew hm) (w.heap.size + 1) _ 1 rfl (hbx _) rfl (by omega) (by simp) ?_; intro v1 w1 ho1 hb1 hg1 _)
      | (go_at_call 49; refine (put_any (w.heap.size + 1) _ _ i _ HF.out.i1 HF.out.i2 ho1.apb (by simp only [List.length_append, List.length_cons, List.length_nil]; omega) (by have := hb1.size; simp at this; omega)).mono ?_; rintro e w2 ⟨v2, rfl, ho2, hb2⟩))
  go_wp2
  go_ret
  refine ⟨v2, rfl, ?_, ?_⟩
  · have e : l ++ [1] ++ pI i = l ++ pV ⟨1, i, t⟩ := by simp [pV]
    rw [e] at ho2
    exact ho2.low (by omega)
  · exact ((((Below.refl w.heap.size w).alloc (Nat.le_refl _) _).alloc (by simp) _).drew.trans (hb1.mono (by omega))).trans (hb2.mono (by omega))

set_option maxRecDepth 100000 in
set_option maxHeartbeats 2000000 in
theorem PutValue_text (A : Option Addr) (l : List UInt8) (c : Nat) (i : Int) (t : ByteArray) (w : World) (hf : Val.Fits ⟨2, i, t⟩) (hA : Cs w A (B l)) (hlc : l.length ≤ c) (hc : c ≤ maxLen) (hl : l.length + 11 + t.size ≤ 140737488355328) :
    Calls Try.prog 26 #[.slice A l.length c, .agg #[.int .i64 2, .int .i64 i, .string t]] w fun e w' => ∃ v', e = .returned v' ∧ Own w' w.heap.size v' (l ++ pV ⟨2, i, t⟩) ∧ Below w.heap.size w w' := by
  have hm : l.length ≤ maxLen := Nat.le_trans hlc hc
  have hts := hf.s
  have hpl : (pI (t.size : Int)).length ≤ 10 := pI_len (by omega) (by omega)
  clear hf
  have hA1 : Cs (w.alloc (.cells #[.int .i64 2, .int .i64 i, .string t] 37)) A (B l) := hA.alloc _
  go_enter Try.func26, Try.ntmps26
  go_wp2_with fail
  refine (grow_any A l.length c _ hlc hc).mono ?_
  rintro e w' ⟨rfl, rfl⟩
  go_wp2_with fail
  have hbx : ∀ o : Obj, (((w.alloc (.cells #[.int .i64 2, .int .i64 i, .string t] 37)).alloc o).drew).heap[w.heap.size + 1]? = some o := fun o => by
    have := heap_alloc_new (w.alloc (.cells #[.int .i64 2, .int .i64 i, .string t] 37)) o
    rwa [World.size_alloc] at this
  go_region_held3 (fun w' => w'.cell? ⟨w.heap.size, 2, none⟩ = some (.string t))
    (first | go_keep | exact (hb1.cell (p := ⟨w.heap.size, 2, none⟩) (Nat.lt_succ_self _)).trans (by assumption) | exact (hb2.cell (p := ⟨w.heap.size, 2, none⟩) (Nat.lt_succ_self _)).trans (by assumption) | exact (hb3.cell (p := ⟨w.heap.size, 2, none⟩) (Nat.lt_succ_self _)).trans (by assumption))
    (first
      | (refine sapp_byte (base := w.heap.size + 1) rfl _ _ rfl (W := ((w.alloc (.cells #[.int .i64 2, .int .i64 i, .string t] 37)).alloc (.cells #[.int .u8 2] 5)).drew) _ l rfl (Apb.full (hA1.alloc _).drew hm) (w.heap.size + 1) _ 2 rfl (hbx _) rfl (by omega) (by simp) ?_; intro v1 w1 ho1 hb1 hg1 _)
      | (go_at_call 49; refine (put_any (w.heap.size + 1) _ _ _ _ (by omega) (by omega) ho1.apb (by simp only [List.length_append, List.length_cons, List.length_nil]; omega) (by have := hb1.size; simp at this; omega)).mono ?_; rintro e w2 ⟨v2, rfl, ho2, hb2⟩)
      | (refine sapp_str (base := w.heap.size + 1) rfl _ _ rfl v2 _ rfl ho2 t rfl (by simp only [List.length_append, List.length_cons, List.length_nil]; omega) (by have h1 := hb1.size; have h2 := hb2.size; simp at h1; omega) ?_; intro v3 w3 ho3 hb3 hg3 _))
  go_wp2
  go_ret
  refine ⟨v3, rfl, ?_, ?_⟩
  · have es : t.size = t.data.toList.length := by rw [Array.length_toList]; rfl
    have e : l ++ [2] ++ pI t.size ++ t.data.toList = l ++ pV ⟨2, i, t⟩ := by
      unfold pV pT
      rw [if_neg (show ¬ (2 : Int) = 1 by decide), if_pos rfl, ← es, List.append_assoc, List.append_assoc]
      rfl
    rw [e] at ho3
    exact ho3.low (by omega)
  · exact (((((Below.refl w.heap.size w).alloc (Nat.le_refl _) _).alloc (by simp) _).drew.trans (hb1.mono (by omega))).trans (hb2.mono (by omega))).trans (hb3.mono (by omega))

set_option maxRecDepth 100000 in
set_option maxHeartbeats 2000000 in
theorem PutValue_bool (A : Option Addr) (l : List UInt8) (c : Nat) (i : Int) (t : ByteArray) (w : World) (hf : Val.Fits ⟨3, i, t⟩) (hA : Cs w A (B l)) (hlc : l.length ≤ c) (hc : c ≤ maxLen) (hl : l.length + 11 ≤ 140737488355328) :
    Calls Try.prog 26 #[.slice A l.length c, .agg #[.int .i64 3, .int .i64 i, .string t]] w fun e w' => ∃ v', e = .returned v' ∧ Own w' w.heap.size v' (l ++ pV ⟨3, i, t⟩) ∧ Below w.heap.size w w' := by
  have hm : l.length ≤ maxLen := Nat.le_trans hlc hc
  have ha := and1_i64 hf.i1 hf.i2
  have HX : Hid (IntKind.u8.wrap (3 + i % 2) = ((UInt8.ofNat (3 + (i % 2).toNat)).toNat : Int)) := by unfold Hid; rw [IntKind.wrap_u8]; simp; omega
  clear hf
  have hA1 : Cs (w.alloc (.cells #[.int .i64 3, .int .i64 i, .string t] 37)) A (B l) := hA.alloc _
  have h2 : 0 ≤ i % 2 ∧ i % 2 < 2 := by omega
  go_enter Try.func26, Try.ntmps26
  go_wp2_with fail
  refine (grow_any A l.length c _ hlc hc).mono ?_
  rintro e w' ⟨rfl, rfl⟩
  go_wp2_with (at_builtin; refine app_byte (w0 := w) (base := w.heap.size) rfl _ _ rfl _ l rfl (Apb.full hA1 hm) _ (UInt8.ofNat (3 + (i % 2).toNat)) (by first | exact HX.out | (simp; omega)) rfl (by simp) (by omega) ((Below.refl _ _).alloc (Nat.le_refl _) _) (by simp) ?_; intro v1 w1 ho1 hb1 _ _ _)
  go_ret
  exact ⟨v1, rfl, by simpa [pV] using ho1, hb1⟩

set_option maxRecDepth 100000 in
set_option maxHeartbeats 2000000 in
theorem PutValue_null (A : Option Addr) (l : List UInt8) (c : Nat) (k i : Int) (t : ByteArray) (w : World) (k1 : (k == 1) = false) (k2 : (k == 2) = false) (k3 : (k == 3) = false) (hA : Cs w A (B l)) (hlc : l.length ≤ c) (hc : c ≤ maxLen) (hl : l.length + 11 ≤ 140737488355328) :
    Calls Try.prog 26 #[.slice A l.length c, .agg #[.int .i64 k, .int .i64 i, .string t]] w fun e w' => ∃ v', e = .returned v' ∧ Own w' w.heap.size v' (l ++ [0]) ∧ Below w.heap.size w w' := by
  have hm : l.length ≤ maxLen := Nat.le_trans hlc hc
  have hA1 : Cs (w.alloc (.cells #[.int .i64 k, .int .i64 i, .string t] 37)) A (B l) := hA.alloc _
  go_enter Try.func26, Try.ntmps26
  go_wp2_with fail
  refine (grow_any A l.length c _ hlc hc).mono ?_
  rintro e w' ⟨rfl, rfl⟩
  go_wp2_with (at_builtin; refine app_byte (w0 := w) (base := w.heap.size) rfl _ _ rfl _ l rfl (Apb.full hA1 hm) _ 0 (by first | rfl | (simp; omega)) rfl (by simp) (by omega) ((Below.refl _ _).alloc (Nat.le_refl _) _) (by simp) ?_; intro v1 w1 ho1 hb1 _ _ _)
  go_ret
  exact ⟨v1, rfl, ho1, hb1⟩

theorem pV_len {v : Val} (hf : v.Fits) : (pV v).length ≤ 11 + v.text.size := by
  unfold pV pT
  have h1 := pI_len hf.i1 hf.i2
  have hts := hf.s
  have es : v.text.size = v.text.data.toList.length := by rw [Array.length_toList]; rfl
  have h2 : (pI (v.text.data.toList.length : Int)).length ≤ 10 := pI_len (by omega) (by omega)
  split
  · simp only [List.length_cons]; omega
  · split
    · simp only [List.length_cons, List.length_append]; omega
    · split <;> simp <;> omega

/-- PutValue appends the encoding of the value. -/
theorem PutValue_any (A : Option Addr) (l : List UInt8) (c : Nat) (v : Val) (w : World) (hf : v.Fits) (hA : Cs w A (B l)) (hlc : l.length ≤ c) (hc : c ≤ maxLen) (hl : l.length + 11 + v.text.size ≤ 140737488355328) :
    Calls Try.prog 26 #[.slice A l.length c, .agg v.cells.toArray] w fun e w' => ∃ v', e = .returned v' ∧ Own w' w.heap.size v' (l ++ pV v) ∧ Below w.heap.size w w' := by
  obtain ⟨k, i, t⟩ := v
  by_cases h1 : k = 1
  · subst h1; exact PutValue_int A l c i t w hf hA hlc hc (by omega)
  · by_cases h2 : k = 2
    · subst h2; exact PutValue_text A l c i t w hf hA hlc hc hl
    · by_cases h3 : k = 3
      · subst h3; exact PutValue_bool A l c i t w hf hA hlc hc (by omega)
      · have e : pV ⟨k, i, t⟩ = [0] := by simp [pV, h1, h2, h3]
        rw [e]
        exact PutValue_null A l c k i t w (by simpa using h1) (by simpa using h2) (by simpa using h3) hA hlc hc (by omega)

end Go.Proofs.Ytoejegphjlichaa
