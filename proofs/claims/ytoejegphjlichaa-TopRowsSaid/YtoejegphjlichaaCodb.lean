/- The contracts of codec.PutInt, PutText, PutValue, PutPeriod and PutRow: the bytes that each appends. -/
import Derived.Test.YtoejegphjlichaaCoda
namespace Go.Proofs.Ytoejegphjlichaa
open Go.RowKit
set_option linter.unusedVariables false

theorem run_slice3 {w : World} (A : Option Addr) (n c : Nat) (hn : n ≤ c) (hc : (n : Int) ≤ 9223372036854775807) : (Instr.slice 22 (.slice A n c) none (some (.int .i64 n)) (some (.int .i64 n))).run Try.prog w = .ok (.slice A n n) w := by
  have hi : (Try.prog.info? 5).map (fun i => (i.zero, i.size, i.bytes)) = some (some (.int .u8 0), 1, 1) := infoByte
  obtain ⟨i, hi, hz, hs, hb⟩ := info_parts hi
  simp [Instr.slice, Instr.sliceBounds, Instr.sliceBound, asIntOf, run_underlying Try.underlying22, sizeOf, typeInfo, hi, hn]
  cases A <;> simp [Addr.add]

theorem grow_any (A : Option Addr) (n c : Nat) (w : World) (hn : n ≤ c) (hc : c ≤ maxLen) :
    Calls Try.prog 50 #[.slice A n c] w fun e w' => e = .returned (.slice A n n) ∧ w = w' := by
  have hs := fun w => run_slice3 (w := w) A n c hn (by unfold maxLen at hc; omega)
  unfold maxLen at hc
  go_enter Try.func50, Try.ntmps50
  go_wp2
  go_ret
  exact ⟨rfl, rfl⟩

set_option maxRecDepth 100000 in
theorem PutInt_any (A : Option Addr) (l : List UInt8) (c : Nat) (n : Int) (w : World) (h1 : -9223372036854775808 ≤ n) (h2 : n < 9223372036854775808) (hA : Cs w A (B l)) (hlc : l.length ≤ c) (hc : c ≤ maxLen) (hl : l.length + 10 ≤ 140737488355328) :
    Calls Try.prog 15 #[.slice A l.length c, .int .i64 n] w fun e w' => ∃ v', e = .returned v' ∧ Own w' w.heap.size v' (l ++ pI n) ∧ Below w.heap.size w w' := by
  have hm : l.length ≤ maxLen := Nat.le_trans hlc hc
  have H1 : Hid (-9223372036854775808 ≤ n ∧ n < 9223372036854775808) := ⟨h1, h2⟩
  clear h1 h2
  go_enter Try.func15, Try.ntmps15
  go_wp2_with fail
  refine (grow_any A l.length c w hlc hc).mono ?_
  rintro e w' ⟨rfl, rfl⟩
  go_wp2_with fail
  refine (put_any w.heap.size _ l n w H1.out.1 H1.out.2 (Apb.full hA hm) hl (Nat.le_refl _)).mono ?_
  rintro e w1 ⟨v1, rfl, ho, hb⟩
  go_wp2
  go_ret
  exact ⟨v1, rfl, ho, hb⟩

/-- The encoding of a text. -/
def pT (s : List UInt8) : List UInt8 := pI s.length ++ s

set_option maxRecDepth 100000 in
theorem PutText_any (A : Option Addr) (l : List UInt8) (c : Nat) (s : ByteArray) (w : World) (hs : s.size ≤ 140737488355328) (hA : Cs w A (B l)) (hlc : l.length ≤ c) (hc : c ≤ maxLen) (hl : l.length + 10 + s.size ≤ 140737488355328) :
    Calls Try.prog 25 #[.slice A l.length c, .string s] w fun e w' => ∃ v', e = .returned v' ∧ Own w' w.heap.size v' (l ++ pT s.data.toList) ∧ Below w.heap.size w w' := by
  have hm : l.length ≤ maxLen := Nat.le_trans hlc hc
  have hpl : (pI (s.size : Int)).length ≤ 10 := pI_len (by omega) (by omega)
  go_enter Try.func25, Try.ntmps25
  go_wp2_with fail
  refine (grow_any A l.length c w hlc hc).mono ?_
  rintro e w' ⟨rfl, rfl⟩
  go_wp2_with fail
  refine (put_any w.heap.size _ l _ w (by omega) (by omega) (Apb.full hA hm) (by omega) (Nat.le_refl _)).mono ?_
  rintro e w1 ⟨v1, rfl, ho, hb⟩
  go_wp2_with (at_builtin; refine app_str rfl _ _ rfl _ _ rfl ho s rfl (by rw [List.length_append]; omega) hb hb.size ?_; intro v2 w2 ho2 hb2 _ _ _)
  go_ret
  have e : s.size = s.data.toList.length := by rw [Array.length_toList]; rfl
  rw [e, List.append_assoc] at ho2
  exact ⟨v2, rfl, ho2, hb2⟩

end Go.Proofs.Ytoejegphjlichaa
