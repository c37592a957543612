/- The walk of codec.put and its callers: the bytes that are appended for an integer. -/
import Derived.Test.YtoejegphjlichaaProg
import Derived.Test.YtoejegphjlichaaLib
import Derived.Test.YtoejegphjlichaaPur
import Derived.Deep.AppendLies
namespace Go.Proofs.Ytoejegphjlichaa
open Go.RowKit
set_option linter.unusedVariables false

theorem infoByte : (Try.prog.info? 5).map (fun i => (i.zero, i.size, i.bytes)) = some (some (.int .u8 0), 1, 1) := by kernel_rfl

/-- The slice value v is a row of bytes of the call's own, from block 'base' on. -/
def Own (w : World) (base : Nat) (v : Value) (l : List UInt8) : Prop := w.ownsRow base 5 1 v l.length (B l)
/-- ... or one without spare capacity. -/
def Apb (w : World) (base : Nat) (v : Value) (l : List UInt8) : Prop := Ap w base 5 1 v l.length (B l)
theorem Own.apb {w : World} {base : Nat} {v : Value} {l : List UInt8} (h : Own w base v l) : Apb w base v l := .inl h
theorem Own.cs {w : World} {base : Nat} {v : Value} {l : List UInt8} (h : Own w base v l) : ∃ A c, v = .slice A l.length c ∧ l.length ≤ c ∧ c ≤ maxLen ∧ Cs w A (B l) := own_cs h
theorem Own.alloc {w : World} {base : Nat} {v : Value} {l : List UInt8} (h : Own w base v l) (o : Obj) : Own (w.alloc o) base v l := World.ownsRow.alloc h o
theorem Own.nil (w : World) (base : Nat) : Own w base (.slice none 0 0) [] := World.ownsRow_nil _ _ _ _
theorem Own.kept {w w1 : World} {base : Nat} {v : Value} {l : List UInt8} (h : Own w base v l) (hb : Below w.heap.size w w1) : Own w1 base v l :=
  World.ownsRow.kept (row := none) h ⟨hb.os, hb.tape, hb.output, hb.size, fun k hk _ => hb.block k hk⟩ (by cases v.ownBlock <;> simp)
theorem Own.low {w : World} {base base' : Nat} {v : Value} {l : List UInt8} (h : Own w base v l) (hb : base' ≤ base) : Own w base' v l := by
  obtain ⟨h1, h2⟩ := h
  refine ⟨h1, ?_⟩
  rcases h2 with h2 | ⟨g, cap, cur, hv, hg, r⟩
  · exact .inl h2
  · exact .inr ⟨g, cap, cur, hv, Nat.le_trans hb hg, r⟩
theorem Apb.full {w : World} {base : Nat} {A : Option Addr} {l : List UInt8} (h : Cs w A (B l)) (hm : l.length ≤ maxLen) : Apb w base (.slice A l.length l.length) l := Ap.full h hm

/-- append(v, x) of one byte, x in its box. -/
theorem app_byte {ops : Array Oper} {rest : List Oper} {o : Oper} {a : Act} {Q : Exit → Act → World → Prop} {base : Nat} (hgd : o.guard = none) (s x : Operand)
    (ho : o.op = .call { callee := .builtin .append, args := #[s, x], argTypes := #[22, 22] })
    {w0 W : World} (v : Value) (l : List UInt8) (hsv : a.eval s = v) (hv : Apb W base v l) (X : Int) (b : UInt8) (hX : X = (b.toNat : Int)) {k : Nat} (hxv : a.eval x = .slice (some ⟨k, 0, none⟩) 1 1) (hk : W.heap.size = k)
    (hl : l.length + 1 ≤ 140737488355328) (HB : Below base w0 W) (hbase : base ≤ W.heap.size)
    (h : ∀ v1 w1, Own w1 base v1 (l ++ [b]) → Below base w0 w1 → base ≤ w1.heap.size → W.grownBy w1 v.ownBlock → (v1.ownBlock = v.ownBlock ∨ ∃ b, v1.ownBlock = some b ∧ W.heap.size ≤ b) → wpList Try.prog ops Q rest (a.put o.dst v1) w1) :
    wpList Try.prog ops Q (o :: rest) a (W.alloc (.cells #[.int .u8 X] 5)) := by
  subst hX
  subst hk
  refine ap_list base 22 22 5 (.int .u8 0) 1 1 Try.underlying22 infoByte rfl (by decide) hgd s x ho v l.length (B l) hsv (hv.alloc _) _ hxv 1 (B [b])
    (Src.ofSlice _ Try.underlying22 ⟨W.heap.size, 0, none⟩ 1 1 (B [b]) rfl (cell_one_new _ _ _) (B_one _)) (by simp only [maxLen]; omega) (by omega) (by simp; omega) ?_
  intro v1 w1 _ h2 _ h4 h5 h6
  refine h v1 w1 (by simpa [Own, B_append] using h2 (by decide)) ((HB.alloc hbase _).trans h4) ?_ (World.grownBy.trans (World.grownBy_alloc W _ _) h5) ?_
  · have := h4.size; simp at this; omega
  · rcases h6 with h6 | ⟨b, h6, h7⟩
    · exact .inl h6
    · exact .inr ⟨b, h6, by simp at h7; omega⟩

/-- append(v, s...), s a string. -/
theorem app_str {ops : Array Oper} {rest : List Oper} {o : Oper} {a : Act} {Q : Exit → Act → World → Prop} {base : Nat} (hgd : o.guard = none) (s x : Operand)
    (ho : o.op = .call { callee := .builtin .append, args := #[s, x], argTypes := #[22, 9] })
    {w0 W : World} (v : Value) (l : List UInt8) (hsv : a.eval s = v) (hv : Own W base v l) (t : ByteArray) (hxv : a.eval x = .string t)
    (hl : l.length + t.size ≤ 140737488355328) (HB : Below base w0 W) (hbase : base ≤ W.heap.size)
    (h : ∀ v1 w1, Own w1 base v1 (l ++ t.data.toList) → Below base w0 w1 → base ≤ w1.heap.size → W.grownBy w1 v.ownBlock → (v1.ownBlock = v.ownBlock ∨ ∃ b, v1.ownBlock = some b ∧ W.heap.size ≤ b) → wpList Try.prog ops Q rest (a.put o.dst v1) w1) :
    wpList Try.prog ops Q (o :: rest) a W := by
  refine ap_list base 22 9 5 (.int .u8 0) 1 1 Try.underlying22 infoByte rfl (by decide) hgd s x ho v l.length (B l) hsv hv.apb _ hxv t.size (B t.data.toList)
    (Src.ofString _ Try.underlying9 t) (by simp only [maxLen]; omega) (by omega) hbase ?_
  intro v1 w1 _ _ h3 h4 h5 h6
  have e : t.size = t.data.toList.length := by rw [Array.length_toList]; rfl
  refine h v1 w1 ?_ (HB.trans h4) (by have := h4.size; omega) h5 h6
  have := h3 hv
  rw [← B_append, e, ← List.length_append] at this
  exact this

/-- append(v, x) of one byte, as one step of a region that draws its order. -/
theorem sapp_byte {ops : Array Oper} {o : Oper} {a : Act} {K : Act → World → Prop} {Q : Exit → Act → World → Prop} {E : Prop} {base : Nat} (hgd : o.guard = none) (s x : Operand)
    (ho : o.op = .call { callee := .builtin .append, args := #[s, x], argTypes := #[22, 22] })
    {W : World} (v : Value) (l : List UInt8) (hsv : a.eval s = v) (hv : Apb W base v l) (k : Nat) (X : Int) (b : UInt8) (hX : X = (b.toNat : Int)) {T : TypeId} {fr : Nat × Nat} (hbox : W.heap[k]? = some (.cells #[.int .u8 X] T fr)) (hxv : a.eval x = .slice (some ⟨k, 0, none⟩) 1 1)
    (hl : l.length + 1 ≤ 140737488355328) (hbase : base ≤ W.heap.size)
    (h : ∀ v1 w1, Own w1 base v1 (l ++ [b]) → Below base W w1 → W.grownBy w1 v.ownBlock → (v1.ownBlock = v.ownBlock ∨ ∃ b, v1.ownBlock = some b ∧ W.heap.size ≤ b) → K (a.put o.dst v1) w1) :
    if Region.wanted o (yielded ops a.tmps) = true then Oper.wp Try.prog o a W K Q else E := by
  rw [if_pos (by simp [Region.wanted, hgd])]
  subst hX
  refine ap_wp base 22 22 5 (.int .u8 0) 1 1 Try.underlying22 infoByte rfl (by decide) s x ho v l.length (B l) hsv hv _ hxv 1 (B [b])
    (Src.ofSlice _ Try.underlying22 ⟨k, 0, none⟩ 1 1 (B [b]) rfl (World.news_of_block hbox) (B_one _)) (by simp only [maxLen]; omega) (by omega) hbase ?_
  intro v1 w1 _ h2 _ h4 h5 h6
  exact h v1 w1 (by simpa [Own, B_append] using h2 (by decide)) h4 h5 h6

/-- append(v, s...), s a string, as one step. -/
theorem sapp_str {ops : Array Oper} {o : Oper} {a : Act} {K : Act → World → Prop} {Q : Exit → Act → World → Prop} {E : Prop} {base : Nat} (hgd : o.guard = none) (s x : Operand)
    (ho : o.op = .call { callee := .builtin .append, args := #[s, x], argTypes := #[22, 9] })
    {W : World} (v : Value) (l : List UInt8) (hsv : a.eval s = v) (hv : Own W base v l) (t : ByteArray) (hxv : a.eval x = .string t)
    (hl : l.length + t.size ≤ 140737488355328) (hbase : base ≤ W.heap.size)
    (h : ∀ v1 w1, Own w1 base v1 (l ++ t.data.toList) → Below base W w1 → W.grownBy w1 v.ownBlock → (v1.ownBlock = v.ownBlock ∨ ∃ b, v1.ownBlock = some b ∧ W.heap.size ≤ b) → K (a.put o.dst v1) w1) :
    if Region.wanted o (yielded ops a.tmps) = true then Oper.wp Try.prog o a W K Q else E := by
  rw [if_pos (by simp [Region.wanted, hgd])]
  refine ap_wp base 22 9 5 (.int .u8 0) 1 1 Try.underlying22 infoByte rfl (by decide) s x ho v l.length (B l) hsv hv.apb _ hxv t.size (B t.data.toList)
    (Src.ofString _ Try.underlying9 t) (by simp only [maxLen]; omega) (by omega) hbase ?_
  intro v1 w1 _ _ h3 h4 h5 h6
  have e : t.size = t.data.toList.length := by rw [Array.length_toList]; rfl
  refine h v1 w1 ?_ h4 h5 h6
  have := h3 hv
  rw [← B_append, e, ← List.length_append] at this
  exact this

set_option maxRecDepth 100000 in
set_option maxHeartbeats 1000000 in
theorem put_any (base : Nat) (v : Value) (l : List UInt8) (n : Int) (w : World) (h1 : -9223372036854775808 ≤ n) (h2 : n < 9223372036854775808) (hv : Apb w base v l) (hl : l.length + 10 ≤ 140737488355328) (hbase : base ≤ w.heap.size) :
    Calls Try.prog 49 #[v, .int .i64 n] w fun e w' => ∃ v', e = .returned v' ∧ Own w' base v' (l ++ pI n) ∧ Below base w w' := by
  go_enter Try.func49, Try.ntmps49
  go_wp2_with fail
  rw [zig_bits h1 h2]
  have hz : Hid (zig n < 18446744073709551616) := zig_lt h1 h2
  have hpl := pI_len h1 h2
  clear h1 h2
  go_loopw [0, 5] (fun bv uv wr => ∃ (v' : Value) (z : Nat) (l' : List UInt8), bv = v' ∧ uv = .int .u64 (z : Int) ∧ Hid (z < 18446744073709551616) ∧ Hid (l' ++ grp z = pI n) ∧ Apb wr base v' (l ++ l') ∧ Below base w wr ∧ base ≤ wr.heap.size)
    (fun _ uv _ => (intOf uv).toNat)
  case atStart => exact ⟨v, zig n, [], rfl, rfl, hz, rfl, by simpa using hv, Below.refl _ _, hbase⟩
  case round =>
    obtain ⟨v', z, l', rfl, rfl, hz', hg, hap, hb, hbs⟩ := hrel
    have hll : (l ++ l').length + (grp z).length ≤ l.length + 10 := by
      have := congrArg List.length hg.out
      rw [List.length_append] at this
      rw [List.length_append]; omega
    have hgp : 0 < (grp z).length := List.length_pos_iff.2 (grp_ne z)
    by_cases hlt : z < 128
    · go_wp2_with (at_builtin; refine app_byte rfl _ _ rfl _ _ rfl hap _ (UInt8.ofNat z) (by first | exact byte_lo z | (simp; omega)) rfl rfl (by omega) hb hbs ?_; intro v1 w1 hown hb1 hbs1 _ _)
      go_ret
      have e : (l ++ l') ++ [UInt8.ofNat z] = l ++ pI n := by rw [← hg.out, grp_small hlt, List.append_assoc]
      rw [e] at hown
      exact ⟨v1, rfl, hown, hb1⟩
    · go_wp2_with (at_builtin; refine app_byte rfl _ _ rfl _ _ rfl hap _ (UInt8.ofNat (z % 128 + 128)) (by exact byte_or z) rfl rfl (by omega) hb hbs ?_; intro v1 w1 hown hb1 hbs1 _ _)
      have hzb := grp_big (z := z) (by omega)
      have e : (l ++ l') ++ [UInt8.ofNat (z % 128 + 128)] = l ++ (l' ++ [UInt8.ofNat (z % 128 + 128)]) := by rw [List.append_assoc]
      rw [e] at hown
      go_roundw
      case rel => exact ⟨v1, z / 128, _, rfl, by go_num, by unfold Hid at *; omega, by unfold Hid at *; rw [← hg, hzb, List.append_assoc]; rfl, hown.apb, hb1, hbs1⟩
      case measure => simp [intOf]; omega

end Go.Proofs.Ytoejegphjlichaa
