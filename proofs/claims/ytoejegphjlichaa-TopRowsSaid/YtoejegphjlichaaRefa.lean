/- The contracts of the reference's with, PutInt, PutText, PutPeriod: the bytes that each appends. -/
import Derived.Test.YtoejegphjlichaaCodc
namespace Go.Proofs.Ytoejegphjlichaa
open Go.RowKit
set_option linter.unusedVariables false

/-- append(v, x...) of bytes, x a slice that is read. -/
theorem app_sl {ops : Array Oper} {rest : List Oper} {o : Oper} {a : Act} {Q : Exit → Act → World → Prop} {base : Nat} (hgd : o.guard = none) (s x : Operand)
    (ho : o.op = .call { callee := .builtin .append, args := #[s, x], argTypes := #[22, 22] })
    {w0 W : World} (v : Value) (l : List UInt8) (hsv : a.eval s = v) (hv : Own W base v l) (A : Option Addr) (t : List UInt8) (c : Nat) (hxv : a.eval x = .slice A t.length c) (hA : Cs W A (B t))
    (hl : l.length + t.length ≤ 140737488355328) (HB : Below base w0 W) (hbase : base ≤ W.heap.size)
    (h : ∀ v1 w1, Own w1 base v1 (l ++ t) → Below base w0 w1 → base ≤ w1.heap.size → W.grownBy w1 v.ownBlock → (v1.ownBlock = v.ownBlock ∨ ∃ b, v1.ownBlock = some b ∧ W.heap.size ≤ b) → wpList Try.prog ops Q rest (a.put o.dst v1) w1) :
    wpList Try.prog ops Q (o :: rest) a W := by
  refine ap_list base 22 22 5 (.int .u8 0) 1 1 Try.underlying22 infoByte rfl (by decide) hgd s x ho v l.length (B l) hsv hv.apb _ hxv t.length (B t)
    (Src_cs Try.underlying22 c hA (by decide) (by rw [B_length]; omega) (B_one _)) (by simp only [maxLen]; omega) (by omega) hbase ?_
  intro v1 w1 _ _ h3 h4 h5 h6
  refine h v1 w1 ?_ (HB.trans h4) (by have := h4.size; omega) h5 h6
  have := h3 hv
  rw [← B_append, ← List.length_append] at this
  exact this

theorem Own.empty (w : World) : Own (w.alloc (.cells #[] 5)) w.heap.size (.slice (some ⟨w.heap.size, 0, none⟩) 0 0) [] :=
  World.ownsRow_made w #[] 0 (Nat.le_refl _) (by simp [maxLen]) (by simp)

set_option maxRecDepth 100000 in
theorem with_any (A : Option Addr) (l : List UInt8) (c : Nat) (A2 : Option Addr) (m : List UInt8) (c2 : Nat) (w : World) (hA : Cs w A (B l)) (hA2 : Cs w A2 (B m)) (hl : l.length + m.length ≤ 140737488355328) :
    Calls Try.prog 51 #[.slice A l.length c, .slice A2 m.length c2] w fun e w' => ∃ v', e = .returned v' ∧ Own w' w.heap.size v' (l ++ m) ∧ Below w.heap.size w w' := by
  have hA1 : Cs (w.alloc (.cells #[] 5)) A (B l) := hA.alloc _
  have hb0 : Below w.heap.size w (w.alloc (.cells #[] 5)) := (Below.refl _ _).alloc (Nat.le_refl _) _
  go_enter Try.func51, Try.ntmps51
  go_wp2_with (first
    | (at_builtin; refine app_sl rfl (.tmp 5) (.tmp 6) rfl _ [] rfl (Own.empty w) A l c rfl hA1 (by simp; omega) hb0 (by simp) ?_; intro v1 w1 ho1 hb1 hs1 _ _)
    | (at_builtin; refine app_sl rfl (.tmp 7) (.tmp 8) rfl _ _ rfl ho1 A2 m c2 rfl (hA2.kept hb1) (by simpa using hl) hb1 hs1 ?_; intro v2 w2 ho2 hb2 hs2 _ _))
  go_ret
  exact ⟨v2, rfl, by simpa using ho2, hb2⟩

set_option maxRecDepth 100000 in
set_option maxHeartbeats 1000000 in
theorem RPutInt_any (A : Option Addr) (l : List UInt8) (c : Nat) (n : Int) (w : World) (h1 : -9223372036854775808 ≤ n) (h2 : n < 9223372036854775808) (hA : Cs w A (B l)) (hl : l.length + 10 ≤ 140737488355328) :
    Calls Try.prog 16 #[.slice A l.length c, .int .i64 n] w fun e w' => ∃ v', e = .returned v' ∧ Own w' w.heap.size v' (l ++ pI n) ∧ Below w.heap.size w w' := by
  have hz : Hid (zig n < 18446744073709551616) := zig_lt h1 h2
  have hpl := pI_len h1 h2
  have H1 : Hid (-9223372036854775808 ≤ n ∧ n < 9223372036854775808) := ⟨h1, h2⟩
  clear h1 h2
  by_cases hn : n < 0
  · go_enter Try.func16, Try.ntmps16
    go_wp2_with fail
    rw [zig_neg H1.out.1 hn]
    go_loopw [5, 6] (fun uv bv wr => ∃ (v' : Value) (z : Nat) (l' : List UInt8), bv = v' ∧ uv = .int .u64 (z : Int) ∧ Hid (z < 18446744073709551616) ∧ Hid (l' ++ grp z = pI n) ∧ Own wr w.heap.size v' l' ∧ Below w.heap.size w wr)
      (fun uv _ _ => (intOf uv).toNat)
    case atStart => exact ⟨.slice none 0 0, zig n, [], rfl, rfl, hz, rfl, Own.nil _ _, Below.refl _ _⟩
    case round =>
      obtain ⟨v', z, l', rfl, rfl, hz', hg, hap, hb⟩ := hrel
      have hll : l'.length + (grp z).length ≤ 10 := by
        have := congrArg List.length hg.out
        rw [List.length_append] at this
        omega
      have hgp : 0 < (grp z).length := List.length_pos_iff.2 (grp_ne z)
      by_cases hlt : z < 128
      · go_wp2_with (at_builtin; refine app_byte rfl _ _ rfl _ _ rfl hap.apb _ (UInt8.ofNat z) (by first | exact byte_lo z | (simp; omega)) rfl rfl (by omega) hb hb.size ?_; intro v1 w1 hown hb1 hbs1 _ _)
        obtain ⟨A1, c1, rfl, _, _, hC1⟩ := hown.cs
        have e : l' ++ [UInt8.ofNat z] = pI n := by rw [← hg.out, grp_small hlt]
        have HE := Lib.hid e
        clear e
        refine (with_any A l c A1 _ c1 w1 (hA.kept hb1) hC1 (by rw [HE.out]; omega)).mono ?_
        rintro e w2 ⟨v2, rfl, ho2, hb2⟩
        go_wp2
        go_ret
        rw [HE.out] at ho2
        exact ⟨v2, rfl, ho2.low hbs1, below_comp hb1 hbs1 hb2⟩
      · have hq := div128 hz'.out
        go_wp2_with (at_builtin; refine app_byte rfl _ _ rfl _ _ rfl hap.apb _ (UInt8.ofNat (z % 128 + 128)) (by first | exact byte_ref z | (simp; omega)) rfl rfl (by omega) hb hb.size ?_; intro v1 w1 hown hb1 hbs1 _ _)
        have hzb := grp_big (z := z) (by omega)
        go_roundw
        case rel => exact ⟨v1, z / 128, _, rfl, by go_num, by unfold Hid at *; omega, by unfold Hid at *; rw [← hg, hzb, List.append_assoc]; rfl, hown, hb1⟩
        case measure => simp [intOf]; omega
  · go_enter Try.func16, Try.ntmps16
    go_wp2_with fail
    rw [zig_pos H1.out.2 (by omega)]
    go_loopw [5, 6] (fun uv bv wr => ∃ (v' : Value) (z : Nat) (l' : List UInt8), bv = v' ∧ uv = .int .u64 (z : Int) ∧ Hid (z < 18446744073709551616) ∧ Hid (l' ++ grp z = pI n) ∧ Own wr w.heap.size v' l' ∧ Below w.heap.size w wr)
      (fun uv _ _ => (intOf uv).toNat)
    case atStart => exact ⟨.slice none 0 0, zig n, [], rfl, rfl, hz, rfl, Own.nil _ _, Below.refl _ _⟩
    case round =>
      obtain ⟨v', z, l', rfl, rfl, hz', hg, hap, hb⟩ := hrel
      have hll : l'.length + (grp z).length ≤ 10 := by
        have := congrArg List.length hg.out
        rw [List.length_append] at this
        omega
      have hgp : 0 < (grp z).length := List.length_pos_iff.2 (grp_ne z)
      by_cases hlt : z < 128
      · go_wp2_with (at_builtin; refine app_byte rfl _ _ rfl _ _ rfl hap.apb _ (UInt8.ofNat z) (by first | exact byte_lo z | (simp; omega)) rfl rfl (by omega) hb hb.size ?_; intro v1 w1 hown hb1 hbs1 _ _)
        obtain ⟨A1, c1, rfl, _, _, hC1⟩ := hown.cs
        have e : l' ++ [UInt8.ofNat z] = pI n := by rw [← hg.out, grp_small hlt]
        have HE := Lib.hid e
        clear e
        refine (with_any A l c A1 _ c1 w1 (hA.kept hb1) hC1 (by rw [HE.out]; omega)).mono ?_
        rintro e w2 ⟨v2, rfl, ho2, hb2⟩
        go_wp2
        go_ret
        rw [HE.out] at ho2
        exact ⟨v2, rfl, ho2.low hbs1, below_comp hb1 hbs1 hb2⟩
      · have hq := div128 hz'.out
        go_wp2_with (at_builtin; refine app_byte rfl _ _ rfl _ _ rfl hap.apb _ (UInt8.ofNat (z % 128 + 128)) (by first | exact byte_ref z | (simp; omega)) rfl rfl (by omega) hb hb.size ?_; intro v1 w1 hown hb1 hbs1 _ _)
        have hzb := grp_big (z := z) (by omega)
        go_roundw
        case rel => exact ⟨v1, z / 128, _, rfl, by go_num, by unfold Hid at *; omega, by unfold Hid at *; rw [← hg, hzb, List.append_assoc]; rfl, hown, hb1⟩
        case measure => simp [intOf]; omega

/-- The bytes of a string, in new memory. -/
theorem run_bytes (w : World) (s : ByteArray) : ∃ (A : Option Addr) (cap : Nat) (w2 : World), (convert 9 22 (.string s)).run Try.prog w = .ok (.slice A s.size cap) w2 ∧ Below w.heap.size w w2 ∧ Cs w2 A (B s.data.toList) ∧ s.size ≤ cap := by
  refine ⟨_, _, _, run_bytes_of_string w 9 22 5 s Try.underlying9 Try.underlying22 Try.underlying5, (Below.refl _ _).drew.alloc (Nat.le_refl _) _, ?_, grownCap_ge _ _ _ _⟩
  intro j u hj
  have es : s.size = s.data.toList.length := by rw [Array.length_toList]; rfl
  refine ⟨_, rfl, ?_⟩
  have hjl : j < s.data.toList.length := by
    rcases Nat.lt_or_ge j s.data.toList.length with h1 | h1
    · exact h1
    · rw [List.getElem?_eq_none (by rw [B_length]; exact h1)] at hj; cases hj
  have hadd : (⟨w.heap.size, 0, none⟩ : Addr).add j = ⟨w.heap.size, j, none⟩ := by unfold Addr.add; split <;> simp_all
  rw [hadd]
  refine blk_cell (blk_new w.drew _) ?_
  unfold bytesRow
  rw [Array.getElem?_append_left (by simpa using hjl)]
  rw [← hj, B, List.getElem?_map, ← Array.getElem?_toList, Array.toList_map, List.getElem?_map]
  rfl

set_option maxRecDepth 100000 in
theorem RPutText_any (A : Option Addr) (l : List UInt8) (c : Nat) (s : ByteArray) (w : World) (hs : s.size ≤ 140737488355328) (hA : Cs w A (B l)) (hl : l.length + 10 + s.size ≤ 140737488355328) :
    Calls Try.prog 31 #[.slice A l.length c, .string s] w fun e w' => ∃ v', e = .returned v' ∧ Own w' w.heap.size v' (l ++ pT s.data.toList) ∧ Below w.heap.size w w' := by
  have hpl : (pI (s.size : Int)).length ≤ 10 := pI_len (by omega) (by omega)
  have es : s.size = s.data.toList.length := by rw [Array.length_toList]; rfl
  have ES := Lib.hid es
  clear es
  go_enter Try.func31, Try.ntmps31
  go_wp2_with fail
  refine (RPutInt_any A l c _ w (by omega) (by omega) hA (by omega)).mono ?_
  rintro e w1 ⟨v1, rfl, ho1, hb1⟩
  obtain ⟨L, HL⟩ : ∃ L, Hid (L = l ++ pI s.size) := ⟨_, rfl⟩
  rw [← HL.out] at ho1
  obtain ⟨A1, c1, rfl, hl1, hm1, hC1⟩ := ho1.cs
  obtain ⟨A2, c2, w2, hcv, hb2, hC2, hle⟩ := run_bytes w1 s
  go_wp2_with fail
  have hC1' := hC1.kept hb2
  have e : s.size = s.data.toList.length := ES.out
  rw [e]
  refine (with_any A1 L c1 A2 s.data.toList c2 w2 hC1' hC2 (by rw [HL.out, List.length_append, ← ES.out]; omega)).mono ?_
  rintro e w3 ⟨v3, rfl, ho3, hb3⟩
  clear e
  go_wp2
  go_ret
  rw [HL.out, List.append_assoc, ES.out] at ho3
  exact ⟨v3, rfl, ho3.low (by have := hb1.size; have := hb2.size; omega), below_join (below_join hb1 hb2) hb3⟩

set_option maxRecDepth 100000 in
set_option maxHeartbeats 2000000 in
theorem RPutPeriod_any (A : Option Addr) (l : List UInt8) (c : Nat) (f t : Int) (w : World) (hf1 : -9223372036854775808 ≤ f) (hf2 : f < 9223372036854775808) (ht1 : -9223372036854775808 ≤ t) (ht2 : t < 9223372036854775808) (hA : Cs w A (B l)) (hl : l.length + 20 ≤ 140737488355328) :
    Calls Try.prog 41 #[.slice A l.length c, .agg #[.int .i64 f, .int .i64 t]] w fun e w' => ∃ v', e = .returned v' ∧ Own w' w.heap.size v' (l ++ pI f ++ pI t) ∧ Below w.heap.size w w' := by
  have hpl := pI_len hf1 hf2
  have HF : Hid ((-9223372036854775808 ≤ f ∧ f < 9223372036854775808) ∧ -9223372036854775808 ≤ t ∧ t < 9223372036854775808) := ⟨⟨hf1, hf2⟩, ht1, ht2⟩
  clear hf1 hf2 ht1 ht2
  have hA1 : Cs (w.alloc (.cells #[.int .i64 f, .int .i64 t] 44)) A (B l) := hA.alloc _
  obtain ⟨L, HL⟩ : ∃ L, Hid (L = l ++ pI f) := ⟨_, rfl⟩
  go_enter Try.func41, Try.ntmps41
  go_wp2_with fail
  go_region_held3 (fun w' => w'.cell? ⟨w.heap.size, 0, none⟩ = some (.int .i64 f) ∧ w'.cell? ⟨w.heap.size, 1, none⟩ = some (.int .i64 t))
    (first | go_keep | (rw [at_below hb1 _ 0 (by simp), at_below hb1 _ 1 (by simp)]; assumption) | (rw [at_below hb2 _ 0 (by have := hb1.size; simp at this; omega), at_below hb2 _ 1 (by have := hb1.size; simp at this; omega)]; assumption))
    (first
      | (go_at_call_of 16 (Value.slice A l.length c); refine (RPutInt_any A l c f _ HF.out.1.1 HF.out.1.2 hA1.drew (by omega)).mono ?_; rintro e w1 ⟨v1, rfl, ho1, hb1⟩; rw [← HL.out] at ho1; obtain ⟨A2, c2, rfl, hl2, hm2, hC2⟩ := ho1.cs)
      | (go_at_call 16; refine (RPutInt_any _ L _ t _ HF.out.2.1 HF.out.2.2 hC2 (by rw [HL.out, List.length_append]; omega)).mono ?_; rintro e w2 ⟨v2, rfl, ho2, hb2⟩))
  go_wp2
  go_ret
  refine ⟨v2, rfl, ?_, ?_⟩
  · rw [HL.out] at ho2
    exact Own.low ho2 (by have := hb1.size; simp at this; omega)
  · exact below_join ((Below.refl w.heap.size w).alloc (Nat.le_refl _) _).drew (below_join hb1 hb2)

end Go.Proofs.Ytoejegphjlichaa
