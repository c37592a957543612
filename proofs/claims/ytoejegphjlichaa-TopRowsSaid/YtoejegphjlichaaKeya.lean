/- The contract of codec.Key: the key of any values. -/
import Derived.Test.YtoejegphjlichaaCodd
import Derived.Test.YtoejegphjlichaaRefa
namespace Go.Proofs.Ytoejegphjlichaa
open Go.RowKit
set_option linter.unusedVariables false

/-- append(v, x, ..) of bytes that lie in a box. -/
theorem app_bytes {ops : Array Oper} {rest : List Oper} {o : Oper} {a : Act} {Q : Exit → Act → World → Prop} {base : Nat} (hgd : o.guard = none) (s x : Operand)
    (ho : o.op = .call { callee := .builtin .append, args := #[s, x], argTypes := #[22, 22] })
    {w0 W : World} (v : Value) (l : List UInt8) (hsv : a.eval s = v) (hv : Own W base v l) (cs : Array Value) (bs : List UInt8) (hX : cs.toList = B bs) {T : TypeId} {m k : Nat} (hxv : a.eval x = .slice (some ⟨k, 0, none⟩) m m) (hk : W.heap.size = k) (hm : bs.length = m)
    (hl : l.length + m ≤ 140737488355328) (HB : Below base w0 W) (hbase : base ≤ W.heap.size)
    (h : ∀ v1 w1, Own w1 base v1 (l ++ bs) → Below base w0 w1 → base ≤ w1.heap.size → W.grownBy w1 v.ownBlock → (v1.ownBlock = v.ownBlock ∨ ∃ b, v1.ownBlock = some b ∧ W.heap.size ≤ b) → wpList Try.prog ops Q rest (a.put o.dst v1) w1) :
    wpList Try.prog ops Q (o :: rest) a (W.alloc (.cells cs T)) := by
  subst hk
  subst hm
  have hsrc : Src Try.prog 1 22 (.slice (some ⟨W.heap.size, 0, none⟩) bs.length bs.length) bs.length (B bs) (W.alloc (.cells cs T)) :=
    Src.ofSlice _ Try.underlying22 ⟨W.heap.size, 0, none⟩ _ _ (B bs) (by rw [B_length]; omega) (fun j u hj => by
      rw [← hX] at hj
      exact World.news_of_block (cs := cs) (t := T) (fr := (0, 0)) (heap_alloc_new W _) j u hj) (B_one _)
  refine ap_list base 22 22 5 (.int .u8 0) 1 1 Try.underlying22 infoByte rfl (by decide) hgd s x ho v l.length (B l) hsv (hv.alloc _).apb _ hxv bs.length (B bs)
    hsrc (by simp only [maxLen]; omega) (by omega) (by simp; omega) ?_
  intro v1 w1 _ _ h3 h4 h5 h6
  refine h v1 w1 ?_ ((HB.alloc hbase _).trans h4) ?_ (World.grownBy.trans (World.grownBy_alloc W _ _) h5) ?_
  · have := h3 (hv.alloc _)
    rw [← B_append, ← List.length_append] at this
    exact this
  · have := h4.size; simp at this; omega
  · rcases h6 with h6 | ⟨b, h6, h7⟩
    · exact .inl h6
    · exact .inr ⟨b, h6, by simp at h7; omega⟩

/-- A variable that was laid just before an append holds what it held. -/
theorem box_kept {wr w1 : World} {base : Nat} {v : Value} {l : List UInt8} (ho : Own wr base v l) {cs : Array Value} {T : TypeId} (hg : (wr.alloc (.cells cs T)).grownBy w1 v.ownBlock) (j : Nat) (u : Value) (hu : cs[j]? = some u) : w1.cell? ⟨wr.heap.size, j, none⟩ = some u := by
  have h1 := hg.block wr.heap.size (by simp) (fun e => by have := (World.ownsRow.lt ho wr.heap.size e.symm).2; omega)
  rw [World.cell?_of_block (w := wr.alloc (.cells cs T)) (a := ⟨wr.heap.size, j, none⟩) h1]
  unfold World.cell?
  rw [heap_alloc_new]
  simpa using hu

/-- The eight bytes of a number below 2^64, the most significant one first, the j-th counted from 0. -/
def beAt (u j : Nat) : UInt8 := UInt8.ofNat (u / 2 ^ (56 - 8 * j))
def be8 (u : Nat) : List UInt8 := (List.range 8).map (beAt u)
theorem beAt_cells (u j : Nat) : (#[Value.int .u8 ((u : Int) / 2 ^ (56 - 8 * j) % 256)] : Array Value).toList = B [beAt u j] := by
  have h : ((u : Int) / 2 ^ (56 - 8 * j) % 256) = ((UInt8.ofNat (u / 2 ^ (56 - 8 * j))).toNat : Int) := by simp
  rw [h]
  rfl
theorem be8_take {u j : Nat} (hj : j < 8) : (be8 u).take (j + 1) = (be8 u).take j ++ [beAt u j] := by
  have h : (be8 u)[j]? = some (beAt u j) := by simp [be8, List.getElem?_range hj]
  rw [List.take_add_one, h]
  rfl
theorem be8_len (u : Nat) : (be8 u).length = 8 := by simp [be8]

/-- The key of a value. -/
def kV (v : Val) : List UInt8 :=
  if v.kind = 1 then 2 :: be8 (v.int + 9223372036854775808).toNat else if v.kind = 2 then 3 :: (v.text.data.toList ++ [0]) else if v.kind = 3 then [4, UInt8.ofNat (v.int % 256).toNat] else [1]
/-- The key of a row. -/
def kR (vs : List Val) : List UInt8 := (vs.map kV).flatten
def keyAcc (vs : List Val) (k : Nat) : List UInt8 := kR (vs.take k)
theorem keyAcc_zero (vs : List Val) : keyAcc vs 0 = [] := by simp [keyAcc, kR]
theorem keyAcc_succ {vs : List Val} {k : Nat} {v : Val} (hv : vs[k]? = some v) : keyAcc vs (k + 1) = keyAcc vs k ++ kV v := by
  unfold keyAcc kR
  rw [List.take_add_one, hv]
  simp
theorem keyAcc_end (vs : List Val) : keyAcc vs vs.length = kR vs := by simp [keyAcc]
theorem kV_len (v : Val) : (kV v).length ≤ 11 + v.text.size := by
  have es : v.text.size = v.text.data.toList.length := by rw [Array.length_toList]; rfl
  unfold kV
  split
  · rw [List.length_cons, be8_len]; omega
  · split
    · rw [List.length_cons, List.length_append, ← es]; simp; omega
    · split <;> simp <;> omega
theorem kR_len (vs : List Val) : (kR vs).length ≤ wt vs := by
  induction vs with
  | nil => simp [wt, kR]
  | cons x xs ih =>
    have h2 := kV_len x
    simp only [kR, List.map_cons, List.flatten_cons, List.length_append, wt, List.sum_cons] at ih ⊢
    omega
theorem keyAcc_len {vs : List Val} {k : Nat} {v : Val} (hv : vs[k]? = some v) : (keyAcc vs k).length + (11 + v.text.size) ≤ wt vs := by
  have h1 := kR_len (vs.take k)
  have h2 := wt_take hv
  unfold keyAcc
  omega

set_option maxRecDepth 100000 in
set_option maxHeartbeats 2000000 in
theorem Key_any (A : Option Addr) (vs : List Val) (c : Nat) (w : World) (hf : ∀ v ∈ vs, v.Fits) (hA : Cs w A (Row Val.cells vs)) (hn : vs.length ≤ 140737488355328) (hl : wt vs ≤ 140737488355328) :
    Calls Try.prog 19 #[.slice A vs.length c] w fun e w' => ∃ v', e = .returned v' ∧ Own w' w.heap.size v' (kR vs) ∧ Below w.heap.size w w' := by
  have HF := Lib.hid hf
  clear hf
  have hn' : vs.length ≤ 9223372036854775807 := by omega
  go_enter Try.func19, Try.ntmps19
  go_wp2_with fail
  go_loopw [3, 10] (fun bv iv wr => ∃ (k : Nat), k ≤ vs.length ∧ iv = .int .i64 k ∧ Own wr w.heap.size bv (keyAcc vs k) ∧ Below w.heap.size w wr ∧ Cs wr A (Row Val.cells vs))
    (fun _ iv _ => vs.length - (intOf iv).toNat)
  case atStart => exact ⟨0, Nat.zero_le _, rfl, Own.nil _ _, Below.refl _ _, hA⟩
  case round =>
    obtain ⟨k, hk, rfl, hown, hbr, hCr⟩ := hrel
    by_cases hlt : k < vs.length
    · obtain ⟨v, hv⟩ : ∃ v, vs[k]? = some v := ⟨_, List.getElem?_eq_getElem hlt⟩
      obtain ⟨a, rfl, hc1, hc2, hc3⟩ := val_at hCr hv
      have hkl := keyAcc_len hv
      have hfv := HF.out v (List.mem_of_getElem? hv)
      have hks := keyAcc_succ hv
      obtain ⟨kd, n, t⟩ := v
      simp only at hc1 hc2 hc3 hkl
      have HV := Lib.hid hv
      have HFV := Lib.hid hfv
      have HKS := Lib.hid hks
      clear hv hfv hks
      by_cases h1 : kd = 1
      · subst h1
        go_wp2_with (at_builtin; refine app_bytes rfl (.tmp 25) (.tmp 26) rfl _ _ rfl (hown.alloc _) _ [2] rfl rfl (by simp) rfl (by omega) (hbr.alloc hbr.size _) (by have := hbr.size; simp; omega) ?_; intro v1 w1 ho1 hb1 hs1 _ _)
        rw [u_key HFV.out.i1 HFV.out.i2]
        obtain ⟨u, hu⟩ : ∃ u : Nat, u = (n + 9223372036854775808).toNat := ⟨_, rfl⟩
        have hu9 : Hid (u < 18446744073709551616) := by have := HFV.out.i2; simp only at this; unfold Hid; omega
        have hkv : Hid (kV ⟨1, n, t⟩ = 2 :: be8 u) := by unfold Hid; rw [hu]; rfl
        rw [← hu]
        clear hu
        obtain ⟨wo, rfl⟩ : ∃ wo : World, wo = wr := ⟨_, rfl⟩
        go_loopw [3, 7] (fun bv sv wr => ∃ (j : Nat), j ≤ 8 ∧ sv = .int .i64 (56 - 8 * (j : Int)) ∧ Own wr w.heap.size bv (keyAcc vs k ++ [2] ++ (be8 u).take j) ∧ Below w.heap.size w wr)
          (fun _ sv _ => (intOf sv + 8).toNat)
        case atStart => exact ⟨0, by omega, rfl, by simpa using ho1, hb1⟩
        case round =>
          obtain ⟨j, hj, rfl, hown2, hbr2⟩ := hrel
          by_cases hj8 : j < 8
          · go_wp2_with (at_builtin; refine app_bytes rfl (.tmp 32) (.tmp 37) rfl _ _ rfl hown2 _ [beAt u j] (beAt_cells u j) rfl rfl rfl (by simp only [List.length_append, List.length_take, be8_len, List.length_cons, List.length_nil]; omega) hbr2 hbr2.size ?_; intro v2 w2 ho2 hb2 hs2 _ _)
            rw [List.append_assoc, ← be8_take hj8] at ho2
            go_roundw
            case rel => exact ⟨j + 1, by omega, by go_num, ho2, hb2⟩
            case measure => simp [intOf]; omega
          · go_wp2_with fail
            obtain rfl : j = 8 := by omega
            have e : keyAcc vs k ++ [2] ++ (be8 u).take 8 = keyAcc vs (k + 1) := by
              rw [HKS.out, hkv.out, List.take_of_length_le (Nat.le_of_eq (be8_len u)), List.append_assoc]
              rfl
            rw [e] at hown2
            clear e
            go_roundw
            case rel => exact ⟨k + 1, by omega, by go_num, hown2, hbr2, hA.kept hbr2⟩
            case measure => simp [intOf]; omega
      · by_cases h2 : kd = 2
        · subst h2
          have hts := HFV.out.s
          simp only at hts
          go_wp2_with (first
            | (at_builtin; refine app_bytes rfl (.tmp 41) (.tmp 42) rfl _ _ rfl (hown.alloc _) _ [3] rfl rfl (by simp) rfl (by omega) (hbr.alloc hbr.size _) (by have := hbr.size; simp; omega) ?_; intro v1 w1 ho1 hb1 hs1 hg1 _; have hcx := box_kept hown hg1 2 _ rfl)
            | (at_builtin; refine app_str rfl (.tmp 44) (.tmp 46) rfl _ _ rfl ho1 t rfl (by simp only [List.length_append, List.length_cons, List.length_nil]; omega) hb1 hs1 ?_; intro v2 w2 ho2 hb2 hs2 _ _)
            | (at_builtin; refine app_bytes rfl (.tmp 48) (.tmp 49) rfl _ _ rfl ho2 _ [0] rfl rfl rfl rfl (by have es : t.size = t.data.toList.length := by rw [Array.length_toList]; rfl
                                                                                                              simp only [List.length_append, List.length_cons, List.length_nil, ← es]; omega) hb2 hs2 ?_; intro v3 w3 ho3 hb3 hs3 _ _))
          have e : keyAcc vs k ++ [3] ++ t.data.toList ++ [0] = keyAcc vs (k + 1) := by
            rw [HKS.out, List.append_assoc, List.append_assoc]
            rfl
          rw [e] at ho3
          clear e
          go_roundw
          case rel => exact ⟨k + 1, by omega, by go_num, ho3, hb3, hA.kept hb3⟩
          case measure => simp [intOf]; omega
        · by_cases h3 : kd = 3
          · subst h3
            have HX : Hid ((#[.int .u8 4, .int .u8 (IntKind.u8.wrap n)] : Array Value).toList = B [4, UInt8.ofNat (n % 256).toNat]) := by
              have h : IntKind.u8.wrap n = ((UInt8.ofNat (n % 256).toNat).toNat : Int) := by rw [IntKind.wrap_u8]; simp; omega
              unfold Hid
              rw [h]
              rfl
            go_wp2_with (at_builtin; refine app_bytes rfl (.tmp 53) (.tmp 57) rfl _ _ rfl (hown.alloc _) _ [4, UInt8.ofNat (n % 256).toNat] HX.out rfl (by simp) rfl (by omega) (hbr.alloc hbr.size _) (by have := hbr.size; simp; omega) ?_; intro v1 w1 ho1 hb1 hs1 _ _)
            have e : keyAcc vs k ++ [4, UInt8.ofNat (n % 256).toNat] = keyAcc vs (k + 1) := by
              rw [HKS.out]
              rfl
            rw [e] at ho1
            clear e
            go_roundw
            case rel => exact ⟨k + 1, by omega, by go_num, ho1, hb1, hA.kept hb1⟩
            case measure => simp [intOf]; omega
          · have k1 : (kd == 1) = false := by simpa using h1
            have k2 : (kd == 2) = false := by simpa using h2
            have k3 : (kd == 3) = false := by simpa using h3
            have HE : Hid (keyAcc vs k ++ [1] = keyAcc vs (k + 1)) := by
              unfold Hid
              rw [HKS.out]
              unfold kV
              rw [if_neg h1, if_neg h2, if_neg h3]
            go_wp2_with (at_builtin; refine app_bytes rfl (.tmp 16) (.tmp 17) rfl _ _ rfl (hown.alloc _) _ [1] rfl rfl (by simp) rfl (by omega) (hbr.alloc hbr.size _) (by have := hbr.size; simp; omega) ?_; intro v1 w1 ho1 hb1 hs1 _ _)
            rw [HE.out] at ho1
            go_roundw
            case rel => exact ⟨k + 1, by omega, by go_num, ho1, hb1, hA.kept hb1⟩
            case measure => simp [intOf]; omega
    · go_wp2_with fail
      go_ret
      obtain rfl : k = vs.length := by omega
      rw [keyAcc_end] at hown
      exact ⟨_, rfl, hown, hbr⟩

end Go.Proofs.Ytoejegphjlichaa
