/- The contracts of frame.update, sum, put and get: a checksum of bytes, a number as four bytes. -/
import Derived.Test.YtoejegphjlichaaCmpa
import Derived.Laws.CopyRow
import Derived.Laws.CopyOwn
import Derived.Laws.MakeOwn
namespace Go.Proofs.Ytoejegphjlichaa
open Go.RowKit
set_option linter.unusedVariables false
set_option linter.unusedSimpArgs false

/-- The register behind one bit, as the walk spells it. -/
def bitStep (r : Int) : Int := if Go.bits .and .u32 r 1 = 1 then Go.bits .xor .u32 (r / 2) 2197175160 else r / 2
def bitsN : Nat → Int → Int
  | 0, r => r
  | n + 1, r => bitsN n (bitStep r)
/-- The register behind bytes. -/
def crc : List UInt8 → Int → Int
  | [], r => r
  | b :: l, r => crc l (bitsN 8 (Go.bits .xor .u32 r ((b.toNat : Int) % 4294967296)))
theorem crc_drop {l : List UInt8} {k : Nat} (h : k < l.length) (r : Int) : crc (l.drop k) r = crc (l.drop (k + 1)) (bitsN 8 (Go.bits .xor .u32 r ((l[k].toNat : Int) % 4294967296))) := by
  rw [List.drop_eq_getElem_cons h]
  rfl

theorem B_get' {l : List UInt8} {i : Nat} (h : i < l.length) : (B l)[i]? = some (bv l[i]) := by simp [B, h]

set_option maxRecDepth 100000 in
set_option maxHeartbeats 1000000 in
theorem update_any (r : Int) (A : Option Addr) (l : List UInt8) (c : Nat) (w : World) (hA : Cs w A (B l)) (hn : l.length ≤ 9223372036854775807) :
    Calls Try.prog 66 #[.int .u32 r, .slice A l.length c] w fun e w' => e = .returned (.int .u32 (crc l r)) ∧ w = w' := by
  obtain ⟨R, hR⟩ : ∃ R, R = crc l r := ⟨_, rfl⟩
  rw [← hR]
  have HR := Lib.hid hR
  clear hR
  go_enter Try.func66, Try.ntmps66
  go_wp2
  go_loop [0, 9] (fun rv i => ∃ (k : Nat) (r' : Int), k ≤ l.length ∧ rv = .int .u32 r' ∧ i = .int .i64 k ∧ Hid (crc (l.drop k) r' = R)) (fun _ i => l.length - (intOf i).toNat)
  case atStart => exact ⟨0, r, Nat.zero_le _, rfl, rfl, HR.out.symm⟩
  case round =>
    obtain ⟨k, r', hk, rfl, rfl, ho⟩ := hrel
    by_cases hlt : k < l.length
    · obtain ⟨a, rfl, hc⟩ := hA k (bv l[k]) (B_get' hlt)
      have hd := crc_drop hlt r'
      rw [ho.out] at hd
      have HD := Lib.hid hd
      clear hd
      unfold bv at hc
      go_wp2
      go_loop [0, 17] (fun rv jv => ∃ (j : Nat) (q : Int), j ≤ 8 ∧ rv = .int .u32 q ∧ jv = .int .i64 j ∧ Hid (crc (l.drop (k + 1)) (bitsN (8 - j) q) = R)) (fun _ j => 8 - (intOf j).toNat)
      case atStart => exact ⟨0, _, by omega, rfl, rfl, HD.out.symm⟩
      case round =>
        obtain ⟨j, q, hj, rfl, rfl, hq⟩ := hrel
        by_cases hj8 : j < 8
        · have hq2 := hq.out
          rw [show 8 - j = (8 - (j + 1)) + 1 by omega] at hq2
          by_cases hb : Go.bits .and .u32 q 1 = 1
          · have hb2 : (Go.bits .and .u32 q 1 == 1) = true := by simpa using hb
            go_wp2
            go_round
            case rel => exact ⟨j + 1, _, by omega, rfl, by go_num, by rw [bitsN, bitStep, if_pos hb] at hq2; exact hq2⟩
            case measure => simp [intOf]; omega
          · have hb2 : (Go.bits .and .u32 q 1 == 1) = false := by simpa using hb
            go_wp2
            go_round
            case rel => exact ⟨j + 1, _, by omega, rfl, by go_num, by rw [bitsN, bitStep, if_neg hb] at hq2; exact hq2⟩
            case measure => simp [intOf]; omega
        · obtain rfl : j = 8 := by omega
          have hq2 : Hid (crc (l.drop (k + 1)) q = R) := hq.out
          go_wp2
          go_round
          case rel => exact ⟨k + 1, q, by omega, rfl, by go_num, hq2⟩
          case measure => simp [intOf]; omega
    · obtain rfl : k = l.length := by omega
      have HD2 : Hid (r' = R) := by have := ho.out; rw [List.drop_length] at this; exact this
      go_wp2
      go_ret
      exact ⟨by rw [← HD2.out]; rfl, rfl⟩

/-- The checksum of a length and a body. -/
def sm (l m : List UInt8) : Int := Go.bits .xor .u32 IntKind.u32.max (crc m (crc l 4294967295))

theorem sum_any (A : Option Addr) (l : List UInt8) (c : Nat) (A2 : Option Addr) (m : List UInt8) (c2 : Nat) (w : World) (hA : Cs w A (B l)) (hA2 : Cs w A2 (B m)) (hn : l.length ≤ 9223372036854775807) (hm : m.length ≤ 9223372036854775807) :
    Calls Try.prog 57 #[.slice A l.length c, .slice A2 m.length c2] w fun e w' => e = .returned (.int .u32 (sm l m)) ∧ w = w' := by
  obtain ⟨R, hR⟩ : ∃ R, Hid (crc l 4294967295 = R) := ⟨_, rfl⟩
  obtain ⟨S, hS⟩ : ∃ S, Hid (crc m R = S) := ⟨_, rfl⟩
  have hT : Hid (sm l m = Go.bits .xor .u32 IntKind.u32.max S) := by unfold Hid sm; rw [hR.out, hS.out]
  rw [hT.out]
  go_enter Try.func57, Try.ntmps57
  go_wp2_with fail
  refine (update_any 4294967295 A l c w hA hn).mono ?_
  rintro e w1 ⟨rfl, rfl⟩
  rw [hR.out]
  go_wp2_with fail
  refine (update_any R A2 m c2 w hA2 hm).mono ?_
  rintro e w1 ⟨rfl, rfl⟩
  rw [hS.out]
  go_wp2
  go_ret
  exact ⟨rfl, rfl⟩

/-- A number as four bytes, the most significant one first. -/
def beB (n j : Nat) : UInt8 := UInt8.ofNat (n / 2 ^ (24 - 8 * j))
def be4 (n : Nat) : List UInt8 := [beB n 0, beB n 1, beB n 2, beB n 3]

theorem bits_or_u32_nat (a b : Nat) (ha : a < 4294967296) (hb : b < 4294967296) : Go.bits .or .u32 (a : Int) (b : Int) = ((a ||| b : Nat) : Int) := by
  have hx : a ||| b < 2 ^ 32 := Nat.or_lt_two_pow (by omega) (by omega)
  have h1 : (BitVec.ofInt 32 (a : Int)).toNat = a := by
    rw [BitVec.ofInt_natCast, BitVec.toNat_ofNat]; exact Nat.mod_eq_of_lt (by omega)
  have h2 : (BitVec.ofInt 32 (b : Int)).toNat = b := by
    rw [BitVec.ofInt_natCast, BitVec.toNat_ofNat]; exact Nat.mod_eq_of_lt (by omega)
  show IntKind.u32.wrap ((BitVec.ofInt 32 (a : Int) ||| BitVec.ofInt 32 (b : Int)).toNat : Int) = _
  rw [BitVec.toNat_or, h1, h2, IntKind.wrap_u32]
  omega
theorem or_add (a b k : Nat) (h : b < 2 ^ k) : (a * 2 ^ k) ||| b = a * 2 ^ k + b := by
  rw [Nat.mul_comm]
  exact (Nat.two_pow_add_eq_or_of_lt h a).symm
theorem be_get {n : Nat} (hn : n < 4294967296) : Go.bits .or .u32 (Go.bits .or .u32 (Go.bits .or .u32 (((beB n 0).toNat : Int) % 4294967296 * 16777216 % 4294967296) (((beB n 1).toNat : Int) % 4294967296 * 65536 % 4294967296)) (((beB n 2).toNat : Int) % 4294967296 * 256 % 4294967296)) (((beB n 3).toNat : Int) % 4294967296) = (n : Int) := by
  have e : ∀ j, (beB n j).toNat = n / 2 ^ (24 - 8 * j) % 256 := fun j => by unfold beB; simp
  have e0 : (beB n 0).toNat = n / 16777216 := by rw [e 0]; show n / 16777216 % 256 = _; omega
  have e1 : (beB n 1).toNat = n / 65536 % 256 := e 1
  have e2 : (beB n 2).toNat = n / 256 % 256 := e 2
  have e3 : (beB n 3).toNat = n % 256 := by rw [e 3]; show n / 1 % 256 = _; omega
  rw [e0, e1, e2, e3]
  have a0 : (((n / 16777216 : Nat) : Int) % 4294967296 * 16777216 % 4294967296) = ((n / 16777216 * 2 ^ 24 : Nat) : Int) := by omega
  have a1 : (((n / 65536 % 256 : Nat) : Int) % 4294967296 * 65536 % 4294967296) = ((n / 65536 % 256 * 65536 : Nat) : Int) := by omega
  have a2 : (((n / 256 % 256 : Nat) : Int) % 4294967296 * 256 % 4294967296) = ((n / 256 % 256 * 256 : Nat) : Int) := by omega
  have a3 : (((n % 256 : Nat) : Int) % 4294967296) = ((n % 256 : Nat) : Int) := by omega
  rw [a0, a1, a2, a3, bits_or_u32_nat _ _ (by omega) (by omega), or_add _ _ 24 (by omega)]
  rw [show n / 16777216 * 2 ^ 24 + n / 65536 % 256 * 65536 = n / 65536 * 2 ^ 16 by omega, bits_or_u32_nat _ _ (by omega) (by omega), or_add _ _ 16 (by omega)]
  rw [show n / 65536 * 2 ^ 16 + n / 256 % 256 * 256 = n / 256 * 2 ^ 8 by omega, bits_or_u32_nat _ _ (by omega) (by omega), or_add _ _ 8 (by omega)]
  congr 1
  omega

theorem add_at (a : Addr) {j : Nat} (h : 0 < j) : (⟨a.block, a.off + j, none⟩ : Addr) = a.add j := by
  have := add_off a 0 j h
  simpa [Addr.add] using this

theorem get_any (a : Addr) (n : Nat) (len c : Nat) (w : World) (hA : Cs w (some a) (B (be4 n))) (hlen : 4 ≤ len) (hc : len ≤ 9223372036854775807) (hn : n < 4294967296) :
    Calls Try.prog 58 #[.slice (some a) len c] w fun e w' => e = .returned (.int .u32 n) ∧ Below w.heap.size w w' := by
  obtain ⟨x0, h0⟩ : ∃ x, Hid (beB n 0 = x) := ⟨_, rfl⟩
  obtain ⟨x1, h1⟩ : ∃ x, Hid (beB n 1 = x) := ⟨_, rfl⟩
  obtain ⟨x2, h2⟩ : ∃ x, Hid (beB n 2 = x) := ⟨_, rfl⟩
  obtain ⟨x3, h3⟩ : ∃ x, Hid (beB n 3 = x) := ⟨_, rfl⟩
  have e4 : be4 n = [x0, x1, x2, x3] := by unfold be4; rw [h0.out, h1.out, h2.out, h3.out]
  rw [e4] at hA
  obtain ⟨_, e0, c0⟩ := hA 0 (bv x0) rfl
  injection e0 with e0
  subst e0
  obtain ⟨_, e0, c1⟩ := hA 1 (bv x1) rfl
  injection e0 with e0
  subst e0
  obtain ⟨_, e0, c2⟩ := hA 2 (bv x2) rfl
  injection e0 with e0
  subst e0
  obtain ⟨_, e0, c3⟩ := hA 3 (bv x3) rfl
  injection e0 with e0
  subst e0
  unfold bv at c0 c1 c2 c3
  rw [show a.add 0 = a from by unfold Addr.add; simp] at c0
  rw [← add_at a (by decide)] at c1 c2 c3
  have g0 : (0 : Int) < (len : Int) := by omega
  have g1 : (1 : Int) < (len : Int) := by omega
  have g2 : (2 : Int) < (len : Int) := by omega
  have g3 : (3 : Int) < (len : Int) := by omega
  clear hA e4
  go_enter Try.func58, Try.ntmps58
  go_wp2_with fail
  go_region
  go_wp2_with fail
  go_ret
  have hb := be_get hn
  rw [h0.out, h1.out, h2.out, h3.out] at hb
  exact ⟨by rw [← hb]; rfl, (Below.refl _ _).drew⟩

theorem splice_get {α : Type} {L : List α} {off : Nat} {cs : List α} (h : off + cs.length ≤ L.length) (i : Nat) : (splice L off cs)[i]? = if i < off then L[i]? else if i < off + cs.length then cs[i - off]? else L[i]? := by
  unfold splice
  have ht : (L.take off).length = off := by rw [List.length_take]; omega
  by_cases h1 : i < off
  · rw [List.getElem?_append_left (by omega), if_pos h1, List.getElem?_take_of_lt h1]
  · rw [List.getElem?_append_right (by omega), if_neg h1, ht]
    by_cases h2 : i < off + cs.length
    · rw [List.getElem?_append_left (by omega), if_pos h2]
    · rw [List.getElem?_append_right (by omega), if_neg h2, List.getElem?_drop]
      congr 1
      omega
theorem splice_nil {α : Type} {L : List α} {off : Nat} : splice L off [] = L := by simp [splice]
theorem splice_step {α : Type} {L : List α} {off : Nat} {xs : List α} {k : Nat} {x : α} (h : off + xs.length ≤ L.length) (hx : xs[k]? = some x) : (splice L off (xs.take k)).set (off + k) x = splice L off (xs.take (k + 1)) := by
  obtain ⟨hk, rfl⟩ := List.getElem?_eq_some_iff.mp hx
  apply List.ext_getElem?
  intro i
  have t1 : (xs.take k).length = k := by rw [List.length_take]; omega
  have t2 : (xs.take (k + 1)).length = k + 1 := by rw [List.length_take]; omega
  have l1 : (splice L off (xs.take k)).length = L.length := length_splice _ _ _ (by omega)
  rw [List.getElem?_set, splice_get (by omega), splice_get (by omega), t1, t2, l1]
  by_cases hi : off + k = i
  · subst hi
    rw [if_pos rfl, if_pos (by omega), if_neg (by omega), if_pos (by omega)]
    rw [show off + k - off = k by omega, List.getElem?_take_of_lt (by omega)]
    simp [hk]
  · rw [if_neg hi]
    by_cases h1 : i < off
    · rw [if_pos h1, if_pos h1]
    · rw [if_neg h1, if_neg h1]
      by_cases h2 : i < off + k
      · rw [if_pos h2, if_pos (by omega), List.getElem?_take_of_lt (by omega), List.getElem?_take_of_lt (by omega)]
      · rw [if_neg h2, if_neg (by omega)]

theorem be_cell (n : Nat) {k : Nat} (hk : k < 4) : (B (be4 n))[k]? = some (.int .u8 ((n : Int) / 2 ^ (24 - 8 * k) % 256)) := by
  have h : ∀ j, (bv (beB n j)) = .int .u8 ((n : Int) / 2 ^ (24 - 8 * j) % 256) := fun j => by
    unfold bv beB
    simp
  rcases (by omega : k = 0 ∨ k = 1 ∨ k = 2 ∨ k = 3) with rfl | rfl | rfl | rfl <;> (show some (bv (beB n _)) = _; rw [h])

set_option maxRecDepth 100000 in
theorem put_any4 (g off len c : Nat) (cur : List Value) (n : Nat) (w : World) (hg : Hid (w.heap[g]? = some (.cells cur.toArray 5 (0, 0)))) (hfit : off + 4 ≤ cur.length) (hlen : 4 ≤ len) (hc : len ≤ 9223372036854775807) (hn : n < 4294967296) :
    Calls Try.prog 56 #[.slice (some ⟨g, off, none⟩) len c, .int .u32 n] w fun e w' => e = .returned (.tuple #[]) ∧ Hid (w'.heap[g]? = some (.cells (splice cur off (B (be4 n))).toArray 5 (0, 0))) ∧ Below g w w' := by
  have hb4 : (B (be4 n)).length = 4 := rfl
  go_enter Try.func56, Try.ntmps56
  go_wp2_with fail
  go_loopw [5] (fun iv wr => ∃ k : Nat, k ≤ 4 ∧ iv = .int .i64 k ∧ Hid (wr.heap[g]? = some (.cells (splice cur off ((B (be4 n)).take k)).toArray 5 (0, 0))) ∧ Below g w wr) (fun iv _ => 4 - (intOf iv).toNat)
  case atStart => exact ⟨0, by omega, rfl, by rw [List.take_zero, splice_nil]; exact hg, Below.refl _ _⟩
  case round =>
    obtain ⟨k, hk, rfl, hgk, hbr⟩ := hrel
    by_cases hlt : k < 4
    · obtain ⟨x, hx⟩ : ∃ x, (splice cur off ((B (be4 n)).take k))[off + k]? = some x := ⟨_, List.getElem?_eq_getElem (by rw [length_splice _ _ _ (by rw [List.length_take]; omega)]; omega)⟩
      have hcell : wr.cell? ⟨g, off + k, none⟩ = some x := blk_cell hgk.out (by simpa using hx)
      have hfr : wr.frozen? ⟨g, off + k, none⟩ = false := by simp [World.frozen?, hgk.out]
      have hk4 : (k : Int) < 4 := by omega
      have hkl : (k : Int) < (len : Int) := by omega
      have hset := setCell_eq_setRow wr g (off + k) (splice cur off ((B (be4 n)).take k)).toArray 5 (0, 0) (.int .u8 ((n : Int) / 2 ^ (24 - 8 * k) % 256)) hgk.out
      have hbx := be_cell n hlt
      go_wp2_with fail
      go_roundw
      case rel =>
        refine ⟨k + 1, by omega, by go_num, ?_, below_setRow hbr (Nat.le_refl _) _⟩
        have h1 := setRow_heap wr g _ ((splice cur off ((B (be4 n)).take k)).toArray.setIfInBounds (off + k) (.int .u8 ((n : Int) / 2 ^ (24 - 8 * k) % 256))) _ _ hgk.out
        rw [List.setIfInBounds_toArray] at h1
        rw [splice_step (by omega) hbx] at h1 ⊢
        exact h1
      case measure => simp [intOf]; omega
    · obtain rfl : k = 4 := by omega
      go_wp2_with fail
      refine bodyPost_end (results_none rfl _ _ _) rfl ?_
      exact ⟨rfl, hgk, hbr⟩

theorem sm_lt (l m : List UInt8) : ∃ n : Nat, sm l m = (n : Int) ∧ n < 4294967296 := by
  have h1 : 0 ≤ sm l m ∧ sm l m < 4294967296 := by
    unfold sm Go.bits
    rw [IntKind.wrap_u32]
    omega
  exact ⟨(sm l m).toNat, by omega, by omega⟩

theorem make_bytes (w : World) (n : Nat) (hn : n ≤ 140737488355328) : ∃ M : List Value, M.length = n ∧ (Instr.makeSlice 22 (.int .i64 n) (.int .i64 n)).run Try.prog w = .ok (.slice (some ⟨w.heap.size, 0, none⟩) n n) (w.alloc (.cells M.toArray 5)) := by
  obtain ⟨i, hi, hz, hs, hb⟩ := info_parts infoByte
  refine ⟨(madeCells (Value.int .u8 0).cells (n * 1)).toList, by rw [Array.length_toList, size_madeCells]; simp, ?_⟩
  have := run_make (P := Try.prog) w 22 5 i _ Try.underlying22 hi hz .i64 .i64 (n : Int) n (by omega) (by omega) (by rw [hb]; omega) (by omega)
  rw [hs] at this
  simpa using this

theorem run_from {w : World} (g o m c i : Nat) (hi : i ≤ m) (hm : m ≤ c) (hic : i ≠ c) (hc : (c : Int) ≤ 9223372036854775807) : (Instr.slice 22 (.slice (some ⟨g, o, none⟩) m c) (some (.int .i64 i)) none none).run Try.prog w = .ok (.slice (some ⟨g, o + i, none⟩) (m - i) (c - i)) w := by
  obtain ⟨i', hi', hz, hs, hb⟩ := info_parts infoByte
  have hni : ¬ c = i := by omega
  have e : (⟨g, o, none⟩ : Addr).add i = ⟨g, o + i, none⟩ := by unfold Addr.add; split <;> simp_all
  have hmi : (i : Int) ≤ (m : Int) := by omega
  have hmc : (m : Int) ≤ (c : Int) := by omega
  simp [Instr.slice, Instr.sliceBounds, Instr.sliceBound, asIntOf, run_underlying Try.underlying22, sizeOf, typeInfo, hi', hi, hm, hni]
  rw [hs, Nat.mul_one, e]

theorem run_from8 {w : World} (g c : Nat) (hc8 : 8 ≤ c) (hc : (c : Int) ≤ 9223372036854775807) : (Instr.slice 22 (.slice (some ⟨g, 0, none⟩) c c) (some (.int .i64 8)) none none).run Try.prog w = .ok (.slice (if c = 8 then some ⟨g, 0, none⟩ else some ⟨g, 8, none⟩) (c - 8) (c - 8)) w := by
  obtain ⟨i', hi', hz, hs, hb⟩ := info_parts infoByte
  have e : (⟨g, 0, none⟩ : Addr).add 8 = ⟨g, 8, none⟩ := rfl
  by_cases h : c = 8
  · subst h
    simp [Instr.slice, Instr.sliceBounds, Instr.sliceBound, asIntOf, run_underlying Try.underlying22, sizeOf, typeInfo, hi', hs]
  · have h8 : (8 : Int) ≤ (c : Int) := by omega
    simp [Instr.slice, Instr.sliceBounds, Instr.sliceBound, asIntOf, run_underlying Try.underlying22, sizeOf, typeInfo, hi', hs, h, hc8, h8, e]
theorem run_to4 {w : World} (g c : Nat) (hc4 : 4 ≤ c) (hc : (c : Int) ≤ 9223372036854775807) : (Instr.slice 22 (.slice (some ⟨g, 0, none⟩) c c) none (some (.int .i64 4)) none).run Try.prog w = .ok (.slice (some ⟨g, 0, none⟩) 4 c) w := by
  obtain ⟨i', hi', hz, hs, hb⟩ := info_parts infoByte
  have h4 : (4 : Int) ≤ (c : Int) := by omega
  simp [Instr.slice, Instr.sliceBounds, Instr.sliceBound, asIntOf, run_underlying Try.underlying22, sizeOf, typeInfo, hi', hs, hc4, h4]
  try simp [Addr.add]

theorem sizeByte : (Try.prog.info? 5).map (·.size) = some 1 := by kernel_rfl

theorem cs_blk {w : World} {g : Nat} {L : List Value} {T : TypeId} {vs : List Value} (h : w.heap[g]? = some (.cells L.toArray T (0, 0))) (hv : ∀ (i : Nat) u, vs[i]? = some u → L[i]? = some u) : Cs w (some ⟨g, 0, none⟩) vs := fun i u hi => by
  refine ⟨_, rfl, ?_⟩
  have e : (⟨g, 0, none⟩ : Addr).add i = ⟨g, i, none⟩ := by unfold Addr.add; split <;> simp_all
  rw [e]
  exact blk_cell h (by simpa using hv i u hi)

theorem cs_src {w : World} {A : Option Addr} {m : List UInt8} (h : Cs w A (B m)) (hm : 0 < m.length) : ∃ ad, A = some ad ∧ ∀ (j : Nat) v, (B m)[j]? = some v → w.cell? (ad.add j) = some v := by
  obtain ⟨a, e, _⟩ := h 0 _ (B_get' hm)
  refine ⟨a, e, fun j v hv => ?_⟩
  obtain ⟨a', e', hc⟩ := h j v hv
  rw [e] at e'
  injection e' with e'
  subst e'
  exact hc
theorem fr_cells {α : Type} {M X Y Z : List α} (hX : X.length = 4) (hY : Y.length = 4) (hM : M.length = 8 + Z.length) : splice (splice (splice M 0 X) 4 Y) 8 Z = X ++ (Y ++ Z) := by
  have l1 : (splice M 0 X).length = M.length := length_splice _ _ _ (by omega)
  have l2 : (splice (splice M 0 X) 4 Y).length = M.length := by rw [length_splice _ _ _ (by omega)]; exact l1
  apply List.ext_getElem?
  intro i
  rw [splice_get (by omega), splice_get (by omega), splice_get (by omega)]
  by_cases h4 : i < 4
  · rw [if_pos (by omega), if_pos h4, if_neg (by omega), if_pos (by omega), List.getElem?_append_left (by omega)]
    simp
  · rw [List.getElem?_append_right (by omega), hX]
    by_cases h8 : i < 8
    · rw [if_pos h8, if_neg h4, if_pos (by omega), List.getElem?_append_left (by omega)]
    · rw [if_neg h8, List.getElem?_append_right (by omega), hY]
      by_cases hz : i < 8 + Z.length
      · rw [if_pos hz]
        congr 1
      · rw [if_neg hz, if_neg h4, if_neg (by omega), if_neg (by omega), if_neg (by omega), List.getElem?_eq_none (by omega), List.getElem?_eq_none (by omega)]

theorem copy_splice {D A : Option Addr} {n c : Nat} (w : World) (g off : Nat) (cur : List Value) (cs : List Value) (hg : w.heap[g]? = some (.cells cur.toArray 5 (0, 0))) (hn : cs.length = n)
    (hpos : 0 < cs.length → D = some ⟨g, off, none⟩ ∧ ∃ ad, A = some ad ∧ ∀ (j : Nat) v, cs[j]? = some v → w.cell? (ad.add j) = some v) (hfit : off + cs.length ≤ cur.length) (h1 : ∀ v ∈ cs, v.oneCell' = true) (N : Nat) (w0 : World) (hb : Below N w0 w) (hN : N ≤ g) :
    ∃ w', (Builtin.copy_ #[22, 22] 3 #[.slice D n n, .slice A n c]).run Try.prog w = .ok (.int .i64 n) w' ∧ Hid (w'.heap[g]? = some (.cells (splice cur off cs).toArray 5 (0, 0))) ∧ Below N w0 w' := by
  by_cases h0 : cs.length = 0
  · obtain rfl : cs = [] := List.eq_nil_of_length_eq_zero h0
    obtain rfl : n = 0 := by simpa using hn.symm
    exact ⟨w, run_copy_none (P := Try.prog) w _ _ _ 5 D A 0 0 0 c Try.underlying22 sizeByte (Nat.min_self _), by rw [splice_nil]; exact hg, hb⟩
  · obtain ⟨rfl, ad, rfl, hsrc⟩ := hpos (by omega)
    have hr := run_copy_row (P := Try.prog) w 22 22 3 5 g off n n ad n c cur.toArray 5 cs Try.underlying22 sizeByte hg (by rw [hn]; exact (Nat.min_self _).symm) hsrc (by simpa using hfit) h1
    rw [hn] at hr
    refine ⟨_, hr, ?_, below_setRow hb hN _⟩
    have h2 := setRow_heap w g cur.toArray (cur.toArray.toList.take off ++ cs ++ cur.toArray.toList.drop (off + n)).toArray _ _ hg
    unfold Hid
    rw [h2]
    simp [splice, hn]

/-- The frame of a body. -/
def fr (m : List UInt8) : List UInt8 := be4 m.length ++ (be4 (sm (be4 m.length) m).toNat ++ m)

set_option maxRecDepth 100000 in
set_option maxHeartbeats 2000000 in
theorem Append_nil (A : Option Addr) (m : List UInt8) (c : Nat) (w : World) (hA : Cs w A (B m)) (hm : m.length ≤ 1048576) :
    Calls Try.prog 35 #[.slice none 0 0, .slice A m.length c] w fun e w' => ∃ G, e = .returned (.tuple #[.slice (some ⟨G, 0, none⟩) (8 + m.length) (8 + m.length), .int .i64 0]) ∧ Cs w' (some ⟨G, 0, none⟩) (B (fr m)) ∧ Below w.heap.size w w' := by
  obtain ⟨K, hK⟩ : ∃ K : Nat, K = 8 + m.length := ⟨_, rfl⟩
  obtain ⟨M, hMl, hmk⟩ := make_bytes w K (by omega)
  have hKi : (8 : Int) + (m.length : Int) = (K : Int) := by omega
  have hm0 : decide ((1048576 : Int) < (m.length : Int)) = false := by simp; omega
  obtain ⟨g, hg⟩ : ∃ g, g = w.heap.size := ⟨_, rfl⟩
  rw [← hg] at hmk
  have hs0 : ∀ w, (Instr.slice 22 (.slice (some ⟨g, 0, none⟩) K K) (some (.int .i64 0)) none none).run Try.prog w = .ok (.slice (some ⟨g, 0, none⟩) K K) w := fun w => run_from (w := w) g 0 K K 0 (by omega) (Nat.le_refl _) (by omega) (by omega)
  have hs4 : ∀ w, (Instr.slice 22 (.slice (some ⟨g, 0, none⟩) K K) (some (.int .i64 4)) none none).run Try.prog w = .ok (.slice (some ⟨g, 4, none⟩) (K - 4) (K - 4)) w := fun w => run_from (w := w) g 0 K K 4 (by omega) (Nat.le_refl _) (by omega) (by omega)
  obtain ⟨D, hD⟩ : ∃ D, D = (if K = 8 then some (⟨g, 0, none⟩ : Addr) else some ⟨g, 8, none⟩) := ⟨_, rfl⟩
  have hs8 : ∀ w, (Instr.slice 22 (.slice (some ⟨g, 0, none⟩) K K) (some (.int .i64 8)) none none).run Try.prog w = .ok (.slice D m.length m.length) w := fun w => by
    have h1 := run_from8 (w := w) g K (by omega) (by omega)
    rw [← hD] at h1
    rw [show m.length = K - 8 by omega]
    exact h1
  have hs4t := fun w => run_to4 (w := w) g K (by omega) (by omega)
  have hDD : Hid (0 < m.length → D = some ⟨g, 8, none⟩) := by
    intro h
    rw [hD, if_neg (by omega)]
  clear hD
  have hcp : ∀ w, (Builtin.copy_ #[22, 22] 3 #[.slice (some ⟨g, 0, none⟩) K K, .slice none 0 0]).run Try.prog w = .ok (.int .i64 0) w := fun w => run_copy_nil _ w _ _ _ _ _ K K Try.underlying22 (by rw [sizeByte]; rfl)
  have hHK := Lib.hid hK
  have HG := Lib.hid hg
  rw [← hK]
  clear hK hg
  go_enter Try.func35, Try.ntmps35
  go_wp2_with fail
  have hb0 : Below w.heap.size w (w.alloc (.cells M.toArray 5)) := (Below.refl _ _).alloc (Nat.le_refl _) _
  have hg0 : Hid ((w.alloc (.cells M.toArray 5)).heap[g]? = some (.cells M.toArray 5 (0, 0))) := by rw [HG.out]; exact blk_new _ _
  have hMl0 : M.length = 8 + m.length := by rw [hMl]; exact hHK.out
  refine (put_any4 g 0 K K M m.length _ hg0 (by omega) (by omega) (by omega) (by omega)).mono ?_
  rintro e w1 ⟨rfl, hg1, hb1⟩
  have hb01 : Below w.heap.size w w1 := hb0.trans (hb1.mono (by rw [HG.out]; omega))
  obtain ⟨M1, hM1⟩ : ∃ M1, Hid (M1 = splice M 0 (B (be4 m.length))) := ⟨_, rfl⟩
  have hg1 : Hid (w1.heap[g]? = some (.cells M1.toArray 5 (0, 0))) := by rw [hM1.out]; exact hg1
  have hl1 : M1.length = 8 + m.length := by rw [hM1.out, length_splice _ _ _ (by show 0 + 4 ≤ _; omega)]; exact hMl0
  have hC1 : Cs w1 (some ⟨g, 0, none⟩) (B (be4 m.length)) := cs_blk hg1.out (by
    intro i u hu
    have hi : i < 4 := (List.getElem?_eq_some_iff.mp hu).1
    rw [hM1.out, splice_get (by show 0 + 4 ≤ _; omega), if_neg (by omega), if_pos (by show i < 0 + 4; omega)]
    exact hu)
  obtain ⟨S, hS, hS4⟩ := sm_lt (be4 m.length) m
  have HS := Lib.hid hS
  clear hS
  go_wp2_with fail
  go_region_held3 (fun _ => True) (exact trivial)
    (first
      | (go_at_call 57; refine (sum_any (some ⟨g, 0, none⟩) (be4 m.length) K A m c _ hC1.drew (hA.kept hb01).drew (by show 4 ≤ _; omega) (by omega)).mono ?_; rintro e w2 ⟨rfl, rfl⟩; rw [HS.out])
      | (go_at_call 56; refine (put_any4 g 4 (K - 4) (K - 4) M1 S w1.drew hg1 (by omega) (by omega) (by omega) hS4).mono ?_; rintro e w2 ⟨rfl, hg2, hb2⟩))
  obtain ⟨M2, hM2⟩ : ∃ M2, Hid (M2 = splice M1 4 (B (be4 S))) := ⟨_, rfl⟩
  have hg2 : Hid (w2.heap[g]? = some (.cells M2.toArray 5 (0, 0))) := by rw [hM2.out]; exact hg2
  have hl2 : M2.length = 8 + m.length := by rw [hM2.out, length_splice _ _ _ (by show 4 + 4 ≤ _; omega)]; exact hl1
  have hb02 : Below w.heap.size w w2 := hb01.drew.trans (hb2.mono (by rw [HG.out]; omega))
  have hA2 := hA.kept hb02
  have hgw : w.heap.size ≤ g := by rw [HG.out]; omega
  have hcn : Hid ((B m).length = Nat.min m.length m.length) := by unfold Hid; rw [B_length]; exact (Nat.min_self _).symm
  have hcpos : Hid (0 < (B m).length → D = some ⟨g, 8, none⟩ ∧ ∃ ad, A = some ad ∧ ∀ (j : Nat) v, (B m)[j]? = some v → w2.cell? (ad.add j) = some v) := fun h => ⟨hDD.out (by rwa [B_length] at h), cs_src hA2 (by rwa [B_length] at h)⟩
  have hcfit : 8 + (B m).length ≤ M2.length := by rw [B_length]; omega
  obtain ⟨w3, hcp8, hg3, hb3⟩ := copy_splice (D := D) (A := A) (n := m.length) (c := c) w2 g 8 M2 (B m) hg2.out (B_length m) hcpos.out hcfit (B_one _) w.heap.size w hb02 hgw
  go_wp2_with fail
  go_ret2
  have hfr : splice M2 8 (B m) = B (fr m) := by
    have hs : (sm (be4 m.length) m).toNat = S := by rw [HS.out]; rfl
    rw [hM2.out, hM1.out, fr_cells rfl rfl (by rw [B_length]; exact hMl0)]
    unfold fr
    rw [B_append, B_append, hs]
  rw [hfr] at hg3
  exact ⟨g, rfl, cs_blk hg3.out (fun i u h => h), hb3⟩

theorem run_8to {w : World} (g c : Nat) (hc8 : 8 ≤ c) (hc : (c : Int) ≤ 9223372036854775807) : (Instr.slice 22 (.slice (some ⟨g, 0, none⟩) c c) (some (.int .i64 8)) (some (.int .i64 c)) none).run Try.prog w = .ok (.slice (if c = 8 then some ⟨g, 0, none⟩ else some ⟨g, 8, none⟩) (c - 8) (c - 8)) w := by
  obtain ⟨i', hi', hz, hs, hb⟩ := info_parts infoByte
  have e : (⟨g, 0, none⟩ : Addr).add 8 = ⟨g, 8, none⟩ := rfl
  by_cases h : c = 8
  · subst h
    simp [Instr.slice, Instr.sliceBounds, Instr.sliceBound, asIntOf, run_underlying Try.underlying22, sizeOf, typeInfo, hi', hs]
  · have h8 : (8 : Int) ≤ (c : Int) := by omega
    simp [Instr.slice, Instr.sliceBounds, Instr.sliceBound, asIntOf, run_underlying Try.underlying22, sizeOf, typeInfo, hi', hs, h, hc8, h8, e]

theorem fr_head {w : World} {g : Nat} {m : List UInt8} (h : Cs w (some ⟨g, 0, none⟩) (B (fr m))) : Cs w (some ⟨g, 0, none⟩) (B (be4 m.length)) := by
  have := h.take 4
  rwa [B_take, show (fr m).take 4 = be4 m.length from rfl] at this
theorem cs_off {w : World} {g : Nat} {X Y : List Value} {k : Nat} (hk : X.length = k) (hk0 : 0 < k) (h : Cs w (some ⟨g, 0, none⟩) (X ++ Y)) : Cs w (some ⟨g, k, none⟩) Y := fun i u hi => by
  obtain ⟨a, e, hc⟩ := h (k + i) u (by rw [List.getElem?_append_right (by omega), hk, Nat.add_sub_cancel_left]; exact hi)
  injection e with e
  subst e
  refine ⟨_, rfl, ?_⟩
  rw [← hc]
  congr 1
  unfold Addr.add
  by_cases hi0 : i = 0
  · subst hi0
    simp
    omega
  · simp [hi0]

set_option maxRecDepth 100000 in
set_option maxHeartbeats 2000000 in
theorem Next_ok (g : Nat) (m : List UInt8) (K : Nat) (w : World) (hA : Cs w (some ⟨g, 0, none⟩) (B (fr m))) (hm : m.length ≤ 1048576) (hK : K = 8 + m.length) :
    Calls Try.prog 36 #[.slice (some ⟨g, 0, none⟩) K K, .int .i64 0] w fun e w' => ∃ G, e = .returned (.tuple #[.slice (some ⟨G, 0, none⟩) m.length m.length, .int .i64 K, .int .i64 0]) ∧ Cs w' (some ⟨G, 0, none⟩) (B m) ∧ Below w.heap.size w w' := by
  have hKi : (8 : Int) + (m.length : Int) = (K : Int) := by omega
  have hKs : (K : Int) - 8 = (m.length : Int) := by omega
  have hK8 : decide ((K : Int) < 8) = false := by simp; omega
  have hm0 : decide ((1048576 : Int) < (m.length : Int)) = false := by simp; omega
  have hK0 : decide ((K : Int) < 0) = false := by simp
  obtain ⟨S, hS, hS4⟩ := sm_lt (be4 m.length) m
  have HS := Lib.hid hS
  clear hS
  have hs : Hid ((sm (be4 m.length) m).toNat = S) := by unfold Hid; rw [HS.out]; rfl
  have hC1 := fr_head hA
  have hA2 := hA
  unfold fr at hA2
  rw [B_append, B_append, hs.out] at hA2
  have hA4 := cs_off (k := 4) rfl (by decide) hA2
  have hC2 : Cs w (some ⟨g, 4, none⟩) (B (be4 S)) := by
    have := hA4.take 4
    rwa [show (B (be4 S) ++ B m).take 4 = B (be4 S) from rfl] at this
  rw [← List.append_assoc] at hA2
  have hC3 := cs_off (k := 8) rfl (by decide) hA2
  clear hA2 hA4
  obtain ⟨D, hD⟩ : ∃ D, D = (if K = 8 then some (⟨g, 0, none⟩ : Addr) else some ⟨g, 8, none⟩) := ⟨_, rfl⟩
  have hs8 : ∀ w, (Instr.slice 22 (.slice (some ⟨g, 0, none⟩) K K) (some (.int .i64 8)) none none).run Try.prog w = .ok (.slice D m.length m.length) w := fun w => by
    have h1 := run_from8 (w := w) g K (by omega) (by omega)
    rw [← hD] at h1
    rw [show m.length = K - 8 by omega]
    exact h1
  have hs8t : ∀ w, (Instr.slice 22 (.slice (some ⟨g, 0, none⟩) K K) (some (.int .i64 8)) (some (.int .i64 K)) none).run Try.prog w = .ok (.slice D m.length m.length) w := fun w => by
    have h1 := run_8to (w := w) g K (by omega) (by omega)
    rw [← hD] at h1
    rw [show m.length = K - 8 by omega]
    exact h1
  have hs8u : ∀ w, (Instr.slice 22 (.slice (some ⟨g, 0, none⟩) K K) (some (.int .i64 8)) (some (.int .i64 (8 + (m.length : Int)))) none).run Try.prog w = .ok (.slice D m.length m.length) w := fun w => by
    rw [hKi]
    exact hs8t w
  have hCD : Cs w D (B m) := by
    rw [hD]
    by_cases h8 : K = 8
    · obtain rfl : m = [] := List.eq_nil_of_length_eq_zero (by omega)
      exact Cs.nil _ _
    · rw [if_neg h8]
      exact hC3
  have hs4t := fun w => run_to4 (w := w) g K (by omega) (by omega)
  have hs0 : ∀ w, (Instr.slice 22 (.slice (some ⟨g, 0, none⟩) K K) (some (.int .i64 0)) none none).run Try.prog w = .ok (.slice (some ⟨g, 0, none⟩) K K) w := fun w => run_from (w := w) g 0 K K 0 (by omega) (Nat.le_refl _) (by omega) (by omega)
  have hs4 : ∀ w, (Instr.slice 22 (.slice (some ⟨g, 0, none⟩) K K) (some (.int .i64 4)) none none).run Try.prog w = .ok (.slice (some ⟨g, 4, none⟩) (K - 4) (K - 4)) w := fun w => run_from (w := w) g 0 K K 4 (by omega) (Nat.le_refl _) (by omega) (by omega)
  have hKb : K ≤ 9223372036854775807 := by omega
  have hKw : IntKind.i64.wrap (K : Int) = (K : Int) := by rw [IntKind.wrap_i64]; omega
  have hHK := Lib.hid hK
  clear hK hD
  go_enter Try.func36, Try.ntmps36
  go_wp2_with fail
  refine (get_any ⟨g, 0, none⟩ m.length K K w hC1 (by have := hHK.out; omega) (by have := hHK.out; omega) (by omega)).mono ?_
  rintro e w1 ⟨rfl, hb1⟩
  go_wp2_with fail
  go_region_held3 (fun _ => True) (exact trivial)
    (first
      | (go_at_call 58; refine (get_any ⟨g, 4, none⟩ S (K - 4) (K - 4) w1.drew (hC2.kept hb1).drew (by have := hHK.out; omega) (by have := hHK.out; omega) hS4).mono ?_; rintro e w2 ⟨rfl, hb2⟩)
      | (go_at_call 57; refine (sum_any (some ⟨g, 0, none⟩) (be4 m.length) K D m m.length w2 ((hC1.kept hb1).drew.kept hb2) ((hCD.kept hb1).drew.kept hb2) (by show 4 ≤ _; omega) (by omega)).mono ?_; rintro e w3 ⟨rfl, rfl⟩; rw [HS.out]))
  have hb02 : Below w.heap.size w w2 := below_join hb1.drew hb2
  obtain ⟨M, hMl, hmk⟩ := make_bytes w2 m.length (by omega)
  obtain ⟨w4, hcp, hg4, hb4⟩ := copy_splice (D := some ⟨w2.heap.size, 0, none⟩) (A := D) (n := m.length) (c := m.length) (w2.alloc (.cells M.toArray 5)) w2.heap.size 0 M (B m) (blk_new _ _) (B_length m) (fun h => ⟨rfl, cs_src ((hCD.kept hb02).alloc _) (by rwa [B_length] at h)⟩) (by rw [B_length]; omega) (B_one _) w.heap.size w (hb02.alloc hb02.size _) hb02.size
  go_wp2_with fail
  go_ret3
  refine ⟨w2.heap.size, rfl, cs_blk hg4.out (fun i u h => ?_), hb4⟩
  rw [splice_get (by rw [B_length]; omega), if_neg (by omega), if_pos (by have := (List.getElem?_eq_some_iff.mp h).1; omega)]
  exact h

end Go.Proofs.Ytoejegphjlichaa
