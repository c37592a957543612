/- The contracts of cmp.Compare, cmp.Or, strings.Compare, value.Compare, slices.CompareFunc and tuple.Compare. -/
import Derived.Test.YtoejegphjlichaaCmpa
import Derived.Lib.Bytealg
import Derived.Laws.Externs
namespace Go.Proofs.Ytoejegphjlichaa
open Go.RowKit
set_option linter.unusedVariables false
set_option linter.unusedSimpArgs false

/-- The order of two integers. -/
def ic (n m : Int) : Int := if n < m then -1 else if m < n then 1 else 0
/-- The first that is not zero. -/
def orl : List Int → Int
  | [] => 0
  | x :: xs => if x = 0 then orl xs else x
theorem vc_orl (u v : Val) : orl [ic u.kind v.kind, ic u.int v.int, bc u.text.data.toList v.text.data.toList] = vc u v := by
  unfold vc orl orl orl orl ic
  by_cases h1 : u.kind < v.kind
  · simp [h1]
  · by_cases h2 : v.kind < u.kind
    · simp [h1, h2]
    · by_cases h3 : u.int < v.int
      · simp [h1, h2, h3]
      · by_cases h4 : v.int < u.int
        · simp [h1, h2, h3, h4]
        · by_cases h5 : bc u.text.data.toList v.text.data.toList = 0
          · simp [h1, h2, h3, h4, h5]
          · simp [h1, h2, h3, h4, h5]

theorem isNaN_any (n : Int) (w : World) : Calls Try.prog 69 #[.int .i64 n] w fun e w' => e = .returned (.bool false) ∧ w = w' := by
  go_enter Try.func69, Try.ntmps69
  go_wp2
  go_ret
  exact ⟨rfl, rfl⟩

theorem cmpInt_any (n m : Int) (w : World) : Calls Try.prog 63 #[.int .i64 n, .int .i64 m] w fun e w' => e = .returned (.int .i64 (ic n m)) ∧ w = w' := by
  rcases Int.lt_trichotomy n m with h | h | h
  · have hv : ic n m = -1 := by simp [ic, h]
    rw [hv]
    go_enter Try.func63, Try.ntmps63
    go_wp2_with fail
    refine (isNaN_any n w).mono ?_
    rintro e w1 ⟨rfl, rfl⟩
    go_wp2_with fail
    refine (isNaN_any m w).mono ?_
    rintro e w1 ⟨rfl, rfl⟩
    go_wp2
    go_ret
    exact ⟨rfl, rfl⟩
  · subst h
    have hv : ic n n = 0 := by simp [ic]
    rw [hv]
    go_enter Try.func63, Try.ntmps63
    go_wp2_with fail
    refine (isNaN_any n w).mono ?_
    rintro e w1 ⟨rfl, rfl⟩
    go_wp2_with fail
    refine (isNaN_any n w).mono ?_
    rintro e w1 ⟨rfl, rfl⟩
    go_wp2
    go_ret
    exact ⟨rfl, rfl⟩
  · have hv : ic n m = 1 := by unfold ic; rw [if_neg (by omega), if_pos h]
    rw [hv]
    have h2 : decide (n < m) = false := by simp; omega
    go_enter Try.func63, Try.ntmps63
    go_wp2_with fail
    refine (isNaN_any n w).mono ?_
    rintro e w1 ⟨rfl, rfl⟩
    go_wp2_with fail
    refine (isNaN_any m w).mono ?_
    rintro e w1 ⟨rfl, rfl⟩
    go_wp2
    go_ret
    exact ⟨rfl, rfl⟩

theorem bytes_bc : ∀ x y : List UInt8, Lib.compareBytes x y = bc x y
  | [], [] => rfl
  | [], _ :: _ => rfl
  | _ :: _, [] => rfl
  | a :: x, b :: y => by
    rw [Lib.compareBytes, bc_cc, bytes_bc x y]
    rcases Nat.lt_trichotomy a.toNat b.toNat with h | h | h
    · have h1 : a < b := UInt8.lt_iff_toNat_lt.mpr h
      simp [h1]
    · obtain rfl := UInt8.toNat_inj.mp h
      have h1 : ¬ a < a := by rw [UInt8.lt_iff_toNat_lt]; omega
      simp [h1]
    · have h1 : ¬ a < b := by rw [UInt8.lt_iff_toNat_lt]; omega
      have h2 : b < a := UInt8.lt_iff_toNat_lt.mpr h
      have h3 : ¬ a = b := by intro e; subst e; omega
      simp [h1, h2, h3]

theorem cmpString_any (s t : ByteArray) (w : World) : Calls Try.prog 70 #[.string s, .string t] w fun e w' => e = .returned (.int .i64 (bc s.data.toList t.data.toList)) ∧ w = w' := by
  have hx : ∀ w : World, (callFunc 72 #[.string s, .string t]).run Try.prog w = .ok (.value (.int .i64 (bc s.data.toList t.data.toList))) w := fun w => by
    rw [run_callFunc_extern Try.func72 (by kernel_rfl) (by kernel_rfl) (by kernel_rfl) (e := Extern.BytealgCompare.compare) (by kernel_rfl), Lib.run_compareString, bytes_bc]
    rfl
  go_enter Try.func70, Try.ntmps70
  go_wp2
  go_ret
  exact ⟨rfl, rfl⟩

theorem cmpStr_any (s t : ByteArray) (w : World) : Calls Try.prog 64 #[.string s, .string t] w fun e w' => e = .returned (.int .i64 (bc s.data.toList t.data.toList)) ∧ w = w' := by
  go_enter Try.func64, Try.ntmps64
  go_wp2_with fail
  refine (cmpString_any s t w).mono ?_
  rintro e w1 ⟨rfl, rfl⟩
  go_wp2
  go_ret
  exact ⟨rfl, rfl⟩

theorem orl_drop {l : List Int} {k : Nat} {x : Int} (h : l[k]? = some x) : orl (l.drop k) = if x = 0 then orl (l.drop (k + 1)) else x := by
  obtain ⟨h1, rfl⟩ := List.getElem?_eq_some_iff.mp h
  rw [List.drop_eq_getElem_cons h1]
  rfl

set_option maxRecDepth 100000 in
theorem or_any (A : Option Addr) (l : List Int) (c : Nat) (w : World) (hA : Cs w A (l.map (.int .i64))) (hn : l.length ≤ 9223372036854775807) :
    Calls Try.prog 62 #[.slice A l.length c] w fun e w' => e = .returned (.int .i64 (orl l)) ∧ w = w' := by
  obtain ⟨R, hR⟩ : ∃ R, R = orl l := ⟨_, rfl⟩
  rw [← hR]
  have HR := Lib.hid hR
  clear hR
  go_enter Try.func62, Try.ntmps62
  go_wp2
  go_loop [8] (fun i => ∃ k : Nat, k ≤ l.length ∧ i = .int .i64 k ∧ Hid (orl (l.drop k) = R)) (fun i => l.length - (intOf i).toNat)
  case atStart => exact ⟨0, Nat.zero_le _, rfl, HR.out.symm⟩
  case round =>
    obtain ⟨k, hk, rfl, ho⟩ := hrel
    by_cases hlt : k < l.length
    · obtain ⟨x, hx⟩ : ∃ x, l[k]? = some x := ⟨_, List.getElem?_eq_getElem hlt⟩
      obtain ⟨a, rfl, hc⟩ := hA k (.int .i64 x) (by rw [List.getElem?_map, hx]; rfl)
      have hd := orl_drop hx
      rw [ho.out] at hd
      have HD := Lib.hid hd
      clear hd hx
      by_cases h0 : x = 0
      · subst h0
        have HD2 : Hid (orl (l.drop (k + 1)) = R) := by have := HD.out; simp at this; exact this.symm
        go_wp2
        go_round
        case rel => exact ⟨k + 1, by omega, by go_num, HD2.out⟩
        case measure => simp [intOf]; omega
      · have h1 : (x == 0) = false := by simpa using h0
        have HD2 : Hid (x = R) := by have := HD.out; rw [if_neg h0] at this; exact this.symm
        go_wp2
        go_ret
        exact ⟨by rw [← HD2.out]; rfl, rfl⟩
    · obtain rfl : k = l.length := by omega
      have HD2 : Hid (R = 0) := by have := ho.out; rw [List.drop_length] at this; exact this.symm
      go_wp2
      go_ret
      exact ⟨by rw [HD2.out]; rfl, rfl⟩

theorem or3_any (g : Nat) (x y z : Int) (w : World) (h : Cs w (some ⟨g, 0, none⟩) [.int .i64 x, .int .i64 y, .int .i64 z]) : Calls Try.prog 62 #[.slice (some ⟨g, 0, none⟩) 3 3] w fun e w' => e = .returned (.int .i64 (orl [x, y, z])) ∧ w = w' :=
  or_any (some ⟨g, 0, none⟩) [x, y, z] 3 w h (by simp)

set_option maxRecDepth 100000 in
set_option maxHeartbeats 4000000 in
theorem vCompare_any (u v : Val) (w : World) : Calls Try.prog 54 #[.agg u.cells.toArray, .agg v.cells.toArray] w fun e w' => e = .returned (.int .i64 (vc u v)) ∧ Below w.heap.size w w' := by
  rw [← vc_orl]
  obtain ⟨uk, ui, ut⟩ := u
  obtain ⟨vk, vi, vt⟩ := v
  rw [show (Val.cells ⟨uk, ui, ut⟩).toArray = #[.int .i64 uk, .int .i64 ui, .string ut] from rfl, show (Val.cells ⟨vk, vi, vt⟩).toArray = #[.int .i64 vk, .int .i64 vi, .string vt] from rfl]
  simp only
  obtain ⟨hx, hy, hbw⟩ := two_boxes w #[.int .i64 uk, .int .i64 ui, .string ut] #[.int .i64 vk, .int .i64 vi, .string vt] 37 37
  have hu0 := hx 0 _ rfl
  have hu1 := hx 1 _ rfl
  have hu2 := hx 2 _ rfl
  have hv0 := hy 0 _ rfl
  have hv1 := hy 1 _ rfl
  have hv2 := hy 2 _ rfl
  clear hx hy
  obtain ⟨Z1, hZ1⟩ : ∃ Z, Hid (ic uk vk = Z) := ⟨_, rfl⟩
  obtain ⟨Z2, hZ2⟩ : ∃ Z, Hid (ic ui vi = Z) := ⟨_, rfl⟩
  obtain ⟨Z3, hZ3⟩ : ∃ Z, Hid (bc ut.data.toList vt.data.toList = Z) := ⟨_, rfl⟩
  rw [hZ1.out, hZ2.out, hZ3.out]
  have hd := box_cs (((w.alloc (.cells #[.int .i64 uk, .int .i64 ui, .string ut] 37)).alloc (.cells #[.int .i64 vk, .int .i64 vi, .string vt] 37)).drew) #[.int .i64 Z1, .int .i64 Z2, .int .i64 Z3] 3
  rw [show (((w.alloc (.cells #[.int .i64 uk, .int .i64 ui, .string ut] 37)).alloc (.cells #[.int .i64 vk, .int .i64 vi, .string vt] 37)).drew).heap.size = w.heap.size + 1 + 1 from by show ((w.alloc _).alloc _).heap.size = _; rw [World.size_alloc, World.size_alloc]] at hd
  have HD := Lib.hid hd
  clear hd
  go_enter Try.func54, Try.ntmps54
  go_wp2_with fail
  go_region_held3 (fun w' => w'.cell? ⟨w.heap.size, 0, none⟩ = some (.int .i64 uk) ∧ w'.cell? ⟨w.heap.size, 1, none⟩ = some (.int .i64 ui) ∧ w'.cell? ⟨w.heap.size, 2, none⟩ = some (.string ut) ∧ w'.cell? ⟨w.heap.size + 1, 0, none⟩ = some (.int .i64 vk) ∧ w'.cell? ⟨w.heap.size + 1, 1, none⟩ = some (.int .i64 vi) ∧ w'.cell? ⟨w.heap.size + 1, 2, none⟩ = some (.string vt))
    (first | exact ⟨hu0, hu1, hu2, hv0, hv1, hv2⟩ | assumption | (go_split_ands; refine ⟨?_, ?_, ?_, ?_, ?_, ?_⟩ <;> exact cell_kept ((Below.refl _ _).alloc (Nat.le_refl _) _) (by assumption)))
    (first
      | (go_at_call 63; refine (cmpInt_any _ _ _).mono ?_; rintro e w1 ⟨rfl, rfl⟩; first | rw [hZ1.out] | rw [hZ2.out])
      | (go_at_call 64; refine (cmpStr_any ut vt _).mono ?_; rintro e w1 ⟨rfl, rfl⟩; rw [hZ3.out])
      | (go_at_call 62; refine (or3_any (w.heap.size + 1 + 1) Z1 Z2 Z3 _ HD.out).mono ?_; rintro e w1 ⟨rfl, rfl⟩))
  go_wp2
  go_ret
  exact ⟨rfl, hbw.alloc hbw.size _⟩

set_option maxRecDepth 100000 in
set_option maxHeartbeats 4000000 in
theorem cmpFunc_any (A : Option Addr) (us : List Val) (c : Nat) (A2 : Option Addr) (vs : List Val) (c2 : Nat) (w : World) (hA : Cs w A (Row Val.cells us)) (hA2 : Cs w A2 (Row Val.cells vs)) (hn1 : us.length ≤ 9223372036854775807) (hn2 : vs.length ≤ 9223372036854775807) :
    Calls Try.prog 53 #[.slice A us.length c, .slice A2 vs.length c2, .func (.func 54) #[] #[]] w fun e w' => e = .returned (.int .i64 (rc us vs)) ∧ Below w.heap.size w w' := by
  obtain ⟨R, hR⟩ : ∃ R, R = rc us vs := ⟨_, rfl⟩
  rw [← hR]
  have HR := Lib.hid hR
  clear hR
  go_enter Try.func53, Try.ntmps53
  go_wp2_with fail
  go_loopw [13] (fun iv wr => ∃ (k : Nat), k ≤ us.length ∧ k ≤ vs.length ∧ iv = .int .i64 k ∧ Hid (rc (us.drop k) (vs.drop k) = R) ∧ Below w.heap.size w wr)
    (fun iv _ => us.length - (intOf iv).toNat)
  case atStart => exact ⟨0, Nat.zero_le _, Nat.zero_le _, rfl, HR.out.symm, Below.refl _ _⟩
  case round =>
    obtain ⟨k, hk, hk2, rfl, hrc, hbr⟩ := hrel
    by_cases hlt : k < us.length
    · obtain ⟨u, hu⟩ : ∃ u, us[k]? = some u := ⟨_, List.getElem?_eq_getElem hlt⟩
      obtain ⟨a, rfl, hc1, hc2, hc3⟩ := val_at (hA.kept hbr) hu
      by_cases hlt2 : k < vs.length
      · obtain ⟨v, hv⟩ : ∃ v, vs[k]? = some v := ⟨_, List.getElem?_eq_getElem hlt2⟩
        have hrb := rc_both hu hv
        rw [hrc.out] at hrb
        obtain ⟨b, rfl, hd1, hd2, hd3⟩ := val_at (hA2.kept hbr) hv
        obtain ⟨Z, hZ⟩ : ∃ Z, Z = vc u v := ⟨_, rfl⟩
        rw [← hZ] at hrb
        obtain ⟨uk, ui, ut⟩ := u
        obtain ⟨vk, vi, vt⟩ := v
        simp only at hc1 hc2 hc3 hd1 hd2 hd3
        have HRB := Lib.hid hrb
        have HZ := Lib.hid hZ
        clear hu hv hrb hZ
        have hd1 := cell_kept ((Below.refl _ _).alloc (Nat.le_refl _) (.cells #[.int .i64 uk, .int .i64 ui, .string ut] 37)) hd1
        have hd2 := cell_kept ((Below.refl _ _).alloc (Nat.le_refl _) (.cells #[.int .i64 uk, .int .i64 ui, .string ut] 37)) hd2
        have hd3 := cell_kept ((Below.refl _ _).alloc (Nat.le_refl _) (.cells #[.int .i64 uk, .int .i64 ui, .string ut] 37)) hd3
        have hge : decide (vs.length ≤ k) = false := by simp; omega
        have hb2 : Below wr.heap.size wr ((wr.alloc (.cells #[.int .i64 uk, .int .i64 ui, .string ut] 37)).alloc (.cells #[.int .i64 vk, .int .i64 vi, .string vt] 37)) := ((Below.refl _ _).alloc (Nat.le_refl _) _).alloc (by simp) _
        go_wp2_with fail
        refine (vCompare_any ⟨uk, ui, ut⟩ ⟨vk, vi, vt⟩ _).mono ?_
        rintro e w1 ⟨rfl, hb1⟩
        rw [← HZ.out]
        by_cases h0 : Z = 0
        · have HR2 : Hid (rc (us.drop (k + 1)) (vs.drop (k + 1)) = R) := by have := HRB.out; rw [if_pos h0] at this; exact this.symm
          subst h0
          go_wp2_with fail
          go_roundw
          case rel => exact ⟨k + 1, by omega, by omega, by go_num, HR2.out, below_join (below_join hbr hb2) hb1⟩
          case measure => simp [intOf]; omega
        · have HR2 : Hid (R = Z) := by have := HRB.out; rw [if_neg h0] at this; exact this
          have n0 : (Z == 0) = false := by simpa using h0
          go_wp2_with fail
          go_ret
          exact ⟨by rw [HR2.out]; rfl, below_join (below_join hbr hb2) hb1⟩
      · obtain rfl : k = vs.length := by omega
        have hr := rc_end (us := us) (vs := vs) (.inr (Nat.le_refl _)) hk hk2
        rw [hrc.out, if_neg (by omega), if_pos hlt] at hr
        have HE := Lib.hid hr
        clear hr
        obtain ⟨uk, ui, ut⟩ := u
        simp only at hc1 hc2 hc3
        clear hu
        go_wp2_with fail
        go_ret
        exact ⟨by rw [HE.out]; rfl, below_join hbr ((Below.refl _ _).alloc (Nat.le_refl _) _)⟩
    · obtain rfl : k = us.length := by omega
      have hr := rc_end (us := us) (vs := vs) (.inl (Nat.le_refl _)) hk hk2
      rw [hrc.out] at hr
      by_cases hlv : us.length < vs.length
      · rw [if_pos hlv] at hr
        have HE := Lib.hid hr
        clear hr
        go_wp2_with fail
        go_ret
        exact ⟨by rw [HE.out]; rfl, hbr⟩
      · rw [if_neg hlv, if_neg (by omega)] at hr
        have HE := Lib.hid hr
        clear hr
        go_wp2_with fail
        go_ret
        exact ⟨by rw [HE.out]; rfl, hbr⟩

theorem tCompare_any (A : Option Addr) (us : List Val) (c : Nat) (A2 : Option Addr) (vs : List Val) (c2 : Nat) (w : World) (hA : Cs w A (Row Val.cells us)) (hA2 : Cs w A2 (Row Val.cells vs)) (hn1 : us.length ≤ 9223372036854775807) (hn2 : vs.length ≤ 9223372036854775807) :
    Calls Try.prog 32 #[.slice A us.length c, .slice A2 vs.length c2] w fun e w' => e = .returned (.int .i64 (rc us vs)) ∧ Below w.heap.size w w' := by
  go_enter Try.func32, Try.ntmps32
  go_wp2_with fail
  refine (cmpFunc_any A us c A2 vs c2 w hA hA2 hn1 hn2).mono ?_
  rintro e w1 ⟨rfl, hb1⟩
  go_wp2
  go_ret
  exact ⟨rfl, hb1⟩

end Go.Proofs.Ytoejegphjlichaa
