/- The contracts of the references' Printable, Valid, Compare, Equal (layers 7 and 8), and of the law's short and order. -/
import Derived.Test.YtoejegphjlichaaCmpa
import Derived.Test.YtoejegphjlichaaValb
namespace Go.Proofs.Ytoejegphjlichaa
open Go.RowKit
set_option linter.unusedVariables false
set_option linter.unusedSimpArgs false

set_option maxRecDepth 100000 in
set_option maxHeartbeats 1000000 in
theorem R7Printable_any (s : ByteArray) (w : World) (hs : s.size ≤ maxLen) :
    Calls Try.prog 65 #[.string s] w fun e w' => e = .returned (.bool (pr s.data.toList)) ∧ w = w' := by
  unfold maxLen at hs
  have es : s.size = s.data.toList.length := by rw [Array.length_toList]; rfl
  have ES := Lib.hid es
  clear es
  obtain ⟨R, hR⟩ : ∃ R, R = pr s.data.toList := ⟨_, rfl⟩
  have HR := Lib.hid hR
  rw [← hR]
  clear hR
  go_enter Try.func65, Try.ntmps65
  go_wp2
  go_loop [3] (fun i => ∃ k : Nat, k ≤ s.size ∧ i = .int .i64 k ∧ Hid (pr (s.data.toList.take k) = true)) (fun i => s.size - (intOf i).toNat)
  case atStart => exact ⟨0, Nat.zero_le _, rfl, rfl⟩
  case round =>
    obtain ⟨k, hk, rfl, hp⟩ := hrel
    by_cases hlt : k < s.size
    · have hkl : k < s.data.toList.length := by rw [← ES.out]; exact hlt
      have hb : s.data.toList[k]'hkl = s[k]'hlt := by rw [Array.getElem_toList]; rfl
      have hstep := pr_step hkl hp.out
      have hbad := pr_bad hkl
      rw [hb] at hstep hbad
      have HST := Lib.hid hstep
      have HBD := Lib.hid hbad
      clear hstep hbad hb
      rcases Int.lt_or_le (s[k].toNat : Int) 32 with h1 | h1
      rotate_left
      · rcases Int.lt_or_le 126 (s[k].toNat : Int) with h2 | h2
        rotate_left
        · have hb : prB s[k] = true := by unfold prB; simp; omega
          have hst := HST.out hb
          have HS2 := Lib.hid hst
          clear hst hb
          go_wp2
          go_round
          case rel => exact ⟨k + 1, by omega, by go_num, HS2.out⟩
          case measure => simp [intOf]; omega
        · have hb : prB s[k] = false := by unfold prB; simp; omega
          have hst := HBD.out hb
          have HS2 := Lib.hid hst
          clear hst hb
          go_wp2
          go_ret
          exact ⟨by rw [HR.out, HS2.out]; rfl, rfl⟩
      · have hb : prB s[k] = false := by unfold prB; simp; omega
        have hst := HBD.out hb
        have HS2 := Lib.hid hst
        clear hst hb
        go_wp2
        go_ret
        exact ⟨by rw [HR.out, HS2.out]; rfl, rfl⟩
    · have hr : R = true := by
        have h1 := hp.out
        have h2 := ES.out
        rw [HR.out]
        rwa [List.take_of_length_le (by omega)] at h1
      have HRR := Lib.hid hr
      clear hr
      go_wp2
      go_ret
      exact ⟨by rw [HRR.out]; rfl, rfl⟩

set_option maxRecDepth 100000 in
set_option maxHeartbeats 2000000 in
theorem R7Valid_any (v : Val) (w : World) (hs : v.text.size ≤ maxLen) :
    Calls Try.prog 55 #[.agg v.cells.toArray] w fun e w' => e = .returned (.bool (vV v)) ∧ Below w.heap.size w w' := by
  have hbb : Below w.heap.size w (w.alloc (.cells v.cells.toArray 37)) := (Below.refl _ _).alloc (Nat.le_refl _) _
  obtain ⟨R, hR⟩ : ∃ R, R = vV v := ⟨_, rfl⟩
  rw [← hR]
  have HR := Lib.hid hR
  clear hR
  obtain ⟨k, n, s⟩ := v
  have hE : (s.toList = []) = (s.data = #[]) := by rw [ByteArray.toList_eq]; simp
  have HE := Lib.hid hE
  clear hE
  have hs9 : s.size ≤ 9223372036854775807 := by simp only at hs; unfold maxLen at hs; omega
  have HR0 := HR
  clear HR
  rw [show (Val.cells ⟨k, n, s⟩).toArray = #[.int .i64 k, .int .i64 n, .string s] from rfl] at hbb ⊢
  have HR := HR0
  clear HR0
  by_cases k0 : k = 0
  · subst k0
    go_enter Try.func55, Try.ntmps55
    go_wp2
    all_goals (go_ret; exact ⟨by rw [HR.out]; have hE := HE.out; first | (simp [vV, ByteArray.toList_eq, *]; done) | (simp [vV, ByteArray.toList_eq, *]; intros; omega) | (simp only [HE.out] at *; simp [vV, *]; done) | (simp only [HE.out] at *; simp [vV, *]; intros; omega), (Below.refl _ _).alloc (Nat.le_refl _) _⟩)
  · by_cases k1 : k = 1
    · subst k1
      go_enter Try.func55, Try.ntmps55
      go_wp2
      all_goals (go_ret; exact ⟨by rw [HR.out]; have hE := HE.out; first | (simp [vV, ByteArray.toList_eq, *]; done) | (simp [vV, ByteArray.toList_eq, *]; intros; omega) | (simp only [HE.out] at *; simp [vV, *]; done) | (simp only [HE.out] at *; simp [vV, *]; intros; omega), (Below.refl _ _).alloc (Nat.le_refl _) _⟩)
    · by_cases k2 : k = 2
      · subst k2
        go_enter Try.func55, Try.ntmps55
        go_wp2_with (go_at_call 65; refine (R7Printable_any s _ hs).mono ?_; rintro e w' ⟨rfl, rfl⟩)
        all_goals (go_ret; exact ⟨by rw [HR.out]; have hE := HE.out; first | (simp [vV, ByteArray.toList_eq, *]; done) | (simp [vV, ByteArray.toList_eq, *]; intros; omega) | (simp only [HE.out] at *; simp [vV, *]; done) | (simp only [HE.out] at *; simp [vV, *]; intros; omega), (Below.refl _ _).alloc (Nat.le_refl _) _⟩)
      · by_cases k3 : k = 3
        · subst k3
          go_enter Try.func55, Try.ntmps55
          go_wp2
          all_goals (go_ret; exact ⟨by rw [HR.out]; have hE := HE.out; first | (simp [vV, ByteArray.toList_eq, *]; done) | (simp [vV, ByteArray.toList_eq, *]; intros; omega) | (simp only [HE.out] at *; simp [vV, *]; done) | (simp only [HE.out] at *; simp [vV, *]; intros; omega), (Below.refl _ _).alloc (Nat.le_refl _) _⟩)
        · have t0 : (k == 0) = false := by simpa using k0
          have t1 : (k == 1) = false := by simpa using k1
          have t2 : (k == 2) = false := by simpa using k2
          have t3 : (k == 3) = false := by simpa using k3
          go_enter Try.func55, Try.ntmps55
          go_wp2
          all_goals (go_ret; exact ⟨by rw [HR.out]; have hE := HE.out; first | (simp [vV, ByteArray.toList_eq, *]; done) | (simp [vV, ByteArray.toList_eq, *]; intros; omega) | (simp only [HE.out] at *; simp [vV, *]; done) | (simp only [HE.out] at *; simp [vV, *]; intros; omega), (Below.refl _ _).alloc (Nat.le_refl _) _⟩)

theorem sign_any (p q : Bool) (w : World) : Calls Try.prog 71 #[.bool p, .bool q] w fun e w' => e = .returned (.int .i64 (if p then -1 else if q then 1 else 0)) ∧ w = w' := by
  cases p <;> cases q <;> (go_enter Try.func71, Try.ntmps71; go_wp2; go_ret; exact ⟨rfl, rfl⟩)

set_option maxRecDepth 100000 in
set_option maxHeartbeats 1000000 in
theorem R7Compare_any (u v : Val) (w : World) : Calls Try.prog 67 #[.agg u.cells.toArray, .agg v.cells.toArray] w fun e w' => e = .returned (.int .i64 (vc u v)) ∧ Below w.heap.size w w' := by
  obtain ⟨uk, ui, ut⟩ := u
  obtain ⟨vk, vi, vt⟩ := v
  rw [show (Val.cells ⟨uk, ui, ut⟩).toArray = #[.int .i64 uk, .int .i64 ui, .string ut] from rfl, show (Val.cells ⟨vk, vi, vt⟩).toArray = #[.int .i64 vk, .int .i64 vi, .string vt] from rfl]
  obtain ⟨hx, hy, hbw⟩ := two_boxes w #[.int .i64 uk, .int .i64 ui, .string ut] #[.int .i64 vk, .int .i64 vi, .string vt] 37 37
  clear hx hy
  have hbw : Below w.heap.size w ((w.alloc (.cells #[.int .i64 uk, .int .i64 ui, .string ut] 37)).alloc (.cells #[.int .i64 vk, .int .i64 vi, .string vt] 37)) := ((Below.refl _ _).alloc (Nat.le_refl _) _).alloc (by simp) _
  rcases Int.lt_trichotomy uk vk with g1 | g1 | g1
  · have HV : Hid (vc ⟨uk, ui, ut⟩ ⟨vk, vi, vt⟩ = -1) := by unfold Hid; simp [vc, g1]
    rw [HV.out]
    have n1 : (uk == vk) = false := by simp; omega
    have n2 : decide (vk < uk) = false := by simp; omega
    go_enter Try.func67, Try.ntmps67
    go_wp2_with fail
    refine (sign_any _ _ _).mono ?_
    rintro e w1 ⟨rfl, rfl⟩
    go_wp2
    go_ret
    exact ⟨by simp [*], hbw⟩
  · subst g1
    rcases Int.lt_trichotomy ui vi with g2 | g2 | g2
    · have HV : Hid (vc ⟨uk, ui, ut⟩ ⟨uk, vi, vt⟩ = -1) := by unfold Hid; simp [vc, g2]
      rw [HV.out]
      have n1 : (ui == vi) = false := by simp; omega
      have n2 : decide (vi < ui) = false := by simp; omega
      go_enter Try.func67, Try.ntmps67
      go_wp2_with fail
      refine (sign_any _ _ _).mono ?_
      rintro e w1 ⟨rfl, rfl⟩
      go_wp2
      go_ret
      exact ⟨by simp [*], hbw⟩
    · subst g2
      have hl := bc_less ut.data.toList vt.data.toList
      have hq := bc_eq ut.data.toList vt.data.toList
      rw [← ByteArray.toList_eq, ← ByteArray.toList_eq] at hl hq
      have hvc : vc ⟨uk, ui, ut⟩ ⟨uk, ui, vt⟩ = bc ut.toList vt.toList := by simp [vc, ByteArray.toList_eq]
      rw [hvc]
      rcases bc_three ut.toList vt.toList with g3 | g3 | g3
      · have hb : Op.bytesLess ut.toList vt.toList = true := by rw [hl, g3]; rfl
        rw [g3]
        clear hl hq hvc g3
        go_enter Try.func67, Try.ntmps67
        go_wp2_with fail
        refine (sign_any _ _ _).mono ?_
        rintro e w1 ⟨rfl, rfl⟩
        go_wp2
        go_ret
        exact ⟨by simp [*], hbw⟩
      · have hb : Op.bytesLess ut.toList vt.toList = false := by rw [hl, g3]; rfl
        have he : (ut.toList == vt.toList) = true := by rw [hq, g3]; rfl
        rw [g3]
        clear hl hq hvc g3
        go_enter Try.func67, Try.ntmps67
        go_wp2_with fail
        refine (sign_any _ _ _).mono ?_
        rintro e w1 ⟨rfl, rfl⟩
        go_wp2
        go_ret
        exact ⟨by simp [*], hbw⟩
      · have hb : Op.bytesLess ut.toList vt.toList = false := by rw [hl, g3]; rfl
        have he : (ut.toList == vt.toList) = false := by rw [hq, g3]; rfl
        rw [g3]
        clear hl hq hvc g3
        go_enter Try.func67, Try.ntmps67
        go_wp2_with fail
        refine (sign_any _ _ _).mono ?_
        rintro e w1 ⟨rfl, rfl⟩
        go_wp2
        go_ret
        exact ⟨by simp [*], hbw⟩
    · have HV : Hid (vc ⟨uk, ui, ut⟩ ⟨uk, vi, vt⟩ = 1) := by unfold Hid; unfold vc; simp only; rw [if_neg (by omega), if_neg (by omega), if_neg (by omega), if_pos g2]
      rw [HV.out]
      have n1 : (ui == vi) = false := by simp; omega
      have n2 : decide (ui < vi) = false := by simp; omega
      go_enter Try.func67, Try.ntmps67
      go_wp2_with fail
      refine (sign_any _ _ _).mono ?_
      rintro e w1 ⟨rfl, rfl⟩
      go_wp2
      go_ret
      exact ⟨by simp [*], hbw⟩
  · have HV : Hid (vc ⟨uk, ui, ut⟩ ⟨vk, vi, vt⟩ = 1) := by unfold Hid; unfold vc; simp only; rw [if_neg (by omega), if_pos g1]
    rw [HV.out]
    have n1 : (uk == vk) = false := by simp; omega
    have n2 : decide (uk < vk) = false := by simp; omega
    go_enter Try.func67, Try.ntmps67
    go_wp2_with fail
    refine (sign_any _ _ _).mono ?_
    rintro e w1 ⟨rfl, rfl⟩
    go_wp2
    go_ret
    exact ⟨by simp [*], hbw⟩

set_option maxRecDepth 100000 in
set_option maxHeartbeats 2000000 in
theorem R8Compare_any (A : Option Addr) (us : List Val) (c : Nat) (A2 : Option Addr) (vs : List Val) (c2 : Nat) (w : World) (hA : Cs w A (Row Val.cells us)) (hA2 : Cs w A2 (Row Val.cells vs)) (hn1 : us.length ≤ 9223372036854775807) (hn2 : vs.length ≤ 9223372036854775807) :
    Calls Try.prog 59 #[.slice A us.length c, .slice A2 vs.length c2] w fun e w' => e = .returned (.int .i64 (rc us vs)) ∧ Below w.heap.size w w' := by
  obtain ⟨R, hR⟩ : ∃ R, R = rc us vs := ⟨_, rfl⟩
  rw [← hR]
  have HR := Lib.hid hR
  clear hR
  go_enter Try.func59, Try.ntmps59
  go_wp2_with fail
  go_loopw [5] (fun iv wr => ∃ (k : Nat), k ≤ us.length ∧ k ≤ vs.length ∧ iv = .int .i64 k ∧ Hid (rc (us.drop k) (vs.drop k) = R) ∧ Below w.heap.size w wr)
    (fun iv _ => us.length - (intOf iv).toNat)
  case atStart => exact ⟨0, Nat.zero_le _, Nat.zero_le _, rfl, HR.out.symm, Below.refl _ _⟩
  case round =>
    obtain ⟨k, hk, hk2, rfl, hrc, hbr⟩ := hrel
    by_cases hlt : k < us.length
    · by_cases hlt2 : k < vs.length
      · obtain ⟨u, hu⟩ : ∃ u, us[k]? = some u := ⟨_, List.getElem?_eq_getElem hlt⟩
        obtain ⟨v, hv⟩ : ∃ v, vs[k]? = some v := ⟨_, List.getElem?_eq_getElem hlt2⟩
        have hrb := rc_both hu hv
        rw [hrc.out] at hrb
        obtain ⟨a, rfl, hc1, hc2, hc3⟩ := val_at (hA.kept hbr) hu
        obtain ⟨b, rfl, hd1, hd2, hd3⟩ := val_at (hA2.kept hbr) hv
        obtain ⟨Z, hZ⟩ : ∃ Z, Z = vc u v := ⟨_, rfl⟩
        rw [← hZ] at hrb
        have HRB := Lib.hid hrb
        have HZ := Lib.hid hZ
        clear hu hv hrb hZ
        by_cases h0 : Z = 0
        · have HR2 : Hid (rc (us.drop (k + 1)) (vs.drop (k + 1)) = R) := by have := HRB.out; rw [if_pos h0] at this; exact this.symm
          go_wp2_with fail
          go_region_held3 (fun w' => w'.cell? (a.add (k * 3)) = some (.int .i64 u.kind) ∧ w'.cell? ⟨(a.add (k * 3)).block, (a.add (k * 3)).off + 1, none⟩ = some (.int .i64 u.int) ∧ w'.cell? ⟨(a.add (k * 3)).block, (a.add (k * 3)).off + 2, none⟩ = some (.string u.text) ∧ w'.cell? (b.add (k * 3)) = some (.int .i64 v.kind) ∧ w'.cell? ⟨(b.add (k * 3)).block, (b.add (k * 3)).off + 1, none⟩ = some (.int .i64 v.int) ∧ w'.cell? ⟨(b.add (k * 3)).block, (b.add (k * 3)).off + 2, none⟩ = some (.string v.text))
            (first | exact ⟨hc1, hc2, hc3, hd1, hd2, hd3⟩ | assumption | (go_split_ands; refine ⟨?_, ?_, ?_, ?_, ?_, ?_⟩ <;> exact cell_kept hb1 (by assumption)))
            (first | (go_at_call 67; refine (R7Compare_any u v _).mono ?_; rintro e w1 ⟨rfl, hb1⟩; rw [← HZ.out]))
          go_wp2_with fail
          go_roundw
          case rel => exact ⟨k + 1, by omega, by omega, by go_num, HR2.out, below_join hbr.drew hb1⟩
          case measure => simp [intOf]; omega
        · have HR2 : Hid (R = Z) := by have := HRB.out; rw [if_neg h0] at this; exact this
          have n0 : (Z == 0) = false := by simpa using h0
          go_wp2_with fail
          go_region_held3 (fun w' => w'.cell? (a.add (k * 3)) = some (.int .i64 u.kind) ∧ w'.cell? ⟨(a.add (k * 3)).block, (a.add (k * 3)).off + 1, none⟩ = some (.int .i64 u.int) ∧ w'.cell? ⟨(a.add (k * 3)).block, (a.add (k * 3)).off + 2, none⟩ = some (.string u.text) ∧ w'.cell? (b.add (k * 3)) = some (.int .i64 v.kind) ∧ w'.cell? ⟨(b.add (k * 3)).block, (b.add (k * 3)).off + 1, none⟩ = some (.int .i64 v.int) ∧ w'.cell? ⟨(b.add (k * 3)).block, (b.add (k * 3)).off + 2, none⟩ = some (.string v.text))
            (first | exact ⟨hc1, hc2, hc3, hd1, hd2, hd3⟩ | assumption | (go_split_ands; refine ⟨?_, ?_, ?_, ?_, ?_, ?_⟩ <;> exact cell_kept hb1 (by assumption)))
            (first | (go_at_call 67; refine (R7Compare_any u v _).mono ?_; rintro e w1 ⟨rfl, hb1⟩; rw [← HZ.out]))
          go_wp2_with fail
          go_ret
          exact ⟨by rw [HR2.out]; rfl, below_join hbr.drew hb1⟩
      · obtain rfl : k = vs.length := by omega
        have hr := rc_end (us := us) (vs := vs) (.inr (Nat.le_refl _)) hk hk2
        rw [hrc.out, if_neg (by omega), if_pos hlt] at hr
        have HE := Lib.hid hr
        clear hr
        go_wp2_with fail
        go_ret
        exact ⟨by rw [HE.out]; rfl, hbr⟩
    · obtain rfl : k = us.length := by omega
      have hr := rc_end (us := us) (vs := vs) (.inl (Nat.le_refl _)) hk hk2
      rw [hrc.out] at hr
      by_cases hlv : us.length < vs.length
      · rw [if_pos hlv] at hr
        have HE := Lib.hid hr
        clear hr
        go_wp2_with fail
        go_ret
        exact ⟨by rw [HE.out]; rfl, hbr⟩
      · rw [if_neg hlv, if_neg (by omega)] at hr
        have HE := Lib.hid hr
        clear hr
        go_wp2_with fail
        go_ret
        exact ⟨by rw [HE.out]; rfl, hbr⟩

theorem vc_self (v : Val) : vc v v = 0 := by unfold vc; rw [if_neg (by omega), if_neg (by omega), if_neg (by omega), if_neg (by omega), bc_self]
theorem rc_self : ∀ vs : List Val, rc vs vs = 0
  | [] => rfl
  | v :: vs => by show (if vc v v = 0 then rc vs vs else vc v v) = 0; rw [vc_self, if_pos rfl, rc_self vs]

theorem R8Equal_same (A : Option Addr) (vs : List Val) (c : Nat) (A2 : Option Addr) (c2 : Nat) (w : World) (hA : Cs w A (Row Val.cells vs)) (hA2 : Cs w A2 (Row Val.cells vs)) (hn : vs.length ≤ 9223372036854775807) :
    Calls Try.prog 38 #[.slice A vs.length c, .slice A2 vs.length c2] w fun e w' => e = .returned (.bool true) ∧ Below w.heap.size w w' := by
  go_enter Try.func38, Try.ntmps38
  go_wp2_with fail
  refine (R8Compare_any A vs c A2 vs c2 w hA hA2 hn hn).mono ?_
  rintro e w1 ⟨rfl, hb1⟩
  rw [rc_self]
  go_wp2
  go_ret
  exact ⟨rfl, hb1⟩

set_option maxRecDepth 100000 in
set_option maxHeartbeats 2000000 in
theorem short_any (A : Option Addr) (vs : List Val) (c : Nat) (w : World) (hA : Cs w A (Row Val.cells vs)) (hs : ∀ v ∈ vs, v.text.size ≤ maxLen) (hn : vs.length ≤ 140737488355328) :
    Calls Try.prog 33 #[.slice A vs.length c] w fun e w' => e = .returned (.bool (vRow vs)) ∧ Below w.heap.size w w' := by
  have hn' : vs.length ≤ 9223372036854775807 := by omega
  have HS := Lib.hid hs
  clear hs
  obtain ⟨R, hR⟩ : ∃ R, R = vRow vs := ⟨_, rfl⟩
  rw [← hR]
  have HR := Lib.hid hR
  clear hR
  by_cases h12 : vs.length ≤ 12
  · have g12 : decide ((12 : Int) < (vs.length : Int)) = false := by simp; omega
    have HR1 : Hid (R = vs.all vV) := by unfold Hid; rw [HR.out]; simp [vRow, h12]
    go_enter Try.func33, Try.ntmps33
    go_wp2_with fail
    go_loopw [3] (fun iv wr => ∃ (k : Nat), k ≤ vs.length ∧ iv = .int .i64 k ∧ Hid ((vs.take k).all vV = true) ∧ Below w.heap.size w wr)
      (fun iv _ => vs.length - (intOf iv).toNat)
    case atStart => exact ⟨0, Nat.zero_le _, rfl, rfl, Below.refl _ _⟩
    case round =>
      obtain ⟨k, hk, rfl, hall, hbr⟩ := hrel
      by_cases hlt : k < vs.length
      · obtain ⟨v, hv⟩ : ∃ v, vs[k]? = some v := ⟨_, List.getElem?_eq_getElem hlt⟩
        obtain ⟨a, rfl, hc1, hc2, hc3⟩ := val_at (hA.kept hbr) hv
        have HV := Lib.hid hv
        clear hv
        go_wp2_with fail
        refine (R7Valid_any v _ (HS.out v (List.mem_of_getElem? HV.out))).mono ?_
        rintro e w1 ⟨rfl, hb1⟩
        by_cases hvv : vV v = true
        · have HA2 := Lib.hid (all_step HV.out hall.out hvv)
          rw [hvv]
          go_wp2_with fail
          go_roundw
          case rel => exact ⟨k + 1, by omega, by go_num, HA2.out, below_join hbr hb1⟩
          case measure => simp [intOf]; omega
        · have hvf : vV v = false := by simpa using hvv
          have HA2 := Lib.hid (all_bad HV.out hvf)
          rw [hvf]
          go_wp2_with fail
          go_ret
          exact ⟨by rw [HR1.out, HA2.out]; rfl, below_join hbr hb1⟩
      · obtain rfl : k = vs.length := by omega
        have HA2 : Hid (R = true) := by have := hall.out; rw [List.take_length] at this; unfold Hid; rw [HR1.out, this]
        go_wp2_with fail
        go_ret
        exact ⟨by rw [HA2.out]; rfl, hbr⟩
  · have g12 : ((12 : Int) < (vs.length : Int)) := by omega
    have HR1 : Hid (R = false) := by unfold Hid; rw [HR.out]; simp [vRow, h12]
    go_enter Try.func33, Try.ntmps33
    go_wp2_with fail
    go_ret
    exact ⟨by rw [HR1.out]; rfl, Below.refl _ _⟩

theorem bc_both {x y : List UInt8} {k : Nat} (hx : k < x.length) (hy : k < y.length) : bc (x.drop k) (y.drop k) = if x[k] < y[k] then -1 else if x[k] = y[k] then bc (x.drop (k + 1)) (y.drop (k + 1)) else 1 := by
  rw [List.drop_eq_getElem_cons hx, List.drop_eq_getElem_cons hy]
  rfl
theorem bc_end {us vs : List UInt8} {k : Nat} (h : us.length ≤ k ∨ vs.length ≤ k) (hu : k ≤ us.length) (hv : k ≤ vs.length) : bc (us.drop k) (vs.drop k) = if us.length < vs.length then -1 else if vs.length < us.length then 1 else 0 := by
  rcases h with h | h
  · obtain rfl : k = us.length := by omega
    rw [List.drop_length]
    by_cases h2 : us.length < vs.length
    · rw [List.drop_eq_getElem_cons h2, if_pos h2]
      rfl
    · obtain e : us.length = vs.length := by omega
      rw [e, List.drop_length]
      simp [bc]
  · obtain rfl : k = vs.length := by omega
    rw [List.drop_length]
    by_cases h2 : vs.length < us.length
    · rw [List.drop_eq_getElem_cons h2, if_neg (by omega), if_pos h2]
      rfl
    · obtain e : us.length = vs.length := by omega
      rw [← e, List.drop_length]
      simp [bc]
theorem B_get' {l : List UInt8} {i : Nat} (h : i < l.length) : (B l)[i]? = some (bv l[i]) := by simp [B, h]

set_option maxRecDepth 100000 in
set_option maxHeartbeats 2000000 in
theorem order_any (A : Option Addr) (us : List UInt8) (c : Nat) (A2 : Option Addr) (vs : List UInt8) (c2 : Nat) (w : World) (hA : Cs w A (B us)) (hA2 : Cs w A2 (B vs)) (hn1 : us.length ≤ 9223372036854775807) (hn2 : vs.length ≤ 9223372036854775807) :
    Calls Try.prog 34 #[.slice A us.length c, .slice A2 vs.length c2] w fun e w' => e = .returned (.int .i64 (bc us vs)) ∧ Below w.heap.size w w' := by
  obtain ⟨R, hR⟩ : ∃ R, R = bc us vs := ⟨_, rfl⟩
  rw [← hR]
  have HR := Lib.hid hR
  clear hR
  go_enter Try.func34, Try.ntmps34
  go_wp2_with fail
  go_loopw [5] (fun iv wr => ∃ (k : Nat), k ≤ us.length ∧ k ≤ vs.length ∧ iv = .int .i64 k ∧ Hid (bc (us.drop k) (vs.drop k) = R) ∧ Below w.heap.size w wr)
    (fun iv _ => us.length - (intOf iv).toNat)
  case atStart => exact ⟨0, Nat.zero_le _, Nat.zero_le _, rfl, HR.out.symm, Below.refl _ _⟩
  case round =>
    obtain ⟨k, hk, hk2, rfl, hrc, hbr⟩ := hrel
    by_cases hlt : k < us.length
    · by_cases hlt2 : k < vs.length
      · have hrb := bc_both hlt hlt2
        rw [hrc.out] at hrb
        obtain ⟨a, rfl, hc1⟩ := (hA.kept hbr) k _ (B_get' hlt)
        obtain ⟨b, rfl, hd1⟩ := (hA2.kept hbr) k _ (B_get' hlt2)
        obtain ⟨p, hp⟩ : ∃ p, p = us[k] := ⟨_, rfl⟩
        obtain ⟨q, hq⟩ : ∃ q, q = vs[k] := ⟨_, rfl⟩
        rw [← hp] at hc1 hrb
        rw [← hq] at hd1 hrb
        unfold bv at hc1 hd1
        have HRB := Lib.hid hrb
        clear hrb hp hq
        rcases Nat.lt_trichotomy p.toNat q.toNat with g | g | g
        · have HE : Hid (R = -1) := by unfold Hid; rw [HRB.out, if_pos (UInt8.lt_iff_toNat_lt.mpr g)]
          have g1 : (p.toNat : Int) < (q.toNat : Int) := by omega
          go_wp2_with fail
          go_region
          go_wp2_with fail
          go_ret
          exact ⟨by rw [HE.out]; rfl, hbr.drew⟩
        · obtain rfl := UInt8.toNat_inj.mp g
          have HE : Hid (bc (us.drop (k + 1)) (vs.drop (k + 1)) = R) := by unfold Hid; rw [HRB.out, if_neg (by rw [UInt8.lt_iff_toNat_lt]; omega), if_pos rfl]
          go_wp2_with fail
          go_region
          go_wp2_with fail
          go_region
          go_wp2_with fail
          go_roundw
          case rel => exact ⟨k + 1, by omega, by omega, by go_num, HE.out, hbr.drew.drew⟩
          case measure => simp [intOf]; omega
        · have HE : Hid (R = 1) := by unfold Hid; rw [HRB.out, if_neg (by rw [UInt8.lt_iff_toNat_lt]; omega), if_neg (by intro e; subst e; omega)]
          have g1 : (q.toNat : Int) < (p.toNat : Int) := by omega
          have g2 : decide ((p.toNat : Int) < (q.toNat : Int)) = false := by simp; omega
          go_wp2_with fail
          go_region
          go_wp2_with fail
          go_region
          go_wp2_with fail
          go_ret
          exact ⟨by rw [HE.out]; rfl, hbr.drew.drew⟩
      · obtain rfl : k = vs.length := by omega
        have hr := bc_end (us := us) (vs := vs) (.inr (Nat.le_refl _)) hk hk2
        rw [hrc.out, if_neg (by omega), if_pos hlt] at hr
        have HE := Lib.hid hr
        clear hr
        go_wp2_with fail
        go_ret
        exact ⟨by rw [HE.out]; rfl, hbr⟩
    · obtain rfl : k = us.length := by omega
      have hr := bc_end (us := us) (vs := vs) (.inl (Nat.le_refl _)) hk hk2
      rw [hrc.out] at hr
      by_cases hlv : us.length < vs.length
      · rw [if_pos hlv] at hr
        have HE := Lib.hid hr
        clear hr
        go_wp2_with fail
        go_ret
        exact ⟨by rw [HE.out]; rfl, hbr⟩
      · rw [if_neg hlv, if_neg (by omega)] at hr
        have HE := Lib.hid hr
        clear hr
        go_wp2_with fail
        go_ret
        exact ⟨by rw [HE.out]; rfl, hbr⟩

end Go.Proofs.Ytoejegphjlichaa
