/- The contracts of the law's compare and begins, and of the reference's Compare. -/
import Derived.Test.YtoejegphjlichaaKeyp
import Derived.Test.YtoejegphjlichaaRedg
import Derived.Test.YtoejegphjlichaaWork
namespace Go.Proofs.Ytoejegphjlichaa
open Go.RowKit
set_option linter.unusedVariables false
set_option linter.unusedSimpArgs false

theorem run_to {w : World} (A : Option Addr) (m c i : Nat) (hi : i ≤ c) (hc : (c : Int) ≤ 9223372036854775807) : (Instr.slice 22 (.slice A m c) none (some (.int .i64 i)) none).run Try.prog w = .ok (.slice A i c) w := by
  obtain ⟨i', hi', hz, hs, hb⟩ := info_parts infoByte
  simp [Instr.slice, Instr.sliceBounds, Instr.sliceBound, asIntOf, run_underlying Try.underlying22, sizeOf, typeInfo, hi', hi]
  cases A <;> simp [Addr.add]

set_option maxRecDepth 100000 in
set_option maxHeartbeats 2000000 in
/-- What begins so begins so. -/
theorem begins_yes (A : Option Addr) (p r : List UInt8) (l : List UInt8) (c : Nat) (A2 : Option Addr) (c2 : Nat) (w : World) (hl : Hid (l = p ++ r)) (hA : Cs w A (B l)) (hA2 : Cs w A2 (B p)) (hlc : l.length ≤ c) (hc : c ≤ maxLen) :
    Calls Try.prog 23 #[.slice A l.length c, .slice A2 p.length c2] w fun e w' => e = .returned (.bool true) ∧ Below w.heap.size w w' := by
  have hpl : p.length ≤ l.length := by rw [hl.out, List.length_append]; omega
  have hm9 : (c : Int) ≤ 9223372036854775807 := by unfold maxLen at hc; omega
  have hs := fun w => run_to (w := w) A l.length c p.length (by omega) hm9
  have hCp : Cs w A (B p) := by
    have := hA.take p.length
    rwa [B_take, hl.out, List.take_left] at this
  have hp9 : (p.length : Int) ≤ (l.length : Int) := by omega
  go_enter Try.func23, Try.ntmps23
  go_wp2_with fail
  go_region_held3 (fun w' => (convert 22 9 (.slice A p.length c)).run Try.prog w' = .ok (.string ⟨p.toArray⟩) w' ∧ (convert 22 9 (.slice A2 p.length c2)).run Try.prog w' = .ok (.string ⟨p.toArray⟩) w')
    (first
      | assumption
      | exact ⟨run_string hCp.drew 22 9 5 Try.underlying22 Try.underlying5 Try.underlying9 c, run_string hA2.drew 22 9 5 Try.underlying22 Try.underlying5 Try.underlying9 c2⟩)
    (fail)
  go_wp2
  go_ret
  exact ⟨rfl, (Below.refl _ _).drew⟩

theorem eq_of_bc {x y : List UInt8} (h : bc x y = 0) : x = y := by
  have := bc_eq x y
  rw [h] at this
  simpa using this
theorem bc_ne {x y : List UInt8} (h : bc x y ≠ 0) : ¬ x = y := fun e => by
  subst e
  exact h (bc_self x)

set_option maxRecDepth 100000 in
set_option maxHeartbeats 1000000 in
theorem compare_any (A : Option Addr) (l : List UInt8) (c : Nat) (A2 : Option Addr) (m : List UInt8) (c2 : Nat) (w : World) (hA : Cs w A (B l)) (hA2 : Cs w A2 (B m)) :
    Calls Try.prog 21 #[.slice A l.length c, .slice A2 m.length c2] w fun e w' => e = .returned (.int .i64 (bc l m)) ∧ w = w' := by
  have h1 := run_string hA 22 9 5 Try.underlying22 Try.underlying5 Try.underlying9 c
  have h2 := run_string hA2 22 9 5 Try.underlying22 Try.underlying5 Try.underlying9 c2
  have hl := bc_less l m
  have t1 : (⟨l.toArray⟩ : ByteArray).toList = l := by rw [ByteArray.toList_eq]
  have t2 : (⟨m.toArray⟩ : ByteArray).toList = m := by rw [ByteArray.toList_eq]
  rcases bc_three l m with h | h | h
  · have hb : Op.bytesLess l m = true := by rw [hl, h]; rfl
    rw [h]
    clear hl h
    go_enter Try.func21, Try.ntmps21
    go_wp2
    go_ret
    exact ⟨rfl, rfl⟩
  · have hb : Op.bytesLess l m = false := by rw [hl, h]; rfl
    obtain rfl := eq_of_bc h
    rw [h]
    clear hl h
    go_enter Try.func21, Try.ntmps21
    go_wp2
    go_ret
    exact ⟨rfl, rfl⟩
  · have hb : Op.bytesLess l m = false := by rw [hl, h]; rfl
    have he : (l == m) = false := by rw [bc_eq, h]; rfl
    rw [h]
    clear hl h
    go_enter Try.func21, Try.ntmps21
    go_wp2
    go_ret
    exact ⟨rfl, rfl⟩

/-! ### Compare -/
theorem rc_both {us vs : List Val} {k : Nat} {u v : Val} (hu : us[k]? = some u) (hv : vs[k]? = some v) : rc (us.drop k) (vs.drop k) = if vc u v = 0 then rc (us.drop (k + 1)) (vs.drop (k + 1)) else vc u v := by
  have h1 : us.drop k = u :: us.drop (k + 1) := by
    obtain ⟨h, rfl⟩ := List.getElem?_eq_some_iff.mp hu
    exact List.drop_eq_getElem_cons h
  have h2 : vs.drop k = v :: vs.drop (k + 1) := by
    obtain ⟨h, rfl⟩ := List.getElem?_eq_some_iff.mp hv
    exact List.drop_eq_getElem_cons h
  rw [h1, h2]
  rfl
theorem rc_end {us vs : List Val} {k : Nat} (h : us.length ≤ k ∨ vs.length ≤ k) (hu : k ≤ us.length) (hv : k ≤ vs.length) : rc (us.drop k) (vs.drop k) = if us.length < vs.length then -1 else if vs.length < us.length then 1 else 0 := by
  rcases h with h | h
  · obtain rfl : k = us.length := by omega
    rw [List.drop_length]
    by_cases h2 : us.length < vs.length
    · rw [List.drop_eq_getElem_cons h2, if_pos h2]
      rfl
    · obtain e : us.length = vs.length := by omega
      rw [e, List.drop_length]
      simp [rc]
  · obtain rfl : k = vs.length := by omega
    rw [List.drop_length]
    by_cases h2 : vs.length < us.length
    · rw [List.drop_eq_getElem_cons h2, if_neg (by omega), if_pos h2]
      rfl
    · obtain e : us.length = vs.length := by omega
      rw [← e, List.drop_length]
      simp [rc]

/-- Two boxes that were just laid. -/
theorem two_boxes (wr : World) (cs ds : Array Value) (T T2 : TypeId) : (∀ j u, cs[j]? = some u → (((wr.alloc (.cells cs T)).alloc (.cells ds T2)).drew).cell? ⟨wr.heap.size, j, none⟩ = some u) ∧ (∀ j u, ds[j]? = some u → (((wr.alloc (.cells cs T)).alloc (.cells ds T2)).drew).cell? ⟨wr.heap.size + 1, j, none⟩ = some u) ∧ Below wr.heap.size wr (((wr.alloc (.cells cs T)).alloc (.cells ds T2)).drew) := by
  refine ⟨fun j u h => ?_, fun j u h => ?_, ?_⟩
  · have h1 := blk_cell (blk_new wr (.cells cs T)) h
    exact cell_kept ((Below.refl _ _).alloc (Nat.le_refl _) _).drew h1
  · have h1 := blk_cell (blk_new (wr.alloc (.cells cs T)) (.cells ds T2)) h
    rw [World.size_alloc] at h1
    exact h1
  · exact (((Below.refl _ _).alloc (Nat.le_refl _) _).alloc (by simp) _).drew

set_option maxRecDepth 100000 in
set_option maxHeartbeats 4000000 in
theorem RCompare_any (A : Option Addr) (us : List Val) (c : Nat) (A2 : Option Addr) (vs : List Val) (c2 : Nat) (w : World) (hA : Cs w A (Row Val.cells us)) (hA2 : Cs w A2 (Row Val.cells vs)) (hn1 : us.length ≤ 9223372036854775807) (hn2 : vs.length ≤ 9223372036854775807) :
    Calls Try.prog 22 #[.slice A us.length c, .slice A2 vs.length c2] w fun e w' => e = .returned (.int .i64 (rc us vs)) ∧ Below w.heap.size w w' := by
  obtain ⟨R, hR⟩ : ∃ R, R = rc us vs := ⟨_, rfl⟩
  rw [← hR]
  have HR := Lib.hid hR
  clear hR
  go_enter Try.func22, Try.ntmps22
  go_wp2_with fail
  go_loopw [5] (fun iv wr => ∃ (k : Nat), k ≤ us.length ∧ k ≤ vs.length ∧ iv = .int .i64 k ∧ Hid (rc (us.drop k) (vs.drop k) = R) ∧ Below w.heap.size w wr)
    (fun iv _ => us.length - (intOf iv).toNat)
  case atStart => exact ⟨0, Nat.zero_le _, Nat.zero_le _, rfl, HR.out.symm, Below.refl _ _⟩
  case round =>
    obtain ⟨k, hk, hk2, rfl, hrc, hbr⟩ := hrel
    by_cases hlt : k < us.length
    · by_cases hlt2 : k < vs.length
      · obtain ⟨u, hu⟩ : ∃ u, us[k]? = some u := ⟨_, List.getElem?_eq_getElem hlt⟩
        obtain ⟨v, hv⟩ : ∃ v, vs[k]? = some v := ⟨_, List.getElem?_eq_getElem hlt2⟩
        have hrb := rc_both hu hv
        obtain ⟨a, rfl, hc1, hc2, hc3⟩ := val_at (hA.kept hbr) hu
        obtain ⟨b, rfl, hd1, hd2, hd3⟩ := val_at (hA2.kept hbr) hv
        obtain ⟨uk, ui, ut⟩ := u
        obtain ⟨vk, vi, vt⟩ := v
        simp only at hc1 hc2 hc3 hd1 hd2 hd3
        have HRB := Lib.hid hrb
        clear hu hv hrb
        go_wp2_with fail
        go_region_held3 (fun w' => w'.cell? (a.add (k * 3)) = some (.int .i64 uk) ∧ w'.cell? ⟨(a.add (k * 3)).block, (a.add (k * 3)).off + 1, none⟩ = some (.int .i64 ui) ∧ w'.cell? ⟨(a.add (k * 3)).block, (a.add (k * 3)).off + 2, none⟩ = some (.string ut) ∧ w'.cell? (b.add (k * 3)) = some (.int .i64 vk) ∧ w'.cell? ⟨(b.add (k * 3)).block, (b.add (k * 3)).off + 1, none⟩ = some (.int .i64 vi) ∧ w'.cell? ⟨(b.add (k * 3)).block, (b.add (k * 3)).off + 2, none⟩ = some (.string vt))
          (first
            | exact ⟨hc1, hc2, hc3, hd1, hd2, hd3⟩
            | assumption
            | (go_split_ands; refine ⟨?_, ?_, ?_, ?_, ?_, ?_⟩ <;> exact cell_kept ((Below.refl _ _).alloc (Nat.le_refl _) _) (by with_reducible assumption))
            | (refine ⟨cell_kept ((Below.refl _ _).alloc (Nat.le_refl _) _) hc1, cell_kept ((Below.refl _ _).alloc (Nat.le_refl _) _) hc2, cell_kept ((Below.refl _ _).alloc (Nat.le_refl _) _) hc3, cell_kept ((Below.refl _ _).alloc (Nat.le_refl _) _) hd1, cell_kept ((Below.refl _ _).alloc (Nat.le_refl _) _) hd2, cell_kept ((Below.refl _ _).alloc (Nat.le_refl _) _) hd3⟩)
            | (refine ⟨cell_kept ((Below.refl _ _).alloc (Nat.le_refl _) _) (cell_kept ((Below.refl _ _).alloc (Nat.le_refl _) _) hc1), cell_kept ((Below.refl _ _).alloc (Nat.le_refl _) _) (cell_kept ((Below.refl _ _).alloc (Nat.le_refl _) _) hc2), cell_kept ((Below.refl _ _).alloc (Nat.le_refl _) _) (cell_kept ((Below.refl _ _).alloc (Nat.le_refl _) _) hc3), cell_kept ((Below.refl _ _).alloc (Nat.le_refl _) _) (cell_kept ((Below.refl _ _).alloc (Nat.le_refl _) _) hd1), cell_kept ((Below.refl _ _).alloc (Nat.le_refl _) _) (cell_kept ((Below.refl _ _).alloc (Nat.le_refl _) _) hd2), cell_kept ((Below.refl _ _).alloc (Nat.le_refl _) _) (cell_kept ((Below.refl _ _).alloc (Nat.le_refl _) _) hd3)⟩))
          (fail)
        · obtain ⟨hx, hy, hbw⟩ := two_boxes wr #[.int .i64 uk, .int .i64 ui, .string ut] #[.int .i64 vk, .int .i64 vi, .string vt] 37 37
          have hu0 := hx 0 _ rfl
          have hu1 := hx 1 _ rfl
          have hu2 := hx 2 _ rfl
          have hv0 := hy 0 _ rfl
          have hv1 := hy 1 _ rfl
          have hv2 := hy 2 _ rfl
          clear hx hy hc1 hc2 hc3 hd1 hd2 hd3
          have hbW := below_join hbr hbw
          clear hbw
          revert hu0 hu1 hu2 hv0 hv1 hv2 hbW
          generalize ((wr.alloc (.cells #[.int .i64 uk, .int .i64 ui, .string ut] 37)).alloc (.cells #[.int .i64 vk, .int .i64 vi, .string vt] 37)).drew = W9
          intro hu0 hu1 hu2 hv0 hv1 hv2 hbW
          rw [hrc.out] at HRB
          clear hrc
          rcases Int.lt_trichotomy uk vk with g1 | g1 | g1
          · have HE : Hid (R = -1) := by unfold Hid; rw [HRB.out, show vc ⟨uk, ui, ut⟩ ⟨vk, vi, vt⟩ = -1 from by simp [vc, g1]]; rfl
            go_wp2_with fail
            go_ret
            exact ⟨by rw [HE.out]; rfl, hbW⟩
          · subst g1
            rcases Int.lt_trichotomy ui vi with g2 | g2 | g2
            · have HE : Hid (R = -1) := by unfold Hid; rw [HRB.out, show vc ⟨uk, ui, ut⟩ ⟨uk, vi, vt⟩ = -1 from by simp [vc, g2]]; rfl
              go_wp2_with fail
              go_ret
              exact ⟨by rw [HE.out]; rfl, hbW⟩
            · subst g2
              have hl := bc_less ut.data.toList vt.data.toList
              have hq := bc_eq ut.data.toList vt.data.toList
              rw [← ByteArray.toList_eq, ← ByteArray.toList_eq] at hl hq
              have hvc : vc ⟨uk, ui, ut⟩ ⟨uk, ui, vt⟩ = bc ut.toList vt.toList := by simp [vc, ByteArray.toList_eq]
              rcases bc_three ut.toList vt.toList with g3 | g3 | g3
              · have HE : Hid (R = -1) := by unfold Hid; rw [HRB.out, hvc, g3]; rfl
                have hb : Op.bytesLess ut.toList vt.toList = true := by rw [hl, g3]; rfl
                clear hl hq hvc g3
                go_wp2_with fail
                go_ret
                exact ⟨by rw [HE.out]; rfl, hbW⟩
              · have HE : Hid (rc (us.drop (k + 1)) (vs.drop (k + 1)) = R) := by unfold Hid; rw [HRB.out, hvc, g3]; rfl
                have hb : Op.bytesLess ut.toList vt.toList = false := by rw [hl, g3]; rfl
                have he : (ut.toList == vt.toList) = true := by rw [hq, g3]; rfl
                clear hl hq hvc g3
                go_wp2_with fail
                go_roundw
                case rel => exact ⟨k + 1, by omega, by omega, by go_num, HE.out, hbW⟩
                case measure => simp [intOf]; omega
              · have HE : Hid (R = 1) := by unfold Hid; rw [HRB.out, hvc, g3]; rfl
                have hb : Op.bytesLess ut.toList vt.toList = false := by rw [hl, g3]; rfl
                have he : (ut.toList == vt.toList) = false := by rw [hq, g3]; rfl
                clear hl hq hvc g3
                go_wp2_with fail
                go_ret
                exact ⟨by rw [HE.out]; rfl, hbW⟩
            · have HE : Hid (R = 1) := by unfold Hid; rw [HRB.out, show vc ⟨uk, ui, ut⟩ ⟨uk, vi, vt⟩ = 1 from by unfold vc; simp only; rw [if_neg (by omega), if_neg (by omega), if_neg (by omega), if_pos g2]]; rfl
              have n1 : (ui == vi) = false := by simp; omega
              have n2 : decide (ui < vi) = false := by simp; omega
              go_wp2_with fail
              go_ret
              exact ⟨by rw [HE.out]; rfl, hbW⟩
          · have HE : Hid (R = 1) := by unfold Hid; rw [HRB.out, show vc ⟨uk, ui, ut⟩ ⟨vk, vi, vt⟩ = 1 from by unfold vc; simp only; rw [if_neg (by omega), if_pos g1]]; rfl
            have n1 : (uk == vk) = false := by simp; omega
            have n2 : decide (uk < vk) = false := by simp; omega
            go_wp2_with fail
            go_ret
            exact ⟨by rw [HE.out]; rfl, hbW⟩
        · obtain ⟨hx, hy, hbw⟩ := two_boxes wr #[.int .i64 vk, .int .i64 vi, .string vt] #[.int .i64 uk, .int .i64 ui, .string ut] 37 37
          have hu0 := hy 0 _ rfl
          have hu1 := hy 1 _ rfl
          have hu2 := hy 2 _ rfl
          have hv0 := hx 0 _ rfl
          have hv1 := hx 1 _ rfl
          have hv2 := hx 2 _ rfl
          clear hx hy hc1 hc2 hc3 hd1 hd2 hd3
          have hbW := below_join hbr hbw
          clear hbw
          revert hu0 hu1 hu2 hv0 hv1 hv2 hbW
          generalize ((wr.alloc (.cells #[.int .i64 vk, .int .i64 vi, .string vt] 37)).alloc (.cells #[.int .i64 uk, .int .i64 ui, .string ut] 37)).drew = W9
          intro hu0 hu1 hu2 hv0 hv1 hv2 hbW
          rw [hrc.out] at HRB
          clear hrc
          rcases Int.lt_trichotomy uk vk with g1 | g1 | g1
          · have HE : Hid (R = -1) := by unfold Hid; rw [HRB.out, show vc ⟨uk, ui, ut⟩ ⟨vk, vi, vt⟩ = -1 from by simp [vc, g1]]; rfl
            go_wp2_with fail
            go_ret
            exact ⟨by rw [HE.out]; rfl, hbW⟩
          · subst g1
            rcases Int.lt_trichotomy ui vi with g2 | g2 | g2
            · have HE : Hid (R = -1) := by unfold Hid; rw [HRB.out, show vc ⟨uk, ui, ut⟩ ⟨uk, vi, vt⟩ = -1 from by simp [vc, g2]]; rfl
              go_wp2_with fail
              go_ret
              exact ⟨by rw [HE.out]; rfl, hbW⟩
            · subst g2
              have hl := bc_less ut.data.toList vt.data.toList
              have hq := bc_eq ut.data.toList vt.data.toList
              rw [← ByteArray.toList_eq, ← ByteArray.toList_eq] at hl hq
              have hvc : vc ⟨uk, ui, ut⟩ ⟨uk, ui, vt⟩ = bc ut.toList vt.toList := by simp [vc, ByteArray.toList_eq]
              rcases bc_three ut.toList vt.toList with g3 | g3 | g3
              · have HE : Hid (R = -1) := by unfold Hid; rw [HRB.out, hvc, g3]; rfl
                have hb : Op.bytesLess ut.toList vt.toList = true := by rw [hl, g3]; rfl
                clear hl hq hvc g3
                go_wp2_with fail
                go_ret
                exact ⟨by rw [HE.out]; rfl, hbW⟩
              · have HE : Hid (rc (us.drop (k + 1)) (vs.drop (k + 1)) = R) := by unfold Hid; rw [HRB.out, hvc, g3]; rfl
                have hb : Op.bytesLess ut.toList vt.toList = false := by rw [hl, g3]; rfl
                have he : (ut.toList == vt.toList) = true := by rw [hq, g3]; rfl
                clear hl hq hvc g3
                go_wp2_with fail
                go_roundw
                case rel => exact ⟨k + 1, by omega, by omega, by go_num, HE.out, hbW⟩
                case measure => simp [intOf]; omega
              · have HE : Hid (R = 1) := by unfold Hid; rw [HRB.out, hvc, g3]; rfl
                have hb : Op.bytesLess ut.toList vt.toList = false := by rw [hl, g3]; rfl
                have he : (ut.toList == vt.toList) = false := by rw [hq, g3]; rfl
                clear hl hq hvc g3
                go_wp2_with fail
                go_ret
                exact ⟨by rw [HE.out]; rfl, hbW⟩
            · have HE : Hid (R = 1) := by unfold Hid; rw [HRB.out, show vc ⟨uk, ui, ut⟩ ⟨uk, vi, vt⟩ = 1 from by unfold vc; simp only; rw [if_neg (by omega), if_neg (by omega), if_neg (by omega), if_pos g2]]; rfl
              have n1 : (ui == vi) = false := by simp; omega
              have n2 : decide (ui < vi) = false := by simp; omega
              go_wp2_with fail
              go_ret
              exact ⟨by rw [HE.out]; rfl, hbW⟩
          · have HE : Hid (R = 1) := by unfold Hid; rw [HRB.out, show vc ⟨uk, ui, ut⟩ ⟨vk, vi, vt⟩ = 1 from by unfold vc; simp only; rw [if_neg (by omega), if_pos g1]]; rfl
            have n1 : (uk == vk) = false := by simp; omega
            have n2 : decide (uk < vk) = false := by simp; omega
            go_wp2_with fail
            go_ret
            exact ⟨by rw [HE.out]; rfl, hbW⟩
      · obtain rfl : k = vs.length := by omega
        have hr := rc_end (us := us) (vs := vs) (.inr (Nat.le_refl _)) hk hk2
        rw [hrc.out, if_neg (by omega), if_pos hlt] at hr
        have HE := Lib.hid hr
        clear hr
        go_wp2_with fail
        go_ret
        exact ⟨by rw [HE.out]; rfl, hbr⟩
    · obtain rfl : k = us.length := by omega
      have hr := rc_end (us := us) (vs := vs) (.inl (Nat.le_refl _)) hk hk2
      rw [hrc.out] at hr
      by_cases hlv : us.length < vs.length
      · rw [if_pos hlv] at hr
        have HE := Lib.hid hr
        clear hr
        go_wp2_with fail
        go_ret
        exact ⟨by rw [HE.out]; rfl, hbr⟩
      · rw [if_neg hlv, if_neg (by omega)] at hr
        have HE := Lib.hid hr
        clear hr
        go_wp2_with fail
        go_ret
        exact ⟨by rw [HE.out]; rfl, hbr⟩

end Go.Proofs.Ytoejegphjlichaa
