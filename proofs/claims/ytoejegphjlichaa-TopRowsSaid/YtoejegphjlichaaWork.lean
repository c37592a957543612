/- The chapter's examples: works() returns true. -/
import Derived.Test.YtoejegphjlichaaKeya
import Derived.Test.YtoejegphjlichaaReda
namespace Go.Proofs.Ytoejegphjlichaa
open Go.RowKit
set_option linter.unusedVariables false

/-- The cells of a box that was just laid. -/
theorem box_cs (w : World) (cs : Array Value) (T : TypeId) : Cs (w.alloc (.cells cs T)) (some ⟨w.heap.size, 0, none⟩) cs.toList := fun j u hj => ⟨_, rfl, World.news_of_block (cs := cs) (t := T) (fr := (0, 0)) (heap_alloc_new w _) j u hj⟩

theorem pI_m1 : pI (-1) = [1] := grp_small (by decide)
theorem pI_63 : pI 63 = [126] := grp_small (by decide)
theorem pI_64 : pI 64 = [128, 1] := by
  show grp 128 = _
  rw [grp_big (by decide)]
  show _ :: grp 1 = _
  rw [grp_small (by decide)]
  rfl
theorem pI_2 : pI 2 = [4] := grp_small (by decide)

theorem equal_any (A : Option Addr) (l : List UInt8) (c : Nat) (A2 : Option Addr) (m : List UInt8) (c2 : Nat) (w : World) (hA : Cs w A (B l)) (hA2 : Cs w A2 (B m)) :
    Calls Try.prog 14 #[.slice A l.length c, .slice A2 m.length c2] w fun e w' => e = .returned (.bool (l == m)) ∧ w = w' := by
  have h1 := run_string hA 22 9 5 Try.underlying22 Try.underlying5 Try.underlying9 c
  have h2 := run_string hA2 22 9 5 Try.underlying22 Try.underlying5 Try.underlying9 c2
  go_enter Try.func14, Try.ntmps14
  go_wp2
  go_ret
  exact ⟨by simp, rfl⟩

set_option maxRecDepth 100000 in
set_option maxHeartbeats 2000000 in
theorem works_any (w : World) : Calls Try.prog 17 #[] w fun e w' => e = .returned (.bool true) ∧ Below w.heap.size w w' := by
  have hb0 : Below w.heap.size w (w.alloc (.cells #[.int .u8 9] 5)) := (Below.refl _ _).alloc (Nat.le_refl _) _
  have hc0 : Cs (w.alloc (.cells #[.int .u8 9] 5)) (some ⟨w.heap.size, 0, none⟩) (B [9]) := fun j u hj => ⟨_, rfl, World.news_of_block (cs := #[.int .u8 9]) (t := 5) (fr := (0, 0)) (heap_alloc_new w _) j u hj⟩
  go_enter Try.func17, Try.ntmps17
  go_wp2_with fail
  refine (PutInt_any _ [9] _ (-1) _ (by decide) (by decide) hc0 (by decide) (by decide) (by decide)).mono ?_
  rintro e w1 ⟨v1, rfl, ho1, hb1⟩
  rw [pI_m1] at ho1
  obtain ⟨A1, c1, rfl, hl1, hm1, hC1⟩ := ho1.cs
  go_wp2_with fail
  refine (PutInt_any _ [9, 1] _ 63 _ (by decide) (by decide) hC1 hl1 hm1 (by decide)).mono ?_
  rintro e w2 ⟨v2, rfl, ho2, hb2⟩
  rw [pI_63] at ho2
  obtain ⟨A2, c2, rfl, hl2, hm2, hC2⟩ := ho2.cs
  go_wp2_with fail
  refine (PutInt_any _ [9, 1, 126] _ 64 _ (by decide) (by decide) hC2 hl2 hm2 (by decide)).mono ?_
  rintro e w3 ⟨v3, rfl, ho3, hb3⟩
  rw [pI_64] at ho3
  obtain ⟨A3, c3, rfl, hl3, hm3, hC3⟩ := ho3.cs
  go_wp2_with fail
  refine (PutValue_any none [] 0 ⟨2, 0, ⟨#[97, 98]⟩⟩ _ ⟨by decide, by decide, by decide, by decide, by decide⟩ (Cs.nil _ _) (by decide) (by decide) (by decide)).mono ?_
  rintro e w4 ⟨v4, rfl, ho4, hb4⟩
  have e4 : [] ++ pV ⟨2, 0, ⟨#[97, 98]⟩⟩ = [2, 4, 97, 98] := by
    show 2 :: (pI 2 ++ [97, 98]) = _
    rw [pI_2]
    rfl
  rw [e4] at ho4
  clear e4
  obtain ⟨A4, c4, rfl, hl4, hm4, hC4⟩ := ho4.cs
  have hd5 := box_cs w4 #[.int .u8 128, .int .u8 0] 5
  go_wp2_with fail
  refine (Int_any _ [128, 0] _ 0 _ hd5 (by decide) (by decide)).mono ?_
  rintro e w5 ⟨hr5, rfl⟩
  have e5 : dI [128, 0] 0 = (0, 0, 1) := by rfl
  rw [e5] at hr5
  clear e5
  unfold Ret3 at hr5
  subst hr5
  have hd6 := box_cs (w4.alloc (.cells #[.int .u8 128, .int .u8 0] 5)) #[.int .u8 128] 5
  rw [World.size_alloc] at hd6
  go_wp2_with fail
  refine (Int_any _ [128] _ 0 _ hd6 (by decide) (by decide)).mono ?_
  rintro e w6 ⟨hr6, rfl⟩
  have e6 : dI [128] 0 = (0, 0, 2) := by rfl
  rw [e6] at hr6
  clear e6
  unfold Ret3 at hr6
  subst hr6
  go_wp2_with fail
  refine (Int_any A3 [9, 1, 126, 128, 1] c3 2 _ (((hC3.kept hb4).alloc _).alloc _) hl3 hm3).mono ?_
  rintro e w7 ⟨hr7, rfl⟩
  have e7 : dI [9, 1, 126, 128, 1] 2 = (63, 3, 0) := by rfl
  rw [e7] at hr7
  clear e7
  unfold Ret3 at hr7
  subst hr7
  have hd8 := box_cs ((w4.alloc (.cells #[.int .u8 128, .int .u8 0] 5)).alloc (.cells #[.int .u8 128] 5)) #[.int .i64 1, .int .i64 (-1), .string ⟨#[]⟩, .int .i64 2, .int .i64 0, .string ⟨#[97]⟩] 37
  rw [World.size_alloc, World.size_alloc] at hd8
  go_wp2_with fail
  refine (Key_any _ [⟨1, -1, ⟨#[]⟩⟩, ⟨2, 0, ⟨#[97]⟩⟩] _ _ (by intro v hv; simp at hv; rcases hv with rfl | rfl <;> exact ⟨by decide, by decide, by decide, by decide, by decide⟩) hd8 (by decide) (by decide)).mono ?_
  rintro e w8 ⟨v8, rfl, ho8, hb8⟩
  have e8 : kR [⟨1, -1, ⟨#[]⟩⟩, ⟨2, 0, ⟨#[97]⟩⟩] = [2, 127, 255, 255, 255, 255, 255, 255, 255, 3, 97, 0] := by decide
  rw [e8] at ho8
  clear e8
  obtain ⟨A8, c8, rfl, hl8, hm8, hC8⟩ := ho8.cs
  have hC3' := ((((hC3.kept hb4).alloc _).alloc _).alloc _).kept hb8
  have hC4' := (((hC4.alloc _).alloc _).alloc _).kept hb8
  have hs3 : (convert 22 9 (.slice A3 5 c3)).run Try.prog w8 = .ok (.string ⟨#[9, 1, 126, 128, 1]⟩) w8 := run_string hC3' 22 9 5 Try.underlying22 Try.underlying5 Try.underlying9 c3
  have hs4 : (convert 22 9 (.slice A4 4 c4)).run Try.prog w8 = .ok (.string ⟨#[2, 4, 97, 98]⟩) w8 := run_string hC4' 22 9 5 Try.underlying22 Try.underlying5 Try.underlying9 c4
  have hs8 : (convert 22 9 (.slice A8 12 c8)).run Try.prog w8 = .ok (.string ⟨#[2, 127, 255, 255, 255, 255, 255, 255, 255, 3, 97, 0]⟩) w8 := run_string hC8 22 9 5 Try.underlying22 Try.underlying5 Try.underlying9 c8
  go_wp2
  go_ret
  refine ⟨rfl, ?_⟩
  exact below_join (below_join (below_join (below_join (below_join hb0 hb1) hb2) hb3) hb4) (((((Below.refl w4.heap.size w4).alloc (Nat.le_refl _) _).alloc (by simp) _).alloc (by simp; omega) _).trans (hb8.mono (by simp; omega)))

end Go.Proofs.Ytoejegphjlichaa
