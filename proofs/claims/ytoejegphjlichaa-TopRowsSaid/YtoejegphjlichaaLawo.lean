/- TopRows: for every two rows of values the law returns true, and the arguments read as before. No condition. -/
import Derived.Test.YtoejegphjlichaaTopa
import Derived.Test.YtoejegphjlichaaTopb
import Derived.Test.YtoejegphjlichaaFram
import Derived.Test.YtoejegphjlichaaOpenv
import Derived.Test.YtoejegphjlichaaPlainb
import Derived.Lib.SmallJoins
namespace Go.Proofs.Ytoejegphjlichaa
open Go.RowKit Go.ChangeShapes Go.WideShapes Go.ChangeAt Go.Joins
set_option linter.unusedVariables false
set_option linter.unusedSimpArgs false

theorem wt_texts {vs : List Val} (h : ∀ v ∈ vs, v.Fits ∧ v.text.size ≤ 200) : wt vs ≤ vs.length * 211 := by
  induction vs with
  | nil => simp [wt]
  | cons x xs ih =>
    have h1 := (h x (by simp)).2
    have h2 := ih (fun v hv => h v (by simp [hv]))
    simp only [wt, List.map_cons, List.sum_cons, List.length_cons] at h2 ⊢
    omega
theorem vV_short {v : Val} (h : vV v = true) : v.text.size ≤ 200 := by
  obtain ⟨k, n, s⟩ := v
  have e : s.size = s.data.toList.length := by rw [Array.length_toList]; rfl
  unfold vV at h
  simp only at h ⊢
  have hz : s.data.toList.isEmpty = true → s.size ≤ 200 := fun h => by
    rw [List.isEmpty_iff] at h
    rw [e, h]
    decide
  split at h
  · simp only [Bool.and_eq_true] at h; exact hz h.2
  · split at h
    · simp only [Bool.and_eq_true] at h; exact hz h.2
    · split at h
      · simp only [Bool.and_eq_true, decide_eq_true_eq] at h; exact h.1.2
      · split at h
        · simp only [Bool.and_eq_true] at h; exact hz h.2
        · cases h
theorem fits_short {vs : List Val} (hr : ∀ v ∈ vs, v.Rough) (h : vs.all vV = true) : ∀ v ∈ vs, v.Fits ∧ v.text.size ≤ 200 := by
  rw [List.all_eq_true] at h
  intro v hv
  have h1 := hr v hv
  have h2 := vV_short (h v hv)
  exact ⟨⟨h1.k1, h1.k2, h1.i1, h1.i2, by omega⟩, h2⟩

theorem vRow_all {vs : List Val} (h : vRow vs = true) : vs.all vV = true ∧ vs.length ≤ 12 := by
  unfold vRow at h
  simpa [Bool.and_eq_true] using h
theorem key_one_len : (kR [⟨1, 1, ⟨#[]⟩⟩]).length = 9 := by decide

set_option maxRecDepth 100000 in
set_option maxHeartbeats 4000000 in
theorem top_no1 (A : Option Addr) (us : List Val) (c : Nat) (A2 : Option Addr) (vs : List Val) (c2 : Nat) (w : World) (hA : Cs w A (Row Val.cells us)) (hA2 : Cs w A2 (Row Val.cells vs)) (hr1 : Hid (∀ v ∈ us, v.Rough)) (hr2 : Hid (∀ v ∈ vs, v.Rough)) (hn1 : us.length ≤ 140737488351232) (hn2 : vs.length ≤ 140737488351232) (hu : vRow us = false) :
    Calls Try.prog 7 #[.slice A us.length c, .slice A2 vs.length c2] w fun e w' => e = .returned (.bool true) ∧ Below w.heap.size w w' := by
  have hone := box_cs w #[.int .i64 1, .int .i64 1, .string ⟨#[]⟩] 37
  have hone : Hid (Cs (w.alloc (.cells #[.int .i64 1, .int .i64 1, .string ⟨#[]⟩] 37)) (some ⟨w.heap.size, 0, none⟩) (Row Val.cells [⟨1, 1, ⟨#[]⟩⟩])) := hone
  have hb0 : Below w.heap.size w (w.alloc (.cells #[.int .i64 1, .int .i64 1, .string ⟨#[]⟩] 37)) := (Below.refl _ _).alloc (Nat.le_refl _) _
  obtain ⟨L0, hL0⟩ : ∃ L, Hid (L = kR [⟨1, 1, ⟨#[]⟩⟩]) := ⟨_, rfl⟩
  have hL9 : L0.length = 9 := by rw [hL0.out]; exact key_one_len
  go_enter Try.func7, Try.ntmps7
  go_wp2_with fail
  refine (tCompare_any none [] 0 (some ⟨w.heap.size, 0, none⟩) [⟨1, 1, ⟨#[]⟩⟩] 1 _ (Cs.nil _ _) hone.out (by simp) (by simp)).mono ?_
  rintro e w1 ⟨rfl, hb1⟩
  rw [show rc [] [(⟨1, 1, ⟨#[]⟩⟩ : Val)] = -1 from rfl]
  go_wp2_with fail
  refine (Key_any (some ⟨w.heap.size, 0, none⟩) [⟨1, 1, ⟨#[]⟩⟩] 1 w1 (by intro v hv; rw [List.mem_singleton] at hv; subst hv; exact ⟨by decide, by decide, by decide, by decide, by decide⟩) (hone.out.kept hb1) (by simp) (by decide)).mono ?_
  rintro e w2 ⟨v2, rfl, ho2, hb2⟩
  rw [← hL0.out] at ho2
  obtain ⟨A3, c3, rfl, hl3, hm3, hC3⟩ := ho2.cs
  have hb02 := below_join (below_join hb0 hb1) hb2
  clear hone hb0 hb1 hb2 ho2 hC3
  have hA := hA.kept hb02
  have hA2 := hA2.kept hb02
  go_wp2_with fail
  refine (short_any A us c w2 hA (fun v hv => (hr1.out v hv).s) (by omega)).mono ?_
  rintro e w3 ⟨rfl, hb3⟩
  rw [hu]
  go_wp2_with fail
  go_ret
  exact ⟨rfl, below_join hb02 hb3⟩

set_option maxRecDepth 100000 in
set_option maxHeartbeats 4000000 in
theorem top_no2 (A : Option Addr) (us : List Val) (c : Nat) (A2 : Option Addr) (vs : List Val) (c2 : Nat) (w : World) (hA : Cs w A (Row Val.cells us)) (hA2 : Cs w A2 (Row Val.cells vs)) (hr1 : Hid (∀ v ∈ us, v.Rough)) (hr2 : Hid (∀ v ∈ vs, v.Rough)) (hn1 : us.length ≤ 140737488351232) (hn2 : vs.length ≤ 140737488351232) (hu : vRow us = true) (hv : vRow vs = false) :
    Calls Try.prog 7 #[.slice A us.length c, .slice A2 vs.length c2] w fun e w' => e = .returned (.bool true) ∧ Below w.heap.size w w' := by
  have hone := box_cs w #[.int .i64 1, .int .i64 1, .string ⟨#[]⟩] 37
  have hone : Hid (Cs (w.alloc (.cells #[.int .i64 1, .int .i64 1, .string ⟨#[]⟩] 37)) (some ⟨w.heap.size, 0, none⟩) (Row Val.cells [⟨1, 1, ⟨#[]⟩⟩])) := hone
  have hb0 : Below w.heap.size w (w.alloc (.cells #[.int .i64 1, .int .i64 1, .string ⟨#[]⟩] 37)) := (Below.refl _ _).alloc (Nat.le_refl _) _
  obtain ⟨L0, hL0⟩ : ∃ L, Hid (L = kR [⟨1, 1, ⟨#[]⟩⟩]) := ⟨_, rfl⟩
  have hL9 : L0.length = 9 := by rw [hL0.out]; exact key_one_len
  go_enter Try.func7, Try.ntmps7
  go_wp2_with fail
  refine (tCompare_any none [] 0 (some ⟨w.heap.size, 0, none⟩) [⟨1, 1, ⟨#[]⟩⟩] 1 _ (Cs.nil _ _) hone.out (by simp) (by simp)).mono ?_
  rintro e w1 ⟨rfl, hb1⟩
  rw [show rc [] [(⟨1, 1, ⟨#[]⟩⟩ : Val)] = -1 from rfl]
  go_wp2_with fail
  refine (Key_any (some ⟨w.heap.size, 0, none⟩) [⟨1, 1, ⟨#[]⟩⟩] 1 w1 (by intro v hv; rw [List.mem_singleton] at hv; subst hv; exact ⟨by decide, by decide, by decide, by decide, by decide⟩) (hone.out.kept hb1) (by simp) (by decide)).mono ?_
  rintro e w2 ⟨v2, rfl, ho2, hb2⟩
  rw [← hL0.out] at ho2
  obtain ⟨A3, c3, rfl, hl3, hm3, hC3⟩ := ho2.cs
  have hb02 := below_join (below_join hb0 hb1) hb2
  clear hone hb0 hb1 hb2 ho2 hC3
  have hA := hA.kept hb02
  have hA2 := hA2.kept hb02
  go_wp2_with fail
  refine (short_any A us c w2 hA (fun v hv => (hr1.out v hv).s) (by omega)).mono ?_
  rintro e w3 ⟨rfl, hb3⟩
  rw [hu]
  go_wp2_with fail
  refine (short_any A2 vs c2 w3 (hA2.kept hb3) (fun v hv => (hr2.out v hv).s) (by omega)).mono ?_
  rintro e w4 ⟨rfl, hb4⟩
  rw [hv]
  go_wp2_with fail
  go_ret
  exact ⟨rfl, below_join (below_join hb02 hb3) hb4⟩

set_option maxRecDepth 100000 in
set_option maxHeartbeats 4000000 in
theorem top_yes (A : Option Addr) (us : List Val) (c : Nat) (A2 : Option Addr) (vs : List Val) (c2 : Nat) (w : World) (hA : Cs w A (Row Val.cells us)) (hA2 : Cs w A2 (Row Val.cells vs)) (hr1 : Hid (∀ v ∈ us, v.Rough)) (hr2 : Hid (∀ v ∈ vs, v.Rough)) (hn1 : us.length ≤ 140737488351232) (hn2 : vs.length ≤ 140737488351232) (hu : vRow us = true) (hv : vRow vs = true) :
    Calls Try.prog 7 #[.slice A us.length c, .slice A2 vs.length c2] w fun e w' => e = .returned (.bool true) ∧ Below w.heap.size w w' := by
  have hua := vRow_all hu
  have hva := vRow_all hv
  have hf1 := Lib.hid (fits_short hr1.out hua.1)
  have hf2 := Lib.hid (fits_short hr2.out hva.1)
  have hw1 := wt_texts hf1.out
  have hw2 := wt_texts hf2.out
  have hn12 := hua.2
  have hn22 := hva.2
  obtain ⟨X, hX⟩ : ∃ X, Hid (X = kR us) := ⟨_, rfl⟩
  obtain ⟨Y, hY⟩ : ∃ Y, Hid (Y = kR vs) := ⟨_, rfl⟩
  obtain ⟨R, hR⟩ : ∃ R, Hid (rc us vs = R) := ⟨_, rfl⟩
  have hR2 : Hid (bc X Y = R) := by unfold Hid; rw [hX.out, hY.out, key_order us vs hua.1 hva.1]; exact hR.out
  obtain ⟨m, hm⟩ : ∃ m, Hid (m = pR us) := ⟨_, rfl⟩
  have hml : m.length ≤ 2600 := by
    have h1 := wt_len (vs := us) (fun v hv => (hf1.out v hv).1)
    have h2 := pI_len (n := (us.length : Int)) (by omega) (by omega)
    rw [hm.out]
    unfold pR
    rw [List.length_append]
    omega
  have hXl : X.length ≤ 3000 := by have := kR_len us; rw [hX.out]; omega
  have hYl : Y.length ≤ 3000 := by have := kR_len vs; rw [hY.out]; omega
  obtain ⟨K, hK⟩ : ∃ K, Hid (K = 8 + m.length) := ⟨_, rfl⟩
  have hdR : Hid (dR m 0 = (us, (m.length : Int), 0)) := by
    have := dR_put [] [] hua.1 hn12
    simp only [List.nil_append, List.append_nil, List.length_nil, Int.ofNat_zero, Int.zero_add] at this
    unfold Hid
    rw [hm.out]
    simpa using this
  clear hua hva
  have hone := box_cs w #[.int .i64 1, .int .i64 1, .string ⟨#[]⟩] 37
  have hone : Hid (Cs (w.alloc (.cells #[.int .i64 1, .int .i64 1, .string ⟨#[]⟩] 37)) (some ⟨w.heap.size, 0, none⟩) (Row Val.cells [⟨1, 1, ⟨#[]⟩⟩])) := hone
  have hb0 : Below w.heap.size w (w.alloc (.cells #[.int .i64 1, .int .i64 1, .string ⟨#[]⟩] 37)) := (Below.refl _ _).alloc (Nat.le_refl _) _
  obtain ⟨L0, hL0⟩ : ∃ L, Hid (L = kR [⟨1, 1, ⟨#[]⟩⟩]) := ⟨_, rfl⟩
  have hL9 : L0.length = 9 := by rw [hL0.out]; exact key_one_len
  go_enter Try.func7, Try.ntmps7
  go_wp2_with fail
  refine (tCompare_any none [] 0 (some ⟨w.heap.size, 0, none⟩) [⟨1, 1, ⟨#[]⟩⟩] 1 _ (Cs.nil _ _) hone.out (by simp) (by simp)).mono ?_
  rintro e w1 ⟨rfl, hb1⟩
  rw [show rc [] [(⟨1, 1, ⟨#[]⟩⟩ : Val)] = -1 from rfl]
  go_wp2_with fail
  refine (Key_any (some ⟨w.heap.size, 0, none⟩) [⟨1, 1, ⟨#[]⟩⟩] 1 w1 (by intro v hv; rw [List.mem_singleton] at hv; subst hv; exact ⟨by decide, by decide, by decide, by decide, by decide⟩) (hone.out.kept hb1) (by simp) (by decide)).mono ?_
  rintro e w2 ⟨v2, rfl, ho2, hb2⟩
  rw [← hL0.out] at ho2
  obtain ⟨A3, c3, rfl, hl3, hm3, hC3⟩ := ho2.cs
  have hb02 := below_join (below_join hb0 hb1) hb2
  clear hone hb0 hb1 hb2 ho2 hC3
  have hA := hA.kept hb02
  have hA2 := hA2.kept hb02
  go_wp2_with fail
  refine (short_any A us c w2 hA (fun v hv => (hr1.out v hv).s) (by omega)).mono ?_
  rintro e w3 ⟨rfl, hb3⟩
  rw [hu]
  clear hu
  go_wp2_with fail
  refine (short_any A2 vs c2 w3 (hA2.kept hb3) (fun v hv => (hr2.out v hv).s) (by omega)).mono ?_
  rintro e w4 ⟨rfl, hb4⟩
  rw [hv]
  clear hv
  have hA := (hA.kept hb3).kept hb4
  have hA2 := (hA2.kept hb3).kept hb4
  go_wp2_with fail
  refine (Key_any A us c w4 (fun v hv => (hf1.out v hv).1) hA (by omega) (by omega)).mono ?_
  rintro e w5 ⟨v5, rfl, ho5, hb5⟩
  rw [← hX.out] at ho5
  obtain ⟨A5, c5, rfl, hl5, hm5, hC5⟩ := ho5.cs
  go_wp2_with fail
  refine (Key_any A2 vs c2 w5 (fun v hv => (hf2.out v hv).1) (hA2.kept hb5) (by omega) (by omega)).mono ?_
  rintro e w6 ⟨v6, rfl, ho6, hb6⟩
  rw [← hY.out] at ho6
  obtain ⟨A6, c6, rfl, hl6, hm6, hC6⟩ := ho6.cs
  go_wp2_with fail
  refine (order_any A5 X c5 A6 Y c6 w6 (hC5.kept hb6) hC6 (by omega) (by omega)).mono ?_
  rintro e w7 ⟨rfl, hb7⟩
  rw [hR2.out]
  go_wp2_with fail
  refine (tCompare_any A us c A2 vs c2 w7 (((hA.kept hb5).kept hb6).kept hb7) (((hA2.kept hb5).kept hb6).kept hb7) (by omega) (by omega)).mono ?_
  rintro e w8 ⟨rfl, hb8⟩
  rw [hR.out]
  have hA8 := (((hA.kept hb5).kept hb6).kept hb7).kept hb8
  go_wp2_with fail
  refine (PutRow_any none [] 0 A us c w8 (fun v hv => (hf1.out v hv).1) (Cs.nil _ _) (Nat.le_refl _) (by simp [maxLen]) hA8 (by omega) (by simp only [List.length_nil]; omega)).mono ?_
  rintro e w9 ⟨v9, rfl, ho9, hb9⟩
  rw [List.nil_append, ← hm.out] at ho9
  obtain ⟨A9, c9, rfl, hl9, hm9, hC9⟩ := ho9.cs
  go_wp2_with fail
  refine (Append_nil A9 m c9 w9 hC9 (by omega)).mono ?_
  rintro e w10 ⟨G, hr10, hC10, hb10⟩
  rw [← hK.out] at hr10
  subst hr10
  go_wp2_with fail
  refine (Next_ok G m K w10 hC10 (by omega) hK.out).mono ?_
  rintro e w11 ⟨G2, rfl, hC11, hb11⟩
  go_wp2_with fail
  refine (Row_any (some ⟨G2, 0, none⟩) m m.length 0 w11 hC11 (Nat.le_refl _) (by simp only [maxLen]; omega)).mono ?_
  rintro e w12 ⟨hr12, hb12⟩
  rw [hdR.out] at hr12
  obtain ⟨A12, c12, rfl, hl12, hm12, hC12⟩ := hr12
  go_wp2_with fail
  refine (R8Equal_same A12 us c12 A c w12 hC12 ((((hA8.kept hb9).kept hb10).kept hb11).kept hb12) (by omega)).mono ?_
  rintro e w13 ⟨rfl, hb13⟩
  go_wp2
  go_ret
  exact ⟨rfl, below_join (below_join (below_join (below_join (below_join (below_join (below_join (below_join (below_join (below_join (below_join hb02 hb3) hb4) hb5) hb6) hb7) hb8) hb9) hb10) hb11) hb12) hb13⟩

theorem top_walk (A : Option Addr) (us : List Val) (c : Nat) (A2 : Option Addr) (vs : List Val) (c2 : Nat) (w : World) (hA : Cs w A (Row Val.cells us)) (hA2 : Cs w A2 (Row Val.cells vs)) (hr1 : Hid (∀ v ∈ us, v.Rough)) (hr2 : Hid (∀ v ∈ vs, v.Rough)) (hn1 : us.length ≤ 140737488351232) (hn2 : vs.length ≤ 140737488351232) :
    Calls Try.prog 7 #[.slice A us.length c, .slice A2 vs.length c2] w fun e w' => e = .returned (.bool true) ∧ Below w.heap.size w w' := by
  by_cases hu : vRow us = true
  · by_cases hv : vRow vs = true
    · exact top_yes A us c A2 vs c2 w hA hA2 hr1 hr2 hn1 hn2 hu hv
    · exact top_no2 A us c A2 vs c2 w hA hA2 hr1 hr2 hn1 hn2 hu (by simpa using hv)
  · exact top_no1 A us c A2 vs c2 w hA hA2 hr1 hr2 hn1 hn2 (by simpa using hu)

set_option maxRecDepth 100000 in
theorem TopRows_lifted (os : Os) (started : os.Started) (H : Type) (enc : TypeId × Value → H) :
    ReturnsInHanded {} Try.checked os 7 .any (Rows.topRowsSpec.pre6 enc Try.prog Try.f7 Rows.topRowsRow.domain false) (Rows.topRowsSpec.post enc Try.prog Try.f7 false true false false) := by
  refine returnsInHanded_of_change_sized (C := Try.checked) ownK started (by kernel_rfl) Try.func7
    (ChangeSpec.witness6 (enc := enc) (C := Try.checked) false ⟨#[], #[.slice none 0 0, .slice none 0 0], []⟩ 8 (by kernel_rfl) (by kernel_rfl) (by kernel_rfl) (by kernel_rfl)) ?_
  intro W base args ds gs before hval0 hW hcnd hsz0 _
  have hsz : (DataW.weightsEach Try.prog (Try.f7.params.toList ++ Rows.topRowsSpec.plain.varTypes Try.prog) (ds ++ gs)).all (· ≤ reachBytes) = true := hsz0
  have hval : ∀ (j : Nat) t v, Try.f7.params[j]? = some t → args[j]? = some v → Value.okWide Try.prog W .any base t v := hval0
  have hW' := hW
  obtain ⟨p, q, hA0, hV, rfl, hfz, hnd⟩ := hW
  have hA : DataW.TrodAll enc Try.prog W 0 (fun _ => true) true Try.f7.params.toList args.toList ds p := hA0
  rw [Try.params7] at hA hval hsz
  obtain ⟨v0, vs0, d0, ds0, p0, q0, hargs, rfl, rfl, h0, r0⟩ := trodAll_cons hA
  obtain ⟨v1, vs1, d1, ds1, p1, q1, rfl, rfl, rfl, h1, r1⟩ := trodAll_cons r0
  obtain ⟨rfl, rfl, rfl⟩ := trodAll_nil r1
  obtain rfl : args = #[v0, v1] := by cases args; simp_all
  obtain ⟨rfl, rfl⟩ := trodVars_none hV
  have k0 := h0
  have lt0 : ∀ x ∈ p0, x.block < W.heap.size := by obtain ⟨m, hm⟩ := k0; exact DataW.trod_lt m _ _ _ hm
  have k1 := h1
  have lt1 : ∀ x ∈ p1, x.block < W.heap.size := by obtain ⟨m, hm⟩ := k1; exact DataW.trod_lt m _ _ _ hm
  obtain ⟨A, us, c, rfl, hlc, hc, hCA, hr1, hn1⟩ := open_vals (hval 0 30 v0 rfl rfl) h0 hsz (j := 0) rfl rfl
  obtain ⟨A2, vs, c2, rfl, hlc2, hc2, hCA2, hr2, hn2⟩ := open_vals (hval 1 30 v1 rfl rfl) h1 hsz (j := 1) rfl rfl
  clear hA0 hval0 hsz0
  refine (top_walk A us c A2 vs c2 W hCA hCA2 hr1 hr2 (by omega) (by omega)).mono fun e W' ⟨he, bel⟩ => ?_
  subst he
  exact ⟨_, rfl, _, _, _, [], _, [], hW', trodAll_mk1 (shut_bool Try.underlying4 _), (trodAll_cons_mk (Below.trod laidK (by kernel_rfl) (of_decide_eq_true (by kernel_rfl)) k0 bel lt0) (trodAll_cons_mk (Below.trod laidK (by kernel_rfl) (of_decide_eq_true (by kernel_rfl)) k1 bel lt1) trodAll_mk0)), rfl, bel.frame _, fun h => by cases h⟩

/-- TopRows holds. -/
theorem TopRows_holds : Rows.TopRowsSaid :=
  OpenClaim.holds_of_wide 7 Try.f7 rfl rfl rfl rfl rfl rfl rfl ⟨rfl, rfl, rfl, rfl, rfl⟩ rfl rfl rfl rfl rfl (by kernel_rfl) Try.func7 (by kernel_rfl)
    (of_decide_eq_true (by kernel_rfl)) (by unfold Func.isWrapper; first | (rw [if_pos (by decide +kernel)]; kernel_rfl) | (rw [if_neg (by decide +kernel)]; exact ⟨rfl, rfl⟩))
    (fun os started H enc _ => TopRows_lifted os started H enc)
#print axioms TopRows_holds
end Go.Proofs.Ytoejegphjlichaa
