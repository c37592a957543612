/- CodecKeys: for every two rows of values, together of bulk at most 1,048,576, the law returns true, and the arguments read as before. -/
import Derived.Test.YtoejegphjlichaaBulk
import Derived.Test.YtoejegphjlichaaCmpa
import Derived.Test.YtoejegphjlichaaKeyr
import Derived.Test.YtoejegphjlichaaOpenv
import Derived.Test.YtoejegphjlichaaValb
import Derived.Lib.SmallJoins
namespace Go.Proofs.Ytoejegphjlichaa
open Go.RowKit Go.ChangeShapes Go.WideShapes Go.ChangeAt Go.Joins
set_option linter.unusedVariables false
set_option linter.unusedSimpArgs false

theorem wt_texts {vs : List Val} (h : ∀ v ∈ vs, v.Fits ∧ v.text.size ≤ 200) : wt vs ≤ vs.length * 211 := by
  induction vs with
  | nil => simp [wt]
  | cons x xs ih =>
    have h1 := (h x (by simp)).2
    have h2 := ih (fun v hv => h v (by simp [hv]))
    simp only [wt, List.map_cons, List.sum_cons, List.length_cons] at h2 ⊢
    omega
theorem vV_short {v : Val} (h : vV v = true) : v.text.size ≤ 200 := by
  obtain ⟨k, n, s⟩ := v
  have e : s.size = s.data.toList.length := by rw [Array.length_toList]; rfl
  unfold vV at h
  simp only at h ⊢
  have hz : s.data.toList.isEmpty = true → s.size ≤ 200 := fun h => by
    rw [List.isEmpty_iff] at h
    rw [e, h]
    decide
  split at h
  · simp only [Bool.and_eq_true] at h; exact hz h.2
  · split at h
    · simp only [Bool.and_eq_true] at h; exact hz h.2
    · split at h
      · simp only [Bool.and_eq_true, decide_eq_true_eq] at h; exact h.1.2
      · split at h
        · simp only [Bool.and_eq_true] at h; exact hz h.2
        · cases h
theorem fits_short {vs : List Val} (hr : ∀ v ∈ vs, v.Rough) (h : vs.all vV = true) : ∀ v ∈ vs, v.Fits ∧ v.text.size ≤ 200 := by
  rw [List.all_eq_true] at h
  intro v hv
  have h1 := hr v hv
  have h2 := vV_short (h v hv)
  exact ⟨⟨h1.k1, h1.k2, h1.i1, h1.i2, by omega⟩, h2⟩

theorem OwnV.empty (w : World) : OwnV (w.alloc (.cells #[] 37)) w.heap.size (.slice (some ⟨w.heap.size, 0, none⟩) 0 0) [] :=
  World.ownsRow_made w #[] 0 (Nat.le_refl _) (by simp [maxLen]) (by simp)

theorem wpList_wanted {ops : Array Oper} {rest : List Oper} {o : Oper} {a : Act} {Q : Exit → Act → World → Prop} {w : World} (hw : Region.wanted o (yielded ops a.tmps) = true) (h : o.wp Try.prog a w (wpList Try.prog ops Q rest) Q) : wpList Try.prog ops Q (o :: rest) a w := by
  unfold wpList
  rw [if_pos hw]
  exact Or.inl h

/-- append(v, x..) of a row of values, where its guard wants it. -/
theorem app_row {ops : Array Oper} {rest : List Oper} {o : Oper} {a : Act} {Q : Exit → Act → World → Prop} {base : Nat} (hw : Region.wanted o (yielded ops a.tmps) = true) (s x : Operand)
    (ho : o.op = .call { callee := .builtin .append, args := #[s, x], argTypes := #[30, 30] })
    {w0 W : World} (v : Value) (vs : List Val) (hsv : a.eval s = v) (hv : OwnV W base v vs) (A : Option Addr) (us : List Val) (c : Nat) (hxv : a.eval x = .slice A us.length c) (hA : Cs W A (Row Val.cells us))
    (hl : vs.length + us.length ≤ 4398046511100) (HB : Below base w0 W) (hbase : base ≤ W.heap.size)
    (h : ∀ v1 w1, OwnV w1 base v1 (vs ++ us) → Below base w0 w1 → base ≤ w1.heap.size → wpList Try.prog ops Q rest (a.put o.dst v1) w1) :
    wpList Try.prog ops Q (o :: rest) a W := by
  refine wpList_wanted hw ?_
  refine ap_wp base 30 30 37 _ 3 32 Try.underlying30 infoVal rfl (by decide) s x ho v vs.length (Row Val.cells vs) hsv (Ap.own hv) _ hxv us.length (Row Val.cells us)
    (Src_cs Try.underlying30 c hA (by decide) (Row_length Val.len _) (cells_one _)) (by simp only [maxLen]; omega) (by omega) hbase ?_
  intro v1 w1 _ _ h3 h4 h5 h6
  refine h v1 w1 ?_ (HB.trans h4) (by have := h4.size; omega)
  have := h3 hv
  rw [← Row_append, ← List.length_append] at this
  exact this

set_option maxRecDepth 100000 in
set_option maxHeartbeats 4000000 in
theorem keys_no1 (A : Option Addr) (us : List Val) (c : Nat) (A2 : Option Addr) (vs : List Val) (c2 : Nat) (w : World) (hA : Cs w A (Row Val.cells us)) (hA2 : Cs w A2 (Row Val.cells vs)) (hr1 : Hid (∀ v ∈ us, v.Rough)) (hr2 : Hid (∀ v ∈ vs, v.Rough)) (hn1 : us.length ≤ 1048576) (hn2 : vs.length ≤ 1048576) (hu : us.all vV = false) :
    Calls Try.prog 4 #[.slice A us.length c, .slice A2 vs.length c2] w fun e w' => e = .returned (.bool true) ∧ Below w.heap.size w w' := by
  go_enter Try.func4, Try.ntmps4
  go_wp2_with fail
  refine (lvalid_any A us c w hA (fun v hv => (hr1.out v hv).s) (by omega)).mono ?_
  rintro e w1 ⟨rfl, hb1⟩
  rw [hu]
  go_wp2_with fail
  refine (works_any w1).mono ?_
  rintro e w2 ⟨rfl, hb2⟩
  go_wp2
  go_ret
  exact ⟨rfl, below_join hb1 hb2⟩

set_option maxRecDepth 100000 in
set_option maxHeartbeats 4000000 in
theorem keys_no2 (A : Option Addr) (us : List Val) (c : Nat) (A2 : Option Addr) (vs : List Val) (c2 : Nat) (w : World) (hA : Cs w A (Row Val.cells us)) (hA2 : Cs w A2 (Row Val.cells vs)) (hr1 : Hid (∀ v ∈ us, v.Rough)) (hr2 : Hid (∀ v ∈ vs, v.Rough)) (hn1 : us.length ≤ 1048576) (hn2 : vs.length ≤ 1048576) (hu : us.all vV = true) (hv : vs.all vV = false) :
    Calls Try.prog 4 #[.slice A us.length c, .slice A2 vs.length c2] w fun e w' => e = .returned (.bool true) ∧ Below w.heap.size w w' := by
  go_enter Try.func4, Try.ntmps4
  go_wp2_with fail
  refine (lvalid_any A us c w hA (fun v hv => (hr1.out v hv).s) (by omega)).mono ?_
  rintro e w1 ⟨rfl, hb1⟩
  rw [hu]
  go_wp2_with fail
  refine (lvalid_any A2 vs c2 w1 (hA2.kept hb1) (fun v hv => (hr2.out v hv).s) (by omega)).mono ?_
  rintro e w2 ⟨rfl, hb2⟩
  rw [hv]
  go_wp2_with fail
  refine (works_any w2).mono ?_
  rintro e w3 ⟨rfl, hb3⟩
  go_wp2
  go_ret
  exact ⟨rfl, below_join (below_join hb1 hb2) hb3⟩

set_option maxRecDepth 100000 in
set_option maxHeartbeats 4000000 in
theorem keys_yes (A : Option Addr) (us : List Val) (c : Nat) (A2 : Option Addr) (vs : List Val) (c2 : Nat) (w : World) (hA : Cs w A (Row Val.cells us)) (hA2 : Cs w A2 (Row Val.cells vs)) (hr1 : Hid (∀ v ∈ us, v.Rough)) (hr2 : Hid (∀ v ∈ vs, v.Rough)) (hn1 : us.length ≤ 1048576) (hn2 : vs.length ≤ 1048576) (hu : us.all vV = true) (hv : vs.all vV = true) :
    Calls Try.prog 4 #[.slice A us.length c, .slice A2 vs.length c2] w fun e w' => e = .returned (.bool true) ∧ Below w.heap.size w w' := by
  have hf1 := Lib.hid (fits_short hr1.out hu)
  have hf2 := Lib.hid (fits_short hr2.out hv)
  have hw1 := wt_texts hf1.out
  have hw2 := wt_texts hf2.out
  obtain ⟨X, hX⟩ : ∃ X, Hid (X = kR us) := ⟨_, rfl⟩
  obtain ⟨Y, hY⟩ : ∃ Y, Hid (Y = kR vs) := ⟨_, rfl⟩
  obtain ⟨Z, hZ⟩ : ∃ Z, Hid (Z = us ++ vs) := ⟨_, rfl⟩
  obtain ⟨V, hV⟩ : ∃ V, Hid (V = X ++ Y) := ⟨_, rfl⟩
  have hVZ : Hid (kR Z = V) := by unfold Hid; rw [hZ.out, hV.out, hX.out, hY.out, kR_append]
  have hlZ : Hid (Z.length = us.length + vs.length) := by unfold Hid; rw [hZ.out, List.length_append]
  have hfZ : Hid (∀ v ∈ Z, v.Fits ∧ v.text.size ≤ 200) := by
    unfold Hid
    rw [hZ.out]
    intro v hm
    rcases List.mem_append.mp hm with hm | hm
    · exact hf1.out v hm
    · exact hf2.out v hm
  have hwZ : wt Z ≤ 442500000 := by
    have h1 := wt_texts hfZ.out
    have h2 := hlZ.out
    omega
  obtain ⟨R, hR⟩ : ∃ R, Hid (rc us vs = R) := ⟨_, rfl⟩
  have hR2 : Hid (bc X Y = R) := by unfold Hid; rw [hX.out, hY.out, key_order us vs hu hv]; exact hR.out
  have HU := Lib.hid hu
  have HV := Lib.hid hv
  go_enter Try.func4, Try.ntmps4
  go_wp2_with fail
  refine (lvalid_any A us c w hA (fun v hv => (hr1.out v hv).s) (by omega)).mono ?_
  rintro e w1 ⟨rfl, hb1⟩
  rw [hu]
  clear hu
  go_wp2_with fail
  refine (lvalid_any A2 vs c2 w1 (hA2.kept hb1) (fun v hv => (hr2.out v hv).s) (by omega)).mono ?_
  rintro e w2 ⟨rfl, hb2⟩
  rw [hv]
  clear hv
  go_wp2_with fail
  have hA := (hA.kept hb1).kept hb2
  have hA2 := (hA2.kept hb1).kept hb2
  refine (Key_any A us c w2 (fun v hv => (hf1.out v hv).1) hA (by omega) (by omega)).mono ?_
  rintro e w3 ⟨v3, rfl, ho3, hb3⟩
  rw [← hX.out] at ho3
  obtain ⟨A3, c3, rfl, hl3, hm3, hC3⟩ := ho3.cs
  go_wp2_with fail
  refine (Key_any A2 vs c2 w3 (fun v hv => (hf2.out v hv).1) (hA2.kept hb3) (by omega) (by omega)).mono ?_
  rintro e w4 ⟨v4, rfl, ho4, hb4⟩
  rw [← hY.out] at ho4
  obtain ⟨A4, c4, rfl, hl4, hm4, hC4⟩ := ho4.cs
  go_wp2_with fail
  refine (RKey_any A us c w4 (fun v hv => (hf1.out v hv).1) HU.out ((hA.kept hb3).kept hb4) (by omega) (by omega)).mono ?_
  rintro e w5 ⟨v5, rfl, ho5, hb5⟩
  rw [← hX.out] at ho5
  obtain ⟨A5, c5, rfl, hl5, hm5, hC5⟩ := ho5.cs
  go_wp2_with fail
  refine (equal_any A3 X c3 A5 X c5 w5 ((hC3.kept hb4).kept hb5) hC5).mono ?_
  rintro e w6 ⟨rfl, rfl⟩
  rw [show (X == X) = true from by simp]
  go_wp2_with fail
  refine (compare_any A3 X c3 A4 Y c4 w5 ((hC3.kept hb4).kept hb5) (hC4.kept hb5)).mono ?_
  rintro e w6 ⟨rfl, rfl⟩
  rw [hR2.out]
  go_wp2_with fail
  refine (RCompare_any A us c A2 vs c2 w5 (((hA.kept hb3).kept hb4).kept hb5) (((hA2.kept hb3).kept hb4).kept hb5) (by omega) (by omega)).mono ?_
  rintro e w6 ⟨rfl, hb6⟩
  rw [hR.out]
  have hA6 := (((hA.kept hb3).kept hb4).kept hb5).kept hb6
  have hA26 := (((hA2.kept hb3).kept hb4).kept hb5).kept hb6
  go_wp2_with (first
    | (at_builtin; refine app_row (by rfl) (.tmp 34) (.tmp 35) rfl _ [] rfl (OwnV.empty w6) A us c rfl (hA6.alloc _) (by simp only [List.length_nil]; omega) ((Below.refl _ _).alloc (Nat.le_refl _) _) (by simp) ?_; intro v7 w7 ho7 hb7 hs7; rw [List.nil_append] at ho7)
    | (at_builtin; refine app_row (by rfl) (.tmp 36) (.tmp 37) rfl _ us rfl ho7 A2 vs c2 rfl (hA26.kept hb7) (by omega) hb7 hs7 ?_; intro v8 w8 ho8 hb8 hs8; rw [← hZ.out] at ho8; obtain ⟨A8, c8, rfl, hl8, hm8, hC8⟩ := ho8.cs))
  refine (Key_any A8 Z c8 w8 (fun v hv => (hfZ.out v hv).1) hC8 (by rw [hlZ.out]; omega) (by omega)).mono ?_
  rintro e w9 ⟨v9, rfl, ho9, hb9⟩
  rw [hVZ.out] at ho9
  obtain ⟨A9, c9, rfl, hl9, hm9, hC9⟩ := ho9.cs
  go_wp2_with fail
  refine (begins_yes A9 X Y V c9 A3 c3 w9 hV hC9 (((((hC3.kept hb4).kept hb5).kept hb6).kept hb8).kept hb9) hl9 hm9).mono ?_
  rintro e w10 ⟨rfl, hb10⟩
  go_wp2_with fail
  refine (works_any w10).mono ?_
  rintro e w11 ⟨rfl, hb11⟩
  go_wp2
  go_ret
  exact ⟨rfl, below_join (below_join (below_join (below_join (below_join (below_join (below_join (below_join (below_join hb1 hb2) hb3) hb4) hb5) hb6) hb8) hb9) hb10) hb11⟩

theorem keys_walk (A : Option Addr) (us : List Val) (c : Nat) (A2 : Option Addr) (vs : List Val) (c2 : Nat) (w : World) (hA : Cs w A (Row Val.cells us)) (hA2 : Cs w A2 (Row Val.cells vs)) (hr1 : Hid (∀ v ∈ us, v.Rough)) (hr2 : Hid (∀ v ∈ vs, v.Rough)) (hn1 : us.length ≤ 1048576) (hn2 : vs.length ≤ 1048576) :
    Calls Try.prog 4 #[.slice A us.length c, .slice A2 vs.length c2] w fun e w' => e = .returned (.bool true) ∧ Below w.heap.size w w' := by
  by_cases hu : us.all vV = true
  · by_cases hv : vs.all vV = true
    · exact keys_yes A us c A2 vs c2 w hA hA2 hr1 hr2 hn1 hn2 hu hv
    · exact keys_no2 A us c A2 vs c2 w hA hA2 hr1 hr2 hn1 hn2 hu (by simpa using hv)
  · exact keys_no1 A us c A2 vs c2 w hA hA2 hr1 hr2 hn1 hn2 (by simpa using hu)

set_option maxRecDepth 100000 in
theorem CodecKeys_lifted (os : Os) (started : os.Started) (H : Type) (enc : TypeId × Value → H) (F : Stop.Interp) :
    ReturnsInHanded {} Try.checked os 4 .any ((Rows.OpenSpec.upto Rows.codecKeysSpec).pre6 enc Try.prog Try.f4 Rows.codecKeysUptoRow.domain false) (((Rows.OpenSpec.upto Rows.codecKeysSpec).at F).post enc Try.prog Try.f4 false true false false) := by
  refine returnsInHanded_of_cond_sized (C := Try.checked) (s := (Rows.OpenSpec.upto Rows.codecKeysSpec)) (k := Rows.uptoSmall) rfl ownK started (by kernel_rfl) Try.func4
    (OpenSpec.witness (enc := enc) (C := Try.checked) (s := (Rows.OpenSpec.upto Rows.codecKeysSpec)) (k := Rows.uptoSmall) rfl false ⟨#[], #[.slice none 0 0, .slice none 0 0], []⟩ 8 (by kernel_rfl) (by kernel_rfl) (by kernel_rfl)
      (x := ([.nil, .nil], [], [])) (by kernel_rfl) rfl (by kernel_rfl)) ?_
  intro W base args ds gs before hval0 hW hcnd hbulk0 hsz0 _
  have hsz : (DataW.weightsEach Try.prog (Try.f4.params.toList ++ Rows.codecKeysSpec.plain.varTypes Try.prog) (ds ++ gs)).all (· ≤ reachBytes) = true := hsz0
  have hval : ∀ (j : Nat) t v, Try.f4.params[j]? = some t → args[j]? = some v → Value.okWide Try.prog W .any base t v := hval0
  have hW' := hW
  obtain ⟨p, q, hA0, hV, rfl, hfz, hnd⟩ := hW
  have hA : DataW.TrodAll enc Try.prog W 0 (fun _ => true) true Try.f4.params.toList args.toList ds p := hA0
  rw [Try.params4] at hA hval hsz
  obtain ⟨v0, vs0, d0, ds0, p0, q0, hargs, rfl, rfl, h0, r0⟩ := trodAll_cons hA
  obtain ⟨v1, vs1, d1, ds1, p1, q1, rfl, rfl, rfl, h1, r1⟩ := trodAll_cons r0
  obtain ⟨rfl, rfl, rfl⟩ := trodAll_nil r1
  obtain rfl : args = #[v0, v1] := by cases args; simp_all
  obtain ⟨rfl, rfl⟩ := trodVars_none hV
  have hbulk : Rows.uptoBulkAll (d0 :: d1 :: ([] ++ [])) ≤ 1048576 := of_decide_eq_true hbulk0
  simp only [Rows.uptoBulkAll, List.append_nil] at hbulk
  have k0 := h0
  have lt0 : ∀ x ∈ p0, x.block < W.heap.size := by obtain ⟨m, hm⟩ := k0; exact DataW.trod_lt m _ _ _ hm
  have k1 := h1
  have lt1 : ∀ x ∈ p1, x.block < W.heap.size := by obtain ⟨m, hm⟩ := k1; exact DataW.trod_lt m _ _ _ hm
  obtain ⟨A, us, c, rfl, hlc, hc, hCA, hr1, hn1⟩ := open_vals (hval 0 30 v0 rfl rfl) h0 hsz (j := 0) rfl rfl
  have hb0 := bulk_slice Try.underlying30 h0
  obtain ⟨A2, vs, c2, rfl, hlc2, hc2, hCA2, hr2, hn2⟩ := open_vals (hval 1 30 v1 rfl rfl) h1 hsz (j := 1) rfl rfl
  have hb1 := bulk_slice Try.underlying30 h1
  clear hA0 hval0 hsz0 hbulk0
  refine (keys_walk A us c A2 vs c2 W hCA hCA2 hr1 hr2 (by omega) (by omega)).mono fun e W' ⟨he, bel⟩ => ?_
  subst he
  exact ⟨_, rfl, _, _, _, [], _, [], hW', trodAll_mk1 (shut_bool Try.underlying4 _), (trodAll_cons_mk (Below.trod laidK (by kernel_rfl) (of_decide_eq_true (by kernel_rfl)) k0 bel lt0) (trodAll_cons_mk (Below.trod laidK (by kernel_rfl) (of_decide_eq_true (by kernel_rfl)) k1 bel lt1) trodAll_mk0)), rfl, bel.frame _, fun h => by cases h⟩

/-- CodecKeys holds. -/
theorem CodecKeys_holds : Rows.CodecKeysUptoSaid :=
  OpenClaim.holds_of_cond 4 Try.f4 rfl rfl rfl rfl rfl rfl rfl ⟨rfl, rfl, rfl, rfl, rfl⟩ rfl rfl rfl rfl rfl (by kernel_rfl) Try.func4 (by kernel_rfl)
    (of_decide_eq_true (by kernel_rfl)) (by unfold Func.isWrapper; first | (rw [if_pos (by decide +kernel)]; kernel_rfl) | (rw [if_neg (by decide +kernel)]; exact ⟨rfl, rfl⟩))
    (fun os started H enc _ F => CodecKeys_lifted os started H enc F)
#print axioms CodecKeys_holds
end Go.Proofs.Ytoejegphjlichaa
