/- CodecTexts: for every slice of bytes, string and integers, together of bulk at most 1,048,576, the law returns true, and the arguments read as before. -/
import Derived.Test.YtoejegphjlichaaBulk
import Derived.Test.YtoejegphjlichaaWork
import Derived.Test.YtoejegphjlichaaRedc
import Derived.Lib.SmallJoins
namespace Go.Proofs.Ytoejegphjlichaa
open Go.RowKit Go.ChangeShapes Go.WideShapes Go.ChangeAt Go.Joins
open Go.ChangeMaps (open_string)
set_option linter.unusedVariables false

set_option maxRecDepth 100000 in
set_option maxHeartbeats 4000000 in
theorem texts_walk (A : Option Addr) (l : List UInt8) (c : Nat) (s : ByteArray) (at_ most : Int) (w : World) (hA : Cs w A (B l)) (hlc : l.length ≤ c) (hc : c ≤ maxLen) (hl : l.length ≤ 1048576) (hs : s.size ≤ 1048576) :
    Calls Try.prog 6 #[.slice A l.length c, .string s, .int .i64 at_, .int .i64 most] w fun e w' => e = .returned (.bool true) ∧ Below w.heap.size w w' := by
  obtain ⟨r, hr⟩ : ∃ r, r = dT l at_ most := ⟨_, rfl⟩
  obtain ⟨x, k, e0⟩ := r
  have HR := Lib.hid hr
  clear hr
  obtain ⟨L, HL⟩ : ∃ L, Hid (L = l ++ pT s.data.toList) := ⟨_, rfl⟩
  go_enter Try.func6, Try.ntmps6
  go_wp2_with fail
  refine (Text_any A l c at_ most w hA hlc hc).mono ?_
  rintro e w1 ⟨hr1, rfl⟩
  rw [← HR.out] at hr1
  unfold RetT at hr1
  subst hr1
  go_wp2_with fail
  refine (RText_any A l c at_ most w hA hlc hc).mono ?_
  rintro e w1 ⟨hr1, rfl⟩
  rw [← HR.out] at hr1
  unfold RetT at hr1
  subst hr1
  go_wp2_with fail
  refine (PutText_any A l c s w (by omega) hA hlc hc (by omega)).mono ?_
  rintro e w1 ⟨v1, rfl, ho1, hb1⟩
  rw [← HL.out] at ho1
  obtain ⟨A1, c1, rfl, hl1, hm1, hC1⟩ := ho1.cs
  go_wp2_with fail
  refine (RPutText_any A l c s w1 (by omega) (hA.kept hb1) (by omega)).mono ?_
  rintro e w2 ⟨v2, rfl, ho2, hb2⟩
  rw [← HL.out] at ho2
  obtain ⟨A2, c2, rfl, hl2, hm2, hC2⟩ := ho2.cs
  go_wp2_with fail
  refine (equal_any A1 L c1 A2 L c2 w2 (hC1.kept hb2) hC2).mono ?_
  rintro e w3 ⟨rfl, rfl⟩
  rw [show (L == L) = true from by simp]
  go_wp2_with fail
  refine (works_any w2).mono ?_
  rintro e w4 ⟨rfl, hb4⟩
  go_wp2
  go_ret
  exact ⟨rfl, below_join (below_join hb1 hb2) hb4⟩

set_option maxRecDepth 100000 in
theorem CodecTexts_lifted (os : Os) (started : os.Started) (H : Type) (enc : TypeId × Value → H) (F : Stop.Interp) :
    ReturnsInHanded {} Try.checked os 6 .any ((Rows.OpenSpec.upto Rows.codecTextsSpec).pre6 enc Try.prog Try.f6 Rows.codecTextsUptoRow.domain false) (((Rows.OpenSpec.upto Rows.codecTextsSpec).at F).post enc Try.prog Try.f6 false true false false) := by
  refine returnsInHanded_of_cond_sized (C := Try.checked) (s := (Rows.OpenSpec.upto Rows.codecTextsSpec)) (k := Rows.uptoSmall) rfl ownK started (by kernel_rfl) Try.func6
    (OpenSpec.witness (enc := enc) (C := Try.checked) (s := (Rows.OpenSpec.upto Rows.codecTextsSpec)) (k := Rows.uptoSmall) rfl false ⟨#[], #[.slice none 0 0, .string ⟨#[]⟩, .int .i64 0, .int .i64 0], []⟩ 8 (by kernel_rfl) (by kernel_rfl) (by kernel_rfl)
      (x := ([.nil, .lit (.string []), .lit (.int .i64 0), .lit (.int .i64 0)], [], [])) (by kernel_rfl) rfl (by kernel_rfl)) ?_
  intro W base args ds gs before hval0 hW hcnd hbulk0 hsz0 _
  have hsz : (DataW.weightsEach Try.prog (Try.f6.params.toList ++ Rows.codecTextsSpec.plain.varTypes Try.prog) (ds ++ gs)).all (· ≤ reachBytes) = true := hsz0
  have hval : ∀ (j : Nat) t v, Try.f6.params[j]? = some t → args[j]? = some v → Value.okWide Try.prog W .any base t v := hval0
  have hW' := hW
  obtain ⟨p, q, hA0, hV, rfl, hfz, hnd⟩ := hW
  have hA : DataW.TrodAll enc Try.prog W 0 (fun _ => true) true Try.f6.params.toList args.toList ds p := hA0
  rw [Try.params6] at hA hval hsz
  obtain ⟨v0, vs0, d0, ds0, p0, q0, hargs, rfl, rfl, h0, r0⟩ := trodAll_cons hA
  obtain ⟨v1, vs1, d1, ds1, p1, q1, rfl, rfl, rfl, h1, r1⟩ := trodAll_cons r0
  obtain ⟨v2, vs2, d2, ds2, p2, q2, rfl, rfl, rfl, h2, r2⟩ := trodAll_cons r1
  obtain ⟨v3, vs3, d3, ds3, p3, q3, rfl, rfl, rfl, h3, r3⟩ := trodAll_cons r2
  obtain ⟨rfl, rfl, rfl⟩ := trodAll_nil r3
  obtain rfl : args = #[v0, v1, v2, v3] := by cases args; simp_all
  obtain ⟨rfl, rfl⟩ := trodVars_none hV
  have hbulk : Rows.uptoBulkAll (d0 :: d1 :: d2 :: d3 :: ([] ++ [])) ≤ 1048576 := of_decide_eq_true hbulk0
  simp only [Rows.uptoBulkAll, List.append_nil] at hbulk
  have k0 := h0
  have lt0 : ∀ x ∈ p0, x.block < W.heap.size := by obtain ⟨m, hm⟩ := k0; exact DataW.trod_lt m _ _ _ hm
  have k1 := h1
  have lt1 : ∀ x ∈ p1, x.block < W.heap.size := by obtain ⟨m, hm⟩ := k1; exact DataW.trod_lt m _ _ _ hm
  have k2 := h2
  have lt2 : ∀ x ∈ p2, x.block < W.heap.size := by obtain ⟨m, hm⟩ := k2; exact DataW.trod_lt m _ _ _ hm
  have k3 := h3
  have lt3 : ∀ x ∈ p3, x.block < W.heap.size := by obtain ⟨m, hm⟩ := k3; exact DataW.trod_lt m _ _ _ hm
  obtain ⟨A, l, c, rfl, hlc, hc, hCA, hl⟩ := open_bytes (hval 0 22 v0 rfl rfl) h0 hsz (j := 0) rfl rfl
  have hbl := bulk_slice Try.underlying22 h0
  obtain ⟨s, rfl, rfl, rfl, hss⟩ := open_string Try.underlying9 (hval 1 9 v1 rfl rfl) h1
  have hbs := bulk_string (H := H) s
  obtain ⟨x2, rfl, _, _, w2⟩ := open_int Try.underlying3 (hval 2 3 v2 rfl rfl) h2
  obtain ⟨x3, rfl, _, _, w3⟩ := open_int Try.underlying3 (hval 3 3 v3 rfl rfl) h3
  clear hA0 hval0 hsz0 hbulk0
  refine (texts_walk A l c s x2 x3 W hCA hlc hc (by omega) (by omega)).mono fun e W' ⟨he, bel⟩ => ?_
  subst he
  exact ⟨_, rfl, _, _, _, [], _, [], hW', trodAll_mk1 (shut_bool Try.underlying4 _), (trodAll_cons_mk (Below.trod laidK (by kernel_rfl) (of_decide_eq_true (by kernel_rfl)) k0 bel lt0) (trodAll_cons_mk (Below.trod laidK (by kernel_rfl) (of_decide_eq_true (by kernel_rfl)) k1 bel lt1) (trodAll_cons_mk (Below.trod laidK (by kernel_rfl) (of_decide_eq_true (by kernel_rfl)) k2 bel lt2) (trodAll_cons_mk (Below.trod laidK (by kernel_rfl) (of_decide_eq_true (by kernel_rfl)) k3 bel lt3) trodAll_mk0)))), rfl, bel.frame _, fun h => by cases h⟩

/-- CodecTexts holds. -/
theorem CodecTexts_holds : Rows.CodecTextsUptoSaid :=
  OpenClaim.holds_of_cond 6 Try.f6 rfl rfl rfl rfl rfl rfl rfl ⟨rfl, rfl, rfl, rfl, rfl⟩ rfl rfl rfl rfl rfl (by kernel_rfl) Try.func6 (by kernel_rfl)
    (of_decide_eq_true (by kernel_rfl)) (by unfold Func.isWrapper; first | (rw [if_pos (by decide +kernel)]; kernel_rfl) | (rw [if_neg (by decide +kernel)]; exact ⟨rfl, rfl⟩))
    (fun os started H enc _ F => CodecTexts_lifted os started H enc F)
#print axioms CodecTexts_holds
end Go.Proofs.Ytoejegphjlichaa
