/- CodecInts: for every slice of bytes and every two integers the law returns true, and the arguments read as before. No condition. -/
import Derived.Test.YtoejegphjlichaaOpen
import Derived.Test.YtoejegphjlichaaWork
import Derived.Test.YtoejegphjlichaaRedb
namespace Go.Proofs.Ytoejegphjlichaa
open Go.RowKit Go.ChangeShapes Go.WideShapes Go.ChangeAt
set_option linter.unusedVariables false

set_option maxRecDepth 100000 in
set_option maxHeartbeats 2000000 in
theorem ints_walk (A : Option Addr) (l : List UInt8) (c : Nat) (n at_ : Int) (w : World) (hA : Cs w A (B l)) (hlc : l.length ≤ c) (hc : c ≤ maxLen) (hl : l.length ≤ 140737488351232) (h1 : -9223372036854775808 ≤ n) (h2 : n < 9223372036854775808) :
    Calls Try.prog 3 #[.slice A l.length c, .int .i64 n, .int .i64 at_] w fun e w' => e = .returned (.bool true) ∧ Below w.heap.size w w' := by
  have H1 : Hid (-9223372036854775808 ≤ n ∧ n < 9223372036854775808) := ⟨h1, h2⟩
  clear h1 h2
  obtain ⟨r, hr⟩ : ∃ r, r = dI l at_ := ⟨_, rfl⟩
  obtain ⟨r1, r2, r3⟩ := r
  have HR := Lib.hid hr
  clear hr
  go_enter Try.func3, Try.ntmps3
  go_wp2_with fail
  refine (Int_any A l c at_ w hA hlc hc).mono ?_
  rintro e w1 ⟨hr1, rfl⟩
  rw [← HR.out] at hr1
  unfold Ret3 at hr1
  subst hr1
  go_wp2_with fail
  refine (RInt_any A l c at_ w hA hlc hc).mono ?_
  rintro e w1 ⟨hr1, rfl⟩
  rw [← HR.out] at hr1
  unfold Ret3 at hr1
  subst hr1
  go_wp2_with fail
  refine (PutInt_any A l c n w H1.out.1 H1.out.2 hA hlc hc (by omega)).mono ?_
  rintro e w1 ⟨v1, rfl, ho1, hb1⟩
  obtain ⟨L, HL⟩ : ∃ L, Hid (L = l ++ pI n) := ⟨_, rfl⟩
  rw [← HL.out] at ho1
  obtain ⟨A1, c1, rfl, hl1, hm1, hC1⟩ := ho1.cs
  go_wp2_with fail
  refine (RPutInt_any A l c n w1 H1.out.1 H1.out.2 (hA.kept hb1) (by omega)).mono ?_
  rintro e w2 ⟨v2, rfl, ho2, hb2⟩
  rw [← HL.out] at ho2
  obtain ⟨A2, c2, rfl, hl2, hm2, hC2⟩ := ho2.cs
  go_wp2_with fail
  refine (equal_any A1 _ c1 A2 _ c2 w2 (hC1.kept hb2) hC2).mono ?_
  rintro e w3 ⟨rfl, rfl⟩
  rw [show (L == L) = true from by simp]
  go_wp2_with fail
  refine (works_any w2).mono ?_
  rintro e w3 ⟨rfl, hb3⟩
  go_wp2
  go_ret
  exact ⟨rfl, below_join (below_join hb1 hb2) hb3⟩

set_option maxRecDepth 100000 in
theorem ints_lifted (os : Os) (started : os.Started) (H : Type) (enc : TypeId × Value → H) :
    ReturnsInHanded {} Try.checked os 3 .any (Rows.codecIntsSpec.pre6 enc Try.prog Try.f3 Rows.codecIntsRow.domain false) (Rows.codecIntsSpec.post enc Try.prog Try.f3 false true false false) := by
  refine returnsInHanded_of_change_sized (C := Try.checked) ownK started (by kernel_rfl) Try.func3
    (ChangeSpec.witness6 (enc := enc) (C := Try.checked) false ⟨#[], #[.slice none 0 0, .int .i64 0, .int .i64 0], []⟩ 8 (by kernel_rfl) (by kernel_rfl) (by kernel_rfl) (by kernel_rfl)) ?_
  intro W base args ds gs before hval0 hW hcnd hsz0 _
  have hsz : (DataW.weightsEach Try.prog (Try.f3.params.toList ++ Rows.codecIntsSpec.plain.varTypes Try.prog) (ds ++ gs)).all (· ≤ reachBytes) = true := hsz0
  have hval : ∀ (j : Nat) t v, Try.f3.params[j]? = some t → args[j]? = some v → Value.okWide Try.prog W .any base t v := hval0
  have hW' := hW
  obtain ⟨p, q, hA0, hV, rfl, hfz, hnd⟩ := hW
  have hA : DataW.TrodAll enc Try.prog W 0 (fun _ => true) true Try.f3.params.toList args.toList ds p := hA0
  rw [Try.params3] at hA hval hsz
  obtain ⟨v0, vs0, d0, ds0, p0, q0, hargs, rfl, rfl, h0, r0⟩ := trodAll_cons hA
  obtain ⟨v1, vs1, d1, ds1, p1, q1, rfl, rfl, rfl, h1, r1⟩ := trodAll_cons r0
  obtain ⟨v2, vs2, d2, ds2, p2, q2, rfl, rfl, rfl, h2, r2⟩ := trodAll_cons r1
  obtain ⟨rfl, rfl, rfl⟩ := trodAll_nil r2
  obtain rfl : args = #[v0, v1, v2] := by cases args; simp_all
  obtain ⟨rfl, rfl⟩ := trodVars_none hV
  have k0 := h0
  have lt0 : ∀ x ∈ p0, x.block < W.heap.size := by obtain ⟨m, hm⟩ := k0; exact DataW.trod_lt m _ _ _ hm
  obtain ⟨A, l, c, rfl, hlc, hc, hCA, hl⟩ := open_bytes (hval 0 22 v0 rfl rfl) h0 hsz (j := 0) rfl rfl
  obtain ⟨n, rfl, rfl, rfl, wn⟩ := open_int Try.underlying3 (hval 1 3 v1 rfl rfl) h1
  obtain ⟨m, rfl, rfl, rfl, wm⟩ := open_int Try.underlying3 (hval 2 3 v2 rfl rfl) h2
  have bn := bounds_i64 wn
  clear hA0 hval0 hsz0 hsz
  refine (ints_walk A l c n m W hCA hlc hc hl (by omega) (by omega)).mono fun e W' ⟨he, bel⟩ => ?_
  subst he
  exact ⟨_, rfl, _, _, _, [], _, [], hW', trodAll_mk1 (shut_bool Try.underlying4 _), (trodAll_cons_mk (Below.trod laidK (by kernel_rfl) (of_decide_eq_true (by kernel_rfl)) k0 bel lt0) (trodAll_cons_mk (shut_int Try.underlying3 wn) (trodAll_cons_mk (shut_int Try.underlying3 wm) trodAll_mk0))), rfl, bel.frame _, fun h => by cases h⟩

/-- CodecInts holds. -/
theorem ints_holds : Rows.CodecIntsSaid :=
  OpenClaim.holds_of_wide 3 Try.f3 rfl rfl rfl rfl rfl rfl rfl ⟨rfl, rfl, rfl, rfl, rfl⟩ rfl rfl rfl rfl rfl (by kernel_rfl) Try.func3 (by kernel_rfl)
    (of_decide_eq_true (by kernel_rfl)) (by unfold Func.isWrapper; first | (rw [if_pos (by decide +kernel)]; kernel_rfl) | (rw [if_neg (by decide +kernel)]; exact ⟨rfl, rfl⟩))
    (fun os started H enc _ => ints_lifted os started H enc)
#print axioms ints_holds
end Go.Proofs.Ytoejegphjlichaa
