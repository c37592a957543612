/- The contract of the reference's Row: which row is read from any bytes. -/
import Derived.Test.YtoejegphjlichaaRedf
import Derived.Test.YtoejegphjlichaaRedb
namespace Go.Proofs.Ytoejegphjlichaa
open Go.RowKit
set_option linter.unusedVariables false

/-- The slice value v is a row of values of the call's own, from block 'base' on. -/
def OwnV (w : World) (base : Nat) (v : Value) (vs : List Val) : Prop := w.ownsRow base 37 3 v vs.length (Row Val.cells vs)
theorem OwnV.cs {w : World} {base : Nat} {v : Value} {vs : List Val} (h : OwnV w base v vs) : ∃ A c, v = .slice A vs.length c ∧ vs.length ≤ c ∧ c ≤ maxLen ∧ Cs w A (Row Val.cells vs) := own_cs h
theorem OwnV.alloc {w : World} {base : Nat} {v : Value} {vs : List Val} (h : OwnV w base v vs) (o : Obj) : OwnV (w.alloc o) base v vs := World.ownsRow.alloc h o
theorem OwnV.nil (w : World) (base : Nat) : OwnV w base (.slice none 0 0) [] := World.ownsRow_nil _ _ _ _
theorem OwnV.kept {w w1 : World} {base : Nat} {v : Value} {vs : List Val} (h : OwnV w base v vs) (hb : Below w.heap.size w w1) : OwnV w1 base v vs :=
  World.ownsRow.kept (row := none) h ⟨hb.os, hb.tape, hb.output, hb.size, fun k hk _ => hb.block k hk⟩ (by cases v.ownBlock <;> simp)
theorem cells_one (vs : List Val) : ∀ u ∈ Row Val.cells vs, u.oneCell' = true := fun u hu => by
  simp only [Row, List.mem_flatten, List.mem_map] at hu
  obtain ⟨_, ⟨v, _, rfl⟩, hu⟩ := hu
  simp [Val.cells] at hu
  rcases hu with rfl | rfl | rfl <;> rfl

/-- append(v, y) of one value, y in its box. -/
theorem app_val {ops : Array Oper} {rest : List Oper} {o : Oper} {a : Act} {Q : Exit → Act → World → Prop} {base : Nat} (hgd : o.guard = none) (s x : Operand)
    (ho : o.op = .call { callee := .builtin .append, args := #[s, x], argTypes := #[30, 30] })
    {w0 W : World} (v : Value) (vs : List Val) (hsv : a.eval s = v) (hv : OwnV W base v vs) (y : Val) (cs : Array Value) (hcs : cs = y.cells.toArray) {k : Nat} (hxv : a.eval x = .slice (some ⟨k, 0, none⟩) 1 1) (hk : W.heap.size = k)
    (hl : vs.length + 1 ≤ 4398046511100) (HB : Below base w0 W) (hbase : base ≤ W.heap.size)
    (h : ∀ v1 w1, OwnV w1 base v1 (vs ++ [y]) → Below base w0 w1 → base ≤ w1.heap.size → wpList Try.prog ops Q rest (a.put o.dst v1) w1) :
    wpList Try.prog ops Q (o :: rest) a (W.alloc (.cells cs 37)) := by
  subst hcs
  subst hk
  refine ap_list base 30 30 37 _ 3 32 Try.underlying30 infoVal rfl (by decide) hgd s x ho v vs.length (Row Val.cells vs) hsv (Ap.own (hv.alloc _)) _ hxv 1 (Row Val.cells [y])
    (Src.ofSlice _ Try.underlying30 ⟨W.heap.size, 0, none⟩ 1 1 (Row Val.cells [y]) rfl (by have := World.news_of_block (blk_new W (.cells y.cells.toArray 37)); simpa [Row] using this) (cells_one _)) (by simp only [maxLen]; omega) (by omega) (by simp; omega) ?_
  intro v1 w1 _ h2 _ h4 h5 h6
  refine h v1 w1 (by simpa [OwnV, Row_append] using h2 (by decide)) ((HB.alloc hbase _).trans h4) ?_
  have := h4.size
  simp at this
  omega

set_option maxRecDepth 100000 in
set_option maxHeartbeats 4000000 in
theorem RRow_ok (A : Option Addr) (l : List UInt8) (c : Nat) (at_ : Int) (n : Nat) (k : Int) (w : World) (hA : Cs w A (B l)) (hlc : l.length ≤ c) (hc : c ≤ maxLen) (hr : (((n : Nat) : Int), k, 0) = dI l at_) (hn : n ≤ 12) :
    Calls Try.prog 45 #[.slice A l.length c, .int .i64 at_] w fun e w' => RetR (dR l at_) e w' ∧ Below w.heap.size w w' := by
  have HT : Hid (dR l at_ = outR (rR l n [] k)) := by
    unfold Hid dR
    rw [← hr]
    simp only [if_true]
    rw [if_neg (by omega), if_neg (by omega)]
    rfl
  have HR := Lib.hid hr
  clear hr
  obtain ⟨R, hR⟩ : ∃ R, R = rR l n [] k := ⟨_, rfl⟩
  rw [← hR] at HT
  go_enter Try.func45, Try.ntmps45
  go_wp2_with fail
  refine (RInt_any A l c at_ w hA hlc hc).mono ?_
  rintro e w1 ⟨hr1, rfl⟩
  rw [← HR.out] at hr1
  unfold Ret3 at hr1
  subst hr1
  go_wp2_with fail
  go_loopw [8, 10, 11] (fun kv bv iv wr => ∃ (acc : List Val) (k' : Int) (v' : Value), acc.length ≤ n ∧ kv = .int .i64 k' ∧ bv = v' ∧ iv = .int .i64 (acc.length : Int) ∧ Hid (rR l (n - acc.length) acc k' = R) ∧ OwnV wr w.heap.size v' acc ∧ Below w.heap.size w wr ∧ Cs wr A (B l))
    (fun _ _ iv _ => n - (intOf iv).toNat)
  case atStart => exact ⟨[], k, .slice none 0 0, Nat.zero_le _, rfl, rfl, rfl, hR.symm, OwnV.nil _ _, Below.refl _ _, hA⟩
  case round =>
    obtain ⟨acc, k', v', hk, rfl, rfl, rfl, hacc, hown, hbr, hCr⟩ := hrel
    by_cases hlt : acc.length < n
    · obtain ⟨r, hv⟩ : ∃ r, r = dV l k' := ⟨_, rfl⟩
      obtain ⟨⟨va, vb, vc⟩, nx, e0⟩ := r
      have hacc2 := hacc.out
      rw [show n - acc.length = (n - acc.length - 1) + 1 by omega, rR, ← hv] at hacc2
      simp only at hacc2
      have HAC := Lib.hid hacc2
      have HV := Lib.hid hv
      clear hacc2 hv hacc
      go_wp2_with fail
      refine (RValue_any A l c k' _ hCr hlc hc).mono ?_
      rintro e w2 ⟨hr2, hb2⟩
      rw [← HV.out] at hr2
      change e = .returned (.tuple #[.agg #[.int .i64 va, .int .i64 vb, .string vc], .int .i64 nx, .int .i64 e0]) at hr2
      subst hr2
      have hb3 := (hbr.trans (hb2.mono hbr.size)).alloc (by have := hb2.size; have := hbr.size; omega) (.cells #[.int .i64 va, .int .i64 vb, .string vc] 37)
      have hown2 := (hown.kept hb2).alloc (.cells #[.int .i64 va, .int .i64 vb, .string vc] 37)
      by_cases he : e0 = 0
      · subst he
        rw [if_pos rfl] at HAC
        go_wp2_with (at_builtin; refine app_val rfl _ _ rfl _ acc rfl hown2 ⟨va, vb, vc⟩ _ rfl rfl (by simp) (by omega) hb3 hb3.size ?_; intro v4 w4 ho4 hb4 hs4)
        go_roundw
        case rel => exact ⟨acc ++ [⟨va, vb, vc⟩], nx, v4, by rw [List.length_append]; simp; omega, rfl, rfl, by rw [List.length_append]; go_num, by unfold Hid; rw [List.length_append, ← HAC.out]; simp [Nat.sub_sub], ho4, hb4, hA.kept hb4⟩
        case measure => simp [intOf]; omega
      · have t1 : (e0 != 0) = true := by simpa using he
        rw [if_neg he] at HAC
        go_wp2_with fail
        go_ret3
        exact ⟨by rw [HT.out, ← HAC.out]; exact RetR.no _ _, hb3⟩
    · obtain ⟨A2, c2, rfl, hl2, hm2, hC2⟩ := hown.cs
      go_wp2_with fail
      go_ret3
      have he : acc.length = n := by omega
      have hacc2 := hacc.out
      rw [he, Nat.sub_self, rR] at hacc2
      refine ⟨?_, hbr⟩
      rw [HT.out, ← hacc2]
      exact ⟨A2, c2, rfl, hl2, hm2, hC2⟩

set_option maxRecDepth 100000 in
set_option maxHeartbeats 4000000 in
theorem RRow_bad (A : Option Addr) (l : List UInt8) (c : Nat) (at_ : Int) (n k e0 : Int) (w : World) (hA : Cs w A (B l)) (hlc : l.length ≤ c) (hc : c ≤ maxLen) (hr : (n, k, e0) = dI l at_) (h : ¬ e0 = 0 ∨ n < 0 ∨ 12 < n) :
    Calls Try.prog 45 #[.slice A l.length c, .int .i64 at_] w fun e w' => RetR (dR l at_) e w' ∧ Below w.heap.size w w' := by
  by_cases he : e0 = 0
  · subst he
    by_cases hn : n < 0
    · have HT : Hid (dR l at_ = ([], 0, 1)) := by
        unfold Hid dR
        rw [← hr]
        simp only [if_true]
        rw [if_pos hn]
      have HR := Lib.hid hr
      clear hr h
      go_enter Try.func45, Try.ntmps45
      go_wp2_with fail
      refine (RInt_any A l c at_ w hA hlc hc).mono ?_
      rintro e w1 ⟨hr1, rfl⟩
      rw [← HR.out] at hr1
      unfold Ret3 at hr1
      subst hr1
      go_wp2
      go_ret3
      exact ⟨by rw [HT.out]; exact RetR.no _ _, Below.refl _ _⟩
    · have hn2 : 12 < n := by omega
      have hn3 : 0 ≤ n := by omega
      have HT : Hid (dR l at_ = ([], 0, 5)) := by
        unfold Hid dR
        rw [← hr]
        simp only [if_true]
        rw [if_neg hn, if_pos hn2]
      have HR := Lib.hid hr
      clear hr h hn
      go_enter Try.func45, Try.ntmps45
      go_wp2_with fail
      refine (RInt_any A l c at_ w hA hlc hc).mono ?_
      rintro e w1 ⟨hr1, rfl⟩
      rw [← HR.out] at hr1
      unfold Ret3 at hr1
      subst hr1
      go_wp2
      go_ret3
      exact ⟨by rw [HT.out]; exact RetR.no _ _, Below.refl _ _⟩
  · have HT : Hid (dR l at_ = ([], 0, e0)) := by
      unfold Hid dR
      rw [← hr, if_neg he]
    have t1 : (e0 != 0) = true := by simpa using he
    have HR := Lib.hid hr
    clear hr h
    go_enter Try.func45, Try.ntmps45
    go_wp2_with fail
    refine (RInt_any A l c at_ w hA hlc hc).mono ?_
    rintro e w1 ⟨hr1, rfl⟩
    rw [← HR.out] at hr1
    unfold Ret3 at hr1
    subst hr1
    go_wp2
    go_ret3
    exact ⟨by rw [HT.out]; exact RetR.no _ _, Below.refl _ _⟩

theorem RRow_any (A : Option Addr) (l : List UInt8) (c : Nat) (at_ : Int) (w : World) (hA : Cs w A (B l)) (hlc : l.length ≤ c) (hc : c ≤ maxLen) :
    Calls Try.prog 45 #[.slice A l.length c, .int .i64 at_] w fun e w' => RetR (dR l at_) e w' ∧ Below w.heap.size w w' := by
  obtain ⟨r, hr⟩ : ∃ r, r = dI l at_ := ⟨_, rfl⟩
  obtain ⟨n, k, e0⟩ := r
  by_cases h : ¬ e0 = 0 ∨ n < 0 ∨ 12 < n
  · exact RRow_bad A l c at_ n k e0 w hA hlc hc hr h
  · obtain rfl : e0 = 0 := by omega
    obtain ⟨m, rfl⟩ := Int.eq_ofNat_of_zero_le (show 0 ≤ n by omega)
    exact RRow_ok A l c at_ m k w hA hlc hc hr (by omega)

end Go.Proofs.Ytoejegphjlichaa
