/- The contracts of Period, of package codec and of the reference: which period is read from any bytes. -/
import Derived.Test.YtoejegphjlichaaRedc
import Derived.Test.YtoejegphjlichaaCodd
namespace Go.Proofs.Ytoejegphjlichaa
open Go.RowKit
set_option linter.unusedVariables false

/-- A valid period. -/
def vP (a b : Int) : Bool := decide (0 ≤ a) && decide (a < b) && decide (b ≤ 1099511627776)

set_option maxRecDepth 100000 in
theorem pValid_any (a b : Int) (w : World) :
    Calls Try.prog 60 #[.agg #[.int .i64 a, .int .i64 b]] w fun e w' => e = .returned (.bool (vP a b)) ∧ Below w.heap.size w w' := by
  have hbb : Below w.heap.size w (w.alloc (.cells #[.int .i64 a, .int .i64 b] 44)) := (Below.refl _ _).alloc (Nat.le_refl _) _
  by_cases h1 : 0 ≤ a
  · by_cases h2 : a < b
    · have e : vP a b = decide (b ≤ 1099511627776) := by simp [vP, h1, h2]
      rw [e]
      clear e
      go_enter Try.func60, Try.ntmps60
      go_wp2
      go_ret
      exact ⟨rfl, hbb⟩
    · have e : vP a b = false := by simp [vP, h2]
      rw [e]
      clear e
      go_enter Try.func60, Try.ntmps60
      go_wp2
      go_ret
      exact ⟨rfl, hbb⟩
  · have e : vP a b = false := by simp [vP, h1]
    rw [e]
    clear e
    go_enter Try.func60, Try.ntmps60
    go_wp2
    go_ret
    exact ⟨rfl, hbb⟩

/-- The period at an offset, the offset after it, the error. -/
def dP (l : List UInt8) (at_ : Int) : (Int × Int) × Int × Int :=
  let r := dI l at_
  if r.2.2 = 0 then
    let s := dI l r.2.1
    if s.2.2 = 0 then if vP r.1 s.1 then ((r.1, s.1), s.2.1, 0) else ((0, 0), 0, 6) else ((0, 0), 0, s.2.2)
  else ((0, 0), 0, r.2.2)
/-- The call has returned a period and two numbers. -/
def RetP (r : (Int × Int) × Int × Int) (e : Ending) : Prop := e = .returned (.tuple #[.agg #[.int .i64 r.1.1, .int .i64 r.1.2], .int .i64 r.2.1, .int .i64 r.2.2])

set_option maxRecDepth 100000 in
set_option maxHeartbeats 2000000 in
theorem Period_any (A : Option Addr) (l : List UInt8) (c : Nat) (at_ : Int) (w : World) (hA : Cs w A (B l)) (hlc : l.length ≤ c) (hc : c ≤ maxLen) :
    Calls Try.prog 39 #[.slice A l.length c, .int .i64 at_] w fun e w' => RetP (dP l at_) e ∧ Below w.heap.size w w' := by
  obtain ⟨r, hr⟩ : ∃ r, r = dI l at_ := ⟨_, rfl⟩
  obtain ⟨n, k, e0⟩ := r
  have hA1 : Cs (w.alloc (.cells #[.int .i64 0, .int .i64 0] 44)) A (B l) := hA.alloc _
  have HT : Hid (dP l at_ = if e0 = 0 then if (dI l k).2.2 = 0 then if vP n (dI l k).1 then ((n, (dI l k).1), (dI l k).2.1, 0) else ((0, 0), 0, 6) else ((0, 0), 0, (dI l k).2.2) else ((0, 0), 0, e0)) := by
    unfold Hid dP
    rw [← hr]
  have hb0 : Below w.heap.size w (w.alloc (.cells #[.int .i64 0, .int .i64 0] 44)) := (Below.refl _ _).alloc (Nat.le_refl _) _
  by_cases he : e0 = 0
  · subst he
    obtain ⟨s, hs⟩ : ∃ s, s = dI l k := ⟨_, rfl⟩
    obtain ⟨m, k2, e1⟩ := s
    rw [if_pos rfl, ← hs] at HT
    have HR := Lib.hid hr
    clear hr
    by_cases he1 : e1 = 0
    · subst he1
      rw [if_pos rfl] at HT
      have HS := Lib.hid hs
      clear hs
      go_enter Try.func39, Try.ntmps39
      go_wp2_with fail
      refine (Int_any A l c at_ _ hA1 hlc hc).mono ?_
      rintro e w1 ⟨hr1, rfl⟩
      rw [← HR.out] at hr1
      unfold Ret3 at hr1
      subst hr1
      go_wp2_with fail
      refine (Int_any A l c k _ hA1 hlc hc).mono ?_
      rintro e w1 ⟨hr1, rfl⟩
      rw [← HS.out] at hr1
      unfold Ret3 at hr1
      subst hr1
      go_wp2_with fail
      refine (pValid_any n m _).mono ?_
      rintro e w1 ⟨rfl, hb1⟩
      have hk : w1.heap[w.heap.size]? = some (.cells #[.int .i64 0, .int .i64 0] 44 (0, 0)) := blk_kept hb1 (blk_alloc (blk_new _ _) _)
      have hbx := (hb0.alloc (by simp) _).trans (hb1.mono (by simp; omega))
      obtain ⟨hcc, hff⟩ := old_of hb1
      have hz := hb1.size
      simp only [World.size_alloc] at hz
      cases hv : vP n m
      · have HV := Lib.hid hv
        clear hv
        go_wp2
        refine bodyPost_ret (res_ctt rfl _ _ w.heap.size 44 #[.int .i64 0, .int .i64 0] (0, 0) _ rfl (set_block (set_block hk 0 _) 1 _) Try.underlying44 rfl (by kernel_rfl)) rfl ⟨?_, ?_⟩
        · rw [HT.out, HV.out]
          rfl
        · exact (hbx.setCell (by exact Nat.le_refl _) _).setCell (by exact Nat.le_refl _) _
      · have HV := Lib.hid hv
        clear hv
        go_wp2
        refine bodyPost_ret (res_ctt rfl _ _ w.heap.size 44 #[.int .i64 n, .int .i64 m] (0, 0) _ rfl (set_block (set_block hk 0 _) 1 _) Try.underlying44 rfl (by kernel_rfl)) rfl ⟨?_, ?_⟩
        · rw [HT.out, HV.out]
          rfl
        · exact (hbx.setCell (by exact Nat.le_refl _) _).setCell (by exact Nat.le_refl _) _
    · have ht := dI_err hs.symm he1
      rw [if_neg he1] at HT
      have HS := Lib.hid hs
      have t1 : (e1 != 0) = true := by simpa using he1
      clear hs ht
      go_enter Try.func39, Try.ntmps39
      go_wp2_with fail
      refine (Int_any A l c at_ _ hA1 hlc hc).mono ?_
      rintro e w1 ⟨hr1, rfl⟩
      rw [← HR.out] at hr1
      unfold Ret3 at hr1
      subst hr1
      go_wp2_with fail
      refine (Int_any A l c k _ hA1 hlc hc).mono ?_
      rintro e w1 ⟨hr1, rfl⟩
      rw [← HS.out] at hr1
      unfold Ret3 at hr1
      subst hr1
      go_wp2
      refine bodyPost_ret (res_ctt rfl _ _ w.heap.size 44 #[.int .i64 0, .int .i64 0] (0, 0) _ rfl (by first | exact blk_new _ _ | exact set_block (set_block (blk_new _ _) 0 _) 1 _) Try.underlying44 rfl (by kernel_rfl)) rfl ⟨?_, ?_⟩
      · rw [HT.out]
        rfl
      · first | exact hb0 | exact (hb0.setCell (by exact Nat.le_refl _) _).setCell (by exact Nat.le_refl _) _
  · rw [if_neg he] at HT
    have HR := Lib.hid hr
    have t1 : (e0 != 0) = true := by simpa using he
    clear hr
    go_enter Try.func39, Try.ntmps39
    go_wp2_with fail
    refine (Int_any A l c at_ _ hA1 hlc hc).mono ?_
    rintro e w1 ⟨hr1, rfl⟩
    rw [← HR.out] at hr1
    unfold Ret3 at hr1
    subst hr1
    go_wp2
    refine bodyPost_ret (res_ctt rfl _ _ w.heap.size 44 #[.int .i64 0, .int .i64 0] (0, 0) _ rfl (by first | exact blk_new _ _ | exact set_block (set_block (blk_new _ _) 0 _) 1 _) Try.underlying44 rfl (by kernel_rfl)) rfl ⟨?_, ?_⟩
    · rw [HT.out]
      rfl
    · first | exact hb0 | exact (hb0.setCell (by exact Nat.le_refl _) _).setCell (by exact Nat.le_refl _) _

set_option maxRecDepth 100000 in
set_option maxHeartbeats 2000000 in
theorem RPeriod_any (A : Option Addr) (l : List UInt8) (c : Nat) (at_ : Int) (w : World) (hA : Cs w A (B l)) (hlc : l.length ≤ c) (hc : c ≤ maxLen) :
    Calls Try.prog 40 #[.slice A l.length c, .int .i64 at_] w fun e w' => RetP (dP l at_) e ∧ Below w.heap.size w w' := by
  obtain ⟨r, hr⟩ : ∃ r, r = dI l at_ := ⟨_, rfl⟩
  obtain ⟨n, k, e0⟩ := r
  have hA1 : Cs (w.alloc (.cells #[.int .i64 0, .int .i64 0] 44)) A (B l) := hA.alloc _
  have HT : Hid (dP l at_ = if e0 = 0 then if (dI l k).2.2 = 0 then if vP n (dI l k).1 then ((n, (dI l k).1), (dI l k).2.1, 0) else ((0, 0), 0, 6) else ((0, 0), 0, (dI l k).2.2) else ((0, 0), 0, e0)) := by
    unfold Hid dP
    rw [← hr]
  have hb0 : Below w.heap.size w (w.alloc (.cells #[.int .i64 0, .int .i64 0] 44)) := (Below.refl _ _).alloc (Nat.le_refl _) _
  by_cases he : e0 = 0
  · subst he
    obtain ⟨s, hs⟩ : ∃ s, s = dI l k := ⟨_, rfl⟩
    obtain ⟨m, k2, e1⟩ := s
    rw [if_pos rfl, ← hs] at HT
    have HR := Lib.hid hr
    clear hr
    by_cases he1 : e1 = 0
    · subst he1
      rw [if_pos rfl] at HT
      have HS := Lib.hid hs
      clear hs
      have hbx : ∀ o : Obj, Below w.heap.size w (w.alloc o) := fun o => (Below.refl _ _).alloc (Nat.le_refl _) _
      by_cases v1 : n < 0
      · have HV : Hid (vP n m = false) := by unfold Hid vP; rw [decide_eq_false (show ¬ 0 ≤ n by omega)]; rfl
        go_enter Try.func40, Try.ntmps40
        go_wp2_with fail
        refine (RInt_any A l c at_ _ hA1 hlc hc).mono ?_
        rintro e w1 ⟨hr1, rfl⟩
        rw [← HR.out] at hr1
        unfold Ret3 at hr1
        subst hr1
        go_wp2_with fail
        refine (RInt_any A l c k _ hA1 hlc hc).mono ?_
        rintro e w1 ⟨hr1, rfl⟩
        rw [← HS.out] at hr1
        unfold Ret3 at hr1
        subst hr1
        go_wp2
        refine bodyPost_ret (res_ctt rfl _ _ w.heap.size 44 #[.int .i64 0, .int .i64 0] (0, 0) _ rfl (by first | exact blk_new _ _ | exact set_block (set_block (blk_new _ _) 0 _) 1 _) Try.underlying44 rfl (by kernel_rfl)) rfl ⟨?_, ?_⟩
        · rw [HT.out, HV.out]
          rfl
        · first | exact hbx _ | exact (hb0.setCell (by exact Nat.le_refl _) _).setCell (by exact Nat.le_refl _) _
      · by_cases v2 : m ≤ n
        · have HV : Hid (vP n m = false) := by unfold Hid vP; rw [decide_eq_false (show ¬ n < m by omega)]; simp
          go_enter Try.func40, Try.ntmps40
          go_wp2_with fail
          refine (RInt_any A l c at_ _ hA1 hlc hc).mono ?_
          rintro e w1 ⟨hr1, rfl⟩
          rw [← HR.out] at hr1
          unfold Ret3 at hr1
          subst hr1
          go_wp2_with fail
          refine (RInt_any A l c k _ hA1 hlc hc).mono ?_
          rintro e w1 ⟨hr1, rfl⟩
          rw [← HS.out] at hr1
          unfold Ret3 at hr1
          subst hr1
          go_wp2
          refine bodyPost_ret (res_ctt rfl _ _ w.heap.size 44 #[.int .i64 0, .int .i64 0] (0, 0) _ rfl (by first | exact blk_new _ _ | exact set_block (set_block (blk_new _ _) 0 _) 1 _) Try.underlying44 rfl (by kernel_rfl)) rfl ⟨?_, ?_⟩
          · rw [HT.out, HV.out]
            rfl
          · first | exact hbx _ | exact (hb0.setCell (by exact Nat.le_refl _) _).setCell (by exact Nat.le_refl _) _
        · by_cases v3 : 1099511627776 < m
          · have HV : Hid (vP n m = false) := by unfold Hid vP; rw [decide_eq_false (show ¬ m ≤ 1099511627776 by omega)]; simp
            go_enter Try.func40, Try.ntmps40
            go_wp2_with fail
            refine (RInt_any A l c at_ _ hA1 hlc hc).mono ?_
            rintro e w1 ⟨hr1, rfl⟩
            rw [← HR.out] at hr1
            unfold Ret3 at hr1
            subst hr1
            go_wp2_with fail
            refine (RInt_any A l c k _ hA1 hlc hc).mono ?_
            rintro e w1 ⟨hr1, rfl⟩
            rw [← HS.out] at hr1
            unfold Ret3 at hr1
            subst hr1
            go_wp2
            refine bodyPost_ret (res_ctt rfl _ _ w.heap.size 44 #[.int .i64 0, .int .i64 0] (0, 0) _ rfl (by first | exact blk_new _ _ | exact set_block (set_block (blk_new _ _) 0 _) 1 _) Try.underlying44 rfl (by kernel_rfl)) rfl ⟨?_, ?_⟩
            · rw [HT.out, HV.out]
              rfl
            · first | exact hbx _ | exact (hb0.setCell (by exact Nat.le_refl _) _).setCell (by exact Nat.le_refl _) _
          · have HV : Hid (vP n m = true) := by unfold Hid vP; simp; omega
            go_enter Try.func40, Try.ntmps40
            go_wp2_with fail
            refine (RInt_any A l c at_ _ hA1 hlc hc).mono ?_
            rintro e w1 ⟨hr1, rfl⟩
            rw [← HR.out] at hr1
            unfold Ret3 at hr1
            subst hr1
            go_wp2_with fail
            refine (RInt_any A l c k _ hA1 hlc hc).mono ?_
            rintro e w1 ⟨hr1, rfl⟩
            rw [← HS.out] at hr1
            unfold Ret3 at hr1
            subst hr1
            go_wp2
            refine bodyPost_ret (res_ctt rfl _ _ w.heap.size 44 #[.int .i64 n, .int .i64 m] (0, 0) _ rfl (by first | exact blk_new _ _ | exact set_block (set_block (blk_new _ _) 0 _) 1 _) Try.underlying44 rfl (by kernel_rfl)) rfl ⟨?_, ?_⟩
            · rw [HT.out, HV.out]
              rfl
            · first | exact hbx _ | exact (hb0.setCell (by exact Nat.le_refl _) _).setCell (by exact Nat.le_refl _) _
    · have ht := dI_err hs.symm he1
      rw [if_neg he1] at HT
      have HS := Lib.hid hs
      have t1 : (e1 != 0) = true := by simpa using he1
      clear hs ht
      go_enter Try.func40, Try.ntmps40
      go_wp2_with fail
      refine (RInt_any A l c at_ _ hA1 hlc hc).mono ?_
      rintro e w1 ⟨hr1, rfl⟩
      rw [← HR.out] at hr1
      unfold Ret3 at hr1
      subst hr1
      go_wp2_with fail
      refine (RInt_any A l c k _ hA1 hlc hc).mono ?_
      rintro e w1 ⟨hr1, rfl⟩
      rw [← HS.out] at hr1
      unfold Ret3 at hr1
      subst hr1
      go_wp2
      refine bodyPost_ret (res_ctt rfl _ _ w.heap.size 44 #[.int .i64 0, .int .i64 0] (0, 0) _ rfl (by first | exact blk_new _ _ | exact set_block (set_block (blk_new _ _) 0 _) 1 _) Try.underlying44 rfl (by kernel_rfl)) rfl ⟨?_, ?_⟩
      · rw [HT.out]
        rfl
      · first | exact hb0 | exact (hb0.setCell (by exact Nat.le_refl _) _).setCell (by exact Nat.le_refl _) _
  · rw [if_neg he] at HT
    have HR := Lib.hid hr
    have t1 : (e0 != 0) = true := by simpa using he
    clear hr
    go_enter Try.func40, Try.ntmps40
    go_wp2_with fail
    refine (RInt_any A l c at_ _ hA1 hlc hc).mono ?_
    rintro e w1 ⟨hr1, rfl⟩
    rw [← HR.out] at hr1
    unfold Ret3 at hr1
    subst hr1
    go_wp2
    refine bodyPost_ret (res_ctt rfl _ _ w.heap.size 44 #[.int .i64 0, .int .i64 0] (0, 0) _ rfl (by first | exact blk_new _ _ | exact set_block (set_block (blk_new _ _) 0 _) 1 _) Try.underlying44 rfl (by kernel_rfl)) rfl ⟨?_, ?_⟩
    · rw [HT.out]
      rfl
    · first | exact hb0 | exact (hb0.setCell (by exact Nat.le_refl _) _).setCell (by exact Nat.le_refl _) _

end Go.Proofs.Ytoejegphjlichaa
