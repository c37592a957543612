/- The contracts of Value, of package codec and of the reference: which value is read from any bytes. -/
import Derived.Test.YtoejegphjlichaaRedc
import Derived.Test.YtoejegphjlichaaVala
namespace Go.Proofs.Ytoejegphjlichaa
open Go.RowKit
set_option linter.unusedVariables false

theorem dT_ok {l : List UInt8} {at_ most k : Int} {s : List UInt8} (h : dT l at_ most = (s, k, 0)) : 0 ≤ at_ ∧ at_ < k ∧ k ≤ l.length ∧ (s.length : Int) ≤ (if most < 0 then 0 else most) := by
  unfold dT at h
  obtain ⟨r, hr⟩ : ∃ r, r = dI l at_ := ⟨_, rfl⟩
  obtain ⟨n, k0, e0⟩ := r
  rw [← hr] at h
  simp only at h
  by_cases he : e0 = 0
  · subst he
    have hok := dI_ok hr.symm
    rw [if_pos rfl] at h
    by_cases h1 : n < 0
    · rw [if_pos h1] at h; simp at h
    · rw [if_neg h1] at h
      by_cases h2 : (if most < 0 then 0 else most) < n
      · rw [if_pos h2] at h; simp at h
      · rw [if_neg h2] at h
        by_cases h3 : (l.length : Int) - k0 < n
        · rw [if_pos h3] at h; simp at h
        · rw [if_neg h3] at h
          simp only [Prod.mk.injEq] at h
          obtain ⟨rfl, rfl, _⟩ := h
          refine ⟨hok.1, by omega, by omega, ?_⟩
          rw [List.length_take, List.length_drop]
          omega
  · rw [if_neg he] at h
    simp only [Prod.mk.injEq] at h
    omega

/-- The value at an offset, the offset after it, the error. -/
def dV (l : List UInt8) (at_ : Int) : Val × Int × Int :=
  let no : Val := ⟨0, 0, ⟨#[]⟩⟩
  if at_ < 0 ∨ (l.length : Int) < at_ then (no, 0, 6) else if at_ = l.length then (no, 0, 2) else
  let b := (l.getD at_.toNat 0).toNat
  if b = 0 then (no, at_ + 1, 0)
  else if b = 1 then
    let r := dI l (at_ + 1)
    if r.2.2 = 0 then if r.1 < -1125899906842624 ∨ 1125899906842624 < r.1 then (no, 0, 6) else (⟨1, r.1, ⟨#[]⟩⟩, r.2.1, 0) else (no, 0, r.2.2)
  else if b = 2 then
    let r := dT l (at_ + 1) 200
    if r.2.2 = 0 then if pr r.1 then (⟨2, 0, ⟨r.1.toArray⟩⟩, r.2.1, 0) else (no, 0, 1) else (no, 0, r.2.2)
  else if b = 3 ∨ b = 4 then (⟨3, (b : Int) - 3, ⟨#[]⟩⟩, at_ + 1, 0)
  else (no, 0, 1)
/-- The call has returned a value and two numbers. -/
def RetV (r : Val × Int × Int) (e : Ending) : Prop := e = .returned (.tuple #[.agg r.1.cells.toArray, .int .i64 r.2.1, .int .i64 r.2.2])
/-- The value without anything. -/
def noV : Val := ⟨0, 0, ⟨#[]⟩⟩

theorem blk3 {w : World} {g : Nat} (h : w.heap[g]? = some (.cells #[.int .i64 0, .int .i64 0, .string ⟨#[]⟩] 37 (0, 0))) (a b : Int) (s : ByteArray) :
    (((w.setCell ⟨g, 0, none⟩ (.int .i64 a)).setCell ⟨g, 1, none⟩ (.int .i64 b)).setCell ⟨g, 2, none⟩ (.string s)).heap[g]? = some (.cells #[.int .i64 a, .int .i64 b, .string s] 37 (0, 0)) :=
  set_block (set_block (set_block h 0 _) 1 _) 2 _

set_option maxRecDepth 100000 in
set_option maxHeartbeats 2000000 in
theorem Value_out (A : Option Addr) (l : List UInt8) (c : Nat) (at_ : Int) (w : World) (hA : Cs w A (B l)) (hlc : l.length ≤ c) (hc : c ≤ maxLen) (h : at_ < 0 ∨ (l.length : Int) < at_) :
    Calls Try.prog 42 #[.slice A l.length c, .int .i64 at_] w fun e w' => RetV (dV l at_) e ∧ Below w.heap.size w w' := by
  have hm9 : (l.length : Int) ≤ 9223372036854775807 := by unfold maxLen at hc; omega
  have HT : Hid (dV l at_ = (noV, 0, 6)) := by unfold Hid dV; rw [if_pos h]; rfl
  have hb0 : Below w.heap.size w (w.alloc (.cells #[.int .i64 0, .int .i64 0, .string ⟨#[]⟩] 37)) := (Below.refl _ _).alloc (Nat.le_refl _) _
  have hk : (w.alloc (.cells #[.int .i64 0, .int .i64 0, .string ⟨#[]⟩] 37)).heap[w.heap.size]? = some (.cells #[.int .i64 0, .int .i64 0, .string ⟨#[]⟩] 37 (0, 0)) := blk_new _ _
  rcases h with h | h
  · go_enter Try.func42, Try.ntmps42
    go_wp2
    first
      | exact bodyPost_ret (res_ctt rfl _ _ w.heap.size 37 #[.int .i64 0, .int .i64 0, .string ⟨#[]⟩] (0, 0) _ rfl (blk_new _ _) Try.underlying37 rfl (by kernel_rfl)) rfl ⟨by rw [HT.out]; rfl, (Below.refl _ _).alloc (Nat.le_refl _) _⟩
      | exact bodyPost_ret (res_ctt rfl _ _ w.heap.size 37 #[.int .i64 0, .int .i64 0, .string ⟨#[]⟩] (0, 0) _ rfl (blk3 hk _ _ _) Try.underlying37 rfl (by kernel_rfl)) rfl ⟨by rw [HT.out]; rfl, ((hb0.setCell (by exact Nat.le_refl _) _).setCell (by exact Nat.le_refl _) _).setCell (by exact Nat.le_refl _) _⟩
  · have h0 : (0 : Int) ≤ at_ := by omega
    go_enter Try.func42, Try.ntmps42
    go_wp2
    first
      | exact bodyPost_ret (res_ctt rfl _ _ w.heap.size 37 #[.int .i64 0, .int .i64 0, .string ⟨#[]⟩] (0, 0) _ rfl (blk_new _ _) Try.underlying37 rfl (by kernel_rfl)) rfl ⟨by rw [HT.out]; rfl, (Below.refl _ _).alloc (Nat.le_refl _) _⟩
      | exact bodyPost_ret (res_ctt rfl _ _ w.heap.size 37 #[.int .i64 0, .int .i64 0, .string ⟨#[]⟩] (0, 0) _ rfl (blk3 hk _ _ _) Try.underlying37 rfl (by kernel_rfl)) rfl ⟨by rw [HT.out]; rfl, ((hb0.setCell (by exact Nat.le_refl _) _).setCell (by exact Nat.le_refl _) _).setCell (by exact Nat.le_refl _) _⟩

set_option maxRecDepth 100000 in
set_option maxHeartbeats 2000000 in
theorem Value_end (A : Option Addr) (l : List UInt8) (c : Nat) (w : World) (hA : Cs w A (B l)) (hlc : l.length ≤ c) (hc : c ≤ maxLen) :
    Calls Try.prog 42 #[.slice A l.length c, .int .i64 (l.length : Int)] w fun e w' => RetV (dV l (l.length : Int)) e ∧ Below w.heap.size w w' := by
  have hm9 : l.length ≤ 9223372036854775807 := by unfold maxLen at hc; omega
  have HT : Hid (dV l (l.length : Int) = (noV, 0, 2)) := by unfold Hid dV; rw [if_neg (by omega), if_pos rfl]; rfl
  have hb0 : Below w.heap.size w (w.alloc (.cells #[.int .i64 0, .int .i64 0, .string ⟨#[]⟩] 37)) := (Below.refl _ _).alloc (Nat.le_refl _) _
  have hk : (w.alloc (.cells #[.int .i64 0, .int .i64 0, .string ⟨#[]⟩] 37)).heap[w.heap.size]? = some (.cells #[.int .i64 0, .int .i64 0, .string ⟨#[]⟩] 37 (0, 0)) := blk_new _ _
  go_enter Try.func42, Try.ntmps42
  go_wp2
  first
    | exact bodyPost_ret (res_ctt rfl _ _ w.heap.size 37 #[.int .i64 0, .int .i64 0, .string ⟨#[]⟩] (0, 0) _ rfl (blk_new _ _) Try.underlying37 rfl (by kernel_rfl)) rfl ⟨by rw [HT.out]; rfl, (Below.refl _ _).alloc (Nat.le_refl _) _⟩
    | exact bodyPost_ret (res_ctt rfl _ _ w.heap.size 37 #[.int .i64 0, .int .i64 0, .string ⟨#[]⟩] (0, 0) _ rfl (blk3 hk _ _ _) Try.underlying37 rfl (by kernel_rfl)) rfl ⟨by rw [HT.out]; rfl, ((hb0.setCell (by exact Nat.le_refl _) _).setCell (by exact Nat.le_refl _) _).setCell (by exact Nat.le_refl _) _⟩

set_option maxRecDepth 100000 in
set_option maxHeartbeats 16000000 in
theorem Value_in (A : Option Addr) (l : List UInt8) (c i : Nat) (w : World) (hA : Cs w A (B l)) (hlc : l.length ≤ c) (hc : c ≤ maxLen) (hi : i < l.length) :
    Calls Try.prog 42 #[.slice A l.length c, .int .i64 (i : Int)] w fun e w' => RetV (dV l (i : Int)) e ∧ Below w.heap.size w w' := by
  have hm9 : l.length ≤ 9223372036854775807 := by unfold maxLen at hc; omega
  have hi9 : i ≤ 9223372036854775806 := by omega
  have hb0 : Below w.heap.size w (w.alloc (.cells #[.int .i64 0, .int .i64 0, .string ⟨#[]⟩] 37)) := (Below.refl _ _).alloc (Nat.le_refl _) _
  have hk : (w.alloc (.cells #[.int .i64 0, .int .i64 0, .string ⟨#[]⟩] 37)).heap[w.heap.size]? = some (.cells #[.int .i64 0, .int .i64 0, .string ⟨#[]⟩] 37 (0, 0)) := blk_new _ _
  have hA1 : Cs (w.alloc (.cells #[.int .i64 0, .int .i64 0, .string ⟨#[]⟩] 37)) A (B l) := hA.alloc _
  obtain ⟨a, rfl, hcell⟩ := byte_at hA1 hi
  obtain ⟨b, hb⟩ : ∃ b, b = (l.getD i 0).toNat := ⟨_, rfl⟩
  have hb256 : b < 256 := by rw [hb]; exact UInt8.toNat_lt _
  rw [← hb] at hcell
  have HT : Hid (dV l (i : Int) = if b = 0 then (noV, (i : Int) + 1, 0) else if b = 1 then (if (dI l ((i : Int) + 1)).2.2 = 0 then if (dI l ((i : Int) + 1)).1 < -1125899906842624 ∨ 1125899906842624 < (dI l ((i : Int) + 1)).1 then (noV, 0, 6) else (⟨1, (dI l ((i : Int) + 1)).1, ⟨#[]⟩⟩, (dI l ((i : Int) + 1)).2.1, 0) else (noV, 0, (dI l ((i : Int) + 1)).2.2))
      else if b = 2 then (if (dT l ((i : Int) + 1) 200).2.2 = 0 then if pr (dT l ((i : Int) + 1) 200).1 then (⟨2, 0, ⟨(dT l ((i : Int) + 1) 200).1.toArray⟩⟩, (dT l ((i : Int) + 1) 200).2.1, 0) else (noV, 0, 1) else (noV, 0, (dT l ((i : Int) + 1) 200).2.2))
      else if b = 3 ∨ b = 4 then (⟨3, (b : Int) - 3, ⟨#[]⟩⟩, (i : Int) + 1, 0) else (noV, 0, 1)) := by
    unfold Hid dV
    rw [if_neg (by omega), if_neg (by omega), show (i : Int).toNat = i from rfl, ← hb]
    rfl
  clear hb
  by_cases b0 : b = 0
  · subst b0
    rw [if_pos rfl] at HT
    go_enter Try.func42, Try.ntmps42
    go_wp2
    first
      | exact bodyPost_ret (res_ctt rfl _ _ w.heap.size 37 #[.int .i64 0, .int .i64 0, .string ⟨#[]⟩] (0, 0) _ rfl (blk_new _ _) Try.underlying37 rfl (by kernel_rfl)) rfl ⟨by rw [HT.out]; rfl, (Below.refl _ _).alloc (Nat.le_refl _) _⟩
      | exact bodyPost_ret (res_ctt rfl _ _ w.heap.size 37 #[.int .i64 0, .int .i64 0, .string ⟨#[]⟩] (0, 0) _ rfl (blk3 hk _ _ _) Try.underlying37 rfl (by kernel_rfl)) rfl ⟨by rw [HT.out]; rfl, ((hb0.setCell (by exact Nat.le_refl _) _).setCell (by exact Nat.le_refl _) _).setCell (by exact Nat.le_refl _) _⟩
  by_cases b1 : b = 1
  · subst b1
    rw [if_neg (by decide), if_pos rfl] at HT
    obtain ⟨r, hr⟩ : ∃ r, r = dI l ((i : Int) + 1) := ⟨_, rfl⟩
    obtain ⟨n, k, e0⟩ := r
    rw [← hr] at HT
    simp only at HT
    by_cases he : e0 = 0
    · subst he
      rw [if_pos rfl] at HT
      have HR := Lib.hid hr
      clear hr
      by_cases hn1 : n < -1125899906842624
      · rw [if_pos (.inl hn1)] at HT
        go_enter Try.func42, Try.ntmps42
        go_wp2_with fail
        refine (Int_any (some a) l c _ _ hA1 hlc hc).mono ?_
        rintro e w1 ⟨hr1, rfl⟩
        rw [← HR.out] at hr1
        unfold Ret3 at hr1
        subst hr1
        go_wp2
        first
          | exact bodyPost_ret (res_ctt rfl _ _ w.heap.size 37 #[.int .i64 0, .int .i64 0, .string ⟨#[]⟩] (0, 0) _ rfl (blk_new _ _) Try.underlying37 rfl (by kernel_rfl)) rfl ⟨by rw [HT.out]; rfl, (Below.refl _ _).alloc (Nat.le_refl _) _⟩
          | exact bodyPost_ret (res_ctt rfl _ _ w.heap.size 37 #[.int .i64 0, .int .i64 0, .string ⟨#[]⟩] (0, 0) _ rfl (blk3 hk _ _ _) Try.underlying37 rfl (by kernel_rfl)) rfl ⟨by rw [HT.out]; rfl, ((hb0.setCell (by exact Nat.le_refl _) _).setCell (by exact Nat.le_refl _) _).setCell (by exact Nat.le_refl _) _⟩
      · by_cases hn2 : 1125899906842624 < n
        · rw [if_pos (.inr hn2)] at HT
          have hn3 : -1125899906842624 ≤ n := by omega
          clear hn1
          go_enter Try.func42, Try.ntmps42
          go_wp2_with fail
          refine (Int_any (some a) l c _ _ hA1 hlc hc).mono ?_
          rintro e w1 ⟨hr1, rfl⟩
          rw [← HR.out] at hr1
          unfold Ret3 at hr1
          subst hr1
          go_wp2
          first
            | exact bodyPost_ret (res_ctt rfl _ _ w.heap.size 37 #[.int .i64 0, .int .i64 0, .string ⟨#[]⟩] (0, 0) _ rfl (blk_new _ _) Try.underlying37 rfl (by kernel_rfl)) rfl ⟨by rw [HT.out]; rfl, (Below.refl _ _).alloc (Nat.le_refl _) _⟩
            | exact bodyPost_ret (res_ctt rfl _ _ w.heap.size 37 #[.int .i64 0, .int .i64 0, .string ⟨#[]⟩] (0, 0) _ rfl (blk3 hk _ _ _) Try.underlying37 rfl (by kernel_rfl)) rfl ⟨by rw [HT.out]; rfl, ((hb0.setCell (by exact Nat.le_refl _) _).setCell (by exact Nat.le_refl _) _).setCell (by exact Nat.le_refl _) _⟩
        · rw [if_neg (by omega)] at HT
          have hn3 : -1125899906842624 ≤ n := by omega
          have hn4 : n ≤ 1125899906842624 := by omega
          clear hn1 hn2
          go_enter Try.func42, Try.ntmps42
          go_wp2_with fail
          refine (Int_any (some a) l c _ _ hA1 hlc hc).mono ?_
          rintro e w1 ⟨hr1, rfl⟩
          rw [← HR.out] at hr1
          unfold Ret3 at hr1
          subst hr1
          go_wp2
          first
            | exact bodyPost_ret (res_ctt rfl _ _ w.heap.size 37 #[.int .i64 1, .int .i64 n, .string ⟨#[]⟩] (0, 0) _ rfl (blk_new _ _) Try.underlying37 rfl (by kernel_rfl)) rfl ⟨by rw [HT.out]; rfl, (Below.refl _ _).alloc (Nat.le_refl _) _⟩
            | exact bodyPost_ret (res_ctt rfl _ _ w.heap.size 37 #[.int .i64 1, .int .i64 n, .string ⟨#[]⟩] (0, 0) _ rfl (blk3 hk _ _ _) Try.underlying37 rfl (by kernel_rfl)) rfl ⟨by rw [HT.out]; rfl, ((hb0.setCell (by exact Nat.le_refl _) _).setCell (by exact Nat.le_refl _) _).setCell (by exact Nat.le_refl _) _⟩
    · have t1 : (e0 != 0) = true := by simpa using he
      rw [if_neg he] at HT
      have HR := Lib.hid hr
      clear hr
      go_enter Try.func42, Try.ntmps42
      go_wp2_with fail
      refine (Int_any (some a) l c _ _ hA1 hlc hc).mono ?_
      rintro e w1 ⟨hr1, rfl⟩
      rw [← HR.out] at hr1
      unfold Ret3 at hr1
      subst hr1
      go_wp2
      first
        | exact bodyPost_ret (res_ctt rfl _ _ w.heap.size 37 #[.int .i64 0, .int .i64 0, .string ⟨#[]⟩] (0, 0) _ rfl (blk_new _ _) Try.underlying37 rfl (by kernel_rfl)) rfl ⟨by rw [HT.out]; rfl, (Below.refl _ _).alloc (Nat.le_refl _) _⟩
        | exact bodyPost_ret (res_ctt rfl _ _ w.heap.size 37 #[.int .i64 0, .int .i64 0, .string ⟨#[]⟩] (0, 0) _ rfl (blk3 hk _ _ _) Try.underlying37 rfl (by kernel_rfl)) rfl ⟨by rw [HT.out]; rfl, ((hb0.setCell (by exact Nat.le_refl _) _).setCell (by exact Nat.le_refl _) _).setCell (by exact Nat.le_refl _) _⟩
  by_cases b2 : b = 2
  · subst b2
    rw [if_neg (by decide), if_neg (by decide), if_pos rfl] at HT
    obtain ⟨r, hr⟩ : ∃ r, r = dT l ((i : Int) + 1) 200 := ⟨_, rfl⟩
    obtain ⟨s, k, e0⟩ := r
    rw [← hr] at HT
    simp only at HT
    by_cases he : e0 = 0
    · subst he
      rw [if_pos rfl] at HT
      have hok := dT_ok hr.symm
      have hs2 : s.length ≤ 200 := by have := hok.2.2.2; rw [if_neg (by decide)] at this; omega
      clear hok
      have HR := Lib.hid hr
      clear hr
      obtain ⟨S, hS⟩ : ∃ S : ByteArray, S = ⟨s.toArray⟩ := ⟨_, rfl⟩
      have hSl : S.size = s.length := by rw [hS]; rfl
      have hSp : pr S.data.toList = pr s := by rw [hS]
      rw [← hS] at HT
      have HSE := Lib.hid hS
      clear hS
      have hvV : vV ⟨2, 0, S⟩ = pr s := by simp [vV, hSp]; omega
      cases hp : pr s
      · rw [hp] at hvV
        rw [if_neg (by simp [hp])] at HT
        clear hp hSp
        go_enter Try.func42, Try.ntmps42
        go_wp2_with fail
        refine (Text_any (some a) l c _ 200 _ hA1 hlc hc).mono ?_
        rintro e w1 ⟨hr1, rfl⟩
        rw [← HR.out] at hr1
        unfold RetT at hr1
        simp only [← HSE.out] at hr1
        subst hr1
        go_wp2_with fail
        have hb1 : Below w.heap.size w ((w.alloc (.cells #[.int .i64 0, .int .i64 0, .string ⟨#[]⟩] 37)).alloc (.cells #[.int .i64 2, .int .i64 0, .string S] 37)) := hb0.alloc (by simp) _
        refine (Valid_any ⟨2, 0, S⟩ _ (by unfold maxLen; simp only; omega)).mono ?_
        rintro e w1 ⟨rfl, hb2⟩
        rw [hvV]
        have hk2 := blk_kept hb2 (blk_alloc hk (.cells #[.int .i64 2, .int .i64 0, .string S] 37))
        have hbx := hb1.trans (hb2.mono (by simp; omega))
        have hv1 : w1.cell? ⟨w.heap.size + 1, 0, none⟩ = some (.int .i64 2) := (at_below hb2 _ 0 (by simp)).trans (blk_cell (by have := blk_new (w.alloc (.cells #[.int .i64 0, .int .i64 0, .string ⟨#[]⟩] 37)) (.cells #[.int .i64 2, .int .i64 0, .string S] 37); rwa [World.size_alloc] at this) rfl)
        have hv2 : w1.cell? ⟨w.heap.size + 1, 1, none⟩ = some (.int .i64 0) := (at_below hb2 _ 1 (by simp)).trans (blk_cell (by have := blk_new (w.alloc (.cells #[.int .i64 0, .int .i64 0, .string ⟨#[]⟩] 37)) (.cells #[.int .i64 2, .int .i64 0, .string S] 37); rwa [World.size_alloc] at this) rfl)
        have hv3 : w1.cell? ⟨w.heap.size + 1, 2, none⟩ = some (.string S) := (at_below hb2 _ 2 (by simp)).trans (blk_cell (by have := blk_new (w.alloc (.cells #[.int .i64 0, .int .i64 0, .string ⟨#[]⟩] 37)) (.cells #[.int .i64 2, .int .i64 0, .string S] 37); rwa [World.size_alloc] at this) rfl)
        obtain ⟨hcc, hff⟩ := old_of hb2
        have hz := hb2.size
        simp only [World.size_alloc] at hz
        go_wp2
        first
          | exact bodyPost_ret (res_ctt rfl _ _ w.heap.size 37 #[.int .i64 0, .int .i64 0, .string ⟨#[]⟩] (0, 0) _ rfl (blk_new _ _) Try.underlying37 rfl (by kernel_rfl)) rfl ⟨by rw [HT.out]; rfl, (Below.refl _ _).alloc (Nat.le_refl _) _⟩
          | exact bodyPost_ret (res_ctt rfl _ _ w.heap.size 37 #[.int .i64 0, .int .i64 0, .string ⟨#[]⟩] (0, 0) _ rfl (blk3 hk2 _ _ _) Try.underlying37 rfl (by kernel_rfl)) rfl ⟨by rw [HT.out]; rfl, ((hbx.setCell (by exact Nat.le_refl _) _).setCell (by exact Nat.le_refl _) _).setCell (by exact Nat.le_refl _) _⟩
      · rw [hp] at hvV
        rw [if_pos hp] at HT
        clear hp hSp
        go_enter Try.func42, Try.ntmps42
        go_wp2_with fail
        refine (Text_any (some a) l c _ 200 _ hA1 hlc hc).mono ?_
        rintro e w1 ⟨hr1, rfl⟩
        rw [← HR.out] at hr1
        unfold RetT at hr1
        simp only [← HSE.out] at hr1
        subst hr1
        go_wp2_with fail
        have hb1 : Below w.heap.size w ((w.alloc (.cells #[.int .i64 0, .int .i64 0, .string ⟨#[]⟩] 37)).alloc (.cells #[.int .i64 2, .int .i64 0, .string S] 37)) := hb0.alloc (by simp) _
        refine (Valid_any ⟨2, 0, S⟩ _ (by unfold maxLen; simp only; omega)).mono ?_
        rintro e w1 ⟨rfl, hb2⟩
        rw [hvV]
        have hk2 := blk_kept hb2 (blk_alloc hk (.cells #[.int .i64 2, .int .i64 0, .string S] 37))
        have hbx := hb1.trans (hb2.mono (by simp; omega))
        have hv1 : w1.cell? ⟨w.heap.size + 1, 0, none⟩ = some (.int .i64 2) := (at_below hb2 _ 0 (by simp)).trans (blk_cell (by have := blk_new (w.alloc (.cells #[.int .i64 0, .int .i64 0, .string ⟨#[]⟩] 37)) (.cells #[.int .i64 2, .int .i64 0, .string S] 37); rwa [World.size_alloc] at this) rfl)
        have hv2 : w1.cell? ⟨w.heap.size + 1, 1, none⟩ = some (.int .i64 0) := (at_below hb2 _ 1 (by simp)).trans (blk_cell (by have := blk_new (w.alloc (.cells #[.int .i64 0, .int .i64 0, .string ⟨#[]⟩] 37)) (.cells #[.int .i64 2, .int .i64 0, .string S] 37); rwa [World.size_alloc] at this) rfl)
        have hv3 : w1.cell? ⟨w.heap.size + 1, 2, none⟩ = some (.string S) := (at_below hb2 _ 2 (by simp)).trans (blk_cell (by have := blk_new (w.alloc (.cells #[.int .i64 0, .int .i64 0, .string ⟨#[]⟩] 37)) (.cells #[.int .i64 2, .int .i64 0, .string S] 37); rwa [World.size_alloc] at this) rfl)
        obtain ⟨hcc, hff⟩ := old_of hb2
        have hz := hb2.size
        simp only [World.size_alloc] at hz
        go_wp2
        first
          | exact bodyPost_ret (res_ctt rfl _ _ w.heap.size 37 #[.int .i64 2, .int .i64 0, .string S] (0, 0) _ rfl (blk_new _ _) Try.underlying37 rfl (by kernel_rfl)) rfl ⟨by rw [HT.out]; rfl, (Below.refl _ _).alloc (Nat.le_refl _) _⟩
          | exact bodyPost_ret (res_ctt rfl _ _ w.heap.size 37 #[.int .i64 2, .int .i64 0, .string S] (0, 0) _ rfl (blk3 hk2 _ _ _) Try.underlying37 rfl (by kernel_rfl)) rfl ⟨by rw [HT.out]; rfl, ((hbx.setCell (by exact Nat.le_refl _) _).setCell (by exact Nat.le_refl _) _).setCell (by exact Nat.le_refl _) _⟩
    · have t1 : (e0 != 0) = true := by simpa using he
      have t2 : (e0 == 0) = false := by simpa using he
      rw [if_neg he] at HT
      have HR := Lib.hid hr
      clear hr
      go_enter Try.func42, Try.ntmps42
      go_wp2_with fail
      refine (Text_any (some a) l c _ 200 _ hA1 hlc hc).mono ?_
      rintro e w1 ⟨hr1, rfl⟩
      rw [← HR.out] at hr1
      unfold RetT at hr1
      subst hr1
      go_wp2
      first
        | exact bodyPost_ret (res_ctt rfl _ _ w.heap.size 37 #[.int .i64 0, .int .i64 0, .string ⟨#[]⟩] (0, 0) _ rfl (blk_new _ _) Try.underlying37 rfl (by kernel_rfl)) rfl ⟨by rw [HT.out]; rfl, (Below.refl _ _).alloc (Nat.le_refl _) _⟩
        | exact bodyPost_ret (res_ctt rfl _ _ w.heap.size 37 #[.int .i64 0, .int .i64 0, .string ⟨#[]⟩] (0, 0) _ rfl (blk3 hk _ _ _) Try.underlying37 rfl (by kernel_rfl)) rfl ⟨by rw [HT.out]; rfl, ((hb0.setCell (by exact Nat.le_refl _) _).setCell (by exact Nat.le_refl _) _).setCell (by exact Nat.le_refl _) _⟩
  by_cases b3 : b = 3
  · subst b3
    rw [if_neg (by decide), if_neg (by decide), if_neg (by decide), if_pos (.inl rfl)] at HT
    go_enter Try.func42, Try.ntmps42
    go_wp2
    first
      | exact bodyPost_ret (res_ctt rfl _ _ w.heap.size 37 #[.int .i64 3, .int .i64 0, .string ⟨#[]⟩] (0, 0) _ rfl (blk_new _ _) Try.underlying37 rfl (by kernel_rfl)) rfl ⟨by rw [HT.out]; rfl, (Below.refl _ _).alloc (Nat.le_refl _) _⟩
      | exact bodyPost_ret (res_ctt rfl _ _ w.heap.size 37 #[.int .i64 3, .int .i64 0, .string ⟨#[]⟩] (0, 0) _ rfl (blk3 hk _ _ _) Try.underlying37 rfl (by kernel_rfl)) rfl ⟨by rw [HT.out]; rfl, ((hb0.setCell (by exact Nat.le_refl _) _).setCell (by exact Nat.le_refl _) _).setCell (by exact Nat.le_refl _) _⟩
  by_cases b4 : b = 4
  · subst b4
    rw [if_neg (by decide), if_neg (by decide), if_neg (by decide), if_pos (.inr rfl)] at HT
    go_enter Try.func42, Try.ntmps42
    go_wp2
    first
      | exact bodyPost_ret (res_ctt rfl _ _ w.heap.size 37 #[.int .i64 3, .int .i64 1, .string ⟨#[]⟩] (0, 0) _ rfl (blk_new _ _) Try.underlying37 rfl (by kernel_rfl)) rfl ⟨by rw [HT.out]; rfl, (Below.refl _ _).alloc (Nat.le_refl _) _⟩
      | exact bodyPost_ret (res_ctt rfl _ _ w.heap.size 37 #[.int .i64 3, .int .i64 1, .string ⟨#[]⟩] (0, 0) _ rfl (blk3 hk _ _ _) Try.underlying37 rfl (by kernel_rfl)) rfl ⟨by rw [HT.out]; rfl, ((hb0.setCell (by exact Nat.le_refl _) _).setCell (by exact Nat.le_refl _) _).setCell (by exact Nat.le_refl _) _⟩
  rw [if_neg b0, if_neg b1, if_neg b2, if_neg (by omega)] at HT
  have t0 : ((b : Int) == 0) = false := by simp; omega
  have t1 : ((b : Int) == 1) = false := by simp; omega
  have t2 : ((b : Int) == 2) = false := by simp; omega
  have t3 : ((b : Int) == 3) = false := by simp; omega
  have t4 : ((b : Int) == 4) = false := by simp; omega
  go_enter Try.func42, Try.ntmps42
  go_wp2
  first
    | exact bodyPost_ret (res_ctt rfl _ _ w.heap.size 37 #[.int .i64 0, .int .i64 0, .string ⟨#[]⟩] (0, 0) _ rfl (blk_new _ _) Try.underlying37 rfl (by kernel_rfl)) rfl ⟨by rw [HT.out]; rfl, (Below.refl _ _).alloc (Nat.le_refl _) _⟩
    | exact bodyPost_ret (res_ctt rfl _ _ w.heap.size 37 #[.int .i64 0, .int .i64 0, .string ⟨#[]⟩] (0, 0) _ rfl (blk3 hk _ _ _) Try.underlying37 rfl (by kernel_rfl)) rfl ⟨by rw [HT.out]; rfl, ((hb0.setCell (by exact Nat.le_refl _) _).setCell (by exact Nat.le_refl _) _).setCell (by exact Nat.le_refl _) _⟩

theorem Value_any (A : Option Addr) (l : List UInt8) (c : Nat) (at_ : Int) (w : World) (hA : Cs w A (B l)) (hlc : l.length ≤ c) (hc : c ≤ maxLen) :
    Calls Try.prog 42 #[.slice A l.length c, .int .i64 at_] w fun e w' => RetV (dV l at_) e ∧ Below w.heap.size w w' := by
  by_cases h : at_ < 0 ∨ (l.length : Int) < at_
  · exact Value_out A l c at_ w hA hlc hc h
  · obtain ⟨i, rfl⟩ := Int.eq_ofNat_of_zero_le (show 0 ≤ at_ by omega)
    by_cases h2 : i = l.length
    · subst h2; exact Value_end A l c w hA hlc hc
    · exact Value_in A l c i w hA hlc hc (by omega)

set_option maxRecDepth 100000 in
set_option maxHeartbeats 2000000 in
theorem RValue_out (A : Option Addr) (l : List UInt8) (c : Nat) (at_ : Int) (w : World) (hA : Cs w A (B l)) (hlc : l.length ≤ c) (hc : c ≤ maxLen) (h : at_ < 0 ∨ (l.length : Int) < at_) :
    Calls Try.prog 43 #[.slice A l.length c, .int .i64 at_] w fun e w' => RetV (dV l at_) e ∧ Below w.heap.size w w' := by
  have hm9 : (l.length : Int) ≤ 9223372036854775807 := by unfold maxLen at hc; omega
  have HT : Hid (dV l at_ = (noV, 0, 6)) := by unfold Hid dV; rw [if_pos h]; rfl
  have hb0 : Below w.heap.size w (w.alloc (.cells #[.int .i64 0, .int .i64 0, .string ⟨#[]⟩] 37)) := (Below.refl _ _).alloc (Nat.le_refl _) _
  have hk : (w.alloc (.cells #[.int .i64 0, .int .i64 0, .string ⟨#[]⟩] 37)).heap[w.heap.size]? = some (.cells #[.int .i64 0, .int .i64 0, .string ⟨#[]⟩] 37 (0, 0)) := blk_new _ _
  rcases h with h | h
  · go_enter Try.func43, Try.ntmps43
    go_wp2
    first
      | exact bodyPost_ret (res_ctt rfl _ _ w.heap.size 37 #[.int .i64 0, .int .i64 0, .string ⟨#[]⟩] (0, 0) _ rfl (blk_new _ _) Try.underlying37 rfl (by kernel_rfl)) rfl ⟨by rw [HT.out]; rfl, (Below.refl _ _).alloc (Nat.le_refl _) _⟩
      | exact bodyPost_ret (res_ctt rfl _ _ w.heap.size 37 #[.int .i64 0, .int .i64 0, .string ⟨#[]⟩] (0, 0) _ rfl (blk3 hk _ _ _) Try.underlying37 rfl (by kernel_rfl)) rfl ⟨by rw [HT.out]; rfl, ((hb0.setCell (by exact Nat.le_refl _) _).setCell (by exact Nat.le_refl _) _).setCell (by exact Nat.le_refl _) _⟩
  · have h0 : (0 : Int) ≤ at_ := by omega
    go_enter Try.func43, Try.ntmps43
    go_wp2
    first
      | exact bodyPost_ret (res_ctt rfl _ _ w.heap.size 37 #[.int .i64 0, .int .i64 0, .string ⟨#[]⟩] (0, 0) _ rfl (blk_new _ _) Try.underlying37 rfl (by kernel_rfl)) rfl ⟨by rw [HT.out]; rfl, (Below.refl _ _).alloc (Nat.le_refl _) _⟩
      | exact bodyPost_ret (res_ctt rfl _ _ w.heap.size 37 #[.int .i64 0, .int .i64 0, .string ⟨#[]⟩] (0, 0) _ rfl (blk3 hk _ _ _) Try.underlying37 rfl (by kernel_rfl)) rfl ⟨by rw [HT.out]; rfl, ((hb0.setCell (by exact Nat.le_refl _) _).setCell (by exact Nat.le_refl _) _).setCell (by exact Nat.le_refl _) _⟩

set_option maxRecDepth 100000 in
set_option maxHeartbeats 2000000 in
theorem RValue_end (A : Option Addr) (l : List UInt8) (c : Nat) (w : World) (hA : Cs w A (B l)) (hlc : l.length ≤ c) (hc : c ≤ maxLen) :
    Calls Try.prog 43 #[.slice A l.length c, .int .i64 (l.length : Int)] w fun e w' => RetV (dV l (l.length : Int)) e ∧ Below w.heap.size w w' := by
  have hm9 : l.length ≤ 9223372036854775807 := by unfold maxLen at hc; omega
  have HT : Hid (dV l (l.length : Int) = (noV, 0, 2)) := by unfold Hid dV; rw [if_neg (by omega), if_pos rfl]; rfl
  have hb0 : Below w.heap.size w (w.alloc (.cells #[.int .i64 0, .int .i64 0, .string ⟨#[]⟩] 37)) := (Below.refl _ _).alloc (Nat.le_refl _) _
  have hk : (w.alloc (.cells #[.int .i64 0, .int .i64 0, .string ⟨#[]⟩] 37)).heap[w.heap.size]? = some (.cells #[.int .i64 0, .int .i64 0, .string ⟨#[]⟩] 37 (0, 0)) := blk_new _ _
  go_enter Try.func43, Try.ntmps43
  go_wp2
  first
    | exact bodyPost_ret (res_ctt rfl _ _ w.heap.size 37 #[.int .i64 0, .int .i64 0, .string ⟨#[]⟩] (0, 0) _ rfl (blk_new _ _) Try.underlying37 rfl (by kernel_rfl)) rfl ⟨by rw [HT.out]; rfl, (Below.refl _ _).alloc (Nat.le_refl _) _⟩
    | exact bodyPost_ret (res_ctt rfl _ _ w.heap.size 37 #[.int .i64 0, .int .i64 0, .string ⟨#[]⟩] (0, 0) _ rfl (blk3 hk _ _ _) Try.underlying37 rfl (by kernel_rfl)) rfl ⟨by rw [HT.out]; rfl, ((hb0.setCell (by exact Nat.le_refl _) _).setCell (by exact Nat.le_refl _) _).setCell (by exact Nat.le_refl _) _⟩

set_option maxRecDepth 100000 in
set_option maxHeartbeats 16000000 in
theorem RValue_in (A : Option Addr) (l : List UInt8) (c i : Nat) (w : World) (hA : Cs w A (B l)) (hlc : l.length ≤ c) (hc : c ≤ maxLen) (hi : i < l.length) :
    Calls Try.prog 43 #[.slice A l.length c, .int .i64 (i : Int)] w fun e w' => RetV (dV l (i : Int)) e ∧ Below w.heap.size w w' := by
  have hm9 : l.length ≤ 9223372036854775807 := by unfold maxLen at hc; omega
  have hi9 : i ≤ 9223372036854775806 := by omega
  have hb0 : Below w.heap.size w (w.alloc (.cells #[.int .i64 0, .int .i64 0, .string ⟨#[]⟩] 37)) := (Below.refl _ _).alloc (Nat.le_refl _) _
  have hk : (w.alloc (.cells #[.int .i64 0, .int .i64 0, .string ⟨#[]⟩] 37)).heap[w.heap.size]? = some (.cells #[.int .i64 0, .int .i64 0, .string ⟨#[]⟩] 37 (0, 0)) := blk_new _ _
  have hA1 : Cs (w.alloc (.cells #[.int .i64 0, .int .i64 0, .string ⟨#[]⟩] 37)) A (B l) := hA.alloc _
  obtain ⟨a, rfl, hcell⟩ := byte_at hA1 hi
  obtain ⟨b, hb⟩ : ∃ b, b = (l.getD i 0).toNat := ⟨_, rfl⟩
  have hb256 : b < 256 := by rw [hb]; exact UInt8.toNat_lt _
  rw [← hb] at hcell
  have HT : Hid (dV l (i : Int) = if b = 0 then (noV, (i : Int) + 1, 0) else if b = 1 then (if (dI l ((i : Int) + 1)).2.2 = 0 then if (dI l ((i : Int) + 1)).1 < -1125899906842624 ∨ 1125899906842624 < (dI l ((i : Int) + 1)).1 then (noV, 0, 6) else (⟨1, (dI l ((i : Int) + 1)).1, ⟨#[]⟩⟩, (dI l ((i : Int) + 1)).2.1, 0) else (noV, 0, (dI l ((i : Int) + 1)).2.2))
      else if b = 2 then (if (dT l ((i : Int) + 1) 200).2.2 = 0 then if pr (dT l ((i : Int) + 1) 200).1 then (⟨2, 0, ⟨(dT l ((i : Int) + 1) 200).1.toArray⟩⟩, (dT l ((i : Int) + 1) 200).2.1, 0) else (noV, 0, 1) else (noV, 0, (dT l ((i : Int) + 1) 200).2.2))
      else if b = 3 ∨ b = 4 then (⟨3, (b : Int) - 3, ⟨#[]⟩⟩, (i : Int) + 1, 0) else (noV, 0, 1)) := by
    unfold Hid dV
    rw [if_neg (by omega), if_neg (by omega), show (i : Int).toNat = i from rfl, ← hb]
    rfl
  clear hb
  by_cases b0 : b = 0
  · subst b0
    rw [if_pos rfl] at HT
    go_enter Try.func43, Try.ntmps43
    go_wp2
    first
      | exact bodyPost_ret (res_ctt rfl _ _ w.heap.size 37 #[.int .i64 0, .int .i64 0, .string ⟨#[]⟩] (0, 0) _ rfl (blk_new _ _) Try.underlying37 rfl (by kernel_rfl)) rfl ⟨by rw [HT.out]; rfl, (Below.refl _ _).alloc (Nat.le_refl _) _⟩
      | exact bodyPost_ret (res_ctt rfl _ _ w.heap.size 37 #[.int .i64 0, .int .i64 0, .string ⟨#[]⟩] (0, 0) _ rfl (blk3 hk _ _ _) Try.underlying37 rfl (by kernel_rfl)) rfl ⟨by rw [HT.out]; rfl, ((hb0.setCell (by exact Nat.le_refl _) _).setCell (by exact Nat.le_refl _) _).setCell (by exact Nat.le_refl _) _⟩
  by_cases b1 : b = 1
  · subst b1
    rw [if_neg (by decide), if_pos rfl] at HT
    obtain ⟨r, hr⟩ : ∃ r, r = dI l ((i : Int) + 1) := ⟨_, rfl⟩
    obtain ⟨n, k, e0⟩ := r
    rw [← hr] at HT
    simp only at HT
    by_cases he : e0 = 0
    · subst he
      rw [if_pos rfl] at HT
      have HR := Lib.hid hr
      clear hr
      by_cases hn1 : n < -1125899906842624
      · rw [if_pos (.inl hn1)] at HT
        go_enter Try.func43, Try.ntmps43
        go_wp2_with fail
        refine (RInt_any (some a) l c _ _ hA1 hlc hc).mono ?_
        rintro e w1 ⟨hr1, rfl⟩
        rw [← HR.out] at hr1
        unfold Ret3 at hr1
        subst hr1
        go_wp2
        first
          | exact bodyPost_ret (res_ctt rfl _ _ w.heap.size 37 #[.int .i64 0, .int .i64 0, .string ⟨#[]⟩] (0, 0) _ rfl (blk_new _ _) Try.underlying37 rfl (by kernel_rfl)) rfl ⟨by rw [HT.out]; rfl, (Below.refl _ _).alloc (Nat.le_refl _) _⟩
          | exact bodyPost_ret (res_ctt rfl _ _ w.heap.size 37 #[.int .i64 0, .int .i64 0, .string ⟨#[]⟩] (0, 0) _ rfl (blk3 hk _ _ _) Try.underlying37 rfl (by kernel_rfl)) rfl ⟨by rw [HT.out]; rfl, ((hb0.setCell (by exact Nat.le_refl _) _).setCell (by exact Nat.le_refl _) _).setCell (by exact Nat.le_refl _) _⟩
      · by_cases hn2 : 1125899906842624 < n
        · rw [if_pos (.inr hn2)] at HT
          have hn3 : -1125899906842624 ≤ n := by omega
          clear hn1
          go_enter Try.func43, Try.ntmps43
          go_wp2_with fail
          refine (RInt_any (some a) l c _ _ hA1 hlc hc).mono ?_
          rintro e w1 ⟨hr1, rfl⟩
          rw [← HR.out] at hr1
          unfold Ret3 at hr1
          subst hr1
          go_wp2
          first
            | exact bodyPost_ret (res_ctt rfl _ _ w.heap.size 37 #[.int .i64 0, .int .i64 0, .string ⟨#[]⟩] (0, 0) _ rfl (blk_new _ _) Try.underlying37 rfl (by kernel_rfl)) rfl ⟨by rw [HT.out]; rfl, (Below.refl _ _).alloc (Nat.le_refl _) _⟩
            | exact bodyPost_ret (res_ctt rfl _ _ w.heap.size 37 #[.int .i64 0, .int .i64 0, .string ⟨#[]⟩] (0, 0) _ rfl (blk3 hk _ _ _) Try.underlying37 rfl (by kernel_rfl)) rfl ⟨by rw [HT.out]; rfl, ((hb0.setCell (by exact Nat.le_refl _) _).setCell (by exact Nat.le_refl _) _).setCell (by exact Nat.le_refl _) _⟩
        · rw [if_neg (by omega)] at HT
          have hn3 : -1125899906842624 ≤ n := by omega
          have hn4 : n ≤ 1125899906842624 := by omega
          clear hn1 hn2
          go_enter Try.func43, Try.ntmps43
          go_wp2_with fail
          refine (RInt_any (some a) l c _ _ hA1 hlc hc).mono ?_
          rintro e w1 ⟨hr1, rfl⟩
          rw [← HR.out] at hr1
          unfold Ret3 at hr1
          subst hr1
          go_wp2
          first
            | exact bodyPost_ret (res_ctt rfl _ _ w.heap.size 37 #[.int .i64 1, .int .i64 n, .string ⟨#[]⟩] (0, 0) _ rfl (blk_new _ _) Try.underlying37 rfl (by kernel_rfl)) rfl ⟨by rw [HT.out]; rfl, (Below.refl _ _).alloc (Nat.le_refl _) _⟩
            | exact bodyPost_ret (res_ctt rfl _ _ w.heap.size 37 #[.int .i64 1, .int .i64 n, .string ⟨#[]⟩] (0, 0) _ rfl (blk3 hk _ _ _) Try.underlying37 rfl (by kernel_rfl)) rfl ⟨by rw [HT.out]; rfl, ((hb0.setCell (by exact Nat.le_refl _) _).setCell (by exact Nat.le_refl _) _).setCell (by exact Nat.le_refl _) _⟩
    · have t1 : (e0 != 0) = true := by simpa using he
      rw [if_neg he] at HT
      have HR := Lib.hid hr
      clear hr
      go_enter Try.func43, Try.ntmps43
      go_wp2_with fail
      refine (RInt_any (some a) l c _ _ hA1 hlc hc).mono ?_
      rintro e w1 ⟨hr1, rfl⟩
      rw [← HR.out] at hr1
      unfold Ret3 at hr1
      subst hr1
      go_wp2
      first
        | exact bodyPost_ret (res_ctt rfl _ _ w.heap.size 37 #[.int .i64 0, .int .i64 0, .string ⟨#[]⟩] (0, 0) _ rfl (blk_new _ _) Try.underlying37 rfl (by kernel_rfl)) rfl ⟨by rw [HT.out]; rfl, (Below.refl _ _).alloc (Nat.le_refl _) _⟩
        | exact bodyPost_ret (res_ctt rfl _ _ w.heap.size 37 #[.int .i64 0, .int .i64 0, .string ⟨#[]⟩] (0, 0) _ rfl (blk3 hk _ _ _) Try.underlying37 rfl (by kernel_rfl)) rfl ⟨by rw [HT.out]; rfl, ((hb0.setCell (by exact Nat.le_refl _) _).setCell (by exact Nat.le_refl _) _).setCell (by exact Nat.le_refl _) _⟩
  by_cases b2 : b = 2
  · subst b2
    rw [if_neg (by decide), if_neg (by decide), if_pos rfl] at HT
    obtain ⟨r, hr⟩ : ∃ r, r = dT l ((i : Int) + 1) 200 := ⟨_, rfl⟩
    obtain ⟨s, k, e0⟩ := r
    rw [← hr] at HT
    simp only at HT
    by_cases he : e0 = 0
    · subst he
      rw [if_pos rfl] at HT
      have hok := dT_ok hr.symm
      have hs2 : s.length ≤ 200 := by have := hok.2.2.2; rw [if_neg (by decide)] at this; omega
      clear hok
      have HR := Lib.hid hr
      clear hr
      obtain ⟨S, hS⟩ : ∃ S : ByteArray, S = ⟨s.toArray⟩ := ⟨_, rfl⟩
      have hSl : S.size = s.length := by rw [hS]; rfl
      have hSp : pr S.data.toList = pr s := by rw [hS]
      rw [← hS] at HT
      have HSE := Lib.hid hS
      clear hS
      cases hp : pr s
      · rw [hp] at hSp
        rw [if_neg (by simp [hp])] at HT
        clear hp
        go_enter Try.func43, Try.ntmps43
        go_wp2_with fail
        refine (RText_any (some a) l c _ 200 _ hA1 hlc hc).mono ?_
        rintro e w1 ⟨hr1, rfl⟩
        rw [← HR.out] at hr1
        unfold RetT at hr1
        simp only [← HSE.out] at hr1
        subst hr1
        go_wp2_with fail
        refine (RPrintable_any S _ (by unfold maxLen; omega)).mono ?_
        rintro e w1 ⟨rfl, rfl⟩
        rw [hSp]
        go_wp2
        first
          | exact bodyPost_ret (res_ctt rfl _ _ w.heap.size 37 #[.int .i64 0, .int .i64 0, .string ⟨#[]⟩] (0, 0) _ rfl (blk_new _ _) Try.underlying37 rfl (by kernel_rfl)) rfl ⟨by rw [HT.out]; rfl, (Below.refl _ _).alloc (Nat.le_refl _) _⟩
          | exact bodyPost_ret (res_ctt rfl _ _ w.heap.size 37 #[.int .i64 0, .int .i64 0, .string ⟨#[]⟩] (0, 0) _ rfl (blk3 hk _ _ _) Try.underlying37 rfl (by kernel_rfl)) rfl ⟨by rw [HT.out]; rfl, ((hb0.setCell (by exact Nat.le_refl _) _).setCell (by exact Nat.le_refl _) _).setCell (by exact Nat.le_refl _) _⟩
      · rw [hp] at hSp
        rw [if_pos hp] at HT
        clear hp
        go_enter Try.func43, Try.ntmps43
        go_wp2_with fail
        refine (RText_any (some a) l c _ 200 _ hA1 hlc hc).mono ?_
        rintro e w1 ⟨hr1, rfl⟩
        rw [← HR.out] at hr1
        unfold RetT at hr1
        simp only [← HSE.out] at hr1
        subst hr1
        go_wp2_with fail
        refine (RPrintable_any S _ (by unfold maxLen; omega)).mono ?_
        rintro e w1 ⟨rfl, rfl⟩
        rw [hSp]
        go_wp2
        first
          | exact bodyPost_ret (res_ctt rfl _ _ w.heap.size 37 #[.int .i64 2, .int .i64 0, .string S] (0, 0) _ rfl (blk_new _ _) Try.underlying37 rfl (by kernel_rfl)) rfl ⟨by rw [HT.out]; rfl, (Below.refl _ _).alloc (Nat.le_refl _) _⟩
          | exact bodyPost_ret (res_ctt rfl _ _ w.heap.size 37 #[.int .i64 2, .int .i64 0, .string S] (0, 0) _ rfl (blk3 hk _ _ _) Try.underlying37 rfl (by kernel_rfl)) rfl ⟨by rw [HT.out]; rfl, ((hb0.setCell (by exact Nat.le_refl _) _).setCell (by exact Nat.le_refl _) _).setCell (by exact Nat.le_refl _) _⟩
    · have t1 : (e0 != 0) = true := by simpa using he
      have t2 : (e0 == 0) = false := by simpa using he
      rw [if_neg he] at HT
      have HR := Lib.hid hr
      clear hr
      go_enter Try.func43, Try.ntmps43
      go_wp2_with fail
      refine (RText_any (some a) l c _ 200 _ hA1 hlc hc).mono ?_
      rintro e w1 ⟨hr1, rfl⟩
      rw [← HR.out] at hr1
      unfold RetT at hr1
      subst hr1
      go_wp2
      first
        | exact bodyPost_ret (res_ctt rfl _ _ w.heap.size 37 #[.int .i64 0, .int .i64 0, .string ⟨#[]⟩] (0, 0) _ rfl (blk_new _ _) Try.underlying37 rfl (by kernel_rfl)) rfl ⟨by rw [HT.out]; rfl, (Below.refl _ _).alloc (Nat.le_refl _) _⟩
        | exact bodyPost_ret (res_ctt rfl _ _ w.heap.size 37 #[.int .i64 0, .int .i64 0, .string ⟨#[]⟩] (0, 0) _ rfl (blk3 hk _ _ _) Try.underlying37 rfl (by kernel_rfl)) rfl ⟨by rw [HT.out]; rfl, ((hb0.setCell (by exact Nat.le_refl _) _).setCell (by exact Nat.le_refl _) _).setCell (by exact Nat.le_refl _) _⟩
  by_cases b3 : b = 3
  · subst b3
    rw [if_neg (by decide), if_neg (by decide), if_neg (by decide), if_pos (.inl rfl)] at HT
    go_enter Try.func43, Try.ntmps43
    go_wp2
    first
      | exact bodyPost_ret (res_ctt rfl _ _ w.heap.size 37 #[.int .i64 3, .int .i64 0, .string ⟨#[]⟩] (0, 0) _ rfl (blk_new _ _) Try.underlying37 rfl (by kernel_rfl)) rfl ⟨by rw [HT.out]; rfl, (Below.refl _ _).alloc (Nat.le_refl _) _⟩
      | exact bodyPost_ret (res_ctt rfl _ _ w.heap.size 37 #[.int .i64 3, .int .i64 0, .string ⟨#[]⟩] (0, 0) _ rfl (blk3 hk _ _ _) Try.underlying37 rfl (by kernel_rfl)) rfl ⟨by rw [HT.out]; rfl, ((hb0.setCell (by exact Nat.le_refl _) _).setCell (by exact Nat.le_refl _) _).setCell (by exact Nat.le_refl _) _⟩
  by_cases b4 : b = 4
  · subst b4
    rw [if_neg (by decide), if_neg (by decide), if_neg (by decide), if_pos (.inr rfl)] at HT
    go_enter Try.func43, Try.ntmps43
    go_wp2
    first
      | exact bodyPost_ret (res_ctt rfl _ _ w.heap.size 37 #[.int .i64 3, .int .i64 1, .string ⟨#[]⟩] (0, 0) _ rfl (blk_new _ _) Try.underlying37 rfl (by kernel_rfl)) rfl ⟨by rw [HT.out]; rfl, (Below.refl _ _).alloc (Nat.le_refl _) _⟩
      | exact bodyPost_ret (res_ctt rfl _ _ w.heap.size 37 #[.int .i64 3, .int .i64 1, .string ⟨#[]⟩] (0, 0) _ rfl (blk3 hk _ _ _) Try.underlying37 rfl (by kernel_rfl)) rfl ⟨by rw [HT.out]; rfl, ((hb0.setCell (by exact Nat.le_refl _) _).setCell (by exact Nat.le_refl _) _).setCell (by exact Nat.le_refl _) _⟩
  rw [if_neg b0, if_neg b1, if_neg b2, if_neg (by omega)] at HT
  have t0 : ((b : Int) == 0) = false := by simp; omega
  have t1 : ((b : Int) == 1) = false := by simp; omega
  have t2 : ((b : Int) == 2) = false := by simp; omega
  have t3 : ((b : Int) == 3) = false := by simp; omega
  have t4 : ((b : Int) == 4) = false := by simp; omega
  go_enter Try.func43, Try.ntmps43
  go_wp2
  first
    | exact bodyPost_ret (res_ctt rfl _ _ w.heap.size 37 #[.int .i64 0, .int .i64 0, .string ⟨#[]⟩] (0, 0) _ rfl (blk_new _ _) Try.underlying37 rfl (by kernel_rfl)) rfl ⟨by rw [HT.out]; rfl, (Below.refl _ _).alloc (Nat.le_refl _) _⟩
    | exact bodyPost_ret (res_ctt rfl _ _ w.heap.size 37 #[.int .i64 0, .int .i64 0, .string ⟨#[]⟩] (0, 0) _ rfl (blk3 hk _ _ _) Try.underlying37 rfl (by kernel_rfl)) rfl ⟨by rw [HT.out]; rfl, ((hb0.setCell (by exact Nat.le_refl _) _).setCell (by exact Nat.le_refl _) _).setCell (by exact Nat.le_refl _) _⟩

theorem RValue_any (A : Option Addr) (l : List UInt8) (c : Nat) (at_ : Int) (w : World) (hA : Cs w A (B l)) (hlc : l.length ≤ c) (hc : c ≤ maxLen) :
    Calls Try.prog 43 #[.slice A l.length c, .int .i64 at_] w fun e w' => RetV (dV l at_) e ∧ Below w.heap.size w w' := by
  by_cases h : at_ < 0 ∨ (l.length : Int) < at_
  · exact RValue_out A l c at_ w hA hlc hc h
  · obtain ⟨i, rfl⟩ := Int.eq_ofNat_of_zero_le (show 0 ≤ at_ by omega)
    by_cases h2 : i = l.length
    · subst h2; exact RValue_end A l c w hA hlc hc
    · exact RValue_in A l c i w hA hlc hc (by omega)

end Go.Proofs.Ytoejegphjlichaa
