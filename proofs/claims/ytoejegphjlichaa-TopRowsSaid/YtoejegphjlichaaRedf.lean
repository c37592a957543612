/- The contract of codec.Row: which row is read from any bytes. -/
import Derived.Test.YtoejegphjlichaaRede
import Derived.Test.YtoejegphjlichaaCodd
import Derived.Laws.CopyRow
import Derived.Laws.CopyOwn
import Derived.Laws.MakeOwn
namespace Go.Proofs.Ytoejegphjlichaa
open Go.RowKit
set_option linter.unusedVariables false

/-- n values from an offset on, after those of acc. -/
def rR (l : List UInt8) : Nat → List Val → Int → Sum Int (List Val × Int)
  | 0, acc, k => .inr (acc, k)
  | n + 1, acc, k => if (dV l k).2.2 = 0 then rR l n (acc ++ [(dV l k).1]) (dV l k).2.1 else .inl (dV l k).2.2
/-- What is returned for it. -/
def outR : Sum Int (List Val × Int) → List Val × Int × Int
  | .inl e => ([], 0, e)
  | .inr (vs, k) => (vs, k, 0)
/-- The row at an offset, the offset after it, the error. -/
def dR (l : List UInt8) (at_ : Int) : List Val × Int × Int :=
  if (dI l at_).2.2 = 0 then if (dI l at_).1 < 0 then ([], 0, 1) else if 12 < (dI l at_).1 then ([], 0, 5) else outR (rR l (dI l at_).1.toNat [] (dI l at_).2.1)
  else ([], 0, (dI l at_).2.2)
/-- The call has returned a row and two numbers. -/
def RetR (r : List Val × Int × Int) (e : Ending) (w : World) : Prop :=
  ∃ A c, e = .returned (.tuple #[.slice A r.1.length c, .int .i64 r.2.1, .int .i64 r.2.2]) ∧ r.1.length ≤ c ∧ c ≤ maxLen ∧ Cs w A (Row Val.cells r.1)
theorem RetR.no (e : Int) (w : World) : RetR ([], 0, e) (.returned (.tuple #[.slice none 0 0, .int .i64 0, .int .i64 e])) w := ⟨none, 0, rfl, Nat.le_refl _, by simp [maxLen], Cs.nil _ _⟩

theorem store_row {P : Program} {w : World} {g : Nat} {cur : Array Value} {T : TypeId} (h : w.heap[g]? = some (.cells cur T (0, 0))) (G : Addr) (hG : G = ⟨g, 0, none⟩) (o : Nat) (vs : List Value) (hl : o + vs.length ≤ cur.size) (h1 : ∀ v ∈ vs, v.oneCell' = true) :
    ∃ w', (storeCells (G.add o) vs).run P w = .ok () w' ∧ w'.heap[g]? = some (.cells (cur.toList.take o ++ vs ++ cur.toList.drop (o + vs.length)).toArray T (0, 0)) ∧ ∀ w0 B, B ≤ g → Below B w0 w → Below B w0 w' := by
  have hadd : G.add o = ⟨g, o, none⟩ := by subst hG; unfold Addr.add; split <;> simp_all
  have hr := run_storeCells_at (P := P) g o T vs 0 cur w h (by simpa using hl) h1
  rw [hadd]
  exact ⟨_, hr, by simpa using setRow_heap w g cur _ T (0, 0) h, fun w0 B hB hb => below_setRow hb hB _⟩

theorem row_next {cur : Array Value} {acc : List Val} {v : Val} {n : Nat} (hs : cur.size = n * 3) (hlt : acc.length < n) (ht : cur.toList.take (acc.length * 3) = Row Val.cells acc) :
    ((cur.toList.take (acc.length * 3) ++ v.cells ++ cur.toList.drop (acc.length * 3 + v.cells.length)).toArray).toList.take ((acc ++ [v]).length * 3) = Row Val.cells (acc ++ [v]) := by
  have h3 : v.cells.length = 3 := rfl
  have hr : (Row Val.cells acc).length = acc.length * 3 := Row_length Val.len acc
  rw [List.toList_toArray, ht, Row_append, List.take_append_of_le_length (by simp [hr, h3]; omega), List.take_of_length_le (by simp [hr, h3]; omega)]
  simp [Row]

theorem row_size {cur : Array Value} {o : Nat} {vs : List Value} (h : o + vs.length ≤ cur.size) : ((cur.toList.take o ++ vs ++ cur.toList.drop (o + vs.length)).toArray).size = cur.size := by
  simp
  omega

theorem row_cs {w : World} {g : Nat} {cur : Array Value} {T : TypeId} {G : Addr} (hG : G = ⟨g, 0, none⟩) (h : w.heap[g]? = some (.cells cur T (0, 0))) {k : Nat} {xs : List Value} (ht : cur.toList.take k = xs) : Cs w (some G) xs := fun i u hi => by
  refine ⟨G, rfl, ?_⟩
  subst hG
  have hlt : i < k := by
    rcases Nat.lt_or_ge i k with h1 | h1
    · exact h1
    · rw [← ht, List.getElem?_eq_none (by rw [List.length_take]; omega)] at hi; cases hi
  rw [← ht, List.getElem?_take_of_lt hlt] at hi
  exact World.news_of_block h i u hi

theorem infoVal : (Try.prog.info? 37).map (fun i => (i.zero, i.size, i.bytes)) = some (some (.agg #[.int .i64 0, .int .i64 0, .string ⟨#[]⟩]), 3, 32) := by kernel_rfl

theorem make_vals (w : World) (n : Nat) (hn : n ≤ 1000000) : ∃ M : Array Value, M.size = n * 3 ∧ (Instr.makeSlice 30 (.int .i64 n) (.int .i64 n)).run Try.prog w = .ok (.slice (some ⟨w.heap.size, 0, none⟩) n n) (w.alloc (.cells M 37)) := by
  obtain ⟨i, hi, hz, hs, hb⟩ := info_parts infoVal
  refine ⟨madeCells (Value.agg #[.int .i64 0, .int .i64 0, .string ⟨#[]⟩]).cells (n * 3), size_madeCells _ _, ?_⟩
  have := run_make (P := Try.prog) w 30 37 i _ Try.underlying30 hi hz .i64 .i64 (n : Int) n (by omega) (by omega) (by rw [hb]; omega) (by omega)
  rw [hs] at this
  simpa using this

set_option maxRecDepth 100000 in
set_option maxHeartbeats 4000000 in
theorem Row_ok (A : Option Addr) (l : List UInt8) (c : Nat) (at_ : Int) (n : Nat) (k : Int) (w : World) (hA : Cs w A (B l)) (hlc : l.length ≤ c) (hc : c ≤ maxLen) (hr : (((n : Nat) : Int), k, 0) = dI l at_) (hn : n ≤ 12) :
    Calls Try.prog 37 #[.slice A l.length c, .int .i64 at_] w fun e w' => RetR (dR l at_) e w' ∧ Below w.heap.size w w' := by
  have HT : Hid (dR l at_ = outR (rR l n [] k)) := by
    unfold Hid dR
    rw [← hr]
    simp only [if_true]
    rw [if_neg (by omega), if_neg (by omega)]
    rfl
  have HR := Lib.hid hr
  clear hr
  obtain ⟨R, hR⟩ : ∃ R, R = rR l n [] k := ⟨_, rfl⟩
  rw [← hR] at HT
  obtain ⟨M, hMs, hmk⟩ := make_vals w n (by omega)
  obtain ⟨G, hG⟩ : ∃ G : Addr, G = ⟨w.heap.size, 0, none⟩ := ⟨_, rfl⟩
  rw [← hG] at hmk
  have HG := Lib.hid hG
  clear hG
  have h0 : (Row Val.cells ([] : List Val)).length = 0 := rfl
  go_enter Try.func37, Try.ntmps37
  go_wp2_with fail
  refine (Int_any A l c at_ w hA hlc hc).mono ?_
  rintro e w1 ⟨hr1, rfl⟩
  rw [← HR.out] at hr1
  unfold Ret3 at hr1
  subst hr1
  go_wp2_with fail
  go_loopw [8, 33] (fun kv iv wr => ∃ (acc : List Val) (k' : Int) (cur : Array Value), acc.length ≤ n ∧ kv = .int .i64 k' ∧ iv = .int .i64 (acc.length : Int) ∧ Hid (rR l (n - acc.length) acc k' = R) ∧ wr.heap[w.heap.size]? = some (.cells cur 37 (0, 0)) ∧ cur.size = n * 3 ∧ Hid (cur.toList.take (acc.length * 3) = Row Val.cells acc) ∧ Below w.heap.size w wr ∧ Cs wr A (B l) ∧ w.heap.size < wr.heap.size)
    (fun _ iv _ => n - (intOf iv).toNat)
  case atStart => exact ⟨[], k, M, Nat.zero_le _, rfl, rfl, hR.symm, blk_new _ _, hMs, by unfold Hid; simp [Row], (Below.refl _ _).alloc (Nat.le_refl _) _, hA.alloc _, by simp⟩
  case round =>
    obtain ⟨acc, k', cur, hk, rfl, rfl, hacc, hblk, hcs, htk, hbr, hCr, hsz⟩ := hrel
    by_cases hlt : acc.length < n
    · obtain ⟨r, hv⟩ : ∃ r, r = dV l k' := ⟨_, rfl⟩
      obtain ⟨v, nx, e0⟩ := r
      have hacc2 := hacc.out
      rw [show n - acc.length = (n - acc.length - 1) + 1 by omega, rR, ← hv] at hacc2
      simp only at hacc2
      have HAC := Lib.hid hacc2
      have HV := Lib.hid hv
      clear hacc2 hv hacc
      go_wp2_with fail
      refine (Value_any A l c k' _ hCr hlc hc).mono ?_
      rintro e w2 ⟨hr2, hb2⟩
      rw [← HV.out] at hr2
      unfold RetV at hr2
      simp only at hr2
      subst hr2
      have hblk2 := blk_kept hb2 hblk
      obtain ⟨w3, hst, hblk3, hbel⟩ := store_row (P := Try.prog) hblk2 G HG.out (acc.length * 3) v.cells (by rw [hcs, Val.len]; omega) (by intro u hu; simp [Val.cells] at hu; rcases hu with rfl | rfl | rfl <;> rfl)
      have hb3 := hbel _ w.heap.size (Nat.le_refl _) (hbr.trans (hb2.mono (by omega)))
      have hns := row_size (cur := cur) (o := acc.length * 3) (vs := v.cells) (by rw [hcs, Val.len]; omega)
      have hnt := row_next (v := v) hcs hlt htk.out
      revert hblk3 hns hnt
      generalize (cur.toList.take (acc.length * 3) ++ v.cells ++ cur.toList.drop (acc.length * 3 + v.cells.length)).toArray = cur3
      intro hblk3 hns hnt
      have HNT := Lib.hid hnt
      clear hnt
      by_cases he : e0 = 0
      · subst he
        rw [if_pos rfl] at HAC
        go_wp2_with fail
        go_roundw
        case rel => exact ⟨acc ++ [v], nx, cur3, by rw [List.length_append]; simp; omega, rfl, by rw [List.length_append]; go_num, by unfold Hid; rw [List.length_append, ← HAC.out]; simp [Nat.sub_sub], hblk3, by rw [hns, hcs], HNT, hb3, hA.kept hb3, (Array.getElem?_eq_some_iff.1 hblk3).1⟩
        case measure => simp [intOf]; omega
      · have t1 : (e0 != 0) = true := by simpa using he
        rw [if_neg he] at HAC
        go_wp2_with fail
        go_ret3
        exact ⟨by rw [HT.out, ← HAC.out]; exact RetR.no _ _, hb3⟩
    · go_wp2_with fail
      go_ret3
      have he : acc.length = n := by omega
      have hacc2 := hacc.out
      rw [he, Nat.sub_self, rR] at hacc2
      refine ⟨?_, hbr⟩
      rw [HT.out, ← hacc2]
      refine ⟨some G, n, by rw [← he]; rfl, by show acc.length ≤ n; omega, by unfold maxLen; omega, row_cs HG.out hblk htk.out⟩


set_option maxRecDepth 100000 in
set_option maxHeartbeats 4000000 in
theorem Row_bad (A : Option Addr) (l : List UInt8) (c : Nat) (at_ : Int) (n k e0 : Int) (w : World) (hA : Cs w A (B l)) (hlc : l.length ≤ c) (hc : c ≤ maxLen) (hr : (n, k, e0) = dI l at_) (h : ¬ e0 = 0 ∨ n < 0 ∨ 12 < n) :
    Calls Try.prog 37 #[.slice A l.length c, .int .i64 at_] w fun e w' => RetR (dR l at_) e w' ∧ Below w.heap.size w w' := by
  by_cases he : e0 = 0
  · subst he
    by_cases hn : n < 0
    · have HT : Hid (dR l at_ = ([], 0, 1)) := by
        unfold Hid dR
        rw [← hr]
        simp only [if_true]
        rw [if_pos hn]
      have HR := Lib.hid hr
      clear hr h
      go_enter Try.func37, Try.ntmps37
      go_wp2_with fail
      refine (Int_any A l c at_ w hA hlc hc).mono ?_
      rintro e w1 ⟨hr1, rfl⟩
      rw [← HR.out] at hr1
      unfold Ret3 at hr1
      subst hr1
      go_wp2
      go_ret3
      exact ⟨by rw [HT.out]; exact RetR.no _ _, Below.refl _ _⟩
    · have hn2 : 12 < n := by omega
      have hn3 : 0 ≤ n := by omega
      have HT : Hid (dR l at_ = ([], 0, 5)) := by
        unfold Hid dR
        rw [← hr]
        simp only [if_true]
        rw [if_neg hn, if_pos hn2]
      have HR := Lib.hid hr
      clear hr h hn
      go_enter Try.func37, Try.ntmps37
      go_wp2_with fail
      refine (Int_any A l c at_ w hA hlc hc).mono ?_
      rintro e w1 ⟨hr1, rfl⟩
      rw [← HR.out] at hr1
      unfold Ret3 at hr1
      subst hr1
      go_wp2
      go_ret3
      exact ⟨by rw [HT.out]; exact RetR.no _ _, Below.refl _ _⟩
  · have HT : Hid (dR l at_ = ([], 0, e0)) := by
      unfold Hid dR
      rw [← hr, if_neg he]
    have t1 : (e0 != 0) = true := by simpa using he
    have HR := Lib.hid hr
    clear hr h
    go_enter Try.func37, Try.ntmps37
    go_wp2_with fail
    refine (Int_any A l c at_ w hA hlc hc).mono ?_
    rintro e w1 ⟨hr1, rfl⟩
    rw [← HR.out] at hr1
    unfold Ret3 at hr1
    subst hr1
    go_wp2
    go_ret3
    exact ⟨by rw [HT.out]; exact RetR.no _ _, Below.refl _ _⟩

theorem Row_any (A : Option Addr) (l : List UInt8) (c : Nat) (at_ : Int) (w : World) (hA : Cs w A (B l)) (hlc : l.length ≤ c) (hc : c ≤ maxLen) :
    Calls Try.prog 37 #[.slice A l.length c, .int .i64 at_] w fun e w' => RetR (dR l at_) e w' ∧ Below w.heap.size w w' := by
  obtain ⟨r, hr⟩ : ∃ r, r = dI l at_ := ⟨_, rfl⟩
  obtain ⟨n, k, e0⟩ := r
  by_cases h : ¬ e0 = 0 ∨ n < 0 ∨ 12 < n
  · exact Row_bad A l c at_ n k e0 w hA hlc hc hr h
  · obtain rfl : e0 = 0 := by omega
    obtain ⟨m, rfl⟩ := Int.eq_ofNat_of_zero_le (show 0 ≤ n by omega)
    exact Row_ok A l c at_ m k w hA hlc hc hr (by omega)

end Go.Proofs.Ytoejegphjlichaa
