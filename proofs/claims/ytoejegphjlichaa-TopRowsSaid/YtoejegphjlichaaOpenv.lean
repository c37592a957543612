/- What a row's argument of type []api.Value says of memory: values with numbers in range. -/
import Derived.Test.YtoejegphjlichaaOpen
import Derived.Test.YtoejegphjlichaaCodd
namespace Go.Proofs.Ytoejegphjlichaa
open Go.RowKit Go.ChangeShapes Go.WideShapes Go.ChangeAt Go.Joins Go.Deep
set_option linter.unusedVariables false

/-- Its numbers fit, and its text is a string. -/
structure Val.Rough (v : Val) : Prop where
  k1 : -9223372036854775808 ≤ v.kind
  k2 : v.kind < 9223372036854775808
  i1 : -9223372036854775808 ≤ v.int
  i2 : v.int < 9223372036854775808
  s : v.text.size ≤ maxLen

theorem take_one3 {α : Type} {cs : List α} (h : cs.length = 3) : ∃ a b c, cs = [a, b, c] := by
  match cs, h with
  | [a, b, c], _ => exact ⟨a, b, c, rfl⟩

/-- The cells of one value. -/
theorem open_val_cells {H : Type} {enc : TypeId × Value → H} {W : World} {n : Nat} {cs : List Value} {x : DataW H × List MemPlace}
    (h : DataW.trod enc Try.prog W 0 (fun _ => true) true n 37 cs = some x) : ∃ v : Val, cs = v.cells ∧ v.Rough := by
  obtain ⟨y0, y1, y2, m, _, hl, h0, h1, h2⟩ := trod_struct3 Try.underlying37 h
  rw [show Try.prog.cellsOf 37 = 3 by kernel_rfl] at hl
  obtain ⟨a, b, c, rfl⟩ := take_one3 hl
  rw [show Try.prog.cellsOf 3 = 1 by kernel_rfl] at h0 h1
  rw [show Try.prog.cellsOf 9 = 1 by kernel_rfl] at h2
  obtain ⟨f, e0, _, wf⟩ := DataW.trod_int Try.underlying3 h0
  obtain ⟨t, e1, _, wt⟩ := DataW.trod_int Try.underlying3 h1
  obtain ⟨s, e2, _, ws⟩ := DataW.trod_string Try.underlying9 h2
  simp at e0 e1 e2
  subst e0 e1 e2
  have b0 := bounds_i64 wf
  have b1 := bounds_i64 wt
  exact ⟨⟨f, t, s⟩, rfl, b0.1, by simp only; omega, b1.1, by simp only; omega, ws⟩

instance : Inhabited Val := ⟨⟨0, 0, ⟨#[]⟩⟩⟩

/-- A slice of values. -/
theorem open_vals {H : Type} {enc : TypeId × Value → H} {W : World} {ts : List TypeId} {ds : List (DataW H)} {j : Nat} {v : Value} {d : DataW H} {p : List MemPlace}
    (hok : Value.okWide Try.prog W .any 0 30 v) (h : DataW.Trod enc Try.prog W 0 (fun _ => true) true 30 v d p)
    (hsz : (DataW.weightsEach Try.prog ts ds).all (· ≤ reachBytes) = true) (ht : ts[j]? = some 30) (hd : ds[j]? = some d) :
    ∃ (A : Option Addr) (vs : List Val) (c : Nat), v = .slice A vs.length c ∧ vs.length ≤ c ∧ c ≤ maxLen ∧ Cs W A (Row Val.cells vs) ∧ (∀ v ∈ vs, v.Rough) ∧ vs.length * 32 ≤ 140737488351232 := by
  obtain ⟨a, len, cap, rfl⟩ := okWide_slice Try.underlying30 hok
  obtain ⟨fuel, hf⟩ := h
  rcases open_slice Try.underlying30 hf with ⟨hcs, _⟩ | ⟨x, l, c, m, n, D, Pl, hcs, _, hl, hm, hmm, hx, hel⟩
  · simp [Value.cells] at hcs
    obtain ⟨rfl, rfl, rfl⟩ := hcs
    exact ⟨none, [], 0, rfl, Nat.le_refl _, by simp [maxLen], Cs.nil _ _, by simp, by simp⟩
  · simp [Value.cells] at hcs
    obtain ⟨rfl, rfl, rfl⟩ := hcs
    simp only [if_true] at hmm
    subst hmm
    rw [show Try.prog.cellsOf 37 = 3 by kernel_rfl] at hel
    obtain ⟨V, hV⟩ := choose_lt (α := Val) (n := m) (p := fun i v => v.Rough ∧ ∀ j u, v.cells[j]? = some u → W.cell? (x.add (i * 3 + j)) = some u) (fun i hi => by
      obtain ⟨cs', h1, h2⟩ := hel i hi
      obtain ⟨v, rfl, hr⟩ := open_val_cells h2
      obtain ⟨_, hlen, hc⟩ := World.cells?_some h1
      refine ⟨v, hr, fun j u hu => ?_⟩
      have hj : j < 3 := by
        rcases Nat.lt_or_ge j 3 with h3 | h3
        · exact h3
        · rw [List.getElem?_eq_none (by show 3 ≤ j; exact h3)] at hu; cases hu
      have := hc j hj
      rw [← add_add, this, hu])
    have hgi : ∀ i v, ((List.range len).map V)[i]? = some v → i < len ∧ v = V i := by
      intro i v hv
      rw [List.getElem?_map] at hv
      rcases Nat.lt_or_ge i len with h1 | h1
      · rw [List.getElem?_range h1] at hv
        simp at hv
        exact ⟨h1, hv.symm⟩
      · rw [List.getElem?_eq_none (by simpa using h1)] at hv
        cases hv
    refine ⟨some x, (List.range len).map V, m, by simp, by simpa using hl, hm, ?_, ?_, ?_⟩
    · intro i u hu
      refine ⟨x, rfl, ?_⟩
      have hil : i < ((List.range len).map V).length * 3 := by
        rw [← Row_length Val.len]
        rcases Nat.lt_or_ge i (Row Val.cells ((List.range len).map V)).length with h1 | h1
        · exact h1
        · rw [List.getElem?_eq_none h1] at hu; cases hu
      rw [List.length_map, List.length_range] at hil
      have hq : i / 3 < len := by omega
      have hg : ((List.range len).map V)[i / 3]? = some (V (i / 3)) := by rw [List.getElem?_map, List.getElem?_range hq]; rfl
      have := Row_get Val.len _ (i / 3) (i % 3) _ hg (by omega)
      rw [show i / 3 * 3 + i % 3 = i by omega] at this
      rw [this] at hu
      have h2 := (hV (i / 3) (by omega)).2 (i % 3) u hu
      rwa [show i / 3 * 3 + i % 3 = i by omega] at h2
    · intro v hv
      obtain ⟨i, hi⟩ := List.getElem?_of_mem hv
      obtain ⟨h1, rfl⟩ := hgi i v hi
      exact (hV i (by omega)).1
    · obtain ⟨hx1, _⟩ := Prod.mk.inj hx
      subst hx1
      have z := sized_slice hsz ht hd Try.underlying30
      rw [show Try.prog.bytesOf 37 = 32 by kernel_rfl] at z
      simp [reachBytes] at z
      simp
      omega

end Go.Proofs.Ytoejegphjlichaa
