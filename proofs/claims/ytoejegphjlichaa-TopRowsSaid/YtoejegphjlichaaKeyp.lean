/- Plain law: keys of valid values are ordered as the lists of values are. No condition. -/
import Derived.Test.YtoejegphjlichaaKeya
import Derived.Test.YtoejegphjlichaaVala
namespace Go.Proofs.Ytoejegphjlichaa
open Go.RowKit
set_option linter.unusedVariables false
set_option linter.unusedSimpArgs false

/-- The order of two lists of bytes: -1, 0 or 1. -/
def bc : List UInt8 → List UInt8 → Int
  | [], [] => 0
  | [], _ :: _ => -1
  | _ :: _, [] => 1
  | a :: x, b :: y => if a < b then -1 else if a = b then bc x y else 1

theorem bc_cc (a b : UInt8) (x y : List UInt8) : bc (a :: x) (b :: y) = if a < b then -1 else if a = b then bc x y else 1 := rfl
theorem bc_self : ∀ x : List UInt8, bc x x = 0
  | [] => rfl
  | a :: x => by
    have h : ¬ a < a := by rw [UInt8.lt_iff_toNat_lt]; omega
    rw [bc_cc, if_neg h, if_pos rfl, bc_self x]

theorem bc_less : ∀ x y : List UInt8, Op.bytesLess x y = decide (bc x y = -1)
  | [], [] => by simp [Op.bytesLess, bc]
  | [], _ :: _ => by simp [Op.bytesLess, bc]
  | _ :: _, [] => by simp [Op.bytesLess, bc]
  | a :: x, b :: y => by
    rw [Op.bytesLess, bc_less x y, bc_cc]
    by_cases h1 : a < b
    · simp [h1]
    · by_cases h2 : a = b
      · subst h2; simp [h1]
      · simp [h1, h2]

theorem bc_eq : ∀ x y : List UInt8, (x == y) = decide (bc x y = 0)
  | [], [] => by simp [bc]
  | [], _ :: _ => by simp [bc]
  | _ :: _, [] => by simp [bc]
  | a :: x, b :: y => by
    have h0 := bc_eq x y
    rw [bc_cc]
    by_cases h1 : a < b
    · have h2 : a ≠ b := by intro e; subst e; rw [UInt8.lt_iff_toNat_lt] at h1; omega
      simp [h1, h2]
    · by_cases h2 : a = b
      · subst h2; simp [h1, ← h0]
      · simp [h1, h2]

theorem bc_three : ∀ x y : List UInt8, bc x y = -1 ∨ bc x y = 0 ∨ bc x y = 1
  | [], [] => by simp [bc]
  | [], _ :: _ => by simp [bc]
  | _ :: _, [] => by simp [bc]
  | a :: x, b :: y => by
    have h0 := bc_three x y
    rw [bc_cc]
    split
    · simp
    · split
      · exact h0
      · simp

theorem bc_cons (a : UInt8) (x y : List UInt8) : bc (a :: x) (a :: y) = bc x y := by
  have h : ¬ a < a := by rw [UInt8.lt_iff_toNat_lt]; omega
  show (if a < a then _ else if a = a then bc x y else 1) = _
  rw [if_neg h, if_pos rfl]

theorem bc_lt {a b : UInt8} (h : a.toNat < b.toNat) (x y : List UInt8) : bc (a :: x) (b :: y) = -1 := by
  show (if a < b then _ else _) = _
  rw [if_pos (UInt8.lt_iff_toNat_lt.mpr h)]

theorem bc_gt {a b : UInt8} (h : b.toNat < a.toNat) (x y : List UInt8) : bc (a :: x) (b :: y) = 1 := by
  have h2 : ¬ a = b := by intro e; subst e; omega
  show (if a < b then _ else if a = b then _ else 1) = _
  rw [if_neg (by rw [UInt8.lt_iff_toNat_lt]; omega), if_neg h2]

/-! ### numbers of n bytes -/
/-- The n bytes of a number, the most significant one first. -/
def dg : Nat → Nat → List UInt8
  | 0, _ => []
  | n + 1, u => UInt8.ofNat (u / 256 ^ n) :: dg n (u % 256 ^ n)

theorem bc_dg : ∀ (n u v : Nat) (x y : List UInt8), u < 256 ^ n → v < 256 ^ n → bc (dg n u ++ x) (dg n v ++ y) = if u < v then -1 else if v < u then 1 else bc x y
  | 0, u, v, x, y, hu, hv => by
    have h1 : u = 0 := by simpa using hu
    have h2 : v = 0 := by simpa using hv
    subst h1 h2
    simp [dg]
  | n + 1, u, v, x, y, hu, hv => by
    have hp : 0 < 256 ^ n := Nat.pow_pos (by decide)
    have hu1 : u / 256 ^ n < 256 := by rw [Nat.div_lt_iff_lt_mul hp, Nat.mul_comm, ← Nat.pow_succ]; exact hu
    have hv1 : v / 256 ^ n < 256 := by rw [Nat.div_lt_iff_lt_mul hp, Nat.mul_comm, ← Nat.pow_succ]; exact hv
    have tu : (UInt8.ofNat (u / 256 ^ n)).toNat = u / 256 ^ n := by simp; omega
    have tv : (UInt8.ofNat (v / 256 ^ n)).toNat = v / 256 ^ n := by simp; omega
    have eu := Nat.div_add_mod u (256 ^ n)
    have ev := Nat.div_add_mod v (256 ^ n)
    have mu := Nat.mod_lt u hp
    have mv := Nat.mod_lt v hp
    show bc (UInt8.ofNat (u / 256 ^ n) :: (dg n (u % 256 ^ n) ++ x)) (UInt8.ofNat (v / 256 ^ n) :: (dg n (v % 256 ^ n) ++ y)) = _
    rcases Nat.lt_trichotomy (u / 256 ^ n) (v / 256 ^ n) with h | h | h
    · rw [bc_lt (by rw [tu, tv]; exact h)]
      have : u < v := by
        have := Nat.mul_le_mul_left (256 ^ n) (show u / 256 ^ n + 1 ≤ v / 256 ^ n from h)
        rw [Nat.mul_add] at this
        omega
      rw [if_pos this]
    · rw [h, bc_cons, bc_dg n _ _ x y mu mv]
      rw [h] at eu
      have e1 : (u % 256 ^ n < v % 256 ^ n) = (u < v) := by apply propext; omega
      have e2 : (v % 256 ^ n < u % 256 ^ n) = (v < u) := by apply propext; omega
      simp only [e1, e2]
    · rw [bc_gt (by rw [tu, tv]; exact h)]
      have : v < u := by
        have := Nat.mul_le_mul_left (256 ^ n) (show v / 256 ^ n + 1 ≤ u / 256 ^ n from h)
        rw [Nat.mul_add] at this
        omega
      rw [if_neg (by omega), if_pos this]

theorem ofNat_mod (a b : Nat) (h : a % 256 = b % 256) : UInt8.ofNat a = UInt8.ofNat b := by
  apply UInt8.toNat_inj.mp
  simpa using h
theorem mod_pow_div (u k m : Nat) (h : k < m) : (u % 256 ^ m / 256 ^ k) % 256 = (u / 256 ^ k) % 256 := by
  obtain ⟨d, rfl⟩ : ∃ d, m = k + (1 + d) := ⟨m - k - 1, by omega⟩
  rw [Nat.pow_add, Nat.mod_mul_right_div_self, Nat.pow_add, Nat.pow_one, Nat.mod_mul_right_mod]
theorem be8_dg (u : Nat) : be8 u = dg 8 u := by
  have h : be8 u = [beAt u 0, beAt u 1, beAt u 2, beAt u 3, beAt u 4, beAt u 5, beAt u 6, beAt u 7] := rfl
  rw [h]
  unfold beAt
  simp only [dg]
  have mm : ∀ a b, a ≤ b → u % 256 ^ b % 256 ^ a = u % 256 ^ a := fun a b hab => Nat.mod_mod_of_dvd _ (Nat.pow_dvd_pow _ hab)
  rw [mm 6 7 (by decide), mm 5 6 (by decide), mm 4 5 (by decide), mm 3 4 (by decide), mm 2 3 (by decide), mm 1 2 (by decide)]
  have p : ∀ k, (2 : Nat) ^ (8 * k) = 256 ^ k := fun k => by rw [Nat.pow_mul]
  have e0 := ofNat_mod _ _ (mod_pow_div u 6 7 (by decide))
  have e1 := ofNat_mod _ _ (mod_pow_div u 5 6 (by decide))
  have e2 := ofNat_mod _ _ (mod_pow_div u 4 5 (by decide))
  have e3 := ofNat_mod _ _ (mod_pow_div u 3 4 (by decide))
  have e4 := ofNat_mod _ _ (mod_pow_div u 2 3 (by decide))
  have e5 := ofNat_mod _ _ (mod_pow_div u 1 2 (by decide))
  have e6 := ofNat_mod _ _ (mod_pow_div u 0 1 (by decide))
  rw [e0, e1, e2, e3, e4, e5, e6]

theorem bc_be8 {u v : Nat} (hu : u < 18446744073709551616) (hv : v < 18446744073709551616) (x y : List UInt8) : bc (be8 u ++ x) (be8 v ++ y) = if u < v then -1 else if v < u then 1 else bc x y := by
  rw [be8_dg, be8_dg]
  exact bc_dg 8 u v x y (by omega) (by omega)

/-! ### texts -/
theorem bc_text : ∀ (s t x y : List UInt8), pr s = true → pr t = true → bc (s ++ 0 :: x) (t ++ 0 :: y) = if bc s t = 0 then bc x y else bc s t
  | [], [], x, y, _, _ => by simp [bc, bc_cons]
  | [], b :: t, x, y, _, ht => by
    have hb : 32 ≤ b.toNat := by
      simp only [pr, List.all_cons, Bool.and_eq_true, prB, decide_eq_true_eq] at ht
      exact ht.1.1
    have h0 : (0 : UInt8).toNat = 0 := rfl
    show bc (0 :: x) (b :: (t ++ 0 :: y)) = _
    rw [bc_lt (by omega)]
    simp [bc]
  | a :: s, [], x, y, hs, _ => by
    have hb : 32 ≤ a.toNat := by
      simp only [pr, List.all_cons, Bool.and_eq_true, prB, decide_eq_true_eq] at hs
      exact hs.1.1
    have h0 : (0 : UInt8).toNat = 0 := rfl
    show bc (a :: (s ++ 0 :: x)) (0 :: y) = _
    rw [bc_gt (by omega)]
    simp [bc]
  | a :: s, b :: t, x, y, hs, ht => by
    have hs' : pr s = true := by simp only [pr, List.all_cons, Bool.and_eq_true] at hs; exact hs.2
    have ht' : pr t = true := by simp only [pr, List.all_cons, Bool.and_eq_true] at ht; exact ht.2
    have ih := bc_text s t x y hs' ht'
    show bc (a :: (s ++ 0 :: x)) (b :: (t ++ 0 :: y)) = _
    rcases Nat.lt_trichotomy a.toNat b.toNat with h | h | h
    · rw [bc_lt h, bc_lt h]; simp
    · obtain rfl := UInt8.toNat_inj.mp h
      rw [bc_cons, bc_cons, ih]
    · rw [bc_gt h, bc_gt h]; simp

/-! ### values and rows -/
/-- The order of two values. -/
def vc (u v : Val) : Int :=
  if u.kind < v.kind then -1 else if v.kind < u.kind then 1 else if u.int < v.int then -1 else if v.int < u.int then 1 else bc u.text.data.toList v.text.data.toList
/-- The order of two rows. -/
def rc : List Val → List Val → Int
  | [], [] => 0
  | [], _ :: _ => -1
  | _ :: _, [] => 1
  | u :: us, v :: vs => if vc u v = 0 then rc us vs else vc u v

theorem vV_cases {v : Val} (h : vV v = true) : (v.kind = 0 ∧ v.int = 0 ∧ v.text.data.toList = []) ∨ (v.kind = 1 ∧ (-1125899906842624 ≤ v.int ∧ v.int ≤ 1125899906842624) ∧ v.text.data.toList = []) ∨ (v.kind = 2 ∧ v.int = 0 ∧ pr v.text.data.toList = true) ∨ (v.kind = 3 ∧ (v.int = 0 ∨ v.int = 1) ∧ v.text.data.toList = []) := by
  unfold vV at h
  split at h
  · rename_i hk
    simp only [Bool.and_eq_true, beq_iff_eq, List.isEmpty_iff] at h
    exact .inl ⟨hk, h⟩
  · split at h
    · rename_i hk
      simp only [Bool.and_eq_true, decide_eq_true_eq, List.isEmpty_iff] at h
      exact .inr (.inl ⟨hk, h⟩)
    · split at h
      · rename_i hk
        simp only [Bool.and_eq_true, decide_eq_true_eq, beq_iff_eq] at h
        exact .inr (.inr (.inl ⟨hk, h.1.1, h.2⟩))
      · split at h
        · rename_i hk
          simp only [Bool.and_eq_true, Bool.or_eq_true, beq_iff_eq, List.isEmpty_iff] at h
          exact .inr (.inr (.inr ⟨hk, h⟩))
        · cases h

theorem kV_head {v : Val} (h : vV v = true) : ∃ r, kV v = UInt8.ofNat (v.kind + 1).toNat :: r := by
  rcases vV_cases h with ⟨hk, _⟩ | ⟨hk, _⟩ | ⟨hk, _⟩ | ⟨hk, _⟩ <;> (unfold kV; rw [hk]; exact ⟨_, rfl⟩)
theorem vV_kind {v : Val} (h : vV v = true) : 0 ≤ v.kind ∧ v.kind ≤ 3 := by
  rcases vV_cases h with ⟨hk, _⟩ | ⟨hk, _⟩ | ⟨hk, _⟩ | ⟨hk, _⟩ <;> omega

theorem key_step {u v : Val} (hu : vV u = true) (hv : vV v = true) (x y : List UInt8) : bc (kV u ++ x) (kV v ++ y) = if vc u v = 0 then bc x y else vc u v := by
  have ku := vV_kind hu
  have kv := vV_kind hv
  by_cases hk : u.kind = v.kind
  · have e0 : vc u v = if u.int < v.int then -1 else if v.int < u.int then 1 else bc u.text.data.toList v.text.data.toList := by
      unfold vc; rw [if_neg (by omega), if_neg (by omega)]
    rw [e0]
    rcases vV_cases hu with ⟨h1, h2, h3⟩ | ⟨h1, h2, h3⟩ | ⟨h1, h2, h3⟩ | ⟨h1, h2, h3⟩ <;>
      rcases vV_cases hv with ⟨g1, g2, g3⟩ | ⟨g1, g2, g3⟩ | ⟨g1, g2, g3⟩ | ⟨g1, g2, g3⟩ <;> first | (exfalso; omega) | skip
    · have e1 : kV u = [1] := by unfold kV; rw [h1]; rfl
      have e2 : kV v = [1] := by unfold kV; rw [g1]; rfl
      rw [e1, e2, h2, g2, h3, g3]
      show bc (1 :: x) (1 :: y) = _
      rw [bc_cons]
      simp [bc]
    · have e1 : kV u = 2 :: be8 (u.int + 9223372036854775808).toNat := by unfold kV; rw [h1]; rfl
      have e2 : kV v = 2 :: be8 (v.int + 9223372036854775808).toNat := by unfold kV; rw [g1]; rfl
      rw [e1, e2, h3, g3]
      show bc (2 :: (be8 _ ++ x)) (2 :: (be8 _ ++ y)) = _
      rw [bc_cons, bc_be8 (by omega) (by omega)]
      have a1 : ((u.int + 9223372036854775808).toNat < (v.int + 9223372036854775808).toNat) = (u.int < v.int) := by apply propext; omega
      have a2 : ((v.int + 9223372036854775808).toNat < (u.int + 9223372036854775808).toNat) = (v.int < u.int) := by apply propext; omega
      simp only [a1, a2]
      by_cases q1 : u.int < v.int
      · simp [q1]
      · by_cases q2 : v.int < u.int
        · simp [q1, q2]
        · simp [q1, q2, bc]
    · have e1 : kV u = 3 :: (u.text.data.toList ++ [0]) := by unfold kV; rw [h1]; rfl
      have e2 : kV v = 3 :: (v.text.data.toList ++ [0]) := by unfold kV; rw [g1]; rfl
      rw [e1, e2, h2, g2]
      show bc (3 :: (u.text.data.toList ++ [0] ++ x)) (3 :: (v.text.data.toList ++ [0] ++ y)) = _
      rw [bc_cons, List.append_assoc, List.append_assoc]
      show bc (u.text.data.toList ++ 0 :: x) (v.text.data.toList ++ 0 :: y) = _
      rw [bc_text _ _ _ _ h3 g3]
      simp
    · have e1 : kV u = [4, UInt8.ofNat (u.int % 256).toNat] := by unfold kV; rw [h1]; rfl
      have e2 : kV v = [4, UInt8.ofNat (v.int % 256).toNat] := by unfold kV; rw [g1]; rfl
      rw [e1, e2, h3, g3]
      show bc (4 :: UInt8.ofNat (u.int % 256).toNat :: x) (4 :: UInt8.ofNat (v.int % 256).toNat :: y) = _
      rw [bc_cons]
      rcases h2 with h2 | h2 <;> rcases g2 with g2 | g2 <;> rw [h2, g2]
      · show bc (0 :: x) (0 :: y) = _
        rw [bc_cons]; simp [bc]
      · show bc (0 :: x) (1 :: y) = _
        rw [bc_lt (by decide)]; simp
      · show bc (1 :: x) (0 :: y) = _
        rw [bc_gt (by decide)]; simp
      · show bc (1 :: x) (1 :: y) = _
        rw [bc_cons]; simp [bc]
  · obtain ⟨r, e1⟩ := kV_head hu
    obtain ⟨q, e2⟩ := kV_head hv
    rw [e1, e2]
    have tu : (UInt8.ofNat (u.kind + 1).toNat).toNat = (u.kind + 1).toNat := by simp; omega
    have tv : (UInt8.ofNat (v.kind + 1).toNat).toNat = (v.kind + 1).toNat := by simp; omega
    show bc (UInt8.ofNat (u.kind + 1).toNat :: (r ++ x)) (UInt8.ofNat (v.kind + 1).toNat :: (q ++ y)) = _
    rcases Int.lt_or_gt_of_ne hk with h | h
    · rw [bc_lt (by omega)]
      have e : vc u v = -1 := by unfold vc; rw [if_pos h]
      rw [e]; simp
    · rw [bc_gt (by omega)]
      have e : vc u v = 1 := by unfold vc; rw [if_neg (by omega), if_pos (by omega)]
      rw [e]; simp

theorem kR_cons (u : Val) (us : List Val) : kR (u :: us) = kV u ++ kR us := by simp [kR]
theorem kR_append (us vs : List Val) : kR (us ++ vs) = kR us ++ kR vs := by simp [kR]

theorem key_order : ∀ (us vs : List Val), us.all vV = true → vs.all vV = true → bc (kR us) (kR vs) = rc us vs
  | [], [], _, _ => rfl
  | [], v :: vs, _, hv => by
    simp only [List.all_cons, Bool.and_eq_true] at hv
    obtain ⟨q, e⟩ := kV_head hv.1
    rw [kR_cons, e]
    rfl
  | u :: us, [], hu, _ => by
    simp only [List.all_cons, Bool.and_eq_true] at hu
    obtain ⟨q, e⟩ := kV_head hu.1
    rw [kR_cons, e]
    rfl
  | u :: us, v :: vs, hu, hv => by
    simp only [List.all_cons, Bool.and_eq_true] at hu hv
    rw [kR_cons, kR_cons, key_step hu.1 hv.1, key_order us vs hu.2 hv.2]
    rfl

end Go.Proofs.Ytoejegphjlichaa
