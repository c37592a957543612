/- Plain laws of the encoding, of values, rows and periods: what was put is read again, and what is read has exactly the bytes that are put for it. -/
import Derived.Test.YtoejegphjlichaaPlain
import Derived.Test.YtoejegphjlichaaRedd
namespace Go.Proofs.Ytoejegphjlichaa
open Go.RowKit
set_option linter.unusedVariables false
set_option linter.unusedSimpArgs false

theorem get_mid (x y : List UInt8) (b : UInt8) : (x ++ (b :: y)).getD x.length 0 = b := by simp [List.getD_eq_getElem?_getD]

theorem empty_of {s : ByteArray} (h : s.data.toList.isEmpty = true) : s = ⟨#[]⟩ := by
  obtain ⟨d⟩ := s
  obtain ⟨l⟩ := d
  simp at h
  subst h
  rfl

theorem dV_byte (x y : List UInt8) (b : UInt8) : ¬ (((x.length : Nat) : Int) < 0 ∨ ((x ++ (b :: y)).length : Int) < (x.length : Nat)) ∧ ¬ ((x.length : Nat) : Int) = ((x ++ (b :: y)).length : Nat) := by
  simp only [List.length_append, List.length_cons]
  omega

theorem one_len (x : List UInt8) (b : UInt8) : ((x.length : Nat) : Int) + 1 = ((x ++ [b]).length : Nat) := by simp

/-- A valid value that was put is read again. -/
theorem dV_put (x y : List UInt8) {v : Val} (h : vV v = true) : dV (x ++ (pV v ++ y)) x.length = (v, (x.length : Int) + (pV v).length, 0) := by
  obtain ⟨k, n, s⟩ := v
  unfold vV at h
  simp only at h
  by_cases h0 : k = 0
  · subst h0
    simp only [if_true, Bool.and_eq_true, beq_iff_eq] at h
    obtain ⟨rfl, hs⟩ := h
    rw [empty_of hs]
    have e : pV ⟨0, 0, ⟨#[]⟩⟩ = [0] := rfl
    rw [e]
    show dV (x ++ (0 :: y)) _ = _
    obtain ⟨d1, d2⟩ := dV_byte x y 0
    unfold dV
    rw [if_neg d1, if_neg d2, show ((x.length : Nat) : Int).toNat = x.length from rfl, get_mid]
    rfl
  · rw [if_neg h0] at h
    by_cases h1 : k = 1
    · subst h1
      simp only [if_true, Bool.and_eq_true, decide_eq_true_eq] at h
      obtain ⟨⟨hn1, hn2⟩, hs⟩ := h
      rw [empty_of hs]
      have e : pV ⟨1, n, ⟨#[]⟩⟩ = 1 :: pI n := by simp [pV]
      have e2 : x ++ (1 :: (pI n ++ y)) = (x ++ [1]) ++ (pI n ++ y) := by simp
      rw [e]
      show dV (x ++ (1 :: (pI n ++ y))) _ = _
      have hI := dI_put (x ++ [1]) y (n := n) (by omega) (by omega)
      rw [← e2, ← one_len] at hI
      obtain ⟨d1, d2⟩ := dV_byte x (pI n ++ y) 1
      unfold dV
      rw [if_neg d1, if_neg d2, show ((x.length : Nat) : Int).toNat = x.length from rfl, get_mid, hI]
      simp only [List.length_cons]
      rw [if_neg (by decide), if_pos (by decide), if_pos trivial, if_neg (by omega)]
      refine Prod.ext rfl (Prod.ext ?_ rfl)
      show (x.length : Int) + 1 + ((pI n).length : Int) = (x.length : Int) + (((pI n).length + 1 : Nat) : Int)
      omega
    · rw [if_neg h1] at h
      by_cases h2 : k = 2
      · subst h2
        simp only [if_true, Bool.and_eq_true, decide_eq_true_eq, beq_iff_eq] at h
        obtain ⟨⟨rfl, hs⟩, hp⟩ := h
        obtain ⟨d⟩ := s
        obtain ⟨t⟩ := d
        have hs2 : t.length ≤ 200 := hs
        have e : pV ⟨2, 0, ⟨⟨t⟩⟩⟩ = 2 :: pT t := by simp [pV]
        have e2 : x ++ (2 :: (pT t ++ y)) = (x ++ [2]) ++ (pT t ++ y) := by simp
        rw [e]
        show dV (x ++ (2 :: (pT t ++ y))) _ = _
        have hT := dT_put (x ++ [2]) y t (most := 200) (by rw [if_neg (by decide)]; omega) (by omega)
        rw [← e2, ← one_len] at hT
        obtain ⟨d1, d2⟩ := dV_byte x (pT t ++ y) 2
        unfold dV
        rw [if_neg d1, if_neg d2, show ((x.length : Nat) : Int).toNat = x.length from rfl, get_mid, hT]
        simp only [List.length_cons]
        rw [if_neg (by decide), if_neg (by decide), if_pos (by decide), if_pos trivial, if_pos hp]
        refine Prod.ext rfl (Prod.ext ?_ rfl)
        show (x.length : Int) + 1 + ((pT t).length : Int) = (x.length : Int) + (((pT t).length + 1 : Nat) : Int)
        omega
      · rw [if_neg h2] at h
        by_cases h3 : k = 3
        · subst h3
          simp only [if_true, Bool.and_eq_true, Bool.or_eq_true, beq_iff_eq] at h
          obtain ⟨hn, hs⟩ := h
          rw [empty_of hs]
          rcases hn with rfl | rfl
          · have e : pV ⟨3, 0, ⟨#[]⟩⟩ = [3] := rfl
            rw [e]
            show dV (x ++ (3 :: y)) _ = _
            obtain ⟨d1, d2⟩ := dV_byte x y 3
            unfold dV
            rw [if_neg d1, if_neg d2, show ((x.length : Nat) : Int).toNat = x.length from rfl, get_mid]
            rfl
          · have e : pV ⟨3, 1, ⟨#[]⟩⟩ = [4] := rfl
            rw [e]
            show dV (x ++ (4 :: y)) _ = _
            obtain ⟨d1, d2⟩ := dV_byte x y 4
            unfold dV
            rw [if_neg d1, if_neg d2, show ((x.length : Nat) : Int).toNat = x.length from rfl, get_mid]
            rfl
        · rw [if_neg h3] at h
          cases h

theorem take_byte {l : List UInt8} {i : Nat} (hi : i < l.length) : l.take (i + 1) = l.take i ++ [l.getD i 0] := by
  rw [List.take_add_one, List.getD_eq_getElem?_getD, List.getElem?_eq_getElem hi]
  rfl

theorem byte_eq {b : UInt8} {n : Nat} (h : b.toNat = n) (hn : n < 256) : b = UInt8.ofNat n := by
  apply UInt8.toNat_inj.1
  rw [byte_small hn, h]

/-- What is read as a value has exactly its bytes. -/
theorem dV_back {l : List UInt8} {a k : Int} {v : Val} (h : dV l a = (v, k, 0)) : l.take k.toNat = l.take a.toNat ++ pV v ∧ 0 ≤ a ∧ a < k ∧ k ≤ l.length ∧ v.Fits ∧ v.text.size ≤ 200 := by
  have hz : (⟨#[]⟩ : ByteArray).size = 0 := rfl
  unfold dV at h
  simp only at h
  split at h
  · simp at h
  · rename_i hr
    split at h
    · simp at h
    · rename_i he
      have hi : a.toNat < l.length := by omega
      have ht := take_byte hi
      revert h ht
      generalize l.getD a.toNat 0 = b
      intro h ht
      rw [show a.toNat + 1 = (a + 1).toNat by omega] at ht
      split at h
      · rename_i h0
        simp only [Prod.mk.injEq] at h
        obtain ⟨rfl, rfl, _⟩ := h
        refine ⟨by rw [ht, byte_eq h0 (by decide)]; rfl, by omega, by omega, by omega, ⟨by decide, by decide, by decide, by decide, by rw [hz]; omega⟩, by rw [hz]; omega⟩
      · rename_i h0
        split at h
        · rename_i h1
          split at h
          · rename_i hd
            split at h
            · simp at h
            · rename_i hn
              simp only [Prod.mk.injEq] at h
              obtain ⟨rfl, rfl, _⟩ := h
              have hI : dI l (a + 1) = ((dI l (a + 1)).1, (dI l (a + 1)).2.1, 0) := by rw [← hd]
              have hok := dI_ok hI
              have hb := dI_back hI
              refine ⟨?_, by omega, by omega, by omega, ⟨by simp only; omega, by simp only; omega, by simp only; omega, by simp only; omega, by rw [hz]; omega⟩, by rw [hz]; omega⟩
              rw [hb, ht, byte_eq h1 (by decide), List.append_assoc]
              simp [pV]
          · rename_i hd
            simp only [Prod.mk.injEq] at h
            omega
        · rename_i h1
          split at h
          · rename_i h2
            split at h
            · rename_i hd
              split at h
              · rename_i hp
                simp only [Prod.mk.injEq] at h
                obtain ⟨rfl, rfl, _⟩ := h
                have hT : dT l (a + 1) 200 = ((dT l (a + 1) 200).1, (dT l (a + 1) 200).2.1, 0) := by rw [← hd]
                have hok := dT_ok hT
                have hb := dT_back hT
                have hs : ((dT l (a + 1) 200).1.length : Int) ≤ 200 := by have := hok.2.2.2; rwa [if_neg (by decide)] at this
                have hs2 : (⟨(dT l (a + 1) 200).1.toArray⟩ : ByteArray).size ≤ 200 := by show (dT l (a + 1) 200).1.length ≤ 200; omega
                refine ⟨?_, by omega, by omega, by omega, ⟨by simp only; omega, by simp only; omega, by simp only; omega, by simp only; omega, by simp only; omega⟩, by simp only; omega⟩
                rw [hb, ht, byte_eq h2 (by decide), List.append_assoc]
                simp [pV]
              · simp at h
            · rename_i hd
              simp only [Prod.mk.injEq] at h
              omega
          · rename_i h2
            split at h
            · rename_i h3
              simp only [Prod.mk.injEq] at h
              obtain ⟨rfl, rfl, _⟩ := h
              refine ⟨?_, by omega, by omega, by omega, ⟨by simp only; omega, by simp only; omega, by simp only; omega, by simp only; omega, by rw [hz]; omega⟩, by rw [hz]; omega⟩
              rw [ht]
              rcases h3 with h3 | h3
              · rw [byte_eq h3 (by decide)]; rfl
              · rw [byte_eq h3 (by decide)]; rfl
            · simp at h

theorem rR_put : ∀ (vs acc : List Val) (x y : List UInt8), vs.all vV = true → rR (x ++ ((vs.map pV).flatten ++ y)) vs.length acc x.length = .inr (acc ++ vs, (x.length : Int) + ((vs.map pV).flatten).length)
  | [], acc, x, y, _ => by simp [rR]
  | v :: vs, acc, x, y, h => by
    simp only [List.all_cons, Bool.and_eq_true] at h
    have e : x ++ (((v :: vs).map pV).flatten ++ y) = x ++ (pV v ++ ((vs.map pV).flatten ++ y)) := by simp
    have e2 : x ++ (pV v ++ ((vs.map pV).flatten ++ y)) = (x ++ pV v) ++ ((vs.map pV).flatten ++ y) := by simp
    have h1 := dV_put x ((vs.map pV).flatten ++ y) h.1
    have h2 := rR_put vs (acc ++ [v]) (x ++ pV v) y h.2
    rw [← e2] at h2
    rw [e, List.length_cons, rR, h1]
    simp only [if_true]
    rw [show (x.length : Int) + (pV v).length = ((x ++ pV v).length : Nat) by simp, h2]
    simp only [List.append_assoc, List.map_cons, List.flatten_cons, List.length_append, List.cons_append, List.nil_append]
    congr 2
    omega

/-- A valid row that was put is read again. -/
theorem dR_put (x y : List UInt8) {vs : List Val} (h : vs.all vV = true) (hn : vs.length ≤ 12) : dR (x ++ (pR vs ++ y)) x.length = (vs, (x.length : Int) + (pR vs).length, 0) := by
  have e : x ++ (pR vs ++ y) = x ++ (pI vs.length ++ ((vs.map pV).flatten ++ y)) := by simp [pR]
  have e2 : x ++ (pI vs.length ++ ((vs.map pV).flatten ++ y)) = (x ++ pI vs.length) ++ ((vs.map pV).flatten ++ y) := by simp
  have hI := dI_put x ((vs.map pV).flatten ++ y) (n := (vs.length : Int)) (by omega) (by omega)
  have hR := rR_put vs [] (x ++ pI vs.length) y h
  rw [← e2, show (((x ++ pI vs.length).length : Nat) : Int) = (x.length : Int) + (pI vs.length).length by simp] at hR
  unfold dR
  rw [e, hI]
  simp only [if_true]
  rw [if_neg (by omega), if_neg (by omega), show ((vs.length : Nat) : Int).toNat = vs.length from rfl, hR]
  simp only [outR, List.nil_append, pR, List.length_append]
  refine Prod.ext rfl (Prod.ext ?_ rfl)
  simp only
  omega

theorem rR_back : ∀ (n : Nat) (l : List UInt8) (acc vs : List Val) (a k : Int), rR l n acc a = .inr (vs, k) → 0 ≤ a → a ≤ l.length →
    ∃ ws, vs = acc ++ ws ∧ ws.length = n ∧ l.take k.toNat = l.take a.toNat ++ (ws.map pV).flatten ∧ a ≤ k ∧ k ≤ l.length ∧ ∀ v ∈ ws, v.Fits ∧ v.text.size ≤ 200
  | 0, l, acc, vs, a, k, h, h0, h1 => by
    simp only [rR, Sum.inr.injEq, Prod.mk.injEq] at h
    obtain ⟨rfl, rfl⟩ := h
    exact ⟨[], by simp, rfl, by simp, by omega, h1, by simp⟩
  | n + 1, l, acc, vs, a, k, h, h0, h1 => by
    rw [rR] at h
    split at h
    · rename_i he
      have hV : dV l a = ((dV l a).1, (dV l a).2.1, 0) := by rw [← he]
      obtain ⟨hb, _, h3, h4, h5, h6⟩ := dV_back hV
      obtain ⟨ws, rfl, hl, ht, h7, h8, h9⟩ := rR_back n l _ _ _ _ h (by omega) h4
      refine ⟨(dV l a).1 :: ws, by simp, by simp [hl], by rw [ht, hb]; simp, by omega, h8, ?_⟩
      intro v hv
      rcases List.mem_cons.1 hv with rfl | hv
      · exact ⟨h5, h6⟩
      · exact h9 v hv
    · cases h

/-- What is read as a row has exactly its bytes. -/
theorem dR_back {l : List UInt8} {a k : Int} {vs : List Val} (h : dR l a = (vs, k, 0)) : l.take k.toNat = l.take a.toNat ++ pR vs ∧ 0 ≤ a ∧ a < k ∧ k ≤ l.length ∧ vs.length ≤ 12 ∧ ∀ v ∈ vs, v.Fits ∧ v.text.size ≤ 200 := by
  unfold dR at h
  obtain ⟨r, hr⟩ : ∃ r, r = dI l a := ⟨_, rfl⟩
  obtain ⟨n, k0, e0⟩ := r
  rw [← hr] at h
  simp only at h
  by_cases he : e0 = 0
  · subst he
    have hok := dI_ok hr.symm
    have hb := dI_back hr.symm
    rw [if_pos rfl] at h
    by_cases h1 : n < 0
    · rw [if_pos h1] at h; simp at h
    · rw [if_neg h1] at h
      by_cases h2 : 12 < n
      · rw [if_pos h2] at h; simp at h
      · rw [if_neg h2] at h
        revert h
        cases hR : rR l n.toNat [] k0 with
        | inl e =>
          intro h
          simp only [outR, Prod.mk.injEq] at h
          exfalso
          obtain ⟨_, _, rfl⟩ := h
          exact rR_err _ _ _ _ hR rfl
        | inr p =>
          obtain ⟨ws, k1⟩ := p
          intro h
          simp only [outR, Prod.mk.injEq] at h
          obtain ⟨rfl, rfl, _⟩ := h
          obtain ⟨us, rfl, hl, ht, h7, h8, h9⟩ := rR_back _ _ _ _ _ _ hR (by omega) (by omega)
          refine ⟨?_, by omega, by omega, h8, by simp [hl]; omega, by simpa using h9⟩
          rw [ht, hb]
          simp only [List.nil_append, pR, List.append_assoc, hl]
          rw [show ((n.toNat : Nat) : Int) = n by omega]
  · rw [if_neg he] at h
    simp only [Prod.mk.injEq] at h
    omega
where
  rR_err : ∀ (n : Nat) (acc : List Val) (a e : Int), rR l n acc a = .inl e → e = 0 → False
    | 0, acc, a, e, h, _ => by simp [rR] at h
    | n + 1, acc, a, e, h, h0 => by
      rw [rR] at h
      split at h
      · exact rR_err n _ _ _ h h0
      · rename_i he
        simp only [Sum.inl.injEq] at h
        omega

/-- What is read as a period has exactly its bytes. -/
theorem dP_back {l : List UInt8} {a k f t : Int} (h : dP l a = ((f, t), k, 0)) : l.take k.toNat = l.take a.toNat ++ pP f t ∧ 0 ≤ a ∧ a < k ∧ k ≤ l.length ∧ (-9223372036854775808 ≤ f ∧ f < 9223372036854775808) ∧ -9223372036854775808 ≤ t ∧ t < 9223372036854775808 := by
  unfold dP at h
  obtain ⟨r, hr⟩ : ∃ r, r = dI l a := ⟨_, rfl⟩
  obtain ⟨n, k0, e0⟩ := r
  rw [← hr] at h
  simp only at h
  by_cases he : e0 = 0
  · subst he
    rw [if_pos rfl] at h
    obtain ⟨s, hs⟩ : ∃ s, s = dI l k0 := ⟨_, rfl⟩
    obtain ⟨m, k1, e1⟩ := s
    rw [← hs] at h
    simp only at h
    by_cases he1 : e1 = 0
    · subst he1
      rw [if_pos rfl] at h
      split at h
      · simp only [Prod.mk.injEq] at h
        obtain ⟨⟨rfl, rfl⟩, rfl, _⟩ := h
        have h1 := dI_ok hr.symm
        have h2 := dI_ok hs.symm
        refine ⟨by rw [dI_back hs.symm, dI_back hr.symm, List.append_assoc]; rfl, by omega, by omega, by omega, ⟨by omega, by omega⟩, by omega, by omega⟩
      · simp at h
    · rw [if_neg he1] at h
      simp only [Prod.mk.injEq] at h
      omega
  · rw [if_neg he] at h
    simp only [Prod.mk.injEq] at h
    omega

end Go.Proofs.Ytoejegphjlichaa
