/- Small laws on slices that are read, slices that are appended to, and worlds that keep what was there: for every program. -/
import Derived.WalkKit
import Derived.WalkSpells
import Derived.WalkLawsBesides
import Derived.Deep.QuietTactic
import Derived.BigQuiet
import Derived.Lib.Hide
import Derived.Deep.AppendSrc
import Derived.Deep.RegionHeld3
import Derived.Laws.BytesArg
namespace Go.Proofs.Ytoejegphjlichaa
open Go.RowKit

/-! ### worlds -/
/-- The cells and marks that were there read as before. -/
theorem old_of {W w1 : World} (hb : Below W.heap.size W w1) : (∀ b o, b < W.heap.size → w1.cell? ⟨b, o, none⟩ = W.cell? ⟨b, o, none⟩) ∧ (∀ b o, b < W.heap.size → w1.frozen? ⟨b, o, none⟩ = W.frozen? ⟨b, o, none⟩) :=
  ⟨fun b o h => hb.cell (p := ⟨b, o, none⟩) h, fun b o h => hb.frozen (p := ⟨b, o, none⟩) h⟩

theorem cell_kept {w w1 : World} (h : Below w.heap.size w w1) {a : Addr} {v : Value} (hc : w.cell? a = some v) : w1.cell? a = some v :=
  (h.cell (World.block_lt_of_cell? w a hc)).trans hc

theorem at_below {w w1 : World} {N : Nat} (h : Below N w w1) (b o : Nat) (hb : b < N) : w1.cell? ⟨b, o, none⟩ = w.cell? ⟨b, o, none⟩ := h.cell (p := ⟨b, o, none⟩) hb

theorem below_comp {w w1 w2 : World} {B : Nat} (h : Below B w w1) (hB : B ≤ w1.heap.size) (k : Below w1.heap.size w1 w2) : Below B w w2 := h.trans (k.mono hB)

theorem below_join {w w1 w2 : World} (h : Below w.heap.size w w1) (k : Below w1.heap.size w1 w2) : Below w.heap.size w w2 := below_comp h h.size k

theorem below_drewN {w w1 : World} {B : Nat} (h : Below B w w1) (n : Nat) : Below B w (w1.drewN n) := ⟨h.os, h.tape, h.output, h.size, h.block⟩

theorem add_block (a : Addr) (n : Nat) : (a.add n).block = a.block := by unfold Addr.add; split <;> rfl

theorem add_add (a : Addr) (n m : Nat) : (a.add n).add m = a.add (n + m) := by
  unfold Addr.add
  by_cases h1 : n = 0
  · subst h1; simp
  · by_cases h2 : m = 0
    · subst h2; simp
    · simp [h1, h2, Nat.add_assoc]

theorem add_off (a : Addr) (n j : Nat) (hj : 0 < j) : (⟨(a.add n).block, (a.add n).off + j, none⟩ : Addr) = a.add (n + j) := by
  unfold Addr.add
  by_cases h1 : n = 0
  · subst h1; simp [Nat.ne_of_gt hj]
  · simp [h1, Nat.add_assoc]

/-! ### a run of cells that is read -/
/-- From the address A on the cells hold vs. -/
def Cs (w : World) (A : Option Addr) (vs : List Value) : Prop := ∀ i u, vs[i]? = some u → ∃ a, A = some a ∧ w.cell? (a.add i) = some u

theorem Cs.nil (w : World) (A : Option Addr) : Cs w A [] := fun i u h => by simp at h
theorem Cs.kept {w w1 : World} {A : Option Addr} {vs : List Value} (h : Cs w A vs) (hb : Below w.heap.size w w1) : Cs w1 A vs := fun i u hi => by
  obtain ⟨a, e, hc⟩ := h i u hi
  exact ⟨a, e, cell_kept hb hc⟩
theorem Cs.alloc {w : World} {A : Option Addr} {vs : List Value} (h : Cs w A vs) (o : Obj) : Cs (w.alloc o) A vs := h.kept ((Below.refl _ _).alloc (Nat.le_refl _) o)
theorem Cs.drew {w : World} {A : Option Addr} {vs : List Value} (h : Cs w A vs) : Cs w.drew A vs := h
theorem Cs.take {w : World} {A : Option Addr} {vs : List Value} (h : Cs w A vs) (k : Nat) : Cs w A (vs.take k) := fun i u hi => by
  have hlt : i < k := by
    rcases Nat.lt_or_ge i k with h1 | h1
    · exact h1
    · rw [List.getElem?_eq_none (by rw [List.length_take]; omega)] at hi; cases hi
  rw [List.getElem?_take_of_lt hlt] at hi
  exact h i u hi
theorem Cs.drop {w : World} {A : Option Addr} {vs : List Value} (h : Cs w A vs) (k c : Nat) (hc : vs.length ≤ c) : Cs w (if c = k then A else A.map (·.add k)) (vs.drop k) := fun i u hi => by
  rw [List.getElem?_drop] at hi
  obtain ⟨a, e, hcell⟩ := h _ u hi
  have hlt : k + i < vs.length := by
    rcases Nat.lt_or_ge (k + i) vs.length with h1 | h1
    · exact h1
    · rw [List.getElem?_eq_none h1] at hi; cases hi
  rw [if_neg (by omega), e]
  exact ⟨a.add k, rfl, by rw [add_add]; exact hcell⟩

/-! ### rows of elements of several cells each -/
/-- The cells of a list of elements, one behind the other. -/
def Row {α : Type} (f : α → List Value) (xs : List α) : List Value := (xs.map f).flatten
theorem Row_nil {α : Type} (f : α → List Value) : Row f [] = [] := rfl
theorem Row_cons {α : Type} (f : α → List Value) (x : α) (xs : List α) : Row f (x :: xs) = f x ++ Row f xs := rfl
theorem Row_append {α : Type} (f : α → List Value) (xs ys : List α) : Row f (xs ++ ys) = Row f xs ++ Row f ys := by simp [Row]
theorem Row_length {α : Type} {f : α → List Value} {sz : Nat} (hf : ∀ x, (f x).length = sz) (xs : List α) : (Row f xs).length = xs.length * sz := by
  induction xs with
  | nil => simp [Row]
  | cons x xs ih => rw [Row_cons, List.length_append, hf, ih, List.length_cons, Nat.add_mul, Nat.one_mul, Nat.add_comm]
theorem Row_get {α : Type} {f : α → List Value} {sz : Nat} (hf : ∀ x, (f x).length = sz) : ∀ (xs : List α) (i j : Nat) (x : α), xs[i]? = some x → j < sz → (Row f xs)[i * sz + j]? = (f x)[j]?
  | [], i, j, x, h, _ => by simp at h
  | y :: ys, 0, j, x, h, hj => by
    simp at h
    subst h
    rw [Row_cons, Nat.zero_mul, Nat.zero_add, List.getElem?_append_left (by rw [hf]; exact hj)]
  | y :: ys, i + 1, j, x, h, hj => by
    rw [List.getElem?_cons_succ] at h
    rw [Row_cons, List.getElem?_append_right (by rw [hf, Nat.add_mul, Nat.one_mul]; omega), hf, ← Row_get hf ys i j x h hj]
    congr 1
    rw [Nat.add_mul, Nat.one_mul]
    omega
theorem Cs.elem {α : Type} {f : α → List Value} {sz : Nat} {w : World} {A : Option Addr} {xs : List α} (h : Cs w A (Row f xs)) (hf : ∀ x, (f x).length = sz) (hsz : 0 < sz) {i : Nat} {x : α} (hx : xs[i]? = some x) : ∃ a, A = some a ∧ ∀ j u, (f x)[j]? = some u → w.cell? (a.add (i * sz + j)) = some u := by
  have h0 := Row_get hf xs i 0 x hx hsz
  have h1 : (f x)[0]? = some ((f x)[0]'(by rw [hf]; exact hsz)) := List.getElem?_eq_getElem _
  obtain ⟨a, e, _⟩ := h _ _ (h0.trans h1)
  refine ⟨a, e, fun j u hj => ?_⟩
  have hjl : j < sz := by
    rcases Nat.lt_or_ge j (f x).length with h2 | h2
    · rw [hf] at h2; exact h2
    · rw [List.getElem?_eq_none h2] at hj; cases hj
  obtain ⟨a', e', hc⟩ := h _ _ ((Row_get hf xs i j x hx hjl).trans hj)
  rw [e] at e'
  injection e' with e'
  subst e'
  exact hc

/-! ### bytes -/
def bv (b : UInt8) : Value := .int .u8 (b.toNat : Int)
def B (l : List UInt8) : List Value := l.map bv
theorem B_length (l : List UInt8) : (B l).length = l.length := by simp [B]
theorem B_append (l m : List UInt8) : B (l ++ m) = B l ++ B m := by simp [B]
theorem B_take (l : List UInt8) (k : Nat) : (B l).take k = B (l.take k) := by simp [B, List.map_take]
theorem B_drop (l : List UInt8) (k : Nat) : (B l).drop k = B (l.drop k) := by simp [B, List.map_drop]
theorem B_get {l : List UInt8} {i : Nat} (h : i < l.length) : (B l)[i]? = some (bv (l.getD i 0)) := by
  simp [B, List.getElem?_eq_getElem h, List.getD_eq_getElem?_getD]
theorem B_one (l : List UInt8) : ∀ u ∈ B l, u.oneCell' = true := fun u hu => by
  obtain ⟨_, _, rfl⟩ := List.mem_map.1 hu
  rfl
theorem B_string (s : ByteArray) : byteCells s = B s.data.toList := rfl
/-- The cell of a byte. -/
theorem byte_at {w : World} {A : Option Addr} {l : List UInt8} (h : Cs w A (B l)) {i : Nat} (hi : i < l.length) : ∃ a, A = some a ∧ w.cell? (a.add i) = some (.int .u8 ((l.getD i 0).toNat : Int)) := h i _ (B_get hi)

theorem nums_B (l : List UInt8) : (l.map fun b => (b.toNat : Int)).map (Value.int .u8) = B l := by simp [B, bv]

theorem strOf (l : List UInt8) : strOfNums (l.map fun b => (b.toNat : Int)) = ⟨l.toArray⟩ := by
  simp only [strOfNums, List.map_map]
  congr 2
  have : ∀ b ∈ l, ((fun n : Int => UInt8.ofNat n.toNat) ∘ fun b : UInt8 => (b.toNat : Int)) b = b := fun b _ => by simp
  rw [List.map_congr_left this, List.map_id']

section
variable {P : Program}
/-- string(b). -/
theorem run_string {w : World} {A : Option Addr} {l : List UInt8} (h : Cs w A (B l)) (src dst e : TypeId) (hs : P.underlying src = some (.slice e)) (he : P.underlying e = some (.int .u8)) (hd : P.underlying dst = some .string) (c : Nat) :
    (convert src dst (.slice A l.length c)).run P w = .ok (.string ⟨l.toArray⟩) w := by
  cases l with
  | nil =>
    cases A with
    | none => exact run_convert_bytes_nil w src e hs he _ _ dst hd
    | some a =>
      have hl := run_loadCells_list (P := P) w a [] (by simp)
      rw [run_convert_bytes_string w src dst e _ _ c hs he hd]
      exact run_bytesToString w a 0 c [] hl
  | cons b l =>
    obtain ⟨a, rfl, _⟩ := h 0 (bv b) (by simp [B])
    have hl := run_loadCells_list (P := P) w a (B (b :: l)) (fun j v hj => by
      obtain ⟨a', e', hc⟩ := h j v hj
      injection e' with e'
      subst e'
      exact hc)
    rw [B_length, ← nums_B] at hl
    rw [run_convert_bytes_string w src dst e _ _ c hs he hd, run_bytesToString w a _ c _ hl, foldl_push_bytes]
    have h1 := strOf (b :: l)
    simp only [strOfNums] at h1
    have h2 : (ByteArray.empty.data ++ (((b :: l).map fun b => (b.toNat : Int)).map fun n => UInt8.ofNat n.toNat).toArray) = (((b :: l).map fun b => (b.toNat : Int)).map fun n => UInt8.ofNat n.toNat).toArray := by
      simp [ByteArray.empty, ByteArray.emptyWithCapacity]
      rfl
    rw [h2, h1]
end

/-! ### what may be appended to -/
/-- A slice value with n elements whose cells are xs: a row of the call's own (a block from 'base' on), or one without spare capacity. -/
def Ap (w : World) (base : Nat) (e : TypeId) (size : Nat) (v : Value) (n : Nat) (xs : List Value) : Prop :=
  w.ownsRow base e size v n xs ∨ ∃ A, v = .slice A n n ∧ n ≤ maxLen ∧ xs.length = n * size ∧ Cs w A xs

theorem Ap.full {w : World} {base : Nat} {e : TypeId} {A : Option Addr} {l : List UInt8} (h : Cs w A (B l)) (hm : l.length ≤ maxLen) : Ap w base e 1 (.slice A l.length l.length) l.length (B l) :=
  .inr ⟨A, rfl, hm, by simp [B_length], h⟩
theorem Ap.own {w : World} {base : Nat} {e : TypeId} {size : Nat} {v : Value} {n : Nat} {xs : List Value} (h : w.ownsRow base e size v n xs) : Ap w base e size v n xs := .inl h
theorem Ap.alloc {w : World} {base : Nat} {e : TypeId} {size : Nat} {v : Value} {n : Nat} {xs : List Value} (h : Ap w base e size v n xs) (o : Obj) : Ap (w.alloc o) base e size v n xs := by
  rcases h with h | ⟨A, h1, h2, h3, h4⟩
  · exact .inl (h.alloc o)
  · exact .inr ⟨A, h1, h2, h3, h4.alloc o⟩

/-- An owned row is read. -/
theorem own_cs {w : World} {base : Nat} {e : TypeId} {size : Nat} {v : Value} {n : Nat} {xs : List Value} (h : w.ownsRow base e size v n xs) : ∃ A c, v = .slice A n c ∧ n ≤ c ∧ c ≤ maxLen ∧ Cs w A xs := by
  rcases h.2 with ⟨rfl, rfl⟩ | ⟨g, cap, cur, rfl, _, _, h1, h2, _⟩
  · have : xs = [] := List.eq_nil_of_length_eq_zero (by simpa using h.1)
    subst this
    exact ⟨none, 0, rfl, Nat.le_refl _, by simp [maxLen], Cs.nil _ _⟩
  · exact ⟨_, cap, rfl, h1, h2, fun i u hi => ⟨_, rfl, h.cells (g := g) rfl i u hi⟩⟩

/-! ### cells that are stored one behind the other -/
theorem put_far (g : Nat) : ∀ (vs : List Value) (o : Nat) (w : World) (k : Nat), k ≠ g → (w.setCells g o vs).heap[k]? = w.heap[k]?
  | [], _, _, _, _ => rfl
  | v :: r, o, w, k, h => by
    rw [World.setCells, put_far g r (o + 1) _ k h]
    exact Below.heap_setCell w ⟨g, o, none⟩ v k h
theorem put_same (g : Nat) : ∀ (vs : List Value) (o : Nat) (w : World), (w.setCells g o vs).os = w.os ∧ (w.setCells g o vs).tape = w.tape ∧ (w.setCells g o vs).output = w.output ∧ (w.setCells g o vs).heap.size = w.heap.size
  | [], _, _ => ⟨rfl, rfl, rfl, rfl⟩
  | v :: r, o, w => by
    obtain ⟨h1, h2, h3, h4⟩ := put_same g r (o + 1) (w.setCell ⟨g, o, none⟩ v)
    exact ⟨h1, h2, h3, h4.trans (by simp [World.setCell])⟩
theorem set_block {w : World} {g : Nat} {cur : Array Value} {e : TypeId} {fr : Nat × Nat} (h : w.heap[g]? = some (.cells cur e fr)) (o : Nat) (v : Value) : (w.setCell ⟨g, o, none⟩ v).heap[g]? = some (.cells (cur.setIfInBounds o v) e fr) := by
  simp [World.setCell, Array.getElem?_modify, h]
theorem put_row (g : Nat) (e : TypeId) : ∀ (vs : List Value) (o : Nat) (w : World) (cur : Array Value), w.heap[g]? = some (.cells cur e (0, 0)) → o + vs.length ≤ cur.size →
    ∃ cur', (w.setCells g o vs).heap[g]? = some (.cells cur' e (0, 0)) ∧ cur'.size = cur.size ∧ ∀ j, cur'[j]? = if o ≤ j ∧ j < o + vs.length then vs[j - o]? else cur[j]?
  | [], o, w, cur, h, _ => ⟨cur, h, rfl, fun j => by rw [if_neg (by simp)]⟩
  | v :: r, o, w, cur, h, hl => by
    simp only [List.length_cons] at hl
    obtain ⟨cur', h3, h4, h5⟩ := put_row g e r (o + 1) (w.setCell ⟨g, o, none⟩ v) _ (set_block h o v) (by simp; omega)
    refine ⟨cur', h3, by rw [h4]; simp, fun j => ?_⟩
    rw [h5, List.length_cons, Array.getElem?_setIfInBounds]
    by_cases h1 : o + 1 ≤ j ∧ j < o + 1 + r.length
    · rw [if_pos h1, if_pos (by omega), show j - o = (j - (o + 1)) + 1 by omega, List.getElem?_cons_succ]
    · rw [if_neg h1]
      by_cases h2 : o = j
      · subst h2
        rw [if_pos rfl, if_pos (by omega), if_pos (by omega)]
        simp
      · rw [if_neg h2, if_neg (by omega)]

section
variable {P : Program}

theorem Src_cs {size : Nat} {tx e' : TypeId} (hk : P.underlying tx = some (.slice e')) {w : World} {A : Option Addr} {n : Nat} (c : Nat) {news : List Value} (h : Cs w A news) (hsz : 0 < size) (hl : news.length = n * size) (h1 : ∀ u ∈ news, u.oneCell' = true) : Src P size tx (.slice A n c) n news w := by
  cases A with
  | some a =>
    exact Src.ofSlice w hk a n c news hl (fun j u hj => by
      obtain ⟨a', e', hc⟩ := h j u hj
      injection e' with e'
      subst e'
      exact hc) h1
  | none =>
    have : news = [] := by
      cases news with
      | nil => rfl
      | cons y ys =>
        obtain ⟨a, e', _⟩ := h 0 y (by simp)
        cases e'
    subst this
    have hn : n = 0 := by
      rcases Nat.eq_zero_or_pos n with h0 | h0
      · exact h0
      · have := Nat.mul_pos h0 hsz
        simp at hl
        omega
    subst hn
    exact Src.ofNil w hk c

theorem run_append_ap (base : Nat) (t tx ty e : TypeId) (z : Value) (size bytes : Nat) (ht : P.underlying t = some (.slice e)) (hinfo : (P.info? e).map (fun i => (i.zero, i.size, i.bytes)) = some (some z, size, bytes)) (hzs : z.cells.size = size) (hsz : 0 < size)
    {w : World} {v : Value} {n : Nat} {xs : List Value} (hv : Ap w base e size v n xs) (x : Value) (m : Nat) (news : List Value) (hs : Src P size tx x m news w)
    (h63 : n + m ≤ maxLen) (hbytes : (n + m) * bytes ≤ 140737488355328) (hbase : base ≤ w.heap.size) :
    ∃ v' w', (Builtin.append_ #[t, tx] ty #[v, x]).run P w = .ok v' w' ∧ Ap w' base e size v' (n + m) (xs ++ news) ∧ (0 < m → w'.ownsRow base e size v' (n + m) (xs ++ news)) ∧ (w.ownsRow base e size v n xs → w'.ownsRow base e size v' (n + m) (xs ++ news)) ∧
      Below base w w' ∧ w.grownBy w' v.ownBlock ∧ (v'.ownBlock = v.ownBlock ∨ ∃ b, v'.ownBlock = some b ∧ w.heap.size ≤ b) := by
  obtain ⟨i, hi, hz, hsize, hby⟩ := info_parts hinfo
  subst hsize
  subst hby
  have hsmall : n + m ≤ 9223372036854775807 := by simp only [maxLen] at h63; omega
  have hnl := hs.newsLen
  -- a new row
  have grown : ∀ (A : Option Addr) (old : Nat), old < n + m → xs.length = n * i.size → Cs w A xs → ∀ row : Option Nat, v = .slice A n old →
      ∃ v' w', (Builtin.append_ #[t, tx] ty #[v, x]).run P w = .ok v' w' ∧ w'.ownsRow base e i.size v' (n + m) (xs ++ news) ∧ w.grownBy w' row ∧ ∃ b, v'.ownBlock = some b ∧ w.heap.size ≤ b := by
    intro A old ho hxl hcs row hve
    subst hve
    have hold : (Builtin.firstCells i.size n (.slice A n old)).run P w.drew = .ok xs.toArray w.drew := by
      cases A with
      | none =>
        have : xs = [] := by
          cases xs with
          | nil => rfl
          | cons y ys =>
            obtain ⟨a, e', _⟩ := hcs 0 y (by simp)
            cases e'
        subst this
        exact run_firstCells_none w.drew i.size n n old
      | some a =>
        exact run_firstCells_some w.drew i.size n a n old xs hxl (fun j u hj => by
          obtain ⟨a', e', hc⟩ := hcs j u hj
          injection e' with e'
          subst e'
          exact hc)
    have hr := run_append_grow_src (P := P) w t tx ty e i z ht hi hz A n old xs hold x m news hs (by omega) (by omega) (growslice_fits (by omega) hbytes)
    have hge := grownCap_ge w (n + m) old e
    have hcm : grownCap w (n + m) old e ≤ maxLen := grownCap_le_maxLen w (n + m) old e h63
    have hlen : (xs ++ news).length = (n + m) * i.size := by rw [List.length_append, hxl, hnl, Nat.add_mul]
    refine ⟨_, _, hr, ⟨hlen, .inr ⟨w.heap.size, _, _, rfl, hbase, heap_alloc_new w.drew _, hge, hcm, ?_, ?_⟩⟩, ⟨rfl, rfl, rfl, by simp, fun k hk _ => Below.heap_alloc w.drew _ k hk⟩, ⟨_, rfl, Nat.le_refl _⟩⟩
    · rw [Array.size_append, List.size_toArray, size_zeroCells, hzs, hlen, ← Nat.add_mul]
      congr 1
      omega
    · rw [Array.toList_append, List.toList_toArray, ← hlen, List.take_left]
  have fin : ∀ v' w', w'.ownsRow base e i.size v' (n + m) (xs ++ news) → w.grownBy w' v.ownBlock → (∀ k, v.ownBlock = some k → base ≤ k) → Below base w w' := fun v' w' _ hg hb => (Below.refl _ _).grown hg hbase hb
  rcases hv with hown | ⟨A, rfl, hnm, hxl, hcs⟩
  · have hb : ∀ k, v.ownBlock = some k → base ≤ k := fun k hk => (hown.lt k hk).1
    rcases hown.2 with ⟨rfl, rfl⟩ | ⟨g, cap, cur, rfl, hbg, hg, hnc, hcm, hcs, htake⟩
    · have hx : xs = [] := List.eq_nil_of_length_eq_zero (by simpa using hown.1)
      subst hx
      by_cases hm : m = 0
      · subst hm
        have hn : news = [] := List.eq_nil_of_length_eq_zero (by simpa using hnl)
        subst hn
        have h0 : w.ownsRow base e i.size (.slice none 0 0) 0 [] := World.ownsRow_nil w base e i.size
        refine ⟨.slice none 0 0, w, ?_, .inl h0, fun _ => h0, fun _ => h0, Below.refl _ _, World.grownBy.refl _ _, .inl rfl⟩
        rcases hs.kind with ⟨e', hk⟩ | hk <;> simp [Builtin.append_, run_underlying ht, run_underlying hk, sizeOf, typeInfo, hi, hs.len, hs.cells]
      · obtain ⟨v', w', h1, h2, h3, h4⟩ := grown none 0 (by omega) (by simp) (Cs.nil _ _) (Value.ownBlock (.slice none 0 0)) rfl
        exact ⟨v', w', h1, .inl h2, fun _ => h2, fun _ => h2, fin _ _ h2 h3 hb, h3, .inr h4⟩
    · by_cases hroom : n + m ≤ cap
      · have hfit : n * i.size + news.length ≤ cur.size := by rw [hnl, hcs, ← Nat.add_mul]; exact Nat.mul_le_mul_right _ hroom
        have hcell : ∀ j, j < news.length → (w.cell? ⟨g, 0 + n * i.size + j, none⟩).isSome = true := fun j hj => by
          simp only [World.cell?, hg, Nat.zero_add]
          simp
          omega
        have hfr : ∀ j, j < news.length → w.frozen? ⟨g, 0 + n * i.size + j, none⟩ = false := fun j hj => by
          simp only [World.frozen?, hg]
          simp
        have hr := run_append_room_src (P := P) w t tx ty e i ht hi g 0 n cap x m news hs hroom hcell hfr
        obtain ⟨cur', hg', hsz', hat'⟩ := put_row g e news (0 + n * i.size) w cur hg (by omega)
        have hown' : (w.setCells g (0 + n * i.size) news).ownsRow base e i.size (.slice (some ⟨g, 0, none⟩) (n + m) cap) (n + m) (xs ++ news) := by
          refine ⟨by rw [List.length_append, hown.1, hnl, Nat.add_mul], .inr ⟨g, cap, cur', rfl, hbg, hg', hroom, hcm, by rw [hsz', hcs], ?_⟩⟩
          apply List.ext_getElem?
          intro j
          rw [List.getElem?_take, Array.getElem?_toList, hat', Nat.zero_add]
          have hxl := hown.1
          have e1 : (n + m) * i.size = xs.length + news.length := by rw [Nat.add_mul, hxl, hnl]
          by_cases h1 : j < xs.length
          · rw [if_pos (by omega), if_neg (by omega), List.getElem?_append_left h1, ← htake, List.getElem?_take, if_pos (by omega), Array.getElem?_toList]
          · by_cases h2 : j < xs.length + news.length
            · rw [if_pos (by omega), if_pos (by omega), List.getElem?_append_right (by omega), hxl]
            · rw [if_neg (by omega), List.getElem?_eq_none (by simp; omega)]
        have hgr : w.grownBy (w.setCells g (0 + n * i.size) news) (Value.ownBlock (.slice (some ⟨g, 0, none⟩) n cap)) := by
          obtain ⟨e1, e2, e3, e4⟩ := put_same g news (0 + n * i.size) w
          exact ⟨e1, e2, e3, by omega, fun k hk hne => put_far g news _ w k (fun he => hne (by simp [Value.ownBlock, he]))⟩
        exact ⟨_, _, hr, .inl hown', fun _ => hown', fun _ => hown', fin _ _ hown' hgr hb, hgr, .inl rfl⟩
      · obtain ⟨v', w', h1, h2, h3, h4⟩ := grown (some ⟨g, 0, none⟩) cap (by omega) hown.1 (fun j u hj => ⟨_, rfl, hown.cells (g := g) rfl j u hj⟩) (Value.ownBlock (.slice (some ⟨g, 0, none⟩) n cap)) rfl
        exact ⟨v', w', h1, .inl h2, fun _ => h2, fun _ => h2, fin _ _ h2 h3 hb, h3, .inr h4⟩
  · by_cases hm : m = 0
    · subst hm
      have hn : news = [] := List.eq_nil_of_length_eq_zero (by simpa using hnl)
      subst hn
      refine ⟨.slice A n n, w, ?_, by rw [List.append_nil]; exact .inr ⟨A, rfl, hnm, hxl, hcs⟩, fun h => absurd h (by omega), fun h => by simpa using h, Below.refl _ _, World.grownBy.refl _ _, .inl rfl⟩
      rcases hs.kind with ⟨e', hk⟩ | hk <;> cases A <;> simp [Builtin.append_, run_underlying ht, run_underlying hk, sizeOf, typeInfo, hi, hs.len, hs.cells, storeCells]
    · obtain ⟨v', w', h1, h2, h3, h4⟩ := grown A n (by omega) hxl hcs none rfl
      exact ⟨v', w', h1, .inl h2, fun _ => h2, fun _ => h2, (Below.refl _ _).grown h3 hbase (fun k hk => by cases hk), ⟨h3.os, h3.tape, h3.output, h3.size, fun k hk _ => h3.block k hk (by simp)⟩, .inr h4⟩
/-- The same at the operation. -/
theorem ap_wp (base : Nat) (t tx e : TypeId) (z : Value) (size bytes : Nat) (ht : P.underlying t = some (.slice e)) (hinfo : (P.info? e).map (fun i => (i.zero, i.size, i.bytes)) = some (some z, size, bytes)) (hzs : z.cells.size = size) (hsz : 0 < size)
    {o : Oper} {a : Act} {K : Act → World → Prop} {Q : Exit → Act → World → Prop} (s x : Operand) (ho : o.op = .call { callee := .builtin .append, args := #[s, x], argTypes := #[t, tx] })
    {w : World} (v : Value) (n : Nat) (xs : List Value) (hsv : a.eval s = v) (hv : Ap w base e size v n xs) (xv : Value) (hxv : a.eval x = xv) (m : Nat) (news : List Value) (hs : Src P size tx xv m news w)
    (h63 : n + m ≤ maxLen) (hbytes : (n + m) * bytes ≤ 140737488355328) (hbase : base ≤ w.heap.size)
    (h : ∀ v' w', Ap w' base e size v' (n + m) (xs ++ news) → (0 < m → w'.ownsRow base e size v' (n + m) (xs ++ news)) → (w.ownsRow base e size v n xs → w'.ownsRow base e size v' (n + m) (xs ++ news)) → Below base w w' → w.grownBy w' v.ownBlock → (v'.ownBlock = v.ownBlock ∨ ∃ b, v'.ownBlock = some b ∧ w.heap.size ≤ b) → K (a.put o.dst v') w') : o.wp P a w K Q := by
  obtain ⟨v', w', hr, h1, h2, h3, h4, h5, h6⟩ := run_append_ap (P := P) base t tx o.type e z size bytes ht hinfo hzs hsz hv xv m news hs h63 hbytes hbase
  unfold Oper.wp execOp
  simp only [ho, resolve, invoke, builtin, Sem.run_bind, Sem.run_pure, Result.andThen_ok, List.map_toArray, List.map_cons, List.map_nil, hsv, hxv, hr]
  exact h v' w' h1 h2 h3 h4 h5 h6

theorem ap_list (base : Nat) (t tx e : TypeId) (z : Value) (size bytes : Nat) (ht : P.underlying t = some (.slice e)) (hinfo : (P.info? e).map (fun i => (i.zero, i.size, i.bytes)) = some (some z, size, bytes)) (hzs : z.cells.size = size) (hsz : 0 < size)
    {ops : Array Oper} {rest : List Oper} {o : Oper} {a : Act} {Q : Exit → Act → World → Prop} (hgd : o.guard = none) (s x : Operand) (ho : o.op = .call { callee := .builtin .append, args := #[s, x], argTypes := #[t, tx] })
    {w : World} (v : Value) (n : Nat) (xs : List Value) (hsv : a.eval s = v) (hv : Ap w base e size v n xs) (xv : Value) (hxv : a.eval x = xv) (m : Nat) (news : List Value) (hs : Src P size tx xv m news w)
    (h63 : n + m ≤ maxLen) (hbytes : (n + m) * bytes ≤ 140737488355328) (hbase : base ≤ w.heap.size)
    (h : ∀ v' w', Ap w' base e size v' (n + m) (xs ++ news) → (0 < m → w'.ownsRow base e size v' (n + m) (xs ++ news)) → (w.ownsRow base e size v n xs → w'.ownsRow base e size v' (n + m) (xs ++ news)) → Below base w w' → w.grownBy w' v.ownBlock → (v'.ownBlock = v.ownBlock ∨ ∃ b, v'.ownBlock = some b ∧ w.heap.size ≤ b) → wpList P ops Q rest (a.put o.dst v') w') : wpList P ops Q (o :: rest) a w :=
  wpList_plain hgd fun _ hK => ap_wp base t tx e z size bytes ht hinfo hzs hsz s x ho v n xs hsv hv xv hxv m news hs h63 hbytes hbase fun v' w' h1 h2 h3 h4 h5 h6 => hK _ _ (h v' w' h1 h2 h3 h4 h5 h6)
end

/-! ### results that lie in memory -/
section
variable {P : Program}
theorem res_ctt {fn : Func} {p u v : Tmp} {ty : TypeId} (h : fn.results = #[.cell p ty, .tmp u, .tmp v]) (tmps : Array Value) (w : World) (g : Nat) (t : TypeId) (cs : Array Value) (fr : Nat × Nat) (d : TypeDesc)
    (hp : tmps.getD p undef = .pointer (some ⟨g, 0, none⟩)) (hg : w.heap[g]? = some (.cells cs t fr))
    (hu : P.underlying ty = some d) (hd : (match d with | .struct _ | .array _ _ => true | _ => false) = true) (hi : (P.info? ty).map (·.size) = some cs.size) :
    (results fn tmps).run P w = .ok (.tuple #[.agg cs, tmps.getD u undef, tmps.getD v undef]) w := by
  have hp' : tmps[p]?.getD undef = .pointer (some ⟨g, 0, none⟩) := by simpa using hp
  simp [results, h, hp', asAddr, run_loadVar_row w g t ty cs fr d hg hu hd hi]
theorem res_c {fn : Func} {p : Tmp} {ty : TypeId} (h : fn.results = #[.cell p ty]) (tmps : Array Value) (w : World) (g : Nat) (t : TypeId) (cs : Array Value) (fr : Nat × Nat) (d : TypeDesc)
    (hp : tmps.getD p undef = .pointer (some ⟨g, 0, none⟩)) (hg : w.heap[g]? = some (.cells cs t fr))
    (hu : P.underlying ty = some d) (hd : (match d with | .struct _ | .array _ _ => true | _ => false) = true) (hi : (P.info? ty).map (·.size) = some cs.size) :
    (results fn tmps).run P w = .ok (.agg cs) w := by
  have hp' : tmps[p]?.getD undef = .pointer (some ⟨g, 0, none⟩) := by simpa using hp
  simp [results, h, hp', asAddr, run_loadVar_row w g t ty cs fr d hg hu hd hi]
theorem res_ct {fn : Func} {p u : Tmp} {ty : TypeId} (h : fn.results = #[.cell p ty, .tmp u]) (tmps : Array Value) (w : World) (g : Nat) (t : TypeId) (cs : Array Value) (fr : Nat × Nat) (d : TypeDesc)
    (hp : tmps.getD p undef = .pointer (some ⟨g, 0, none⟩)) (hg : w.heap[g]? = some (.cells cs t fr))
    (hu : P.underlying ty = some d) (hd : (match d with | .struct _ | .array _ _ => true | _ => false) = true) (hi : (P.info? ty).map (·.size) = some cs.size) :
    (results fn tmps).run P w = .ok (.tuple #[.agg cs, tmps.getD u undef]) w := by
  have hp' : tmps[p]?.getD undef = .pointer (some ⟨g, 0, none⟩) := by simpa using hp
  simp [results, h, hp', asAddr, run_loadVar_row w g t ty cs fr d hg hu hd hi]
end
/-- A block that was there is there still. -/
theorem blk_kept {w w1 : World} (hb : Below w.heap.size w w1) {g : Nat} {o : Obj} (h : w.heap[g]? = some o) : w1.heap[g]? = some o :=
  (hb.block g (by
    rcases Nat.lt_or_ge g w.heap.size with h1 | h1
    · exact h1
    · rw [Array.getElem?_eq_none h1] at h; cases h)).trans h
theorem blk_alloc {w : World} {g : Nat} {o : Obj} (h : w.heap[g]? = some o) (o' : Obj) : (w.alloc o').heap[g]? = some o := blk_kept ((Below.refl _ _).alloc (Nat.le_refl _) o') h
theorem blk_new (w : World) (o : Obj) : (w.alloc o).heap[w.heap.size]? = some o := heap_alloc_new w o
theorem blk_cell {w : World} {g : Nat} {cs : Array Value} {t : TypeId} {fr : Nat × Nat} (h : w.heap[g]? = some (.cells cs t fr)) {j : Nat} {u : Value} (hu : cs[j]? = some u) : w.cell? ⟨g, j, none⟩ = some u := by
  unfold World.cell?
  rw [h]
  simpa using hu
theorem blk_free {w : World} {g : Nat} {cs : Array Value} {t : TypeId} (h : w.heap[g]? = some (.cells cs t (0, 0))) (j : Nat) : w.frozen? ⟨g, j, none⟩ = false := by
  unfold World.frozen?
  rw [h]
  simp

end Go.Proofs.Ytoejegphjlichaa
