/-
  Plain: how far vectors and texts are apart, place by place.
-/
namespace Go.WW
def vat (l : List Int) (i : Nat) : Int := l.getD i 0
def l1N (a b : List Int) : Nat → Int
  | 0 => 0
  | k + 1 => l1N a b k + ((vat a k - vat b k).natAbs : Int)
def hmN (a b : List UInt8) : Nat → Int
  | 0 => 0
  | k + 1 => hmN a b k + if a[k]? = b[k]? then 0 else 1
def l1D (a b : List Int) : Int := l1N a b (max a.length b.length)
def hmD (a b : List UInt8) : Int := hmN a b (max a.length b.length)
def plN (a b : List UInt8) : Nat → List Int
  | 0 => []
  | k + 1 => if a[k]? = b[k]? then plN a b k else plN a b k ++ [(k : Int)]
theorem plN_len (a b : List UInt8) (k : Nat) : ((plN a b k).length : Int) = hmN a b k := by
  induction k with
  | zero => rfl
  | succ k ih =>
    unfold plN hmN
    split
    · omega
    · rw [List.length_append]; simp; omega
theorem hmN_bd (a b : List UInt8) (k : Nat) : 0 ≤ hmN a b k ∧ hmN a b k ≤ k := by
  induction k with
  | zero => exact ⟨Int.le_refl _, Int.le_refl _⟩
  | succ k ih =>
    unfold hmN
    split <;> omega
theorem hmN_succ (a b : List UInt8) (k : Nat) : hmN a b (k + 1) = hmN a b k + if a[k]? = b[k]? then 0 else 1 := rfl
theorem hmN_more (a b : List UInt8) (d : Nat) (h : min a.length b.length + d ≤ max a.length b.length) : hmN a b (min a.length b.length + d) = hmN a b (min a.length b.length) + d := by
  induction d with
  | zero => simp
  | succ d ih =>
    rw [← Nat.add_assoc, hmN_succ, ih (by omega)]
    have hne : a[min a.length b.length + d]? ≠ b[min a.length b.length + d]? := by
      rcases Nat.le_total a.length b.length with h1 | h1
      · rw [List.getElem?_eq_none (by omega), List.getElem?_eq_getElem (by omega)]; simp
      · rw [List.getElem?_eq_getElem (by omega), List.getElem?_eq_none (l := b) (by omega)]; simp
    rw [if_neg hne]
    omega
theorem hmD_eq (a b : List UInt8) : hmD a b = max ((a.length : Int) - b.length) (b.length - a.length) + (plN a b (min a.length b.length)).length := by
  unfold hmD
  rw [plN_len]
  have := hmN_more a b (max a.length b.length - min a.length b.length) (by omega)
  rw [show min a.length b.length + (max a.length b.length - min a.length b.length) = max a.length b.length from by omega] at this
  rw [this]
  omega
def I32 (x : Int) : Prop := -2147483648 ≤ x ∧ x ≤ 2147483647
theorem vat_bd {l : List Int} (h : ∀ x ∈ l, I32 x) (i : Nat) : I32 (vat l i) := by
  unfold vat
  rw [List.getD_eq_getElem?_getD]
  cases e : l[i]? with
  | none => exact ⟨by decide, by decide⟩
  | some x => exact h x (List.mem_of_getElem? e)
theorem l1N_bd {a b : List Int} (ha : ∀ x ∈ a, I32 x) (hb : ∀ x ∈ b, I32 x) (k : Nat) : 0 ≤ l1N a b k ∧ l1N a b k ≤ k * 4294967295 := by
  induction k with
  | zero => exact ⟨Int.le_refl _, Int.le_refl _⟩
  | succ k ih =>
    have h1 := vat_bd ha k
    have h2 := vat_bd hb k
    unfold I32 at h1 h2
    unfold l1N
    omega
theorem vat_pad (l : List Int) (n i : Nat) : vat (l ++ List.replicate n 0) i = vat l i := by
  unfold vat
  rw [List.getD_eq_getElem?_getD, List.getD_eq_getElem?_getD]
  rcases Nat.lt_or_ge i l.length with h | h
  · rw [List.getElem?_append_left h]
  · rw [List.getElem?_append_right h, List.getElem?_eq_none h, List.getElem?_replicate]
    split <;> rfl
theorem l1N_pad (a b : List Int) (n m k : Nat) : l1N (a ++ List.replicate n 0) (b ++ List.replicate m 0) k = l1N a b k := by
  induction k with
  | zero => rfl
  | succ k ih =>
    unfold l1N
    rw [ih, vat_pad, vat_pad]
end Go.WW
