/-
  Plain: how many edits there are between two lists, row by row; what is alike at both ends plays no part.
-/
namespace Go.WW
def lr : List UInt8 → List UInt8 → Nat
  | [], bs => bs.length
  | _ :: as, [] => as.length + 1
  | x :: as, y :: bs => min (lr as bs + if x = y then 0 else 1) (min (lr as (y :: bs) + 1) (lr (x :: as) bs + 1))
termination_by a b => a.length + b.length
theorem lr_nil (b : List UInt8) : lr [] b = b.length := by rw [lr]
theorem lr_nil_r (a : List UInt8) : lr a [] = a.length := by cases a <;> simp [lr]
theorem lr_cons (x y : UInt8) (a b : List UInt8) : lr (x :: a) (y :: b) = min (lr a b + if x = y then 0 else 1) (min (lr a (y :: b) + 1) (lr (x :: a) b + 1)) := by rw [lr]
theorem lr_up (x : UInt8) (a b : List UInt8) : lr (x :: a) b ≤ lr a b + 1 := by
  cases b with
  | nil => simp [lr_nil_r]
  | cons y b => rw [lr_cons]; omega
theorem lr_up_r (y : UInt8) (a b : List UInt8) : lr a (y :: b) ≤ lr a b + 1 := by
  cases a with
  | nil => simp [lr_nil]
  | cons x a => rw [lr_cons]; omega
theorem lr_low : ∀ (n : Nat) (a b : List UInt8), a.length + b.length ≤ n → (∀ x, lr a b ≤ lr (x :: a) b + 1) ∧ (∀ y, lr a b ≤ lr a (y :: b) + 1) := by
  intro n
  induction n with
  | zero =>
    intro a b h
    obtain rfl : a = [] := List.eq_nil_of_length_eq_zero (by omega)
    obtain rfl : b = [] := List.eq_nil_of_length_eq_zero (by omega)
    exact ⟨fun x => by simp [lr_nil], fun y => by simp [lr_nil]⟩
  | succ n ih =>
    intro a b h
    refine ⟨fun x => ?_, fun y => ?_⟩
    · cases b with
      | nil => simp only [lr_nil_r, List.length_cons]; omega
      | cons z b =>
        have h1 := lr_up_r z a b
        have h3 := (ih a b (by simp at h; omega)).1 x
        rw [lr_cons]
        omega
    · cases a with
      | nil => simp only [lr_nil, List.length_cons]; omega
      | cons z a =>
        have h1 := lr_up z a b
        have h3 := (ih a b (by simp at h; omega)).2 y
        rw [lr_cons]
        omega
/-- The step of the program: what is alike needs no look at its neighbours. -/
theorem lr_step (x y : UInt8) (a b : List UInt8) : lr (x :: a) (y :: b) = if y ≠ x then 1 + min (lr a b) (min (lr a (y :: b)) (lr (x :: a) b)) else lr a b := by
  rw [lr_cons]
  have h1 := (lr_low _ a b (Nat.le_refl _)).1 x
  have h2 := (lr_low _ a b (Nat.le_refl _)).2 y
  by_cases h : x = y
  · subst h
    simp only [if_true, ne_eq, not_true_eq_false, if_false]
    omega
  · rw [if_neg h, if_pos (fun e => h e.symm)]
    omega
theorem lr_head (x : UInt8) (a b : List UInt8) : lr (x :: a) (x :: b) = lr a b := by rw [lr_step]; simp
theorem lr_heads (p a b : List UInt8) : lr (p ++ a) (p ++ b) = lr a b := by
  induction p with
  | nil => rfl
  | cons x p ih => rw [List.cons_append, List.cons_append, lr_head, ih]
theorem lr_tail (c : UInt8) : ∀ (n : Nat) (a b : List UInt8), a.length + b.length ≤ n → lr (a ++ [c]) (b ++ [c]) = lr a b := by
  intro n
  induction n with
  | zero =>
    intro a b h
    obtain rfl : a = [] := List.eq_nil_of_length_eq_zero (by omega)
    obtain rfl : b = [] := List.eq_nil_of_length_eq_zero (by omega)
    rw [List.nil_append, lr_head]
  | succ n ih =>
    intro a b h
    cases a with
    | nil =>
      cases b with
      | nil => rw [List.nil_append, lr_head]
      | cons y b =>
        have h1 := ih [] b (by simp at h ⊢; omega)
        rw [List.nil_append] at h1
        rw [List.nil_append, List.cons_append, lr_cons, h1]
        simp only [lr_nil, List.length_append, List.length_cons, List.length_nil]
        omega
    | cons x a =>
      cases b with
      | nil =>
        have h1 := ih a [] (by simp at h ⊢; omega)
        rw [List.nil_append] at h1
        rw [List.nil_append, List.cons_append, lr_cons, h1]
        simp only [lr_nil_r, List.length_append, List.length_cons, List.length_nil]
        omega
      | cons y b =>
        rw [List.cons_append, List.cons_append, lr_cons, lr_cons, ih a b (by simp at h; omega), ← List.cons_append, ih a (y :: b) (by simp at h ⊢; omega), ← List.cons_append, ih (x :: a) b (by simp at h ⊢; omega)]
theorem lr_tails (q : List UInt8) : ∀ (a b : List UInt8), lr (a ++ q) (b ++ q) = lr a b := by
  induction q with
  | nil => intro a b; simp
  | cons c q ih =>
    intro a b
    have h1 := ih (a ++ [c]) (b ++ [c])
    simp only [List.append_assoc, List.singleton_append] at h1
    rw [h1, lr_tail c _ a b (Nat.le_refl _)]
/-- How many edits, of texts as they stand. -/
def lvD (a b : List UInt8) : Nat := lr a.reverse b.reverse
theorem lvD_trim (p q a b : List UInt8) : lvD (p ++ a ++ q) (p ++ b ++ q) = lvD a b := by
  unfold lvD
  simp only [List.reverse_append]
  rw [lr_heads, lr_tails]
def rowD (ra b : List UInt8) : List Int := (List.range (b.length + 1)).map fun k => (lr ra (b.take k).reverse : Int)
theorem rowD_len (ra b : List UInt8) : (rowD ra b).length = b.length + 1 := by simp [rowD]
theorem rowD_at (ra b : List UInt8) (k : Nat) (h : k ≤ b.length) : (rowD ra b)[k]? = some (lr ra (b.take k).reverse : Int) := by
  simp [rowD, show k < b.length + 1 by omega]
theorem rowD_nil (b : List UInt8) : rowD [] b = (List.range (b.length + 1)).map fun (k : Nat) => (k : Int) := by
  unfold rowD
  refine List.map_congr_left (fun k hk => ?_)
  rw [List.mem_range] at hk
  rw [lr_nil, List.length_reverse, List.length_take]
  congr 1
  omega
/-- The row of which k places are new. -/
def midD (c : UInt8) (ra b : List UInt8) (k : Nat) : List Int := (rowD (c :: ra) b).take (k + 1) ++ (rowD ra b).drop (k + 1)
theorem midD_len (c : UInt8) (ra b : List UInt8) (k : Nat) : (midD c ra b k).length = b.length + 1 := by
  simp [midD, rowD_len]; omega
theorem midD_0 (c : UInt8) (ra b : List UInt8) : midD c ra b 0 = (rowD ra b).set 0 ((rowD ra b).getD 0 0 + 1) := by
  apply List.ext_getElem?
  intro i
  unfold midD
  rcases Nat.eq_zero_or_pos i with rfl | hi
  · rw [List.getElem?_append_left (by simp [rowD_len])]
    rw [List.getElem?_take_of_lt (by omega), rowD_at _ _ 0 (Nat.zero_le _), List.getElem?_set_self (by rw [rowD_len]; omega), List.getD_eq_getElem?_getD, rowD_at _ _ 0 (Nat.zero_le _)]
    simp [lr_nil_r]
  · rw [List.getElem?_append_right (by simp [rowD_len]; omega), List.getElem?_set_ne (by omega)]
    simp [rowD_len]
    congr 1
    omega
theorem midD_all (c : UInt8) (ra b : List UInt8) : midD c ra b b.length = rowD (c :: ra) b := by
  unfold midD
  rw [List.drop_of_length_le (by rw [rowD_len]; omega), List.append_nil, List.take_of_length_le (by rw [rowD_len]; omega)]
theorem midD_new (c : UInt8) (ra b : List UInt8) (k : Nat) (h : k ≤ b.length) : (midD c ra b k)[k]? = some (lr (c :: ra) (b.take k).reverse : Int) := by
  unfold midD
  rw [List.getElem?_append_left (by simp [rowD_len]; omega), List.getElem?_take_of_lt (by omega), rowD_at _ _ k h]
theorem midD_succ (c : UInt8) (ra b : List UInt8) (k : Nat) (h : k < b.length) : midD c ra b (k + 1) = (midD c ra b k).set (k + 1) (lr (c :: ra) (b.take (k + 1)).reverse : Int) := by
  apply List.ext_getElem?
  intro i
  unfold midD
  rcases Nat.lt_trichotomy i (k + 1) with hi | hi | hi
  · rw [List.getElem?_append_left (by simp [rowD_len]; omega), List.getElem?_set_ne (by omega), List.getElem?_append_left (by simp [rowD_len]; omega), List.getElem?_take_of_lt (by omega), List.getElem?_take_of_lt (by omega)]
  · subst hi
    rw [List.getElem?_append_left (by simp [rowD_len]; omega), List.getElem?_take_of_lt (by omega), rowD_at _ _ _ (by omega), List.getElem?_set_self (by simp [rowD_len]; omega)]
  · rw [List.getElem?_append_right (by simp [rowD_len]; omega), List.getElem?_set_ne (by omega), List.getElem?_append_right (by simp [rowD_len]; omega)]
    simp [rowD_len]
    congr 1
    omega
theorem take_rev_succ (b : List UInt8) (k : Nat) (h : k < b.length) : (b.take (k + 1)).reverse = b[k] :: (b.take k).reverse := by
  rw [List.take_succ_eq_append_getElem h]; simp
/-- The number that the program puts at place k + 1. -/
theorem row_step (c : UInt8) (ra b : List UInt8) (k : Nat) (h : k < b.length) : lr (c :: ra) (b.take (k + 1)).reverse = if b[k] ≠ c then 1 + min (lr ra (b.take k).reverse) (min (lr ra (b.take (k + 1)).reverse) (lr (c :: ra) (b.take k).reverse)) else lr ra (b.take k).reverse := by
  rw [take_rev_succ b k h, lr_step]
theorem lr_le (a b : List UInt8) : lr a b ≤ a.length + b.length := by
  induction a with
  | nil => simp [lr_nil]
  | cons x a ih => have := lr_up x a b; simp; omega
end Go.WW
