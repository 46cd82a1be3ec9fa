/-
  Plain: places and how far (split): which one so many are ahead of, halves, bounds.
-/
namespace Go.WW
structure Fa where
  pl : Int
  ds : Int
instance : Inhabited Fa := ⟨⟨0, 0⟩⟩
def ltF (x y : Fa) : Bool := decide (x.ds < y.ds ∨ (x.ds = y.ds ∧ x.pl < y.pl))
theorem ltF_iff (x y : Fa) : ltF x y = true ↔ x.ds < y.ds ∨ (x.ds = y.ds ∧ x.pl < y.pl) := by unfold ltF; simp
theorem ltF_irrefl (x : Fa) : ltF x x = false := by rw [← Bool.not_eq_true, ltF_iff]; omega
theorem ltF_trans {x y z : Fa} (h : ltF x y = true) (k : ltF y z = true) : ltF x z = true := by rw [ltF_iff] at *; omega
theorem ltF_tot {x y : Fa} (h : ltF x y = false) (k : ltF y x = false) : x = y := by
  rw [← Bool.not_eq_true, ltF_iff] at h k
  obtain ⟨a, b⟩ := x
  obtain ⟨c, d⟩ := y
  simp only [Fa.mk.injEq] at *
  omega
theorem ltF_asym {x y : Fa} (h : ltF x y = true) : ltF y x = false := by rw [← Bool.not_eq_true, ltF_iff]; rw [ltF_iff] at h; omega
/-- Not behind. -/
theorem leF_trans {x y z : Fa} (h : ltF y x = false) (k : ltF z y = false) : ltF z x = false := by rw [← Bool.not_eq_true, ltF_iff] at *; omega
def cLt (p : Fa) (l : List Fa) : Nat := l.countP (fun x => ltF x p)
def cLe (p : Fa) (l : List Fa) : Nat := l.countP (fun x => !ltF p x)
/-- So many are ahead of it. -/
def Is (l : List Fa) (k : Nat) (p : Fa) : Prop := cLt p l ≤ k ∧ k < cLe p l
instance (l : List Fa) (k : Nat) (p : Fa) : Decidable (Is l k p) := inferInstanceAs (Decidable (_ ∧ _))
theorem Is.uniq {l : List Fa} {k : Nat} {p q : Fa} (h : Is l k p) (g : Is l k q) : p = q := by
  have key : ∀ {p q : Fa}, Is l k p → Is l k q → ltF p q = false := by
    intro p q h g
    cases e : ltF p q with
    | false => rfl
    | true =>
      have : cLe p l ≤ cLt q l := List.countP_mono_left (fun x _ hx => by
        simp only [Bool.not_eq_eq_eq_not, Bool.not_true] at hx
        rw [ltF_iff] at e ⊢
        rw [← Bool.not_eq_true, ltF_iff] at hx
        omega)
      have := h.2
      have := g.1
      omega
  exact ltF_tot (key h g) (key g h)
def nthF (l : List Fa) (k : Nat) : Fa := (l.find? (fun p => decide (Is l k p))).getD ⟨0, 0⟩
theorem nthF_eq {l : List Fa} {k : Nat} {p : Fa} (hp : p ∈ l) (h : Is l k p) : nthF l k = p := by
  unfold nthF
  cases e : l.find? (fun p => decide (Is l k p)) with
  | none => exact absurd h (by simpa using List.find?_eq_none.1 e p hp)
  | some q => exact (h.uniq (by simpa using List.find?_some e)).symm
def aheadF (p : Fa) (l : List Fa) : List Fa := l.filter (fun x => ltF x p)
def behindF (p : Fa) (l : List Fa) : List Fa := l.filter (fun x => ltF p x)
theorem aheadF_len (p : Fa) (l : List Fa) : (aheadF p l).length = cLt p l := (List.countP_eq_length_filter ..).symm
theorem behindF_len (p : Fa) (l : List Fa) : (behindF p l).length + cLe p l = l.length := by
  unfold behindF cLe
  rw [← List.countP_eq_length_filter]
  have := List.length_eq_countP_add_countP (fun x => ltF p x) (l := l)
  simp only [Bool.not_eq_true] at this
  rw [this]
  congr 1
  congr 1
  funext x
  cases ltF p x <;> rfl
theorem ahead_lt {p : Fa} {l : List Fa} (hp : p ∈ l) : (aheadF p l).length < l.length := by
  unfold aheadF
  exact List.length_filter_lt_length_iff_exists.2 ⟨p, hp, by rw [ltF_irrefl]; simp⟩
theorem behind_lt {p : Fa} {l : List Fa} (hp : p ∈ l) : (behindF p l).length < l.length := by
  unfold behindF
  exact List.length_filter_lt_length_iff_exists.2 ⟨p, hp, by rw [ltF_irrefl]; simp⟩
theorem Is.ahead {p q : Fa} {l : List Fa} {k : Nat} (hq : ltF q p = true) (h : Is (aheadF p l) k q) : Is l k q := by
  have h1 : cLt q (aheadF p l) = cLt q l := by
    unfold cLt aheadF
    rw [List.countP_filter]
    congr 1
    funext x
    cases e : ltF x q with
    | false => rfl
    | true => rw [ltF_trans e hq]; rfl
  have h2 : cLe q (aheadF p l) = cLe q l := by
    unfold cLe aheadF
    rw [List.countP_filter]
    congr 1
    funext x
    cases e : ltF q x with
    | true => rfl
    | false =>
      have : ltF x p = true := by
        rw [ltF_iff] at hq ⊢
        rw [← Bool.not_eq_true, ltF_iff] at e
        omega
      rw [this]; rfl
  unfold Is at *
  omega
theorem cnt_behind {p : Fa} {l : List Fa} (f : Fa → Bool) (hf : ∀ x, ltF p x = false → f x = true) : l.countP f = (behindF p l).countP f + cLe p l := by
  unfold cLe behindF
  induction l with
  | nil => rfl
  | cons x r ih =>
    rw [List.filter_cons]
    cases e : ltF p x with
    | true =>
      simp only [if_true, List.countP_cons, e, Bool.not_true]
      simp only [Bool.false_eq_true, if_false]
      omega
    | false =>
      have h := hf x e
      simp only [Bool.false_eq_true, if_false, List.countP_cons, e, h, if_true, Bool.not_false]
      omega
theorem Is.behind {p q : Fa} {l : List Fa} {k : Nat} (hq : ltF p q = true) (hk : cLe p l ≤ k) (h : Is (behindF p l) (k - cLe p l) q) : Is l k q := by
  have h1 : cLt q l = cLt q (behindF p l) + cLe p l := cnt_behind _ (fun x hx => by
    rw [ltF_iff] at hq ⊢
    rw [← Bool.not_eq_true, ltF_iff] at hx
    omega)
  have h2 : cLe q l = cLe q (behindF p l) + cLe p l := cnt_behind _ (fun x hx => by
    rw [ltF_iff] at hq
    rw [← Bool.not_eq_true, ltF_iff] at hx
    rw [Bool.not_eq_eq_eq_not, Bool.not_true, ← Bool.not_eq_true, ltF_iff]
    omega)
  unfold Is at *
  omega
theorem Is.mid {p : Fa} {l : List Fa} {k : Nat} (h1 : (aheadF p l).length ≤ k) (h2 : k + (behindF p l).length < l.length) : Is l k p := by
  have := behindF_len p l
  rw [aheadF_len] at h1
  exact ⟨h1, by omega⟩
/-- The first ones, and the others. -/
def halveF (l : List Fa) (k : Nat) : List Fa × List Fa := if k < l.length then (l.filter (fun x => ltF x (nthF l k)), l.filter (fun x => !ltF x (nthF l k))) else (l, [])
def bndK (l : List Fa) (k : Nat) : Int × Int := (l.take k).foldl (fun b y => (min b.1 y.ds, max b.2 y.ds)) ((l.getD 0 ⟨0, 0⟩).ds, (l.getD 0 ⟨0, 0⟩).ds)
def bndN (l : List Fa) : Int × Int := if l = [] then (1, 0) else bndK l l.length
theorem bndK_succ {l : List Fa} {k : Nat} (h : k < l.length) : bndK l (k + 1) = (min (bndK l k).1 l[k].ds, max (bndK l k).2 l[k].ds) := by
  unfold bndK
  rw [List.take_add_one, List.getElem?_eq_getElem h, List.foldl_append]
  rfl
end Go.WW
