/-
  Plain laws about a tree's nodes: what makes an image right, whose ids live, how deep nodes are.
-/
import Derived.Test.YtjdcemmodkdajaaRefPut
namespace Go.Proofs.Ytjdcemmodkdajaa
open Go Go.RowKit Go.WW
theorem kidIn_none {edge : Nat → Int} {e : Int} : ∀ {ks : List Nat}, kidIn edge e ks < 0 → ∀ k ∈ ks, edge k ≠ e
  | [], _, k, hk => by simp at hk
  | j :: r, h, k, hk => by
    unfold kidIn at h
    split at h
    · omega
    · rename_i hj
      rcases List.mem_cons.1 hk with rfl | hk
      · exact hj
      · exact kidIn_none h k hk
theorem kidIn_edge {edge : Nat → Int} {e : Int} : ∀ {ks : List Nat} {k : Nat}, kidIn edge e ks = (k : Int) → edge k = e
  | [], k, h => by unfold kidIn at h; omega
  | j :: r, k, h => by
    unfold kidIn at h
    split at h
    · rename_i hj
      have : j = k := by omega
      subst this
      exact hj
    · exact kidIn_edge h
theorem kidsFrom_of {i : Nat} : ∀ {l : List Nd} {m k : Nat} {n : Nd}, l[k]? = some n → n.par = (i : Int) → m + k ∈ kidsFrom m l i
  | [], m, k, n, h, _ => by simp at h
  | a :: r, m, 0, n, h, hp => by
    simp at h
    subst h
    simp [kidsFrom, hp]
  | a :: r, m, k + 1, n, h, hp => by
    have := kidsFrom_of (m := m + 1) (by simpa using h) hp
    rw [show m + (k + 1) = m + 1 + k from by omega]
    simp only [kidsFrom]
    split
    · exact List.mem_cons_of_mem _ this
    · exact this
theorem kidsOf_of {l : List Nd} {i k : Nat} {n : Nd} (h : l[k]? = some n) (hp : n.par = (i : Int)) : k ∈ kidsOf l i := by
  have := kidsFrom_of (m := 0) h hp
  simpa [kidsOf] using this
/-- k is on the way from i up. -/
inductive On (l : List Nd) (i : Nat) : Nat → Prop
  | here : On l i i
  | up {k p : Nat} {n : Nd} : On l i k → l[k]? = some n → n.par = (p : Int) → On l i p
theorem On.lt {l : List Nd} (hu : Up l) {i k : Nat} (h : On l i k) (hi : i < l.length) : k < l.length := by
  induction h with
  | here => exact hi
  | up _ hk hp ih => have := hu _ _ hk; omega
theorem On.old {l : List Nd} {x : Nd} (hu : Up l) {i k : Nat} (h : On (l ++ [x]) i k) (hi : i < l.length) : k < l.length ∧ On l i k := by
  induction h with
  | here => exact ⟨hi, .here⟩
  | up _ hk hp ih =>
    obtain ⟨h1, h2⟩ := ih
    rw [List.getElem?_append_left h1] at hk
    have := hu _ _ hk
    exact ⟨by omega, .up h2 hk hp⟩
theorem On.new {l : List Nd} {x : Nd} (hu : Up l) (hx : x.par < (l.length : Int)) {k : Nat} (h : On (l ++ [x]) l.length k) : k = l.length ∨ ∃ p : Nat, x.par = (p : Int) ∧ k < l.length ∧ On l p k := by
  induction h with
  | here => exact .inl rfl
  | up _ hk hp ih =>
    rcases ih with rfl | ⟨q, h1, h2, h3⟩
    · simp at hk
      subst hk
      exact .inr ⟨_, hp, by omega, .here⟩
    · rw [List.getElem?_append_left h2] at hk
      have := hu _ _ hk
      exact .inr ⟨q, h1, by omega, .up h3 hk hp⟩
theorem On.step {l : List Nd} {i k j : Nat} {n : Nd} (hn : l[k]? = some n) (hp : n.par = (i : Int)) (h : On l k j) : j = k ∨ On l i j := by
  induction h with
  | here => exact .inl rfl
  | @up k' p n' _ hk hq ih =>
    rcases ih with rfl | h
    · rw [hn] at hk
      injection hk with hk
      subst hk
      rw [hp] at hq
      obtain rfl : i = p := by omega
      exact .inr .here
    · exact .inr (.up h hk hq)
theorem On.root {l : List Nd} (h : ∀ n, l[0]? = some n → n.par = -1) {k : Nat} (hk : On l 0 k) : k = 0 := by
  induction hk with
  | here => rfl
  | up h1 h2 h3 ih =>
    subst ih
    have := h _ h2
    omega
structure Rt (m : Int) (l : List Nd) : Prop where
  up : Up l
  root : ∀ n, l[0]? = some n → n.par = -1 ∧ n.edge = 0
  par : ∀ (k : Nat) (n : Nd), l[k]? = some n → 0 < k → 0 ≤ n.par
  one : ∀ (i k : Nat) (ni nk : Nd), k < i → l[k]? = some nk → l[i]? = some ni → 0 < k → nk.par = ni.par → nk.edge ≠ ni.edge
  way : ∀ (i k p : Nat) (ni nk np : Nd), On l i k → l[i]? = some ni → l[k]? = some nk → nk.par = (p : Int) → l[p]? = some np → distO m ni.it.ob np.it.ob = nk.edge
theorem Rt.nil (m : Int) : Rt m [] := ⟨fun k n h => by simp at h, fun n h => by simp at h, fun k n h => by simp at h, fun i k ni nk _ h => by simp at h, fun i k p ni nk np _ h => by simp at h⟩
theorem obAt_some {l : List Nd} {i : Nat} {n : Nd} (h : l[i]? = some n) : obAt l i = n.it.ob := by unfold obAt; rw [h]; rfl
theorem edgeAt_some {l : List Nd} {i : Nat} {n : Nd} (h : l[i]? = some n) : edgeAt l i = n.edge := by unfold edgeAt; rw [h]; rfl
theorem putP_ok {m : Int} {l : List Nd} (hu : Up l) {x : Ob} : ∀ (n i : Nat), i < l.length → l.length ≤ n + i → (∀ (k p : Nat) (nk np : Nd), On l i k → l[k]? = some nk → nk.par = (p : Int) → l[p]? = some np → distO m x np.it.ob = nk.edge) →
    ∃ j : Nat, j < l.length ∧ putP m l x n i = ((j : Int), distO m x (obAt l j)) ∧ kidN l j (distO m x (obAt l j)) < 0 ∧ (∀ (k p : Nat) (nk np : Nd), On l j k → l[k]? = some nk → nk.par = (p : Int) → l[p]? = some np → distO m x np.it.ob = nk.edge)
  | 0, i, hi, hn, _ => by omega
  | n + 1, i, hi, hn, h => by
    rw [putP_succ]
    by_cases hk : kidN l i (distO m x (obAt l i)) < 0
    · rw [if_pos hk]
      exact ⟨i, hi, rfl, hk, h⟩
    · rw [if_neg hk]
      rcases kidN_mem l i (distO m x (obAt l i)) with h1 | ⟨k, hkm, hkk⟩
      · omega
      · have hki := kidsOf_up hu hkm
        obtain ⟨hkl, hkp⟩ := kidsOf_mem hkm
        have hke := kidIn_edge (show kidIn (edgeAt l) (distO m x (obAt l i)) (kidsOf l i) = (k : Int) from hkk)
        rw [hkk]
        rw [List.getElem?_eq_getElem hkl] at hkp
        simp only [Option.map_some, Option.some.injEq] at hkp
        refine putP_ok hu n k hkl (by omega) (fun j p nj np hj hnj hp hnp => ?_)
        rcases hj.step (List.getElem?_eq_getElem hkl) hkp with rfl | hj
        · rw [List.getElem?_eq_getElem hkl] at hnj
          injection hnj with hnj
          subst hnj
          have : p = i := by omega
          subst this
          rw [edgeAt_some (List.getElem?_eq_getElem hkl), obAt_some hnp] at hke
          exact hke.symm
        · exact h j p nj np hj hnj hp hnp
theorem snoc_get {l : List Nd} {x n : Nd} {k : Nat} (h : (l ++ [x])[k]? = some n) : (k < l.length ∧ l[k]? = some n) ∨ (k = l.length ∧ n = x) := by
  rcases Nat.lt_or_ge k l.length with hk | hk
  · rw [List.getElem?_append_left hk] at h
    exact .inl ⟨hk, h⟩
  · rw [List.getElem?_append_right hk] at h
    have h0 : k - l.length = 0 := by
      have := (List.getElem?_eq_some_iff.1 h).1
      simp at this
      omega
    rw [h0] at h
    simp at h
    exact .inr ⟨by omega, h.symm⟩
theorem Rt.put {m : Int} {l : List Nd} (h : Rt m l) (x : It) : Rt m (putN m l x) := by
  by_cases hl : l = []
  · subst hl
    show Rt m [⟨x, false, -1, 0⟩]
    have hs : ∀ {k : Nat} {n : Nd}, [(⟨x, false, -1, 0⟩ : Nd)][k]? = some n → k = 0 ∧ n = ⟨x, false, -1, 0⟩ := fun {k n} h => by
      rcases snoc_get (l := []) (show ([] ++ [(⟨x, false, -1, 0⟩ : Nd)])[k]? = some n from h) with ⟨h1, _⟩ | ⟨h1, h2⟩
      · simp at h1
      · exact ⟨h1, h2⟩
    refine ⟨fun k n h => ?_, fun n h => ?_, fun k n h hk => ?_, fun i k ni nk hki h1 h2 => ?_, fun i k p ni nk np _ h1 h2 h3 _ => ?_⟩
    · obtain ⟨rfl, rfl⟩ := hs h; simp
    · obtain ⟨_, rfl⟩ := hs h; exact ⟨rfl, rfl⟩
    · obtain ⟨rfl, rfl⟩ := hs h; omega
    · obtain ⟨rfl, rfl⟩ := hs h2; omega
    · obtain ⟨rfl, rfl⟩ := hs h2; simp at h3
  · have h0 : 0 < l.length := List.length_pos_iff.2 hl
    obtain ⟨j, hj, hpp, hkid, hq⟩ := putP_ok h.up (x := x.ob) (m := m) l.length 0 h0 (by omega) (fun k p nk np hon hk hp hnp => by
      have : k = 0 := hon.root (fun n hn => (h.root n hn).1)
      subst this
      have := (h.root _ hk).1
      omega)
    rw [putN_ne hl, hpp]
    have hup : Up (l ++ [⟨x, false, (j : Int), distO m x.ob (obAt l j)⟩]) := h.up.snoc (by show (j : Int) < _; omega)
    refine ⟨hup, fun n hn => ?_, fun k n hk hk0 => ?_, fun i k ni nk hki hk hi hk0 hpar hed => ?_, fun i k p ni nk np hon hi hk hp hnp => ?_⟩
    · rcases snoc_get hn with ⟨_, h1⟩ | ⟨h1, _⟩
      · exact h.root n h1
      · omega
    · rcases snoc_get hk with ⟨_, h1⟩ | ⟨_, rfl⟩
      · exact h.par k n h1 hk0
      · show (0 : Int) ≤ j; omega
    · rcases snoc_get hi with ⟨hil, h1⟩ | ⟨rfl, rfl⟩
      · rcases snoc_get hk with ⟨_, h2⟩ | ⟨rfl, _⟩
        · exact h.one i k ni nk hki h2 h1 hk0 hpar hed
        · omega
      · rcases snoc_get hk with ⟨_, h2⟩ | ⟨h2, _⟩
        · have := kidIn_none hkid k (kidsOf_of h2 hpar)
          rw [edgeAt_some h2] at this
          exact this hed
        · omega
    · have hpk : p < k := by have := hup k nk hk; omega
      rcases snoc_get hi with ⟨hil, h1⟩ | ⟨rfl, rfl⟩
      · obtain ⟨hkl, hon'⟩ := hon.old h.up hil
        rw [List.getElem?_append_left hkl] at hk
        rw [List.getElem?_append_left (by omega)] at hnp
        exact h.way i k p ni nk np hon' h1 hk hp hnp
      · rcases hon.new h.up (show (j : Int) < _ by omega) with rfl | ⟨q, hq1, hkl, hon'⟩
        · rcases snoc_get hk with ⟨h2, _⟩ | ⟨_, rfl⟩
          · omega
          · rw [List.getElem?_append_left (by omega)] at hnp
            have hpj : p = j := by have : (j : Int) = p := hp; omega
            subst hpj
            show distO m x.ob np.it.ob = distO m x.ob (obAt l p)
            rw [obAt_some hnp]
        · have hqj : q = j := by have : (j : Int) = q := hq1; omega
          subst hqj
          rw [List.getElem?_append_left hkl] at hk
          rw [List.getElem?_append_left (by omega)] at hnp
          exact hq k p nk np hon' hk hp hnp
theorem Rt.fold {m : Int} : ∀ {xs : List It} {l : List Nd}, Rt m l → Rt m (xs.foldl (putN m) l)
  | [], _, h => h
  | x :: r, _, h => Rt.fold (xs := r) (h.put x)
theorem mark_get {l : List Nd} {id : Int} {k : Nat} {n : Nd} (h : (markN l id)[k]? = some n) : ∃ n', l[k]? = some n' ∧ n.it = n'.it ∧ n.par = n'.par ∧ n.edge = n'.edge := by
  unfold markN at h
  rw [List.getElem?_map] at h
  cases hl : l[k]? with
  | none => rw [hl] at h; cases h
  | some n' =>
    rw [hl] at h
    simp only [Option.map_some, Option.some.injEq] at h
    refine ⟨n', rfl, ?_⟩
    split at h <;> (subst h; exact ⟨rfl, rfl, rfl⟩)
theorem On.mark {l : List Nd} {id : Int} {i k : Nat} (h : On (markN l id) i k) : On l i k := by
  induction h with
  | here => exact .here
  | up _ hk hp ih =>
    obtain ⟨n', h1, _, h3, _⟩ := mark_get hk
    exact .up ih h1 (h3 ▸ hp)
theorem Rt.mark {m : Int} {l : List Nd} (h : Rt m l) (id : Int) : Rt m (markN l id) := by
  refine ⟨h.up.mark id, fun n hn => ?_, fun k n hk hk0 => ?_, fun i k ni nk hki hk hi hk0 hpar => ?_, fun i k p ni nk np hon hi hk hp hnp => ?_⟩
  · obtain ⟨n', h1, _, h3, h4⟩ := mark_get hn
    rw [h3, h4]; exact h.root n' h1
  · obtain ⟨n', h1, _, h3, h4⟩ := mark_get hk
    rw [h3]; exact h.par k n' h1 hk0
  · obtain ⟨n', h1, _, h3, h4⟩ := mark_get hk
    obtain ⟨n'', g1, _, g3, g4⟩ := mark_get hi
    rw [h4, g4]; rw [h3, g3] at hpar
    exact h.one i k _ _ hki h1 g1 hk0 hpar
  · obtain ⟨n1, h1, a1, b1, c1⟩ := mark_get hk
    obtain ⟨n2, h2, a2, _, _⟩ := mark_get hi
    obtain ⟨n3, h3, a3, _, _⟩ := mark_get hnp
    rw [a2, a3, c1]
    exact h.way i k p _ _ _ hon.mark h2 h1 (b1 ▸ hp) h3
theorem Rt.anew {m : Int} (l : List Nd) : Rt m (anewN m l) := Rt.fold (Rt.nil m)
theorem Rt.cut {m : Int} {l : List Nd} (h : Rt m l) (id : Int) : Rt m (cutN m l id) := by
  unfold cutN
  split
  · exact Rt.anew _
  · exact h.mark id
/-- Which ids live. -/
def ids (l : List Nd) : List Int := (live l).map It.id
theorem live_put (m : Int) (l : List Nd) (x : It) : live (putN m l x) = live l ++ [x] := by
  obtain ⟨p, e, h, _⟩ := putN_snoc m l x
  rw [h]
  simp [live]
theorem live_fold (m : Int) : ∀ (xs : List It) (l : List Nd), live (xs.foldl (putN m) l) = live l ++ xs
  | [], l => by simp
  | x :: r, l => by rw [List.foldl_cons, live_fold m r, live_put]; simp
theorem live_anew (m : Int) (l : List Nd) : live (anewN m l) = live l := by
  unfold anewN
  rw [live_fold]
  rfl
theorem live_mark (id : Int) : ∀ (l : List Nd), live (markN l id) = (live l).filter (fun x => decide (x.id ≠ id))
  | [] => rfl
  | n :: r => by
    have ih := live_mark id r
    unfold live markN at ih ⊢
    by_cases hn : n.it.id = id
    · cases hg : n.gone <;> simp [hn, hg] at ih ⊢ <;> exact ih
    · cases hg : n.gone <;> simp [hn, hg] at ih ⊢ <;> exact ih
theorem live_cut (m : Int) (l : List Nd) (id : Int) : live (cutN m l id) = (live l).filter (fun x => decide (x.id ≠ id)) := by
  unfold cutN
  split
  · rw [live_anew, live_mark]
  · exact live_mark id l
theorem live_len (l : List Nd) : (live l).length + gcnt l = l.length := by
  unfold live gcnt
  induction l with
  | nil => rfl
  | cons n r ih =>
    cases hg : n.gone <;> simp [hg] at ih ⊢ <;> omega
theorem TI.ids {l : List Nd} {f : Int → Option Int} (h : TI l f) (y : Int) : (f y).isSome = decide (y ∈ ids l) := by
  rw [Bool.eq_iff_iff, decide_eq_true_iff, Option.isSome_iff_exists]
  unfold Go.Proofs.Ytjdcemmodkdajaa.ids live
  constructor
  · rintro ⟨v, hv⟩
    obtain ⟨k, n, _, h1, h2, h3⟩ := h.at_ y v hv
    exact List.mem_map.2 ⟨n.it, List.mem_map.2 ⟨n, List.mem_filter.2 ⟨List.mem_of_getElem? h1, by simp [h3]⟩, rfl⟩, h2⟩
  · intro hy
    obtain ⟨x, hx, rfl⟩ := List.mem_map.1 hy
    obtain ⟨n, hn, rfl⟩ := List.mem_map.1 hx
    obtain ⟨h1, h2⟩ := List.mem_filter.1 hn
    obtain ⟨k, hk⟩ := List.getElem?_of_mem h1
    exact ⟨_, h.has k n hk (by simpa using h2)⟩
theorem TI.apart {l : List Nd} {f : Int → Option Int} (h : TI l f) {i k : Nat} {ni nk : Nd} (hi : l[i]? = some ni) (hk : l[k]? = some nk) (gi : ni.gone = false) (gk : nk.gone = false) (he : nk.it.id = ni.it.id) : k = i := by
  have h1 := h.has i ni hi gi
  have h2 := h.has k nk hk gk
  rw [he, h1] at h2
  injection h2 with h2
  omega
theorem gcnt_cut2 (m : Int) (l : List Nd) (id : Int) (_ : 2 * gcnt l ≤ l.length) : 2 * gcnt (cutN m l id) ≤ (cutN m l id).length := by
  unfold cutN
  split
  · rw [gcnt_anew]; omega
  · rename_i h
    rw [markN_len]
    omega
theorem gcnt_fold2 (m : Int) (l : List Nd) (xs : List It) (h : 2 * gcnt l ≤ l.length) : 2 * gcnt (xs.foldl (putN m) l) ≤ (xs.foldl (putN m) l).length := by
  rw [gcnt_fold, fold_len]; omega
theorem cut_len (m : Int) (l : List Nd) (id : Int) : (cutN m l id).length ≤ l.length := by
  unfold cutN
  split
  · unfold anewN
    rw [fold_len]
    have := live_len (markN l id)
    rw [markN_len] at this
    simp
    omega
  · rw [markN_len]; exact Nat.le_refl _
/-- Items put one by one, by their ids. -/
def freshL : List Int → List Int → Bool
  | _, [] => true
  | s, x :: r => !(decide (x ∈ s)) && freshL (x :: s) r
theorem freshL_cons (s : List Int) (x : Int) (r : List Int) : freshL s (x :: r) = (!(decide (x ∈ s)) && freshL (x :: s) r) := rfl
theorem freshL_congr : ∀ {r s t : List Int}, (∀ y, y ∈ s ↔ y ∈ t) → freshL s r = freshL t r
  | [], _, _, _ => rfl
  | x :: r, s, t, h => by
    rw [freshL_cons, freshL_cons, freshL_congr (r := r) (s := x :: s) (t := x :: t) (fun y => by simp [h])]
    congr 2
    exact decide_eq_decide.2 (h x)
theorem freshB_L {f : Int → Option Int} : ∀ {r seen s : List Int}, (∀ y, y ∈ s ↔ ((f y).isSome = true ∨ y ∈ seen)) → freshB f seen r = freshL s r
  | [], _, _, _ => rfl
  | x :: r, seen, s, h => by
    rw [freshB_cons, freshL_cons, freshB_L (r := r) (seen := seen ++ [x]) (s := x :: s) (fun y => by
      rw [List.mem_cons, List.mem_append, h y]
      simp only [List.mem_singleton]
      constructor
      · rintro (h | h | h)
        · exact .inr (.inr h)
        · exact .inl h
        · exact .inr (.inl h)
      · rintro (h | h | h)
        · exact .inr (.inl h)
        · exact .inr (.inr h)
        · exact .inl h)]
    congr 1
    have := h x
    cases hf : f x with
    | none => rw [hf] at this; simp at this; simp [this]
    | some v => rw [hf] at this; simp at this; simp [this]
/-- How deep a node is. -/
def dAt (l : List Nd) (i : Nat) : Int := (deps l).getD i 0
theorem deps_pre : ∀ (b a : List Nd), ∃ c, deps (a ++ b) = deps a ++ c
  | [], a => ⟨[], by simp⟩
  | n :: r, a => by
    obtain ⟨c, hc⟩ := deps_pre r (a ++ [n])
    rw [deps_snoc] at hc
    refine ⟨[if 0 ≤ n.par then (deps a).getD n.par.toNat 0 + 1 else 1] ++ c, ?_⟩
    rw [show a ++ n :: r = a ++ [n] ++ r from by simp, hc, ← List.append_assoc]
    rfl
theorem deps_lt {l : List Nd} {k i : Nat} (hi : i < k) (hk : k ≤ l.length) : (deps (l.take k)).getD i 0 = dAt l i := by
  obtain ⟨c, hc⟩ := deps_pre (l.drop k) (l.take k)
  rw [List.take_append_drop] at hc
  unfold dAt
  rw [hc, List.getD_eq_getElem?_getD, List.getD_eq_getElem?_getD, List.getElem?_append_left (by rw [deps_len, List.length_take]; omega)]
theorem deps_take {l : List Nd} {i : Nat} (h : i < l.length) : deps (l.take (i + 1)) = depF (deps (l.take i)) l[i] := by
  have htake : l.take (i + 1) = l.take i ++ [l[i]] := by rw [List.take_add_one, List.getElem?_eq_getElem h]; rfl
  rw [htake, deps_snoc]
theorem dAt_eq {l : List Nd} {i : Nat} (h : i < l.length) (hu : Up l) : dAt l i = if 0 ≤ l[i].par then dAt l l[i].par.toNat + 1 else 1 := by
  rw [← deps_lt (k := i + 1) (Nat.lt_succ_self i) h, deps_take h]
  unfold depF
  have hdl : (deps (l.take i)).length = i := by rw [deps_len, List.length_take]; omega
  rw [List.getD_eq_getElem?_getD, List.getElem?_append_right (by omega), hdl, Nat.sub_self]
  simp only [List.getElem?_cons_zero, Option.getD_some]
  split
  · have := hu i _ (List.getElem?_eq_getElem h)
    rw [deps_lt (by omega) (by omega)]
  · rfl
theorem depN_step {l : List Nd} {i : Nat} (h : i < l.length) : depN (l.take (i + 1)) = max (depN (l.take i)) (dAt l i) := by
  have h1 := deps_lt (k := i + 1) (Nat.lt_succ_self i) h
  have hdl : (deps (l.take i)).length = i := by rw [deps_len, List.length_take]; omega
  rw [deps_take h] at h1
  unfold depN
  rw [deps_take h]
  unfold depF at h1 ⊢
  generalize (if 0 ≤ l[i].par then (deps (l.take i)).getD l[i].par.toNat 0 + 1 else 1) = v at *
  rw [foldl_max_snoc, ← h1, List.getD_eq_getElem?_getD, List.getElem?_append_right (by omega), hdl, Nat.sub_self]
  rfl
theorem dAt_bd {l : List Nd} {i : Nat} (h : i < l.length) : 1 ≤ dAt l i ∧ dAt l i ≤ l.length := by
  unfold dAt
  rw [List.getD_eq_getElem?_getD, List.getElem?_eq_getElem (by rw [deps_len]; exact h)]
  exact deps_bd _ (List.getElem_mem ..)
end Go.Proofs.Ytjdcemmodkdajaa
