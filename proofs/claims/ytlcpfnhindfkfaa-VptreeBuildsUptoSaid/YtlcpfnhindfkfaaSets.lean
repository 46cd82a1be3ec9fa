/-
  One element of an own row written anew, all its cells.
-/
import Derived.Test.YtlcpfnhindfkfaaFr2
namespace Go.WW
open Go Go.RowKit
def setsAt (w : World) (g : Nat) : Nat → List Value → World
  | _, [] => w
  | o, v :: r => setsAt (w.setCell ⟨g, o, none⟩ v) g (o + 1) r
def setL (xs : List Value) : Nat → List Value → List Value
  | _, [] => xs
  | o, v :: r => setL (xs.set o v) (o + 1) r
theorem setL_len : ∀ (c : List Value) (o : Nat) (xs : List Value), (setL xs o c).length = xs.length
  | [], _, _ => rfl
  | v :: r, o, xs => by rw [setL, setL_len r]; simp
theorem setL_get : ∀ (c : List Value) (o : Nat) (xs : List Value) (j : Nat), o + c.length ≤ xs.length → (setL xs o c)[j]? = if o ≤ j ∧ j < o + c.length then c[j - o]? else xs[j]?
  | [], o, xs, j, h => by rw [setL, if_neg (by simp only [List.length_nil]; omega)]
  | v :: r, o, xs, j, h => by
    simp only [List.length_cons] at h
    rw [setL, setL_get r (o + 1) (xs.set o v) j (by simp; omega)]
    by_cases h1 : o + 1 ≤ j ∧ j < o + 1 + r.length
    · rw [if_pos h1, if_pos (by simp only [List.length_cons]; omega)]
      obtain ⟨u, rfl⟩ : ∃ u, j = o + 1 + u := ⟨j - (o + 1), by omega⟩
      rw [show o + 1 + u - o = u + 1 by omega, show o + 1 + u - (o + 1) = u by omega]
      rfl
    · rw [if_neg h1]
      by_cases h2 : j = o
      · subst h2
        rw [if_pos (by simp), List.getElem?_set_self (by omega)]
        simp
      · rw [if_neg (by simp only [List.length_cons]; omega), List.getElem?_set_ne (Ne.symm h2)]
theorem setL_flatten {n : Nat} (hn : 0 < n) {cs : List (List Value)} {i : Nat} {c : List Value} (h : ∀ d ∈ cs, d.length = n) (hi : i < cs.length) (hc : c.length = n) : setL cs.flatten (i * n) c = (cs.set i c).flatten := by
  have h2 : ∀ d ∈ cs.set i c, d.length = n := fun d hd => by
    rcases List.mem_or_eq_of_mem_set hd with h' | h'
    · exact h d h'
    · rw [h']; exact hc
  have hl := flatten_len h
  have hl2 := flatten_len h2
  rw [List.length_set] at hl2
  have hin : i * n + n ≤ cs.length * n := by rw [← Nat.succ_mul]; exact Nat.mul_le_mul_right _ hi
  apply List.ext_getElem?
  intro j
  by_cases hj : j < cs.length * n
  · have hq : j / n < cs.length := Nat.div_lt_of_lt_mul (by rw [Nat.mul_comm]; exact hj)
    have hm := Nat.mod_lt j hn
    have hdm : j / n * n + j % n = j := by rw [Nat.mul_comm]; exact Nat.div_add_mod j n
    rw [setL_get _ _ _ _ (by rw [hl, hc]; exact hin), hc]
    have e2 := flatten_at h2 (i := j / n) (j := j % n) (c := (cs.set i c)[j / n]'(by rw [List.length_set]; exact hq)) (u := ((cs.set i c)[j / n]'(by rw [List.length_set]; exact hq))[j % n]'(by rw [h2 _ (List.getElem_mem ..)]; exact hm)) (List.getElem?_eq_getElem _) (List.getElem?_eq_getElem _)
    rw [hdm] at e2
    rw [e2]
    by_cases hji : j / n = i
    · have hb : i * n ≤ j ∧ j < i * n + n := by rw [← hji]; omega
      rw [if_pos hb]
      have : j - i * n = j % n := by rw [← hji]; omega
      rw [this, List.getElem?_eq_getElem (by rw [hc]; exact hm)]
      simp [hji]
    · have hb : ¬ (i * n ≤ j ∧ j < i * n + n) := fun hb => hji (Nat.div_eq_of_lt_le hb.1 (by rw [Nat.succ_mul]; exact hb.2))
      rw [if_neg hb]
      have e1 := flatten_at h (i := j / n) (j := j % n) (c := cs[j / n]) (u := cs[j / n][j % n]'(by rw [h _ (List.getElem_mem ..)]; exact hm)) (List.getElem?_eq_getElem _) (List.getElem?_eq_getElem _)
      rw [hdm] at e1
      rw [e1]
      simp [Ne.symm hji]
  · rw [List.getElem?_eq_none (by rw [setL_len, hl]; omega), List.getElem?_eq_none (by rw [hl2]; omega)]
theorem gb_sets : ∀ (c : List Value) (w : World) (g o : Nat), w.grownBy (setsAt w g o c) (some g)
  | [], _, _, _ => ⟨rfl, rfl, rfl, Nat.le_refl _, fun _ _ _ => rfl⟩
  | v :: r, w, g, o => (gb_setCell w ⟨g, o, none⟩ v).trans (gb_sets r _ g (o + 1))
theorem owns_sets {n0 e sz n cap g : Nat} : ∀ (c : List Value) (o : Nat) (w : World) (xs : List Value), w.ownsRow n0 e sz (.slice (some ⟨g, 0, none⟩) n cap) n xs → (setsAt w g o c).ownsRow n0 e sz (.slice (some ⟨g, 0, none⟩) n cap) n (setL xs o c)
  | [], _, _, _, h => h
  | v :: r, o, _, _, h => owns_sets r (o + 1) _ _ (h.stored o v).1
theorem OwnRow.store {α : Type} {R : Rd α} {e b n0 g n c : Nat} {w : World} {l : List α} (h : OwnRow R e b n0 w (.slice (some ⟨g, 0, none⟩) n c) l) (hsz : 0 < R.sz) (hne : e ∉ R.ts) (hbn : b ≤ n0) (i : Nat) (hi : i < l.length) (cs : List Value) (y : α) (hy : R.rd b w cs y) : OwnRow R e b n0 (setsAt w g (i * R.sz) cs) (.slice (some ⟨g, 0, none⟩) n c) (l.set i y) := by
  have hlt := h.lt g rfl
  obtain ⟨d, hd⟩ := h.blk (g := g) rfl
  have hkp : Kp R.ts b w (setsAt w g (i * R.sz) cs) := (Kp.refl R.ts b w).grown (gb_sets cs w g _) (fun k hk => by cases hk; exact .inr (not_sta hd (by omega) hne))
  obtain ⟨css, ho, hl, hr⟩ := h
  have hlen := OwnRow.lens hl hr
  have hn : n = l.length := by
    rcases ho.2 with ⟨h1, h2⟩ | ⟨g', cap, cur, h1, _⟩
    · cases h1
    · injection h1
  subst hn
  refine ⟨css.set i cs, ?_, by simp [hl], fun k x c' hx hc' => ?_⟩
  · have := owns_sets cs (i * R.sz) w _ ho
    rw [setL_flatten hsz hlen (by omega) (R.len _ _ _ _ hy)] at this
    simpa using this
  · by_cases hk : k = i
    · subst hk
      rw [List.getElem?_set_self (by omega)] at hx hc'
      cases hx
      cases hc'
      exact R.keep _ _ _ _ _ hkp hy
    · rw [List.getElem?_set_ne (Ne.symm hk)] at hx hc'
      exact R.keep _ _ _ _ _ hkp (hr k x c' hx hc')
end Go.WW
