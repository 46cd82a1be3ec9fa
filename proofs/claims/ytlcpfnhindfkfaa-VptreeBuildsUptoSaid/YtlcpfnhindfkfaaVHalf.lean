/-
  Plain: halves of distinct places, their bounds.
-/
import Derived.Test.YtlcpfnhindfkfaaVbldP
namespace Go.WW
theorem Is.ex : ∀ (n : Nat) (l : List Fa) (k : Nat), l.length ≤ n → k < l.length → ∃ p ∈ l, Is l k p
  | 0, l, k, h, hk => by omega
  | n + 1, [], k, h, hk => by simp at hk
  | n + 1, p :: r, k, h, hk => by
    have hp : p ∈ p :: r := List.mem_cons_self
    generalize p :: r = L at *
    by_cases h1 : k < (aheadF p L).length
    · have := ahead_lt hp
      obtain ⟨q, hq, hi⟩ := Is.ex n (aheadF p L) k (by omega) h1
      have hm := List.mem_filter.1 hq
      exact ⟨q, hm.1, Is.ahead hm.2 hi⟩
    · by_cases h2 : k < cLe p L
      · exact ⟨p, hp, by rw [aheadF_len] at h1; exact ⟨by omega, h2⟩⟩
      · have hb := behind_lt hp
        have hl := behindF_len p L
        obtain ⟨q, hq, hi⟩ := Is.ex n (behindF p L) (k - cLe p L) (by omega) (by omega)
        have hm := List.mem_filter.1 hq
        exact ⟨q, hm.1, Is.behind hm.2 (by omega) hi⟩
theorem nthF_is {l : List Fa} {k : Nat} (h : k < l.length) : nthF l k ∈ l ∧ Is l k (nthF l k) := by
  obtain ⟨p, hp, hi⟩ := Is.ex _ l k (Nat.le_refl _) h
  rw [nthF_eq hp hi]
  exact ⟨hp, hi⟩
theorem cLe_nodup (p : Fa) : ∀ (l : List Fa), l.Nodup → cLe p l ≤ cLt p l + 1 ∧ (p ∉ l → cLe p l ≤ cLt p l)
  | [], _ => by simp [cLe]
  | x :: r, h => by
    obtain ⟨hx, hr⟩ := List.nodup_cons.1 h
    obtain ⟨i1, i2⟩ := cLe_nodup p r hr
    unfold cLe cLt at *
    rw [List.countP_cons, List.countP_cons]
    cases e1 : ltF p x with
    | true =>
      simp only [Bool.not_true, Bool.false_eq_true, if_false]
      refine ⟨by omega, fun hp => ?_⟩
      have := i2 (fun hh => hp (List.mem_cons_of_mem _ hh))
      omega
    | false =>
      simp only [Bool.not_false, if_true]
      cases e2 : ltF x p with
      | true =>
        simp only [if_true]
        refine ⟨by omega, fun hp => ?_⟩
        have := i2 (fun hh => hp (List.mem_cons_of_mem _ hh))
        omega
      | false =>
        have hxp : x = p := ltF_tot e2 e1
        subst hxp
        have := i2 hx
        simp only [Bool.false_eq_true, if_false]
        exact ⟨by omega, fun hp => absurd List.mem_cons_self hp⟩
theorem halveF_len1 {l : List Fa} {k : Nat} (hn : l.Nodup) (hk : k < l.length) : (halveF l k).1.length = k := by
  unfold halveF
  rw [if_pos hk]
  have h := (nthF_is hk).2
  have h2 := (cLe_nodup (nthF l k) l hn).1
  have h3 : (l.filter (fun x => ltF x (nthF l k))).length = cLt (nthF l k) l := aheadF_len _ _
  show (l.filter (fun x => ltF x (nthF l k))).length = k
  unfold Is at h
  omega
theorem halveF_le {l : List Fa} {k : Nat} (hk : k < l.length) {a b : Fa} (ha : a ∈ (halveF l k).1) (hb : b ∈ (halveF l k).2) : a.ds ≤ b.ds := by
  unfold halveF at ha hb
  rw [if_pos hk] at ha hb
  have h1 := (List.mem_filter.1 ha).2
  have h2 := (List.mem_filter.1 hb).2
  simp only [Bool.not_eq_eq_eq_not, Bool.not_true] at h2
  rw [ltF_iff] at h1
  rw [← Bool.not_eq_true, ltF_iff] at h2
  omega
theorem bndK_in {l : List Fa} (hn : l ≠ []) (k : Nat) : (∃ x ∈ l, (bndK l k).1 = x.ds) ∧ ∃ x ∈ l, (bndK l k).2 = x.ds := by
  have h0 : ∃ x ∈ l, (l.getD 0 ⟨0, 0⟩).ds = x.ds := by
    cases l with
    | nil => exact absurd rfl hn
    | cons x r => exact ⟨x, List.mem_cons_self, rfl⟩
  induction k with
  | zero => exact ⟨h0, h0⟩
  | succ k ih =>
    by_cases hk : k < l.length
    · rw [bndK_succ hk]
      obtain ⟨⟨x, hx, e1⟩, ⟨y, hy, e2⟩⟩ := ih
      have hm := List.getElem_mem hk
      constructor
      · rcases (show min (bndK l k).1 l[k].ds = (bndK l k).1 ∨ min (bndK l k).1 l[k].ds = l[k].ds by omega) with e | e
        · exact ⟨x, hx, e.trans e1⟩
        · exact ⟨_, hm, e⟩
      · rcases (show max (bndK l k).2 l[k].ds = (bndK l k).2 ∨ max (bndK l k).2 l[k].ds = l[k].ds by omega) with e | e
        · exact ⟨y, hy, e.trans e2⟩
        · exact ⟨_, hm, e⟩
    · have : bndK l (k + 1) = bndK l k := by unfold bndK; rw [List.take_of_length_le (by omega), List.take_of_length_le (by omega)]
      rw [this]
      exact ih
/-- The near half's bound is no greater than the far half's. -/
theorem halveF_bnd {l : List Fa} {k : Nat} (hk : k < l.length) (h0 : ∀ x ∈ l, 0 ≤ x.ds) : (bndN (halveF l k).1).2 ≤ (bndN (halveF l k).2).1 := by
  have hp := nthF_is hk
  have hB : (halveF l k).2 ≠ [] := by
    have : nthF l k ∈ (halveF l k).2 := by
      unfold halveF
      rw [if_pos hk]
      exact List.mem_filter.2 ⟨hp.1, by rw [ltF_irrefl]; rfl⟩
    intro e
    rw [e] at this
    cases this
  have e2 : bndN (halveF l k).2 = bndK (halveF l k).2 (halveF l k).2.length := by unfold bndN; rw [if_neg hB]
  rw [e2]
  obtain ⟨y, hy, ey⟩ := (bndK_in hB (halveF l k).2.length).1
  rw [ey]
  by_cases hA : (halveF l k).1 = []
  · rw [hA]
    show (0 : Int) ≤ _
    have : y ∈ l := by
      unfold halveF at hy
      rw [if_pos hk] at hy
      exact (List.mem_filter.1 hy).1
    exact h0 y this
  · have e1 : bndN (halveF l k).1 = bndK (halveF l k).1 (halveF l k).1.length := by unfold bndN; rw [if_neg hA]
    rw [e1]
    obtain ⟨x, hx, ex⟩ := (bndK_in hA (halveF l k).1.length).2
    rw [ex]
    exact halveF_le hk hx hy
end Go.WW
namespace Go.Proofs.Ytlcpfnhindfkfaa
open Go Go.RowKit Go.WW
theorem farsN_nodup (m : Int) (l : List It) (v : Nat) : ∀ k, (farsN m l v k).Nodup
  | 0 => List.nodup_nil
  | k + 1 => by
    rw [farsN]
    refine List.nodup_append.2 ⟨farsN_nodup m l v k, ?_, ?_⟩
    · split
      · exact List.nodup_nil
      · simp
    · intro a ha b hb
      split at hb
      · cases hb
      · simp only [List.mem_singleton] at hb
        subst hb
        obtain ⟨j, h1, h2⟩ := farsN_mem ha
        intro e
        subst e
        simp only at h1
        omega
theorem farsN_ds {m : Int} {l : List It} {v k : Nat} {x : Fa} (h : x ∈ farsN m l v k) : ∃ j, j < k ∧ x.ds = distO m (itD l v).ob (itD l j).ob := by
  induction k with
  | zero => cases h
  | succ k ih =>
    rw [farsN] at h
    rcases List.mem_append.1 h with h | h
    · obtain ⟨j, h1, h2⟩ := ih h
      exact ⟨j, by omega, h2⟩
    · split at h
      · cases h
      · simp only [List.mem_singleton] at h
        subst h
        exact ⟨k, by omega, rfl⟩
end Go.Proofs.Ytlcpfnhindfkfaa
