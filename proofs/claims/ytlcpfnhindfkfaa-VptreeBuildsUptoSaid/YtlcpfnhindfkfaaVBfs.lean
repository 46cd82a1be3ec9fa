/-
  vptree, plain: order goes through a tree level by level.
-/
import Derived.Test.YtlcpfnhindfkfaaVTree
namespace Go.Proofs.Ytlcpfnhindfkfaa
open Go Go.RowKit Go.WW
def Pt.idxI (t : Pt) : List Int := List.map (fun i : Nat => (i : Int)) t.idx
theorem Pt.idxI_len (t : Pt) : t.idxI.length = t.idx.length := List.length_map ..
theorem Pt.idxI_pos (t : Pt) : 0 < t.idxI.length := by rw [t.idxI_len]; cases t <;> simp [Pt.idx]
structure Bfs (T : List Vn) (t : Pt) (k : Nat) : Prop where
  fr : ∃ fr : List Pt, (ordK T k).drop k = fr.map (fun s => (s.root : Int)) ∧ (∀ s ∈ fr, ∃ par, s.fit T par) ∧ ((ordK T k).take k ++ fr.flatMap Pt.idxI).Perm t.idxI
  le : k ≤ (ordK T k).length
  par : ∀ q, 1 ≤ q → q < (ordK T k).length → ∃ q', q' < q ∧ (nodN T ((ordK T k).getD q 0).toNat).par = (ordK T k).getD q' 0
  zero : (ordK T k)[0]? = some 0
theorem Pt.fit_root {T : List Vn} {s : Pt} {par : Int} (h : s.fit T par) : s.root < T.length := Pt.fit_lt h _ s.root_mem
/-- What is ahead at a step. -/
theorem Bfs.next {T : List Vn} {t : Pt} {k : Nat} (h : Bfs T t k) (hk : k < t.idx.length) : ∃ (s : Pt) (fr : List Pt) (par : Int), (ordK T k).drop (k + 1) = fr.map (fun s => (s.root : Int)) ∧ (ordK T k)[k]? = some (s.root : Int) ∧ s.fit T par ∧ (∀ s ∈ fr, ∃ par, s.fit T par) ∧ ((ordK T k).take k ++ (s.idxI ++ fr.flatMap Pt.idxI)).Perm t.idxI := by
  obtain ⟨fr, h1, h2, h3⟩ := h.fr
  cases fr with
  | nil =>
    have := h3.length_eq
    rw [t.idxI_len] at this
    simp only [List.flatMap_nil, List.append_nil, List.length_take] at this
    omega
  | cons s fr =>
    obtain ⟨par, hs⟩ := h2 s List.mem_cons_self
    have hk2 : (ordK T k)[k]? = some (s.root : Int) := by
      have := congrArg (fun l => l[0]?) h1
      simp only [List.getElem?_drop, List.map_cons, List.getElem?_cons_zero, Nat.add_zero] at this
      exact this
    refine ⟨s, fr, par, ?_, hk2, hs, fun s hs => h2 s (List.mem_cons_of_mem _ hs), ?_⟩
    · rw [← List.drop_drop, h1]; rfl
    · rw [List.flatMap_cons] at h3
      exact h3
theorem getD_some {l : List Int} {k : Nat} {v : Int} (h : l[k]? = some v) : l.getD k 0 = v := by rw [List.getD_eq_getElem?_getD, h]; rfl
theorem Bfs.succ {T : List Vn} {t : Pt} {k : Nat} (h : Bfs T t k) (hk : k < t.idx.length) : Bfs T t (k + 1) := by
  obtain ⟨s, fr, par, h1, h2, h3, h4, h5⟩ := h.next hk
  have hkl : k < (ordK T k).length := (List.getElem?_eq_some_iff.1 h2).1
  have htk : (ordK T k).take (k + 1) = (ordK T k).take k ++ [(s.root : Int)] := by rw [List.take_add_one, h2]; rfl
  have hz := getD_some h2
  have hT : T[((ordK T k).getD k 0).toNat]? = some (nodN T s.root) := by
    rw [hz, Int.toNat_natCast]
    unfold nodN
    rw [List.getD_eq_getElem?_getD, List.getElem?_eq_getElem (Pt.fit_root h3)]
    rfl
  cases s with
  | leaf i =>
    have e : ordK T (k + 1) = ordK T k := by
      rw [ordK, stepO, hT]
      show (if (nodN T i).leaf then _ else _) = _
      rw [h3.2.1]
      rfl
    refine ⟨⟨fr, ?_, h4, ?_⟩, ?_, ?_, ?_⟩
    · rw [e]; exact h1
    · rw [e, htk, List.append_assoc]; exact h5
    · rw [e]; omega
    · rw [e]; exact h.par
    · rw [e]; exact h.zero
  | node i a b =>
    have e : ordK T (k + 1) = ordK T k ++ [(a.root : Int), (b.root : Int)] := by
      rw [ordK, stepO, hT]
      show (if (nodN T i).leaf then _ else _ ++ [(nodN T i).kin, (nodN T i).kout]) = _
      rw [h3.1.2.1, h3.1.2.2.2.2.1, h3.1.2.2.2.2.2]
      rfl
    have hgo : ∀ q, q < (ordK T k).length → (ordK T (k + 1)).getD q 0 = (ordK T k).getD q 0 := fun q hq => by
      rw [e, List.getD_eq_getElem?_getD, List.getD_eq_getElem?_getD, List.getElem?_append_left hq]
    refine ⟨⟨fr ++ [a, b], ?_, ?_, ?_⟩, ?_, ?_, ?_⟩
    · rw [e, List.drop_append_of_le_length (by omega), h1, List.map_append]; rfl
    · intro s hs
      rcases List.mem_append.1 hs with hs | hs
      · exact h4 s hs
      · simp only [List.mem_cons, List.not_mem_nil, or_false] at hs
        rcases hs with rfl | rfl
        · exact ⟨_, h3.2.1⟩
        · exact ⟨_, h3.2.2⟩
    · rw [e, List.take_append_of_le_length (by omega), htk]
      refine List.Perm.trans ?_ h5
      rw [List.perm_iff_count]
      intro x
      simp only [List.flatMap_append, List.flatMap_cons, List.flatMap_nil, List.append_nil, List.count_append, Pt.idxI, Pt.idx, List.map_cons, List.map_append, Pt.root, List.count_cons, List.count_nil]
      omega
    · rw [e, List.length_append]; simp; omega
    · intro q hq1 hq2
      by_cases hq : q < (ordK T k).length
      · obtain ⟨q', hq', hp⟩ := h.par q hq1 hq
        exact ⟨q', hq', by rw [hgo q hq, hgo q' (by omega)]; exact hp⟩
      · refine ⟨k, by omega, ?_⟩
        rw [hgo k hkl, hz]
        rw [e, List.length_append] at hq2
        simp only [List.length_cons, List.length_nil] at hq2
        have : q = (ordK T k).length ∨ q = (ordK T k).length + 1 := by omega
        rcases this with rfl | rfl
        · have : (ordK T (k + 1)).getD (ordK T k).length 0 = (a.root : Int) := by
            rw [e, List.getD_eq_getElem?_getD, List.getElem?_append_right (Nat.le_refl _), Nat.sub_self]; rfl
          rw [this, Int.toNat_natCast]
          exact Pt.fit_rpar h3.2.1
        · have : (ordK T (k + 1)).getD ((ordK T k).length + 1) 0 = (b.root : Int) := by
            rw [e, List.getD_eq_getElem?_getD, List.getElem?_append_right (by omega), show (ordK T k).length + 1 - (ordK T k).length = 1 by omega]; rfl
          rw [this, Int.toNat_natCast]
          exact Pt.fit_rpar h3.2.2
    · rw [e, List.getElem?_append_left (by omega)]; exact h.zero
theorem Bfs.all {T : List Vn} {t : Pt} {par : Int} (h : t.fit T par) (hr : t.root = 0) : ∀ k, k ≤ t.idx.length → Bfs T t k
  | 0, _ => by
    refine ⟨⟨[t], ?_, fun s hs => ?_, ?_⟩, Nat.zero_le _, fun q h1 h2 => ?_, rfl⟩
    · show [(0 : Int)] = [(t.root : Int)]
      rw [hr]; rfl
    · simp only [List.mem_singleton] at hs
      subst hs
      exact ⟨par, h⟩
    · simp only [List.take_zero, List.nil_append, List.flatMap_cons, List.flatMap_nil, List.append_nil]
      exact List.Perm.refl _
    · have : (ordK T 0).length = 1 := rfl
      omega
  | k + 1, hk => (Bfs.all h hr k (by omega)).succ (by omega)
/-- The order of a whole tree. -/
structure Ord (T : List Vn) (t : Pt) (N : Nat) : Prop where
  len : (ordK T N).length = N
  lt : ∀ k, k < N → k < (ordK T k).length
  ix : ∀ k, k < N → ∃ j : Nat, (ordK T k).getD k 0 = j ∧ j < T.length
  ix2 : ∀ k, k < N → ∃ j : Nat, (ordK T N).getD k 0 = j ∧ j < T.length
  perm : (ordK T N).Perm t.idxI
  par : ∀ q, 1 ≤ q → q < N → ∃ q', q' < q ∧ (nodN T ((ordK T N).getD q 0).toNat).par = (ordK T N).getD q' 0
  zero : (ordK T N)[0]? = some 0
theorem Ord.of {T : List Vn} {t : Pt} {par : Int} (h : t.fit T par) (hr : t.root = 0) : Ord T t t.idx.length := by
  have hall := Bfs.all h hr
  have hN := hall t.idx.length (Nat.le_refl _)
  obtain ⟨fr, h1, h2, h3⟩ := hN.fr
  have hle := hN.le
  have hl := h3.length_eq
  rw [t.idxI_len, List.length_append, List.length_take] at hl
  have hfr : fr = [] := by
    cases fr with
    | nil => rfl
    | cons s r =>
      have := s.idxI_pos
      rw [List.flatMap_cons, List.length_append] at hl
      omega
  subst hfr
  have hlen : (ordK T t.idx.length).length = t.idx.length := by
    have := congrArg List.length h1
    rw [List.length_drop] at this
    simp only [List.map_nil, List.length_nil] at this
    omega
  have hperm : (ordK T t.idx.length).Perm t.idxI := by
    rw [List.take_of_length_le (by omega)] at h3
    simpa using h3
  refine ⟨hlen, fun k hk => ?_, fun k hk => ?_, fun k hk => ?_, hperm, fun q h1 h2 => hN.par q h1 (by omega), hN.zero⟩
  · obtain ⟨s, fr, p, _, h2, _⟩ := (hall k (by omega)).next hk
    exact (List.getElem?_eq_some_iff.1 h2).1
  · obtain ⟨s, fr, p, _, h2, h3, _⟩ := (hall k (by omega)).next hk
    exact ⟨s.root, getD_some h2, Pt.fit_root h3⟩
  · have hm : (ordK T t.idx.length).getD k 0 ∈ t.idxI := by
      refine hperm.mem_iff.1 ?_
      rw [List.getD_eq_getElem?_getD, List.getElem?_eq_getElem (by omega)]
      exact List.getElem_mem ..
    obtain ⟨j, hj, e⟩ := List.mem_map.1 hm
    exact ⟨j, e.symm, Pt.fit_lt h j hj⟩
end Go.Proofs.Ytlcpfnhindfkfaa
