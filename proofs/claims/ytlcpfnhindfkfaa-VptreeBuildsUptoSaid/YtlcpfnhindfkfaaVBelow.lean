/-
  vptree, plain: what there is below a node of an image.
-/
import Derived.Test.YtlcpfnhindfkfaaVBfs
namespace Go.Proofs.Ytlcpfnhindfkfaa
open Go Go.RowKit Go.WW
theorem getD_eq {l : List Int} {q : Nat} (h : q < l.length) : l.getD q 0 = l[q] := by rw [List.getD_eq_getElem?_getD, List.getElem?_eq_getElem h]; rfl
theorem nodup_at {o : List Int} (hn : o.Nodup) {p q : Nat} (hp : p < o.length) (hq : q < o.length) (h : o.getD p 0 = o.getD q 0) : p = q := by
  rw [getD_eq hp, getD_eq hq] at h
  exact (List.getElem_inj hn).1 h
theorem posN_at {o : List Int} (hn : o.Nodup) : ∀ (k q : Nat), q < k → k ≤ o.length → posN o k (o.getD q 0) = some (q : Int)
  | 0, q, h, _ => by omega
  | k + 1, q, hq, hk => by
    rw [posN, upd]
    by_cases e : q = k
    · subst e
      rw [if_pos rfl]
    · rw [if_neg (fun h => e (nodup_at hn (by omega) (by omega) h))]
      exact posN_at hn k q (by omega) (by omega)
theorem posN_m1 {o : List Int} : ∀ (k : Nat), (∀ q, q < k → o.getD q 0 ≠ -1) → posN o k (-1) = some (-1)
  | 0, _ => by rw [posN, upd]; rfl
  | k + 1, h => by
    rw [posN, upd, if_neg (fun e => h k (by omega) e.symm)]
    exact posN_m1 k (fun q hq => h q (by omega))
/-- Up from a node, as far as it is behind another one. -/
def climbI (I : List Vn) (i : Int) : Nat → Int → Int
  | 0, j => j
  | f + 1, j => if i < j ∧ 0 ≤ j ∧ j < I.length then climbI I i f (nodN I j.toNat).par else j
def belowI (I : List Vn) (i : Int) : Nat → Nat
  | 0 => 0
  | k + 1 => belowI I i k + if climbI I i (k + 1) (k : Int) = i then cntV (nodN I k) else 0
theorem climb_in {I : List Vn} {S : Nat → Prop} {r : Nat} (h : ∀ q, q < I.length → S q → q ≠ r → r < q ∧ ∃ q', q' < q ∧ S q' ∧ (nodN I q).par = (q' : Int)) : ∀ (f q : Nat), q < I.length → S q → q ≤ f → climbI I r f q = r
  | 0, q, hq, hs, hf => by
    by_cases e : q = r
    · rw [climbI, e]
    · have := (h q hq hs e).1
      omega
  | f + 1, q, hq, hs, hf => by
    rw [climbI]
    by_cases e : q = r
    · rw [if_neg (by omega), e]
    · obtain ⟨h1, q', h2, h3, h4⟩ := h q hq hs e
      rw [if_pos (by omega), Int.toNat_natCast, h4]
      exact climb_in h f q' (by omega) h3 (by omega)
theorem climb_out {I : List Vn} {S : Nat → Prop} {r : Nat} (hr : S r) (h : ∀ q, q < I.length → ¬ S q → r < q → ∃ q', q' < I.length ∧ ¬ S q' ∧ (nodN I q).par = (q' : Int)) : ∀ (f q : Nat), q < I.length → ¬ S q → climbI I r f q ≠ r
  | 0, q, hq, hs => by
    rw [climbI]
    intro e
    have : q = r := by omega
    subst this
    exact hs hr
  | f + 1, q, hq, hs => by
    rw [climbI]
    by_cases e : r < q
    · obtain ⟨q', h2, h3, h4⟩ := h q hq hs e
      rw [if_pos (by omega), Int.toNat_natCast, h4]
      exact climb_out hr h f q' h2 h3
    · rw [if_neg (by omega)]
      intro e
      have : q = r := by omega
      subst this
      exact hs hr
theorem belowI_sum {I : List Vn} {S : Nat → Prop} [DecidablePred S] {r : Nat} (hr : S r)
    (h1 : ∀ q, q < I.length → S q → q ≠ r → r < q ∧ ∃ q', q' < q ∧ S q' ∧ (nodN I q).par = (q' : Int))
    (h2 : ∀ q, q < I.length → ¬ S q → r < q → ∃ q', q' < I.length ∧ ¬ S q' ∧ (nodN I q).par = (q' : Int)) :
    ∀ k, k ≤ I.length → belowI I r k = (((List.range k).filter (fun q => decide (S q))).map (fun q => cntV (nodN I q))).sum
  | 0, _ => rfl
  | k + 1, hk => by
    rw [belowI, belowI_sum hr h1 h2 k (by omega), List.range_succ, List.filter_append, List.map_append, List.sum_append_nat]
    congr 1
    by_cases hs : S k
    · rw [if_pos (climb_in h1 (k + 1) k (by omega) hs (by omega)), List.filter_cons, if_pos (by simpa using hs)]
      simp
    · rw [if_neg (climb_out hr h2 (k + 1) k (by omega) hs), List.filter_cons, if_neg (by simpa using hs)]
      rfl
section
variable {T : List Vn} {t : Pt} {N : Nat}
theorem Ord.nodup (h : Ord T t N) (hn : t.idx.Nodup) : (ordK T N).Nodup := by
  refine (h.perm.nodup_iff).2 ?_
  unfold Pt.idxI
  exact List.Pairwise.map _ (fun a b hab e => hab (by omega)) hn
theorem Ord.mem (h : Ord T t N) {q : Nat} (hq : q < N) : ∃ j ∈ t.idx, (ordK T N).getD q 0 = (j : Int) := by
  have hl := h.len
  have hm : (ordK T N).getD q 0 ∈ t.idxI := by
    refine h.perm.mem_iff.1 ?_
    rw [getD_eq (by omega)]
    exact List.getElem_mem ..
  obtain ⟨j, hj, e⟩ := List.mem_map.1 hm
  exact ⟨j, hj, e.symm⟩
theorem Ord.at (h : Ord T t N) {j : Nat} (hj : j ∈ t.idx) : ∃ q, q < N ∧ (ordK T N).getD q 0 = (j : Int) := by
  have hl := h.len
  have hm : (j : Int) ∈ ordK T N := h.perm.mem_iff.2 (List.mem_map.2 ⟨j, hj, rfl⟩)
  obtain ⟨q, hq, e⟩ := List.getElem_of_mem hm
  exact ⟨q, by omega, by rw [getD_eq hq, e]⟩
theorem Ord.zeroD (h : Ord T t N) : (ordK T N).getD 0 0 = 0 := getD_some h.zero
theorem img_len (h : Ord T t N) : (imgL T (ordK T N) N).length = N := by
  unfold imgL
  rw [List.length_map, List.length_take, h.len]
  omega
theorem img_at (h : Ord T t N) {q : Nat} (hq : q < N) : nodN (imgL T (ordK T N) N) q = imgN (posN (ordK T N) N) (nodN T ((ordK T N).getD q 0).toNat) := by
  have hl := h.len
  unfold imgL nodN
  rw [hl, List.take_of_length_le (by omega), List.getD_eq_getElem?_getD, List.getElem?_map, List.getElem?_eq_getElem (by omega), getD_eq (by omega)]
  rfl
theorem img_par (h : Ord T t N) (hn : t.idx.Nodup) {q : Nat} (h1 : 1 ≤ q) (hq : q < N) : ∃ q', q' < q ∧ (nodN T ((ordK T N).getD q 0).toNat).par = (ordK T N).getD q' 0 ∧ (nodN (imgL T (ordK T N) N) q).par = (q' : Int) := by
  have hl := h.len
  obtain ⟨q', hq', e⟩ := h.par q h1 hq
  refine ⟨q', hq', e, ?_⟩
  rw [img_at h hq]
  show (posN (ordK T N) N (nodN T ((ordK T N).getD q 0).toNat).par).getD 0 = _
  rw [e, posN_at (h.nodup hn) N q' (by omega) (by omega)]
  rfl
theorem img_par0 (h : Ord T t N) (hN : 0 < N) (hr : (nodN T 0).par = -1) : (nodN (imgL T (ordK T N) N) 0).par = -1 := by
  rw [img_at h hN, h.zeroD]
  show (posN (ordK T N) N (nodN T (0 : Int).toNat).par).getD 0 = _
  rw [show (0 : Int).toNat = 0 from rfl, hr, posN_m1 N (fun q hq e => by
    obtain ⟨j, _, e2⟩ := h.mem hq
    omega)]
  rfl
/-- What is below one of the root's two. -/
theorem below_sub (h : Ord T t N) (hn : t.idx.Nodup) (s s' : Pt) (hs : s.fit T (0 : Nat)) (hs' : s'.fit T (0 : Nat)) (hmem : ∀ j ∈ t.idx, j = 0 ∨ j ∈ s.idx ∨ j ∈ s'.idx) (hsub : ∀ j ∈ s.idx, j ∈ t.idx) (h0 : 0 ∉ s.idx) (hdis : ∀ j ∈ s.idx, j ∉ s'.idx) (hsn : s.idx.Nodup) :
    ∃ r : Nat, 1 ≤ r ∧ r < N ∧ posN (ordK T N) N s.root = some (r : Int) ∧ belowI (imgL T (ordK T N) N) r N = sumT T s.idx := by
  have hl := h.len
  have hil := img_len h
  obtain ⟨r, hr, er⟩ := h.at (hsub _ s.root_mem)
  have hon := h.nodup hn
  have hr1 : 1 ≤ r := by
    rcases Nat.eq_zero_or_pos r with e | e
    · subst e
      rw [h.zeroD] at er
      have : s.root = 0 := by omega
      exact absurd (this ▸ s.root_mem) h0
    · exact e
  have hpos : posN (ordK T N) N s.root = some (r : Int) := by rw [← er]; exact posN_at hon N r hr (by omega)
  refine ⟨r, hr1, hr, hpos, ?_⟩
  have inS : ∀ q, q < N → ((ordK T N).getD q 0 ∈ s.idxI) → q ≠ r → ∃ q', q' < q ∧ (ordK T N).getD q' 0 ∈ s.idxI ∧ (nodN (imgL T (ordK T N) N) q).par = (q' : Int) := by
    intro q hq hS hqr
    obtain ⟨j, hj, ej⟩ := List.mem_map.1 hS
    have hq1 : 1 ≤ q := by
      rcases Nat.eq_zero_or_pos q with e | e
      · subst e
        rw [h.zeroD] at ej
        have : j = 0 := by omega
        exact absurd (this ▸ hj) h0
      · exact e
    obtain ⟨q', h1, h2, h3⟩ := img_par h hn hq1 hq
    refine ⟨q', h1, ?_, h3⟩
    have hjr : j ≠ s.root := fun e => hqr (nodup_at hon (by omega) (by omega) (by rw [er, ← ej, e]))
    obtain ⟨p, hp, ep⟩ := Pt.fit_par hs j hj hjr
    rw [← ej, Int.toNat_natCast, ep] at h2
    rw [← h2]
    exact List.mem_map.2 ⟨p, hp, rfl⟩
  have hrS : (ordK T N).getD r 0 ∈ s.idxI := by rw [er]; exact List.mem_map.2 ⟨_, s.root_mem, rfl⟩
  have hmin : ∀ n q, q ≤ n → q < N → (ordK T N).getD q 0 ∈ s.idxI → r ≤ q := by
    intro n
    induction n with
    | zero =>
      intro q h1 h2 h3
      rcases Nat.decEq q r with e | e
      · obtain ⟨q', h4, _⟩ := inS q h2 h3 e
        omega
      · omega
    | succ n ih =>
      intro q h1 h2 h3
      rcases Nat.decEq q r with e | e
      · obtain ⟨q', h4, h5, _⟩ := inS q h2 h3 e
        have := ih q' (by omega) (by omega) h5
        omega
      · omega
  have key := belowI_sum (I := imgL T (ordK T N) N) (S := fun q => (ordK T N).getD q 0 ∈ s.idxI) (r := r) hrS (fun q hq hS hqr => by
      have hq' : q < N := by omega
      have := hmin q q (Nat.le_refl _) hq' hS
      exact ⟨by omega, inS q hq' hS hqr⟩) (fun q hq hS hrq => by
      have hq' : q < N := by omega
      obtain ⟨j, hj, ej⟩ := h.mem hq'
      have hj0 : j ≠ 0 := fun e => by
        have : q = 0 := nodup_at hon (by omega) (by omega) (by rw [ej, h.zeroD, e]; rfl)
        omega
      have hjs : j ∉ s.idx := fun hm => hS (by rw [ej]; exact List.mem_map.2 ⟨j, hm, rfl⟩)
      have hj' : j ∈ s'.idx := by
        rcases hmem j hj with e | e | e
        · exact absurd e hj0
        · exact absurd e hjs
        · exact e
      obtain ⟨q', h1, h2, h3⟩ := img_par h hn (by omega) hq'
      refine ⟨q', by omega, fun hm => ?_, h3⟩
      obtain ⟨p', hp', ep'⟩ := List.mem_map.1 hm
      rw [ej, Int.toNat_natCast] at h2
      rcases Nat.decEq j s'.root with e | e
      · obtain ⟨p, hp, ep⟩ := Pt.fit_par hs' j hj' e
        rw [ep] at h2
        have : p' = p := by
          have : (p' : Int) = (p : Int) := ep'.trans h2.symm
          omega
        subst this
        exact hdis _ hp' hp
      · have e2 := Pt.fit_rpar hs'
        rw [← e] at e2
        rw [e2] at h2
        have : p' = 0 := by
          have : (p' : Int) = ((0 : Nat) : Int) := ep'.trans h2.symm
          omega
        subst this
        exact h0 hp') N (by omega)
  rw [key]
  have e1 : ((List.range N).filter (fun q => decide ((ordK T N).getD q 0 ∈ s.idxI))).map (fun q => cntV (nodN (imgL T (ordK T N) N) q)) = ((ordK T N).filter (fun i => decide (i ∈ s.idxI))).map (fun i => cntV (nodN T i.toNat)) := by
    have eo : ordK T N = (List.range N).map (fun q => (ordK T N).getD q 0) := by
      refine List.ext_getElem (by rw [hl, List.length_map, List.length_range]) (fun i h1 h2 => ?_)
      rw [List.getElem_map, List.getElem_range, getD_eq h1]
    have e2 : (ordK T N).filter (fun i => decide (i ∈ s.idxI)) = ((List.range N).filter (fun q => decide ((ordK T N).getD q 0 ∈ s.idxI))).map (fun q => (ordK T N).getD q 0) := by
      have := List.filter_map (f := fun q => (ordK T N).getD q 0) (p := fun i => decide (i ∈ s.idxI)) (l := List.range N)
      rw [← eo] at this
      exact this
    rw [e2, List.map_map]
    refine List.map_congr_left (fun q hq => ?_)
    have hq' : q < N := List.mem_range.1 (List.mem_filter.1 hq).1
    rw [img_at h hq']
    rfl
  rw [e1]
  have hp : ((ordK T N).filter (fun i => decide (i ∈ s.idxI))).Perm s.idxI := by
    refine (List.perm_ext_iff_of_nodup (List.Pairwise.filter _ hon) (List.Pairwise.map _ (fun a b hab e => hab (by omega)) hsn)).2 (fun a => ?_)
    rw [List.mem_filter]
    constructor
    · rintro ⟨_, h2⟩
      exact of_decide_eq_true h2
    · intro h2
      refine ⟨h.perm.mem_iff.2 ?_, decide_eq_true h2⟩
      obtain ⟨j, hj, e⟩ := List.mem_map.1 h2
      exact List.mem_map.2 ⟨j, hsub j hj, e⟩
  rw [(hp.map (fun i => cntV (nodN T i.toNat))).sum_nat]
  unfold Pt.idxI sumT
  rw [List.map_map]
  rfl
end
end Go.Proofs.Ytlcpfnhindfkfaa
