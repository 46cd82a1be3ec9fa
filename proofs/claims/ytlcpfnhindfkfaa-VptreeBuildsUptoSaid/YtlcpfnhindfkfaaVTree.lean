/-
  vptree, plain: the nodes that build makes are a tree; what order does of it.
-/
import Derived.Test.YtlcpfnhindfkfaaVHalf
import Derived.Test.YtlcpfnhindfkfaaVimg
namespace Go.Proofs.Ytlcpfnhindfkfaa
open Go Go.RowKit Go.WW
/-- A tree of places. -/
inductive Pt where
  | leaf (i : Nat)
  | node (i : Nat) (a b : Pt)
def Pt.root : Pt → Nat
  | .leaf i => i
  | .node i _ _ => i
def Pt.idx : Pt → List Nat
  | .leaf i => [i]
  | .node i a b => i :: (a.idx ++ b.idx)
theorem Pt.root_mem (t : Pt) : t.root ∈ t.idx := by
  cases t <;> exact List.mem_cons_self
def nodN (T : List Vn) (i : Nat) : Vn := T.getD i vn0
/-- A tree's nodes lie at its places. -/
def Pt.fit (T : List Vn) : Pt → Int → Prop
  | .leaf i, par => i < T.length ∧ (nodN T i).leaf = true ∧ (nodN T i).par = par
  | .node i a b, par => (i < T.length ∧ (nodN T i).leaf = false ∧ (nodN T i).gone = false ∧ (nodN T i).par = par ∧ (nodN T i).kin = a.root ∧ (nodN T i).kout = b.root) ∧ a.fit T i ∧ b.fit T i
def cntV (n : Vn) : Nat := if n.leaf then n.bucket.length else if n.gone then 0 else 1
def sumT (T : List Vn) (S : List Nat) : Nat := (S.map (fun i => cntV (nodN T i))).sum
theorem nodN_congr {T T' : List Vn} {j : Nat} (h : T'[j]? = T[j]?) : nodN T' j = nodN T j := by unfold nodN; rw [List.getD_eq_getElem?_getD, List.getD_eq_getElem?_getD, h]
theorem lt_congr {T T' : List Vn} {j : Nat} (h : T'[j]? = T[j]?) (hj : j < T.length) : j < T'.length := by
  rw [List.getElem?_eq_getElem hj] at h
  exact (List.getElem?_eq_some_iff.1 h).1
theorem Pt.fit_congr {T T' : List Vn} : ∀ {t : Pt} {par : Int}, (∀ j ∈ t.idx, T'[j]? = T[j]?) → t.fit T par → t.fit T' par
  | .leaf i, par, h, ⟨h1, h2⟩ => by
    have := h i List.mem_cons_self
    refine ⟨lt_congr this h1, ?_⟩
    rw [nodN_congr this]
    exact h2
  | .node i a b, par, h, ⟨⟨h1, h2⟩, ha, hb⟩ => by
    have := h i List.mem_cons_self
    refine ⟨⟨lt_congr this h1, ?_⟩, Pt.fit_congr (fun j hj => h j ?_) ha, Pt.fit_congr (fun j hj => h j ?_) hb⟩
    · rw [nodN_congr this]
      exact h2
    · exact List.mem_cons_of_mem _ (List.mem_append_left _ hj)
    · exact List.mem_cons_of_mem _ (List.mem_append_right _ hj)
theorem sumT_congr {T T' : List Vn} {S : List Nat} (h : ∀ j ∈ S, T'[j]? = T[j]?) : sumT T' S = sumT T S := by
  unfold sumT
  congr 1
  exact List.map_congr_left (fun j hj => by rw [nodN_congr (h j hj)])
theorem sumT_append (T : List Vn) (A B : List Nat) : sumT T (A ++ B) = sumT T A + sumT T B := by unfold sumT; rw [List.map_append, List.sum_append_nat]
theorem Pt.fit_lt {T : List Vn} : ∀ {t : Pt} {par : Int}, t.fit T par → ∀ j ∈ t.idx, j < T.length
  | .leaf i, par, h, j, hj => by
    simp only [Pt.idx, List.mem_singleton] at hj
    rw [hj]
    exact h.1
  | .node i a b, par, h, j, hj => by
    rcases List.mem_cons.1 hj with rfl | hj
    · exact h.1.1
    · rcases List.mem_append.1 hj with hj | hj
      · exact Pt.fit_lt h.2.1 j hj
      · exact Pt.fit_lt h.2.2 j hj
/-- Each but the root has its parent in the tree. -/
theorem Pt.fit_par {T : List Vn} : ∀ {t : Pt} {par : Int}, t.fit T par → ∀ j ∈ t.idx, j ≠ t.root → ∃ p ∈ t.idx, (nodN T j).par = (p : Int)
  | .leaf i, par, h, j, hj, hn => by
    simp only [Pt.idx, List.mem_singleton] at hj
    exact absurd hj hn
  | .node i a b, par, h, j, hj, hn => by
    have iha := Pt.fit_par h.2.1
    have ihb := Pt.fit_par h.2.2
    have key : ∀ (s : Pt), s.fit T i → (∀ j ∈ s.idx, j ≠ s.root → ∃ p ∈ s.idx, (nodN T j).par = (p : Int)) → (∀ p ∈ s.idx, p ∈ (Pt.node i a b).idx) → j ∈ s.idx → ∃ p ∈ (Pt.node i a b).idx, (nodN T j).par = (p : Int) := by
      intro s hs ih hin hj
      by_cases hr : j = s.root
      · refine ⟨i, List.mem_cons_self, ?_⟩
        subst hr
        cases s with
        | leaf k => exact hs.2.2
        | node k c d => exact hs.1.2.2.2.1
      · obtain ⟨p, hp, e⟩ := ih j hj hr
        exact ⟨p, hin p hp, e⟩
    rcases List.mem_cons.1 hj with rfl | hj
    · exact absurd rfl hn
    · rcases List.mem_append.1 hj with hj | hj
      · exact key a h.2.1 iha (fun p hp => List.mem_cons_of_mem _ (List.mem_append_left _ hp)) hj
      · exact key b h.2.2 ihb (fun p hp => List.mem_cons_of_mem _ (List.mem_append_right _ hp)) hj
theorem Pt.fit_rpar {T : List Vn} {t : Pt} {par : Int} (h : t.fit T par) : (nodN T t.root).par = par := by
  cases t with
  | leaf k => exact h.2.2
  | node k c d => exact h.1.2.2.2.1
/-- What build makes of a place. -/
structure FitR (L L' : List Vn) (i : Nat) (par : Int) (c : Nat) (t : Pt) : Prop where
  keep : ∀ j, j < L.length → j ≠ i → L'[j]? = L[j]?
  root : t.root = i
  fit : t.fit L' par
  nodup : t.idx.Nodup
  low : ∀ j ∈ t.idx, j = i ∨ L.length ≤ j
  few : t.idx.length ≤ 1 + 2 * c
  sum : sumT L' t.idx = c
  len : L.length ≤ L'.length
theorem FitR.leaf (L : List Vn) (i : Nat) (par : Int) (l : List It) (hi : i < L.length) : FitR L (L.set i (leafV par l)) i par l.length (.leaf i) := by
  have hn : nodN (L.set i (leafV par l)) i = leafV par l := by unfold nodN; rw [List.getD_eq_getElem?_getD, List.getElem?_set_self hi]; rfl
  refine ⟨fun j _ hj => List.getElem?_set_ne (Ne.symm hj), rfl, ⟨by rw [List.length_set]; exact hi, by rw [hn]; rfl, by rw [hn]; rfl⟩, by simp [Pt.idx], fun j hj => .inl (by simpa [Pt.idx] using hj), by simp [Pt.idx], ?_, by rw [List.length_set]; exact Nat.le_refl _⟩
  unfold sumT Pt.idx
  simp only [List.map_cons, List.map_nil, List.sum_cons, List.sum_nil, hn]
  rfl
theorem FitR.node {L L2 L3 : List Vn} {i : Nat} {par : Int} {x : It} {ba bb : Int × Int} {a b : Nat} {ta tb : Pt} (hi : i < L.length)
    (h1 : FitR ((L ++ [vn0] ++ [vn0]).set i (vanV x par L.length (L.length + 1) ba bb)) L2 L.length i a ta) (h2 : FitR L2 L3 (L.length + 1) i b tb) :
    FitR L L3 i par (1 + a + b) (.node i ta tb) ∧ nodN L3 i = vanV x par L.length (L.length + 1) ba bb ∧ sumT L3 ta.idx = a := by
  have hl1 : ((L ++ [vn0] ++ [vn0]).set i (vanV x par L.length (L.length + 1) ba bb)).length = L.length + 2 := by simp
  have hl2 : L.length + 2 ≤ L2.length := by have := h1.len; omega
  have hl3 := h2.len
  have hk : ∀ j, j < L.length → j ≠ i → L3[j]? = L[j]? := fun j hj hji => by
    rw [h2.keep j (by omega) (by omega), h1.keep j (by omega) (by omega), List.getElem?_set_ne (Ne.symm hji), List.append_assoc, List.getElem?_append_left hj]
  have hroot : L3[i]? = some (vanV x par L.length (L.length + 1) ba bb) := by
    rw [h2.keep i (by omega) (by omega), h1.keep i (by omega) (by omega), List.getElem?_set_self (by simp; omega)]
  have hn : nodN L3 i = vanV x par L.length (L.length + 1) ba bb := by unfold nodN; rw [List.getD_eq_getElem?_getD, hroot]; rfl
  have hA : ∀ j ∈ ta.idx, L3[j]? = L2[j]? := fun j hj => h2.keep j (Pt.fit_lt h1.fit j hj) (by
    rcases h1.low j hj with h | h <;> omega)
  have hAl := Pt.fit_lt h1.fit
  have hsA : sumT L3 ta.idx = a := by rw [sumT_congr hA, h1.sum]
  have hc : cntV (vanV x par L.length (L.length + 1) ba bb) = 1 := rfl
  refine ⟨⟨hk, rfl, ⟨⟨(List.getElem?_eq_some_iff.1 hroot).1, by rw [hn]; rfl, by rw [hn]; rfl, by rw [hn]; rfl, by rw [hn, h1.root]; rfl, by rw [hn, h2.root]; rfl⟩, Pt.fit_congr hA h1.fit, h2.fit⟩, ?_, ?_, ?_, ?_, by omega⟩, hn, hsA⟩
  · refine List.nodup_cons.2 ⟨fun hm => ?_, List.nodup_append.2 ⟨h1.nodup, h2.nodup, fun u hu v hv e => ?_⟩⟩
    · rcases List.mem_append.1 hm with h | h
      · rcases h1.low i h with h | h <;> omega
      · rcases h2.low i h with h | h <;> omega
    · subst e
      have := hAl u hu
      rcases h1.low u hu with h | h <;> rcases h2.low u hv with h' | h' <;> omega
  · intro j hj
    rcases List.mem_cons.1 hj with rfl | hj
    · exact .inl rfl
    · rcases List.mem_append.1 hj with h | h
      · rcases h1.low j h with h | h <;> exact .inr (by omega)
      · rcases h2.low j h with h | h <;> exact .inr (by omega)
  · have e1 := h1.few
    have e2 := h2.few
    simp only [Pt.idx, List.length_cons, List.length_append]
    omega
  · show sumT L3 ([i] ++ (ta.idx ++ tb.idx)) = _
    rw [sumT_append, sumT_append, hsA, h2.sum]
    have : sumT L3 [i] = 1 := by unfold sumT; simp only [List.map_cons, List.map_nil, List.sum_cons, List.sum_nil, hn]; rfl
    rw [this]
    omega
theorem farsN_len1 (m : Int) (l : List It) (v : Nat) (hv : v < l.length) : (farsN m l v l.length).length = l.length - 1 := by rw [farsN_len_eq, if_pos hv]
theorem pick_lt {src : List Int} {u n : Nat} (h : 0 < n) : (pickI src u n).toNat < n := by
  have hp := modI_bd (x := if src = [] then 0 else src.getD (u % src.length) 0) (n := (n : Int)) (by omega)
  unfold pickI
  omega
theorem buildN_fit (m most : Int) (src : List Int) (hm : 1 ≤ most) : ∀ (n : Nat) (L : List Vn) (u i : Nat) (par : Int) (l : List It), l.length ≤ n → i < L.length → ∃ t, FitR L (buildN m most src n L u i par l).1 i par l.length t
  | 0, L, u, i, par, l, h, hi => ⟨_, by rw [buildN]; exact FitR.leaf L i par l hi⟩
  | n + 1, L, u, i, par, l, h, hi => by
    by_cases hle : (l.length : Int) ≤ most
    · exact ⟨_, by rw [buildN_leaf hle]; exact FitR.leaf L i par l hi⟩
    · rw [buildN_split hle rfl rfl rfl rfl]
      have hv := pick_lt (src := src) (u := u) (n := l.length) (by omega)
      have hfl := farsN_len1 m l _ hv
      have hhl := halveF_len (farsN m l (pickI src u l.length).toNat l.length) ((farsN m l (pickI src u l.length).toNat l.length).length / 2)
      generalize (pickI src u l.length).toNat = v at hv hfl hhl ⊢
      generalize farsN m l v l.length = F at hfl hhl ⊢
      have pA := pickF_len l (halveF F (F.length / 2)).1
      have pB := pickF_len l (halveF F (F.length / 2)).2
      generalize (halveF F (F.length / 2)).1 = A at hhl pA ⊢
      generalize (halveF F (F.length / 2)).2 = B at hhl pB ⊢
      obtain ⟨ta, h1⟩ := buildN_fit m most src hm n ((L ++ [vn0] ++ [vn0]).set i (vanV (itD l v) par L.length (L.length + 1) (bndN A) (bndN B))) (u + 1) L.length i (pickF l A) (by omega) (by rw [List.length_set, List.length_append, List.length_append]; simp only [List.length_singleton]; omega)
      have hl1 := h1.len
      rw [List.length_set, List.length_append, List.length_append] at hl1
      simp only [List.length_singleton] at hl1
      generalize buildN m most src n ((L ++ [vn0] ++ [vn0]).set i (vanV (itD l v) par L.length (L.length + 1) (bndN A) (bndN B))) (u + 1) L.length i (pickF l A) = R1 at h1 hl1 ⊢
      obtain ⟨ta2, h2⟩ := buildN_fit m most src hm n R1.1 R1.2 (L.length + 1) i (pickF l B) (by omega) (by omega)
      have h := (FitR.node hi h1 h2).1
      rw [show 1 + (pickF l A).length + (pickF l B).length = l.length by omega] at h
      exact ⟨_, h⟩
end Go.Proofs.Ytlcpfnhindfkfaa
