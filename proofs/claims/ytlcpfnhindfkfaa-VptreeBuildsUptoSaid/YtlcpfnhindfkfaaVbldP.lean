/-
  vptree: what build makes of a list of things (plain).
-/
import Derived.Test.YtlcpfnhindfkfaaVpick
namespace Go.Proofs.Ytlcpfnhindfkfaa
open Go Go.RowKit Go.WW
/-- A node with a vantage. -/
def vanV (x : It) (par kin kout : Int) (a b : Int × Int) : Vn := ⟨false, [], x, false, par, kin, kout, a.1, a.2, b.1, b.2⟩
def buildN (m most : Int) (src : List Int) : Nat → List Vn → Nat → Nat → Int → List It → List Vn × Nat
  | 0, L, u, i, par, l => (L.set i (leafV par l), u)
  | n + 1, L, u, i, par, l =>
    if (l.length : Int) ≤ most then (L.set i (leafV par l), u)
    else
      (fun v => (fun h : List Fa × List Fa => (fun r : List Vn × Nat => buildN m most src n r.1 r.2 (L.length + 1) i (pickF l h.2))
        (buildN m most src n ((L ++ [vn0] ++ [vn0]).set i (vanV (itD l v) par L.length (L.length + 1) (bndN h.1) (bndN h.2))) (u + 1) L.length i (pickF l h.1)))
        (halveF (farsN m l v l.length) ((farsN m l v l.length).length / 2))) (pickI src u l.length).toNat
theorem farsN_len_eq (m : Int) (l : List It) (v k : Nat) : (farsN m l v k).length = if v < k then k - 1 else k := by
  induction k with
  | zero => rfl
  | succ k ih =>
    rw [farsN, List.length_append, ih]
    by_cases h : k = v
    · subst h
      rw [if_pos rfl, if_neg (by omega), if_pos (by omega)]
      simp
    · rw [if_neg h]
      by_cases h2 : v < k
      · rw [if_pos h2, if_pos (by omega)]
        simp
        omega
      · rw [if_neg h2, if_neg (by omega)]
        simp
theorem farsN_mem {m : Int} {l : List It} {v k : Nat} {x : Fa} (h : x ∈ farsN m l v k) : ∃ j : Nat, x.pl = j ∧ j < k := by
  induction k with
  | zero => cases h
  | succ k ih =>
    rw [farsN] at h
    rcases List.mem_append.1 h with h | h
    · obtain ⟨j, h1, h2⟩ := ih h
      exact ⟨j, h1, by omega⟩
    · split at h
      · cases h
      · simp only [List.mem_singleton] at h
        subst h
        exact ⟨k, rfl, by omega⟩
theorem halveF_mem {l : List Fa} {k : Nat} {x : Fa} (h : x ∈ (halveF l k).1 ∨ x ∈ (halveF l k).2) : x ∈ l := by
  unfold halveF at h
  split at h
  · rcases h with h | h <;> exact (List.mem_filter.1 h).1
  · rcases h with h | h
    · exact h
    · cases h
theorem halveF_len (l : List Fa) (k : Nat) : (halveF l k).1.length + (halveF l k).2.length = l.length := by
  unfold halveF
  split
  · simp only
    induction l with
    | nil => rfl
    | cons y r ih =>
      generalize nthF (y :: r) k = p
      clear ih
      rename_i hk
      clear hk
      induction (y :: r) with
      | nil => rfl
      | cons z s ih2 =>
        rw [List.filter_cons, List.filter_cons]
        cases ltF z p <;> simp <;> omega
  · simp
theorem pickF_len (l : List It) (f : List Fa) : (pickF l f).length = f.length := by unfold pickF; rw [List.length_map]
theorem pickF_mem {l : List It} {f : List Fa} (hf : ∀ x ∈ f, 0 ≤ x.pl ∧ x.pl.toNat < l.length) {y : It} (h : y ∈ pickF l f) : y ∈ l := by
  unfold pickF at h
  obtain ⟨x, hx, rfl⟩ := List.mem_map.1 h
  rw [itD_eq (hf x hx).2]
  exact List.getElem_mem ..
theorem bndK_wf {l : List Fa} (h : ∀ x ∈ l, okF x) (hn : l ≠ []) (k : Nat) : wfI (bndK l k).1 ∧ wfI (bndK l k).2 := by
  have h0 : okF (l.getD 0 ⟨0, 0⟩) := by
    cases l with
    | nil => exact absurd rfl hn
    | cons x r => exact h x List.mem_cons_self
  induction k with
  | zero => exact ⟨h0.2, h0.2⟩
  | succ k ih =>
    by_cases hk : k < l.length
    · rw [bndK_succ hk]
      have hx := (h _ (List.getElem_mem hk)).2
      refine ⟨?_, ?_⟩
      · rcases (show min (bndK l k).1 l[k].ds = (bndK l k).1 ∨ min (bndK l k).1 l[k].ds = l[k].ds by omega) with e | e <;> rw [show (min (bndK l k).1 l[k].ds, max (bndK l k).2 l[k].ds).1 = min (bndK l k).1 l[k].ds from rfl, e]
        · exact ih.1
        · exact hx
      · rcases (show max (bndK l k).2 l[k].ds = (bndK l k).2 ∨ max (bndK l k).2 l[k].ds = l[k].ds by omega) with e | e <;> rw [show (min (bndK l k).1 l[k].ds, max (bndK l k).2 l[k].ds).2 = max (bndK l k).2 l[k].ds from rfl, e]
        · exact ih.2
        · exact hx
    · have : bndK l (k + 1) = bndK l k := by unfold bndK; rw [List.take_of_length_le (by omega), List.take_of_length_le (by omega)]
      rw [this]
      exact ih
theorem bndN_wf {l : List Fa} (h : ∀ x ∈ l, okF x) : wfI (bndN l).1 ∧ wfI (bndN l).2 := by
  unfold bndN
  split
  · unfold wfI; decide
  · rename_i hn
    exact bndK_wf h hn _
theorem buildN_leaf {m most : Int} {src : List Int} {n : Nat} {L : List Vn} {u i : Nat} {par : Int} {l : List It} (h : (l.length : Int) ≤ most) : buildN m most src n L u i par l = (L.set i (leafV par l), u) := by
  cases n with
  | zero => rfl
  | succ n => rw [buildN, if_pos h]
theorem buildN_split {m most : Int} {src : List Int} {n : Nat} {L : List Vn} {u i : Nat} {par : Int} {l : List It} (h : ¬ (l.length : Int) ≤ most) {v : Nat} {F A B : List Fa} (hv : (pickI src u l.length).toNat = v) (hF : farsN m l v l.length = F) (hA : (halveF F (F.length / 2)).1 = A) (hB : (halveF F (F.length / 2)).2 = B) :
    buildN m most src (n + 1) L u i par l = buildN m most src n (buildN m most src n ((L ++ [vn0] ++ [vn0]).set i (vanV (itD l v) par L.length (L.length + 1) (bndN A) (bndN B))) (u + 1) L.length i (pickF l A)).1
      (buildN m most src n ((L ++ [vn0] ++ [vn0]).set i (vanV (itD l v) par L.length (L.length + 1) (bndN A) (bndN B))) (u + 1) L.length i (pickF l A)).2 (L.length + 1) i (pickF l B) := by
  subst hv hF hA hB
  rw [buildN, if_neg h]
/-- How long, how many used. -/
theorem buildN_bd (m most : Int) (src : List Int) (hm : 1 ≤ most) : ∀ (n : Nat) (L : List Vn) (u i : Nat) (par : Int) (l : List It), l.length ≤ n → L.length ≤ (buildN m most src n L u i par l).1.length ∧ (buildN m most src n L u i par l).1.length ≤ L.length + 2 * l.length ∧ (buildN m most src n L u i par l).2 ≤ u + l.length
  | 0, L, u, i, par, l, h => by rw [buildN]; simp
  | n + 1, L, u, i, par, l, h => by
    by_cases hle : (l.length : Int) ≤ most
    · rw [buildN_leaf hle]; simp
    · have hp := modI_bd (x := if src = [] then 0 else src.getD (u % src.length) 0) (n := (l.length : Int)) (by omega)
      have hv : (pickI src u l.length).toNat < l.length := by unfold pickI; omega
      have hfl := farsN_len_eq m l (pickI src u l.length).toNat l.length
      rw [if_pos hv] at hfl
      rw [buildN_split hle rfl rfl rfl rfl]
      have hh := halveF_len (farsN m l (pickI src u l.length).toNat l.length) ((farsN m l (pickI src u l.length).toNat l.length).length / 2)
      generalize farsN m l (pickI src u l.length).toNat l.length = F at *
      generalize hA : (halveF F (F.length / 2)).1 = A at *
      generalize hB : (halveF F (F.length / 2)).2 = B at *
      have h1 := buildN_bd m most src hm n ((L ++ [vn0] ++ [vn0]).set i (vanV (itD l (pickI src u l.length).toNat) par L.length (L.length + 1) (bndN A) (bndN B))) (u + 1) L.length i (pickF l A) (by rw [pickF_len]; omega)
      generalize buildN m most src n ((L ++ [vn0] ++ [vn0]).set i (vanV (itD l (pickI src u l.length).toNat) par L.length (L.length + 1) (bndN A) (bndN B))) (u + 1) L.length i (pickF l A) = r at *
      have h2 := buildN_bd m most src hm n r.1 r.2 (L.length + 1) i (pickF l B) (by rw [pickF_len]; omega)
      rw [pickF_len] at h1 h2
      simp only [List.length_set, List.length_append, List.length_singleton] at h1
      omega
end Go.Proofs.Ytlcpfnhindfkfaa
