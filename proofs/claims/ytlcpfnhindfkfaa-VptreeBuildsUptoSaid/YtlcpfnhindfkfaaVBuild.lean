/-
  vptree, plain: which tree build makes, as its image tells.
-/
import Derived.Test.YtlcpfnhindfkfaaVBelow
namespace Go.Proofs.Ytlcpfnhindfkfaa
open Go Go.RowKit Go.WW
theorem mem_set_or {L : List Vn} {i : Nat} {a x : Vn} (h : x ∈ L.set i a) : x ∈ L ∨ x = a := List.mem_or_eq_of_mem_set h
theorem buildN_all {P : Vn → Prop} {m most : Int} {src : List Int} (hm : 1 ≤ most) (h0 : P vn0) (l0 : List It) (hleaf : ∀ (par : Int) (l : List It), (∀ x ∈ l, x ∈ l0) → l.length ≤ l0.length → P (leafV par l)) (hvan : ∀ (x : It) (par p q : Int) (a b : Int × Int), x ∈ l0 → P (vanV x par p q a b)) :
    ∀ (n : Nat) (L : List Vn) (u i : Nat) (par : Int) (l : List It), (∀ x ∈ L, P x) → (∀ x ∈ l, x ∈ l0) → l.length ≤ l0.length → ∀ x ∈ (buildN m most src n L u i par l).1, P x
  | 0, L, u, i, par, l, hL, hl, hll, x, hx => by
    rw [buildN] at hx
    rcases mem_set_or hx with h | rfl
    · exact hL x h
    · exact hleaf par l hl hll
  | n + 1, L, u, i, par, l, hL, hl, hll, x, hx => by
    by_cases hle : (l.length : Int) ≤ most
    · rw [buildN_leaf hle] at hx
      rcases mem_set_or hx with h | rfl
      · exact hL x h
      · exact hleaf par l hl hll
    · rw [buildN_split hle rfl rfl rfl rfl] at hx
      have hv := pick_lt (src := src) (u := u) (n := l.length) (by omega)
      have hfl := farsN_len1 m l _ hv
      have hfm : ∀ y ∈ farsN m l (pickI src u l.length).toNat l.length, 0 ≤ y.pl ∧ y.pl.toNat < l.length := fun y hy => by
        obtain ⟨j, h1, h2⟩ := farsN_mem hy
        omega
      generalize (pickI src u l.length).toNat = v at hv hfl hfm hx
      generalize farsN m l v l.length = F at hfl hfm hx
      have hhl := halveF_len F (F.length / 2)
      have pA := pickF_len l (halveF F (F.length / 2)).1
      have pB := pickF_len l (halveF F (F.length / 2)).2
      have mA : ∀ y ∈ pickF l (halveF F (F.length / 2)).1, y ∈ l0 := fun y hy => hl y (pickF_mem (fun z hz => hfm z (halveF_mem (.inl hz))) hy)
      have mB : ∀ y ∈ pickF l (halveF F (F.length / 2)).2, y ∈ l0 := fun y hy => hl y (pickF_mem (fun z hz => hfm z (halveF_mem (.inr hz))) hy)
      refine buildN_all hm h0 l0 hleaf hvan n _ _ _ _ _ (buildN_all hm h0 l0 hleaf hvan n _ _ _ _ _ (fun y hy => ?_) mA (by omega)) mB (by omega) x hx
      rcases mem_set_or hy with h | rfl
      · rcases List.mem_append.1 h with h | h
        · rcases List.mem_append.1 h with h | h
          · exact hL y h
          · simp only [List.mem_singleton] at h
            rw [h]
            exact h0
        · simp only [List.mem_singleton] at h
          rw [h]
          exact h0
      · refine hvan _ _ _ _ _ _ (hl _ ?_)
        rw [itD_eq hv]
        exact List.getElem_mem ..
/-- What the image tells of the root. -/
structure Told (l : List It) (v : Nat) (I : List Vn) (N r r' : Nat) : Prop where
  len : I.length = N
  few : N ≤ 1 + 2 * l.length
  pos : 0 < N
  leaf : (nodN I 0).leaf = false
  van : (nodN I 0).van = itD l v
  kin : (nodN I 0).kin = (r : Int)
  kout : (nodN I 0).kout = (r' : Int)
  le : (nodN I 0).ih ≤ (nodN I 0).ol
  inn : belowI I r N = (l.length - 1) / 2
  all : belowI I r N + belowI I r' N + 1 = l.length
  par : ∀ q, q < N → (nodN I q).par < q ∧ -1 ≤ (nodN I q).par
theorem told_of {m most : Int} {src : List Int} (hm : 1 ≤ most) (l : List It) (hle : ¬ (l.length : Int) ≤ most) (hd : ∀ i j, i < l.length → j < l.length → 0 ≤ distO m (itD l i).ob (itD l j).ob) :
    ∀ n, l.length ≤ n → ∃ (N r r' : Nat) (t : Pt), Ord (buildN m most src n [vn0] 0 0 (-1) l).1 t N ∧ Told l (pickI src 0 l.length).toNat (imgL (buildN m most src n [vn0] 0 0 (-1) l).1 (ordK (buildN m most src n [vn0] 0 0 (-1) l).1 N) N) N r r'
  | 0, h => by omega
  | n + 1, h => by
    rw [buildN_split hle rfl rfl rfl rfl]
    have hv := pick_lt (src := src) (u := 0) (n := l.length) (by omega)
    have hfl := farsN_len1 m l _ hv
    have hfn := farsN_nodup m l (pickI src 0 l.length).toNat l.length
    have hfd : ∀ y ∈ farsN m l (pickI src 0 l.length).toNat l.length, 0 ≤ y.ds := fun y hy => by
      obtain ⟨j, h1, h2⟩ := farsN_ds hy
      rw [h2]
      exact hd _ _ hv h1
    generalize (pickI src 0 l.length).toNat = v at hv hfl hfn hfd ⊢
    generalize farsN m l v l.length = F at hfl hfn hfd ⊢
    have hk : F.length / 2 < F.length := by omega
    have hhl := halveF_len F (F.length / 2)
    have hh1 := halveF_len1 hfn hk
    have hbd := halveF_bnd hk hfd
    have pA := pickF_len l (halveF F (F.length / 2)).1
    have pB := pickF_len l (halveF F (F.length / 2)).2
    generalize (halveF F (F.length / 2)).1 = A at hhl hh1 hbd pA ⊢
    generalize (halveF F (F.length / 2)).2 = B at hhl hbd pB ⊢
    obtain ⟨ta, h1⟩ := buildN_fit m most src hm n (([vn0] ++ [vn0] ++ [vn0]).set 0 (vanV (itD l v) (-1) [vn0].length ([vn0].length + 1) (bndN A) (bndN B))) (0 + 1) [vn0].length (0 : Nat) (pickF l A) (by omega) (by simp)
    have hl1 := h1.len
    rw [List.length_set, List.length_append, List.length_append] at hl1
    simp only [List.length_singleton] at hl1
    generalize buildN m most src n (([vn0] ++ [vn0] ++ [vn0]).set 0 (vanV (itD l v) (-1) [vn0].length ([vn0].length + 1) (bndN A) (bndN B))) (0 + 1) [vn0].length (0 : Nat) (pickF l A) = R1 at h1 hl1 ⊢
    obtain ⟨tb, h2⟩ := buildN_fit m most src hm n R1.1 R1.2 ([vn0].length + 1) (0 : Nat) (pickF l B) (by omega) (by simp; omega)
    generalize (buildN m most src n R1.1 R1.2 ([vn0].length + 1) (0 : Nat) (pickF l B)).1 = T at h2 ⊢
    obtain ⟨hF, hn0, hsA⟩ := FitR.node (L := [vn0]) (i := 0) (par := -1) (by simp) h1 h2
    have hO := Ord.of hF.fit hF.root
    have hnd := hF.nodup
    have hfew := hF.few
    obtain ⟨hnd0, hndab⟩ := List.nodup_cons.1 hnd
    obtain ⟨na, nb, nab⟩ := List.nodup_append.1 hndab
    obtain ⟨r, hr1, hr2, hr3, hr4⟩ := below_sub hO hnd ta tb hF.fit.2.1 hF.fit.2.2 (fun j hj => by
      rcases List.mem_cons.1 hj with h | h
      · exact .inl h
      · exact .inr (List.mem_append.1 h)) (fun j hj => List.mem_cons_of_mem _ (List.mem_append_left _ hj)) (fun h => hnd0 (List.mem_append_left _ h)) (fun j hj hj' => nab j hj j hj' rfl) na
    obtain ⟨r', hq1, hq2, hq3, hq4⟩ := below_sub hO hnd tb ta hF.fit.2.2 hF.fit.2.1 (fun j hj => by
      rcases List.mem_cons.1 hj with h | h
      · exact .inl h
      · exact .inr ((List.mem_append.1 h).symm)) (fun j hj => List.mem_cons_of_mem _ (List.mem_append_right _ hj)) (fun h => hnd0 (List.mem_append_right _ h)) (fun j hj hj' => nab j hj' j hj rfl) nb
    generalize hNe : (Pt.node 0 ta tb).idx.length = N at *
    have hN0 : 0 < N := by omega
    have himg : nodN (imgL T (ordK T N) N) 0 = imgN (posN (ordK T N) N) (vanV (itD l v) (-1) [vn0].length ([vn0].length + 1) (bndN A) (bndN B)) := by
      rw [img_at hO hN0, hO.zeroD, show (0 : Int).toNat = 0 from rfl, hn0]
    rw [h1.root] at hr3
    rw [h2.root] at hq3
    refine ⟨N, r, r', _, hO, img_len hO, by omega, hN0, by rw [himg]; rfl, by rw [himg]; rfl, ?_, ?_, by rw [himg]; exact hbd, ?_, ?_, ?_⟩
    · rw [himg]
      show (posN (ordK T N) N (([vn0].length : Nat) : Int)).getD 0 = _
      rw [hr3]
      rfl
    · rw [himg]
      show (posN (ordK T N) N (([vn0].length + 1 : Nat) : Int)).getD 0 = _
      rw [hq3]
      rfl
    · rw [hr4, hsA]
      omega
    · rw [hr4, hsA, hq4, h2.sum]
      omega
    · intro q hq
      rcases Nat.eq_zero_or_pos q with e | e
      · subst e
        rw [img_par0 hO hN0 (by rw [hn0]; rfl)]
        omega
      · obtain ⟨q', h1, _, h3⟩ := img_par hO hnd e hq
        rw [h3]
        omega
/-- A leaf alone. -/
theorem told_leaf {m most : Int} {src : List Int} (l : List It) (hle : (l.length : Int) ≤ most) (n : Nat) : (buildN m most src n [vn0] 0 0 (-1) l).1 = [leafV (-1) l] ∧ Ord [leafV (-1) l] (.leaf 0) 1 ∧ (imgL [leafV (-1) l] (ordK [leafV (-1) l] 1) 1).length = 1 ∧ (nodN (imgL [leafV (-1) l] (ordK [leafV (-1) l] 1) 1) 0).leaf = true := by
  have hO : Ord [leafV (-1) l] (.leaf 0) 1 := Ord.of (t := .leaf 0) (par := -1) ⟨by simp, rfl, rfl⟩ rfl
  refine ⟨by rw [buildN_leaf hle]; rfl, hO, img_len hO, ?_⟩
  rw [img_at hO (by omega), hO.zeroD]
  rfl
end Go.Proofs.Ytlcpfnhindfkfaa
