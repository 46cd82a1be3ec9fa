/-
  vptree: Depth.
-/
import Derived.Test.YtlcpfnhindfkfaaVord
import Derived.Test.YtlcpfnhindfkfaaMapI
namespace Go.Proofs.Ytlcpfnhindfkfaa
open Go Go.RowKit Go.WW
def parO (l : List Vn) (i : Int) : Int := match l[i.toNat]? with
  | some n => n.par
  | none => 0
/-- How deep the first so many nodes of an order are. -/
def depM (l : List Vn) (o : List Int) : Nat → (Int → Option Int) × Int
  | 0 => (upd (fun _ => none) (-1) (some 0), 0)
  | k + 1 => (upd (depM l o k).1 (o.getD k 0) (some (((depM l o k).1 (parO l (o.getD k 0))).getD 0 + 1)), max (depM l o k).2 (((depM l o k).1 (parO l (o.getD k 0))).getD 0 + 1))
theorem depM_bd (l : List Vn) (o : List Int) (k : Nat) : ∀ y v, (depM l o k).1 y = some v → 0 ≤ v ∧ v ≤ k := by
  induction k with
  | zero =>
    intro y v h
    simp only [depM, upd] at h
    split at h
    · injection h with h; omega
    · cases h
  | succ k ih =>
    intro y v h
    simp only [depM, upd] at h
    split at h
    · injection h with h
      cases hg : (depM l o k).1 (parO l (o.getD k 0)) with
      | none => rw [hg] at h; simp at h; omega
      | some u =>
        have := ih _ _ hg
        rw [hg] at h
        simp at h
        omega
    · have := ih y v h
      omega
theorem depM_dom (l : List Vn) (o : List Int) (k : Nat) : ∀ y, (depM l o k).1 y ≠ none → y ∈ (-1) :: (List.range k).map (fun j => o.getD j 0) := by
  induction k with
  | zero =>
    intro y h
    simp only [depM, upd] at h
    split at h
    · rename_i e; simp [e]
    · exact absurd rfl h
  | succ k ih =>
    intro y h
    simp only [depM, upd] at h
    rw [List.range_succ, List.map_append, ← List.cons_append]
    split at h
    · rename_i e
      exact List.mem_append_right _ (by simp [e])
    · exact List.mem_append_left _ (ih y h)
set_option maxRecDepth 100000 in
set_option maxHeartbeats 4000000 in
theorem vdepth_any {own : Nat → Prop} {w : World} {t mt : Nat} {m most calls : Int} {l : List Vn} {gone : Int} {f : Int → Option Int} (h : VT own w t mt m most calls l gone f) (hl : 0 < l.length) (hll : l.length ≤ 1000000) (N : Nat) (hNl : N ≤ 1000000) (hN : (ordK l N).length = N) (hlt : ∀ k, k < N → k < (ordK l k).length) (hix : ∀ k, k < N → ∃ j : Nat, (ordK l k).getD k 0 = j ∧ j < l.length) (hix2 : ∀ k, k < N → ∃ j : Nat, (ordK l N).getD k 0 = j ∧ j < l.length) :
    Calls Try.prog 17 #[.pointer (some ⟨t, 0, none⟩)] w fun r w' => r = .returned (.int .i64 (depM l (ordK l N) N).2) ∧ Below w.heap.size w w' := by
  have hmm := @run_makeMap Try.prog
  have hM0 : MapI Try.prog 3 3 (w.alloc (.map #[] 0)) w.heap.size (fun _ => none) := MapI.made w Try.prog 3 3
  obtain ⟨w1, hrun, hM1, hG1⟩ := hM0.store (t := 77) Try.underlying3 Try.underlying3 Try.underlying77 (x := -1) (v := 0) (by decide) (by decide) (L := []) (fun y _ hy => absurd rfl hy) (by decide)
  have hB1 : Below w.heap.size w w1 := ((Below.refl _ w).alloc (Nat.le_refl _) _).grown hG1 (by simp) (fun k hk => by cases hk; exact Nat.le_refl _)
  have hord := vorder_any (h.below hB1) hl N hNl hN hlt hix
  have HH := Lib.hid (And.intro h (And.intro hN (And.intro hix2 (And.intro hM1 hB1)))); clear h hN hlt hix hix2 hM0 hM1 hG1 hB1
  go_enter Try.func17, Try.ntmps17
  go_wp2_with fail
  refine hord.mono ?_
  clear hord hrun hmm
  rintro er w2 ⟨v2, rfl, hO2, hB2⟩
  obtain ⟨Ao, co, hvo⟩ := hO2.slice
  subst hvo
  have hNn := HH.out.2.1
  rw [hNn] at hO2 ⊢
  obtain ⟨O, hOd⟩ : ∃ O, O = ordK l N := ⟨_, rfl⟩
  rw [← hOd] at hO2 hNn
  have hM2 := HH.out.2.2.2.1.kept (hB2.block _ HH.out.2.2.2.1.lt)
  have hBw2 := HH.out.2.2.2.2.trans (hB2.mono HH.out.2.2.2.2.size)
  have hix2 := HH.out.2.2.1
  rw [← hOd] at hix2
  have hs1 : w.heap.size < w1.heap.size := HH.out.2.2.2.1.lt
  have H2 := Lib.hid (And.intro hO2 (And.intro hM2 (And.intro hBw2 (And.intro hix2 (And.intro hOd (And.intro hNn hs1)))))); clear hO2 hM2 hBw2 hix2 hOd hNn hB2 hs1
  go_wp2_with fail
  go_loopw [3, 6, 12] (fun vm _ vk wr => ∃ k : Nat, vk = .int .i64 k ∧ k ≤ N ∧ vm = .int .i64 (depM l O k).2 ∧ MapI Try.prog 3 3 wr w.heap.size (depM l O k).1 ∧ OwnRow intR 3 0 w1.heap.size wr (.slice Ao N co) O ∧ Below w.heap.size w wr) (fun _ _ vk _ => N - (intOf vk).toNat)
  case atStart => exact ⟨0, rfl, Nat.zero_le _, rfl, H2.out.2.1, H2.out.1, H2.out.2.2.1⟩
  case round =>
    obtain ⟨k, rfl, hk, rfl, hM, hO, hB⟩ := hrel
    by_cases hlt3 : k < N
    · obtain ⟨j, hj, hjl⟩ := H2.out.2.2.2.1 k hlt3
      have hT := HH.out.1.below hB
      obtain ⟨lv, mb, hrow, hOl, _, _, _⟩ := hT.mem
      obtain ⟨lb, cap, hlv, _, hlb, hc1, hc2, _, hat⟩ := hOl.at (by rintro rfl; simp at hjl)
      subst hlv
      obtain ⟨cs, hcs, hc⟩ := hat j hjl
      obtain ⟨vb, vv, rfl, hrb, hri, hok⟩ := vnR_iff.1 hcs
      have d7 := hc 7 _ rfl
      rw [show vnR.sz = 14 from rfl] at d7
      have hlj : (j : Int) < l.length := by omega
      have hkO : k < O.length := by rw [H2.out.2.2.2.2.2.1]; exact hlt3
      obtain ⟨go', capo, hvo, hgo1, hgol, _, _, _, hato⟩ := hO.at (by intro e; rw [e] at hkO; simp at hkO)
      injection hvo with e1 e2 e3
      clear e2 e3
      subst e1
      obtain ⟨cso, hcso, hco⟩ := hato k hkO
      obtain ⟨rfl, _⟩ := hcso
      have do0 := hco 0 _ rfl
      rw [show intR.sz = 1 from rfl] at do0
      simp only [Nat.mul_one, Nat.add_zero] at do0
      have hgk : O[k] = (j : Int) := by rw [← hj, List.getD_eq_getElem?_getD, List.getElem?_eq_getElem hkO]; rfl
      rw [hgk] at do0
      have hz : (k : Int) < N := by omega
      have crow := hrow.cell
      have hrl := hrow.lt
      have hpar : parO l (O.getD k 0) = l[j].par := by unfold parO; rw [hj, Int.toNat_natCast, List.getElem?_eq_getElem hjl]
      obtain ⟨u, hlook, hu1, hu2⟩ := hM.look (t := 77) Try.underlying3 Try.underlying3 Try.underlying77 (zero_int wr) hok.par
      have hu : u = ((depM l O k).1 (parO l (O.getD k 0))).getD 0 := by
        rw [hpar]
        cases hg : (depM l O k).1 l[j].par with
        | none => exact hu2 hg
        | some y => exact hu1 y hg
      have hub : 0 ≤ u ∧ u ≤ 1000000 := by
        rw [hu]
        cases hg : (depM l O k).1 (parO l (O.getD k 0)) with
        | none => exact ⟨Int.le_refl _, by decide⟩
        | some y => have := depM_bd l O k _ _ hg; exact ⟨this.1, by simp; omega⟩
      obtain ⟨w5, hrun5, hM5, hG5⟩ := hM.store (t := 77) Try.underlying3 Try.underlying3 Try.underlying77 (x := (j : Int)) (v := u + 1) (bd_wf ⟨by omega, by omega⟩) (bd_wf ⟨by omega, by omega⟩) (L := (-1) :: (List.range k).map (fun j => O.getD j 0)) (fun y _ hy => depM_dom l O k y hy) (by simp [maxLen]; omega)
      obtain ⟨u5, hlook5, hu5, _⟩ := hM5.look (t := 77) Try.underlying3 Try.underlying3 Try.underlying77 (zero_int w5) (x := (j : Int)) (bd_wf ⟨by omega, by omega⟩)
      have he5 : u5 = u + 1 := hu5 (u + 1) (by unfold upd; rw [if_pos rfl])
      subst he5
      have hst : depM l O (k + 1) = (upd (depM l O k).1 (j : Int) (some (u + 1)), max (depM l O k).2 (u + 1)) := by rw [depM, ← hu, hj]
      have hs1 := H2.out.2.2.2.2.2.2
      have hO5 := hO.grown hG5 (fun g _ => by rintro (h | ⟨_, _, _, _, h⟩) <;> first | omega | simp [Rd.int] at h) (.inr (fun e => by injection e with e; have e : go' = w.heap.size := e; omega))
      have hB5 := hB.grown hG5 hB.size (fun g hg => by cases hg; exact Nat.le_refl _)
      generalize hd2 : (depM l O k).2 = d2 at *
      generalize hpp : l[j].par = pp at *
      have HR := Lib.hid (And.intro hst (And.intro hM5 (And.intro hO5 (And.intro hB5 hk)))); clear hst hM5 hO5 hB5 hk hM hO hB hT hrow hOl hat hcs hc hrb hri hok hato hco hgk hu hu1 hu2 hu5 hG5 hpar hd2 hpp hj
      go_wp2_with fail
      obtain ⟨hst, hM5, hO5, hB5, hk⟩ := HR.out
      exact ⟨⟨k + 1, by go_num, by omega, by rw [hst], by rw [hst]; exact hM5, hO5, hB5⟩, by simp [intOf]; omega⟩
    · obtain rfl : k = N := by omega
      have HR := Lib.hid hB; clear hB hM hO
      go_wp2_with fail
      go_ret
      have hOd := H2.out.2.2.2.2.1
      rw [← hOd]
      exact ⟨rfl, HR.out⟩
end Go.Proofs.Ytlcpfnhindfkfaa
