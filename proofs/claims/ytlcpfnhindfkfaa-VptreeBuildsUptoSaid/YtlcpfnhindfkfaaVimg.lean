/-
  vptree: Image.
-/
import Derived.Test.YtlcpfnhindfkfaaVdep
namespace Go.Proofs.Ytlcpfnhindfkfaa
open Go Go.RowKit Go.WW
/-- Where the first so many nodes of an order stand in it. -/
def posN (o : List Int) : Nat → Int → Option Int
  | 0 => upd (fun _ => none) (-1) (some (-1))
  | k + 1 => upd (posN o k) (o.getD k 0) (some (k : Int))
theorem posN_bd (o : List Int) (k : Nat) : ∀ y v, posN o k y = some v → -1 ≤ v ∧ v < k := by
  induction k with
  | zero =>
    intro y v h
    simp only [posN, upd] at h
    split at h
    · injection h with h; omega
    · cases h
  | succ k ih =>
    intro y v h
    simp only [posN, upd] at h
    split at h
    · injection h with h; omega
    · have := ih y v h; omega
theorem posN_dom (o : List Int) (k : Nat) : ∀ y, posN o k y ≠ none → y ∈ (-1) :: (List.range k).map (fun j => o.getD j 0) := by
  induction k with
  | zero =>
    intro y h
    simp only [posN, upd] at h
    split at h
    · rename_i e; simp [e]
    · exact absurd rfl h
  | succ k ih =>
    intro y h
    simp only [posN, upd] at h
    rw [List.range_succ, List.map_append, ← List.cons_append]
    split at h
    · rename_i e
      exact List.mem_append_right _ (by simp [e])
    · exact List.mem_append_left _ (ih y h)
/-- A node of the image. -/
def imgN (p : Int → Option Int) (n : Vn) : Vn := ⟨n.leaf, n.bucket, n.van, n.gone, (p n.par).getD 0, if n.leaf then n.kin else (p n.kin).getD 0, if n.leaf then n.kout else (p n.kout).getD 0, n.il, n.ih, n.ol, n.oh⟩
def nodO (l : List Vn) (i : Int) : Vn := l.getD i.toNat vn0
def imgL (l : List Vn) (o : List Int) (k : Nat) : List Vn := (o.take k).map (fun i => imgN (posN o o.length) (nodO l i))
theorem wf_m1 {d : Int} (h : -1 ≤ d ∧ d ≤ 9007199254740992) : (Lit.int .i64 d).wf = true := by
  by_cases e : d = -1
  · rw [e]; decide
  · exact bd_wf ⟨by omega, h.2⟩
/-- A node's cells. -/
abbrev vnB (b : Bool) (x : Vn) (vb vv : Value) (u ki ko : Int) : List Value := [.bool b, vb, .int .u64 x.van.id, .int .i64 x.van.ob.tag, vv, .string x.van.ob.str, .bool x.gone, .int .i64 u, .int .i64 ki, .int .i64 ko, .int .i64 x.il, .int .i64 x.ih, .int .i64 x.ol, .int .i64 x.oh]
abbrev vnC (x : Vn) (vb vv : Value) (u ki ko : Int) : List Value := vnB x.leaf x vb vv u ki ko
abbrev img0V : List Value := [nilS, nilS, nilS, .int .i64 0, nilS, nilS]
set_option maxRecDepth 100000 in
set_option maxHeartbeats 8000000 in
theorem vimage_any {own : Nat → Prop} {w : World} {t mt : Nat} {m most calls : Int} {l : List Vn} {gone : Int} {f : Int → Option Int} (h : VT own w t mt m most calls l gone f) (hl : 0 < l.length) (hll : l.length ≤ 100000) (hsh : ∀ n ∈ l, Short n.van.ob ∧ ∀ x ∈ n.bucket, Short x.ob) (hbl : ∀ n ∈ l, n.bucket.length ≤ 1000000) (N : Nat) (hNl : N ≤ 1000000) (hN : (ordK l N).length = N) (hlt : ∀ k, k < N → k < (ordK l k).length) (hix : ∀ k, k < N → ∃ j : Nat, (ordK l k).getD k 0 = j ∧ j < l.length) (hix2 : ∀ k, k < N → ∃ j : Nat, (ordK l N).getD k 0 = j ∧ j < l.length) :
    Calls Try.prog 11 #[.pointer (some ⟨t, 0, none⟩)] w fun r w' => ∃ v, r = .returned (.agg #[nilS, v, nilS, .int .i64 0, nilS, nilS]) ∧ OwnRow vnR 55 0 w.heap.size w' v (imgL l (ordK l N) N) ∧ Below w.heap.size w w' := by
  have hmm := @run_makeMap Try.prog
  obtain ⟨W0, hW0⟩ : ∃ W0, W0 = ((w.alloc (.cells img0V.toArray 52)).alloc (.cells img0V.toArray 52)) := ⟨_, rfl⟩
  have hB0 : Below w.heap.size w W0 := by rw [hW0]; exact ((Below.refl _ w).alloc (Nat.le_refl _) _).alloc (by simp) _
  have i0 : IRow 52 W0 w.heap.size img0V := by rw [hW0]; exact (IRow.new w _ _).alloc _
  have i1 : IRow 52 W0 (w.heap.size + 1) img0V := by
    have := IRow.new (w.alloc (.cells img0V.toArray 52)) img0V 52
    rw [World.size_alloc] at this
    rw [hW0]
    exact this
  have hsW : W0.heap.size = w.heap.size + 1 + 1 := by rw [hW0]; simp
  have hM0 : MapI Try.prog 3 3 (W0.alloc (.map #[] 0)) W0.heap.size (fun _ => none) := MapI.made W0 Try.prog 3 3
  obtain ⟨w1, hrun, hM1, hG1⟩ := hM0.store (t := 77) Try.underlying3 Try.underlying3 Try.underlying77 (x := -1) (v := -1) (by decide) (by decide) (L := []) (fun y _ hy => absurd rfl hy) (by decide)
  have hB1 : Below W0.heap.size W0 w1 := ((Below.refl _ W0).alloc (Nat.le_refl _) _).grown hG1 (by simp) (fun k hk => by cases hk; exact Nat.le_refl _)
  have hBw1 := hB0.trans (hB1.mono hB0.size)
  have hord := vorder_any (h.below hBw1) hl N hNl hN hlt hix
  have j0 := i0.kept (hB1.block _ i0.lt)
  have j1 := i1.kept (hB1.block _ i1.lt)
  rw [hW0] at hrun
  simp only [World.size_alloc] at hrun
  rw [hsW] at hM1
  have HH := Lib.hid (And.intro h (And.intro hN (And.intro hix2 (And.intro hM1 (And.intro hBw1 (And.intro j0 (And.intro j1 (And.intro hsh hbl)))))))); clear h hN hlt hix hix2 hM0 hM1 hG1 hB1 hBw1 i0 i1 j0 j1 hsh hbl hB0 hW0 hsW
  go_enter Try.func11, Try.ntmps11
  go_wp2_with fail
  refine hord.mono ?_
  clear hord hrun hmm
  rintro er w2 ⟨v2, rfl, hO2, hB2⟩
  obtain ⟨Ao, co, hvo⟩ := hO2.slice
  subst hvo
  have hNn := HH.out.2.1
  rw [hNn] at hO2 ⊢
  obtain ⟨O, hOd⟩ : ∃ O, O = ordK l N := ⟨_, rfl⟩
  rw [← hOd] at hO2 hNn
  have hM2 := HH.out.2.2.2.1.kept (hB2.block _ HH.out.2.2.2.1.lt)
  have hBw2 := HH.out.2.2.2.2.1.trans (hB2.mono HH.out.2.2.2.2.1.size)
  have hix2 := HH.out.2.2.1
  rw [← hOd] at hix2
  have hs1 : w.heap.size + 1 + 1 < w1.heap.size := HH.out.2.2.2.1.lt
  have j0 := HH.out.2.2.2.2.2.1.kept (hB2.block _ HH.out.2.2.2.2.2.1.lt)
  have j1 := HH.out.2.2.2.2.2.2.1.kept (hB2.block _ HH.out.2.2.2.2.2.2.1.lt)
  have H2 := Lib.hid (And.intro hO2 (And.intro hM2 (And.intro hBw2 (And.intro hix2 (And.intro hOd (And.intro hNn (And.intro hs1 (And.intro j0 j1)))))))); clear hO2 hM2 hBw2 hix2 hOd hNn hB2 hs1 j0 j1
  go_wp2_with fail
  go_loopw [6, 7, 19] (fun _ _ vk wr => ∃ k : Nat, vk = .int .i64 k ∧ k ≤ N ∧ MapI Try.prog 3 3 wr (w.heap.size + 1 + 1) (posN O k) ∧ w2.grownBy wr (some (w.heap.size + 1 + 1))) (fun _ _ vk _ => N - (intOf vk).toNat)
  case atStart => exact ⟨0, rfl, Nat.zero_le _, H2.out.2.1, gb_drewN w2 0 _⟩
  case round =>
    obtain ⟨k, rfl, hk, hM, hG⟩ := hrel
    by_cases hlt3 : k < N
    · obtain ⟨j, hj, hjl⟩ := H2.out.2.2.2.1 k hlt3
      have hkO : k < O.length := by rw [H2.out.2.2.2.2.2.1]; exact hlt3
      have hs1 := H2.out.2.2.2.2.2.2.1
      have hO := H2.out.1.grown hG (fun g _ => by rintro (h | ⟨_, _, _, _, h⟩) <;> first | omega | simp [Rd.int] at h) (.inr (fun e => by have := (H2.out.1.lt _ e).1; omega))
      obtain ⟨go', capo, hvo, hgo1, hgol, _, _, _, hato⟩ := hO.at (by intro e; rw [e] at hkO; simp at hkO)
      injection hvo with e1 e2 e3
      clear e2 e3
      subst e1
      obtain ⟨cso, hcso, hco⟩ := hato k hkO
      obtain ⟨rfl, _⟩ := hcso
      have do0 := hco 0 _ rfl
      rw [show intR.sz = 1 from rfl] at do0
      simp only [Nat.mul_one, Nat.add_zero] at do0
      have hgk : O[k] = (j : Int) := by rw [← hj, List.getD_eq_getElem?_getD, List.getElem?_eq_getElem hkO]; rfl
      rw [hgk] at do0
      have hz : (k : Int) < N := by omega
      obtain ⟨w5, hrun5, hM5, hG5⟩ := hM.store (t := 77) Try.underlying3 Try.underlying3 Try.underlying77 (x := (j : Int)) (v := (k : Int)) (bd_wf ⟨by omega, by omega⟩) (bd_wf ⟨by omega, by omega⟩) (L := (-1) :: (List.range k).map (fun j => O.getD j 0)) (fun y _ hy => posN_dom O k y hy) (by simp [maxLen]; omega)
      have hst : posN O (k + 1) = upd (posN O k) (j : Int) (some (k : Int)) := by rw [posN, hj]
      have HR := Lib.hid (And.intro hst (And.intro hM5 (And.intro (hG.trans hG5) hk))); clear hst hM5 hG5 hG hk hM hO hato hco hgk hj hs1
      go_wp2_with fail
      obtain ⟨hst, hM5, hG5, hk⟩ := HR.out
      exact ⟨⟨k + 1, by go_num, by omega, by rw [hst]; exact hM5, hG5⟩, by simp [intOf]; omega⟩
    · obtain rfl : k = N := by omega
      have HR := Lib.hid (And.intro hM hG); clear hM hG
      go_wp2_with fail
      obtain ⟨hM, hG⟩ := HR.out
      have hs1 := H2.out.2.2.2.2.2.2.1
      have hOm := H2.out.1.grown hG (fun g _ => by rintro (h | ⟨_, _, _, _, h⟩) <;> first | omega | simp [Rd.int] at h) (.inr (fun e => by have := (H2.out.1.lt _ e).1; omega))
      have hBm : Below w.heap.size w wr := H2.out.2.2.1.grown hG H2.out.2.2.1.size (fun g hg => by cases hg; omega)
      have jm0 := H2.out.2.2.2.2.2.2.2.1.kept (hG.block _ H2.out.2.2.2.2.2.2.2.1.lt (fun e => by injection e with e; omega))
      have jm1 := H2.out.2.2.2.2.2.2.2.2.kept (hG.block _ H2.out.2.2.2.2.2.2.2.2.lt (fun e => by injection e with e; omega))
      have hTm := HH.out.1.below hBm
      have hsm : w.heap.size + 1 + 1 < wr.heap.size := hM.lt
      obtain ⟨Wm, hWm⟩ : ∃ Wm, Wm = wr := ⟨_, rfl⟩
      rw [← hWm] at hM hOm hBm jm0 jm1 hTm hsm ⊢
      have HM := Lib.hid (And.intro hM (And.intro hOm (And.intro hBm (And.intro jm0 (And.intro jm1 (And.intro hTm hsm)))))); clear hM hOm hBm jm0 jm1 hTm hsm hG HR hs1 hWm
      go_loopw [9, 10, 12, 30, 60] (fun _ _ _ vk _ wr => ∃ (q : Nat) (vI : Value), vk = .int .i64 q ∧ q ≤ k ∧ IRow 52 wr (w.heap.size + 1) [nilS, vI, nilS, .int .i64 0, nilS, nilS] ∧ OwnRow vnR 55 0 Wm.heap.size wr vI (imgL l O q) ∧ Fr (fun g => g = w.heap.size + 1) Wm wr) (fun _ _ _ vk _ _ => k - (intOf vk).toNat)
      case atStart => exact ⟨0, _, rfl, Nat.zero_le _, HM.out.2.2.2.2.1, OwnRow.nil .., Fr.refl _ _⟩
      case round =>
        obtain ⟨q, vI, rfl, hq, hI, hOI, hF⟩ := hrel
        by_cases hlt4 : q < k
        · obtain ⟨j, hj, hjl⟩ := H2.out.2.2.2.1 q hlt4
          have hNn := H2.out.2.2.2.2.2.1
          have hqO : q < O.length := by rw [hNn]; exact hlt4
          have hs1 := H2.out.2.2.2.2.2.2.1
          have hBm := HM.out.2.2.1
          have hsm := HM.out.2.2.2.2.2.2
          have hBw : Below w.heap.size w wr := hBm.trans (hF.toB (b := w.heap.size) (fun g hg => by omega) hBm.size)
          have hM := HM.out.1.kept (hF.block _ HM.out.1.lt (fun e => by omega))
          have hO := HM.out.2.1.keep (hF.kp (fun g _ => by rintro (h | ⟨_, _, _, _, h⟩) <;> first | omega | simp [Rd.int] at h)) (fun g hg => hF.block g (HM.out.2.1.lt g hg).2 (fun e => by have := (HM.out.2.1.lt g hg).1; omega))
          have hT := HH.out.1.below hBw
          obtain ⟨lv, mb, hrow, hOl, _, _, _⟩ := hT.mem
          obtain ⟨lb, cap, hlv, _, hlb, hc1, hc2, _, hat⟩ := hOl.at (by rintro rfl; simp at hjl)
          subst hlv
          obtain ⟨cs, hcs, hc⟩ := hat j hjl
          obtain ⟨vb, vv, rfl, hrb, hri, hok⟩ := vnR_iff.1 hcs
          obtain ⟨Ab, cb, rfl, hrb2⟩ : ∃ A c, vb = .slice A l[j].bucket.length c ∧ RdRow itR 34 0 wr (.slice A l[j].bucket.length c) l[j].bucket := by obtain ⟨A, c, e, h⟩ := hrb; subst e; exact ⟨A, c, rfl, A, c, rfl, h⟩
          obtain ⟨Av, nv, cv, rfl⟩ : ∃ A n c, vv = .slice A n c := by
            obtain ⟨v', hv', _, h2⟩ := itR_iff.1 hri
            simp only [List.cons.injEq] at hv'
            obtain ⟨-, -, hv', -⟩ := hv'
            subst hv'
            obtain ⟨v', hv2, _, hr, _⟩ := obR_iff.1 h2
            simp only [List.cons.injEq, and_true, true_and] at hv2
            subst hv2
            obtain ⟨A, c, e, _⟩ := hr.at
            exact ⟨A, _, c, e⟩
          have d0 := hc 0 _ rfl
          have d1 := hc 1 _ rfl
          have d2 := hc 2 _ rfl
          have d3 := hc 3 _ rfl
          have d4 := hc 4 _ rfl
          have d5 := hc 5 _ rfl
          have d6 := hc 6 _ rfl
          have d7 := hc 7 _ rfl
          have d8 := hc 8 _ rfl
          have d9 := hc 9 _ rfl
          have d10 := hc 10 _ rfl
          have d11 := hc 11 _ rfl
          have d12 := hc 12 _ rfl
          have d13 := hc 13 _ rfl
          rw [show vnR.sz = 14 from rfl] at d0 d1 d2 d3 d4 d5 d6 d7 d8 d9 d10 d11 d12 d13
          simp only [Nat.add_zero] at d0
          have hlj : (j : Int) < l.length := by omega
          obtain ⟨go', capo, hvo, hgo1, hgol, _, _, _, hato⟩ := hO.at (by intro e; rw [e] at hqO; simp at hqO)
          injection hvo with e1 e2 e3
          clear e2 e3
          subst e1
          obtain ⟨cso, hcso, hco⟩ := hato q hqO
          obtain ⟨rfl, _⟩ := hcso
          have do0 := hco 0 _ rfl
          rw [show intR.sz = 1 from rfl] at do0
          simp only [Nat.mul_one, Nat.add_zero] at do0
          have hgk : O[q] = (j : Int) := by rw [← hj, List.getD_eq_getElem?_getD, List.getElem?_eq_getElem hqO]; rfl
          rw [hgk] at do0
          have hqk : (q : Int) < k := by omega
          have hstp : imgL l O (q + 1) = imgL l O q ++ [imgN (posN O O.length) l[j]] := by
            unfold imgL
            rw [List.take_add_one, List.getElem?_eq_getElem hqO, List.map_append, hgk]
            have hn : nodO l (j : Int) = l[j] := by unfold nodO; rw [Int.toNat_natCast, List.getD_eq_getElem?_getD, List.getElem?_eq_getElem hjl]; rfl
            rw [← hn]
            rfl
          rw [hNn] at hstp
          have hshx := HH.out.2.2.2.2.2.2.2.1 _ (List.getElem_mem hjl)
          have hblx := HH.out.2.2.2.2.2.2.2.2 _ (List.getElem_mem hjl)
          have c0 := hrow.cell
          have l0 := hrow.lt
          generalize hxx : l[j] = x at *
          clear hcs hat hc hato hco hrb
          obtain ⟨W1, hW1⟩ : ∃ W1, W1 = wr.alloc (.cells #[.bool x.leaf, .slice Ab x.bucket.length cb, .int .u64 x.van.id, .int .i64 x.van.ob.tag, .slice Av nv cv, .string x.van.ob.str, .bool x.gone, .int .i64 x.par, .int .i64 x.kin, .int .i64 x.kout, .int .i64 x.il, .int .i64 x.ih, .int .i64 x.ol, .int .i64 x.oh] 55) := ⟨_, rfl⟩
          have hB1 : Below wr.heap.size wr W1 := by rw [hW1]; exact (Below.refl _ wr).alloc (Nat.le_refl _) _
          have j1 : IRow 55 W1 wr.heap.size [.bool x.leaf, .slice Ab x.bucket.length cb, .int .u64 x.van.id, .int .i64 x.van.ob.tag, .slice Av nv cv, .string x.van.ob.str, .bool x.gone, .int .i64 x.par, .int .i64 x.kin, .int .i64 x.kout, .int .i64 x.il, .int .i64 x.ih, .int .i64 x.ol, .int .i64 x.oh] := by rw [hW1]; exact IRow.new wr _ _
          have hM1 := hM.kept (hB1.block _ hM.lt)
          obtain ⟨u, hlook, hu1, hu2⟩ := hM1.look (t := 77) Try.underlying3 Try.underlying3 Try.underlying77 (zero_int W1) hok.par
          have hu : (posN O k x.par).getD 0 = u := by
            cases hg : posN O k x.par with
            | none => exact (hu2 hg).symm
            | some y => exact (hu1 y hg).symm
          have huw : wfI u := by
            rw [← hu]
            cases hg : posN O k x.par with
            | none => exact wf0
            | some y => have h5 := posN_bd O k _ _ hg; exact wf_m1 (show _ ≤ y ∧ y ≤ _ from ⟨by omega, by omega⟩)
          obtain ⟨W2, hW2⟩ : ∃ W2, W2 = wr.alloc (.cells #[.bool x.leaf, .slice Ab x.bucket.length cb, .int .u64 x.van.id, .int .i64 x.van.ob.tag, .slice Av nv cv, .string x.van.ob.str, .bool x.gone, .int .i64 u, .int .i64 x.kin, .int .i64 x.kout, .int .i64 x.il, .int .i64 x.ih, .int .i64 x.ol, .int .i64 x.oh] 55) := ⟨_, rfl⟩
          have j2 : IRow 55 W2 wr.heap.size (vnC x (.slice Ab x.bucket.length cb) (.slice Av nv cv) u x.kin x.kout) := by rw [hW2]; exact IRow.new wr _ _
          have hB2 : Below wr.heap.size wr W2 := by rw [hW2]; exact (Below.refl _ wr).alloc (Nat.le_refl _) _
          have hri2 : itR.rd 0 W2 [.int .u64 x.van.id, .int .i64 x.van.ob.tag, .slice Av nv cv, .string x.van.ob.str] x.van := itR.keep _ _ _ _ _ (TK.of_below hB2).kp hri
          have hown := vown_any 0 x.van _ W2 hri2 hshx.1
          have l1 := j1.lt
          have c1 := j1.cell
          have f1 := j1.frozen
          have c2 := j2.cell
          have f2 := j2.frozen
          have HX := Lib.hid (And.intro hB2 (And.intro j2 (And.intro hstp (And.intro hok (And.intro hrb2 (And.intro hshx (And.intro hblx (And.intro hu (And.intro huw (And.intro hBw (And.intro hown (And.intro hM (And.intro hrow d1)))))))))))))
          clear hB2 j2 hstp hok hrb2 hshx hblx hu huw hBw hown hri2 hM1 hM hrow hOl hT hO hri hu1 hu2 hB1 j1 hgk hj hxx hs1 hBm hsm
          subst hW1
          have HW := Lib.hid hW2; clear hW2 c1 f1 l1
          go_wp2_with fail
          rw [← HW.out]
          refine HX.out.2.2.2.2.2.2.2.2.2.2.1.mono ?_
          rintro er w3 ⟨cs, rfl, hcs, hB3⟩
          obtain ⟨v3, rfl, hid3, hob3⟩ := itR_iff.1 hcs
          obtain ⟨A3, n3, c3, hv3⟩ : ∃ A n c, v3 = .slice A n c := by obtain ⟨v', hv2, _, hr, _⟩ := obR_iff.1 hob3; simp only [List.cons.injEq, and_true, true_and] at hv2; subst hv2; obtain ⟨A, c, e, _⟩ := hr.at; exact ⟨A, _, c, e⟩
          subst hv3
          have j3 : IRow 55 w3 wr.heap.size (vnC x (.slice Ab x.bucket.length cb) (.slice Av nv cv) u x.kin x.kout) := HX.out.2.1.kept (hB3.block _ HX.out.2.1.lt)
          have hB4 : Below wr.heap.size wr w3 := HX.out.1.trans (hB3.mono HX.out.1.size)
          obtain ⟨W4, hW4⟩ : ∃ W4, W4 = ((((w3.setCell ⟨wr.heap.size, 2, none⟩ (.int .u64 x.van.id)).setCell ⟨wr.heap.size, 3, none⟩ (.int .i64 x.van.ob.tag)).setCell ⟨wr.heap.size, 4, none⟩ (.slice A3 n3 c3)).setCell ⟨wr.heap.size, 5, none⟩ (.string x.van.ob.str)).setCell ⟨wr.heap.size, 1, none⟩ nilS := ⟨_, rfl⟩
          have j4 : IRow 55 W4 wr.heap.size (vnC x nilS (.slice A3 n3 c3) u x.kin x.kout) := by
            rw [hW4]
            exact ((((j3.set 2 (.int .u64 x.van.id)).set 3 (.int .i64 x.van.ob.tag)).set 4 (.slice A3 n3 c3)).set 5 (.string x.van.ob.str)).set 1 nilS
          have hn4 : ∀ ts, 55 ∉ ts → ¬ Sta ts 0 w3 wr.heap.size := fun ts hts => not_sta j3 (Nat.zero_le _) hts
          have hT4 : ∀ ts, 55 ∉ ts → TK ts 0 w3 W4 := fun ts hts => by
            rw [hW4]
            exact (((((TK.refl ts 0 w3).setCell (p := ⟨wr.heap.size, 2, none⟩) (.inr (hn4 ts hts)) _).setCell (p := ⟨wr.heap.size, 3, none⟩) (.inr (hn4 ts hts)) _).setCell (p := ⟨wr.heap.size, 4, none⟩) (.inr (hn4 ts hts)) _).setCell (p := ⟨wr.heap.size, 5, none⟩) (.inr (hn4 ts hts)) _).setCell (p := ⟨wr.heap.size, 1, none⟩) (.inr (hn4 ts hts)) _
          have hB5 : Below wr.heap.size wr W4 := by
            rw [hW4]
            exact ((((hB4.setCell (p := ⟨wr.heap.size, 2, none⟩) (Nat.le_refl _) _).setCell (p := ⟨wr.heap.size, 3, none⟩) (Nat.le_refl _) _).setCell (p := ⟨wr.heap.size, 4, none⟩) (Nat.le_refl _) _).setCell (p := ⟨wr.heap.size, 5, none⟩) (Nat.le_refl _) _).setCell (p := ⟨wr.heap.size, 1, none⟩) (Nat.le_refl _) _
          have hit4 : itR.rd 0 W4 [.int .u64 x.van.id, .int .i64 x.van.ob.tag, .slice A3 n3 c3, .string x.van.ob.str] x.van := itR.keep _ _ _ _ _ (hT4 itR.ts (by decide)).kp hcs
          have b0 := hB4.block lb hlb
          have b1 := (cell_same (p := ⟨lb, j * 14 + 1, none⟩) b0).trans HX.out.2.2.2.2.2.2.2.2.2.2.2.2.2
          have r3 := HX.out.2.2.2.2.2.2.2.2.2.2.2.2.1.kept (hB4.block t l0)
          have c3' := r3.cell
          have c4 := j3.cell
          have f4 := j3.frozen
          have l3 := j3.lt
          have ht3 : t < wr.heap.size := l0
          clear d0 d1 d2 d3 d4 d5 d6 d7 d8 d9 d10 d11 d12 d13 do0 hlook c2 f2 c0
          have HY := Lib.hid (And.intro j4 (And.intro hB5 hit4)); clear j4 hB5 hit4 hT4 hn4 hB4 hB3 hcs hob3 hid3 b0 r3 j3
          go_wp2_with fail
          rw [← hW4]
          have hM4 := HX.out.2.2.2.2.2.2.2.2.2.2.2.1.kept (HY.out.2.1.block _ HX.out.2.2.2.2.2.2.2.2.2.2.2.1.lt)
          have hI4 := hI.kept (HY.out.2.1.block _ hI.lt)
          obtain ⟨AI, cI, hvI⟩ := hOI.slice
          subst hvI
          have hOI4 := hOI.below HY.out.2.1
          have hF4 := hF.below HY.out.2.1 hF.size
          have hkb := HX.out.2.2.2.2.1.below HY.out.2.1
          have hs4 : wr.heap.size < W4.heap.size := HY.out.1.lt
          have hsI : w.heap.size + 1 < wr.heap.size := hI.lt
          have hsM : Wm.heap.size ≤ wr.heap.size := hF.size
          have hj4 := HY.out.1
          have hit4 := HY.out.2.2
          obtain ⟨-, -, hstp, hok, -, hshx, hblx, hu, huw, -⟩ := HX.out
          have hqn : (imgL l O q).length = q := by unfold imgL; rw [List.length_map, List.length_take]; omega
          have hAs : ∀ g, (Value.slice AI (imgL l O q).length cI).ownBlock = some g → g < wr.heap.size := fun g hg => (hOI.lt g hg).2
          have HE := Lib.hid (And.intro hstp (And.intro hok (And.intro hshx (And.intro hblx (And.intro hu (And.intro huw (And.intro hq (And.intro hqn hAs))))))))
          have hwr : wr.heap.size = wr.heap.size := rfl
          clear hstp hok hshx hblx hu huw HX HY HW hI hOI hF hW4 c3' c4 f4 b1 hq hqn hAs
          generalize wr.heap.size = s at *
          clear hwr l0 hlb hgol l3
          have HG := Lib.hid (And.intro hM4 (And.intro hI4 (And.intro hOI4 (And.intro hF4 (And.intro hkb (And.intro hs4 (And.intro hsI (And.intro hsM (And.intro hj4 hit4))))))))); clear hM4 hI4 hOI4 hF4 hkb hs4 hsI hsM hj4 hit4
          go_loopw [12, 60] (fun _ vk wx => ∃ (p : Nat) (v1 : Value), vk = .int .i64 p ∧ p ≤ x.bucket.length ∧ IRow 55 wx s (vnC x v1 (.slice A3 n3 c3) u x.kin x.kout) ∧ OwnRow itR 34 0 W4.heap.size wx v1 (x.bucket.take p) ∧ Fr (fun g => g = s) W4 wx) (fun _ vk _ => x.bucket.length - (intOf vk).toNat)
          case atStart => exact ⟨0, _, rfl, Nat.zero_le _, HG.out.2.2.2.2.2.2.2.2.1, OwnRow.nil .., Fr.refl _ _⟩
          case round =>
            obtain ⟨p, v1, rfl, hp, jx, hOx, hFx⟩ := hrel
            by_cases hltp : p < x.bucket.length
            · as_aux_lemma =>
                have hkr := HG.out.2.2.2.2.1.keep (hFx.kp (fun g hg => by subst hg; exact not_sta HG.out.2.2.2.2.2.2.2.2.1 (Nat.zero_le _) (by decide)))
                obtain ⟨A', c', hv', _, _, _, hat⟩ := hkr.at
                injection hv' with e1 e2 e3
                clear e2
                subst e1 e3
                obtain ⟨g, o, cs, hA, hg, hr, hc⟩ := hat p hltp
                subst hA
                have hmem := HE.out.2.2.1.2 _ (List.getElem_mem hltp)
                have htake : x.bucket.take (p + 1) = x.bucket.take p ++ [x.bucket[p]] := by rw [List.take_add_one, List.getElem?_eq_getElem hltp]; rfl
                have hpl : (x.bucket.take p).length = p := by rw [List.length_take]; omega
                generalize hyy : x.bucket[p] = y at *
                obtain ⟨vx, rfl, hid, hob⟩ := itR_iff.1 hr
                obtain ⟨Ay, ny, cy, hv'⟩ : ∃ A n c, vx = .slice A n c := by obtain ⟨v', hv2, _, hr, _⟩ := obR_iff.1 hob; simp only [List.cons.injEq, and_true, true_and] at hv2; subst hv2; obtain ⟨A, c, e, _⟩ := hr.at; exact ⟨A, _, c, e⟩
                subst hv'
                have d0 := hc 0 _ rfl
                have d1 := hc 1 _ rfl
                have d2 := hc 2 _ rfl
                have d3 := hc 3 _ rfl
                simp only [Nat.add_zero] at d0
                rw [show itR.sz = 4 from rfl] at d0 d1 d2 d3
                have hz : (p : Int) < x.bucket.length := by omega
                have hbl6 := HE.out.2.2.2.1
                obtain ⟨A7, c7, hv7⟩ := hOx.slice
                subst hv7
                rw [hpl] at jx hOx
                obtain ⟨W1, hW1⟩ : ∃ W1, W1 = wr.alloc (.cells #[.int .u64 y.id, .int .i64 y.ob.tag, .slice Ay ny cy, .string y.ob.str] 34) := ⟨_, rfl⟩
                have hB1 : Below wr.heap.size wr W1 := by rw [hW1]; exact (Below.refl _ wr).alloc (Nat.le_refl _) _
                have j1 : IRow 34 W1 wr.heap.size [.int .u64 y.id, .int .i64 y.ob.tag, .slice Ay ny cy, .string y.ob.str] := by rw [hW1]; exact IRow.new wr _ _
                have jx1 := jx.kept (hB1.block _ jx.lt)
                obtain ⟨C0, hC0⟩ : ∃ C0 : World → Prop, C0 = fun w' => Below W1.heap.size W1 w' := ⟨_, rfl⟩
                have a1 := jx1.cw (C0 := C0) (fun w' hw => by subst hC0; exact hw.block _ jx1.lt)
                have a2 := j1.cw (C0 := C0) (fun w' hw => by subst hC0; exact hw.block _ j1.lt)
                have h0 : C0 W1.drew := by subst hC0; exact bl_drewN W1 1
                have hne : Nonempty (CW C0) := ⟨⟨_, h0⟩⟩
                have hri : itR.rd 0 W1.drew [.int .u64 y.id, .int .i64 y.ob.tag, .slice Ay ny cy, .string y.ob.str] y := itR.keep _ _ _ _ _ (TK.of_below (hB1.trans ((bl_drewN W1 1).mono hB1.size))).kp hr
                have hcall := vown_any 0 y _ W1.drew hri hmem
                have hl8 : ((x.bucket.take p).length + 1) * 56 ≤ 140737488355328 := by have := HE.out.2.2.2.1; omega
                have hsw : s < wr.heap.size := jx.lt
                have HC := Lib.hid hC0; clear hC0
                have HR := Lib.hid (And.intro jx1 (And.intro (hOx.below hB1) (And.intro (hFx.below hB1 hFx.size) (And.intro htake (And.intro hp (And.intro hcall (And.intro hl8 (And.intro hpl hB1))))))))
                clear jx hOx hFx hr hc hat hob hkr hid hmem htake hpl hp hcall hl8 hri jx1 j1 hB1 hyy
                go_wp2_with fail
                rw [← hW1]
                clear hW1 d0 d1 d2 d3
                refine wp_region_hoist [true, true, true, false, false, false, false, false] 2 (fun w' => ∃ z : CW C0, w' = z.w) (by kernel_rfl) (by kernel_rfl) ⟨⟨_, h0⟩, rfl⟩ ?_
                simp only [pickR, pickE, List.take, List.drop, wpLate]
                repeat (go_big_quiet_step (fail))
                refine wpQuiet_nil ?_
                go_wp2_with fail
                refine HR.out.2.2.2.2.2.1.mono ?_
                rintro er w3 ⟨cs, rfl, hcs, hB3⟩
                have hB3' : Below W1.heap.size W1 w3 := (bl_drewN W1 1).trans hB3
                have h3 : C0 w3 := by rw [HC.out]; exact hB3'
                obtain ⟨v3, rfl, hid3, hob3⟩ := itR_iff.1 hcs
                obtain ⟨Az, nz, cz, hv3⟩ : ∃ A n c, v3 = .slice A n c := by obtain ⟨v', hv2, _, hr, _⟩ := obR_iff.1 hob3; simp only [List.cons.injEq, and_true, true_and] at hv2; subst hv2; obtain ⟨A, c, e, _⟩ := hr.at; exact ⟨A, _, c, e⟩
                subst hv3
                have h4 : C0 (w3.alloc (.cells #[.int .u64 y.id, .int .i64 y.ob.tag, .slice Az nz cz, .string y.ob.str] 34)) := by rw [HC.out]; exact hB3'.alloc hB3'.size _
                have jx3 := HR.out.1.kept (hB3'.block _ HR.out.1.lt)
                have hO3 := HR.out.2.1.below hB3'
                have hF3 := HR.out.2.2.1.below hB3' HR.out.2.2.1.size
                have hs3 := hF3.size
                have HS := Lib.hid (And.intro jx3 (And.intro hO3 (And.intro hF3 (And.intro hcs hs3)))); clear jx3 hO3 hF3 hcs hs3 hob3 hid3 hB3 hB3'
                go_wp2_with fail
                apply only_mk; refine And.intro ⟨⟨_, h3⟩, rfl⟩ ?_
                go_wp2_with fail
                apply only_mk; refine And.intro ⟨⟨_, h4⟩, rfl⟩ ?_
                clear a1 a2
                go_wp2_with (at_builtin; go_loud (refine wp_push (R := itR) (W := w3) rfl (.tmp 65) (.tmp 68) 25 (.agg #[.int .u64 0, .int .i64 0, .slice none 0 0, .string ⟨#[]⟩]) 56 rfl Try.underlying25 info_it rfl (by decide) (by decide) (.slice A7 p c7) (x.bucket.take p) y #[.int .u64 y.id, .int .i64 y.ob.tag, .slice Az nz cz, .string y.ob.str] (0, 0) rfl rfl HS.out.2.2.2.1 HS.out.2.1 HS.out.2.2.2.2 (by decide) (Nat.zero_le _) HR.out.2.2.2.2.2.2.1 ?_); intro v5 w5 hO5 hG5 _ hs5; obtain ⟨A5, c5, hv5⟩ := hO5.slice; subst hv5; rw [← HR.out.2.2.2.1] at hO5; have jx5 := HS.out.1.kept (hG5.block s HS.out.1.lt (fun e => by obtain ⟨d, hd⟩ := HS.out.2.1.blk e.symm; exact blk_ne hd HS.out.1 (by decide) rfl)); have cx5 := jx5.cell; have fx5 := jx5.frozen; have lx5 := jx5.lt; have H5 := Lib.hid (And.intro jx5 (And.intro hO5 hG5)); clear jx5 hO5 hG5)
                apply only_mk
                go_wp2_with fail
                obtain ⟨jx1, hOx, hFx, htake, hp, -, -, hpl, hB1⟩ := HR.out
                obtain ⟨jx3, hO3, hF3, hcs, hs3⟩ := HS.out
                obtain ⟨jx5, hO5, hG5⟩ := H5.out
                have hpl1 : (x.bucket.take (p + 1)).length = p + 1 := by rw [List.length_take]; omega
                rw [hpl1] at hO5
                have hmn : min p x.bucket.length + 1 = p + 1 := by omega
                rw [hmn]
                refine ⟨⟨p + 1, .slice A5 (p + 1) c5, by go_num, by omega, jx5.set 1 _, ?_, ?_⟩, by simp [intOf]; omega⟩
                · exact hO5.grown (gb_setCell w5 ⟨s, 1, none⟩ _) (fun g hg => by cases hg; exact not_sta jx5 (Nat.zero_le _) (by decide)) (.inr (fun e => by obtain ⟨d, hd⟩ := hO5.blk e; exact blk_ne hd jx5 (by decide) rfl))
                · exact (hF3.grown hG5 (fun g hg => .inr (hO3.lt g hg).1)).setCell (p := ⟨s, 1, none⟩) _ (.inl rfl)
            · obtain rfl : p = x.bucket.length := by omega
              rw [List.take_length] at hOx
              obtain ⟨A7, c7, hv7⟩ := hOx.slice
              subst hv7
              obtain ⟨hM4, hI4, hOI4, hF4, hkb, hs4, hsI, hsM, hj4, hit4⟩ := HG.out
              obtain ⟨hstp, hok, hshx, hblx, hu, huw, hq, hqn, hAs⟩ := HE.out
              have hsm := HM.out.2.2.2.2.2.2
              have hMr := hM4.kept (hFx.block _ hM4.lt (fun e => by omega))
              rw [hqn] at hI4 hOI4 hAs
              have hend : ∀ (W6 : World) (ki ko : Int), wfI ki → wfI ko → imgN (posN O k) x = ⟨x.leaf, x.bucket, x.van, x.gone, u, ki, ko, x.il, x.ih, x.ol, x.oh⟩ → IRow 55 W6 s (vnC x (.slice A7 x.bucket.length c7) (.slice A3 n3 c3) u ki ko) → OwnRow itR 34 0 W4.heap.size W6 (.slice A7 x.bucket.length c7) x.bucket → Fr (fun g => g = s) W4 W6 →
                  OwnRow vnR 55 0 Wm.heap.size W6 (.slice AI q cI) (imgL l O q) ∧ IRow 52 W6 (w.heap.size + 1) [nilS, .slice AI q cI, nilS, .int .i64 0, nilS, nilS] ∧ vnR.rd 0 W6 (vnC x (.slice A7 x.bucket.length c7) (.slice A3 n3 c3) u ki ko) (imgN (posN O k) x) ∧ Fr (fun g => g = w.heap.size + 1) Wm W6 ∧ Wm.heap.size ≤ W6.heap.size ∧ ((imgL l O q).length + 1) * 152 ≤ 140737488355328 := by
                intro W6 ki ko hki hko himg hj6 hO6 hF6
                have hk6 : ∀ ts, 55 ∉ ts → Kp ts 0 W4 W6 := fun ts hts => hF6.kp (fun g hg => by subst hg; exact not_sta hj4 (Nat.zero_le _) hts)
                have hF46 := hF4.trans hF6 (fun g hg => .inr (by omega))
                refine ⟨hOI4.keep (hk6 vnR.ts (by decide)) (fun g hg => hF6.block g (hOI4.lt g hg).2 ?_), hI4.kept (hF6.block _ hI4.lt (fun e => by omega)), ?_, hF46, hF46.size, by rw [hqn]; omega⟩
                · intro e
                  have := hAs g hg
                  omega
                · rw [himg]
                  exact vnR_iff.2 ⟨_, _, rfl, hO6.read, itR.keep _ _ _ _ _ (hk6 itR.ts (by decide)) hit4, huw, hki, hko, hok.il, hok.ih, hok.ol, hok.oh⟩
              have cx := jx.cell
              have fx := jx.frozen
              have lx := jx.lt
              cases hle : x.leaf with
              | true =>
                have himg : imgN (posN O k) x = ⟨x.leaf, x.bucket, x.van, x.gone, u, x.kin, x.kout, x.il, x.ih, x.ol, x.oh⟩ := by
                  unfold imgN; rw [hu, hle]; rfl

                obtain ⟨hOI6, hI6, hrd6, hF6, hs6, hl6⟩ := hend wr x.kin x.kout hok.kin hok.kout himg jx hOx hFx
                have cI6 := hI6.cell
                have hrd6 : vnR.rd 0 wr (vnB true x (.slice A7 x.bucket.length c7) (.slice A3 n3 c3) u x.kin x.kout) (imgN (posN O k) x) := by rw [← hle]; exact hrd6
                have HV := Lib.hid (And.intro hOI6 (And.intro hI6 (And.intro hrd6 (And.intro hF6 (And.intro hs6 hl6))))); clear hOI6 hI6 hrd6 hF6 hs6 hl6 hend
                have HK := Lib.hid (And.intro hstp (And.intro hq hqn)); clear hstp hq hqn
                go_wp2_with (at_builtin; go_loud (refine wp_push (R := vnR) (W := wr) rfl (.tmp 86) (.tmp 88) 47 (.agg vn0V.toArray) 152 rfl Try.underlying47 info_vn rfl (by decide) (by decide) (.slice AI q cI) (imgL l O q) (imgN (posN O k) x) (vnB true x (.slice A7 x.bucket.length c7) (.slice A3 n3 c3) u x.kin x.kout).toArray (0, 0) rfl rfl HV.out.2.2.1 HV.out.1 HV.out.2.2.2.2.1 (by decide) (Nat.zero_le _) HV.out.2.2.2.2.2 ?_); intro v7 w7 hO7 hG7 _ hs7; obtain ⟨A8, c8, hv8⟩ := hO7.slice; subst hv8; rw [← HK.out.1] at hO7; have jI7 := HV.out.2.1.kept (hG7.block _ HV.out.2.1.lt (fun e => by obtain ⟨d, hd⟩ := HV.out.1.blk e.symm; exact blk_ne hd HV.out.2.1 (by decide) rfl)); have cI7 := jI7.cell; have fI7 := jI7.frozen; have lI7 := jI7.lt; have H7 := Lib.hid (And.intro jI7 (And.intro hO7 hG7)); clear jI7 hO7 hG7)
                obtain ⟨jI7, hO7, hG7⟩ := H7.out
                obtain ⟨hOI6, hI6, hrd6, hF6, hs6, hl6⟩ := HV.out
                obtain ⟨hstp, hq, hqn⟩ := HK.out
                have hq1 : (imgL l O (q + 1)).length = q + 1 := by rw [hstp, List.length_append, hqn]; rfl
                rw [hq1] at hO7
                rw [hqn]
                refine ⟨⟨q + 1, .slice A8 (q + 1) c8, by go_num, by omega, jI7.set 1 _, ?_, ?_⟩, by simp [intOf]; omega⟩
                · exact hO7.grown (gb_setCell w7 ⟨w.heap.size + 1, 1, none⟩ _) (fun g hg => by cases hg; exact not_sta jI7 (Nat.zero_le _) (by decide)) (.inr (fun e => by obtain ⟨d, hd⟩ := hO7.blk e; exact blk_ne hd jI7 (by decide) rfl))
                · exact (hF6.grown hG7 (fun g hg => .inr (hOI6.lt g hg).1)).setCell (p := ⟨w.heap.size + 1, 1, none⟩) _ (.inl rfl)
              | false =>
                have hMd : MapI Try.prog 3 3 wr.drew (w.heap.size + 1 + 1) (posN O k) := hMr.kept rfl
                obtain ⟨ki, hlk1, hk1, hk2⟩ := hMd.look (t := 77) Try.underlying3 Try.underlying3 Try.underlying77 (zero_int wr.drew) hok.kin
                obtain ⟨ko, hko⟩ : ∃ ko, ko = (posN O k x.kout).getD 0 := ⟨_, rfl⟩
                have hki : (posN O k x.kin).getD 0 = ki := by
                  cases hg : posN O k x.kin with
                  | none => exact (hk2 hg).symm
                  | some y => exact (hk1 y hg).symm
                have hwf : ∀ y, wfI ((posN O k y).getD 0) := fun y => by
                  cases hg : posN O k y with
                  | none => exact wf0
                  | some z => have h5 := posN_bd O k _ _ hg; exact wf_m1 (show _ ≤ z ∧ z ≤ _ from ⟨by omega, by omega⟩)
                have hkiw : wfI ki := by rw [← hki]; exact hwf _
                have hkow : wfI ko := by rw [hko]; exact hwf _
                obtain ⟨C0, hC0⟩ : ∃ C0 : World → Prop, C0 = fun w' => w'.heap[w.heap.size + 1 + 1]? = wr.heap[w.heap.size + 1 + 1]? ∧ w'.cell? ⟨s, 9, none⟩ = some (.int .i64 x.kout) := ⟨_, rfl⟩
                have hlk2 : ∀ z : CW C0, (Instr.lookup 77 (.map (some (w.heap.size + 1 + 1))) (.int .i64 x.kout) false).run Try.prog z.w = .ok (.int .i64 ko) z.w := fun z => by
                  obtain ⟨w', hw⟩ := z
                  subst hC0
                  obtain ⟨u', h1, h2, h3⟩ := (hMr.kept hw.1).look (t := 77) Try.underlying3 Try.underlying3 Try.underlying77 (zero_int w') hok.kout
                  have : u' = ko := by
                    rw [hko]
                    cases hg : posN O k x.kout with
                    | none => exact h3 hg
                    | some y => exact h2 y hg
                  rw [← this]
                  exact h1
                have x9 : ∀ z : CW C0, z.w.cell? ⟨s, 9, none⟩ = some (.int .i64 x.kout) := fun z => by obtain ⟨w', hw⟩ := z; subst hC0; exact hw.2
                have jd : IRow 55 wr.drew s (vnC x (.slice A7 x.bucket.length c7) (.slice A3 n3 c3) u x.kin x.kout) := jx.kept rfl
                have cd := jd.cell
                have fd := jd.frozen
                have h0 : C0 wr.drew := by subst hC0; exact ⟨rfl, jd.cell 9⟩
                have jd8 : IRow 55 (wr.setCell ⟨s, 8, none⟩ (.int .i64 ki)).drew s (vnC x (.slice A7 x.bucket.length c7) (.slice A3 n3 c3) u ki x.kout) := (jx.set 8 (.int .i64 ki)).kept rfl
                have cd8 := jd8.cell
                have fd8 := jd8.frozen
                have h1 : C0 (wr.setCell ⟨s, 8, none⟩ (.int .i64 ki)).drew := by subst hC0; exact ⟨Below.heap_setCell wr ⟨s, 8, none⟩ _ _ (show _ ≠ s by omega), jd8.cell 9⟩
                have hne : Nonempty (CW C0) := ⟨⟨_, h0⟩⟩
                obtain ⟨W6, hW6⟩ : ∃ W6, W6 = ((wr.setCell ⟨s, 8, none⟩ (.int .i64 ki)).setCell ⟨s, 9, none⟩ (.int .i64 ko)).drew := ⟨_, rfl⟩
                have j6 : IRow 55 W6 s (vnC x (.slice A7 x.bucket.length c7) (.slice A3 n3 c3) u ki ko) := by rw [hW6]; exact ((jx.set 8 (.int .i64 ki)).set 9 (.int .i64 ko)).kept rfl
                have hns : ∀ ts, 55 ∉ ts → ¬ Sta ts 0 wr s := fun ts hts => not_sta jx (Nat.zero_le _) hts
                have hkp6 : Kp itR.ts 0 wr W6 := by
                  rw [hW6]
                  exact ((((TK.refl itR.ts 0 wr).setCell (p := ⟨s, 8, none⟩) (.inr (hns _ (by decide))) _).setCell (p := ⟨s, 9, none⟩) (.inr (hns _ (by decide))) _).drew).kp
                have hO6 := hOx.keep hkp6 (fun g hg => by
                  rw [hW6]
                  have hgs : g ≠ s := fun e => by have := (hOx.lt g hg).1; omega
                  exact (Below.heap_setCell (wr.setCell ⟨s, 8, none⟩ (.int .i64 ki)) ⟨s, 9, none⟩ (.int .i64 ko) _ hgs).trans (Below.heap_setCell wr ⟨s, 8, none⟩ (.int .i64 ki) _ hgs))
                have hF6 : Fr (fun g => g = s) W4 W6 := by
                  rw [hW6]
                  exact ((hFx.setCell (p := ⟨s, 8, none⟩) _ (.inl rfl)).setCell (p := ⟨s, 9, none⟩) _ (.inl rfl)).drew
                have himg : imgN (posN O k) x = ⟨x.leaf, x.bucket, x.van, x.gone, u, ki, ko, x.il, x.ih, x.ol, x.oh⟩ := by
                  unfold imgN; rw [hu, hki, ← hko, hle]; rfl
                obtain ⟨hOI6, hI6, hrd6, hF6, hs6, hl6⟩ := hend W6 ki ko hkiw hkow himg j6 hO6 hF6
                have c6 := j6.cell
                clear hMd hki hwf hkiw hkow hko jd jd8 j6 hns hkp6 hO6 himg hk1 hk2
                rw [vnC, hle] at cx cd cd8 c6
                have HC := Lib.hid (And.intro hC0 hW6); clear hC0 hW6
                go_wp2_with fail
                refine wp_region_hoist [true, true, false, false, true, true, true, true, false, false, false, false] 4 (fun w' => ∃ z : CW C0, w' = z.w) (by kernel_rfl) (by kernel_rfl) ⟨⟨_, h0⟩, rfl⟩ ?_
                simp only [pickR, pickE, List.take, List.drop, wpLate]
                repeat (go_big_quiet_step (fail))
                refine wpQuiet_nil ?_
                go_wp2_with fail
                apply only_mk; refine And.intro ⟨⟨_, h0⟩, rfl⟩ ?_
                go_wp2_with fail
                apply only_mk; refine And.intro ⟨⟨_, h0⟩, rfl⟩ ?_
                go_wp2_with fail
                apply only_mk; refine And.intro ⟨⟨_, h0⟩, rfl⟩ ?_
                go_wp2_with fail
                apply only_mk; refine And.intro ⟨⟨_, h1⟩, rfl⟩ ?_
                clear x9 hlk2 cx fx cd fd hlk1
                have hW6 := HC.out.2
                go_upto_region 23 with (fail)
                have cI6 := hI6.cell
                have hrd6 : vnR.rd 0 W6 (vnB false x (.slice A7 x.bucket.length c7) (.slice A3 n3 c3) u ki ko) (imgN (posN O k) x) := by rw [← hle]; exact hrd6
                have HV := Lib.hid (And.intro hOI6 (And.intro hI6 (And.intro hrd6 (And.intro hF6 (And.intro hs6 hl6))))); clear hOI6 hI6 hrd6 hF6 hs6 hl6 hend
                have HK := Lib.hid (And.intro hstp (And.intro hq hqn)); clear hstp hq hqn
                rw [← hW6]
                clear hW6
                apply only_mk
                go_wp2_with (at_builtin; go_loud (refine wp_push (R := vnR) (W := W6) rfl (.tmp 86) (.tmp 88) 47 (.agg vn0V.toArray) 152 rfl Try.underlying47 info_vn rfl (by decide) (by decide) (.slice AI q cI) (imgL l O q) (imgN (posN O k) x) (vnB false x (.slice A7 x.bucket.length c7) (.slice A3 n3 c3) u ki ko).toArray (0, 0) rfl rfl HV.out.2.2.1 HV.out.1 HV.out.2.2.2.2.1 (by decide) (Nat.zero_le _) HV.out.2.2.2.2.2 ?_); intro v7 w7 hO7 hG7 _ hs7; obtain ⟨A8, c8, hv8⟩ := hO7.slice; subst hv8; rw [← HK.out.1] at hO7; have jI7 := HV.out.2.1.kept (hG7.block _ HV.out.2.1.lt (fun e => by obtain ⟨d, hd⟩ := HV.out.1.blk e.symm; exact blk_ne hd HV.out.2.1 (by decide) rfl)); have cI7 := jI7.cell; have fI7 := jI7.frozen; have lI7 := jI7.lt; have H7 := Lib.hid (And.intro jI7 (And.intro hO7 hG7)); clear jI7 hO7 hG7)
                obtain ⟨jI7, hO7, hG7⟩ := H7.out
                obtain ⟨hOI6, hI6, hrd6, hF6, hs6, hl6⟩ := HV.out
                obtain ⟨hstp, hq, hqn⟩ := HK.out
                have hq1 : (imgL l O (q + 1)).length = q + 1 := by rw [hstp, List.length_append, hqn]; rfl
                rw [hq1] at hO7
                rw [hqn]
                refine ⟨⟨q + 1, .slice A8 (q + 1) c8, by go_num, by omega, jI7.set 1 _, ?_, ?_⟩, by simp [intOf]; omega⟩
                · exact hO7.grown (gb_setCell w7 ⟨w.heap.size + 1, 1, none⟩ _) (fun g hg => by cases hg; exact not_sta jI7 (Nat.zero_le _) (by decide)) (.inr (fun e => by obtain ⟨d, hd⟩ := hO7.blk e; exact blk_ne hd jI7 (by decide) rfl))
                · exact (hF6.grown hG7 (fun g hg => .inr (hOI6.lt g hg).1)).setCell (p := ⟨w.heap.size + 1, 1, none⟩) _ (.inl rfl)
        · obtain rfl : q = k := by omega
          obtain ⟨AI, cI, hvI⟩ := hOI.slice
          subst hvI
          have i0 := HM.out.2.2.2.1.kept (hF.block _ HM.out.2.2.2.1.lt (fun e => by omega))
          have c0 := i0.cell
          have f0 := i0.frozen
          have l0 := i0.lt
          have c1 := hI.cell
          have l1 := hI.lt
          have HZ := Lib.hid (And.intro i0 (And.intro hI (And.intro hOI hF))); clear i0 hI hOI hF
          go_wp2_with fail
          obtain ⟨i0, hI, hOI, hF⟩ := HZ.out
          have hi := (((((i0.set 0 nilS).set 1 (.slice AI (imgL l O q).length cI)).set 2 nilS).set 3 (.int .i64 0)).set 4 nilS).set 5 nilS
          have hn : ∀ ts, 52 ∉ ts → ¬ Sta ts 0 wr w.heap.size := fun ts hts => not_sta i0 (Nat.zero_le _) hts
          have hkp : Kp vnR.ts 0 wr ((((((wr.setCell ⟨w.heap.size, 0, none⟩ nilS).setCell ⟨w.heap.size, 1, none⟩ (.slice AI (imgL l O q).length cI)).setCell ⟨w.heap.size, 2, none⟩ nilS).setCell ⟨w.heap.size, 3, none⟩ (.int .i64 0)).setCell ⟨w.heap.size, 4, none⟩ nilS).setCell ⟨w.heap.size, 5, none⟩ nilS) :=
            (((((((TK.refl vnR.ts 0 wr).setCell (p := ⟨w.heap.size, 0, none⟩) (.inr (hn _ (by decide))) _).setCell (p := ⟨w.heap.size, 1, none⟩) (.inr (hn _ (by decide))) _).setCell (p := ⟨w.heap.size, 2, none⟩) (.inr (hn _ (by decide))) _).setCell (p := ⟨w.heap.size, 3, none⟩) (.inr (hn _ (by decide))) _).setCell (p := ⟨w.heap.size, 4, none⟩) (.inr (hn _ (by decide))) _).setCell (p := ⟨w.heap.size, 5, none⟩) (.inr (hn _ (by decide))) _).kp
          have hsm := HM.out.2.2.2.2.2.2
          have hBw := HM.out.2.2.1.trans (hF.toB (b := w.heap.size) (fun g hg => by omega) HM.out.2.2.1.size)
          have hB := (((((hBw.setCell (p := ⟨w.heap.size, 0, none⟩) (Nat.le_refl _) nilS).setCell (p := ⟨w.heap.size, 1, none⟩) (Nat.le_refl _) (.slice AI (imgL l O q).length cI)).setCell (p := ⟨w.heap.size, 2, none⟩) (Nat.le_refl _) nilS).setCell (p := ⟨w.heap.size, 3, none⟩) (Nat.le_refl _) (.int .i64 0)).setCell (p := ⟨w.heap.size, 4, none⟩) (Nat.le_refl _) nilS).setCell (p := ⟨w.heap.size, 5, none⟩) (Nat.le_refl _) nilS
          have hbk : ∀ g, g ≠ w.heap.size → ((((((wr.setCell ⟨w.heap.size, 0, none⟩ nilS).setCell ⟨w.heap.size, 1, none⟩ (.slice AI (imgL l O q).length cI)).setCell ⟨w.heap.size, 2, none⟩ nilS).setCell ⟨w.heap.size, 3, none⟩ (.int .i64 0)).setCell ⟨w.heap.size, 4, none⟩ nilS).setCell ⟨w.heap.size, 5, none⟩ nilS).heap[g]? = wr.heap[g]? := fun g hg =>
            (((((Below.heap_setCell _ ⟨w.heap.size, 5, none⟩ _ g hg).trans (Below.heap_setCell _ ⟨w.heap.size, 4, none⟩ _ g hg)).trans (Below.heap_setCell _ ⟨w.heap.size, 3, none⟩ _ g hg)).trans (Below.heap_setCell _ ⟨w.heap.size, 2, none⟩ _ g hg)).trans (Below.heap_setCell _ ⟨w.heap.size, 1, none⟩ _ g hg)).trans (Below.heap_setCell _ ⟨w.heap.size, 0, none⟩ _ g hg)
          have hOe := hOI.keep hkp (fun g hg => hbk g (fun e => by have := (hOI.lt g hg).1; omega))
          refine bodyPost_ret (results_cell_row rfl _ _ w.heap.size 52 _ (0, 0) _ rfl hi Try.underlying52 rfl (by kernel_rfl)) rfl ?_
          have hOd := H2.out.2.2.2.2.1
          rw [← hOd]
          exact ⟨_, rfl, hOe.base (by omega), hB⟩
end Go.Proofs.Ytlcpfnhindfkfaa
