/-
  split.middle, around, Nth, Halve, Bounds.
-/
import Derived.Test.YtlcpfnhindfkfaaFar
import Derived.Test.YtlcpfnhindfkfaaFr2
namespace Go.WW
open Go Go.RowKit
/-- Two rows are apart. -/
def Apart (u v : Value) : Prop := ∀ g, u.ownBlock = some g → v.ownBlock ≠ some g
theorem Apart.symm {u v : Value} (h : Apart u v) : Apart v u := fun g hg e => h g e hg
theorem Apart.push {α : Type} {R : WW.Rd α} {e b n0 : Nat} {W : World} {u v v1 : Value} {l : List α} (h : Apart u v) (hu : OwnRow R e b n0 W u l) (hv : v1.ownBlock = v.ownBlock ∨ ∃ b, v1.ownBlock = some b ∧ W.heap.size ≤ b) : Apart u v1 := fun g hg e => by
  rcases hv with hv | ⟨b', hv, hb'⟩
  · exact h g hg (hv ▸ e)
  · have := (hu.lt g hg).2
    rw [hv] at e
    injection e with e
    omega
theorem OwnRow.aside {α : Type} {R : WW.Rd α} {e n0 : Nat} {w w' : World} {u v : Value} {l : List α} (h : OwnRow R e 0 n0 w v l) (hts : R.ts = []) (hG : w.grownBy w' u.ownBlock) (hap : Apart u v) : OwnRow R e 0 n0 w' v l :=
  h.grown hG (fun k _ => by
    rw [hts]
    rintro (h | ⟨_, _, _, _, h⟩)
    · omega
    · cases h) (by
    cases hv : v.ownBlock with
    | none => exact .inl rfl
    | some g => exact .inr (fun e => hap g e.symm hv))
end Go.WW
namespace Go.Proofs.Ytlcpfnhindfkfaa
open Go Go.RowKit Go.WW Go.Sort
set_option maxRecDepth 100000 in
set_option maxHeartbeats 2000000 in
theorem middle_any (b : Nat) (v : Value) (l : List Fa) (w : World) (rv : RdRow faR 99 b w v l) (hn : l ≠ []) (hl : l.length ≤ 1048576) :
    Calls Try.prog 49 #[v] w fun e w' => ∃ p, p ∈ l ∧ e = .returned (.agg #[.int .i64 p.pl, .int .i64 p.ds]) ∧ Below w.heap.size w w' := by
  have hpos : 0 < l.length := List.length_pos_iff.2 hn
  obtain ⟨A, c, rfl, hlc, hcm, hA, hat⟩ := rv.at
  obtain ⟨g, o, c0, rfl, hg, hr0, hc0⟩ := hat 0 hpos
  obtain ⟨g1, o1, c1, h1, _, hr1, hc1⟩ := hat (l.length / 2) (by omega)
  obtain ⟨g2, o2, c2, h2, _, hr2, hc2⟩ := hat (l.length - 1) (by omega)
  injection h1 with h1
  injection h1 with h1 h1b
  injection h2 with h2
  injection h2 with h2 h2b
  subst h1 h1b h2 h2b
  obtain ⟨rfl, k0⟩ := faR_iff.1 hr0
  obtain ⟨rfl, k1⟩ := faR_iff.1 hr1
  obtain ⟨rfl, k2⟩ := faR_iff.1 hr2
  have m0 : l[0] ∈ l := List.getElem_mem ..
  have m1 : l[l.length / 2]'(by omega) ∈ l := List.getElem_mem ..
  have m2 : l[l.length - 1]'(by omega) ∈ l := List.getElem_mem ..
  generalize l[0] = p0 at *
  generalize l[l.length / 2]'_ = p1 at *
  generalize l[l.length - 1]'_ = p2 at *
  have d0 := hc0 0 _ rfl
  have d1 := hc0 1 _ rfl
  have d2 := hc1 0 _ rfl
  have d3 := hc1 1 _ rfl
  have d4 := hc2 0 _ rfl
  have d5 := hc2 1 _ rfl
  rw [show faR.sz = 2 from rfl] at d0 d1 d2 d3 d4 d5
  simp only [Nat.zero_mul, Nat.add_zero] at d0 d1 d2 d4
  have HM := Lib.hid (And.intro m0 (And.intro m1 (And.intro m2 (And.intro k0 (And.intro k1 k2))))); clear m0 m1 m2 k0 k1 k2 hr0 hr1 hr2 hc0 hc1 hc2 hat rv hA
  go_enter Try.func49, Try.ntmps49
  go_wp2_with fail
  refine wp_region_hoist [true, true, true, true, true, true, true, true, true, true, true, true, true, true, true, false, false] 0 (fun w' => ∃ n, w' = World.drewN _ n) (by kernel_rfl) (by kernel_rfl) ⟨1, rfl⟩ ?_
  simp only [pickR, pickE, List.take, List.drop, wpLate]
  repeat (go_big_quiet_step (fail))
  refine wpQuiet_nil ?_
  go_wp2_with fail
  apply only_mk
  obtain ⟨W, hW⟩ : ∃ W, W = ((w.alloc (.cells #[.int .i64 0, .int .i64 0] 99)).drew) := ⟨_, rfl⟩
  have hB0 : Below w.heap.size w W := by rw [hW]; exact ((Below.refl _ w).alloc (Nat.le_refl _) _).drew
  have i0 : IRow 99 W w.heap.size [.int .i64 0, .int .i64 0] := by rw [hW]; exact (IRow.new w _ _).kept rfl
  have hsW : W.heap.size = w.heap.size + 1 := by rw [hW]; simp
  have hO := OwnRow.many (R := faR) (e := 99) (b := 0) (n0 := W.heap.size) (w := W) (css := [encF p0, encF p1, encF p2]) (xs := [p0, p1, p2]) rfl (fun i x c hx hc => by
    match i with
    | 0 => simp at hx hc; subst hx hc; exact faR_iff.2 ⟨rfl, HM.out.2.2.2.1⟩
    | 1 => simp at hx hc; subst hx hc; exact faR_iff.2 ⟨rfl, HM.out.2.2.2.2.1⟩
    | 2 => simp at hx hc; subst hx hc; exact faR_iff.2 ⟨rfl, HM.out.2.2.2.2.2⟩
    | n + 3 => simp at hx) (Nat.le_refl _) (by simp [maxLen])
  obtain ⟨W1, hW1'⟩ : ∃ W1, W1 = ((w.alloc (.cells #[.int .i64 0, .int .i64 0] 99)).alloc (.cells #[.int .i64 p0.pl, .int .i64 p0.ds, .int .i64 p1.pl, .int .i64 p1.ds, .int .i64 p2.pl, .int .i64 p2.ds] 99)).drew := ⟨_, rfl⟩
  have hW1 : W1 = W.alloc (.cells #[.int .i64 p0.pl, .int .i64 p0.ds, .int .i64 p1.pl, .int .i64 p1.ds, .int .i64 p2.pl, .int .i64 p2.ds] 99) := by rw [hW1', hW]; rfl
  have hO1 : OwnRow faR 99 0 W.heap.size W1 (.slice (some ⟨W.heap.size, 0, none⟩) [p0, p1, p2].length 3) [p0, p1, p2] := by rw [hW1]; exact hO
  have hB1 : Below W.heap.size W W1 := by rw [hW1]; exact (Below.refl _ W).alloc (Nat.le_refl _) _
  have hg1 : W.heap.size < W1.heap.size := by rw [hW1]; simp
  have hBw1 := hB0.trans (hB1.mono hB0.size)
  have i1 := i0.kept (hB1.block _ i0.lt)
  have hs := fsort_any W1 W.heap.size 3 [p0, p1, p2] hO1 (by simp) hg1
  rw [hsW] at hs
  have HS := Lib.hid (And.intro hBw1 (And.intro i1 hs)); clear hO hO1 hB1 hBw1 i1 hs hB0 i0 hg1 d0 d1 d2 d3 d4 d5
  have hls := HS.out.1.size
  clear hW hW1
  go_wp2_with fail
  rw [← hW1']
  clear hW1'
  refine HS.out.2.2.mono ?_
  rintro er w2 ⟨rfl, ⟨l', hp, hO2⟩, hG⟩
  have hlen : l'.length = 3 := by rw [hp.length_eq]; rfl
  obtain ⟨g3, cp3, hv3, _, hg3, _, _, _, hat3⟩ := hO2.at (by rintro rfl; simp at hlen)
  injection hv3 with hv3 e2 e3
  clear e2 e3
  injection hv3 with hv3
  injection hv3 with hv3
  subst hv3
  obtain ⟨cs, hcs, hc⟩ := hat3 1 (by omega)
  have hm : l'[1]'(by omega) ∈ l := by
    have h1 : l'[1]'(by omega) ∈ [p0, p1, p2] := hp.mem_iff.1 (List.getElem_mem ..)
    simp only [List.mem_cons, List.not_mem_nil, or_false] at h1
    rcases h1 with h | h | h <;> rw [h]
    · exact HM.out.1
    · exact HM.out.2.1
    · exact HM.out.2.2.1
  generalize l'[1]'_ = q at *
  obtain ⟨rfl, _⟩ := faR_iff.1 hcs
  have e0 := hc 0 _ rfl
  have e1 := hc 1 _ rfl
  rw [show faR.sz = 2 from rfl] at e0 e1
  simp only [Nat.one_mul, Nat.add_zero] at e0 e1
  have i2 := HS.out.2.1.kept (hG.block _ HS.out.2.1.lt (fun e => by injection e with e; omega))
  have hB2 : Below w.heap.size w w2 := HS.out.1.grown hG hls (fun k hk => by cases hk; omega)
  have c2 := i2.cell
  have f2 := i2.frozen
  have hl2 := i2.lt
  have HZ := Lib.hid (And.intro i2 (And.intro hB2 hm)); clear i2 hB2 hm hG hc hcs hat3 hO2 hp hlen hls
  go_wp2_with fail
  have hi := (HZ.out.1.set 0 (.int .i64 q.pl)).set 1 (.int .i64 q.ds)
  have hB := (HZ.out.2.1.setCell (p := ⟨w.heap.size, 0, none⟩) (Nat.le_refl _) (.int .i64 q.pl)).setCell (p := ⟨w.heap.size, 1, none⟩) (Nat.le_refl _) (.int .i64 q.ds)
  refine bodyPost_ret (results_cell_row rfl _ _ w.heap.size 99 _ (0, 0) _ rfl hi Try.underlying99 rfl (by kernel_rfl)) rfl ?_
  exact ⟨q, HZ.out.2.2, rfl, hB⟩
theorem below_grow (w : World) (q : Nat) (os : Array Obj) : Below w.heap.size w (grow (w.drewN q) os) := ⟨rfl, rfl, rfl, by rw [size_grow]; exact Nat.le_add_right _ _, fun k hk => heap_grow_old (w.drewN q) os hk⟩
theorem forderB (x y : Fa) (w : World) : Calls Try.prog 45 #[.agg #[.int .i64 x.pl, .int .i64 x.ds], .agg #[.int .i64 y.pl, .int .i64 y.ds]] w fun e w' => e = .returned (.int .i64 (cfF x y)) ∧ Below w.heap.size w w' :=
  (forder_any x y w).mono fun e w' ⟨he, q, os, hw⟩ => ⟨he, by rw [hw]; exact below_grow w q os⟩
theorem ahead_take {p : Fa} {l : List Fa} {k : Nat} (h : k < l.length) : aheadF p (l.take (k + 1)) = aheadF p (l.take k) ++ (if ltF l[k] p = true then [l[k]] else []) := by
  unfold aheadF
  rw [List.take_add_one, List.getElem?_eq_getElem h, List.filter_append]
  simp only [Option.toList_some, List.filter_cons, List.filter_nil]
theorem behind_take {p : Fa} {l : List Fa} {k : Nat} (h : k < l.length) : behindF p (l.take (k + 1)) = behindF p (l.take k) ++ (if ltF p l[k] = true then [l[k]] else []) := by
  unfold behindF
  rw [List.take_add_one, List.getElem?_eq_getElem h, List.filter_append]
  simp only [Option.toList_some, List.filter_cons, List.filter_nil]
set_option maxRecDepth 100000 in
set_option maxHeartbeats 4000000 in
theorem around_any (b : Nat) (v : Value) (l : List Fa) (p : Fa) (w : World) (rv : RdRow faR 99 b w v l) (hl : l.length ≤ 1048576) :
    Calls Try.prog 50 #[v, .agg #[.int .i64 p.pl, .int .i64 p.ds]] w fun e w' => ∃ va vb, e = .returned (.tuple #[va, vb]) ∧ OwnRow faR 99 0 w.heap.size w' va (aheadF p l) ∧ OwnRow faR 99 0 w.heap.size w' vb (behindF p l) ∧ Below w.heap.size w w' := by
  have rv0 := rv.lift (Nat.le_refl _)
  obtain ⟨A, c, rfl, hlc, hcm, hA, _⟩ := rv.at
  have HH := Lib.hid rv0; clear rv rv0
  go_enter Try.func50, Try.ntmps50
  go_wp2_with fail
  go_loopw [6, 7, 9, 10, 13, 20, 27] (fun va vb _ _ vk _ _ wr => ∃ k : Nat, vk = .int .i64 k ∧ k ≤ l.length ∧ OwnRow faR 99 0 (w.heap.size + 1) wr va (aheadF p (l.take k)) ∧ OwnRow faR 99 0 (w.heap.size + 1) wr vb (behindF p (l.take k)) ∧ Apart va vb ∧ Below w.heap.size w wr ∧
    IRow 99 wr w.heap.size [.int .i64 p.pl, .int .i64 p.ds]) (fun _ _ _ _ vk _ _ _ => l.length - (intOf vk).toNat)
  case atStart => exact ⟨0, rfl, Nat.zero_le _, OwnRow.nil .., OwnRow.nil .., (fun g hg => by cases hg), (Below.refl _ w).alloc (Nat.le_refl _) _, IRow.new w _ _⟩
  case round =>
    obtain ⟨k, rfl, hk, hO1, hO2, hap, hB, hI⟩ := hrel
    by_cases hlt' : k < l.length
    · have hz : (k : Int) < l.length := by omega
      have hvr := HH.out.below hB
      obtain ⟨A', c', hv', _, _, _, hat⟩ := hvr.at
      injection hv' with e1 e2 e3
      clear e2
      subst e1 e3
      obtain ⟨g, o, cs, hA', hg, hr, hc⟩ := hat k hlt'
      subst hA'
      obtain ⟨rfl, hok⟩ := faR_iff.1 hr
      have d0 := hc 0 _ rfl
      have d1 := hc 1 _ rfl
      rw [show faR.sz = 2 from rfl] at d0 d1
      simp only [Nat.add_zero] at d0
      have hta := ahead_take (p := p) hlt'
      have htb := behind_take (p := p) hlt'
      have hlx : (aheadF p (l.take k)).length ≤ 1048576 := Nat.le_trans (List.length_filter_le ..) (by rw [List.length_take]; omega)
      have hly : (behindF p (l.take k)).length ≤ 1048576 := Nat.le_trans (List.length_filter_le ..) (by rw [List.length_take]; omega)
      have hz1 := cfF_lt l[k] p
      have hz2 := cfF_gt l[k] p
      have hcm := forderB l[k] p
      generalize aheadF p (l.take k) = LA at *
      generalize behindF p (l.take k) = LB at *
      generalize l[k] = x at *
      obtain ⟨A6, c6, hv6⟩ := hO1.slice
      subst hv6
      obtain ⟨A7, c7, hv7⟩ := hO2.slice
      subst hv7
      have cI := hI.cell
      have hIl := hI.lt
      generalize hzz : cfF x p = z at *
      have hl8 : (LA.length + 1) * 16 ≤ 140737488355328 := by omega
      have hl9 : (LB.length + 1) * 16 ≤ 140737488355328 := by omega
      have HC := Lib.hid hcm; clear hcm
      obtain ⟨W1, hW1⟩ : ∃ W1, W1 = wr.alloc (.cells #[.int .i64 x.pl, .int .i64 x.ds] 99) := ⟨_, rfl⟩
      have j1 : IRow 99 W1 wr.heap.size [.int .i64 x.pl, .int .i64 x.ds] := by rw [hW1]; exact IRow.new wr _ _
      have hB1 : Below wr.heap.size wr W1 := by rw [hW1]; exact (Below.refl _ wr).alloc (Nat.le_refl _) _
      have HR := Lib.hid (And.intro hO1 (And.intro hO2 (And.intro hap (And.intro hB (And.intro hI (And.intro hta (And.intro htb (And.intro hl8 (And.intro hl9 (And.intro hok (And.intro j1 (And.intro hB1 hk))))))))))))
      clear hO1 hO2 hap hB hI hta htb hl8 hl9 hok hr hc hat hvr hlx hly hzz j1 hB1 hk
      go_wp2_with fail
      rw [← hW1]
      clear hW1
      refine (HC.out W1).mono ?_
      rintro er w3 ⟨rfl, hb3⟩
      obtain ⟨hO1, hO2, hap, hB, hI, hta, htb, hl8, hl9, hok, j1, hB1, hk⟩ := HR.out
      have hBr : Below wr.heap.size wr w3 := hB1.trans (hb3.mono hB1.size)
      have j3 := j1.kept (hb3.block _ j1.lt)
      have hI3 := hI.kept (hBr.block _ hI.lt)
      have hO13 := hO1.below hBr
      have hO23 := hO2.below hBr
      have hB3 := hB.trans (hBr.mono hB.size)
      have c3 := j3.cell
      have hl3 := j3.lt
      have HS := Lib.hid (And.intro hO13 (And.intro hO23 (And.intro hap (And.intro hB3 (And.intro hI3 (And.intro hta (And.intro htb (And.intro hl8 (And.intro hl9 (And.intro hok hk))))))))))
      have hsI := hI3.lt
      clear hO1 hO2 hap hB hI hta htb hl8 hl9 hok j1 hB1 hk HR hBr j3 hI3 hO13 hO23 hB3 hb3
      by_cases h1 : ltF x p = true
      · rw [h1] at hz1
        have h2 := ltF_asym h1
        go_wp2_with (at_builtin; go_loud (refine wp_push (R := faR) (W := w3) rfl (.tmp 23) (.tmp 25) 91 (.agg #[.int .i64 0, .int .i64 0]) 16 rfl Try.underlying91 info_far rfl (by decide) (by decide) (.slice A6 LA.length c6) LA x #[.int .i64 x.pl, .int .i64 x.ds] (0, 0) rfl rfl (faR_iff.2 ⟨rfl, HS.out.2.2.2.2.2.2.2.2.2.1⟩) HS.out.1 hsI (fun h => by cases h) (Nat.zero_le _) HS.out.2.2.2.2.2.2.2.1 ?_); intro v1 w1 hO1' hG1 hat1 _)
        obtain ⟨hO13, hO23, hap, hB3, hI3, hta, htb, hl8, hl9, hok, hk⟩ := HS.out
        rw [if_pos h1] at hta
        rw [h2] at htb
        simp only [Bool.false_eq_true, if_false, List.append_nil] at htb
        exact ⟨⟨k + 1, by go_num, by omega, by rw [hta]; exact hO1', by rw [htb]; exact hO23.aside rfl hG1 hap, (hap.symm.push hO23 hat1).symm, hB3.grown hG1 hB3.size (fun g hg => by have := (hO13.lt _ hg).1; omega), hI3.kept (hG1.block _ hI3.lt (fun e => by have := (hO13.lt _ e.symm).1; omega))⟩, by simp [intOf]; omega⟩
      · have h1' : ltF x p = false := by simpa using h1
        rw [h1'] at hz1
        by_cases h2 : ltF p x = true
        · rw [h2] at hz2
          go_wp2_with (at_builtin; go_loud (refine wp_push (R := faR) (W := w3) rfl (.tmp 30) (.tmp 32) 91 (.agg #[.int .i64 0, .int .i64 0]) 16 rfl Try.underlying91 info_far rfl (by decide) (by decide) (.slice A7 LB.length c7) LB x #[.int .i64 x.pl, .int .i64 x.ds] (0, 0) rfl rfl (faR_iff.2 ⟨rfl, HS.out.2.2.2.2.2.2.2.2.2.1⟩) HS.out.2.1 hsI (fun h => by cases h) (Nat.zero_le _) HS.out.2.2.2.2.2.2.2.2.1 ?_); intro v1 w1 hO1' hG1 hat1 _)
          obtain ⟨hO13, hO23, hap, hB3, hI3, hta, htb, hl8, hl9, hok, hk⟩ := HS.out
          rw [if_pos h2] at htb
          rw [h1'] at hta
          simp only [Bool.false_eq_true, if_false, List.append_nil] at hta
          exact ⟨⟨k + 1, by go_num, by omega, by rw [hta]; exact hO13.aside rfl hG1 hap.symm, by rw [htb]; exact hO1', hap.push hO13 hat1, hB3.grown hG1 hB3.size (fun g hg => by have := (hO23.lt _ hg).1; omega), hI3.kept (hG1.block _ hI3.lt (fun e => by have := (hO23.lt _ e.symm).1; omega))⟩, by simp [intOf]; omega⟩
        · have h2' : ltF p x = false := by simpa using h2
          rw [h2'] at hz2
          go_wp2_with fail
          obtain ⟨hO13, hO23, hap, hB3, hI3, hta, htb, hl8, hl9, hok, hk⟩ := HS.out
          rw [h1'] at hta
          rw [h2'] at htb
          simp only [Bool.false_eq_true, if_false, List.append_nil] at hta htb
          exact ⟨⟨k + 1, by go_num, by omega, by rw [hta]; exact hO13, by rw [htb]; exact hO23, hap, hB3, hI3⟩, by simp [intOf]; omega⟩
    · obtain rfl : k = l.length := by omega
      rw [List.take_length] at hO1 hO2
      have HR := Lib.hid (And.intro hO1 (And.intro hO2 hB)); clear hO1 hO2 hB hI hap
      go_wp2_with fail
      go_ret2
      exact ⟨_, _, rfl, HR.out.1.base (Nat.le_succ _), HR.out.2.1.base (Nat.le_succ _), HR.out.2.2⟩
end Go.Proofs.Ytlcpfnhindfkfaa
