/-
  split.Halve, Bounds.
-/
import Derived.Test.YtlcpfnhindfkfaaFar3
namespace Go.Proofs.Ytlcpfnhindfkfaa
open Go Go.RowKit Go.WW
theorem filter_take {f : Fa → Bool} {l : List Fa} {k : Nat} (h : k < l.length) : (l.take (k + 1)).filter f = (l.take k).filter f ++ (if f l[k] = true then [l[k]] else []) := by
  rw [List.take_add_one, List.getElem?_eq_getElem h, List.filter_append]
  simp only [Option.toList_some, List.filter_cons, List.filter_nil]
set_option maxRecDepth 100000 in
set_option maxHeartbeats 4000000 in
theorem halve_any (b : Nat) (v : Value) (l : List Fa) (k0 : Nat) (w : World) (rv : RdRow faR 99 b w v l) (hl : l.length ≤ 1048576) (hk0 : k0 < l.length) :
    Calls Try.prog 37 #[v, .int .i64 k0] w fun e w' => ∃ va vb, e = .returned (.tuple #[va, vb]) ∧ OwnRow faR 99 0 w.heap.size w' va (halveF l k0).1 ∧ OwnRow faR 99 0 w.heap.size w' vb (halveF l k0).2 ∧ Below w.heap.size w w' := by
  have hhv : halveF l k0 = (l.filter (fun x => ltF x (nthF l k0)), l.filter (fun x => !ltF x (nthF l k0))) := by unfold halveF; rw [if_pos hk0]
  rw [hhv]
  clear hhv
  have hn0 := nth_any b v l k0 w rv hl hk0
  generalize nthF l k0 = p at hn0 ⊢
  obtain ⟨A, c, rfl, hlc, hcm, hA, _⟩ := rv.at
  have hmx : max (k0 : Int) 0 = k0 := by omega
  have HH := Lib.hid rv; clear rv hA
  go_enter Try.func37, Try.ntmps37
  go_wp2_with fail
  refine hn0.mono ?_
  rintro er w1 ⟨_, rfl, hB0⟩
  obtain ⟨W, hW⟩ : ∃ W, W = w1.alloc (.cells #[.int .i64 p.pl, .int .i64 p.ds] 99) := ⟨_, rfl⟩
  have hBW : Below w.heap.size w W := by rw [hW]; exact hB0.alloc hB0.size _
  have hsw := hB0.size
  have iW : IRow 99 W w1.heap.size [.int .i64 p.pl, .int .i64 p.ds] := by rw [hW]; exact IRow.new w1 _ _
  have hrW := HH.out.below hBW
  have HW := Lib.hid (And.intro hBW (And.intro iW hrW)); clear hBW iW hB0 hn0 hmx hrW
  go_wp2_with fail
  rw [← hW]
  go_loopw [8, 9, 11, 25] (fun va vb _ vk wr => ∃ k : Nat, vk = .int .i64 k ∧ k ≤ l.length ∧ OwnRow faR 99 0 W.heap.size wr va ((l.take k).filter (fun x => ltF x p)) ∧ OwnRow faR 99 0 W.heap.size wr vb ((l.take k).filter (fun x => !ltF x p)) ∧ Apart va vb ∧ Below W.heap.size W wr) (fun _ _ _ vk _ => l.length - (intOf vk).toNat)
  case atStart => exact ⟨0, rfl, Nat.zero_le _, OwnRow.nil .., OwnRow.nil .., (fun g hg => by cases hg), Below.refl _ _⟩
  case round =>
    clear hW
    obtain ⟨k, rfl, hk, hO1, hO2, hap, hB⟩ := hrel
    by_cases hlt' : k < l.length
    · have hz : (k : Int) < l.length := by omega
      have hvr := HW.out.2.2.below hB
      have hI := HW.out.2.1.kept (hB.block _ HW.out.2.1.lt)
      obtain ⟨A', c', hv', _, _, _, hat⟩ := hvr.at
      injection hv' with e1 e2 e3
      clear e2
      subst e1 e3
      obtain ⟨g, o, cs, hA', hg, hr, hc⟩ := hat k hlt'
      subst hA'
      obtain ⟨rfl, hok⟩ := faR_iff.1 hr
      have d0 := hc 0 _ rfl
      have d1 := hc 1 _ rfl
      rw [show faR.sz = 2 from rfl] at d0 d1
      simp only [Nat.add_zero] at d0
      have hta := filter_take (f := fun x => ltF x p) hlt'
      have htb := filter_take (f := fun x => !ltF x p) hlt'
      have hlx : ((l.take k).filter (fun x => ltF x p)).length ≤ 1048576 := Nat.le_trans (List.length_filter_le ..) (by rw [List.length_take]; omega)
      have hly : ((l.take k).filter (fun x => !ltF x p)).length ≤ 1048576 := Nat.le_trans (List.length_filter_le ..) (by rw [List.length_take]; omega)
      have hz1 := cfF_lt l[k] p
      have hcm := forderB l[k] p
      generalize (l.take k).filter (fun x => ltF x p) = LA at *
      generalize (l.take k).filter (fun x => !ltF x p) = LB at *
      generalize l[k] = x at *
      obtain ⟨A6, c6, hv6⟩ := hO1.slice
      subst hv6
      obtain ⟨A7, c7, hv7⟩ := hO2.slice
      subst hv7
      have cI := hI.cell
      have hIl := hI.lt
      generalize hzz : cfF x p = z at *
      have hl8 : (LA.length + 1) * 16 ≤ 140737488355328 := by omega
      have hl9 : (LB.length + 1) * 16 ≤ 140737488355328 := by omega
      have HC := Lib.hid hcm; clear hcm
      obtain ⟨W1, hW1⟩ : ∃ W1, W1 = wr.alloc (.cells #[.int .i64 x.pl, .int .i64 x.ds] 99) := ⟨_, rfl⟩
      have j1 : IRow 99 W1 wr.heap.size [.int .i64 x.pl, .int .i64 x.ds] := by rw [hW1]; exact IRow.new wr _ _
      have hB1 : Below wr.heap.size wr W1 := by rw [hW1]; exact (Below.refl _ wr).alloc (Nat.le_refl _) _
      have HR := Lib.hid (And.intro hO1 (And.intro hO2 (And.intro hap (And.intro hB (And.intro hta (And.intro htb (And.intro hl8 (And.intro hl9 (And.intro hok (And.intro j1 (And.intro hB1 hk)))))))))))
      clear hO1 hO2 hap hB hI hta htb hl8 hl9 hok hr hc hat hvr hlx hly hzz j1 hB1 hk
      go_wp2_with fail
      rw [← hW1]
      clear hW1
      refine (HC.out W1).mono ?_
      rintro er w3 ⟨rfl, hb3⟩
      obtain ⟨hO1, hO2, hap, hB, hta, htb, hl8, hl9, hok, j1, hB1, hk⟩ := HR.out
      have hBr : Below wr.heap.size wr w3 := hB1.trans (hb3.mono hB1.size)
      have j3 := j1.kept (hb3.block _ j1.lt)
      have hO13 := hO1.below hBr
      have hO23 := hO2.below hBr
      have hB3 := hB.trans (hBr.mono hB.size)
      have c3 := j3.cell
      have hl3 := j3.lt
      have hsI := hB3.size
      have HS := Lib.hid (And.intro hO13 (And.intro hO23 (And.intro hap (And.intro hB3 (And.intro hta (And.intro htb (And.intro hl8 (And.intro hl9 (And.intro hok hk)))))))))
      clear hO1 hO2 hap hB hta htb hl8 hl9 hok j1 hB1 hk HR hBr j3 hO13 hO23 hB3 hb3
      by_cases h1 : ltF x p = true
      · rw [h1] at hz1
        go_wp2_with (at_builtin; go_loud (refine wp_push (R := faR) (W := w3) rfl (.tmp 33) (.tmp 35) 91 (.agg #[.int .i64 0, .int .i64 0]) 16 rfl Try.underlying91 info_far rfl (by decide) (by decide) (.slice A6 LA.length c6) LA x #[.int .i64 x.pl, .int .i64 x.ds] (0, 0) rfl rfl (faR_iff.2 ⟨rfl, HS.out.2.2.2.2.2.2.2.2.1⟩) HS.out.1 hsI (fun h => by cases h) (Nat.zero_le _) HS.out.2.2.2.2.2.2.1 ?_); intro v1 w4 hO1' hG1 hat1 _)
        obtain ⟨hO13, hO23, hap, hB3, hta, htb, hl8, hl9, hok, hk⟩ := HS.out
        rw [h1] at htb
        rw [if_pos h1] at hta
        simp only [Bool.not_true, Bool.false_eq_true, if_false, List.append_nil] at htb
        exact ⟨⟨k + 1, by go_num, by omega, by rw [hta]; exact hO1', by rw [htb]; exact hO23.aside rfl hG1 hap, (hap.symm.push hO23 hat1).symm, hB3.grown hG1 hB3.size (fun g hg => (hO13.lt _ hg).1)⟩, by simp [intOf]; omega⟩
      · have h1' : ltF x p = false := by simpa using h1
        rw [h1'] at hz1
        go_wp2_with (at_builtin; go_loud (refine wp_push (R := faR) (W := w3) rfl (.tmp 37) (.tmp 39) 91 (.agg #[.int .i64 0, .int .i64 0]) 16 rfl Try.underlying91 info_far rfl (by decide) (by decide) (.slice A7 LB.length c7) LB x #[.int .i64 x.pl, .int .i64 x.ds] (0, 0) rfl rfl (faR_iff.2 ⟨rfl, HS.out.2.2.2.2.2.2.2.2.1⟩) HS.out.2.1 hsI (fun h => by cases h) (Nat.zero_le _) HS.out.2.2.2.2.2.2.2.1 ?_); intro v1 w4 hO1' hG1 hat1 _)
        obtain ⟨hO13, hO23, hap, hB3, hta, htb, hl8, hl9, hok, hk⟩ := HS.out
        rw [h1'] at hta htb
        simp only [Bool.not_false, Bool.false_eq_true, if_false, if_true, List.append_nil] at hta htb
        exact ⟨⟨k + 1, by go_num, by omega, by rw [hta]; exact hO13.aside rfl hG1 hap.symm, by rw [htb]; exact hO1', hap.push hO13 hat1, hB3.grown hG1 hB3.size (fun g hg => (hO23.lt _ hg).1)⟩, by simp [intOf]; omega⟩
    · obtain rfl : k = l.length := by omega
      rw [List.take_length] at hO1 hO2
      have HR := Lib.hid (And.intro hO1 (And.intro hO2 hB)); clear hO1 hO2 hB hap
      go_wp2_with fail
      go_ret2
      have := HW.out.1.size
      exact ⟨_, _, rfl, HR.out.1.base this, HR.out.2.1.base this, HW.out.1.trans (HR.out.2.2.mono this)⟩
set_option maxRecDepth 100000 in
set_option maxHeartbeats 2000000 in
theorem bounds_any (b : Nat) (v : Value) (l : List Fa) (w : World) (rv : RdRow faR 99 b w v l) (hl : l.length ≤ 1048576) :
    Calls Try.prog 38 #[v] w fun e w' => e = .returned (.tuple #[.int .i64 (bndN l).1, .int .i64 (bndN l).2]) ∧ Below w.heap.size w w' := by
  obtain ⟨A, c, rfl, hlc, hcm, hA, hat⟩ := rv.at
  by_cases hn : l = []
  · subst hn
    clear rv hat hA
    go_enter Try.func38, Try.ntmps38
    go_wp2_with fail
    go_ret2
    exact ⟨rfl, Below.refl _ _⟩
  · have hpos : 0 < l.length := List.length_pos_iff.2 hn
    have hb0 : bndN l = bndK l l.length := by unfold bndN; rw [if_neg hn]
    rw [hb0]
    clear hb0
    obtain ⟨g, o, c0, rfl, hg, hr0, hc0⟩ := hat 0 hpos
    obtain ⟨rfl, k0⟩ := faR_iff.1 hr0
    have d1 := hc0 1 _ rfl
    rw [show faR.sz = 2 from rfl] at d1
    simp only [Nat.zero_mul, Nat.add_zero] at d1
    have hz0 : ((l.length : Int) == 0) = false := beq_eq_false_iff_ne.2 (by omega)
    have hz9 : decide (l.length = 0) = false := decide_eq_false (by omega)
    have hst : bndK l 0 = (l[0].ds, l[0].ds) := by unfold bndK; simp [hpos]
    generalize l[0].ds = z at d1 hst
    have HH := Lib.hid (And.intro rv hst); clear rv hat hA hc0 hr0 k0 hst
    go_enter Try.func38, Try.ntmps38
    go_wp2_with fail
    refine wp_region_hoist [true, true, true, true, true, true, true, true, true, true] 0 (fun w' => ∃ n, w' = World.drewN w n) (by kernel_rfl) (by kernel_rfl) ⟨1, rfl⟩ ?_
    simp only [pickR, pickE, List.take, List.drop, wpLate]
    repeat (go_big_quiet_step (fail))
    refine wpQuiet_nil ?_
    go_wp2_with fail
    apply only_mk
    go_wp2_with fail
    go_loopw [4, 5, 7, 21] (fun lo hi _ vk wr => ∃ k : Nat, vk = .int .i64 k ∧ k ≤ l.length ∧ lo = .int .i64 (bndK l k).1 ∧ hi = .int .i64 (bndK l k).2 ∧ Below w.heap.size w wr) (fun _ _ _ vk _ => l.length - (intOf vk).toNat)
    case atStart => exact ⟨0, rfl, Nat.zero_le _, by rw [HH.out.2], by rw [HH.out.2], bl_drewN w 1⟩
    case round =>
      obtain ⟨k, rfl, hk, rfl, rfl, hB⟩ := hrel
      by_cases hlt' : k < l.length
      · have hz : (k : Int) < l.length := by omega
        have hvr := HH.out.1.below hB
        obtain ⟨A', c', hv', _, _, _, hat⟩ := hvr.at
        injection hv' with e1 e2 e3
        clear e2
        subst e1 e3
        obtain ⟨g', o', cs, hA', hg', hr, hc⟩ := hat k hlt'
        injection hA' with hA'
        injection hA' with hA' hA2
        subst hA' hA2
        obtain ⟨rfl, hok⟩ := faR_iff.1 hr
        have e0 := hc 0 _ rfl
        have e1 := hc 1 _ rfl
        rw [show faR.sz = 2 from rfl] at e0 e1
        simp only [Nat.add_zero] at e0
        have hst := bndK_succ hlt'
        generalize bndK l k = B at *
        generalize l[k] = x at *
        obtain ⟨B1, B2⟩ := B
        have HR := Lib.hid (And.intro hst (And.intro hB hk)); clear hst hB hk hr hc hat hvr hok
        go_wp2_with fail
        refine wp_region_hoist [true, true, true, true, true, true, true, true, true, true] 0 (fun w' => ∃ n, w' = World.drewN _ n) (by kernel_rfl) (by kernel_rfl) ⟨1, rfl⟩ ?_
        simp only [pickR, pickE, List.take, List.drop, wpLate]
        repeat (go_big_quiet_step (fail))
        refine wpQuiet_nil ?_
        go_wp2_with fail
        apply only_mk
        go_wp2_with fail
        obtain ⟨hst, hB, hk⟩ := HR.out
        exact ⟨⟨k + 1, by go_num, by omega, by rw [hst], by rw [hst], (hB.alloc hB.size _).drew⟩, by simp [intOf]; omega⟩
      · obtain rfl : k = l.length := by omega
        have HR := Lib.hid hB; clear hB
        go_wp2_with fail
        go_ret2
        exact ⟨rfl, HR.out⟩
end Go.Proofs.Ytlcpfnhindfkfaa
