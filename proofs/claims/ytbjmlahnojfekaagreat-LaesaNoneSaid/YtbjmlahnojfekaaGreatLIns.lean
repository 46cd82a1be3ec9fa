/-
  slices.Insert at the end; laesa: put at the end without a new pivot.
-/
import Derived.Test.YtbjmlahnojfekaaGreatRow
import Derived.Test.YtbjmlahnojfekaaGreatPlace
import Derived.Deep.DeepCutAuto
namespace Go.Proofs.YtbjmlahnojfekaaGreat
open Go Go.RowKit Go.WW
theorem info_lr : (Tryz.prog.info? 101).map (fun i => (i.zero, i.size, i.bytes)) = some (some (.agg #[.int .u64 0, .int .i64 0, .slice none 0 0, .string ⟨#[]⟩, .slice none 0 0]), lrR.sz, 80) := by kernel_rfl
set_option maxRecDepth 100000 in
set_option maxHeartbeats 2000000 in
theorem insEnd_any (w : World) (vr va : Value) (rows : List Lw) (x : Lw) (hO : OwnRow lrR 101 0 0 w vr rows) (hV : RdRow lrR 101 0 w va [x]) (hn : rows.length ≤ 1048575) :
    Calls Tryz.prog 73 #[vr, .int .i64 rows.length, va] w fun r w' => ∃ v, r = .returned v ∧ OwnRow lrR 101 0 0 w' v (rows ++ [x]) ∧ w.grownBy w' vr.ownBlock ∧ (v.ownBlock = vr.ownBlock ∨ v.ownBlock = some w.heap.size) := by
  have hR := hO.read
  obtain ⟨A, c, rfl, h1, h2, h3, _⟩ := hR.at
  obtain ⟨Av, cv, rfl, _⟩ := hV.at
  have z1 : (rows.length : Int) ≤ c := by omega
  have hl8 : (rows.length + [x].length) * 80 ≤ 140737488355328 := by simp; omega
  have HH := Lib.hid (And.intro hO (And.intro hV hl8)); clear hO hV hl8 hR
  go_enter Tryz.func73, Tryz.ntmps73
  go_wp2_with (at_builtin; refine wp_cat (R := lrR) rfl (.tmp 23) (.tmp 24) 59 _ 80 rfl Tryz.underlying59 info_lr rfl (by decide) (by decide) (.slice A rows.length _) (.slice Av 1 cv) rows [x] rfl rfl HH.out.2.1 HH.out.1 (Nat.zero_le _) (by decide) (Nat.le_refl _) HH.out.2.2 ?_; intro v1 w1 hO1 hG1 hb1 _)
  all_goals
    go_ret
    cases A <;> exact ⟨_, rfl, hO1, hG1, hb1⟩
set_option maxHeartbeats 2000000 in
/-- A row in which no distance is 0. -/
theorem index_any (b : Nat) (w : World) (v : Value) (l : List Int) (x : Int) (hv : RdRow intR 3 b w v l) : Calls Tryz.prog 109 #[v, .int .i64 x] w fun r w' => ∃ i : Int, r = .returned (.int .i64 i) ∧ (0 ≤ i ↔ x ∈ l) ∧ w' = w := by
  obtain ⟨A, c, rfl, _⟩ := hv.at
  have hlen := hv.len
  have HH := Lib.hid hv; clear hv
  go_enter Tryz.func109, Tryz.ntmps109
  go_wp2_with fail
  go_loopw [5, 8] (fun _ vk wr => ∃ k : Nat, vk = .int .i64 k ∧ k ≤ l.length ∧ x ∉ l.take k ∧ wr = w) (fun _ vk _ => l.length - (intOf vk).toNat)
  case atStart => exact ⟨0, rfl, Nat.zero_le _, by simp, rfl⟩
  case round =>
    obtain ⟨k, rfl, hk, hx, rfl⟩ := hrel
    by_cases hlt : k < l.length
    · have z1 : (k : Int) < l.length := by omega
      obtain ⟨g, o, rfl, hg, hc⟩ := HH.out.intAt k hlt
      have hy : l.getD k 0 = l[k] := by rw [List.getD_eq_getElem?_getD, List.getElem?_eq_getElem hlt]; rfl
      rw [hy] at hc
      obtain ⟨y, hy2⟩ : ∃ y, y = l[k] := ⟨_, rfl⟩
      rw [← hy2] at hc
      have ht : l.take (k + 1) = l.take k ++ [y] := by rw [hy2, List.take_add_one, List.getElem?_eq_getElem hlt]; rfl
      have HX := Lib.hid (And.intro hx (And.intro ht hy2)); clear hx ht hy2 hy
      by_cases he : x = y
      · subst he
        go_wp2_with fail
        go_ret
        exact ⟨k, rfl, ⟨fun _ => by rw [HX.out.2.2]; exact List.getElem_mem .., fun _ => by omega⟩, rfl⟩
      · have he' : (x == y) = false := beq_eq_false_iff_ne.2 he
        go_wp2_with fail
        refine ⟨⟨k + 1, by go_num, by omega, ?_, by first | rfl | trivial⟩, by simp [intOf]; omega⟩
        rw [HX.out.2.1, List.mem_append]
        rintro (h | h)
        · exact HX.out.1 h
        · exact he (by simpa using h)
    · obtain rfl : k = l.length := by omega
      rw [List.take_length] at hx
      have HX := Lib.hid hx; clear hx
      go_wp2_with fail
      go_ret
      exact ⟨-1, rfl, ⟨fun h => by omega, fun h => absurd h HX.out⟩, rfl⟩
set_option maxHeartbeats 2000000 in
theorem contains_any (b : Nat) (w : World) (v : Value) (l : List Int) (x : Int) (hv : RdRow intR 3 b w v l) : Calls Tryz.prog 72 #[v, .int .i64 x] w fun r w' => r = .returned (.bool (decide (x ∈ l))) ∧ w' = w := by
  obtain ⟨A, c, rfl, _⟩ := hv.at
  obtain ⟨F, hF⟩ : ∃ F, F = decide (x ∈ l) := ⟨_, rfl⟩
  rw [← hF]
  have HH := Lib.hid (And.intro hv hF); clear hv hF
  go_enter Tryz.func72, Tryz.ntmps72
  go_wp2_with fail
  refine (index_any b w _ l x HH.out.1).mono ?_
  rintro er w1 ⟨i, rfl, hi, rfl⟩
  go_wp2_with fail
  go_ret
  refine ⟨?_, rfl⟩
  rw [HH.out.2]
  congr 2
set_option maxRecDepth 100000 in
set_option maxHeartbeats 4000000 in
theorem putEnd_any {own : Nat → Prop} {w : World} {t mt : Nat} {m most calls : Int} {piv : List Ob} {rows : List Lw} (b : Nat) (h : LT own w t mt m most calls piv rows) (hb : ∀ g, own g → b ≤ g) (hc : (Lit.int .i64 calls).wf = true) (x : It) (cx : List Value) (hx : itR.rd b w cx x) (sx : Short x.ob) (hn : piv.length ≤ 1048576)
    (hm : most ≤ piv.length) (hs : asc (rows.map (·.it.id))) (hgt : ∀ i ∈ rows.map (·.it.id), i < x.id) (hrn : rows.length ≤ 1048575) :
    Calls Tryz.prog 41 #[.pointer (some ⟨t, 0, none⟩), .agg cx.toArray] w fun r w' => r = .returned (.tuple #[]) ∧ Fr (nfL own w) w w' ∧ LT (MoreL own w) w' t mt m most (wrap64 (calls + piv.length)) piv (rows ++ [⟨x, rowL m x.ob piv⟩]) := by
  obtain ⟨vx, rfl, hid, hxo⟩ := itR_iff.1 hx
  obtain ⟨Ax, nx, cx, hvx⟩ : ∃ A n c, vx = .slice A n c := by obtain ⟨v', hv2, _, hr, _⟩ := obR_iff.1 hxo; simp only [List.cons.injEq, and_true, true_and] at hv2; subst hv2; obtain ⟨A, c, e, _⟩ := hr.at; exact ⟨A, _, c, e⟩
  subst hvx
  have HH := Lib.hid (And.intro h (And.intro hb (And.intro hc (And.intro hxo (And.intro hs hgt))))); clear h hb hc hxo hx hs hgt
  have hbx : ∀ o : Obj, Below w.heap.size w (w.alloc o) := fun o => (Below.refl _ w).alloc (Nat.le_refl _) o
  have HB := Lib.hid hbx; clear hbx
  go_enter Tryz.func41, Tryz.ntmps41
  go_wp2_with fail
  refine (row_any b (HH.out.1.below (HB.out _)) HH.out.2.1 HH.out.2.2.1 x.ob _ (obR_below HH.out.2.2.2.1 (HB.out _)) sx hn).mono ?_
  rintro er w1 ⟨vr1, rfl, hO1, hF1, hT1⟩
  obtain ⟨vp, vr, hrow, hP, hR, hop, hor⟩ := hT1.mem
  obtain ⟨Ap, cp, hvp⟩ := hP.slice
  obtain ⟨Ar, cr, hvr⟩ := hR.slice
  subst hvp hvr
  obtain ⟨A1, c1, hv1⟩ := hO1.slice
  subst hv1
  have c0 := hrow.cell
  have hlt := hrow.lt
  have i0 : IRow 34 w1 w.heap.size [.int .u64 x.id, .int .i64 x.ob.tag, .slice Ax nx cx, .string x.ob.str] := (IRow.new w _ _).kept (hF1.block _ (by simp) (fun e => by have := HH.out.1.met.lt; omega))
  have cb := i0.cell
  have zz : decide ((piv.length : Int) < most) = false := decide_eq_false (by omega)
  have H1 := Lib.hid (And.intro hO1 (And.intro hF1 (And.intro hT1 (And.intro hrow (And.intro hP (And.intro hR (And.intro hop (And.intro hor i0))))))))
  clear hO1 hF1 hT1 hrow hP hR hop hor i0
  go_wp2_with fail
  refine wp_region_sched [([true, true, true, true, true, true, true, true, true, true, true, true, false, false, false], 12)] [false, false, false, false, false, false, false, false, false, false, false, false, false, true, true] (fun w' => ∃ n, w' = World.drewN w1 n) (by kernel_rfl) (by kernel_rfl) ⟨1, rfl⟩ ?_
  simp only [wpSch, pickR, pickN]
  repeat (go_big_quiet_step (fail))
  refine wpQuiet_nil ?_
  go_wp2_with fail
  apply only_mk
  refine And.intro ⟨1, rfl⟩ ?_
  repeat (go_big_quiet_step (fail))
  refine wpQuiet_nil ?_
  go_wp2_with fail
  refine (place_any (H1.out.2.2.1.below (bl_drewN w1 1)) x.id HH.out.2.2.2.2.1 (by omega)).mono ?_
  rintro er w2 ⟨ix, rfl, hpos, hb2⟩
  have hix : ix = rows.length := by
    have h1 := hpos.le
    rw [List.length_map] at h1
    rcases Nat.lt_or_ge ix rows.length with h2 | h2
    · have h3 := hpos.hi ix (Nat.le_refl _) (by rw [List.length_map]; exact h2)
      have h4 := HH.out.2.2.2.2.2 ((rows.map (·.it.id)).getD ix 0) (by rw [List.getD_eq_getElem?_getD, List.getElem?_eq_getElem (by rw [List.length_map]; exact h2)]; exact List.getElem_mem ..)
      omega
    · omega
  subst hix
  clear hpos
  obtain ⟨hO1, hF1, hT1, hrow, hP, hR, hop, hor, i0⟩ := H1.out
  have hbb : Below w1.heap.size w1 w2 := (bl_drewN w1 1).trans hb2
  have hrow2 := hrow.kept (hbb.block _ hrow.lt)
  have i2 := i0.kept (hbb.block _ i0.lt)
  have hO2 := hO1.below hbb
  have hR2 := hR.below hbb
  have hP2 := hP.below hbb
  have hT2 := hT1.below hbb
  have hF2 : Fr (fun g => g = mt) (w.alloc (.cells #[.int .u64 x.id, .int .i64 x.ob.tag, .slice Ax nx cx, .string x.ob.str] 34)) w2 := hF1.below hbb hF1.size
  generalize decide (x.id ∈ rows.map (·.it.id)) = F at *
  clear c0 cb hlt
  have hlt := hrow2.lt
  have hwl := i2.lt
  obtain ⟨C0, hC0⟩ : ∃ C0 : World → Prop, C0 = fun w' => w'.heap[t]? = w2.heap[t]? ∧ w'.heap[w.heap.size]? = w2.heap[w.heap.size]? := ⟨_, rfl⟩
  have a1 := hrow2.cw (C0 := C0) (fun w' hw => by subst hC0; exact hw.1)
  have a2 := i2.cw (C0 := C0) (fun w' hw => by subst hC0; exact hw.2)
  have c0 := hrow2.cell
  have cb := i2.cell
  have hne : Nonempty (CW C0) := by subst hC0; exact ⟨⟨w2, rfl, rfl⟩⟩
  have H2 := Lib.hid (And.intro hrow2 (And.intro i2 (And.intro hO2 (And.intro hR2 (And.intro hT2 (And.intro hF2 (And.intro hC0 (And.intro hor (And.intro hop hP2)))))))))
  clear hrow2 i2 hO2 hR2 hT2 hF2 hC0 hP2 hO1 hF1 hT1 hrow hP hR hop hor i0 H1 hb2 hbb
  go_wp2_with fail
  refine wp_region_hoist [true, true, true, true, true, true, true, true, true, true, false, false, true, false, false, false, false, false, false] 5 (fun w' => ∃ z : CW C0, w' = z.w) (by kernel_rfl) (by kernel_rfl) ?_ ?_
  · have h0 : C0 w2.drew := by rw [H2.out.2.2.2.2.2.2.1]; exact ⟨rfl, rfl⟩
    exact ⟨⟨_, h0⟩, rfl⟩
  simp only [pickR, pickE, List.take, List.drop, wpLate]
  repeat (go_big_quiet_step (fail))
  refine wpQuiet_nil ?_
  go_wp2_with fail
  have hxw : obR.rd b w2 _ x.ob := obR.keep _ _ _ _ _ (H2.out.2.2.2.2.2.1.kp (fun g hg => by subst hg; exact not_sta (HH.out.1.met.alloc _) (HH.out.2.1 _ HH.out.1.om) (by decide))) (obR_below HH.out.2.2.2.1 (HB.out _))
  refine (oclone_any b x.ob _ _ (obR_below hxw (bl_drewN w2 1)) sx).mono ?_
  rintro er w4 ⟨cs, rfl, hcs, hb4⟩
  obtain ⟨v4, rfl, hw4, hr4, hs4⟩ := obR_iff.1 hcs
  obtain ⟨A4, c4, hv4, _⟩ := hr4.at
  subst hv4
  have hb4' : Below w2.heap.size w2 w4 := (bl_drewN w2 1).trans hb4
  have hC4 : C0 w4 := by rw [H2.out.2.2.2.2.2.2.1]; exact ⟨hb4'.block _ hlt, hb4'.block _ hwl⟩
  have hlr : lrR.rd 0 w4 [.int .u64 x.id, .int .i64 x.ob.tag, .slice A4 x.ob.vec.length c4, .string x.ob.str, .slice A1 (rowL m x.ob piv).length c1] ⟨x, rowL m x.ob piv⟩ := lrR_iff.2 ⟨_, _, rfl, itR_iff.2 ⟨_, rfl, hid, hcs⟩, (H2.out.2.2.1.below hb4').read⟩
  have hR4 := (H2.out.2.2.2.1.below hb4').alloc (.cells #[.int .u64 x.id, .int .i64 x.ob.tag, .slice A4 x.ob.vec.length c4, .string x.ob.str, .slice A1 (rowL m x.ob piv).length c1] 101)
  have hone := (OwnRow.one (e := 101) (n0 := 0) hlr (Nat.zero_le _)).read
  have h0 : C0 (w4.alloc (.cells #[.int .u64 x.id, .int .i64 x.ob.tag, .slice A4 x.ob.vec.length c4, .string x.ob.str, .slice A1 (rowL m x.ob piv).length c1] 101)) := by
    have h := hC4
    rw [H2.out.2.2.2.2.2.2.1] at h ⊢
    have hz := hb4'.size
    exact ⟨(Below.heap_alloc _ _ _ (by omega)).trans h.1, (Below.heap_alloc _ _ _ (by omega)).trans h.2⟩
  have H4 := Lib.hid (And.intro hb4' (And.intro hR4 (And.intro hone h0)))
  clear hxw hcs hr4 hb4 hb4' hlr hR4 hone h0
  go_wp2_with fail
  (try apply only_mk); refine And.intro ⟨⟨_, hC4⟩, rfl⟩ ?_
  go_wp2_with fail
  (try apply only_mk); refine And.intro ⟨⟨_, hC4⟩, rfl⟩ ?_
  go_wp2_with fail
  (try apply only_mk); refine And.intro ⟨⟨_, hC4⟩, rfl⟩ ?_
  go_wp2_with fail
  (try apply only_mk); refine And.intro ⟨⟨_, H4.out.2.2.2⟩, rfl⟩ ?_
  go_wp2_with fail
  refine (insEnd_any _ _ _ rows ⟨x, rowL m x.ob piv⟩ H4.out.2.1 H4.out.2.2.1 hrn).mono ?_
  rintro er w5 ⟨v5, rfl, hO5, hG5, hb5⟩
  obtain ⟨hrow2, i2, hO2, hR2, hT2, hF2, hC0, hor, hop, hP2⟩ := H2.out
  obtain ⟨hb4, hR4, hone, h0⟩ := H4.out
  have hz4 := hb4.size
  have hne5 : ∀ {g T : Nat} {d : Array Value} {fr : Nat × Nat}, w2.heap[g]? = some (.cells d T fr) → T ≠ 101 → w5.heap[g]? = w2.heap[g]? := fun {g T d fr} hh hT => by
    have hg := (Array.getElem?_eq_some_iff.1 hh).1
    have h4 := (Below.heap_alloc w4 (.cells #[.int .u64 x.id, .int .i64 x.ob.tag, .slice A4 x.ob.vec.length c4, .string x.ob.str, .slice A1 (rowL m x.ob piv).length c1] 101) g (by omega)).trans (hb4.block g hg)
    refine (hG5.block g (by simp; omega) (fun e => ?_)).trans h4
    obtain ⟨d', hd⟩ := hR2.blk e.symm
    exact blk_ne hh hd hT rfl
  have hrow5 := hrow2.kept (hne5 hrow2 (by decide))
  have hM5 := hT2.met.kept (hne5 hT2.met (by decide))
  have i5 := hne5 i2 (by decide)
  have h5 : C0 w5 := by rw [hC0]; exact ⟨hne5 hrow2 (by decide), i5⟩
  have c5' := hrow5.cell
  have f5 := hrow5.frozen
  obtain ⟨A5, n5, c5, hv5⟩ : ∃ A n c, v5 = .slice A n c := by obtain ⟨A, c, e⟩ := hO5.slice; exact ⟨A, _, c, e⟩
  subst hv5
  have H5 := Lib.hid (And.intro hrow5 (And.intro hM5 (And.intro hO5 (And.intro hG5 (And.intro hb5 @hne5)))))
  clear hrow2 i2 hO2 hR2 hT2 hF2 hC0 hor hop hP2 hb4 hR4 hone h0 hrow5 hM5 hO5 hG5 hb5 hne5 i5
  go_wp2_with fail
  (try apply only_mk); refine And.intro ⟨⟨_, h5⟩, rfl⟩ ?_
  go_wp2_with fail
  apply only_mk
  go_wp2_with fail
  refine bodyPost_end (results_none rfl _ _ _) rfl ?_
  obtain ⟨hrow2, i2, hO2, hR2, hT2, hF2, hC0, hor, hop, hP2⟩ := H2.out
  obtain ⟨hb4, hR4, hone, h0⟩ := H4.out
  obtain ⟨hrow5, hM5, hO5, hG5, hb5, hne5⟩ := H5.out
  have hz4 := hb4.size
  have hwz := hF2.size
  rw [World.size_alloc] at hwz
  have hbA : Below w2.heap.size w2 (w4.alloc (.cells #[.int .u64 x.id, .int .i64 x.ob.tag, .slice A4 x.ob.vec.length c4, .string x.ob.str, .slice A1 (rowL m x.ob piv).length c1] 101)) := hb4.alloc (by omega) _
  have hnR : ∀ k, (Value.slice Ar rows.length cr).ownBlock = some k → own k ∧ ∀ ts, 101 ∉ ts → ¬ Sta ts 0 w2 k := fun k hk => ⟨hor k hk, fun ts hts => by obtain ⟨d, hd⟩ := hR2.blk hk; exact not_sta hd (Nat.zero_le _) hts⟩
  have hk25 : ∀ ts, 101 ∉ ts → Kp ts 0 w2 w5 := fun ts hts => (TK.of_below (ts := ts) (b := 0) (hbA.mono (Nat.le_refl _))).kp.grown hG5 (fun k hk => .inr ((hnR k hk).2 ts hts))
  have hnt : ∀ ts, 88 ∉ ts → ¬ Sta ts 0 w5 t := fun ts hts => not_sta hrow5 (Nat.zero_le _) hts
  have hP5 : OwnRow obR 30 0 0 w5 (.slice Ap piv.length cp) piv := hP2.keep (hk25 _ (by decide)) (fun k hk => by obtain ⟨d, hd⟩ := hP2.blk hk; exact hne5 hd (by decide))
  have hP6 := hP5.grown (gb_setCell w5 ⟨t, 3, none⟩ (.slice A5 n5 c5)) (fun k hk => by cases hk; exact hnt _ (by decide)) (.inr (fun e => by obtain ⟨d, hd⟩ := hP5.blk e; exact blk_ne hrow5 hd (by decide) rfl))
  have hO6 := hO5.grown (gb_setCell w5 ⟨t, 3, none⟩ (.slice A5 n5 c5)) (fun k hk => by cases hk; exact hnt _ (by decide)) (.inr (fun e => by obtain ⟨d, hd⟩ := hO5.blk e; exact blk_ne hrow5 hd (by decide) rfl))
  have hM6 := hM5.kept (Below.heap_setCell w5 ⟨t, 3, none⟩ (.slice A5 n5 c5) mt (fun e => blk_ne hrow5 hM5 (by decide) e.symm))
  have hFz : ∀ {g T : Nat} {d : Array Value} {fr : Nat × Nat}, own g → w2.heap[g]? = some (.cells d T fr) → T ∉ FzL → nfL own w g ∨ w.heap.size ≤ g := fun {g T d fr} ho hh hT => by
    rcases Nat.lt_or_ge g w.heap.size with hl | hl
    · refine .inl ⟨ho, ?_⟩
      by_cases hgm : g = mt
      · subst hgm
        exact not_frzL HH.out.1.met (by decide)
      · have h1 : w2.heap[g]? = w.heap[g]? := (hF2.block g (by simp; omega) hgm).trans (Below.heap_alloc w _ g hl)
        exact not_frzL (h1.symm.trans hh) hT
    · exact .inr hl
  have hF3 : Fr (nfL own w) w w2 := ((Fr.refl (nfL own w) w).alloc (.cells #[.int .u64 x.id, .int .i64 x.ob.tag, .slice Ax nx cx, .string x.ob.str] 34)).trans hF2 (fun g hg => by subst hg; exact .inl ⟨HH.out.1.om, not_frzL HH.out.1.met (by decide)⟩)
  have hF5 : Fr (nfL own w) w w5 := (hF3.below hbA (by omega)).grown hG5 (fun g hg => by obtain ⟨d, hd⟩ := hR2.blk hg; exact hFz (hor g hg) hd (by decide))
  have hF6 := hF5.setCell (p := ⟨t, 3, none⟩) (.slice A5 n5 c5) (hFz hT2.ot hrow2 (by decide))
  refine ⟨rfl, hF6, ⟨⟨_, _, hrow5.set 3 (.slice A5 n5 c5), hP6, hO6, fun g hg => .inl (hop g hg), fun g hg => ?_⟩, hM6, .inl hT2.ot, .inl hT2.om, hT2.sp, fun r hr => ?_⟩⟩
  · rcases hb5 with h | h
    · exact .inl (hor g (h ▸ hg))
    · rw [hg] at h
      injection h with h
      simp at h
      exact .inr (by omega)
  · rcases List.mem_append.1 hr with h | h
    · exact hT2.sr r h
    · simp at h; subst h; exact sx
end Go.Proofs.YtbjmlahnojfekaaGreat
