/-
  laesa: pivot where there are no rows; choose.
-/
import Derived.Test.YtbjmlahnojfekaaGreatRow
import Derived.Test.YtbjmlahnojfekaaGreatChoose
import Derived.Deep.DeepCutAuto
namespace Go.Proofs.YtbjmlahnojfekaaGreat
open Go Go.RowKit Go.WW
theorem info_ob : (Tryz.prog.info? 30).map (fun i => (i.zero, i.size, i.bytes)) = some (some (.agg #[.int .i64 0, .slice none 0 0, .string ⟨#[]⟩]), obR.sz, 48) := by kernel_rfl
set_option maxRecDepth 100000 in
set_option maxHeartbeats 4000000 in
theorem pivot0_any {own : Nat → Prop} {w : World} {t mt : Nat} {m most calls : Int} {piv : List Ob} (b : Nat) (h : LT own w t mt m most calls piv []) (x : Ob) (cx : List Value) (hx : obR.rd b w cx x) (sx : Short x) (hn : piv.length ≤ 1048575) :
    Calls Tryz.prog 71 #[.pointer (some ⟨t, 0, none⟩), .agg cx.toArray] w fun r w' => r = .returned (.tuple #[]) ∧ Fr (nfL own w) w w' ∧ LT (MoreL own w) w' t mt m most calls (piv ++ [x]) [] := by
  obtain ⟨vx, rfl, hwx, rx, hsx⟩ := obR_iff.1 hx
  obtain ⟨Ax, cx, rfl, _⟩ := rx.at
  obtain ⟨vp, vr, hrow, hP, hR, hop, hor⟩ := h.mem
  obtain ⟨Ap, cp, hvp⟩ := hP.slice
  obtain ⟨Ar, cr, hvr⟩ := hR.slice
  subst hvp hvr
  obtain ⟨w2, hw2⟩ : ∃ w2, w2 = w.alloc (.cells #[.int .i64 x.tag, .slice Ax x.vec.length cx, .string x.str] 30) := ⟨_, rfl⟩
  have hbb : Below w.heap.size w w2 := by rw [hw2]; exact (Below.refl _ w).alloc (Nat.le_refl _) _
  have i2 : IRow 30 w2 w.heap.size [.int .i64 x.tag, .slice Ax x.vec.length cx, .string x.str] := by rw [hw2]; exact IRow.new w _ _
  have hrow2 := hrow.kept (hbb.block _ hrow.lt)
  have hP2 := hP.below hbb
  have hR2 := hR.below hbb
  have hT2 := h.below hbb
  have hx2 := obR_below hx hbb
  have hlt := hrow2.lt
  have hwl := i2.lt
  obtain ⟨C0, hC0⟩ : ∃ C0 : World → Prop, C0 = fun w' => w'.heap[t]? = w2.heap[t]? ∧ w'.heap[w.heap.size]? = w2.heap[w.heap.size]? := ⟨_, rfl⟩
  have a1 := hrow2.cw (C0 := C0) (fun w' hw => by subst hC0; exact hw.1)
  have a2 := i2.cw (C0 := C0) (fun w' hw => by subst hC0; exact hw.2)
  have c0 := hrow2.cell
  have cb := i2.cell
  have hne : Nonempty (CW C0) := by subst hC0; exact ⟨⟨w2, rfl, rfl⟩⟩
  have hl8 : (piv.length + 1) * 48 ≤ 140737488355328 := by omega
  have H2 := Lib.hid (And.intro hrow2 (And.intro i2 (And.intro hP2 (And.intro hR2 (And.intro hT2 (And.intro hbb (And.intro hC0 (And.intro hor (And.intro hop (And.intro hx2 (And.intro hl8 h)))))))))))
  clear hrow2 i2 hP2 hR2 hT2 hbb hC0 hP hrow hR hop hor hx hx2 hl8 h
  go_enter Tryz.func71, Tryz.ntmps71
  go_wp2_with fail
  rw [← hw2]
  clear hw2
  refine wp_region_hoist [true, true, true, true, true, true, false, false, false, false, false, false] 3 (fun w' => ∃ z : CW C0, w' = z.w) (by kernel_rfl) (by kernel_rfl) ?_ ?_
  · have h0 : C0 w2.drew := by rw [H2.out.2.2.2.2.2.2.1]; exact ⟨rfl, rfl⟩
    exact ⟨⟨_, h0⟩, rfl⟩
  simp only [pickR, pickE, List.take, List.drop, wpLate]
  repeat (go_big_quiet_step (fail))
  refine wpQuiet_nil ?_
  go_wp2_with fail
  refine (oclone_any b x _ _ (obR_below H2.out.2.2.2.2.2.2.2.2.2.1 (bl_drewN w2 1)) sx).mono ?_
  rintro er w4 ⟨cs, rfl, hcs, hb4⟩
  obtain ⟨v4, rfl, hw4, hr4, hs4⟩ := obR_iff.1 hcs
  obtain ⟨A4, c4, hv4, _⟩ := hr4.at
  subst hv4
  have hb4' : Below w2.heap.size w2 w4 := (bl_drewN w2 1).trans hb4
  have hC4 : C0 w4 := by rw [H2.out.2.2.2.2.2.2.1]; exact ⟨hb4'.block _ hlt, hb4'.block _ hwl⟩
  have hP4 := H2.out.2.2.1.below hb4'
  have h0 : C0 (w4.alloc (.cells #[.int .i64 x.tag, .slice A4 x.vec.length c4, .string x.str] 30)) := by
    have h := hC4
    rw [H2.out.2.2.2.2.2.2.1] at h ⊢
    have hz := hb4'.size
    exact ⟨(Below.heap_alloc _ _ _ (by omega)).trans h.1, (Below.heap_alloc _ _ _ (by omega)).trans h.2⟩
  have H4 := Lib.hid (And.intro hb4' (And.intro hP4 (And.intro hcs h0)))
  clear hcs hr4 hb4 hb4' hP4 h0
  go_wp2_with fail
  (try apply only_mk); refine And.intro ⟨⟨_, hC4⟩, rfl⟩ ?_
  go_wp2_with fail
  (try apply only_mk); refine And.intro ⟨⟨_, H4.out.2.2.2⟩, rfl⟩ ?_
  go_wp2_with (at_builtin; go_loud (refine wp_push (R := obR) (W := w4) rfl (.tmp 10) (.tmp 13) 46 _ 48 rfl Tryz.underlying46 info_ob rfl (by decide) (by decide) (.slice Ap piv.length cp) piv x #[.int .i64 x.tag, .slice A4 x.vec.length c4, .string x.str] (0, 0) rfl rfl H4.out.2.2.1 H4.out.2.1 (Nat.zero_le _) (by decide) (Nat.le_refl _) H2.out.2.2.2.2.2.2.2.2.2.2.1 ?_); intro v5 w5 hO5 hG5 hb5 _)
  obtain ⟨hrow2, i2, hP2, hR2, hT2, hbb, hC0, hor, hop, hx2, hl8, h⟩ := H2.out
  obtain ⟨hb4, hP4, hcs, h0⟩ := H4.out
  have hz4 := hb4.size
  have hne5 : ∀ {g T : Nat} {d : Array Value} {fr : Nat × Nat}, w2.heap[g]? = some (.cells d T fr) → T ≠ 30 → w5.heap[g]? = w2.heap[g]? := fun {g T d fr} hh hT => by
    have hg := (Array.getElem?_eq_some_iff.1 hh).1
    refine (hG5.block g (by omega) (fun e => ?_)).trans (hb4.block g hg)
    obtain ⟨d', hd⟩ := hP2.blk e.symm
    exact blk_ne hh hd hT rfl
  have hbox5 : w5.heap[w.heap.size]? = w2.heap[w.heap.size]? := (hG5.block _ (by omega) (fun e => by
    have h1 := (hP2.lt _ e.symm).2
    obtain ⟨d', hd⟩ := hP2.blk e.symm
    have h2 := h.mem
    obtain ⟨vp', vr', hr', hp', _⟩ := h2
    have h3 := hr'.kept (hbb.block _ hr'.lt)
    have h4 : vp' = .slice Ap piv.length cp := by
      have := h3.symm.trans hrow2
      simp at this
      exact this.1
    subst h4
    have := (hp'.lt _ e.symm).2
    omega)).trans (hb4.block _ hwl)
  have hrow5 := hrow2.kept (hne5 hrow2 (by decide))
  have hM5 := hT2.met.kept (hne5 hT2.met (by decide))
  have h5 : C0 w5 := by rw [hC0]; exact ⟨hne5 hrow2 (by decide), hbox5⟩
  have c5' := hrow5.cell
  have f5 := hrow5.frozen
  obtain ⟨A5, n5, c5, hv5⟩ : ∃ A n c, v5 = .slice A n c := by obtain ⟨A, c, e⟩ := hO5.slice; exact ⟨A, _, c, e⟩
  subst hv5
  have hlt5 := hrow5.lt
  have hR5 : OwnRow lrR 101 0 0 w5 (.slice Ar ([] : List Lw).length cr) [] := hR2.keep ⟨by have := hG5.size; omega, fun g hg hs => by
    have hs' : Sta lrR.ts 0 w2 g := hs
    rcases hs' with h1 | ⟨d, T, fr, h1, h2⟩
    · omega
    · exact hne5 h1 (fun e => by subst e; revert h2; decide)⟩ (fun k hk => by obtain ⟨d, hd⟩ := hR2.blk hk; exact hne5 hd (by decide))
  have H5 := Lib.hid (And.intro hrow5 (And.intro hM5 (And.intro hO5 (And.intro hG5 (And.intro hb5 (And.intro hR5 @hne5))))))
  clear hrow2 i2 hR2 hT2 hC0 hor hop hb4 h0 hrow5 hM5 hO5 hG5 hb5 hne5 hbb hP2 hx2 hl8 h hP4 hcs hbox5 hR5
  (try apply only_mk); refine And.intro ⟨⟨_, h5⟩, rfl⟩ ?_
  go_wp2_with fail
  apply only_mk
  go_wp2_with fail
  obtain ⟨W6, hW6⟩ : ∃ W6, W6 = w5.setCell ⟨t, 2, none⟩ (.slice A5 n5 c5) := ⟨_, rfl⟩
  rw [← hW6]
  go_loopw [4, 5, 22] (fun _ _ vk wr => vk = .int .i64 0 ∧ wr = W6) (fun _ _ _ _ => 0)
  case atStart => exact ⟨rfl, rfl⟩
  case round =>
    obtain ⟨rfl, rfl⟩ := hrel
    go_wp2_with fail
    refine bodyPost_end (results_none rfl _ _ _) rfl ?_
    obtain ⟨hrow2, i2, hP2, hR2, hT2, hbb, hC0, hor, hop, hx2, hl8, h⟩ := H2.out
    obtain ⟨hb4, hP4, hcs, h0⟩ := H4.out
    obtain ⟨hrow5, hM5, hO5, hG5, hb5, hR5, hne5⟩ := H5.out
    subst hW6
    have hz4 := hb4.size
    have hz2 := hbb.size
    have hnt : ∀ ts, 88 ∉ ts → ¬ Sta ts 0 w5 t := fun ts hts => not_sta hrow5 (Nat.zero_le _) hts
    have hO6 := hO5.grown (gb_setCell w5 ⟨t, 2, none⟩ (.slice A5 n5 c5)) (fun k hk => by cases hk; exact hnt _ (by decide)) (.inr (fun e => by obtain ⟨d, hd⟩ := hO5.blk e; exact blk_ne hrow5 hd (by decide) rfl))
    have hR6 := hR5.grown (gb_setCell w5 ⟨t, 2, none⟩ (.slice A5 n5 c5)) (fun k hk => by cases hk; exact hnt _ (by decide)) (.inr (fun e => by obtain ⟨d, hd⟩ := hR5.blk e; exact blk_ne hrow5 hd (by decide) rfl))
    have hM6 := hM5.kept (Below.heap_setCell w5 ⟨t, 2, none⟩ (.slice A5 n5 c5) mt (fun e => blk_ne hrow5 hM5 (by decide) e.symm))
    have hFz : ∀ {g T : Nat} {d : Array Value} {fr : Nat × Nat}, own g → w2.heap[g]? = some (.cells d T fr) → T ∉ FzL → nfL own w g ∨ w.heap.size ≤ g := fun {g T d fr} ho hh hT => by
      rcases Nat.lt_or_ge g w.heap.size with hl | hl
      · exact .inl ⟨ho, not_frzL ((hbb.block g hl).symm.trans hh) hT⟩
      · exact .inr hl
    have hF5 : Fr (nfL own w) w w5 := (((Fr.refl (nfL own w) w).below hbb (Nat.le_refl _)).below hb4 (by omega)).grown hG5 (fun g hg => by obtain ⟨d, hd⟩ := hP2.blk hg; exact hFz (hop g hg) hd (by decide))
    have hF6 := hF5.setCell (p := ⟨t, 2, none⟩) (.slice A5 n5 c5) (hFz hT2.ot hrow2 (by decide))
    refine ⟨rfl, hF6, ⟨⟨_, _, hrow5.set 2 (.slice A5 n5 c5), hO6, hR6, fun g hg => ?_, fun g hg => .inl (hor g hg)⟩, hM6, .inl hT2.ot, .inl hT2.om, fun r hr => ?_, fun r hr => (by cases hr)⟩⟩
    · rcases hb5 with h | ⟨g', h, hg'⟩
      · exact .inl (hop g (h ▸ hg))
      · rw [hg] at h
        injection h with h
        exact .inr (by omega)
    · rcases List.mem_append.1 hr with h | h
      · exact hT2.sp r h
      · simp at h; subst h; exact sx
theorem chooseN_mem (m : Int) (all : List Ob) : ∀ (k : Nat) (near : List Int) (a : Nat), a < all.length → near.length = all.length → ∀ i ∈ chooseN m all k near a, ∃ j : Nat, i = (j : Int) ∧ j < all.length
  | 0, near, a, _, _, i, hi => by simp [chooseN] at hi
  | k + 1, near, a, ha, hl, i, hi => by
    rw [chooseN_succ m all k near a _ rfl] at hi
    rcases List.mem_cons.1 hi with h | h
    · exact ⟨a, h, ha⟩
    · split at h
      · cases h
      · have hcl := closeL_len m (all.getD a ⟨0, [], ⟨#[]⟩⟩) all near hl
        exact chooseN_mem m all k _ _ (by have := @farI_lt (closeL m (all.getD a ⟨0, [], ⟨#[]⟩⟩) all near) (by omega); omega) hcl i h
theorem chooseN_len (m : Int) (all : List Ob) : ∀ (k : Nat) (near : List Int) (a : Nat), (chooseN m all k near a).length ≤ k
  | 0, near, a => Nat.le_refl _
  | k + 1, near, a => by
    rw [chooseN_succ m all k near a _ rfl, List.length_cons]
    split
    · simp
    · have := chooseN_len m all k (closeL m (all.getD a ⟨0, [], ⟨#[]⟩⟩) all near) (farI (closeL m (all.getD a ⟨0, [], ⟨#[]⟩⟩) all near))
      omega
set_option maxRecDepth 100000 in
set_option maxHeartbeats 4000000 in
/-- choose where there are no rows, with no source. -/
theorem lchoose_any {own : Nat → Prop} {w : World} {t mt : Nat} {m most calls : Int} {piv : List Ob} (b : Nat) (h : LT own w t mt m most calls piv []) (hb : ∀ g, own g → b ≤ g) (hbw : b ≤ w.heap.size) (v : Value) (xs : List It) (hv : RdRow itR 34 b w v xs)
    (hsh : ∀ x ∈ xs, Short x.ob) (hn : xs.length ≤ 1048576) (hx0 : 0 < xs.length) (hm1 : 1 ≤ most) (hm2 : most ≤ 1000) (hpn : piv.length ≤ 1000) :
    Calls Tryz.prog 40 #[.pointer (some ⟨t, 0, none⟩), v, .pointer none] w fun r w' => r = .returned (.tuple #[]) ∧ Fr (nfL own w) w w' ∧
      ∃ calls' : Wfi calls, LT (MoreL own w) w' t mt m most calls'.1 (piv ++ (chooseN m (xs.map It.ob) most.toNat (List.replicate xs.length bigI) 0).map (fun i => (xs.map It.ob).getD i.toNat ⟨0, [], ⟨#[]⟩⟩)) [] := by
  have hT0 := h.tight
  obtain ⟨vp, vr, hrow, hP, hR, _, _⟩ := h.mem
  have c0 := hrow.cell
  have hlt := hrow.lt
  have hm0 := h.met.lt
  obtain ⟨A, c, rfl, _, _, _, hat⟩ := hv.at
  have HH := Lib.hid (And.intro h (And.intro hT0 (And.intro hrow (And.intro hb hv)))); clear h hT0 hP hR hb hv hat
  go_enter Tryz.func40, Tryz.ntmps40
  go_wp2_with fail
  go_loopw [6, 8, 13] (fun va _ vk wr => ∃ k : Nat, vk = .int .i64 k ∧ k ≤ xs.length ∧ OwnRow obR 30 b w.heap.size wr va ((xs.map It.ob).take k) ∧ Below w.heap.size w wr) (fun _ _ vk _ => xs.length - (intOf vk).toNat)
  case atStart => exact ⟨0, rfl, Nat.zero_le _, OwnRow.nil .., Below.refl _ _⟩
  case round =>
    obtain ⟨k, rfl, hk, hO, hB⟩ := hrel
    by_cases hlt' : k < xs.length
    · have z1 : (k : Int) < xs.length := by omega
      obtain ⟨A', c', hv', _, _, _, hat⟩ := (HH.out.2.2.2.2.below hB).at
      injection hv' with e1 _ e3
      subst e1 e3
      obtain ⟨g, o, cs, hA, hg, hr, hc⟩ := hat k hlt'
      subst hA
      obtain ⟨vx, rfl, hid, hob⟩ := itR_iff.1 hr
      obtain ⟨Av, nv, cv, hv'⟩ : ∃ A n c, vx = .slice A n c := by obtain ⟨v', hv2, _, hr, _⟩ := obR_iff.1 hob; simp only [List.cons.injEq, and_true, true_and] at hv2; subst hv2; obtain ⟨A, c, e, _⟩ := hr.at; exact ⟨A, _, c, e⟩
      subst hv'
      have d0 := hc 0 _ rfl
      have d1 := hc 1 _ rfl
      have d2 := hc 2 _ rfl
      have d3 := hc 3 _ rfl
      simp only [Nat.add_zero] at d0
      rw [show itR.sz = 4 from rfl] at d0 d1 d2 d3
      obtain ⟨Aa, ca, hva⟩ := hO.slice
      subst hva
      have hBA : ∀ o : Obj, Below wr.heap.size wr (wr.alloc o) := fun o => (Below.refl _ wr).alloc (Nat.le_refl _) o
      have hl8 : (((xs.map It.ob).take k).length + 1) * 48 ≤ 140737488355328 := by rw [List.length_take, List.length_map]; omega
      have htk : (xs.map It.ob).take (k + 1) = (xs.map It.ob).take k ++ [xs[k].ob] := by rw [List.take_add_one, List.getElem?_eq_getElem (by simpa using hlt'), List.getElem_map]; rfl
      obtain ⟨W1, hW1⟩ : ∃ W1, W1 = wr.alloc (.cells #[.int .u64 xs[k].id, .int .i64 xs[k].ob.tag, .slice Av nv cv, .string xs[k].ob.str] 34) := ⟨_, rfl⟩
      have i1 : IRow 34 W1 wr.heap.size [.int .u64 xs[k].id, .int .i64 xs[k].ob.tag, .slice Av nv cv, .string xs[k].ob.str] := by rw [hW1]; exact IRow.new wr _ _
      have hbW := hBA (.cells #[.int .u64 xs[k].id, .int .i64 xs[k].ob.tag, .slice Av nv cv, .string xs[k].ob.str] 34)
      rw [← hW1] at hbW
      have hO1 := hO.below hbW
      have hob1 := obR_below hob hbW
      have hB1 := hB.trans (hbW.mono hB.size)
      have c1 := i1.cell
      obtain ⟨L, hL⟩ : ∃ L, L = (xs.map It.ob).take k := ⟨_, rfl⟩
      rw [← hL] at hO1 hl8 htk ⊢
      have HR := Lib.hid (And.intro hO1 (And.intro hob1 (And.intro hB1 (And.intro hl8 htk))))
      clear hO hO1 hob1 hB1 hl8 htk hBA hB hr hob hat hc hL i1 hbW
      go_upto_region 4 with fail
      rw [← hW1]
      clear hW1
      go_wp2_with (at_builtin; go_loud (refine wp_push (R := obR) (W := W1) rfl (.tmp 17) (.tmp 20) 46 _ 48 rfl Tryz.underlying46 info_ob rfl (by decide) (by decide) (.slice Aa L.length ca) L xs[k].ob #[.int .i64 xs[k].ob.tag, .slice Av nv cv, .string xs[k].ob.str] (0, 0) rfl rfl HR.out.2.1 HR.out.1 HR.out.2.2.1.size (by decide) hbw HR.out.2.2.2.1 ?_); intro v5 w5 hO5 hG5 hb5 _)
      refine ⟨⟨k + 1, by go_num, by omega, by rw [HR.out.2.2.2.2]; exact hO5, HR.out.2.2.1.grown hG5 HR.out.2.2.1.size (fun g hg => (HR.out.1.lt g hg).1)⟩, by simp [intOf]; omega⟩
    · obtain rfl : k = xs.length := by omega
      rw [show (xs.map It.ob).take xs.length = xs.map It.ob by rw [List.take_of_length_le]; simp] at hO
      obtain ⟨all, hall⟩ : ∃ all, all = xs.map It.ob := ⟨_, rfl⟩
      have hal : all.length = xs.length := by rw [hall]; simp
      have hash : ∀ x ∈ all, Short x := by rw [hall]; intro x hx; obtain ⟨y, hy, rfl⟩ := List.mem_map.1 hx; exact hsh y hy
      rw [← hall] at hO
      obtain ⟨Aa, ca, hva⟩ := hO.slice
      subst hva
      rw [hal] at hO
      obtain ⟨D, hD⟩ : ∃ D, D = chooseN m all most.toNat (List.replicate all.length bigI) 0 := ⟨_, rfl⟩
      have hDm : ∀ i ∈ D, ∃ j : Nat, i = (j : Int) ∧ j < all.length := by rw [hD]; exact chooseN_mem m all _ _ _ (by omega) (by simp)
      have hrowr := HH.out.2.2.1.kept (hB.block _ hlt)
      have hMr := HH.out.1.met.kept (hB.block _ hm0)
      have cr := hrowr.cell
      obtain ⟨C0, hC0⟩ : ∃ C0 : World → Prop, C0 = fun w' => w'.heap[t]? = wr.heap[t]? := ⟨_, rfl⟩
      have a1 := hrowr.cw (C0 := C0) (fun w' hw => by subst hC0; exact hw)
      have hne : Nonempty (CW C0) := by subst hC0; exact ⟨⟨wr, rfl⟩⟩
      have hltr := hrowr.lt
      have HR := Lib.hid (And.intro hO (And.intro hB (And.intro hall (And.intro hD (And.intro hDm (And.intro hrowr (And.intro hMr (And.intro hC0 hash))))))))
      clear hO hB hall hD hDm hrowr hMr hC0 hash
      go_wp2_with fail
      refine wp_region_hoist [true, true, true, true, true, true, true, true, true, true, true, true, false, false, false, true] 3 (fun w' => ∃ z : CW C0, w' = z.w) (by kernel_rfl) (by kernel_rfl) ?_ ?_
      · have h0 : C0 wr.drew := by rw [HR.out.2.2.2.2.2.2.2.1]; exact rfl
        exact ⟨⟨_, h0⟩, rfl⟩
      simp only [pickR, pickE, List.take, List.drop, wpLate]
      repeat (go_big_quiet_step (fail))
      refine wpQuiet_nil ?_
      go_wp2_with fail
      refine (picknil_any _ (xs.length : Int)).mono ?_
      rintro er w2 ⟨rfl, rfl⟩
      go_wp2_with fail
      have h1 : C0 wr.drew := by rw [HR.out.2.2.2.2.2.2.2.1]; exact rfl
      apply only_mk; refine And.intro ⟨⟨_, h1⟩, rfl⟩ ?_
      go_wp2_with fail
      refine (choose_any b wr.drew mt m calls most (HR.out.2.2.2.2.2.2.1.kept rfl) (HH.out.2.2.2.1 _ HH.out.1.om) all _ (HR.out.1.read.below (bl_drewN wr 1)) HR.out.2.2.2.2.2.2.2.2 0 (by omega) (by omega) hm1 (by omega)).mono ?_
      rintro er w3 ⟨vd, rfl, hOd, hFd, c3', hM3⟩
      have htm : t ≠ mt := blk_ne HH.out.2.2.1 HH.out.1.met (by decide)
      have h3 : C0 w3 := by rw [HR.out.2.2.2.2.2.2.2.1]; exact hFd.block t (by simpa using hltr) htm
      rw [← HR.out.2.2.2.1] at hOd
      obtain ⟨Ad, cd, hvd⟩ := hOd.slice
      subst hvd
      have hFw : Fr (fun g => g = mt) w w3 := (Fr.of_below HR.out.2.1).drew.trans hFd (fun g hg => .inl hg)
      have hdl : D.length ≤ 1000 := by rw [HR.out.2.2.2.1]; have := chooseN_len m all most.toNat (List.replicate all.length bigI) 0; omega
      have hT3 := HH.out.2.1.metered hFw hM3
      have hrd : OwnRow obR 30 b w.heap.size w3 (.slice Aa xs.length ca) all := (HR.out.1.below (bl_drewN wr 1)).keep (hFd.kp (fun g hg => by subst hg; exact not_sta (HR.out.2.2.2.2.2.2.1.kept rfl) (HH.out.2.2.2.1 _ HH.out.1.om) (by decide))) (fun g hg => hFd.block g ((HR.out.1.below (bl_drewN wr 1)).lt g hg).2 (fun e => by have := (HR.out.1.lt g hg).1; omega))
      have hws : w.heap.size ≤ wr.heap.size := HR.out.2.1.size
      have HS := Lib.hid (And.intro hOd (And.intro hFw (And.intro hM3 (And.intro hT3 hrd))))
      clear hOd hFw hM3 hT3 hFd hrd
      go_wp2_with fail
      (try apply only_mk); refine And.intro ⟨⟨_, h3⟩, rfl⟩ ?_
      go_wp2_with fail
      (try apply only_mk); refine And.intro ⟨⟨_, h3⟩, rfl⟩ ?_
      go_wp2_with fail
      apply only_mk
      go_wp2_with fail
      obtain ⟨f, hf⟩ : ∃ f : Int → Ob, f = fun i => all.getD i.toNat ⟨0, [], ⟨#[]⟩⟩ := ⟨_, rfl⟩
      obtain ⟨own0, hown⟩ : ∃ own0 : Nat → Prop, own0 = fun g => own g ∧ g < w.heap.size := ⟨_, rfl⟩
      go_loopw [10, 38] (fun _ vk wr => ∃ k : Nat, vk = .int .i64 k ∧ k ≤ D.length ∧ (∃ calls' : Wfi calls, LT (MoreL own0 w3) wr t mt m most calls'.1 (piv ++ (D.take k).map f) []) ∧ Fr (nfL own0 w3) w3 wr) (fun _ vk _ => D.length - (intOf vk).toNat)
      case atStart =>
        refine ⟨0, rfl, Nat.zero_le _, ⟨c3', ?_⟩, Fr.refl _ _⟩
        have := HS.out.2.2.2.1.grow (own' := MoreL own0 w3) (fun g hg => .inl (by rw [hown]; exact hg))
        simpa using this
      case round =>
        obtain ⟨k, rfl, hk, ⟨calls2, hT⟩, hF⟩ := hrel
        by_cases hlt2 : k < D.length
        · have z1 : (k : Int) < D.length := by omega
          have hb0 : ∀ g, own0 g → b ≤ g := fun g hg => by rw [hown] at hg; exact HH.out.2.2.2.1 g hg.1
          have hn0 : ∀ g, w.heap.size ≤ g → ¬ nfL own0 w3 g := fun g h1 h2 => by have := h2.1; rw [hown] at this; omega
          have hOk := HS.out.1.keep (w' := wr) ⟨hF.size, fun g hg hs => by rcases hs with h | ⟨d, T, fr, _, h⟩ <;> first | omega | simp [Rd.int] at h⟩ (fun g hg => hF.block g (HS.out.1.lt g hg).2 (hn0 g (by have := (HS.out.1.lt g hg).1; simp at this; omega)))
          have hAk := HS.out.2.2.2.2.keep (w' := wr) (hF.kp (fun g hg => hg.sta hb0)) (fun g hg => hF.block g (HS.out.2.2.2.2.lt g hg).2 (hn0 g (HS.out.2.2.2.2.lt g hg).1))
          obtain ⟨gd, od, rfl, _, hcd⟩ := hOk.read.intAt k hlt2
          have hDk : D.getD k 0 ∈ D := by rw [List.getD_eq_getElem?_getD, List.getElem?_eq_getElem hlt2]; exact List.getElem_mem ..
          obtain ⟨j, hj, hjl⟩ := HR.out.2.2.2.2.1 _ hDk
          rw [hj] at hcd
          have htk : D.take (k + 1) = D.take k ++ [(j : Int)] := by rw [List.take_add_one, List.getElem?_eq_getElem hlt2, ← hj, List.getD_eq_getElem?_getD, List.getElem?_eq_getElem hlt2]; rfl
          have hfj : f (j : Int) = all[j] := by rw [hf]; simp [List.getD_eq_getElem?_getD, hjl]
          obtain ⟨A', c', hv', _, _, _, hat⟩ := hAk.read.at
          injection hv' with e1 e2 e3
          subst e1 e3
          clear e2
          obtain ⟨g, o, cs, hA, hg, hr, hc⟩ := hat j hjl
          subst hA
          obtain ⟨vx, rfl, hwx, rx, _⟩ := obR_iff.1 hr
          obtain ⟨Ax, cx, hvx, _⟩ := rx.at
          subst hvx
          have d0 := hc 0 _ rfl
          have d1 := hc 1 _ rfl
          have d2 := hc 2 _ rfl
          rw [show obR.sz = 3 from rfl] at d0 d1 d2
          simp only [Nat.add_zero] at d0
          have z2 : (j : Int) < xs.length := by omega
          have z3 : j < xs.length := by omega
          have hsj := HR.out.2.2.2.2.2.2.2.2 _ (List.getElem_mem hjl)
          have HT := Lib.hid (And.intro hT (And.intro hF (And.intro hr (And.intro htk hfj))))
          clear hT hF hr htk hfj hOk hAk hat hc rx hDk hj hal
          go_wp2_with fail
          refine (pivot0_any b HT.out.1 _ _ HT.out.2.2.1 hsj ?_).mono ?_
          · rw [List.length_append, List.length_map, List.length_take]; omega
          rintro er w5 ⟨rfl, hF5, hT5⟩
          go_wp2_with fail
          refine ⟨⟨k + 1, by go_num, by omega, ⟨calls2, ?_⟩, Fr.nfL_trans HT.out.2.1 hF5⟩, by simp [intOf]; omega⟩
          rw [HT.out.2.2.2.1, List.map_append, ← List.append_assoc]
          have hs5 := HT.out.2.1.size
          have := hT5.grow (own' := MoreL own0 w3) (fun g hg => by
            rcases hg with h | h
            · exact h
            · exact .inr (by omega))
          rw [← HT.out.2.2.2.2] at this
          exact this
        · obtain rfl : k = D.length := by omega
          rw [List.take_length] at hT
          have HZ := Lib.hid (And.intro hT hF); clear hT hF
          go_wp2_with fail
          refine bodyPost_end (results_none rfl _ _ _) rfl ?_
          have hs3 := HS.out.2.1.size
          refine ⟨rfl, (HS.out.2.1.mono (fun g hg => by subst hg; exact ⟨HH.out.1.om, not_frzL HH.out.1.met (by decide)⟩)).trans HZ.out.2 (fun g hg => ?_), calls2, ?_⟩
          · have h1 : own g ∧ g < w.heap.size := by have := hg.1; rw [hown] at this; exact this
            by_cases hgm : g = mt
            · subst hgm
              exact .inl ⟨h1.1, not_frzL HH.out.1.met (by decide)⟩
            · refine .inl ⟨h1.1, fun hfz => hg.2 ?_⟩
              obtain ⟨d, T, fr, hd, hT⟩ := hfz
              exact ⟨d, T, fr, (HS.out.2.1.block g h1.2 hgm).trans hd, hT⟩
          · have := HZ.out.1.grow (own' := MoreL own w) (fun g hg => by
              rcases hg with h | h
              · rw [hown] at h
                exact .inl h.1
              · exact .inr (by omega))
            rw [hf, HR.out.2.2.2.1, HR.out.2.2.1] at this
            simpa using this
end Go.Proofs.YtbjmlahnojfekaaGreat
