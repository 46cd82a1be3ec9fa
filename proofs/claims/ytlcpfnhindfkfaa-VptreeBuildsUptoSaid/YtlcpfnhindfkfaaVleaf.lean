/-
  vptree: leaf; slices.Clone of things.
-/
import Derived.Test.YtlcpfnhindfkfaaVk
import Derived.Test.YtlcpfnhindfkfaaSets
namespace Go.Proofs.Ytlcpfnhindfkfaa
open Go Go.RowKit Go.WW
theorem info_it : (Try.prog.info? 34).map (fun i => (i.zero, i.size, i.bytes)) = some (some (.agg #[.int .u64 0, .int .i64 0, .slice none 0 0, .string ⟨#[]⟩]), itR.sz, 56) := by kernel_rfl
set_option maxHeartbeats 1000000 in
theorem itclone_0 (w : World) : Calls Try.prog 32 #[nilS] w fun r w' => r = .returned nilS ∧ w' = w := by
  have hq := fun w : World => Go.Lib.run_eql_slice_nil (P := Try.prog) w 25 34 none 0 0 0 0 Try.underlying25
  go_enter Try.func32, Try.ntmps32
  go_wp2_with fail
  go_ret
  exact ⟨rfl, rfl⟩
set_option maxRecDepth 100000 in
set_option maxHeartbeats 1000000 in
theorem itclone_any (v : Value) (l : List It) (w : World) (rv : RdRow itR 34 0 w v l) (hl : l.length ≤ 1048576) :
    Calls Try.prog 32 #[v] w fun e w' => ∃ v', e = .returned v' ∧ (v' = nilS → v = nilS) ∧ OwnRow itR 34 0 w.heap.size w' v' l ∧ Below w.heap.size w w' := by
  have rv0 := rv
  obtain ⟨A, c, rfl, h1, h2, hA, h3⟩ := rv
  cases A with
  | none =>
    have hl0 : l = [] := by
      cases l with
      | nil => rfl
      | cons x r => obtain ⟨g, o, h, _⟩ := h3 (by simp); cases h
    subst hl0
    have hc := hA rfl
    subst hc
    refine (itclone_0 w).mono ?_
    rintro er w1 ⟨rfl, rfl⟩
    exact ⟨_, rfl, fun _ => rfl, OwnRow.nil .., Below.refl _ _⟩
  | some ad =>
    clear h3 hA
    have hq := fun w : World => Go.Lib.run_eql_slice_nil (P := Try.prog) w 25 34 (some ad) l.length c 0 0 Try.underlying25
    have hl8 : (([] : List It).length + l.length) * 56 ≤ 140737488355328 := by simp; omega
    have rv1 := rv0.below ((Below.refl w.heap.size w).alloc (Nat.le_refl _) (.cells #[] 34))
    have hO := OwnRow.fresh itR 34 0 w
    have HH := Lib.hid (And.intro rv1 hO)
    clear rv0 rv1 hO
    go_enter Try.func32, Try.ntmps32
    go_wp2_with (at_builtin; refine wp_cat (R := itR) rfl (.tmp 5) (.tmp 6) 25 (.agg #[.int .u64 0, .int .i64 0, .slice none 0 0, .string ⟨#[]⟩]) 56 rfl Try.underlying25 info_it rfl (by decide) (by decide) _ _ [] l rfl rfl HH.out.1 HH.out.2 (by simp) (by decide) (Nat.zero_le _) hl8 ?_; intro v1 w1 hO1 hG1 _ hnil)
    go_ret
    refine ⟨_, rfl, fun e => ?_, hO1, ((Below.refl _ w).alloc (Nat.le_refl _) _).grown hG1 (by simp) (fun k hk => by cases hk; exact Nat.le_refl _)⟩
    have := (hnil.1 e).1
    cases this
theorem VT.map_at {own : Nat → Prop} {w : World} {t mt : Nat} {m most calls : Int} {l : List Vn} {gone : Int} {f : Int → Option Int} (h : VT own w t mt m most calls l gone f) (x v : Int) (hx : (Lit.int .u64 x).wf = true) (hv : wfI v) (D : List Int) (hD : ∀ y, f y ≠ none → y ∈ D) (hDl : D.length ≤ 1048576) :
    ∃ mb : Nat, (∀ w0 : World, w0.heap[t]? = w.heap[t]? → w0.cell? ⟨t, 3, none⟩ = some (Value.map (some mb))) ∧ ∃ w', (Instr.mapUpdate 65 (.map (some mb)) (.int .u64 x) (.int .i64 v)).run Try.prog w = .ok () w' ∧ VT own w' t mt m most calls l gone (upd f x (some v)) ∧ Fr (nfL own w) w w' := by
  obtain ⟨lv, mb, hrow, hO, hM, hol, hom⟩ := h.mem
  obtain ⟨w', hrun, hM', hG⟩ := hM.store (t := 65) Try.underlying32 Try.underlying3 Try.underlying65 hx hv (L := D) (fun y _ hy => hD y hy) (by unfold maxLen; omega)
  obtain ⟨es, c, hm2⟩ := hM.isMap
  have hfr : ¬ FrzL w mb := by
    rintro ⟨c', e, f', h1, _⟩
    rw [hm2] at h1
    cases h1
  refine ⟨mb, fun w0 h0 => (cell_same (p := ⟨t, 3, none⟩) h0).trans (hrow.cell 3), w', hrun, ⟨⟨lv, mb, hrow.kept (hG.block t hrow.lt (fun e => by injection e with e; exact blk_ne_map hrow hm2 e)), hO.grown hG (fun k hk => by cases hk; exact not_sta_map hm2 (Nat.zero_le _)) ?_, hM', hol, hom⟩, h.met.kept (hG.block mt h.met.lt (fun e => by injection e with e; exact blk_ne_map h.met hm2 e)), h.ot, h.om⟩, (Fr.refl _ w).grown hG (fun g hg => by cases hg; exact .inl ⟨hom, hfr⟩)⟩
  cases hlv : lv.ownBlock with
  | none => exact .inl rfl
  | some g => exact .inr (fun e => by injection e with e; subst e; obtain ⟨d, hd⟩ := hO.blk hlv; exact blk_ne_map hd hm2 rfl)
def leafV (par : Int) (l : List It) : Vn := ⟨true, l, it0, false, par, 0, 0, 0, 0, 0, 0⟩
set_option maxRecDepth 100000 in
set_option maxHeartbeats 4000000 in
theorem vleaf_any {own : Nat → Prop} {w : World} {t mt : Nat} {m most calls : Int} {l : List Vn} {gone : Int} {f : Int → Option Int} (h : VT own w t mt m most calls l gone f) (i : Nat) (hi : i < l.length) (hl : l.length ≤ 1048576) (par : Int) (hpar : wfI par) (v : Value) (xs : List It) (hv : RdRow itR 34 0 w v xs) (hn : xs.length ≤ 1048576)
    (D : List Int) (hD : ∀ y, f y ≠ none → y ∈ D) (hDl : D.length ≤ 1048576) (hin : ∀ x ∈ xs, x.id ∈ D) :
    Calls Try.prog 28 #[.pointer (some ⟨t, 0, none⟩), .int .i64 i, .int .i64 par, v] w fun r w' => r = .returned (.tuple #[]) ∧ Fr (nfL own w) w w' ∧ ∃ f', (∀ y, f' y ≠ none → y ∈ D) ∧ VT (MoreL own w) w' t mt m most calls (l.set i (leafV par xs)) gone f' := by
  obtain ⟨lv, mb, hrow, hO, hM, hol, hom⟩ := h.mem
  obtain ⟨lb, cap, hlv, _, hlb, hc1, hc2, hfr, hat⟩ := hO.at (by rintro rfl; simp at hi)
  subst hlv
  obtain ⟨cs, hcs, hc⟩ := hat i hi
  obtain ⟨vb0, vv0, rfl, _⟩ := vnR_iff.1 hcs
  obtain ⟨A, c, rfl, hlc, hcm, hA, _⟩ := hv.at
  have c0 := hrow.cell
  have hlt := hrow.lt
  have d0 := hc 0 _ rfl
  have d1 := hc 1 _ rfl
  have d2 := hc 2 _ rfl
  have d3 := hc 3 _ rfl
  have d4 := hc 4 _ rfl
  have d5 := hc 5 _ rfl
  have d6 := hc 6 _ rfl
  have d7 := hc 7 _ rfl
  have d8 := hc 8 _ rfl
  have d9 := hc 9 _ rfl
  have d10 := hc 10 _ rfl
  have d11 := hc 11 _ rfl
  have d12 := hc 12 _ rfl
  have d13 := hc 13 _ rfl
  rw [show vnR.sz = 14 from rfl] at d0 d1 d2 d3 d4 d5 d6 d7 d8 d9 d10 d11 d12 d13
  simp only [Nat.add_zero] at d0
  have hi' : (i : Int) < l.length := by omega
  obtain ⟨C0, hC0⟩ : ∃ C0 : World → Prop, C0 = fun w' => w'.heap[t]? = w.heap[t]? := ⟨_, rfl⟩
  have a1 := hrow.cw (C0 := C0) (fun w' hw => by subst hC0; exact hw)
  have h0 : C0 w.drew := by subst hC0; rfl
  have hne : Nonempty (CW C0) := ⟨⟨_, h0⟩⟩
  have HC := Lib.hid hC0; clear hC0
  have HH := Lib.hid (And.intro h (And.intro hrow (And.intro hO (And.intro hM (And.intro hol (And.intro hom (And.intro hv (And.intro hD (And.intro hin (And.intro hfr hA)))))))))); clear h hrow hO hM hol hom hv hD hin hfr hA hc1 hc2 hat hcs hc
  have HDD := Lib.hid (And.intro d0 (And.intro d1 (And.intro d2 (And.intro d3 (And.intro d4 (And.intro d5 (And.intro d6 (And.intro d7 (And.intro d8 (And.intro d9 (And.intro d10 (And.intro d11 (And.intro d12 d13))))))))))))); clear d0 d1 d2 d3 d4 d5 d6 d7 d8 d9 d10 d11 d12 d13
  go_enter Try.func28, Try.ntmps28
  go_wp2_with fail
  refine wp_region_sched [([true, true, true, true, true, true, true, false, false, false, false], 7), ([false, false, false, false, false, false, false, false, true, true, false], 10)] [false, false, false, false, false, false, false, false, false, false, false] (fun w' => ∃ z : CW C0, w' = z.w) (by kernel_rfl) (by kernel_rfl) ⟨⟨_, h0⟩, rfl⟩ ?_
  simp only [wpSch, pickR, pickN]
  repeat (go_big_quiet_step (fail))
  refine wpQuiet_nil ?_
  go_wp2_with fail
  refine (itclone_any _ xs w.drew (HH.out.2.2.2.2.2.2.1.below (bl_drewN w 1)) hn).mono ?_
  rintro er w2 ⟨v1, rfl, _, hO1, hB1⟩
  obtain ⟨A1, cp1, hv1⟩ := hO1.slice
  subst hv1
  have hB2 : Below w.heap.size w w2 := (bl_drewN w 1).trans hB1
  have hC2 : C0 w2 := by rw [HC.out]; exact hB2.block t hlt
  have hlb2 := hB2.block lb hlb
  have k0 := (cell_same (p := ⟨lb, i * 14, none⟩) hlb2).trans (HDD.out.1)
  have k1 := (cell_same (p := ⟨lb, i * 14 + 1, none⟩) hlb2).trans (HDD.out.2.1)
  have k2 := (cell_same (p := ⟨lb, i * 14 + 2, none⟩) hlb2).trans (HDD.out.2.2.1)
  have k3 := (cell_same (p := ⟨lb, i * 14 + 3, none⟩) hlb2).trans (HDD.out.2.2.2.1)
  have k4 := (cell_same (p := ⟨lb, i * 14 + 4, none⟩) hlb2).trans (HDD.out.2.2.2.2.1)
  have k5 := (cell_same (p := ⟨lb, i * 14 + 5, none⟩) hlb2).trans (HDD.out.2.2.2.2.2.1)
  have k6 := (cell_same (p := ⟨lb, i * 14 + 6, none⟩) hlb2).trans (HDD.out.2.2.2.2.2.2.1)
  have k7 := (cell_same (p := ⟨lb, i * 14 + 7, none⟩) hlb2).trans (HDD.out.2.2.2.2.2.2.2.1)
  have k8 := (cell_same (p := ⟨lb, i * 14 + 8, none⟩) hlb2).trans (HDD.out.2.2.2.2.2.2.2.2.1)
  have k9 := (cell_same (p := ⟨lb, i * 14 + 9, none⟩) hlb2).trans (HDD.out.2.2.2.2.2.2.2.2.2.1)
  have k10 := (cell_same (p := ⟨lb, i * 14 + 10, none⟩) hlb2).trans (HDD.out.2.2.2.2.2.2.2.2.2.2.1)
  have k11 := (cell_same (p := ⟨lb, i * 14 + 11, none⟩) hlb2).trans (HDD.out.2.2.2.2.2.2.2.2.2.2.2.1)
  have k12 := (cell_same (p := ⟨lb, i * 14 + 12, none⟩) hlb2).trans (HDD.out.2.2.2.2.2.2.2.2.2.2.2.2.1)
  have k13 := (cell_same (p := ⟨lb, i * 14 + 13, none⟩) hlb2).trans (HDD.out.2.2.2.2.2.2.2.2.2.2.2.2.2)
  have hff : ∀ j, w2.frozen? ⟨lb, j, none⟩ = false := fun j => by rw [frozen_same (p := ⟨lb, j, none⟩) hlb2]; exact HH.out.2.2.2.2.2.2.2.2.2.1 j
  have hl2 : lb < w2.heap.size := Nat.lt_of_lt_of_le hlb hB2.size
  have H2 := Lib.hid (And.intro hO1 (And.intro hB2 hlb2)); clear hO1 hB2 hB1 hlb2
  go_wp2_with fail
  apply only_mk
  refine And.intro ⟨⟨_, hC2⟩, rfl⟩ ?_
  repeat (go_big_quiet_step (fail))
  refine wpQuiet_nil ?_
  obtain ⟨h, hrow, hO, hM, hol, hom, hv, hD, hin, hfr, hA⟩ := HH.out
  obtain ⟨hO1, hB2, hlb2⟩ := H2.out
  obtain ⟨W3, hW3⟩ : ∃ W3, W3 = setsAt w2 lb (i * 14) [.bool true, .slice A1 xs.length cp1, .int .u64 0, .int .i64 0, .slice none 0 0, .string ⟨#[]⟩, .bool false, .int .i64 par, .int .i64 0, .int .i64 0, .int .i64 0, .int .i64 0, .int .i64 0, .int .i64 0] := ⟨_, rfl⟩
  have hO3 : OwnRow vnR 55 0 0 W3 (.slice (some ⟨lb, 0, none⟩) l.length cap) (l.set i (leafV par xs)) := by
    rw [hW3]
    exact (hO.below hB2).store (by decide) (by decide) (Nat.le_refl _) i hi _ (leafV par xs) (vnR_iff.2 ⟨_, _, rfl, hO1.read, it0_rd _ _, hpar, wf0, wf0, wf0, wf0, wf0, wf0⟩)
  have hG3 : w2.grownBy W3 (some lb) := by rw [hW3]; exact gb_sets _ _ _ _
  obtain ⟨dlb, hdlb⟩ := hO.blk (g := lb) rfl
  have htl : t ≠ lb := blk_ne hrow hdlb (by decide)
  have hml : mt ≠ lb := blk_ne h.met hdlb (by decide)
  have hbl : mb ≠ lb := fun e => by
    obtain ⟨es, c, hm2⟩ := hM.isMap
    exact blk_ne_map hdlb hm2 e.symm
  have hs3 : w2.heap.size ≤ W3.heap.size := hG3.size
  have hT3 : VT own W3 t mt m most calls (l.set i (leafV par xs)) gone f :=
    ⟨⟨_, mb, hrow.kept ((hG3.block t (Nat.lt_of_lt_of_le hlt hB2.size) (fun e => by injection e with e; exact htl e)).trans (hB2.block t hlt)), hO3, hM.kept ((hG3.block mb (Nat.lt_of_lt_of_le hM.lt hB2.size) (fun e => by injection e with e; exact hbl e)).trans (hB2.block mb hM.lt)), hol, hom⟩, h.met.kept ((hG3.block mt (Nat.lt_of_lt_of_le h.met.lt hB2.size) (fun e => by injection e with e; exact hml e)).trans (hB2.block mt h.met.lt)), h.ot, h.om⟩
  have hF3 : Fr (nfL own w) w W3 := ((Fr.refl _ w).below hB2 (Nat.le_refl _)).grown hG3 (fun g hg => by cases hg; exact .inl ⟨hol lb rfl, not_frzL hdlb (by decide)⟩)
  have hC3 : C0 W3 := by rw [HC.out]; exact (hG3.block t (Nat.lt_of_lt_of_le hlt hB2.size) (fun e => by injection e with e; exact htl e)).trans (hB2.block t hlt)
  have hvw : ∀ w', Fr (nfL own w) w w' → RdRow itR 34 0 w' (.slice A xs.length c) xs := fun w' hw => hv.keep (hw.kp (ts := 34 :: itR.ts) (b := 0) (fun g hg => hg.sta (fun g _ => Nat.zero_le g)))
  have HT := Lib.hid (And.intro hT3 (And.intro hF3 (And.intro hvw (And.intro hD (And.intro hin (And.intro hrow (And.intro h.ot hom))))))); clear hT3 hF3 hvw hD hin hO3 hG3 hdlb htl hml hbl hs3 h hrow hO hM hol hom hv hfr hA hO1 hB2 hlb2 HH H2 HDD
  go_wp2_with fail
  change (only _ _ _ (setsAt w2 lb (i * 14) [.bool true, .slice A1 xs.length cp1, .int .u64 0, .int .i64 0, .slice none 0 0, .string ⟨#[]⟩, .bool false, .int .i64 par, .int .i64 0, .int .i64 0, .int .i64 0, .int .i64 0, .int .i64 0, .int .i64 0]))
  rw [← hW3]
  clear hW3 k0 k1 k2 k3 k4 k5 k6 k7 k8 k9 k10 k11 k12 k13
  apply only_mk
  refine And.intro ⟨⟨_, hC3⟩, rfl⟩ ?_
  refine wpQuiet_nil ?_
  go_wp2_with fail
  have hxw : ∀ (k : Nat) (hk : k < xs.length), (xs[k]).id ∈ D := fun k hk => HT.out.2.2.2.2.1 _ (List.getElem_mem ..)
  have hiw : wfI (i : Int) := bd_wf ⟨by omega, by omega⟩
  have HX := Lib.hid (And.intro hxw hiw); clear hxw hiw
  go_loopw [9, 22] (fun _ vk wr => ∃ (k : Nat) (f' : Int → Option Int), vk = .int .i64 k ∧ k ≤ xs.length ∧ (∀ y, f' y ≠ none → y ∈ D) ∧ VT own wr t mt m most calls (l.set i (leafV par xs)) gone f' ∧ Fr (nfL own w) w wr) (fun _ vk _ => xs.length - (intOf vk).toNat)
  case atStart => exact ⟨0, f, rfl, Nat.zero_le _, HT.out.2.2.2.1, HT.out.1, HT.out.2.1⟩
  case round =>
    obtain ⟨k, f', rfl, hk, hD', hT, hF⟩ := hrel
    by_cases hlt3 : k < xs.length
    · have hvr := HT.out.2.2.1 wr hF
      obtain ⟨A', c', hv', _, _, _, hat⟩ := hvr.at
      injection hv' with e1 e2 e3
      clear e2
      subst e1 e3
      obtain ⟨g, o, cs, hA, hg, hr, hc⟩ := hat k hlt3
      subst hA
      obtain ⟨vx, rfl, hid, hob⟩ := itR_iff.1 hr
      obtain ⟨Av, nv, cv, hv'⟩ : ∃ A n c, vx = .slice A n c := by obtain ⟨v', hv2, _, hr, _⟩ := obR_iff.1 hob; simp only [List.cons.injEq, and_true, true_and] at hv2; subst hv2; obtain ⟨A, c, e, _⟩ := hr.at; exact ⟨A, _, c, e⟩
      subst hv'
      have d0 := hc 0 _ rfl
      have d1 := hc 1 _ rfl
      have d2 := hc 2 _ rfl
      have d3 := hc 3 _ rfl
      simp only [Nat.add_zero] at d0
      rw [show itR.sz = 4 from rfl] at d0 d1 d2 d3
      have hz : (k : Int) < xs.length := by omega
      obtain ⟨W1, hW1⟩ : ∃ W1, W1 = wr.alloc (.cells #[.int .u64 xs[k].id, .int .i64 xs[k].ob.tag, .slice Av nv cv, .string xs[k].ob.str] 34) := ⟨_, rfl⟩
      have hB1 : Below wr.heap.size wr W1 := by rw [hW1]; exact (Below.refl _ wr).alloc (Nat.le_refl _) _
      have j1 : IRow 34 W1 wr.heap.size [.int .u64 xs[k].id, .int .i64 xs[k].ob.tag, .slice Av nv cv, .string xs[k].ob.str] := by rw [hW1]; exact IRow.new wr _ _
      have hT1 : VT own W1.drew t mt m most calls (l.set i (leafV par xs)) gone f' := (hT.below hB1).below (bl_drewN W1 1)
      obtain ⟨mb', hmb, w5, hrun, hT5, hF5⟩ := hT1.map_at xs[k].id i hid HX.out.2 D hD' hDl
      have cm := hmb W1 rfl
      have hl1 : t < W1.heap.size := by obtain ⟨_, _, hx, _⟩ := hT1.mem; exact hx.lt
      have cb := j1.cell
      have hD5 : ∀ y, upd f' xs[k].id (some (i : Int)) y ≠ none → y ∈ D := fun y hy => by
        unfold upd at hy
        split at hy
        · rename_i e
          rw [e]
          exact HX.out.1 k hlt3
        · exact hD' y hy
      have hFw : Fr (nfL own w) w w5 := ((hF.below hB1 hF.size).drew).trans hF5 (fun g hg => by
        rcases Nat.lt_or_ge g w.heap.size with hl | hl
        · refine .inl ⟨hg.1, fun hf => hg.2 ?_⟩
          obtain ⟨c, e, f, h1, h2⟩ := hf
          exact ⟨c, e, f, ((hF.below hB1 hF.size).block g hl (fun hn => hn.2 ⟨c, e, f, h1, h2⟩)).trans h1, h2⟩
        · exact .inr hl)
      have HR := Lib.hid (And.intro hT5 (And.intro hD5 (And.intro hFw hk))); clear hT hF hr hc hat hob hvr hT1 hT5 hF5 hD5 hFw hmb hB1 j1 hD' hk hid
      go_wp2_with fail
      rw [← hW1]
      clear hW1
      refine wp_region_hoist [true, true, true, true, true, true, true, false] 0 (fun w' => ∃ n, w' = World.drewN W1 n) (by kernel_rfl) (by kernel_rfl) ⟨1, rfl⟩ ?_
      simp only [pickR, pickE, List.take, List.drop, wpLate]
      repeat (go_big_quiet_step (fail))
      refine wpQuiet_nil ?_
      go_wp2_with fail
      apply only_mk
      go_wp2_with fail
      exact ⟨⟨k + 1, _, by go_num, by omega, HR.out.2.1, HR.out.1, HR.out.2.2.1⟩, by simp [intOf]; omega⟩
    · obtain rfl : k = xs.length := by omega
      have HR := Lib.hid (And.intro hT (And.intro hF hD')); clear hT hF hD'
      go_wp2_with fail
      refine bodyPost_end (results_none rfl _ _ _) rfl ?_
      exact ⟨rfl, HR.out.2.1, _, HR.out.2.2, HR.out.1.grow (fun g hg => .inl hg)⟩
end Go.Proofs.Ytlcpfnhindfkfaa
