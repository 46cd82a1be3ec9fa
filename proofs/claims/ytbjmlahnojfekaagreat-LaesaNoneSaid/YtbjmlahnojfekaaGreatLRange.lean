/-
  laesa: Range by L1: the hits within a distance, and how often the meter was asked.
-/
import Derived.Test.YtbjmlahnojfekaaGreatLows
import Derived.Test.YtbjmlahnojfekaaGreatMUp
import Derived.Test.YtbjmlahnojfekaaGreatSort
namespace Go.Proofs.YtbjmlahnojfekaaGreat
open Go Go.RowKit Go.WW
/-- The hits among the first k rows. -/
def hitsN (m r : Int) (x : Ob) (q : List Int) (rows : List Lw) : Nat → List Ht
  | 0 => []
  | k + 1 => hitsN m r x q rows k ++ (match rows[k]? with
    | none => []
    | some l => if r < clB (lowL q l.row) then [] else if distO m x l.it.ob ≤ r then [⟨l.it.id, distO m x l.it.ob⟩] else [])
/-- How many of the first k rows are asked for. -/
def askN (r : Int) (q : List Int) (rows : List Lw) : Nat → Int
  | 0 => 0
  | k + 1 => askN r q rows k + (match rows[k]? with
    | none => 0
    | some l => if r < clB (lowL q l.row) then 0 else 1)
theorem hitsN_succ (m r : Int) (x : Ob) (q : List Int) (rows : List Lw) {k : Nat} (h : k < rows.length) : hitsN m r x q rows (k + 1) = hitsN m r x q rows k ++ (if r < clB (lowL q rows[k].row) then [] else if distO m x rows[k].it.ob ≤ r then [⟨rows[k].it.id, distO m x rows[k].it.ob⟩] else []) := by
  rw [hitsN, List.getElem?_eq_getElem h]
theorem askN_succ (r : Int) (q : List Int) (rows : List Lw) {k : Nat} (h : k < rows.length) : askN r q rows (k + 1) = askN r q rows k + (if r < clB (lowL q rows[k].row) then 0 else 1) := by
  rw [askN, List.getElem?_eq_getElem h]
theorem hitsN_len (m r : Int) (x : Ob) (q : List Int) (rows : List Lw) (k : Nat) : (hitsN m r x q rows k).length ≤ k := by
  induction k with
  | zero => exact Nat.le_refl _
  | succ k ih =>
    rw [hitsN, List.length_append]
    cases rows[k]? with
    | none => simp; omega
    | some l =>
      simp only
      split
      · simp; omega
      · split <;> simp <;> omega
set_option maxRecDepth 100000 in
set_option maxHeartbeats 4000000 in
theorem lrange_any {own : Nat → Prop} {w : World} {t mt : Nat} {m most calls : Int} {piv : List Ob} {rows : List Lw} (b : Nat) (hm1 : m = 1) (h : LT own w t mt m most calls piv rows) (hb : ∀ g, own g → b ≤ g) (hc : (Lit.int .i64 calls).wf = true) (x : Ob) (r : Int) (cx : List Value) (hx : obR.rd b w cx x) (sx : Short x) (hn : piv.length ≤ 1048576) (hr : rows.length ≤ 1048576) :
    Calls Tryz.prog 31 #[.pointer (some ⟨t, 0, none⟩), .agg cx.toArray, .int .i64 r] w fun e w' => ∃ v, e = .returned v ∧ OwnRow hitR 75 0 w.heap.size w' v (sortH (hitsN m r x (rowL m x piv) rows rows.length)) ∧ Fr (fun g => g = mt) w w' ∧
      LT own w' t mt m most (wrap64 (calls + piv.length + askN r (rowL m x piv) rows rows.length)) piv rows := by
  obtain ⟨vx, rfl, hwx, rx, hsx⟩ := obR_iff.1 hx
  obtain ⟨Ax, nx, cx, hvx⟩ : ∃ A n c, vx = .slice A n c := by obtain ⟨A, c, hv, _⟩ := rx; exact ⟨_, _, _, hv⟩
  subst hvx
  have hm0 := h.met.lt
  have hlt : t < w.heap.size := by obtain ⟨_, _, h1, _⟩ := h.mem; exact h1.lt
  obtain ⟨Q, hQ⟩ : ∃ Q, Q = rowL m x piv := ⟨_, rfl⟩
  rw [← hQ]
  obtain ⟨W0, hW0⟩ : ∃ W0, W0 = w.alloc (.cells #[.int .i64 x.tag, .slice Ax nx cx, .string x.str] 30) := ⟨_, rfl⟩
  have hb0 : Below w.heap.size w W0 := by rw [hW0]; exact (Below.refl _ w).alloc (Nat.le_refl _) _
  have i0 : IRow 30 W0 w.heap.size [.int .i64 x.tag, .slice Ax nx cx, .string x.str] := by rw [hW0]; exact IRow.new w _ _
  have hT0 := h.below hb0
  have hx0 := obR_below hx hb0
  have HH := Lib.hid (And.intro hT0 (And.intro hb (And.intro hc (And.intro hx0 (And.intro i0 (And.intro hb0 (And.intro hQ hm1))))))); clear h hb hc hx hx0 i0 hT0 hb0 hQ hm1 rx hwx hsx
  go_enter Tryz.func31, Tryz.ntmps31
  go_wp2_with fail
  rw [← hW0]
  refine (lows_any b HH.out.1 HH.out.2.1 HH.out.2.2.1 x _ HH.out.2.2.2.1 sx hn hr).mono ?_
  rintro er w2 ⟨vl, rfl, hL, hF, hT⟩
  rw [← HH.out.2.2.2.2.2.2.1] at hL
  obtain ⟨Al, cl, hvl⟩ := hL.slice
  subst hvl
  have hll : (lowsL Q (rows.map (·.row))).length = rows.length := by unfold lowsL; rw [lowsN_len, List.length_map]
  rw [hll] at hL ⊢
  have i2 := HH.out.2.2.2.2.1.kept (hF.block _ HH.out.2.2.2.2.1.lt (fun e => by omega))
  have hF0 : Fr (fun g => g = mt) w w2 := (Fr.of_below HH.out.2.2.2.2.2.1).trans hF (fun g hg => .inl hg)
  have hsz := hF0.size
  have hx2 := obR.keep _ _ _ _ _ (hF.kp (ts := obR.ts) (b := b) (fun g hg => by subst hg; exact not_sta HH.out.1.met (HH.out.2.1 _ HH.out.1.om) (by decide))) HH.out.2.2.2.1
  have HX := Lib.hid hx2; clear hx2
  have HT := Lib.hid (And.intro hT (And.intro hL (And.intro hF0 (And.intro i2 hll)))); clear hT hL hF0 hF hll i2 hW0
  go_wp2_with fail
  go_loopw [7, 9, 10, 11, 12, 17, 34] (fun v _ _ _ _ vk _ wr => ∃ k : Nat, vk = .int .i64 k ∧ k ≤ rows.length ∧ OwnRow hitR 75 0 w2.heap.size wr v (hitsN m r x Q rows k) ∧ Fr (fun g => g = mt) w2 wr ∧ LT (fun g => own g ∧ g < w2.heap.size) wr t mt m most (wrap64 (calls + piv.length + askN r Q rows k)) piv rows) (fun _ _ _ _ _ vk _ _ => rows.length - (intOf vk).toNat)
  case atStart => exact ⟨0, rfl, Nat.zero_le _, OwnRow.nil .., Fr.refl _ _, by have := HT.out.1.tight; rw [show wrap64 (calls + piv.length + askN r Q rows 0) = wrap64 (calls + piv.length) by simp [askN]]; exact this⟩
  case round =>
    obtain ⟨k, rfl, hk, hO, hFr, hTr⟩ := hrel
    by_cases hlt' : k < rows.length
    · have hz : (k : Int) < rows.length := by omega
      have hLr : OwnRow entR 108 0 W0.heap.size wr (.slice Al rows.length cl) (lowsL Q (rows.map (·.row))) := HT.out.2.1.keep (hFr.kp (fun g hg => by subst hg; exact not_sta HT.out.1.met (Nat.zero_le _) (by decide))) (fun g hg => hFr.block g (HT.out.2.1.lt g hg).2 (fun e => by have := (HT.out.2.1.lt g hg).1; have := HH.out.2.2.2.2.2.1.size; omega))
      obtain ⟨le, cape, hlv, _, hle, hce1, hce2, hfre, hate⟩ := hLr.at (by intro e; have := HT.out.2.2.2.2; rw [e] at this; simp at this; omega)
      injection hlv with e1 e12 e2
      clear e12
      subst e1 e2
      obtain ⟨ce, hrde, hcelle⟩ := hate k (by rw [HT.out.2.2.2.2]; exact hlt')
      have hent : (lowsL Q (rows.map (·.row)))[k]'(by rw [HT.out.2.2.2.2]; exact hlt') = ⟨lowL Q rows[k].row, k, 0⟩ := by
        have := lowsN_at Q (rows.map (·.row)) (k := (rows.map (·.row)).length) (i := k) (by rw [List.length_map]; exact hlt')
        have h2 : (rows.map (·.row)).getD k [] = rows[k].row := by simp [hlt']
        rw [h2] at this
        exact (List.getElem?_eq_some_iff.1 this).2
      rw [hent] at hrde
      obtain ⟨rfl, hew, _, _⟩ := entR_iff.1 hrde
      have e0 := hcelle 0 _ rfl
      have e1 := hcelle 1 _ rfl
      have e2 := hcelle 2 _ rfl
      rw [show entR.sz = 3 from rfl] at e0 e1 e2
      simp only [Nat.add_zero] at e0
      have hst := hitsN_succ m r x Q rows hlt'
      have hsa := askN_succ r Q rows hlt'
      generalize hV : lowL Q rows[k].row = V at *
      have HR := Lib.hid (And.intro hO (And.intro hFr (And.intro hTr (And.intro hst (And.intro hsa hk)))))
      clear hO hFr hTr hst hsa hrde hcelle hate hent hLr hle hce1 hce2 hfre
      go_wp2_with fail
      refine (cut_any _ V r).mono ?_
      rintro er w3 ⟨rfl, rfl⟩
      by_cases hcut : r < clB V
      · have hcd : decide (r < clB V) = true := decide_eq_true hcut
        go_wp2_with fail
        obtain ⟨hO, hFr, hTr, hst, hsa, hk⟩ := HR.out
        rw [if_pos hcut, List.append_nil] at hst
        rw [if_pos hcut, Int.add_zero] at hsa
        exact ⟨⟨k + 1, by go_num, by omega, by rw [hst]; exact hO.alloc _, hFr.alloc _, by rw [hsa]; exact hTr.below ((Below.refl _ wr).alloc (Nat.le_refl _) _)⟩, by simp [intOf]; omega⟩
      · have hcd : decide (r < clB V) = false := decide_eq_false hcut
        obtain ⟨hO, hFr, hTr, hst, hsa, hk'⟩ := HR.out
        rw [if_neg hcut] at hst hsa
        obtain ⟨vp2, vr2, hrow2, hP2, hR2, _, _⟩ := hTr.mem
        obtain ⟨Ar, cr, hvr⟩ := hR2.slice
        subst hvr
        obtain ⟨lb, cap, hlv, _, hlb, hc1, hc2, hfr, hat⟩ := hR2.at (by intro e; rw [e] at hlt'; cases hlt')
        injection hlv with e1 e12 e2
        clear e12
        subst e1 e2
        obtain ⟨cs, hrd, hcell⟩ := hat k hlt'
        obtain ⟨v, vrow, rfl, hit, hrr⟩ := lrR_iff.1 hrd
        obtain ⟨v', hv1, hidw, hob⟩ := itR_iff.1 hit
        simp only [List.cons.injEq] at hv1
        obtain ⟨-, -, hv1, -⟩ := hv1
        subst hv1
        obtain ⟨Av, nv, cv, hvv⟩ : ∃ A n c, v = .slice A n c := by obtain ⟨v2, hv2, _, hr, _⟩ := obR_iff.1 hob; simp only [List.cons.injEq, and_true, true_and] at hv2; subst hv2; obtain ⟨A, c, e, _⟩ := hr.at; exact ⟨A, _, c, e⟩
        subst hvv
        have d0 := hcell 0 _ rfl
        have d1 := hcell 1 _ rfl
        have d2 := hcell 2 _ rfl
        have d3 := hcell 3 _ rfl
        rw [show lrR.sz = 5 from rfl] at d0 d1 d2 d3
        simp only [Nat.add_zero] at d0
        have sp := hTr.sr _ (List.getElem_mem hlt')
        obtain ⟨W1, hW1⟩ : ∃ W1, W1 = wr.alloc (.cells #[.int .i64 V, .int .i64 k, .int .u64 0] 108) := ⟨_, rfl⟩
        have hB1 : Below wr.heap.size wr W1 := by rw [hW1]; exact (Below.refl _ wr).alloc (Nat.le_refl _) _
        have i1 : IRow 108 W1 wr.heap.size [.int .i64 V, .int .i64 k, .int .u64 0] := by rw [hW1]; exact IRow.new wr _ _
        have hrow3 := hrow2.kept (hB1.block _ hrow2.lt)
        have hlbl : lb < wr.heap.size := (hR2.lt lb rfl).2
        obtain ⟨C0, hC0⟩ : ∃ C0 : World → Prop, C0 = fun w' => Below W1.heap.size W1 w' := ⟨_, rfl⟩
        have a1 := hrow3.cw (C0 := C0) (fun w' hw => by subst hC0; exact hw.block _ hrow3.lt)
        have a2 := i1.cw (C0 := C0) (fun w' hw => by subst hC0; exact hw.block _ i1.lt)
        have alb : ∀ z : CW C0, z.w.heap[lb]? = wr.heap[lb]? := fun z => by
          obtain ⟨w', hw⟩ := z
          subst hC0
          exact (hw.block lb (Nat.lt_of_lt_of_le hlbl hB1.size)).trans (hB1.block lb hlbl)
        have a3 : ∀ z : CW C0, z.w.cell? ⟨lb, k * 5, none⟩ = _ := fun z => (cell_same (p := ⟨lb, k * 5, none⟩) (alb z)).trans d0
        have a4 : ∀ z : CW C0, z.w.cell? ⟨lb, k * 5 + 1, none⟩ = _ := fun z => (cell_same (p := ⟨lb, k * 5 + 1, none⟩) (alb z)).trans d1
        have a5 : ∀ z : CW C0, z.w.cell? ⟨lb, k * 5 + 2, none⟩ = _ := fun z => (cell_same (p := ⟨lb, k * 5 + 2, none⟩) (alb z)).trans d2
        have a6 : ∀ z : CW C0, z.w.cell? ⟨lb, k * 5 + 3, none⟩ = _ := fun z => (cell_same (p := ⟨lb, k * 5 + 3, none⟩) (alb z)).trans d3
        have h0 : C0 W1.drew := by subst hC0; exact bl_drewN W1 1
        have hne : Nonempty (CW C0) := ⟨⟨_, h0⟩⟩
        have HC := Lib.hid hC0; clear hC0 alb
        have HS := Lib.hid (And.intro hO (And.intro hFr (And.intro hTr (And.intro hst (And.intro hsa (And.intro hB1 (And.intro hit (And.intro hob (And.intro sp (And.intro hidw hk'))))))))))
        clear hO hFr hTr hst hsa hB1 hit hob sp hk' hcell hat hR2 hP2 hrow2 hrow3 hrd hrr d0 d1 d2 d3 hc1 hc2 hlb hfr i1 hidw
        go_wp2_with fail
        rw [← hW1]
        clear hW1
        refine wp_region_hoist [true, true, true, true, true, true, true, true, true, false, false] 1 (fun w' => ∃ z : CW C0, w' = z.w) (by kernel_rfl) (by kernel_rfl) ⟨⟨_, h0⟩, rfl⟩ ?_
        simp only [pickR, pickE, List.take, List.drop, wpLate]
        repeat (go_big_quiet_step (fail))
        refine wpQuiet_nil ?_
        go_wp2_with fail
        obtain ⟨W2, hW2⟩ : ∃ W2, W2 = (W1.alloc (.cells #[.int .u64 rows[k].it.id, .int .i64 rows[k].it.ob.tag, .slice Av nv cv, .string rows[k].it.ob.str] 34)).drew := ⟨_, rfl⟩
        have hB2 : Below W1.heap.size W1 W2 := by rw [hW2]; exact ((Below.refl _ W1).alloc (Nat.le_refl _) _).drew
        have j1 : IRow 34 W2 W1.heap.size [.int .u64 rows[k].it.id, .int .i64 rows[k].it.ob.tag, .slice Av nv cv, .string rows[k].it.ob.str] := by rw [hW2]; exact (IRow.new W1 _ _).kept rfl
        obtain ⟨hO, hFr, hTr, hst, hsa, hB1, hit, hob, sp, hidw, hk'⟩ := HS.out
        have hF2 : Fr (fun g => g = mt) w2 W2 := (hFr.below hB1 hFr.size).below hB2 (Nat.le_trans hFr.size hB1.size)
        have hB12 : Below wr.heap.size wr W2 := hB1.trans (hB2.mono hB1.size)
        have hT2 := hTr.below hB12
        obtain ⟨vp3, vr3, hrow3, _⟩ := hT2.mem
        have j2 := HT.out.2.2.2.1.kept (hF2.block _ HT.out.2.2.2.1.lt (fun e => by omega))
        have hx3 := obR.keep _ _ _ _ _ (hF2.kp (ts := obR.ts) (b := b) (fun g hg => by subst hg; exact not_sta HT.out.1.met (HH.out.2.1 _ HH.out.1.om) (by decide))) HX.out
        have hy3 := obR_lift0 b (obR_below hob hB12)
        have htm : t ≠ mt := blk_ne hrow3 hT2.met (by decide)
        obtain ⟨C1, hC1⟩ : ∃ C1 : World → Prop, C1 = fun w' => Fr (fun g => g = mt) W2 w' := ⟨_, rfl⟩
        have b1 := hrow3.cw (C0 := C1) (fun w' hw => by subst hC1; exact hw.block _ hrow3.lt htm)
        have b2 := j2.cw (C0 := C1) (fun w' hw => by subst hC1; exact hw.block _ j2.lt (fun e => by omega))
        have b3 := j1.cw (C0 := C1) (fun w' hw => by subst hC1; exact hw.block _ j1.lt (fun e => by have := hT2.met.lt; have := hTr.met.lt; have := hB1.size; omega))
        have h01 : C1 W2.drew := by subst hC1; exact (Fr.refl _ W2).drew
        have hne1 : Nonempty (CW C1) := ⟨⟨_, h01⟩⟩
        have hdw := bd_wf (distO_bd (m := m) hx3 hy3 sx sp)
        have hup := meterU_any b mt m _ r x rows[k].it.ob _ _ W2.drew HH.out.2.2.2.2.2.2.2 (HH.out.2.1 _ HH.out.1.om) (hT2.met.kept rfl) (obR_below hx3 (bl_drewN W2 1)) (obR_below hy3 (bl_drewN W2 1)) sx sp
        have hmj : W1.heap.size ≠ mt := fun e => by have := hTr.met.lt; have := hB1.size; omega
        have HC1 := Lib.hid hC1; clear hC1
        have h2 : C0 (W1.alloc (.cells #[.int .u64 0, .int .i64 0, .slice none 0 0, .string ⟨#[]⟩] 34)).drew := by rw [HC.out]; exact ((Below.refl _ W1).alloc (Nat.le_refl _) _).drew
        have HU := Lib.hid (And.intro hO (And.intro hF2 (And.intro hT2 (And.intro hst (And.intro hsa (And.intro hB12 (And.intro hdw (And.intro hup (And.intro hidw (And.intro hk' j1))))))))))
        clear hO hFr hTr hst hsa hB1 hit hob sp hidw hk' hB2 hF2 hB12 hT2 hrow3 hx3 hy3 hdw hup j1 j2 HS a1 a2 a3 a4 a5 a6
        apply only_mk; refine And.intro ⟨⟨_, h2⟩, rfl⟩ ?_
        go_wp2_with fail
        apply only_mk
        go_wp2_with fail
        rw [← hW2]
        clear hW2 h2 h0 hne HC
        refine wp_region_sched [([true, true, true, true, true, true, true, true, false, false, false, false, false, false], 8)] [false, false, false, false, false, false, false, false, false, true, true, true, true, true] (fun w' => ∃ z : CW C1, w' = z.w) (by kernel_rfl) (by kernel_rfl) ⟨⟨_, h01⟩, rfl⟩ ?_
        simp only [wpSch, pickR, pickN]
        repeat (go_big_quiet_step (fail))
        refine wpQuiet_nil ?_
        go_wp2_with fail
        obtain ⟨hO, hF2, hT2, hst, hsa, hB12, hdw, hup, hidw, hk', j1⟩ := HU.out
        generalize hD : distO m x rows[k].it.ob = D at *
        refine hup.mono ?_
        clear hup HU
        rintro er w3 ⟨rfl, hG, hM3⟩
        have hF3 : Fr (fun g => g = mt) W2 w3 := (Fr.refl _ W2).drew.grown hG (fun g hg => by cases hg; exact .inl rfl)
        have h13 : C1 w3 := by rw [HC1.out]; exact hF3
        have hT3 := hT2.metered hF3 hM3
        rw [wrap_step] at hT3
        have hO3 : OwnRow hitR 75 0 w2.heap.size w3 u7 (hitsN m r x Q rows k) := (hO.below hB12).keep (hF3.kp (fun g hg => by rintro (h | ⟨_, _, _, _, h⟩) <;> first | omega | simp [hitR, Rd.iso, Rd.pair, Rd.int] at h)) (fun g hg => hF3.block g ((hO.below hB12).lt g hg).2 (fun e => by have := (hO.lt g hg).1; have := HT.out.1.met.lt; omega))
        have hFw3 := hF2.trans hF3 (fun g hg => .inl hg)
        have j3 := j1.kept (hF3.block _ j1.lt hmj)
        obtain ⟨A7, c7, hv7⟩ := hO3.slice
        subst hv7
        have hl7 := hitsN_len m r x Q rows k
        generalize hitsN m r x Q rows k = L at *
        have c3 := j3.cell 0
        have hj3l := j3.lt
        simp only [List.getElem?_cons_zero] at c3
        have hl8 : (L.length + 1) * 16 ≤ 140737488355328 := by omega
        have HV := Lib.hid (And.intro hO3 (And.intro hFw3 (And.intro hT3 (And.intro hst (And.intro hsa (And.intro hdw (And.intro hidw (And.intro hk' hl8))))))))
        clear hO hF2 hT2 hst hsa hB12 hdw hidw hk' j1 hG hM3 hF3 hT3 hO3 hFw3 j3 hl7 hl8 b1 b2 b3
        by_cases hle : D ≤ r
        · have hdd : decide (D ≤ r) = true := decide_eq_true hle
          rw [if_pos hle, hdd]
          clear hdd
          go_wp2_with fail
          apply only_mk; refine And.intro ⟨⟨_, h13⟩, rfl⟩ ?_
          repeat (go_big_quiet_step (fail))
          refine wpQuiet_nil ?_
          clear h13 h01 hne1 HC1
          go_wp2_with (at_builtin; go_loud (refine wp_push (R := hitR) (W := w3) rfl (.tmp 47) (.tmp 52) 69 (.agg #[.int .u64 0, .int .i64 0]) 16 rfl Tryz.underlying69 info_hit rfl (by decide) (by decide) (.slice A7 L.length c7) L ⟨rows[k].it.id, D⟩ #[.int .u64 rows[k].it.id, .int .i64 D] (0, 0) rfl rfl (hitR_iff.2 ⟨rfl, HV.out.2.2.2.2.2.2.1, HV.out.2.2.2.2.2.1⟩) HV.out.1 HV.out.2.1.size (fun h => by cases h) (Nat.zero_le _) HV.out.2.2.2.2.2.2.2.2 ?_); intro v1 w4 hO4 hG4 _ _)
          obtain ⟨hO3, hFw3, hT3, hst, hsa, hdw, hidw, hk', hl8⟩ := HV.out
          rw [if_pos (by omega)] at hst
          exact ⟨⟨k + 1, by go_num, by omega, by rw [hst]; exact hO4, hFw3.grown hG4 (fun g hg => .inr (hO3.lt _ hg).1), by rw [hsa]; exact hT3.keep ((Kp.refl _ _ _).grown hG4 (fun g hg => .inr (by obtain ⟨cur, hh⟩ := hO3.blk hg; exact not_sta hh (Nat.zero_le _) (by decide)))) (fun g hg ho => hG4.block g hg (fun e => by have := (hO3.lt _ e.symm).1; have := ho.2; omega))⟩, by simp [intOf]; omega⟩
        · have hdd : decide (D ≤ r) = false := decide_eq_false hle
          rw [if_neg hle, hdd]
          clear hdd
          go_wp2_with fail
          apply only_mk; refine And.intro ⟨⟨_, h13⟩, rfl⟩ ?_
          repeat (go_big_quiet_step (fail))
          refine wpQuiet_nil ?_
          clear h13 h01 hne1 HC1
          go_wp2_with fail
          obtain ⟨hO3, hFw3, hT3, hst, hsa, hdw, hidw, hk', hl8⟩ := HV.out
          rw [if_neg (by omega), List.append_nil] at hst
          exact ⟨⟨k + 1, by go_num, by omega, by rw [hst]; exact hO3, hFw3, by rw [hsa]; exact hT3⟩, by simp [intOf]; omega⟩
    · obtain rfl : k = rows.length := by omega
      have hl7 := hitsN_len m r x Q rows rows.length
      have HR := Lib.hid (And.intro hO (And.intro hFr (And.intro hTr hl7))); clear hO hFr hTr hl7
      go_wp2_with fail
      refine (hsort_any 0 _ _ wr HR.out.1.read (by have := HR.out.2.2.2; omega)).mono ?_
      rintro er w3 ⟨v3, rfl, hO3, hB3⟩
      have HS := Lib.hid (And.intro hO3 hB3); clear hO3 hB3
      go_wp2_with fail
      go_ret
      obtain ⟨hO, hFr, hTr, _⟩ := HR.out
      have hFw := HT.out.2.2.1.trans hFr (fun g hg => .inl hg)
      exact ⟨_, rfl, HS.out.1.base hFw.size, hFw.below HS.out.2 hFw.size, (hTr.below HS.out.2).grow (fun g hg => hg.1)⟩
end Go.Proofs.YtbjmlahnojfekaaGreat
