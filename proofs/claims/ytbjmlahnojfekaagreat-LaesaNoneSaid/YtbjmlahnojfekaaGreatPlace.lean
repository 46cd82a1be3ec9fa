/-
  laesa: place, has; slices.BinarySearchFunc over rows by their numbers.
-/
import Derived.Test.YtbjmlahnojfekaaGreatLk
import Derived.Deep.DeepCutAuto
namespace Go.WW
def cmpI (a b : Int) : Int := if a < b then -1 else if b < a then 1 else 0
/-- Where a number stands, or would. -/
structure Pos (ids : List Int) (x : Int) (i : Nat) : Prop where
  le : i ≤ ids.length
  lo : ∀ j, j < i → ids.getD j 0 < x
  hi : ∀ j, i ≤ j → j < ids.length → x ≤ ids.getD j 0
def asc (ids : List Int) : Prop := ∀ i j, i < j → j < ids.length → ids.getD i 0 < ids.getD j 0
end Go.WW
namespace Go.Proofs.YtbjmlahnojfekaaGreat
open Go Go.RowKit Go.WW
set_option maxHeartbeats 1000000 in
theorem nanu_any (w : World) (x : Int) : Calls Tryz.prog 120 #[.int .u64 x] w fun e w' => e = .returned (.bool false) ∧ w' = w := by
  go_enter Tryz.func120, Tryz.ntmps120
  go_wp2_with fail
  go_ret
  exact ⟨by simp, rfl⟩
set_option maxHeartbeats 1000000 in
theorem cmpu_any (w : World) (x y : Int) : Calls Tryz.prog 90 #[.int .u64 x, .int .u64 y] w fun e w' => e = .returned (.int .i64 (cmpI x y)) ∧ w' = w := by
  have hc : RowKit.Hid (cmpI x y = if x < y then -1 else if y < x then 1 else 0) := Lib.hid rfl
  go_enter Tryz.func90, Tryz.ntmps90
  go_wp2_with fail
  refine (nanu_any w x).mono ?_
  rintro er w1 ⟨rfl, rfl⟩
  go_wp2_with fail
  refine (nanu_any _ y).mono ?_
  rintro er w1 ⟨rfl, rfl⟩
  by_cases h1 : x < y
  · go_wp2_with fail
    go_ret
    refine ⟨ret_i ?_, rfl⟩
    rw [hc.out, if_pos h1]
  · by_cases h2 : y < x
    · go_wp2_with fail
      go_ret
      refine ⟨ret_i ?_, rfl⟩
      rw [hc.out, if_neg (by omega), if_pos h2]
    · go_wp2_with fail
      go_ret
      refine ⟨ret_i ?_, rfl⟩
      rw [hc.out, if_neg (by omega), if_neg (by omega)]
set_option maxHeartbeats 1000000 in
theorem by_any (b : Nat) (w : World) (r : Lw) (cs : List Value) (x : Int) (hr : lrR.rd b w cs r) : Calls Tryz.prog 89 #[.agg cs.toArray, .int .u64 x] w fun e w' => e = .returned (.int .i64 (cmpI r.it.id x)) ∧ Below w.heap.size w w' := by
  obtain ⟨v, vr, rfl, hit, hrow⟩ := lrR_iff.1 hr
  go_enter Tryz.func89, Tryz.ntmps89
  go_wp2_with fail
  refine (cmpu_any _ r.it.id x).mono ?_
  rintro er w1 ⟨rfl, rfl⟩
  go_wp2_with fail
  go_ret
  exact ⟨rfl, (Below.refl _ w).alloc (Nat.le_refl _) _⟩
set_option maxRecDepth 100000 in
set_option maxHeartbeats 4000000 in
theorem bsearch_any (b : Nat) (w : World) (v : Value) (rows : List Lw) (x : Int) (hv : RdRow lrR 101 b w v rows) (hs : asc (rows.map (·.it.id))) (hn : rows.length ≤ 1048576) :
    Calls Tryz.prog 88 #[v, .int .u64 x, .func (.func 89) #[] #[]] w fun e w' => ∃ i : Nat, e = .returned (.tuple #[.int .i64 i, .bool (decide (x ∈ rows.map (·.it.id)))]) ∧ Pos (rows.map (·.it.id)) x i ∧ Below w.heap.size w w' := by
  obtain ⟨A, c, rfl, hlc, hcm, hA, hat⟩ := hv.at
  obtain ⟨N, hN⟩ : ∃ N, N = rows.length := ⟨_, rfl⟩
  have hid : ∀ i (h : i < rows.length), (rows.map (·.it.id)).getD i 0 = rows[i].it.id := fun i h => by simp [List.getD_eq_getElem?_getD, h]
  have HH := Lib.hid (And.intro hv (And.intro hat (And.intro hs (And.intro hN hid)))); clear hv hat hs hA hid
  obtain ⟨F, hF⟩ : ∃ F, F = decide (x ∈ rows.map (·.it.id)) := ⟨_, rfl⟩
  rw [← hN] at hlc hn ⊢
  rw [← hF]
  have HF := Lib.hid hF; clear hF
  clear hN
  go_enter Tryz.func88, Tryz.ntmps88
  go_wp2_with fail
  go_loopw [9, 10, 11] (fun vi vj _ wr => ∃ i j : Nat, vi = .int .i64 i ∧ vj = .int .i64 j ∧ i ≤ j ∧ j ≤ N ∧ (∀ k, k < i → (rows.map (·.it.id)).getD k 0 < x) ∧ (∀ k, j ≤ k → k < N → x ≤ (rows.map (·.it.id)).getD k 0) ∧ Below w.heap.size w wr) (fun vi vj _ _ => (intOf vj).toNat - (intOf vi).toNat)
  case atStart => exact ⟨0, N, rfl, rfl, Nat.zero_le _, Nat.le_refl _, fun k h => by omega, fun k h1 h2 => by omega, Below.refl _ _⟩
  case round =>
    obtain ⟨i, j, rfl, rfl, hij, hjN, hlo, hhi, hB⟩ := hrel
    have HI := Lib.hid (And.intro hlo (And.intro hhi hB)); clear hlo hhi hB
    by_cases hlt : i < j
    · have z1 : (i : Int) < j := by omega
      have z2 : (j : Int) ≤ N := by omega
      have z3 : (N : Int) ≤ 1048576 := by omega
      obtain ⟨h, hh⟩ : ∃ h, h = (i + j) / 2 := ⟨_, rfl⟩
      have e : ((i : Int) + j) / 2 = (h : Int) := by omega
      have hh1 : i ≤ h ∧ h < j := by omega
      obtain ⟨hh1, hh2⟩ := hh1
      have z4 : (h : Int) < N := by omega
      have hN := HH.out.2.2.2.1
      have hhr : h < rows.length := by omega
      obtain ⟨g, o, cs, hA, hg, hr, hcell⟩ := HH.out.2.1 h hhr
      subst hA
      obtain ⟨vv, vr, rfl, hit, hrow⟩ := lrR_iff.1 hr
      obtain ⟨_, hvv, _, hob⟩ := itR_iff.1 hit
      simp only [List.cons.injEq, and_true, true_and] at hvv
      subst hvv
      obtain ⟨Av, nv, cv, hv'⟩ : ∃ A n c, vv = .slice A n c := by obtain ⟨v', hv2, _, hr, _⟩ := obR_iff.1 hob; simp only [List.cons.injEq, and_true, true_and] at hv2; subst hv2; obtain ⟨A, c, e, _⟩ := hr.at; exact ⟨A, _, c, e⟩
      subst hv'
      obtain ⟨Ar, cr, hvr, _⟩ := hrow.at
      subst hvr
      have hbl := fun j u hu => (HI.out.2.2.cell (p := ⟨g, o + h * 5 + j, none⟩) hg).trans (hcell j u hu)
      have d0 := hbl 0 _ rfl
      have d1 := hbl 1 _ rfl
      have d2 := hbl 2 _ rfl
      have d3 := hbl 3 _ rfl
      have d4 := hbl 4 _ rfl
      simp only [Nat.add_zero] at d0
      have hid := HH.out.2.2.2.2 h hhr
      have hr1 := lrR.keep _ _ _ _ _ ⟨HI.out.2.2.size, fun g hg _ => HI.out.2.2.block g hg⟩ hr
      have HJ := Lib.hid (And.intro hid (And.intro hh (And.intro hr1 hN)))
      clear hid hh hr1 hN hr hcell hbl hit hrow hob
      go_wp2_with fail
      refine (by_any b _ rows[h] _ x HJ.out.2.2.1).mono ?_
      rintro er w1 ⟨rfl, hb1⟩
      obtain ⟨hid, hh, hr1, hN⟩ := HJ.out
      obtain ⟨hlo, hhi, hB⟩ := HI.out
      have hs := HH.out.2.2.1
      have hlen : (rows.map (·.it.id)).length = N := by rw [List.length_map, hN]
      generalize rows[h].it.id = y at *
      by_cases hc : y < x
      · have hci : cmpI y x = -1 := by unfold cmpI; rw [if_pos hc]
        rw [hci]
        have hZ : (∀ k, k < h + 1 → (rows.map (·.it.id)).getD k 0 < x) ∧ Below w.heap.size w w1 := by
          refine ⟨fun k hk => ?_, hB.trans (hb1.mono hB.size)⟩
          rcases Nat.lt_or_ge k h with h1 | h1
          · have := hs k h h1 (by omega)
            omega
          · obtain rfl : k = h := by omega
            omega
        have HZ := Lib.hid (And.intro hZ hhi)
        clear hZ hid hh hr1 hN hlo hhi hB hs hlen hci HJ HI
        go_wp2_with fail
        refine ⟨⟨h + 1, j, by go_num, rfl, by omega, by omega, HZ.out.1.1, HZ.out.2, HZ.out.1.2⟩, by simp [intOf]; omega⟩
      · have hci : 0 ≤ cmpI y x ∧ cmpI y x ≤ 1 := by unfold cmpI; split <;> first | omega | (split <;> omega)
        have hZ : (∀ k, h ≤ k → k < N → x ≤ (rows.map (·.it.id)).getD k 0) ∧ Below w.heap.size w w1 := by
          refine ⟨fun k h1 h2 => ?_, hB.trans (hb1.mono hB.size)⟩
          rcases Nat.lt_or_ge h k with h3 | h3
          · have := hs h k h3 (by omega)
            omega
          · obtain rfl : k = h := by omega
            omega
        have HZ := Lib.hid (And.intro hZ hlo)
        obtain ⟨hc1, hc2⟩ := hci
        generalize cmpI y x = q at *
        clear hZ hid hh hr1 hN hlo hhi hB hs hlen HJ HI
        go_wp2_with fail
        refine ⟨⟨i, h, rfl, by go_num, by omega, by omega, HZ.out.2, HZ.out.1.1, HZ.out.1.2⟩, by simp [intOf]; omega⟩
    · obtain rfl : i = j := by omega
      have hN := HH.out.2.2.2.1
      have hlen : (rows.map (·.it.id)).length = N := by rw [List.length_map, hN]
      have hpos : Pos (rows.map (·.it.id)) x i := ⟨by omega, HI.out.1, fun k h1 h2 => HI.out.2.1 k h1 (by omega)⟩
      have hmem : x ∈ rows.map (·.it.id) ↔ i < N ∧ (rows.map (·.it.id)).getD i 0 = x := by
        constructor
        · intro hx
          obtain ⟨k, hk⟩ := List.getElem?_of_mem hx
          have hk1 := (List.getElem?_eq_some_iff.1 hk).1
          have hkd : (rows.map (·.it.id)).getD k 0 = x := by rw [List.getD_eq_getElem?_getD, hk]; rfl
          have h1 : ¬ k < i := fun h => by have := hpos.lo k h; omega
          refine ⟨by omega, ?_⟩
          rcases Nat.lt_or_ge i k with h2 | h2
          · have := HH.out.2.2.1 i k h2 hk1
            have := hpos.hi i (Nat.le_refl _) (by omega)
            omega
          · obtain rfl : k = i := by omega
            exact hkd
        · rintro ⟨h1, h2⟩
          rw [← h2, List.getD_eq_getElem?_getD, List.getElem?_eq_getElem (by omega)]
          exact List.getElem_mem ..
      by_cases hlt2 : i < N
      · have z1 : (i : Int) < N := by omega
        have hhr : i < rows.length := by omega
        obtain ⟨g, o, cs, hA, hg, hr, hcell⟩ := HH.out.2.1 i hhr
        subst hA
        obtain ⟨vv, vr, rfl, hit, hrow⟩ := lrR_iff.1 hr
        obtain ⟨_, hvv, _, hob⟩ := itR_iff.1 hit
        simp only [List.cons.injEq, and_true, true_and] at hvv
        subst hvv
        obtain ⟨Av, nv, cv, hv'⟩ : ∃ A n c, vv = .slice A n c := by obtain ⟨v', hv2, _, hr, _⟩ := obR_iff.1 hob; simp only [List.cons.injEq, and_true, true_and] at hv2; subst hv2; obtain ⟨A, c, e, _⟩ := hr.at; exact ⟨A, _, c, e⟩
        subst hv'
        obtain ⟨Ar, cr, hvr, _⟩ := hrow.at
        subst hvr
        have hbl := fun j u hu => (HI.out.2.2.cell (p := ⟨g, o + i * 5 + j, none⟩) hg).trans (hcell j u hu)
        have d0 := hbl 0 _ rfl
        have d1 := hbl 1 _ rfl
        have d2 := hbl 2 _ rfl
        have d3 := hbl 3 _ rfl
        have d4 := hbl 4 _ rfl
        simp only [Nat.add_zero] at d0
        have hid := HH.out.2.2.2.2 i hhr
        have hr1 := lrR.keep _ _ _ _ _ ⟨HI.out.2.2.size, fun g hg _ => HI.out.2.2.block g hg⟩ hr
        have HJ := Lib.hid (And.intro hid (And.intro hpos (And.intro hr1 (And.intro hmem hN))))
        clear hid hpos hr1 hmem hN hr hcell hbl hit hrow hob hlen
        go_wp2_with fail
        refine (by_any b _ rows[i] _ x HJ.out.2.2.1).mono ?_
        rintro er w1 ⟨rfl, hb1⟩
        have hdec : F = (cmpI rows[i].it.id x == 0) := by
          rw [HF.out]
          have h1 := HJ.out.2.2.2.1
          rw [HJ.out.1] at h1
          by_cases h2 : rows[i].it.id = x
          · have h3 : cmpI rows[i].it.id x = 0 := by unfold cmpI; rw [if_neg (by omega), if_neg (by omega)]
            rw [h3, decide_eq_true (h1.2 ⟨hlt2, h2⟩)]
            rfl
          · have h3 : cmpI rows[i].it.id x ≠ 0 := by unfold cmpI; split <;> first | omega | (split <;> omega)
            rw [decide_eq_false (fun h => h2 (h1.1 h).2)]
            exact (beq_eq_false_iff_ne.2 h3).symm
        have Hdec := Lib.hid hdec; clear hdec
        have HB := Lib.hid (And.intro (HI.out.2.2.trans (hb1.mono HI.out.2.2.size)) HJ.out.2.1)
        clear hb1 HJ HI
        generalize cmpI rows[i].it.id x = q at *
        go_wp2_with fail
        go_ret2
        exact ⟨i, by rw [Hdec.out]; rfl, HB.out.2, HB.out.1⟩
      · obtain rfl : i = N := by omega
        have hdec : F = false := HF.out.trans <| decide_eq_false (fun h => by have := (hmem.1 h).1; omega)
        subst hdec
        have HB := Lib.hid (And.intro HI.out.2.2 hpos)
        clear hmem hpos hlen hN
        go_wp2_with fail
        go_ret2
        exact ⟨i, rfl, HB.out.2, HB.out.1⟩
set_option maxHeartbeats 2000000 in
theorem place_any {own : Nat → Prop} {w : World} {t mt : Nat} {m most calls : Int} {piv : List Ob} {rows : List Lw} (h : LT own w t mt m most calls piv rows) (x : Int) (hs : asc (rows.map (·.it.id))) (hn : rows.length ≤ 1048576) :
    Calls Tryz.prog 57 #[.pointer (some ⟨t, 0, none⟩), .int .u64 x] w fun e w' => ∃ i : Nat, e = .returned (.tuple #[.int .i64 i, .bool (decide (x ∈ rows.map (·.it.id)))]) ∧ Pos (rows.map (·.it.id)) x i ∧ Below w.heap.size w w' := by
  obtain ⟨vp, vr, hrow, hP, hR, _, _⟩ := h.mem
  have c0 := hrow.cell
  obtain ⟨F, hF⟩ : ∃ F, F = decide (x ∈ rows.map (·.it.id)) := ⟨_, rfl⟩
  rw [← hF]
  have HF := Lib.hid hF; clear hF
  have HH := Lib.hid hR.read; clear hR hrow hP h
  go_enter Tryz.func57, Tryz.ntmps57
  go_wp2_with fail
  refine (bsearch_any 0 _ vr rows x HH.out hs hn).mono ?_
  rintro er w1 ⟨i, rfl, hp, hb⟩
  rw [← HF.out]
  go_wp2_with fail
  go_ret2
  exact ⟨i, rfl, hp, hb⟩
set_option maxHeartbeats 2000000 in
theorem lhas_any {own : Nat → Prop} {w : World} {t mt : Nat} {m most calls : Int} {piv : List Ob} {rows : List Lw} (h : LT own w t mt m most calls piv rows) (x : Int) (hs : asc (rows.map (·.it.id))) (hn : rows.length ≤ 1048576) :
    Calls Tryz.prog 39 #[.pointer (some ⟨t, 0, none⟩), .int .u64 x] w fun e w' => e = .returned (.bool (decide (x ∈ rows.map (·.it.id)))) ∧ Below w.heap.size w w' := by
  obtain ⟨F, hF⟩ : ∃ F, F = decide (x ∈ rows.map (·.it.id)) := ⟨_, rfl⟩
  rw [← hF]
  have HF := Lib.hid hF; clear hF
  have HH := Lib.hid h; clear h
  go_enter Tryz.func39, Tryz.ntmps39
  go_wp2_with fail
  refine (place_any HH.out x hs hn).mono ?_
  rintro er w1 ⟨i, rfl, hp, hb⟩
  rw [← HF.out]
  go_wp2_with fail
  go_ret
  exact ⟨rfl, hb⟩
end Go.Proofs.YtbjmlahnojfekaaGreat
