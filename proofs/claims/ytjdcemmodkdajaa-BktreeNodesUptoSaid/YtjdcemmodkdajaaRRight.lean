/-
  ref23: Right.
-/
import Derived.Test.YtjdcemmodkdajaaRCut
import Derived.Deep.DeepCutAuto
namespace Go.Proofs.Ytjdcemmodkdajaa
open Go Go.RowKit Go.WW
set_option maxRecDepth 100000 in
set_option maxHeartbeats 8000000 in
theorem rright_any (b : Nat) (m : Int) (vb : Value) (l : List Nd) (w : World) (hv : RdRow bkR 77 b w vb l) (rt : Rt m l) (hsh : ∀ n ∈ l, Short n.it.ob)
    (hap : ∀ (i k : Nat) (ni nk : Nd), l[i]? = some ni → l[k]? = some nk → ni.gone = false → nk.gone = false → nk.it.id = ni.it.id → k = i) (h2 : 2 * gcnt l ≤ l.length) (hn : l.length ≤ 1048576) :
    Calls Try.prog 22 #[.int .i64 m, .agg #[vb, nilS, nilS, .int .i64 0, nilS, nilS]] w fun r w' => r = .returned (.bool true) ∧ Below w.heap.size w w' := by
  obtain ⟨A, c, rfl, hlc, hcm, _⟩ := hv.at
  obtain ⟨W, hW⟩ : ∃ W, W = w.alloc (.cells #[.slice A l.length c, nilS, nilS, .int .i64 0, nilS, nilS] 58) := ⟨_, rfl⟩
  have hBW : Below w.heap.size w W := by rw [hW]; exact (Below.refl _ w).alloc (Nat.le_refl _) _
  have hI : IRow 58 W w.heap.size [.slice A l.length c, nilS, nilS, .int .i64 0, nilS, nilS] := by rw [hW]; exact IRow.new w _ _
  have ci := hI.cell
  have Hv := Lib.hid (And.intro hv (And.intro rt (And.intro hsh (And.intro hap (And.intro h2 hBW))))); clear hv rt hsh hap h2 hI hBW
  go_enter Try.func22, Try.ntmps22
  go_wp2_with fail
  rw [← hW]
  clear hW ci
  go_loopw [6, 7, 8, 9] (fun vg vi _ _ wr => ∃ i : Nat, i ≤ l.length ∧ vi = .int .i64 i ∧ vg = .int .i64 (gcnt (l.take i)) ∧ Below w.heap.size w wr) (fun _ vi _ _ _ => l.length - (intOf vi).toNat)
  case atStart => exact ⟨0, Nat.zero_le _, rfl, rfl, Hv.out.2.2.2.2.2⟩
  case round =>
    obtain ⟨i, hi, rfl, rfl, hB⟩ := hrel
    by_cases hlt : i < l.length
    · have hlt' : (i : Int) < l.length := by omega
      have hl0 : (0 : Int) < l.length := by omega
      have htake : l.take (i + 1) = l.take i ++ [l[i]] := by rw [List.take_add_one, List.getElem?_eq_getElem hlt]; rfl
      have hg := gcnt_snoc (l.take i) l[i]
      rw [← htake] at hg
      have hgl : gcnt (l.take i) ≤ 1048576 := Nat.le_trans (gcnt_le _) (by rw [List.length_take]; omega)
      obtain ⟨g, o, vx, hA, hgs, hit, _, _, d0, d1, d2, d3, d4, d5, d6⟩ := bk_at (Hv.out.1.below hB) i hlt
      subst hA
      generalize hG : gcnt (l.take i) = G at *
      clear htake
      by_cases i0 : i = 0
      · subst i0
        obtain ⟨r1, r2⟩ := Hv.out.2.1.root l[0] (List.getElem?_eq_getElem hlt)
        rw [r1] at d5
        rw [r2] at d6
        simp only [Nat.zero_mul, Nat.add_zero] at d4 d5 d6
        have dz : decide ((0 : Int) ≤ -1) = false := rfl
        have HR := Lib.hid (And.intro hB hit); clear hB hit
        cases hgn : l[0].gone
        all_goals
          rw [hgn] at d4 hg
          simp only [Bool.false_eq_true, if_true, if_false, Nat.add_zero] at hg
          have HG := Lib.hid hg; clear hg
          go_wp2_with fail
          go_loopw [8] (fun v w' => v = .int .i64 0 ∧ w' = wr) (fun _ _ => 0)
          case atStart => exact ⟨rfl, rfl⟩
          case round =>
            obtain ⟨rfl, rfl⟩ := hrel
            go_wp2_with fail
            go_loopw [9] (fun v w' => v = .int .i64 0 ∧ w' = wr) (fun _ _ => 0)
            case atStart => exact ⟨rfl, rfl⟩
            case round =>
              obtain ⟨rfl, rfl⟩ := hrel
              go_wp2_with fail
              refine ⟨⟨1, by omega, rfl, by rw [HG.out] <;> rfl, HR.out.1⟩, ?_⟩
              simp [intOf]; omega
      · have hi0 : (0 : Int) < i := by omega
        have hpar := Hv.out.2.1.par i l[i] (List.getElem?_eq_getElem hlt) (by omega)
        have hup := Hv.out.2.1.up i l[i] (List.getElem?_eq_getElem hlt)
        have z0 : ((i : Int) == 0) = false := by simpa using i0
        have z1 : decide ((0 : Int) < i) = true := by simpa using hi0
        have z2 : decide (l[i].par < 0) = false := by simp; omega
        have z3 : decide ((i : Int) ≤ l[i].par) = false := by simp; omega
        have HR := Lib.hid (And.intro hB (And.intro hit (And.intro hg (And.intro hup hpar)))); clear hB hit hup hpar hg
        go_upto_if 49 with fail
        go_cut [6] (fun g wx => g = .int .i64 ((gcnt (l.take (i + 1)) : Nat) : Int) ∧ wx = wr)
        case first =>
          have hg := HR.out.2.2.1
          cases hgn : l[i].gone
          all_goals
            rw [hgn] at hg
            simp only [Bool.false_eq_true, if_true, if_false, Nat.add_zero] at hg
            have HG := Lib.hid hg; clear hg
            go_wp2_with fail
            go_meet
            exact ⟨by rw [HG.out] <;> rfl, rfl⟩
        case rest =>
          obtain ⟨rfl, rfl⟩ := hcut
          go_wp2_with fail
          clear d0 d1 d2 d3 d4 d5 d6 z2 z3
          go_loopw [8] (fun v w' => ∃ k : Nat, k ≤ i ∧ v = .int .i64 k ∧ Below w.heap.size w w') (fun v _ => i - (intOf v).toNat)
          case atStart => exact ⟨0, Nat.zero_le _, rfl, HR.out.1⟩
          case round =>
            obtain ⟨k, hk, rfl, hB2⟩ := hrel
            obtain ⟨g', o', vx', hA', hgs', hit', _, _, d0, d1, d2, d3, d4, d5, d6⟩ := bk_at (Hv.out.1.below hB2) i hlt
            injection hA' with hA'
            injection hA' with e1 e2 _
            subst e1 e2
            by_cases hki : k < i
            · have hki' : (k : Int) < i := by omega
              have hkl : k < l.length := by omega
              have hkl' : (k : Int) < l.length := by omega
              obtain ⟨g', o', vy', hA', _, _, _, _, e0, _, _, _, e4, e5, e6⟩ := bk_at (Hv.out.1.below hB2) k hkl
              injection hA' with hA'
              injection hA' with e1 e2 _
              subst e1 e2
              have hone := Hv.out.2.1.one i k l[i] l[k] hki (List.getElem?_eq_getElem hkl) (List.getElem?_eq_getElem hlt)
              have happ := Hv.out.2.2.2.1 i k l[i] l[k] (List.getElem?_eq_getElem hlt) (List.getElem?_eq_getElem hkl)
              have HK := Lib.hid hB2; clear hB2 hit'
              have hA : (decide (0 < k) = false) ∨ (decide (0 < k) = true ∧ (l[k].par == l[i].par) = false) ∨ (decide (0 < k) = true ∧ (l[k].par == l[i].par) = true ∧ (l[k].edge == l[i].edge) = false) := by
                by_cases h0 : 0 < k
                · right
                  by_cases hp : l[k].par = l[i].par
                  · right
                    exact ⟨by simpa using h0, by simpa using hp, by simpa using hone h0 hp⟩
                  · left
                    exact ⟨by simpa using h0, by simpa using hp⟩
                · left
                  simp; omega
              have hC : ((l[k].it.id == l[i].it.id) = false) ∨ ((l[k].it.id == l[i].it.id) = true ∧ l[k].gone = true) ∨ ((l[k].it.id == l[i].it.id) = true ∧ l[k].gone = false ∧ l[i].gone = true) := by
                by_cases he : l[k].it.id = l[i].it.id
                · right
                  cases hgk : l[k].gone with
                  | true => exact .inl ⟨by simpa using he, rfl⟩
                  | false =>
                    right
                    refine ⟨by simpa using he, rfl, ?_⟩
                    cases hgi : l[i].gone with
                    | true => rfl
                    | false => have := happ hgi hgk he; omega
                · left
                  simpa using he
              clear hone happ
              go_upto_region 15 with fail
              go_cut [152] (fun v wx => v = .bool false ∧ Below wr.heap.size wr wx)
              case first =>
                as_aux_lemma =>
                  rcases hA with h1 | ⟨h1, h2⟩ | ⟨h1, h2, h3⟩ <;> rcases hC with k1 | ⟨k1, k2⟩ | ⟨k1, k2, k3⟩
                  all_goals
                    try rw [k2] at e4
                    try rw [k3] at d4
                    go_quiet (fail)
                    go_wp2_with fail
                    go_meet
                    exact ⟨rfl, bl_drewN wr _⟩
              case rest =>
                obtain ⟨rfl, hb⟩ := hcut
                have Hb := Lib.hid hb; clear hb
                go_wp2_with fail
                refine ⟨⟨k + 1, by omega, by go_num, HK.out.trans (Hb.out.mono HK.out.size)⟩, ?_⟩
                simp [intOf]; omega
            · have HK := Lib.hid hB2; clear hB2 hit'
              go_wp2_with fail
              clear d0 d1 d2 d3 d4 d5 d6
              go_loopw [9] (fun v w' => ∃ k : Nat, k < l.length ∧ On l i k ∧ v = .int .i64 k ∧ Below w.heap.size w w') (fun v _ => (intOf v).toNat)
              case atStart => exact ⟨i, hlt, .here, rfl, HK.out⟩
              case round =>
                obtain ⟨k, hk, hon, rfl, hB3⟩ := hrel
                have hk' : (k : Int) < l.length := by omega
                obtain ⟨g', o', vy', hA', _, _, _, _, _, _, _, _, _, e5, e6⟩ := bk_at (Hv.out.1.below hB3) k hk
                injection hA' with hA'
                injection hA' with e1 e2 _
                subst e1 e2
                have hup := Hv.out.2.1.up k _ (List.getElem?_eq_getElem hk)
                by_cases hp : 0 ≤ l[k].par
                · obtain ⟨q, hq⟩ : ∃ q : Nat, l[k].par = q := ⟨l[k].par.toNat, by omega⟩
                  rw [hq] at hup e5
                  have hql : q < l.length := by omega
                  have hql' : (q : Int) < l.length := by omega
                  have hq0 : (0 : Int) ≤ q := Int.natCast_nonneg _
                  obtain ⟨g', o', vx', hA', hgs', hit', _, _, d0, d1, d2, d3, _, _, _⟩ := bk_at (Hv.out.1.below hB3) i hlt
                  injection hA' with hA'
                  injection hA' with e1 e2 _
                  subst e1 e2
                  obtain ⟨g', o', vy', hA', _, hity, _, _, b0, b1, b2, b3, _, _, _⟩ := bk_at (Hv.out.1.below hB3) q hql
                  injection hA' with hA'
                  injection hA' with e1 e2 _
                  subst e1 e2
                  obtain ⟨_, hvx, _, hxo⟩ := itR_iff.1 hit'
                  simp only [List.cons.injEq, and_true, true_and] at hvx
                  subst hvx
                  obtain ⟨_, hvy, _, hyo⟩ := itR_iff.1 hity
                  simp only [List.cons.injEq, and_true, true_and] at hvy
                  subst hvy
                  have hway := Hv.out.2.1.way i k q l[i] l[k] l[q] hon (List.getElem?_eq_getElem hlt) (List.getElem?_eq_getElem hk) hq (List.getElem?_eq_getElem hql)
                  have hs1 := Hv.out.2.2.1 l[i] (List.getElem_mem ..)
                  have hs2 := Hv.out.2.2.1 l[q] (List.getElem_mem ..)
                  have hon2 := On.up hon (List.getElem?_eq_getElem hk) hq
                  obtain ⟨C0, hC0⟩ : ∃ C0 : World → Prop, C0 = fun w' => Below wr.heap.size wr w' := ⟨_, rfl⟩
                  have hcl : ∀ (z : CW C0) (p : Addr) (u : Value), p.block < wr.heap.size → wr.cell? p = some u → z.w.cell? p = some u := by
                    rintro ⟨w', hw⟩ p u hp hu
                    subst hC0
                    exact (cell_same (hw.block p.block hp)).trans hu
                  have : Nonempty (CW C0) := by subst hC0; exact ⟨⟨wr, Below.refl _ _⟩⟩
                  have a1 : ∀ z : CW C0, z.w.cell? ⟨g, o + i * 7 + 1, none⟩ = some _ := fun z => hcl z _ _ hgs' d1
                  have a2 : ∀ z : CW C0, z.w.cell? ⟨g, o + i * 7 + 2, none⟩ = some _ := fun z => hcl z _ _ hgs' d2
                  have a3 : ∀ z : CW C0, z.w.cell? ⟨g, o + i * 7 + 3, none⟩ = some _ := fun z => hcl z _ _ hgs' d3
                  have a4 : ∀ z : CW C0, z.w.cell? ⟨g, o + k * 7 + 5, none⟩ = some _ := fun z => hcl z _ _ hgs' e5
                  have a5 : ∀ z : CW C0, z.w.cell? ⟨g, o + k * 7 + 6, none⟩ = some _ := fun z => hcl z _ _ hgs' e6
                  have b1 : ∀ z : CW C0, z.w.cell? ⟨g, o + q * 7 + 1, none⟩ = some _ := fun z => hcl z _ _ hgs' b1
                  have b2 : ∀ z : CW C0, z.w.cell? ⟨g, o + q * 7 + 2, none⟩ = some _ := fun z => hcl z _ _ hgs' b2
                  have b3 : ∀ z : CW C0, z.w.cell? ⟨g, o + q * 7 + 3, none⟩ = some _ := fun z => hcl z _ _ hgs' b3
                  have HQ := Lib.hid (And.intro hB3 (And.intro hxo (And.intro hyo (And.intro hway (And.intro hs1 (And.intro hs2 (And.intro hon2 hC0)))))))
                  clear hB3 hxo hyo hway hs1 hs2 hon2 hit' hity hon hC0 hcl d0 d1 d2 d3
                  go_wp2_with fail
                  refine wp_region_sched [([true, true, true, true, true, true, true, true, true, true, true, true, true, true, true, true, true, false, true, true, true, true, true, false], 17)] (List.replicate 23 false ++ [true]) (fun w' => ∃ z : CW C0, w' = z.w) (by kernel_rfl) (by kernel_rfl) ?_ ?_
                  · have h0 : C0 wr.drew := by rw [HQ.out.2.2.2.2.2.2.2]; exact bl_drewN wr 1
                    exact ⟨⟨_, h0⟩, rfl⟩
                  simp only [List.cons_append, List.nil_append, List.replicate]
                  simp only [wpSch, pickR, pickN]
                  repeat (go_big_quiet_step (fail))
                  refine wpQuiet_nil ?_
                  go_wp2_with fail
                  refine (r09_any b m _ _ _ _ wr.drew (obR_below HQ.out.2.1 (bl_drewN wr 1)) (obR_below HQ.out.2.2.1 (bl_drewN wr 1)) HQ.out.2.2.2.2.1 HQ.out.2.2.2.2.2.1).mono ?_
                  rintro er w2 ⟨rfl, hb2⟩
                  have hb3 : Below wr.heap.size wr w2 := ⟨hb2.os, hb2.tape, hb2.output, hb2.size, hb2.block⟩
                  rw [HQ.out.2.2.2.1]
                  have hq5 := (cell_same (p := ⟨g, o + k * 7 + 5, none⟩) (hb3.block g hgs')).trans e5
                  have H3 := Lib.hid hb3; clear hb3 hb2
                  go_wp2_with fail
                  apply only_mk
                  refine And.intro ?_ ?_
                  · have h0 : C0 w2 := by rw [HQ.out.2.2.2.2.2.2.2]; exact H3.out
                    exact ⟨⟨_, h0⟩, rfl⟩
                  repeat (go_big_quiet_step (fail))
                  refine wpQuiet_nil ?_
                  go_wp2_with fail
                  refine ⟨⟨q, hql, HQ.out.2.2.2.2.2.2.1, rfl, HQ.out.1.trans (H3.out.mono HQ.out.1.size)⟩, ?_⟩
                  simp [intOf]; omega
                · have hp2 : decide (0 ≤ l[k].par) = false := by simpa using hp
                  have HQ := Lib.hid hB3; clear hB3
                  go_wp2_with fail
                  refine ⟨⟨i + 1, by omega, by go_num, rfl, HQ.out⟩, ?_⟩
                  simp [intOf]; omega
    · obtain rfl : i = l.length := by omega
      have hle := Hv.out.2.2.2.2.1
      rw [List.take_length]
      have hle2 : decide (2 * (gcnt l : Int) ≤ l.length) = true := by simp; omega
      have hgl : gcnt l ≤ 1048576 := Nat.le_trans (gcnt_le _) hn
      generalize gcnt l = G at *
      go_wp2_with fail
      go_ret
      exact ⟨by simp, hB⟩
end Go.Proofs.Ytjdcemmodkdajaa
