/-
  ref23: Put.
-/
import Derived.Test.YtjdcemmodkdajaaRefB
namespace Go.Proofs.Ytjdcemmodkdajaa
open Go Go.RowKit Go.WW
set_option maxRecDepth 100000 in
set_option maxHeartbeats 4000000 in
theorem rput_any (b : Nat) (m : Int) (v : Value) (l : List Nd) (x : It) (cx : List Value) (w : World) (hbw : b ≤ w.heap.size) (hv : RdRow bkR 77 b w v l) (up : Up l) (hsh : ∀ n ∈ l, Short n.it.ob) (hx : itR.rd b w cx x) (sx : Short x.ob) (hn : l.length ≤ 1048575) :
    Calls Try.prog 11 #[.int .i64 m, v, .agg cx.toArray] w fun r w' => ∃ v', r = .returned v' ∧ RdRow bkR 77 b w' v' (putN m l x) ∧ Below w.heap.size w w' := by
  obtain ⟨vx, rfl, hid, hxo⟩ := itR_iff.1 hx
  obtain ⟨Ax, nx, cx', hv'⟩ : ∃ A n c, vx = .slice A n c := by obtain ⟨v', hv2, _, hr, _⟩ := obR_iff.1 hxo; simp only [List.cons.injEq, and_true, true_and] at hv2; subst hv2; obtain ⟨A, c, e, _⟩ := hr.at; exact ⟨A, _, c, e⟩
  subst hv'
  obtain ⟨A, c, rfl, hlc, hcm, _⟩ := hv.at
  have hB0 : Below w.heap.size w (w.alloc (.cells #[.int .u64 x.id, .int .i64 x.ob.tag, .slice Ax nx cx', .string x.ob.str] 38)) := (Below.refl _ w).alloc (Nat.le_refl _) _
  have hl8 : (([] : List Nd).length + l.length) * 80 ≤ 140737488355328 := by simp; omega
  have hv1 := hv.below hB0
  have hx1 := itR_below hx hB0
  have HH := Lib.hid (And.intro hv1 (And.intro up (And.intro hsh (And.intro hx1 (And.intro hB0 hl8))))); clear hv up hsh hx hv1 hx1 hB0 hl8 hxo
  cases l with
  | nil =>
    go_enter Try.func11, Try.ntmps11
    go_wp2_with (
      at_builtin
      first
      | (
        refine wp_cat (R := bkR) (n0 := w.heap.size + 1) rfl (.const (.slice none 0 0)) (.tmp 11) 31 _ 80 rfl Try.underlying31 info_bk rfl (by decide) (by decide) (.slice none 0 0) (.slice A 0 c) [] [] rfl rfl HH.out.1 (OwnRow.nil _ _ _ _ _) (by simp) (by decide) (by omega) HH.out.2.2.2.2.2 ?_
        intro v1 w1 hO1 hG1 hb1 _
        have hI1 : IRow 38 w1 w.heap.size [.int .u64 x.id, .int .i64 x.ob.tag, .slice Ax nx cx', .string x.ob.str] := (IRow.new w _ _).kept (hG1.block _ (by simp) (fun e => by cases e))
        have hB1 : Below w.heap.size w w1 := HH.out.2.2.2.2.1.grown hG1 (by simp) (fun k hk => by cases hk)
        obtain ⟨A1, n1, c1, hv1⟩ : ∃ A n c, v1 = .slice A n c := by obtain ⟨A, c, e⟩ := hO1.slice; exact ⟨A, _, c, e⟩
        subst hv1
        have hsz1 : w.heap.size + 1 ≤ w1.heap.size := by simpa using hG1.size
        have hBo : Below (w.alloc (.cells #[.int .u64 x.id, .int .i64 x.ob.tag, .slice Ax nx cx', .string x.ob.str] 38)).heap.size (w.alloc (.cells #[.int .u64 x.id, .int .i64 x.ob.tag, .slice Ax nx cx', .string x.ob.str] 38)) w1 := (Below.refl _ _).grown hG1 (Nat.le_refl _) (fun k hk => by cases hk)
        have ci := hI1.cell
        have H1 := Lib.hid (And.intro hO1 (And.intro hI1 (And.intro hB1 (And.intro hsz1 hBo))))
        clear hO1 hI1 hB1 hsz1 hBo hb1 hG1
        skip)
      | (
        have hsz := H1.out.2.2.2.1
        refine wp_push (R := bkR) (W := w1) (n0 := w.heap.size + 1) rfl (.tmp 16) (.tmp 19) 31 _ 80 rfl Try.underlying31 info_bk rfl (by decide) (by decide) (.slice A1 n1 c1) [] ⟨x, false, -1, 0⟩ #[.int .u64 x.id, .int .i64 x.ob.tag, .slice Ax nx cx', .string x.ob.str, .bool false, .int .i64 (-1), .int .i64 0] (0, 0) rfl rfl (bkR_iff.2 ⟨_, rfl, itR_below HH.out.2.2.2.1 H1.out.2.2.2.2, rfl, rfl⟩) H1.out.1 hsz (by decide) (by omega) (by decide) ?_
        intro v5 w5 hO5 hG5 hb5 _))
    go_ret
    exact ⟨v5, rfl, hO5.read, H1.out.2.2.1.grown hG5 H1.out.2.2.1.size (fun g hg => by have := (H1.out.1.lt g hg).1; omega)⟩
  | cons a r =>
    have hne : a :: r ≠ [] := by simp
    have hln : 0 < (a :: r).length := by simp
    generalize a :: r = l at *
    have hz : ((l.length : Int) == 0) = false := by simp; omega
    go_enter Try.func11, Try.ntmps11
    go_wp2_with (
      at_builtin
      first
      | (
        go_loud (refine wp_cat (R := bkR) (n0 := w.heap.size + 1) rfl (.const (.slice none 0 0)) (.tmp 11) 31 _ 80 rfl Try.underlying31 info_bk rfl (by decide) (by decide) (.slice none 0 0) (.slice A l.length c) [] l rfl rfl HH.out.1 (OwnRow.nil _ _ _ _ _) (by simp) (by decide) (by omega) HH.out.2.2.2.2.2 ?_)
        intro v1 w1 hO1 hG1 hb1 _
        have hI1 : IRow 38 w1 w.heap.size [.int .u64 x.id, .int .i64 x.ob.tag, .slice Ax nx cx', .string x.ob.str] := (IRow.new w _ _).kept (hG1.block _ (by simp) (fun e => by cases e))
        have hB1 : Below w.heap.size w w1 := HH.out.2.2.2.2.1.grown hG1 (by simp) (fun k hk => by cases hk)
        obtain ⟨A1, n1, c1, hv1⟩ : ∃ A n c, v1 = .slice A n c := by obtain ⟨A, c, e⟩ := hO1.slice; exact ⟨A, _, c, e⟩
        subst hv1
        have hsz1 : w.heap.size + 1 ≤ w1.heap.size := by simpa using hG1.size
        have hBo : Below (w.alloc (.cells #[.int .u64 x.id, .int .i64 x.ob.tag, .slice Ax nx cx', .string x.ob.str] 38)).heap.size (w.alloc (.cells #[.int .u64 x.id, .int .i64 x.ob.tag, .slice Ax nx cx', .string x.ob.str] 38)) w1 := (Below.refl _ _).grown hG1 (Nat.le_refl _) (fun k hk => by cases hk)
        have ci := hI1.cell
        have H1 := Lib.hid (And.intro hO1 (And.intro hI1 (And.intro hB1 (And.intro hsz1 hBo))))
        clear hO1 hI1 hB1 hsz1 hBo hb1 hG1
        skip)
      | fail)
    go_loopw [8, 9, 10] (fun vi _ _ wr => ∃ (i n : Nat), vi = .int .i64 i ∧ i < l.length ∧ l.length ≤ n + i ∧ putP m l x.ob n i = putP m l x.ob l.length 0 ∧ Below w1.heap.size w1 wr) (fun vi _ _ _ => l.length - (intOf vi).toNat)
    case atStart => exact ⟨0, l.length, rfl, hln, by omega, rfl, Below.refl _ _⟩
    case round =>
      obtain ⟨i, n, rfl, hi, hni, hpp, hBr⟩ := hrel
      have hvr := (HH.out.1.below H1.out.2.2.2.2).below hBr
      have hIr := H1.out.2.1.kept (hBr.block _ H1.out.2.1.lt)
      have ci := hIr.cell
      obtain ⟨g, o, vi, hA, hg, hit, _, _, d0, d1, d2, d3, d4, d5, d6⟩ := bk_at hvr i hi
      subst hA
      have hi' : (i : Int) < l.length := by omega
      have HR := Lib.hid (And.intro hpp (And.intro hBr (And.intro hvr (And.intro hIr hit))))
      clear hpp hBr hvr hIr hit
      go_wp2_with fail
      refine wp_region_hoist [true, true, true, true, true, true, true, true, true, false, false] 0 (fun w' => ∃ n, w' = World.drewN wr n) (by kernel_rfl) (by kernel_rfl) ⟨1, rfl⟩ ?_
      simp only [pickR, pickE, List.take, List.drop, wpLate]
      repeat (go_big_quiet_step (fail))
      refine wpQuiet_nil ?_
      go_wp2_with fail
      have hxr := itR_below (itR_below HH.out.2.2.2.1 H1.out.2.2.2.2) HR.out.2.1
      obtain ⟨_, hvx2, _, hxo⟩ := itR_iff.1 hxr
      simp only [List.cons.injEq, and_true, true_and] at hvx2
      subst hvx2
      obtain ⟨_, hvi2, _, hyo⟩ := itR_iff.1 HR.out.2.2.2.2
      simp only [List.cons.injEq, and_true, true_and] at hvi2
      subst hvi2
      have hdw := bd_wf (distO_bd (m := m) hxo hyo sx (HH.out.2.2.1 _ (List.getElem_mem ..)))
      refine (r09_any b m x.ob l[i].it.ob _ _ wr.drew (obR_below hxo (bl_drewN wr 1)) (obR_below hyo (bl_drewN wr 1)) sx (HH.out.2.2.1 _ (List.getElem_mem ..))).mono ?_
      rintro er w2 ⟨rfl, hb2⟩
      have hb3 : Below wr.heap.size wr w2 := ⟨hb2.os, hb2.tape, hb2.output, hb2.size, hb2.block⟩
      have hv2 := HR.out.2.2.1.below hb3
      have hI2 := HR.out.2.2.2.1.kept (hb3.block _ HR.out.2.2.2.1.lt)
      have hpp := HR.out.1
      have hB2 := HR.out.2.1.trans (hb3.mono HR.out.2.1.size)
      have hob2 : obAt l i = l[i].it.ob := by unfold obAt; rw [List.getElem?_eq_getElem hi]; rfl
      have ci2 := hI2.cell
      obtain ⟨n, rfl⟩ : ∃ n', n = n' + 1 := ⟨n - 1, by omega⟩
      rw [putP_succ, hob2] at hpp
      generalize distO m x.ob l[i].it.ob = d at *
      have hx2 := itR_below hxr hb3
      have HS := Lib.hid (And.intro hpp (And.intro hv2 (And.intro hI2 (And.intro hB2 hx2))))
      clear hpp hv2 hI2 hB2 hx2 hob2 hb2 hb3 hxr hxo hyo HR ci d0 d1 d2 d3 d4 d5 d6
      go_wp2_with fail
      apply only_mk
      go_wp2_with fail
      refine (rkid_any b _ l _ HS.out.2.1 HH.out.2.1 (by omega) i d).mono ?_
      rintro er w3 ⟨rfl, rfl⟩
      have hl8 : (l.length + 1) * 80 ≤ 140737488355328 := by omega
      have HL8 := Lib.hid hl8; clear hl8
      by_cases hk : kidN l i d < 0
      · have hlt0 : decide (kidN l i d < 0) = true := by simp; omega
        have hsz : w.heap.size + 1 ≤ w3.heap.size := Nat.le_trans H1.out.2.2.2.1 HS.out.2.2.2.1.size
        have hO3 := H1.out.1.below HS.out.2.2.2.1
        have hnd : bkR.rd b w3 [.int .u64 x.id, .int .i64 x.ob.tag, .slice Ax nx cx', .string x.ob.str, .bool false, .int .i64 (i : Int), .int .i64 d] ⟨x, false, (i : Int), d⟩ := bkR_iff.2 ⟨_, rfl, HS.out.2.2.2.2, len_wf (n := i) (by omega), hdw⟩
        have HO := Lib.hid (And.intro hO3 hnd); clear hO3 hnd
        go_wp2_with (
          at_builtin
          refine wp_push (R := bkR) (W := w3) (n0 := w.heap.size + 1) rfl (.tmp 37) (.tmp 42) 31 _ 80 rfl Try.underlying31 info_bk rfl (by decide) (by decide) (.slice A1 n1 c1) l ⟨x, false, (i : Int), d⟩ #[.int .u64 x.id, .int .i64 x.ob.tag, .slice Ax nx cx', .string x.ob.str, .bool false, .int .i64 (i : Int), .int .i64 d] (0, 0) rfl rfl HO.out.2 HO.out.1 hsz (by decide) (by omega) HL8.out ?_
          intro v5 w5 hO5 hG5 hb5 _)
        go_ret
        have hpp := HS.out.1
        rw [if_pos hk] at hpp
        have hpn : putN m l x = l ++ [⟨x, false, (i : Int), d⟩] := by rw [putN_ne hne, ← hpp]
        rw [hpn]
        exact ⟨v5, rfl, hO5.read, (H1.out.2.2.1.trans (HS.out.2.2.2.1.mono H1.out.2.2.1.size)).grown hG5 (by omega) (fun g hg => by have := (HO.out.1.lt g hg).1; omega)⟩
      · have hlt0 : decide (kidN l i d < 0) = false := by simp; omega
        obtain ⟨k, hkm, hkk⟩ : ∃ k : Nat, k ∈ kidsOf l i ∧ kidN l i d = k := by
          rcases kidN_mem l i d with h | h
          · omega
          · exact h
        have hki := kidsOf_up HH.out.2.1 hkm
        have hkl := (kidsOf_mem hkm).1
        go_wp2_with fail
        have hpp := HS.out.1
        rw [if_neg (by omega), hkk] at hpp
        go_round
        case rel => exact ⟨k, n, rfl, hkl, by omega, by simpa using hpp, HS.out.2.2.2.1⟩
        case measure => simp [intOf]; omega
end Go.Proofs.Ytjdcemmodkdajaa
