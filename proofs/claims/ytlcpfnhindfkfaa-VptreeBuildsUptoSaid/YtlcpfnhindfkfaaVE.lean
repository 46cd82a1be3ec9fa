/-
  vptree: nothing put in, and what is there twice.
-/
import Derived.Test.YtlcpfnhindfkfaaVbulk
import Derived.Test.YtlcpfnhindfkfaaVimg
namespace Go.Proofs.Ytlcpfnhindfkfaa
open Go Go.RowKit Go.WW
set_option maxRecDepth 100000 in
set_option maxHeartbeats 2000000 in
theorem rootE_any {own : Nat → Prop} {w : World} {t mt : Nat} {m most calls : Int} {gone : Int} {f : Int → Option Int} (h : VT own w t mt m most calls [] gone f) : Calls Try.prog 33 #[.pointer (some ⟨t, 0, none⟩)] w fun r w' => r = .returned nilS ∧ w' = w := by
  obtain ⟨lv, mb, hrow, hO, -, -, -⟩ := h.mem
  obtain ⟨A, c, hlv⟩ := hO.slice
  subst hlv
  have c0 := hrow.cell
  have hl := hrow.lt
  clear h hrow hO
  go_enter Try.func33, Try.ntmps33
  go_wp2_with fail
  go_ret
  exact ⟨rfl, rfl⟩
set_option maxHeartbeats 1000000 in
theorem orderE_any {own : Nat → Prop} {w : World} {t mt : Nat} {m most calls : Int} {gone : Int} {f : Int → Option Int} (h : VT own w t mt m most calls [] gone f) : Calls Try.prog 24 #[.pointer (some ⟨t, 0, none⟩)] w fun r w' => r = .returned nilS ∧ w' = w := by
  go_enter Try.func24, Try.ntmps24
  go_wp2_with fail
  refine (rootE_any h).mono ?_
  rintro er w1 ⟨rfl, rfl⟩
  go_wp2_with fail
  go_loopw [3, 4, 5] (fun o vk _ w' => o = nilS ∧ vk = .int .i64 0 ∧ w' = w1) (fun _ _ _ _ => 0)
  case atStart => exact ⟨rfl, rfl, rfl⟩
  case round =>
    obtain ⟨rfl, rfl, rfl⟩ := hrel
    go_wp2_with fail
    go_ret
    exact ⟨rfl, rfl⟩
set_option maxRecDepth 100000 in
set_option maxHeartbeats 2000000 in
theorem vfreshE_any {own : Nat → Prop} {w : World} {t mt : Nat} {m most calls : Int} {l : List Vn} {gone : Int} {f : Int → Option Int} (h : VT own w t mt m most calls l gone f) (s : Value) :
    Calls Try.prog 21 #[.pointer (some ⟨t, 0, none⟩), nilS, s] w fun r w' => r = .returned (.tuple #[]) ∧ Fr (nfL own w) w w' ∧ VT (MoreL own w) w' t mt m most calls [] 0 (fun _ => none) := by
  obtain ⟨lv, mb, hrow, hO, hM, hol, hom⟩ := h.mem
  have hmm := @run_makeMap Try.prog
  have hlt := hrow.lt
  have c0 := hrow.cell
  have f0 := hrow.frozen
  obtain ⟨W, hW⟩ : ∃ W, W = (((w.setCell ⟨t, 2, none⟩ nilS).setCell ⟨t, 3, none⟩ (.map (some w.heap.size))).setCell ⟨t, 4, none⟩ (.int .i64 0)).alloc (.map #[] 0) := ⟨_, rfl⟩
  have htt : t ≠ mt := blk_ne hrow h.met (by decide)
  have rW : IRow 67 W t [.pointer (some ⟨mt, 0, none⟩), .int .i64 most, nilS, .map (some w.heap.size), .int .i64 0] := by rw [hW]; exact (((hrow.set 2 nilS).set 3 (.map (some w.heap.size))).set 4 (.int .i64 0)).alloc _
  have hhW : ∀ g, g ≠ t → g < w.heap.size → W.heap[g]? = w.heap[g]? := fun g hg hl => by
    rw [hW]
    exact (((Below.heap_alloc _ _ g (by simpa using hl)).trans (Below.heap_setCell _ ⟨t, 4, none⟩ _ g hg)).trans (Below.heap_setCell _ ⟨t, 3, none⟩ _ g hg)).trans (Below.heap_setCell _ ⟨t, 2, none⟩ _ g hg)
  have hmapW : MapU Try.prog 32 3 W w.heap.size (fun _ => none) := by
    have := MapU.made (((w.setCell ⟨t, 2, none⟩ nilS).setCell ⟨t, 3, none⟩ (.map (some w.heap.size))).setCell ⟨t, 4, none⟩ (.int .i64 0)) Try.prog 32 3
    rw [World.size_setCell, World.size_setCell, World.size_setCell] at this
    rw [hW]
    exact this
  have hTW : VT (MoreL own w) W t mt m most calls [] 0 (fun _ => none) := ⟨⟨_, _, rW, OwnRow.nil .., hmapW, fun g hg => by (cases hg), .inr (Nat.le_refl _)⟩, h.met.kept (hhW _ (Ne.symm htt) h.met.lt), .inl h.ot, .inl h.om⟩
  have hFW : Fr (nfL own w) w W := by
    rw [hW]
    have hnt : nfL own w t := ⟨h.ot, not_frzL hrow (by decide)⟩
    exact ((((Fr.refl _ w).setCell _ (.inl hnt)).setCell _ (.inl hnt)).setCell _ (.inl hnt)).alloc _
  have HH := Lib.hid (And.intro hFW hTW); clear hFW hTW hmapW hhW rW h hrow hO hM hol hom
  go_enter Try.func21, Try.ntmps21
  go_wp2_with fail
  rw [← hW]
  refine bodyPost_end (results_none rfl _ _ _) rfl ?_
  exact ⟨rfl, HH.out.1, HH.out.2⟩
set_option maxRecDepth 100000 in
set_option maxHeartbeats 2000000 in
theorem vbulkD_any {own : Nat → Prop} {w : World} {t mt : Nat} {m most calls : Int} {l : List Vn} {gone : Int} {f : Int → Option Int} (b : Nat) (h : VT own w t mt m most calls l gone f) (s v : Value) (xs : List It) (hv : RdRow itR 34 b w v xs) (hxl : xs.length ≤ 100000) (hfr : freshB f [] (xs.map It.id) = false) :
    Calls Try.prog 9 #[.pointer (some ⟨t, 0, none⟩), v, s] w fun r w' => r = .returned (.int .i64 4) ∧ Below w.heap.size w w' := by
  obtain ⟨A, c, rfl, hlc, hcm, hA, -⟩ := hv.at
  have HH := Lib.hid (And.intro h hv); clear h hv hA
  have HFR := Lib.hid hfr; clear hfr
  go_enter Try.func9, Try.ntmps9
  go_wp2_with fail
  refine (vfresh_any b HH.out.1 _ xs HH.out.2 (by omega)).mono ?_
  rintro er w1 ⟨i, rfl, hB⟩
  rw [HFR.out]
  simp only [Bool.false_eq_true, if_false]
  have HB := Lib.hid hB; clear hB
  go_wp2_with fail
  go_ret
  exact ⟨rfl, HB.out⟩
set_option maxRecDepth 100000 in
set_option maxHeartbeats 2000000 in
theorem vbulkE_any {own : Nat → Prop} {w : World} {t mt : Nat} {m most calls : Int} {gone : Int} {f : Int → Option Int} (b : Nat) (h : VT own w t mt m most calls [] gone f) (s v : Value) (hv : RdRow itR 34 b w v []) :
    Calls Try.prog 9 #[.pointer (some ⟨t, 0, none⟩), v, s] w fun r w' => r = .returned (.int .i64 0) ∧ Fr (nfL own w) w w' ∧ ∃ own', VT own' w' t mt m most calls [] 0 (fun _ => none) := by
  obtain ⟨A, c, rfl, hlc, hcm, hA, -⟩ := hv.at
  have hfr : freshB f [] (([] : List It).map It.id) = true := rfl
  have HH := Lib.hid (And.intro h hv); clear h hv hA
  go_enter Try.func9, Try.ntmps9
  go_wp2_with fail
  refine (vfresh_any b HH.out.1 _ [] HH.out.2 (by decide)).mono ?_
  rintro er w1 ⟨i, rfl, hB⟩
  rw [hfr]
  simp only [if_true]
  have HB := Lib.hid hB; clear hB hfr
  go_wp2_with fail
  go_loopw [9, 11, 28] (fun va _ vk wr => va = nilS ∧ vk = .int .i64 0 ∧ wr = w1) (fun _ _ _ _ => 0)
  case atStart => exact ⟨rfl, rfl, rfl⟩
  case round =>
    obtain ⟨rfl, rfl, rfl⟩ := hrel
    have hT := HH.out.1.below HB.out
    obtain ⟨lv, mb, hrow, hO, -, -, -⟩ := hT.mem
    obtain ⟨Al, cl, hlv⟩ := hO.slice
    subst hlv
    have c0 := hrow.cell
    have hl := hrow.lt
    have hcall := vfreshE_any hT s
    have HR := Lib.hid hT; clear hT hrow hO
    go_wp2_with fail
    refine hcall.mono ?_
    clear hcall
    rintro er w3 ⟨rfl, hF3, hT3⟩
    have HZ := Lib.hid (And.intro hF3 hT3); clear hF3 hT3
    go_wp2_with fail
    go_ret
    have hsz := HB.out.size
    exact ⟨rfl, Fr.step_own (Fr.of_below HB.out) HZ.out.1 (fun g hg => .inl hg), _, HZ.out.2⟩
set_option maxHeartbeats 2000000 in
theorem vimageE_any {own : Nat → Prop} {w : World} {t mt : Nat} {m most calls : Int} {gone : Int} {f : Int → Option Int} (h : VT own w t mt m most calls [] gone f) : Calls Try.prog 11 #[.pointer (some ⟨t, 0, none⟩)] w fun e w' => e = .returned (.agg #[nilS, nilS, nilS, .int .i64 0, nilS, nilS]) ∧ Below w.heap.size w w' := by
  have hmm := @run_makeMap Try.prog
  obtain ⟨W0, hW0⟩ : ∃ W0, W0 = ((w.alloc (.cells img0V.toArray 52)).alloc (.cells img0V.toArray 52)) := ⟨_, rfl⟩
  have hB0 : Below w.heap.size w W0 := by rw [hW0]; exact ((Below.refl _ w).alloc (Nat.le_refl _) _).alloc (by simp) _
  have i0 : IRow 52 W0 w.heap.size img0V := by rw [hW0]; exact (IRow.new w _ _).alloc _
  have i1 : IRow 52 W0 (w.heap.size + 1) img0V := by
    have := IRow.new (w.alloc (.cells img0V.toArray 52)) img0V 52
    rw [World.size_alloc] at this
    rw [hW0]
    exact this
  have hsW : W0.heap.size = w.heap.size + 1 + 1 := by rw [hW0]; simp
  have hM0 : MapI Try.prog 3 3 (W0.alloc (.map #[] 0)) W0.heap.size (fun _ => none) := MapI.made W0 Try.prog 3 3
  obtain ⟨w1, hrun, hM1, hG1⟩ := hM0.store (t := 77) Try.underlying3 Try.underlying3 Try.underlying77 (x := -1) (v := -1) (by decide) (by decide) (L := []) (fun y _ hy => absurd rfl hy) (by decide)
  have hB1 : Below W0.heap.size W0 w1 := ((Below.refl _ W0).alloc (Nat.le_refl _) _).grown hG1 (by simp) (fun k hk => by cases hk; exact Nat.le_refl _)
  have hBw1 := hB0.trans (hB1.mono hB0.size)
  have j0 := i0.kept (hB1.block _ i0.lt)
  have j1 := i1.kept (hB1.block _ i1.lt)
  rw [hW0] at hrun
  simp only [World.size_alloc] at hrun
  have HT := Lib.hid (h.below hBw1); clear h
  have HI := Lib.hid (And.intro j0 (And.intro j1 hBw1)); clear hM0 hM1 hG1 hB1 hBw1 i0 i1 j0 j1 hB0 hW0 hsW
  go_enter Try.func11, Try.ntmps11
  go_wp2_with fail
  refine (orderE_any HT.out).mono ?_
  clear hrun hmm
  rintro er w2 ⟨rfl, rfl⟩
  go_wp2_with fail
  go_loopw [6, 7, 19] (fun _ _ vk w' => vk = .int .i64 0 ∧ w' = w2) (fun _ _ _ _ => 0)
  case atStart => exact ⟨rfl, rfl⟩
  case round =>
    obtain ⟨rfl, rfl⟩ := hrel
    go_wp2_with fail
    go_loopw [9, 10, 12, 30, 60] (fun _ _ _ vk _ w' => vk = .int .i64 0 ∧ w' = wr) (fun _ _ _ _ _ _ => 0)
    case atStart => exact ⟨rfl, rfl⟩
    case round =>
      obtain ⟨rfl, rfl⟩ := hrel
      have c0 := HI.out.1.cell
      have f0 := HI.out.1.frozen
      have l0 := HI.out.1.lt
      have c1 := HI.out.2.1.cell
      have l1 := HI.out.2.1.lt
      go_wp2_with fail
      have hi := (((((HI.out.1.set 0 nilS).set 1 nilS).set 2 nilS).set 3 (.int .i64 0)).set 4 nilS).set 5 nilS
      have hB := ((((((HI.out.2.2.setCell (p := ⟨w.heap.size, 0, none⟩) (Nat.le_refl _) nilS).setCell (p := ⟨w.heap.size, 1, none⟩) (Nat.le_refl _) nilS).setCell (p := ⟨w.heap.size, 2, none⟩) (Nat.le_refl _) nilS).setCell (p := ⟨w.heap.size, 3, none⟩) (Nat.le_refl _) (.int .i64 0)).setCell (p := ⟨w.heap.size, 4, none⟩) (Nat.le_refl _) nilS).setCell (p := ⟨w.heap.size, 5, none⟩) (Nat.le_refl _) nilS)
      refine bodyPost_ret (results_cell_row rfl _ _ w.heap.size 52 _ (0, 0) _ rfl hi Try.underlying52 rfl (by kernel_rfl)) rfl ?_
      exact ⟨rfl, hB⟩
end Go.Proofs.Ytlcpfnhindfkfaa
