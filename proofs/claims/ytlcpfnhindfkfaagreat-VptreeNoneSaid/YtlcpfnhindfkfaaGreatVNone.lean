/-
  vptree: a nil tree: what its functions answer.
-/
import Derived.Test.YtlcpfnhindfkfaaGreatNil
import Derived.Test.YtlcpfnhindfkfaaGreatVimg
namespace Go.Proofs.YtlcpfnhindfkfaaGreat
open Go Go.RowKit Go.WW
set_option maxHeartbeats 1000000 in
theorem root_0 (w : World) : Calls Tryz.prog 43 #[.pointer none] w fun r w' => r = .returned nilS ∧ w' = w := by
  go_enter Tryz.func43, Tryz.ntmps43
  go_wp2_with fail
  go_ret
  exact ⟨rfl, rfl⟩
set_option maxHeartbeats 1000000 in
theorem order_0 (w : World) : Calls Tryz.prog 58 #[.pointer none] w fun r w' => r = .returned nilS ∧ w' = w := by
  go_enter Tryz.func58, Tryz.ntmps58
  go_wp2_with fail
  refine (root_0 w).mono ?_
  rintro er w1 ⟨rfl, rfl⟩
  go_wp2_with fail
  go_loopw [3, 4, 5] (fun o vk _ w' => o = nilS ∧ vk = .int .i64 0 ∧ w' = w1) (fun _ _ _ _ => 0)
  case atStart => exact ⟨rfl, rfl, rfl⟩
  case round =>
    obtain ⟨rfl, rfl, rfl⟩ := hrel
    go_wp2_with fail
    go_ret
    exact ⟨rfl, rfl⟩
set_option maxHeartbeats 2000000 in
theorem vrange_0 (w : World) (a b c : Value) (n : Int) : Calls Tryz.prog 16 #[.pointer none, .agg #[a, b, c], .int .i64 n] w fun r w' => r = .returned nilS ∧ Below w.heap.size w w' := by
  go_enter Tryz.func16, Tryz.ntmps16
  go_wp2_with fail
  have hB : Below w.heap.size w (w.alloc (.cells #[a, b, c] 31)) := (Below.refl _ w).alloc (Nat.le_refl _) _
  generalize w.alloc (.cells #[a, b, c] 31) = W at hB ⊢
  refine (root_0 W).mono ?_
  rintro er w1 ⟨rfl, rfl⟩
  go_wp2_with fail
  go_loopw [7, 8, 9, 10, 12, 33] (fun o st _ _ _ _ w' => o = nilS ∧ st = nilS ∧ w' = w1) (fun _ _ _ _ _ _ _ => 0)
  case atStart => exact ⟨rfl, rfl, rfl⟩
  case round =>
    obtain ⟨rfl, rfl, rfl⟩ := hrel
    go_wp2_with fail
    refine (hsort_0 _).mono ?_
    rintro er w2 ⟨rfl, rfl⟩
    go_wp2_with fail
    go_ret
    exact ⟨rfl, hB⟩
set_option maxHeartbeats 1000000 in
theorem vwalk_0 (w : World) (a b c : Value) : Calls Tryz.prog 15 #[.pointer none, .agg #[a, b, c]] w fun r w' => ∃ g h fv, r = .returned (.pointer (some ⟨g, 0, none⟩)) ∧ W0 w' g h fv ∧ Below w.heap.size w w' := by
  go_enter Tryz.func15, Tryz.ntmps15
  go_wp2_with fail
  have hB : Below w.heap.size w ((w.alloc (.cells #[.pointer none] 38)).alloc (.cells #[a, b, c] 31)) := ((Below.refl _ w).alloc (Nat.le_refl _) _).alloc (by simp) _
  generalize (w.alloc (.cells #[.pointer none] 38)).alloc (.cells #[a, b, c] 31) = W at hB ⊢
  refine (root_0 W).mono ?_
  rintro er w1 ⟨rfl, rfl⟩
  go_wp2_with fail
  go_loopw [5, 7, 11] (fun o _ vk w' => o = nilS ∧ vk = .int .i64 0 ∧ w' = w1) (fun _ _ _ _ => 0)
  case atStart => exact ⟨rfl, rfl, rfl⟩
  case round =>
    obtain ⟨rfl, rfl, rfl⟩ := hrel
    go_wp2_with fail
    refine (fnew_0 _ _ _ _).mono ?_
    rintro er w2 ⟨rfl, h1, h2⟩
    go_wp2_with fail
    go_ret
    exact ⟨_, _, _, rfl, h1, hB.trans (h2.mono hB.size)⟩
set_option maxHeartbeats 1000000 in
theorem vnear_0 (w : World) (a b c : Value) (n : Int) : Calls Tryz.prog 23 #[.pointer none, .agg #[a, b, c], .int .i64 n] w fun e w' => e = .returned nilS ∧ Below w.heap.size w w' := by
  go_enter Tryz.func23, Tryz.ntmps23
  go_wp2_with fail
  have hB : Below w.heap.size w (w.alloc (.cells #[a, b, c] 31)) := (Below.refl _ w).alloc (Nat.le_refl _) _
  generalize w.alloc (.cells #[a, b, c] 31) = W at hB ⊢
  refine (vwalk_0 W a b c).mono ?_
  rintro er w1 ⟨g, h, fv, rfl, k, hB1⟩
  have HB := Lib.hid (hB.trans (hB1.mono hB.size)); clear hB hB1
  go_wp2_with fail
  refine (take_0 w1 g h fv n k).mono ?_
  rintro er w2 ⟨rfl, hB2⟩
  go_wp2_with fail
  go_ret
  exact ⟨rfl, HB.out.trans (hB2.mono HB.out.size)⟩
set_option maxHeartbeats 1000000 in
theorem vlen_0 (w : World) : Calls Tryz.prog 18 #[.pointer none] w fun e w' => e = .returned (.int .i64 0) ∧ w' = w := by
  go_enter Tryz.func18, Tryz.ntmps18
  go_wp2_with fail
  go_ret
  exact ⟨rfl, rfl⟩
set_option maxHeartbeats 1000000 in
theorem vgone_0 (w : World) : Calls Tryz.prog 25 #[.pointer none] w fun e w' => e = .returned (.int .i64 0) ∧ w' = w := by
  go_enter Tryz.func25, Tryz.ntmps25
  go_wp2_with fail
  go_ret
  exact ⟨rfl, rfl⟩
set_option maxHeartbeats 1000000 in
theorem vinsert_0 (w : World) (cs : Array Value) (d : Value) : Calls Tryz.prog 20 #[.pointer none, .agg cs, d] w fun e w' => e = .returned (.int .i64 1) ∧ Below w.heap.size w w' := by
  go_enter Tryz.func20, Tryz.ntmps20
  go_wp2_with fail
  go_ret
  exact ⟨rfl, (Below.refl _ w).alloc (Nat.le_refl _) _⟩
set_option maxHeartbeats 1000000 in
theorem vdelete_0 (w : World) (id : Int) (d : Value) : Calls Tryz.prog 21 #[.pointer none, .int .u64 id, d] w fun e w' => e = .returned (.int .i64 1) ∧ Below w.heap.size w w' := by
  go_enter Tryz.func21, Tryz.ntmps21
  go_wp2_with fail
  go_ret
  exact ⟨rfl, (Below.refl _ w).alloc (Nat.le_refl _) _⟩
set_option maxHeartbeats 1000000 in
theorem vbulk_0 (w : World) (v d : Value) : Calls Tryz.prog 22 #[.pointer none, v, d] w fun e w' => e = .returned (.int .i64 1) ∧ w' = w := by
  go_enter Tryz.func22, Tryz.ntmps22
  go_wp2_with fail
  go_ret
  exact ⟨rfl, rfl⟩
set_option maxHeartbeats 1000000 in
theorem insI_0 (w : World) (c : Value) : Calls Tryz.prog 138 #[nilS, .int .i64 0, .int .i64 0, c] w fun r w' => r = .returned (.tuple #[]) ∧ w' = w := by
  go_enter Tryz.func138, Tryz.ntmps138
  go_wp2_with fail
  go_loop [8, 9] (fun v _ => v = .int .i64 1) (fun _ _ => 0)
  case atStart => rfl
  case round =>
    subst hrel
    go_wp2_with fail
    refine bodyPost_end (results_none rfl _ _ _) rfl ?_
    exact ⟨rfl, rfl⟩
set_option maxHeartbeats 1000000 in
theorem stableI_0 (w : World) (c : Value) : Calls Tryz.prog 118 #[nilS, .int .i64 0, c] w fun r w' => r = .returned (.tuple #[]) ∧ w' = w := by
  go_enter Tryz.func118, Tryz.ntmps118
  go_wp2_with fail
  go_loopw [7, 8] (fun a b w' => a = .int .i64 0 ∧ b = .int .i64 20 ∧ w' = w) (fun _ _ _ => 0)
  case atStart => exact ⟨rfl, rfl, rfl⟩
  case round =>
    obtain ⟨rfl, rfl, rfl⟩ := hrel
    go_wp2_with fail
    refine (insI_0 _ c).mono ?_
    rintro er w1 ⟨rfl, rfl⟩
    go_wp2_with fail
    go_loopw [6, 7, 8, 9] (fun a _ _ _ w' => a = .int .i64 20 ∧ w' = w1) (fun _ _ _ _ _ => 0)
    case atStart => exact ⟨rfl, rfl⟩
    case round =>
      obtain ⟨rfl, rfl⟩ := hrel
      go_wp2_with fail
      refine bodyPost_end (results_none rfl _ _ _) rfl ?_
      exact ⟨rfl, rfl⟩
set_option maxHeartbeats 1000000 in
theorem sortStableI_0 (w : World) (c : Value) : Calls Tryz.prog 95 #[nilS, c] w fun r w' => r = .returned (.tuple #[]) ∧ w' = w := by
  go_enter Tryz.func95, Tryz.ntmps95
  go_wp2_with fail
  refine (stableI_0 _ c).mono ?_
  rintro er w1 ⟨rfl, rfl⟩
  go_wp2_with fail
  refine bodyPost_end (results_none rfl _ _ _) rfl ?_
  exact ⟨rfl, rfl⟩
set_option maxHeartbeats 1000000 in
theorem iclone_0 (w : World) : Calls Tryz.prog 92 #[nilS] w fun r w' => r = .returned nilS ∧ w' = w := by
  have hq := fun w : World => Go.Lib.run_eql_slice_nil (P := Tryz.prog) w 44 48 none 0 0 0 0 Tryz.underlying44
  go_enter Tryz.func92, Tryz.ntmps92
  go_wp2_with fail
  go_ret
  exact ⟨rfl, rfl⟩
set_option maxHeartbeats 1000000 in
theorem byid_0 (w : World) : Calls Tryz.prog 59 #[nilS] w fun r w' => r = .returned nilS ∧ w' = w := by
  go_enter Tryz.func59, Tryz.ntmps59
  go_wp2_with fail
  refine (iclone_0 w).mono ?_
  rintro er w1 ⟨rfl, rfl⟩
  go_wp2_with fail
  refine (sortStableI_0 w1 _).mono ?_
  rintro er w2 ⟨rfl, rfl⟩
  go_wp2_with fail
  go_ret
  exact ⟨rfl, rfl⟩
set_option maxHeartbeats 1000000 in
theorem vitems_0 (w : World) : Calls Tryz.prog 24 #[.pointer none] w fun e w' => e = .returned nilS ∧ w' = w := by
  go_enter Tryz.func24, Tryz.ntmps24
  go_wp2_with fail
  refine (order_0 w).mono ?_
  rintro er w1 ⟨rfl, rfl⟩
  go_wp2_with fail
  go_loopw [3, 5, 6, 8, 12, 26] (fun o _ _ _ vk _ w' => o = nilS ∧ vk = .int .i64 0 ∧ w' = w1) (fun _ _ _ _ _ _ _ => 0)
  case atStart => exact ⟨rfl, rfl, rfl⟩
  case round =>
    obtain ⟨rfl, rfl, rfl⟩ := hrel
    go_wp2_with fail
    refine (byid_0 _).mono ?_
    rintro er w2 ⟨rfl, rfl⟩
    go_wp2_with fail
    go_ret
    exact ⟨rfl, rfl⟩
set_option maxHeartbeats 1000000 in
theorem vdepth_0 (w : World) : Calls Tryz.prog 26 #[.pointer none] w fun e w' => e = .returned (.int .i64 0) ∧ Below w.heap.size w w' := by
  have hmm := @run_makeMap Tryz.prog
  have hM0 : MapI Tryz.prog 3 3 (w.alloc (.map #[] 0)) w.heap.size (fun _ => none) := MapI.made w Tryz.prog 3 3
  obtain ⟨w1, hrun, hM1, hG1⟩ := hM0.store (t := 115) Tryz.underlying3 Tryz.underlying3 Tryz.underlying115 (x := -1) (v := 0) (by decide) (by decide) (L := []) (fun y _ hy => absurd rfl hy) (by decide)
  have hB1 : Below w.heap.size w w1 := ((Below.refl _ w).alloc (Nat.le_refl _) _).grown hG1 (by simp) (fun k hk => by cases hk; exact Nat.le_refl _)
  have HB := Lib.hid hB1
  clear hM0 hM1 hG1 hB1
  go_enter Tryz.func26, Tryz.ntmps26
  go_wp2_with fail
  refine (order_0 w1).mono ?_
  clear hrun hmm
  rintro er w2 ⟨rfl, rfl⟩
  go_wp2_with fail
  go_loopw [3, 6, 12] (fun vm _ vk w' => vm = .int .i64 0 ∧ vk = .int .i64 0 ∧ w' = w2) (fun _ _ _ _ => 0)
  case atStart => exact ⟨rfl, rfl, rfl⟩
  case round =>
    obtain ⟨rfl, rfl, rfl⟩ := hrel
    go_wp2_with fail
    go_ret
    exact ⟨rfl, HB.out⟩
set_option maxHeartbeats 2000000 in
theorem vimage_0 (w : World) : Calls Tryz.prog 27 #[.pointer none] w fun e w' => e = .returned img0 ∧ Below w.heap.size w w' := by
  have hmm := @run_makeMap Tryz.prog
  obtain ⟨W0, hW0⟩ : ∃ W0, W0 = ((w.alloc (.cells img0V.toArray 28)).alloc (.cells img0V.toArray 28)) := ⟨_, rfl⟩
  have hB0 : Below w.heap.size w W0 := by rw [hW0]; exact ((Below.refl _ w).alloc (Nat.le_refl _) _).alloc (by simp) _
  have i0 : IRow 28 W0 w.heap.size img0V := by rw [hW0]; exact (IRow.new w _ _).alloc _
  have i1 : IRow 28 W0 (w.heap.size + 1) img0V := by
    have := IRow.new (w.alloc (.cells img0V.toArray 28)) img0V 28
    rw [World.size_alloc] at this
    rw [hW0]
    exact this
  have hsW : W0.heap.size = w.heap.size + 1 + 1 := by rw [hW0]; simp
  have hM0 : MapI Tryz.prog 3 3 (W0.alloc (.map #[] 0)) W0.heap.size (fun _ => none) := MapI.made W0 Tryz.prog 3 3
  obtain ⟨w1, hrun, hM1, hG1⟩ := hM0.store (t := 115) Tryz.underlying3 Tryz.underlying3 Tryz.underlying115 (x := -1) (v := -1) (by decide) (by decide) (L := []) (fun y _ hy => absurd rfl hy) (by decide)
  have hB1 : Below W0.heap.size W0 w1 := ((Below.refl _ W0).alloc (Nat.le_refl _) _).grown hG1 (by simp) (fun k hk => by cases hk; exact Nat.le_refl _)
  have hBw1 := hB0.trans (hB1.mono hB0.size)
  have j0 := i0.kept (hB1.block _ i0.lt)
  have j1 := i1.kept (hB1.block _ i1.lt)
  rw [hW0] at hrun
  simp only [World.size_alloc] at hrun
  have HI := Lib.hid (And.intro j0 (And.intro j1 hBw1)); clear hM0 hM1 hG1 hB1 hBw1 i0 i1 j0 j1 hB0 hW0 hsW
  go_enter Tryz.func27, Tryz.ntmps27
  go_wp2_with fail
  refine (order_0 w1).mono ?_
  clear hrun hmm
  rintro er w2 ⟨rfl, rfl⟩
  go_wp2_with fail
  go_loopw [6, 7, 19] (fun _ _ vk w' => vk = .int .i64 0 ∧ w' = w2) (fun _ _ _ _ => 0)
  case atStart => exact ⟨rfl, rfl⟩
  case round =>
    obtain ⟨rfl, rfl⟩ := hrel
    go_wp2_with fail
    go_loopw [9, 10, 12, 30, 60] (fun _ _ _ vk _ w' => vk = .int .i64 0 ∧ w' = wr) (fun _ _ _ _ _ _ => 0)
    case atStart => exact ⟨rfl, rfl⟩
    case round =>
      obtain ⟨rfl, rfl⟩ := hrel
      have c0 := HI.out.1.cell
      have f0 := HI.out.1.frozen
      have l0 := HI.out.1.lt
      have c1 := HI.out.2.1.cell
      have l1 := HI.out.2.1.lt
      go_wp2_with fail
      have hi := (((((HI.out.1.set 0 nilS).set 1 nilS).set 2 nilS).set 3 (.int .i64 0)).set 4 nilS).set 5 nilS
      have hB := ((((((HI.out.2.2.setCell (p := ⟨w.heap.size, 0, none⟩) (Nat.le_refl _) nilS).setCell (p := ⟨w.heap.size, 1, none⟩) (Nat.le_refl _) nilS).setCell (p := ⟨w.heap.size, 2, none⟩) (Nat.le_refl _) nilS).setCell (p := ⟨w.heap.size, 3, none⟩) (Nat.le_refl _) (.int .i64 0)).setCell (p := ⟨w.heap.size, 4, none⟩) (Nat.le_refl _) nilS).setCell (p := ⟨w.heap.size, 5, none⟩) (Nat.le_refl _) nilS)
      refine bodyPost_ret (results_cell_row rfl _ _ w.heap.size 28 _ (0, 0) _ rfl hi Tryz.underlying28 rfl (by kernel_rfl)) rfl ?_
      exact ⟨rfl, hB⟩
theorem eq_hit0 (w : World) : (binOp .eql 51 hit0 hit0).run Tryz.prog w = .ok (.bool true) w := by kernel_rfl
theorem fld_img0 (w : World) : (Instr.field 28 img0 1).run Tryz.prog w = .ok nilS w := by kernel_rfl
end Go.Proofs.YtlcpfnhindfkfaaGreat
