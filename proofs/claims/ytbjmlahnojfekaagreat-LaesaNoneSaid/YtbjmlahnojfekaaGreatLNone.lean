/-
  laesa: a nil table: what its functions answer.
-/
import Derived.Test.YtbjmlahnojfekaaGreatNil
import Derived.Test.YtbjmlahnojfekaaGreatLLives
import Derived.WalkMore
namespace Go.Proofs.YtbjmlahnojfekaaGreat
open Go Go.RowKit Go.WW
set_option maxHeartbeats 1000000 in
theorem lows_0 (w : World) (a b c : Value) : Calls Tryz.prog 54 #[.pointer none, .agg #[a, b, c]] w fun r w' => r = .returned nilS ∧ Below w.heap.size w w' := by
  go_enter Tryz.func54, Tryz.ntmps54
  go_wp2_with fail
  go_ret
  exact ⟨rfl, (Below.refl _ w).alloc (Nat.le_refl _) _⟩
set_option maxHeartbeats 2000000 in
theorem lrange_0 (w : World) (a b c : Value) (n : Int) : Calls Tryz.prog 31 #[.pointer none, .agg #[a, b, c], .int .i64 n] w fun r w' => r = .returned nilS ∧ Below w.heap.size w w' := by
  go_enter Tryz.func31, Tryz.ntmps31
  go_wp2_with fail
  have hB : Below w.heap.size w (w.alloc (.cells #[a, b, c] 30)) := (Below.refl _ w).alloc (Nat.le_refl _) _
  generalize w.alloc (.cells #[a, b, c] 30) = W at hB ⊢
  refine (lows_0 W a b c).mono ?_
  rintro er w1 ⟨rfl, hB1⟩
  have HB := Lib.hid (hB.trans (hB1.mono hB.size)); clear hB hB1
  go_wp2_with fail
  go_loopw [7, 9, 10, 11, 12, 17, 34] (fun o _ _ _ _ k _ w' => o = nilS ∧ k = .int .i64 0 ∧ w' = w1) (fun _ _ _ _ _ _ _ _ => 0)
  case atStart => exact ⟨rfl, rfl, rfl⟩
  case round =>
    obtain ⟨rfl, rfl, rfl⟩ := hrel
    go_wp2_with fail
    refine (hsort_0 _).mono ?_
    rintro er w2 ⟨rfl, rfl⟩
    go_wp2_with fail
    go_ret
    exact ⟨rfl, HB.out⟩
set_option maxHeartbeats 1000000 in
theorem lwalk_0 (w : World) (a b c : Value) : Calls Tryz.prog 28 #[.pointer none, .agg #[a, b, c]] w fun r w' => ∃ g h fv, r = .returned (.pointer (some ⟨g, 0, none⟩)) ∧ W0 w' g h fv ∧ Below w.heap.size w w' := by
  go_enter Tryz.func28, Tryz.ntmps28
  go_wp2_with fail
  have hB : Below w.heap.size w ((w.alloc (.cells #[.pointer none] 40)).alloc (.cells #[a, b, c] 30)) := ((Below.refl _ w).alloc (Nat.le_refl _) _).alloc (by simp) _
  generalize (w.alloc (.cells #[.pointer none] 40)).alloc (.cells #[a, b, c] 30) = W at hB ⊢
  refine (lows_0 W a b c).mono ?_
  rintro er w1 ⟨rfl, hB1⟩
  have HB := Lib.hid (hB.trans (hB1.mono hB.size)); clear hB hB1
  go_wp2_with fail
  refine (fnew_0 _ _ _ _).mono ?_
  rintro er w2 ⟨rfl, h1, h2⟩
  go_wp2_with fail
  go_ret
  exact ⟨_, _, _, rfl, h1, HB.out.trans (h2.mono HB.out.size)⟩
set_option maxHeartbeats 1000000 in
theorem insE_0 (w : World) (c : Value) : Calls Tryz.prog 126 #[nilS, .int .i64 0, .int .i64 0, c] w fun r w' => r = .returned (.tuple #[]) ∧ w' = w := by
  go_enter Tryz.func126, Tryz.ntmps126
  go_wp2_with fail
  go_loop [8, 9] (fun v _ => v = .int .i64 1) (fun _ _ => 0)
  case atStart => rfl
  case round =>
    subst hrel
    go_wp2_with fail
    refine bodyPost_end (results_none rfl _ _ _) rfl ?_
    exact ⟨rfl, rfl⟩
set_option maxHeartbeats 1000000 in
theorem stableE_0 (w : World) (c : Value) : Calls Tryz.prog 98 #[nilS, .int .i64 0, c] w fun r w' => r = .returned (.tuple #[]) ∧ w' = w := by
  go_enter Tryz.func98, Tryz.ntmps98
  go_wp2_with fail
  go_loopw [7, 8] (fun a b w' => a = .int .i64 0 ∧ b = .int .i64 20 ∧ w' = w) (fun _ _ _ => 0)
  case atStart => exact ⟨rfl, rfl, rfl⟩
  case round =>
    obtain ⟨rfl, rfl, rfl⟩ := hrel
    go_wp2_with fail
    refine (insE_0 _ c).mono ?_
    rintro er w1 ⟨rfl, rfl⟩
    go_wp2_with fail
    go_loopw [6, 7, 8, 9] (fun a _ _ _ w' => a = .int .i64 20 ∧ w' = w1) (fun _ _ _ _ _ => 0)
    case atStart => exact ⟨rfl, rfl⟩
    case round =>
      obtain ⟨rfl, rfl⟩ := hrel
      go_wp2_with fail
      refine bodyPost_end (results_none rfl _ _ _) rfl ?_
      exact ⟨rfl, rfl⟩
set_option maxHeartbeats 1000000 in
theorem sortStableE_0 (w : World) (c : Value) : Calls Tryz.prog 63 #[nilS, c] w fun r w' => r = .returned (.tuple #[]) ∧ w' = w := by
  go_enter Tryz.func63, Tryz.ntmps63
  go_wp2_with fail
  refine (stableE_0 _ c).mono ?_
  rintro er w1 ⟨rfl, rfl⟩
  go_wp2_with fail
  refine bodyPost_end (results_none rfl _ _ _) rfl ?_
  exact ⟨rfl, rfl⟩
abbrev bord0 : Value := .func (.func 96) #[] #[]
set_option maxHeartbeats 1000000 in
theorem hnewH_any (w : World) : Calls Tryz.prog 97 #[bord0] w fun r w' => r = .returned (.pointer (some ⟨w.heap.size, 0, none⟩)) ∧ w' = w.alloc (.cells #[bord0, nilS] 172) := by
  go_enter Tryz.func97, Tryz.ntmps97
  go_wp2_with fail
  go_ret
  exact ⟨rfl, rfl⟩
/-- What keeps the best: none yet. -/
structure B0 (w : World) (g h : Nat) (n : Int) : Prop where
  best : IRow 155 w g [.int .i64 n, .pointer (some ⟨h, 0, none⟩)]
  heap : IRow 172 w h [bord0, nilS]
theorem B0.below {w w' : World} {g h : Nat} {n : Int} (k : B0 w g h n) (hb : Below w.heap.size w w') : B0 w' g h n := ⟨k.best.kept (hb.block _ k.best.lt), k.heap.kept (hb.block _ k.heap.lt)⟩
set_option maxHeartbeats 1000000 in
theorem bnew_any (w : World) (n : Int) : Calls Tryz.prog 62 #[.int .i64 n] w fun r w' => ∃ g h k, r = .returned (.pointer (some ⟨g, 0, none⟩)) ∧ B0 w' g h k ∧ Below w.heap.size w w' := by
  go_enter Tryz.func62, Tryz.ntmps62
  go_wp2_with fail
  generalize max n 0 = k
  refine (hnewH_any w).mono ?_
  rintro er w1 ⟨rfl, rfl⟩
  go_wp2_with fail
  go_ret
  have hh := (IRow.new w [bord0, nilS] 172).alloc (.cells #[.int .i64 k, .pointer (some ⟨w.heap.size, 0, none⟩)] 155)
  have hw := IRow.new (w.alloc (.cells #[bord0, nilS] 172)) [.int .i64 k, .pointer (some ⟨w.heap.size, 0, none⟩)] 155
  rw [World.size_alloc] at hw
  exact ⟨_, _, k, rfl, ⟨hw, hh⟩, ((Below.refl _ w).alloc (Nat.le_refl _) _).alloc (by simp) _⟩
set_option maxHeartbeats 1000000 in
theorem hall_0 (w : World) (h : Nat) (hh : IRow 172 w h [bord0, nilS]) : Calls Tryz.prog 104 #[.pointer (some ⟨h, 0, none⟩)] w fun r w' => r = .returned nilS ∧ w' = w := by
  have c := hh.cell
  have hl := hh.lt
  go_enter Tryz.func104, Tryz.ntmps104
  go_wp2_with fail
  refine (hclone_0 w).mono ?_
  rintro er w1 ⟨rfl, rfl⟩
  go_wp2_with fail
  refine (sort_0 w1 _).mono ?_
  rintro er w2 ⟨rfl, rfl⟩
  go_wp2_with fail
  go_ret
  exact ⟨rfl, rfl⟩
set_option maxHeartbeats 1000000 in
theorem blist_0 (w : World) (g h : Nat) (n : Int) (k : B0 w g h n) : Calls Tryz.prog 68 #[.pointer (some ⟨g, 0, none⟩)] w fun r w' => r = .returned nilS ∧ w' = w := by
  have c := k.best.cell
  have hl := k.best.lt
  have HK := Lib.hid k; clear k
  go_enter Tryz.func68, Tryz.ntmps68
  go_wp2_with fail
  refine (hall_0 w h HK.out.heap).mono ?_
  rintro er w1 ⟨rfl, rfl⟩
  go_wp2_with fail
  refine (hsort_0 _).mono ?_
  rintro er w2 ⟨rfl, rfl⟩
  go_wp2_with fail
  go_ret
  exact ⟨rfl, rfl⟩
set_option maxHeartbeats 2000000 in
theorem lnear_0 (w : World) (a b c : Value) (n : Int) : Calls Tryz.prog 32 #[.pointer none, .agg #[a, b, c], .int .i64 n] w fun e w' => e = .returned nilS ∧ Below w.heap.size w w' := by
  go_enter Tryz.func32, Tryz.ntmps32
  go_wp2_with fail
  apply wp_scope_straight
  go_wp2_with fail
  have hB : Below w.heap.size w (w.alloc (.cells #[a, b, c] 30)) := (Below.refl _ w).alloc (Nat.le_refl _) _
  have hI := IRow.new w [a, b, c] 30
  generalize w.alloc (.cells #[a, b, c] 30) = W at hB hI ⊢
  refine (bnew_any W n).mono ?_
  rintro er w1 ⟨g, h, k, rfl, hb, hB1⟩
  have hI1 := hI.kept (hB1.block _ hI.lt)
  have cI := hI1.cell
  have H1 := Lib.hid (And.intro hb (hB.trans (hB1.mono hB.size))); clear hb hB hB1 hI hI1
  go_wp2_with fail
  refine (lows_0 w1 a b c).mono ?_
  rintro er w2 ⟨rfl, hB2⟩
  have H2 := Lib.hid (And.intro (H1.out.1.below hB2) (H1.out.2.trans (hB2.mono H1.out.2.size))); clear hB2 cI
  go_wp2_with fail
  refine (sortStableE_0 w2 _).mono ?_
  rintro er w3 ⟨rfl, rfl⟩
  go_wp2_with fail
  apply wp_label
  go_wp2_with fail
  go_loopw [10, 11, 21] (fun _ _ k w' => k = .int .i64 0 ∧ w' = w3) (fun _ _ _ _ => 0)
  case atStart => exact ⟨rfl, rfl⟩
  case round =>
    obtain ⟨rfl, rfl⟩ := hrel
    go_wp2_with fail
    refine (blist_0 _ g h k H2.out.1).mono ?_
    rintro er w4 ⟨rfl, rfl⟩
    go_wp2_with fail
    rw [Exit.noGoto_ret]
    go_ret
    exact ⟨rfl, H2.out.2⟩
set_option maxHeartbeats 1000000 in
theorem llen_0 (w : World) : Calls Tryz.prog 33 #[.pointer none] w fun e w' => e = .returned (.int .i64 0) ∧ w' = w := by
  go_enter Tryz.func33, Tryz.ntmps33
  go_wp2_with fail
  go_ret
  exact ⟨rfl, rfl⟩
set_option maxHeartbeats 1000000 in
theorem lpivots_0 (w : World) : Calls Tryz.prog 19 #[.pointer none] w fun e w' => e = .returned nilS ∧ w' = w := by
  go_enter Tryz.func19, Tryz.ntmps19
  go_wp2_with fail
  go_ret
  exact ⟨rfl, rfl⟩
set_option maxHeartbeats 1000000 in
theorem litems_0 (w : World) : Calls Tryz.prog 34 #[.pointer none] w fun e w' => e = .returned nilS ∧ w' = w := by
  go_enter Tryz.func34, Tryz.ntmps34
  go_wp2_with fail
  refine (llen_0 w).mono ?_
  rintro er w1 ⟨rfl, rfl⟩
  go_wp2_with fail
  go_loopw [3, 4, 5, 8] (fun o _ _ k w' => o = nilS ∧ k = .int .i64 0 ∧ w' = w1) (fun _ _ _ _ _ => 0)
  case atStart => exact ⟨rfl, rfl, rfl⟩
  case round =>
    obtain ⟨rfl, rfl, rfl⟩ := hrel
    go_wp2_with fail
    go_ret
    exact ⟨rfl, rfl⟩
set_option maxHeartbeats 1000000 in
theorem linsert_0 (w : World) (cs : Array Value) (d : Value) : Calls Tryz.prog 13 #[.pointer none, .agg cs, d] w fun e w' => e = .returned (.int .i64 1) ∧ Below w.heap.size w w' := by
  go_enter Tryz.func13, Tryz.ntmps13
  go_wp2_with fail
  go_ret
  exact ⟨rfl, (Below.refl _ w).alloc (Nat.le_refl _) _⟩
set_option maxHeartbeats 1000000 in
theorem lplace_0 (w : World) (id : Int) : Calls Tryz.prog 57 #[.pointer none, .int .u64 id] w fun e w' => e = .returned (.tuple #[.int .i64 0, .bool false]) ∧ w' = w := by
  go_enter Tryz.func57, Tryz.ntmps57
  go_wp2_with fail
  go_ret2
  exact ⟨rfl, rfl⟩
set_option maxHeartbeats 1000000 in
theorem ldelete_0 (w : World) (id : Int) (d : Value) : Calls Tryz.prog 30 #[.pointer none, .int .u64 id, d] w fun e w' => e = .returned (.int .i64 1) ∧ w' = w := by
  go_enter Tryz.func30, Tryz.ntmps30
  go_wp2_with fail
  refine (lplace_0 w id).mono ?_
  rintro er w1 ⟨rfl, rfl⟩
  go_wp2_with fail
  go_ret
  exact ⟨rfl, rfl⟩
set_option maxHeartbeats 1000000 in
theorem lbulk_0 (w : World) (v d : Value) : Calls Tryz.prog 11 #[.pointer none, v, d] w fun e w' => e = .returned (.int .i64 1) ∧ w' = w := by
  go_enter Tryz.func11, Tryz.ntmps11
  go_wp2_with fail
  go_ret
  exact ⟨rfl, rfl⟩
set_option maxHeartbeats 1000000 in
theorem limage_0 (w : World) : Calls Tryz.prog 25 #[.pointer none] w fun e w' => e = .returned img0 ∧ Below w.heap.size w w' := by
  go_enter Tryz.func25, Tryz.ntmps25
  go_wp2_with fail
  refine (lpivots_0 _).mono ?_
  rintro er w1 ⟨rfl, rfl⟩
  go_wp2_with fail
  obtain ⟨W, hW⟩ : ∃ W, W = (w.alloc (.cells #[nilS, nilS, nilS, .int .i64 0, nilS, nilS] 61)).alloc (.cells #[nilS, nilS, nilS, .int .i64 0, nilS, nilS] 61) := ⟨_, rfl⟩
  have i0 : IRow 61 W w.heap.size [nilS, nilS, nilS, .int .i64 0, nilS, nilS] := by rw [hW]; exact (IRow.new w _ _).alloc _
  have i1 : IRow 61 W (w.heap.size + 1) [nilS, nilS, nilS, .int .i64 0, nilS, nilS] := by
    have := IRow.new (w.alloc (.cells #[nilS, nilS, nilS, .int .i64 0, nilS, nilS] 61)) [nilS, nilS, nilS, .int .i64 0, nilS, nilS] 61
    rw [World.size_alloc] at this
    rw [hW]
    exact this
  have hB : Below w.heap.size w W := by rw [hW]; exact ((Below.refl _ w).alloc (Nat.le_refl _) _).alloc (by simp) _
  rw [← hW]
  clear hW
  refine (litems_0 W).mono ?_
  rintro er w1 ⟨rfl, rfl⟩
  go_wp2_with fail
  have HI := Lib.hid (And.intro i0 (And.intro i1 hB)); clear i0 i1 hB
  go_loopw [4, 5, 12] (fun _ _ k w' => k = .int .i64 0 ∧ w' = w1) (fun _ _ _ _ => 0)
  case atStart => exact ⟨rfl, rfl⟩
  case round =>
    obtain ⟨rfl, rfl⟩ := hrel
    obtain ⟨i0, i1, hB⟩ := HI.out
    have c0 := i0.cell
    have c1 := i1.cell
    have f0 := i0.frozen
    have hl := i0.lt
    have HJ := Lib.hid (And.intro i0 hB); clear i0 i1 hB
    go_wp2_with fail
    have hi := (((((HJ.out.1.set 0 nilS).set 1 nilS).set 2 nilS).set 3 (.int .i64 0)).set 4 nilS).set 5 nilS
    have hB := ((((((HJ.out.2.setCell (p := ⟨w.heap.size, 0, none⟩) (Nat.le_refl _) nilS).setCell (p := ⟨w.heap.size, 1, none⟩) (Nat.le_refl _) nilS).setCell (p := ⟨w.heap.size, 2, none⟩) (Nat.le_refl _) nilS).setCell (p := ⟨w.heap.size, 3, none⟩) (Nat.le_refl _) (.int .i64 0)).setCell (p := ⟨w.heap.size, 4, none⟩) (Nat.le_refl _) nilS).setCell (p := ⟨w.heap.size, 5, none⟩) (Nat.le_refl _) nilS)
    refine bodyPost_ret (results_cell_row rfl _ _ w.heap.size 61 _ (0, 0) _ rfl hi Tryz.underlying61 rfl (by kernel_rfl)) rfl ?_
    exact ⟨rfl, hB⟩
theorem eq_hit0 (w : World) : (binOp .eql 75 hit0 hit0).run Tryz.prog w = .ok (.bool true) w := by kernel_rfl
end Go.Proofs.YtbjmlahnojfekaaGreat
