/-
  A nil tree: what its functions answer.
-/
import Derived.Test.YtjdcemmodkdajaaLives
namespace Go.Proofs.Ytjdcemmodkdajaa
open Go Go.RowKit Go.WW
set_option maxRecDepth 100000 in
set_option maxHeartbeats 1000000 in
theorem len64_0 (w : World) : Calls Try.prog 103 #[.int .u64 0] w fun r w' => r = .returned (.int .i64 0) ∧ w' = w := by
  go_enter Try.func103, Try.ntmps103
  go_wp2
  go_ret
  refine ⟨?_, rfl⟩
  kernel_rfl
set_option maxHeartbeats 1000000 in
theorem len_0 (w : World) : Calls Try.prog 84 #[.int .u64 0] w fun r w' => r = .returned (.int .i64 0) ∧ w' = w := by
  go_enter Try.func84, Try.ntmps84
  go_wp2_with fail
  refine (len64_0 w).mono ?_
  rintro er w1 ⟨rfl, rfl⟩
  go_wp2_with fail
  go_ret
  exact ⟨rfl, rfl⟩
set_option maxHeartbeats 1000000 in
theorem ins_0 (w : World) (c : Value) : Calls Try.prog 94 #[nilS, .int .i64 0, .int .i64 0, c] w fun r w' => r = .returned (.tuple #[]) ∧ w' = w := by
  go_enter Try.func94, Try.ntmps94
  go_wp2_with fail
  go_loop [8, 9] (fun v _ => v = .int .i64 1) (fun _ _ => 0)
  case atStart => rfl
  case round =>
    subst hrel
    go_wp2_with fail
    refine bodyPost_end (results_none rfl _ _ _) rfl ?_
    exact ⟨rfl, rfl⟩
set_option maxHeartbeats 1000000 in
theorem pdq_0 (w : World) (c : Value) : Calls Try.prog 83 #[nilS, .int .i64 0, .int .i64 0, .int .i64 0, c] w fun r w' => r = .returned (.tuple #[]) ∧ w' = w := by
  go_enter Try.func83, Try.ntmps83
  go_wp2_with fail
  go_loop [1, 2, 3, 10, 11, 12, 13, 14] (fun a b l _ _ _ _ _ => a = .int .i64 0 ∧ b = .int .i64 0 ∧ l = .int .i64 0) (fun _ _ _ _ _ _ _ _ => 0)
  case atStart => exact ⟨rfl, rfl, rfl⟩
  case round =>
    obtain ⟨rfl, rfl, rfl⟩ := hrel
    go_wp2_with fail
    refine (ins_0 w c).mono ?_
    rintro er w1 ⟨rfl, rfl⟩
    go_wp2_with fail
    refine bodyPost_ret (results_none rfl _ _ _) rfl ?_
    exact ⟨rfl, rfl⟩
set_option maxHeartbeats 1000000 in
theorem sort_0 (w : World) (c : Value) : Calls Try.prog 69 #[nilS, c] w fun r w' => r = .returned (.tuple #[]) ∧ w' = w := by
  go_enter Try.func69, Try.ntmps69
  go_wp2_with fail
  refine (len_0 w).mono ?_
  rintro er w1 ⟨rfl, rfl⟩
  go_wp2_with fail
  refine (pdq_0 w1 c).mono ?_
  rintro er w2 ⟨rfl, rfl⟩
  go_wp2_with fail
  refine bodyPost_end (results_none rfl _ _ _) rfl ?_
  exact ⟨rfl, rfl⟩
set_option maxHeartbeats 1000000 in
theorem hclone_0 (w : World) : Calls Try.prog 68 #[nilS] w fun r w' => r = .returned nilS ∧ w' = w := by
  have hq := fun w : World => Go.Lib.run_eql_slice_nil (P := Try.prog) w 70 65 none 0 0 0 0 Try.underlying70
  go_enter Try.func68, Try.ntmps68
  go_wp2_with fail
  go_ret
  exact ⟨rfl, rfl⟩
set_option maxHeartbeats 1000000 in
theorem hsort_0 (w : World) : Calls Try.prog 48 #[nilS] w fun r w' => r = .returned nilS ∧ w' = w := by
  go_enter Try.func48, Try.ntmps48
  go_wp2_with fail
  refine (hclone_0 w).mono ?_
  rintro er w1 ⟨rfl, rfl⟩
  go_wp2_with fail
  refine (sort_0 w1 _).mono ?_
  rintro er w2 ⟨rfl, rfl⟩
  go_wp2_with fail
  go_ret
  exact ⟨rfl, rfl⟩
set_option maxHeartbeats 1000000 in
theorem root_0 (w : World) : Calls Try.prog 39 #[.pointer none] w fun r w' => r = .returned nilS ∧ w' = w := by
  go_enter Try.func39, Try.ntmps39
  go_wp2_with fail
  go_ret
  exact ⟨rfl, rfl⟩
theorem results_cell_row2 {P : Program} {fn : Func} {p u : Tmp} {ty : TypeId} (h : fn.results = #[.cell p ty, .tmp u]) (tmps : Array Value) (w : World) (g : Nat) (t : TypeId) (cs : Array Value) (fr : Nat × Nat) (d : TypeDesc)
    (hp : tmps.getD p undef = .pointer (some ⟨g, 0, none⟩)) (hg : w.heap[g]? = some (.cells cs t fr))
    (hu : P.underlying ty = some d) (hd : (match d with | .struct _ | .array _ _ => true | _ => false) = true) (hi : (P.info? ty).map (·.size) = some cs.size) :
    (results fn tmps).run P w = .ok (.tuple #[.agg cs, tmps.getD u undef]) w := by
  rw [results_cell_tmp h, hp]
  simp [asAddr, run_loadVar_row w g t ty cs fr d hg hu hd hi, Result.andThen]
set_option maxHeartbeats 2000000 in
theorem range_0 (w : World) (a b c : Value) (n : Int) : Calls Try.prog 25 #[.pointer none, .agg #[a, b, c], .int .i64 n] w fun r w' => r = .returned nilS ∧ Below w.heap.size w w' := by
  go_enter Try.func25, Try.ntmps25
  go_wp2_with fail
  have hB : Below w.heap.size w (w.alloc (.cells #[a, b, c] 36)) := (Below.refl _ w).alloc (Nat.le_refl _) _
  generalize w.alloc (.cells #[a, b, c] 36) = W at hB ⊢
  refine (root_0 W).mono ?_
  rintro er w1 ⟨rfl, rfl⟩
  go_wp2_with fail
  go_loopw [7, 8, 9, 10, 11, 13] (fun o st _ _ _ _ w' => o = nilS ∧ st = nilS ∧ w' = w1) (fun _ _ _ _ _ _ _ => 0)
  case atStart => exact ⟨rfl, rfl, rfl⟩
  case round =>
    obtain ⟨rfl, rfl, rfl⟩ := hrel
    go_wp2_with fail
    refine (hsort_0 _).mono ?_
    rintro er w2 ⟨rfl, rfl⟩
    go_wp2_with fail
    go_ret
    exact ⟨rfl, hB⟩
abbrev ord0 : Value := .func (.func 59) #[] #[]
/-- A walk of nothing. -/
structure W0 (w : World) (g h : Nat) (fv : Value) : Prop where
  walk : IRow 106 w g [fv, .pointer (some ⟨h, 0, none⟩), .int .i64 0]
  heap : IRow 124 w h [ord0, nilS]
theorem W0.below {w w' : World} {g h : Nat} {fv : Value} (k : W0 w g h fv) (hb : Below w.heap.size w w') : W0 w' g h fv := ⟨k.walk.kept (hb.block _ k.walk.lt), k.heap.kept (hb.block _ k.heap.lt)⟩
set_option maxHeartbeats 1000000 in
theorem hnew_any (w : World) : Calls Try.prog 58 #[ord0] w fun r w' => r = .returned (.pointer (some ⟨w.heap.size, 0, none⟩)) ∧ w' = w.alloc (.cells #[ord0, nilS] 124) := by
  go_enter Try.func58, Try.ntmps58
  go_wp2_with fail
  go_ret
  exact ⟨rfl, rfl⟩
set_option maxHeartbeats 1000000 in
theorem fnew_0 (w : World) (fn : Fn) (f1 cap : Array Value) : Calls Try.prog 40 #[.func fn f1 cap, nilS] w fun r w' => r = .returned (.pointer (some ⟨w.heap.size + 1, 0, none⟩)) ∧ W0 w' (w.heap.size + 1) w.heap.size (.func fn f1 cap) ∧ Below w.heap.size w w' := by
  go_enter Try.func40, Try.ntmps40
  go_wp2_with fail
  refine (hnew_any w).mono ?_
  rintro er w1 ⟨rfl, rfl⟩
  go_wp2_with fail
  have hh := (IRow.new w [ord0, nilS] 124).alloc (.cells #[.func fn f1 cap, .pointer (some ⟨w.heap.size, 0, none⟩), .int .i64 0] 106)
  have hw := IRow.new (w.alloc (.cells #[ord0, nilS] 124)) [.func fn f1 cap, .pointer (some ⟨w.heap.size, 0, none⟩), .int .i64 0] 106
  rw [World.size_alloc] at hw
  have hB : Below w.heap.size w ((w.alloc (.cells #[ord0, nilS] 124)).alloc (.cells #[.func fn f1 cap, .pointer (some ⟨w.heap.size, 0, none⟩), .int .i64 0] 106)) := ((Below.refl _ w).alloc (Nat.le_refl _) _).alloc (by simp) _
  go_loopw [7, 14] (fun _ vk w' => vk = .int .i64 0 ∧ W0 w' (w.heap.size + 1) w.heap.size (.func fn f1 cap) ∧ Below w.heap.size w w') (fun _ _ _ => 0)
  case atStart => exact ⟨rfl, ⟨hw, hh⟩, hB⟩
  case round =>
    obtain ⟨rfl, h1, h2⟩ := hrel
    go_wp2_with fail
    go_ret
    exact ⟨rfl, h1, h2⟩
set_option maxHeartbeats 1000000 in
theorem walk_0 (w : World) (a b c : Value) : Calls Try.prog 23 #[.pointer none, .agg #[a, b, c]] w fun r w' => ∃ g h fv, r = .returned (.pointer (some ⟨g, 0, none⟩)) ∧ W0 w' g h fv ∧ Below w.heap.size w w' := by
  go_enter Try.func23, Try.ntmps23
  go_wp2_with fail
  have hB : Below w.heap.size w ((w.alloc (.cells #[.pointer none] 27)).alloc (.cells #[a, b, c] 36)) := ((Below.refl _ w).alloc (Nat.le_refl _) _).alloc (by simp) _
  generalize (w.alloc (.cells #[.pointer none] 27)).alloc (.cells #[a, b, c] 36) = W at hB ⊢
  refine (root_0 W).mono ?_
  rintro er w1 ⟨rfl, rfl⟩
  go_wp2_with fail
  go_loopw [5, 7, 11] (fun o _ vk w' => o = nilS ∧ vk = .int .i64 0 ∧ w' = w1) (fun _ _ _ _ => 0)
  case atStart => exact ⟨rfl, rfl, rfl⟩
  case round =>
    obtain ⟨rfl, rfl, rfl⟩ := hrel
    go_wp2_with fail
    refine (fnew_0 _ _ _ _).mono ?_
    rintro er w2 ⟨rfl, h1, h2⟩
    go_wp2_with fail
    go_ret
    exact ⟨_, _, _, rfl, h1, hB.trans (h2.mono hB.size)⟩
abbrev ent0 : Value := .agg #[.int .i64 0, .int .i64 0, .int .u64 0]
abbrev hit0 : Value := .agg #[.int .u64 0, .int .i64 0]
set_option maxHeartbeats 1000000 in
theorem top_0 (w : World) (h : Nat) (hh : IRow 124 w h [ord0, nilS]) : Calls Try.prog 61 #[.pointer (some ⟨h, 0, none⟩)] w fun r w' => r = .returned (.tuple #[ent0, .bool false]) ∧ Below w.heap.size w w' := by
  have c := hh.cell
  have hl := hh.lt
  go_enter Try.func61, Try.ntmps61
  go_wp2_with fail
  have hi := (IRow.new w [.int .i64 0, .int .i64 0, .int .u64 0] 98).alloc (.cells #[.int .i64 0, .int .i64 0, .int .u64 0] 98)
  have hB : Below w.heap.size w ((w.alloc (.cells #[.int .i64 0, .int .i64 0, .int .u64 0] 98)).alloc (.cells #[.int .i64 0, .int .i64 0, .int .u64 0] 98)) := ((Below.refl _ w).alloc (Nat.le_refl _) _).alloc (by simp) _
  refine bodyPost_ret (results_cell_row2 rfl _ _ w.heap.size 98 _ (0, 0) _ rfl hi Try.underlying98 rfl (by kernel_rfl)) rfl ?_
  exact ⟨rfl, hB⟩
set_option maxHeartbeats 1000000 in
theorem ahead_0 (w : World) (g h : Nat) (fv : Value) (r : Int) (k : W0 w g h fv) : Calls Try.prog 43 #[.pointer (some ⟨g, 0, none⟩), .int .i64 r] w fun e w' => e = .returned (.bool false) ∧ Below w.heap.size w w' := by
  have c := k.walk.cell
  have HH := Lib.hid k; clear k
  go_enter Try.func43, Try.ntmps43
  go_wp2_with fail
  go_loopw [5, 6, 7, 15, 24] (fun _ _ _ _ _ w' => w' = w) (fun _ _ _ _ _ _ => 0)
  case atStart => rfl
  case round =>
    subst hrel
    go_wp2_with fail
    refine (top_0 _ h HH.out.heap).mono ?_
    rintro er w1 ⟨rfl, hB⟩
    have HB := Lib.hid hB; clear hB
    go_wp2_with fail
    go_ret
    exact ⟨rfl, HB.out.alloc HB.out.size _⟩
set_option maxHeartbeats 1000000 in
theorem next_0 (w : World) (g h : Nat) (fv : Value) (k : W0 w g h fv) : Calls Try.prog 24 #[.pointer (some ⟨g, 0, none⟩)] w fun e w' => e = .returned (.tuple #[hit0, .bool false]) ∧ Below w.heap.size w w' := by
  have HH := Lib.hid k; clear k
  go_enter Try.func24, Try.ntmps24
  go_wp2_with fail
  have hB0 : Below w.heap.size w (w.alloc (.cells #[.int .u64 0, .int .i64 0] 65)) := (Below.refl _ w).alloc (Nat.le_refl _) _
  have hi0 := IRow.new w [.int .u64 0, .int .i64 0] 65
  generalize w.alloc (.cells #[.int .u64 0, .int .i64 0] 65) = w1 at *
  refine (ahead_0 w1 g h fv _ (HH.out.below hB0)).mono ?_
  rintro er w2 ⟨rfl, hB⟩
  have hi2 := hi0.kept (hB.block _ hi0.lt)
  have hB2 := hB0.trans (hB.mono hB0.size)
  have c := hi2.cell
  have f := hi2.frozen
  have H2 := Lib.hid (And.intro hi2 hB2); clear hi0 hB0 hB hi2 hB2
  go_wp2_with fail
  have hi := (H2.out.1.set 0 (.int .u64 0)).set 1 (.int .i64 0)
  have hB := (H2.out.2.setCell (p := ⟨w.heap.size, 0, none⟩) (Nat.le_refl _) (.int .u64 0)).setCell (p := ⟨w.heap.size, 1, none⟩) (Nat.le_refl _) (.int .i64 0)
  refine bodyPost_ret (results_cell_row2 rfl _ _ w.heap.size 65 _ (0, 0) _ rfl hi Try.underlying65 rfl (by kernel_rfl)) rfl ?_
  exact ⟨rfl, hB⟩
set_option maxHeartbeats 1000000 in
theorem take_0 (w : World) (g h : Nat) (fv : Value) (n : Int) (k : W0 w g h fv) : Calls Try.prog 49 #[.pointer (some ⟨g, 0, none⟩), .int .i64 n] w fun e w' => e = .returned nilS ∧ Below w.heap.size w w' := by
  have HH := Lib.hid k; clear k
  go_enter Try.func49, Try.ntmps49
  go_wp2_with fail
  go_loopw [5, 6, 7] (fun o _ _ w' => o = nilS ∧ w' = w) (fun _ _ _ _ => 0)
  case atStart => exact ⟨rfl, rfl⟩
  case round =>
    obtain ⟨rfl, rfl⟩ := hrel
    by_cases hn : 0 < n
    · have hn' : decide (0 < n) = true := by simpa using hn
      go_wp2_with fail
      refine (next_0 _ g h fv HH.out).mono ?_
      rintro er w1 ⟨rfl, hB⟩
      have HB := Lib.hid hB; clear hB
      go_wp2_with fail
      go_ret
      exact ⟨rfl, HB.out.alloc HB.out.size _⟩
    · have hn' : decide (0 < n) = false := by simpa using hn
      go_wp2_with fail
      go_ret
      exact ⟨rfl, Below.refl _ _⟩
set_option maxHeartbeats 1000000 in
theorem near_0 (w : World) (a b c : Value) (n : Int) : Calls Try.prog 26 #[.pointer none, .agg #[a, b, c], .int .i64 n] w fun e w' => e = .returned nilS ∧ Below w.heap.size w w' := by
  go_enter Try.func26, Try.ntmps26
  go_wp2_with fail
  have hB : Below w.heap.size w (w.alloc (.cells #[a, b, c] 36)) := (Below.refl _ w).alloc (Nat.le_refl _) _
  generalize w.alloc (.cells #[a, b, c] 36) = W at hB ⊢
  refine (walk_0 W a b c).mono ?_
  rintro er w1 ⟨g, h, fv, rfl, k, hB1⟩
  have HB := Lib.hid (hB.trans (hB1.mono hB.size)); clear hB hB1
  go_wp2_with fail
  refine (take_0 w1 g h fv n k).mono ?_
  rintro er w2 ⟨rfl, hB2⟩
  go_wp2_with fail
  go_ret
  exact ⟨rfl, HB.out.trans (hB2.mono HB.out.size)⟩
set_option maxHeartbeats 1000000 in
theorem tlen_0 (w : World) : Calls Try.prog 27 #[.pointer none] w fun e w' => e = .returned (.int .i64 0) ∧ w' = w := by
  go_enter Try.func27, Try.ntmps27
  go_wp2_with fail
  go_ret
  exact ⟨rfl, rfl⟩
set_option maxHeartbeats 1000000 in
theorem items_0 (w : World) : Calls Try.prog 28 #[.pointer none] w fun e w' => e = .returned nilS ∧ w' = w := by
  go_enter Try.func28, Try.ntmps28
  go_wp2_with fail
  go_ret
  exact ⟨rfl, rfl⟩
set_option maxHeartbeats 1000000 in
theorem gone_0 (w : World) : Calls Try.prog 21 #[.pointer none] w fun e w' => e = .returned (.int .i64 0) ∧ w' = w := by
  go_enter Try.func21, Try.ntmps21
  go_wp2_with fail
  go_ret
  exact ⟨rfl, rfl⟩
set_option maxHeartbeats 1000000 in
theorem depth_0 (w : World) : Calls Try.prog 19 #[.pointer none] w fun e w' => e = .returned (.int .i64 0) ∧ w' = w := by
  go_enter Try.func19, Try.ntmps19
  go_wp2_with fail
  go_ret
  exact ⟨rfl, rfl⟩
set_option maxHeartbeats 1000000 in
theorem insert_0 (w : World) (cs : Array Value) (d : Value) : Calls Try.prog 9 #[.pointer none, .agg cs, d] w fun e w' => e = .returned (.int .i64 1) ∧ Below w.heap.size w w' := by
  go_enter Try.func9, Try.ntmps9
  go_wp2_with fail
  go_ret
  exact ⟨rfl, (Below.refl _ w).alloc (Nat.le_refl _) _⟩
set_option maxHeartbeats 1000000 in
theorem delete_0 (w : World) (id : Int) (d : Value) : Calls Try.prog 12 #[.pointer none, .int .u64 id, d] w fun e w' => e = .returned (.int .i64 1) ∧ w' = w := by
  go_enter Try.func12, Try.ntmps12
  go_wp2_with fail
  go_ret
  exact ⟨rfl, rfl⟩
set_option maxHeartbeats 1000000 in
theorem bulk_0 (w : World) (v d : Value) : Calls Try.prog 15 #[.pointer none, v, d] w fun e w' => e = .returned (.int .i64 1) ∧ w' = w := by
  go_enter Try.func15, Try.ntmps15
  go_wp2_with fail
  go_ret
  exact ⟨rfl, rfl⟩
abbrev img0 : Value := .agg #[nilS, nilS, nilS, .int .i64 0, nilS, nilS]
set_option maxHeartbeats 1000000 in
theorem image_0 (w : World) : Calls Try.prog 18 #[.pointer none] w fun e w' => e = .returned img0 ∧ Below w.heap.size w w' := by
  go_enter Try.func18, Try.ntmps18
  go_wp2_with fail
  have hi := (IRow.new w [nilS, nilS, nilS, .int .i64 0, nilS, nilS] 58).alloc (.cells #[nilS, nilS, nilS, .int .i64 0, nilS, nilS] 58)
  refine bodyPost_ret (results_cell_row rfl _ _ w.heap.size 58 _ (0, 0) _ rfl hi Try.underlying58 rfl (by kernel_rfl)) rfl ?_
  exact ⟨rfl, ((Below.refl _ w).alloc (Nat.le_refl _) _).alloc (by simp) _⟩
end Go.Proofs.Ytjdcemmodkdajaa
