/-
  A walk of nothing: front's functions over an empty heap.
-/
import Derived.Test.YtlcpfnhindfkfaaGreatSort
namespace Go.Proofs.YtlcpfnhindfkfaaGreat
open Go Go.RowKit Go.WW
theorem results_cell_row2 {P : Program} {fn : Func} {p u : Tmp} {ty : TypeId} (h : fn.results = #[.cell p ty, .tmp u]) (tmps : Array Value) (w : World) (g : Nat) (t : TypeId) (cs : Array Value) (fr : Nat × Nat) (d : TypeDesc)
    (hp : tmps.getD p undef = .pointer (some ⟨g, 0, none⟩)) (hg : w.heap[g]? = some (.cells cs t fr))
    (hu : P.underlying ty = some d) (hd : (match d with | .struct _ | .array _ _ => true | _ => false) = true) (hi : (P.info? ty).map (·.size) = some cs.size) :
    (results fn tmps).run P w = .ok (.tuple #[.agg cs, tmps.getD u undef]) w := by
  rw [results_cell_tmp h, hp]
  simp [asAddr, run_loadVar_row w g t ty cs fr d hg hu hd hi, Result.andThen]
abbrev ord0 : Value := .func (.func 74) #[] #[]
/-- A walk of nothing. -/
structure W0 (w : World) (g h : Nat) (fv : Value) : Prop where
  walk : IRow 103 w g [fv, .pointer (some ⟨h, 0, none⟩), .int .i64 0]
  heap : IRow 140 w h [ord0, nilS]
theorem W0.below {w w' : World} {g h : Nat} {fv : Value} (k : W0 w g h fv) (hb : Below w.heap.size w w') : W0 w' g h fv := ⟨k.walk.kept (hb.block _ k.walk.lt), k.heap.kept (hb.block _ k.heap.lt)⟩
set_option maxHeartbeats 1000000 in
theorem hnew_any (w : World) : Calls Tryz.prog 73 #[ord0] w fun r w' => r = .returned (.pointer (some ⟨w.heap.size, 0, none⟩)) ∧ w' = w.alloc (.cells #[ord0, nilS] 140) := by
  go_enter Tryz.func73, Tryz.ntmps73
  go_wp2_with fail
  go_ret
  exact ⟨rfl, rfl⟩
set_option maxHeartbeats 1000000 in
theorem fnew_0 (w : World) (fn : Fn) (f1 cap : Array Value) : Calls Tryz.prog 44 #[.func fn f1 cap, nilS] w fun r w' => r = .returned (.pointer (some ⟨w.heap.size + 1, 0, none⟩)) ∧ W0 w' (w.heap.size + 1) w.heap.size (.func fn f1 cap) ∧ Below w.heap.size w w' := by
  go_enter Tryz.func44, Tryz.ntmps44
  go_wp2_with fail
  refine (hnew_any w).mono ?_
  rintro er w1 ⟨rfl, rfl⟩
  go_wp2_with fail
  have hh := (IRow.new w [ord0, nilS] 140).alloc (.cells #[.func fn f1 cap, .pointer (some ⟨w.heap.size, 0, none⟩), .int .i64 0] 103)
  have hw := IRow.new (w.alloc (.cells #[ord0, nilS] 140)) [.func fn f1 cap, .pointer (some ⟨w.heap.size, 0, none⟩), .int .i64 0] 103
  rw [World.size_alloc] at hw
  have hB : Below w.heap.size w ((w.alloc (.cells #[ord0, nilS] 140)).alloc (.cells #[.func fn f1 cap, .pointer (some ⟨w.heap.size, 0, none⟩), .int .i64 0] 103)) := ((Below.refl _ w).alloc (Nat.le_refl _) _).alloc (by simp) _
  go_loopw [7, 14] (fun _ vk w' => vk = .int .i64 0 ∧ W0 w' (w.heap.size + 1) w.heap.size (.func fn f1 cap) ∧ Below w.heap.size w w') (fun _ _ _ => 0)
  case atStart => exact ⟨rfl, ⟨hw, hh⟩, hB⟩
  case round =>
    obtain ⟨rfl, h1, h2⟩ := hrel
    go_wp2_with fail
    go_ret
    exact ⟨rfl, h1, h2⟩
abbrev ent0 : Value := .agg #[.int .i64 0, .int .i64 0, .int .u64 0]
abbrev hit0 : Value := .agg #[.int .u64 0, .int .i64 0]
set_option maxHeartbeats 1000000 in
theorem top_0 (w : World) (h : Nat) (hh : IRow 140 w h [ord0, nilS]) : Calls Tryz.prog 82 #[.pointer (some ⟨h, 0, none⟩)] w fun r w' => r = .returned (.tuple #[ent0, .bool false]) ∧ Below w.heap.size w w' := by
  have c := hh.cell
  have hl := hh.lt
  go_enter Tryz.func82, Tryz.ntmps82
  go_wp2_with fail
  have hi := (IRow.new w [.int .i64 0, .int .i64 0, .int .u64 0] 95).alloc (.cells #[.int .i64 0, .int .i64 0, .int .u64 0] 95)
  have hB : Below w.heap.size w ((w.alloc (.cells #[.int .i64 0, .int .i64 0, .int .u64 0] 95)).alloc (.cells #[.int .i64 0, .int .i64 0, .int .u64 0] 95)) := ((Below.refl _ w).alloc (Nat.le_refl _) _).alloc (by simp) _
  refine bodyPost_ret (results_cell_row2 rfl _ _ w.heap.size 95 _ (0, 0) _ rfl hi Tryz.underlying95 rfl (by kernel_rfl)) rfl ?_
  exact ⟨rfl, hB⟩
set_option maxHeartbeats 1000000 in
theorem ahead_0 (w : World) (g h : Nat) (fv : Value) (r : Int) (k : W0 w g h fv) : Calls Tryz.prog 49 #[.pointer (some ⟨g, 0, none⟩), .int .i64 r] w fun e w' => e = .returned (.bool false) ∧ Below w.heap.size w w' := by
  have c := k.walk.cell
  have HH := Lib.hid k; clear k
  go_enter Tryz.func49, Tryz.ntmps49
  go_wp2_with fail
  go_loopw [5, 6, 7, 15, 24] (fun _ _ _ _ _ w' => w' = w) (fun _ _ _ _ _ _ => 0)
  case atStart => rfl
  case round =>
    subst hrel
    go_wp2_with fail
    refine (top_0 _ h HH.out.heap).mono ?_
    rintro er w1 ⟨rfl, hB⟩
    have HB := Lib.hid hB; clear hB
    go_wp2_with fail
    go_ret
    exact ⟨rfl, HB.out.alloc HB.out.size _⟩
set_option maxHeartbeats 1000000 in
theorem next_0 (w : World) (g h : Nat) (fv : Value) (k : W0 w g h fv) : Calls Tryz.prog 19 #[.pointer (some ⟨g, 0, none⟩)] w fun e w' => e = .returned (.tuple #[hit0, .bool false]) ∧ Below w.heap.size w w' := by
  have HH := Lib.hid k; clear k
  go_enter Tryz.func19, Tryz.ntmps19
  go_wp2_with fail
  have hB0 : Below w.heap.size w (w.alloc (.cells #[.int .u64 0, .int .i64 0] 51)) := (Below.refl _ w).alloc (Nat.le_refl _) _
  have hi0 := IRow.new w [.int .u64 0, .int .i64 0] 51
  generalize w.alloc (.cells #[.int .u64 0, .int .i64 0] 51) = w1 at *
  refine (ahead_0 w1 g h fv _ (HH.out.below hB0)).mono ?_
  rintro er w2 ⟨rfl, hB⟩
  have hi2 := hi0.kept (hB.block _ hi0.lt)
  have hB2 := hB0.trans (hB.mono hB0.size)
  have c := hi2.cell
  have f := hi2.frozen
  have H2 := Lib.hid (And.intro hi2 hB2); clear hi0 hB0 hB hi2 hB2
  go_wp2_with fail
  have hi := (H2.out.1.set 0 (.int .u64 0)).set 1 (.int .i64 0)
  have hB := (H2.out.2.setCell (p := ⟨w.heap.size, 0, none⟩) (Nat.le_refl _) (.int .u64 0)).setCell (p := ⟨w.heap.size, 1, none⟩) (Nat.le_refl _) (.int .i64 0)
  refine bodyPost_ret (results_cell_row2 rfl _ _ w.heap.size 51 _ (0, 0) _ rfl hi Tryz.underlying51 rfl (by kernel_rfl)) rfl ?_
  exact ⟨rfl, hB⟩
set_option maxHeartbeats 1000000 in
theorem take_0 (w : World) (g h : Nat) (fv : Value) (n : Int) (k : W0 w g h fv) : Calls Tryz.prog 14 #[.pointer (some ⟨g, 0, none⟩), .int .i64 n] w fun e w' => e = .returned nilS ∧ Below w.heap.size w w' := by
  have HH := Lib.hid k; clear k
  go_enter Tryz.func14, Tryz.ntmps14
  go_wp2_with fail
  go_loopw [5, 6, 7] (fun o _ _ w' => o = nilS ∧ w' = w) (fun _ _ _ _ => 0)
  case atStart => exact ⟨rfl, rfl⟩
  case round =>
    obtain ⟨rfl, rfl⟩ := hrel
    by_cases hn : 0 < n
    · have hn' : decide (0 < n) = true := by simpa using hn
      go_wp2_with fail
      refine (next_0 _ g h fv HH.out).mono ?_
      rintro er w1 ⟨rfl, hB⟩
      have HB := Lib.hid hB; clear hB
      go_wp2_with fail
      go_ret
      exact ⟨rfl, HB.out.alloc HB.out.size _⟩
    · have hn' : decide (0 < n) = false := by simpa using hn
      go_wp2_with fail
      go_ret
      exact ⟨rfl, Below.refl _ _⟩
abbrev img0 : Value := .agg #[nilS, nilS, nilS, .int .i64 0, nilS, nilS]
end Go.Proofs.YtlcpfnhindfkfaaGreat
