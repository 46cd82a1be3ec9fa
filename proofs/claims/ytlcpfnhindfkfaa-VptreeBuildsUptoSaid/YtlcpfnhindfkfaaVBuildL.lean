/-
  VptreeBuilds returns true for every input that holds together at most 1048576 values and letters; its arguments read behind the call as before it.
-/
import Derived.Test.YtlcpfnhindfkfaaVLaw
import Derived.Test.YtlcpfnhindfkfaaOpn
import Derived.JoinedCond
namespace Go.Proofs.Ytlcpfnhindfkfaa
open Go Go.RowKit Go.WW
theorem cells_act : Try.prog.cellsOf 36 = 8 := by kernel_rfl
theorem cells_acts : Try.prog.cellsOf 22 = 1 := by kernel_rfl
theorem cells_run : Try.prog.cellsOf 24 = 4 := by kernel_rfl
section
variable {H : Type} {enc : TypeId × Value → H} {w : World} {sp : Nat → Bool} {held : Bool} {fuel : Nat} {cs : List Value} {x : DataW H × List MemPlace}
/-- The law's first input. -/
theorem open_run (h : DataW.trod enc Try.prog w 0 sp held fuel 24 cs = some x) : ∃ m s k v, cs = [.int .i64 m, .int .i64 s, .int .i64 k, v] ∧ ∃ A n c, v = .slice A n c := by
  obtain ⟨xs, n, _, rfl, hl, hx, hf⟩ := DataW.trod_struct Try.underlying24 h
  rw [cells_run] at hl
  have hx : xs.length = 4 := hx
  obtain ⟨a, b, c, d, rfl⟩ := len2 hl
  obtain ⟨y0, h0, _⟩ := some_of (show DataW.trod enc Try.prog w 0 sp held n 3 (([a, b, c, d].drop 0).take (Try.prog.cellsOf 3)) = xs[0]? from hf 0 _ rfl) (by omega)
  obtain ⟨y1, h1, _⟩ := some_of (show DataW.trod enc Try.prog w 0 sp held n 3 (([a, b, c, d].drop 1).take (Try.prog.cellsOf 3)) = xs[1]? from hf 1 _ rfl) (by omega)
  obtain ⟨y2, h2, _⟩ := some_of (show DataW.trod enc Try.prog w 0 sp held n 3 (([a, b, c, d].drop 2).take (Try.prog.cellsOf 3)) = xs[2]? from hf 2 _ rfl) (by omega)
  obtain ⟨y3, h3, _⟩ := some_of (show DataW.trod enc Try.prog w 0 sp held n 22 (([a, b, c, d].drop 3).take (Try.prog.cellsOf 22)) = xs[3]? from hf 3 _ rfl) (by omega)
  simp only [cells_int, cells_acts, List.drop_zero, List.drop_succ_cons, List.take_succ_cons, List.take_zero] at h0 h1 h2 h3
  obtain ⟨m, ha, _, _⟩ := DataW.trod_int Try.underlying3 h0
  obtain ⟨s, hb, _, _⟩ := DataW.trod_int Try.underlying3 h1
  obtain ⟨k, hc, _, _⟩ := DataW.trod_int Try.underlying3 h2
  simp only [List.cons.injEq, and_true] at ha hb hc
  subst ha hb hc
  rcases DataW.trod_slice Try.underlying22 h3 with ⟨hd, _⟩ | ⟨a, len, cap, elems, rest, n, _, hd, _⟩
  · simp only [List.cons.injEq, and_true] at hd
    exact ⟨m, s, k, _, rfl, _, _, _, hd⟩
  · simp only [List.cons.injEq, and_true] at hd
    exact ⟨m, s, k, _, rfl, _, _, _, hd⟩
end
end Go.Proofs.Ytlcpfnhindfkfaa
namespace Go.Proofs.Ytlcpfnhindfkfaa.vbuilds
open Go Go.ChangeShapes Go.WideShapes Go.ChangeAt Go.RowKit Go.WW
set_option linter.unusedVariables false
theorem own : ownKnob Try.prog.godebug = none := by kernel_rfl
theorem laidOut : laidOutB Try.prog = true := by kernel_rfl
set_option maxRecDepth 100000 in
theorem contract (H : Type) (enc : TypeId × Value → H) (W : World) (base : Nat) (args : Array Value) (ds gs : List (DataW H)) (before : List MemPlace)
    (hval : ∀ (j : Nat) t v, Try.f3.params[j]? = some t → args[j]? = some v → Value.okWide Try.prog W .any base t v)
    (hW : DataW.Whole enc Try.prog Try.f3.params.toList Rows.vptreeBuildsSpec.vars false W args.toList ds gs before) (hk : Rows.uptoSmall H (ds ++ gs) = true) :
    Calls Try.prog 3 args W fun e W' => ∃ v, e = .returned v ∧ Rows.vptreeBuildsSpec.post enc Try.prog Try.f3 false true false false W args v W' := by
  have hW' := hW
  obtain ⟨p, q, hA0, hV, rfl, hfz, hnd⟩ := hW
  have hA : DataW.TrodAll enc Try.prog W 0 (fun _ => true) true Try.f3.params.toList args.toList ds p := hA0
  rw [Try.params3] at hA hval
  obtain ⟨v0, v1, v2, d0, d1, d2, p0, p1, p2, rfl, rfl, rfl, h0, h1, h2⟩ := trodAll_three hA
  obtain ⟨rfl, rfl⟩ := trodVars_none hV
  have h0k := h0
  have h1k := h1
  have h2k := h2
  obtain ⟨f0, hf0⟩ := h0
  obtain ⟨f1, hf1⟩ := h1
  obtain ⟨f2, hf2⟩ := h2
  have hv := hval 0 24 v0 rfl rfl
  unfold Value.okWide at hv
  rw [Try.underlying24] at hv
  obtain ⟨cs, rfl, _, _⟩ := hv
  obtain ⟨m, s, k, va, hcs, hva⟩ := open_run (cs := cs.toList) (w := W) hf0
  obtain rfl : cs = #[.int .i64 m, .int .i64 s, .int .i64 k, va] := by cases cs; simp_all
  obtain ⟨A1, n1, c1, rfl⟩ := okWide_slice Try.underlying25 (hval 1 25 v1 rfl rfl)
  obtain ⟨A2, n2, c2, rfl⟩ := okWide_slice Try.underlying26 (hval 2 26 v2 rfl rfl)
  obtain ⟨w1, l, e1, hR1, hl1, _⟩ := open_rd (R := itR) (μ := fun _ _ => True) Try.underlying25 cells_it (by decide) (fun fuel cs x hh => by obtain ⟨n, hn⟩ := open_it hh; exact ⟨n, hn, trivial⟩) hf1
  obtain ⟨w2, raw, e2, hR2, hl2, _⟩ := open_rd (R := intR) (μ := fun _ _ => True) Try.underlying26 cells_int (by decide) (fun fuel cs x hh => by obtain ⟨n, hn⟩ := open_int' Try.underlying3 hh; exact ⟨n, hn, trivial⟩) hf2
  have e1 : (Value.slice A1 n1 c1) = w1 := by simpa [Value.cells] using e1
  have e2 : (Value.slice A2 n2 c2) = w2 := by simpa [Value.cells] using e2
  subst e1 e2
  have hb : Rows.uptoBulkAll ([d0, d1, d2] ++ []) ≤ 1048576 := of_decide_eq_true hk
  simp only [List.append_nil, Rows.uptoBulkAll] at hb
  simp only at hl1 hl2
  clear hA0 hval
  have hlt0 : ∀ y ∈ p0, y.block < W.heap.size := fun y hy => hW'.lt y (by simp [hy])
  have hlt1 : ∀ y ∈ p1, y.block < W.heap.size := fun y hy => hW'.lt y (by simp [hy])
  have hlt2 : ∀ y ∈ p2, y.block < W.heap.size := fun y hy => hW'.lt y (by simp [hy])
  refine (vbuilds_any W.heap.size m s k va _ _ l raw W (Nat.le_refl _) hva hR1 hR2 (by omega) (by omega)).mono fun e W' ⟨he, hB⟩ => ?_
  subst he
  exact ⟨_, rfl, [d0, d1, d2], [], _, [], p0 ++ (p1 ++ (p2 ++ [])), [], hW', trodAll_cons_mk (shut_bool Try.underlying4 _) trodAll_mk0, trodAll_cons_mk (Below.trod laidOut (by kernel_rfl) (of_decide_eq_true (by kernel_rfl)) h0k hB hlt0) (trodAll_cons_mk (Below.trod laidOut (by kernel_rfl) (of_decide_eq_true (by kernel_rfl)) h1k hB hlt1) (trodAll_cons_mk (Below.trod laidOut (by kernel_rfl) (of_decide_eq_true (by kernel_rfl)) h2k hB hlt2) trodAll_mk0)), rfl, hB.frame _, fun h => by cases h⟩
set_option maxRecDepth 100000 in
theorem lifted (os : Os) (started : os.Started) (H : Type) (enc : TypeId × Value → H) (F : Stop.Interp) :
    ReturnsInHanded {} Try.checked os 3 .any ((Rows.OpenSpec.upto Rows.vptreeBuildsSpec).pre6 enc Try.prog Try.f3 Rows.vptreeBuildsUptoRow.domain false) (((Rows.OpenSpec.upto Rows.vptreeBuildsSpec).at F).post enc Try.prog Try.f3 false true false false) := by
  refine returnsInHanded_of_cond (C := Try.checked) (s := Rows.OpenSpec.upto Rows.vptreeBuildsSpec) (k := Rows.uptoSmall) rfl own started (by kernel_rfl) Try.func3
    (OpenSpec.witness (enc := enc) (C := Try.checked) (s := Rows.OpenSpec.upto Rows.vptreeBuildsSpec) (k := Rows.uptoSmall) rfl false ⟨#[], #[.agg #[.int .i64 0, .int .i64 0, .int .i64 0, .slice none 0 0], .slice none 0 0, .slice none 0 0], []⟩ 8 (by kernel_rfl) (by kernel_rfl) (by kernel_rfl)
      (x := ([.agg [.lit (.int .i64 0), .lit (.int .i64 0), .lit (.int .i64 0), .nil], .nil, .nil], [], [])) (by kernel_rfl) rfl (by kernel_rfl)) ?_
  intro W base args ds gs before hval hW _ hk _
  exact contract H enc W base args ds gs before hval hW hk
theorem over : Rows.vptreeBuildsUptoRow.holds Try.pinned (Rows.OpenSpec.upto Rows.vptreeBuildsSpec) :=
  OpenClaim.holds_of_cond 3 Try.f3 rfl rfl rfl rfl rfl rfl rfl ⟨rfl, rfl, rfl, rfl, rfl⟩ rfl rfl rfl rfl rfl (by kernel_rfl) Try.func3 (by kernel_rfl)
    (of_decide_eq_true (by kernel_rfl)) (by unfold Func.isWrapper; first | (rw [if_pos (by decide +kernel)]; kernel_rfl) | (rw [if_neg (by decide +kernel)]; exact ⟨rfl, rfl⟩))
    (fun os started H enc _ F => lifted os started H enc F)
end Go.Proofs.Ytlcpfnhindfkfaa.vbuilds
namespace Go.Proofs.Ytlcpfnhindfkfaa
theorem vptreeBuildsUpto_holds : Rows.VptreeBuildsUptoSaid := vbuilds.over
#print axioms vptreeBuildsUpto_holds
end Go.Proofs.Ytlcpfnhindfkfaa
