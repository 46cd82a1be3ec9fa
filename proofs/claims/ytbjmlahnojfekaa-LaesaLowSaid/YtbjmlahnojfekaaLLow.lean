/-
  LaesaLow returns true for every input; its arguments read behind the call as before it. No condition.
-/
import Derived.Test.YtbjmlahnojfekaaLLives
import Derived.Test.YtbjmlahnojfekaaLow
import Derived.Test.YtbjmlahnojfekaaOpn
import Derived.JoinedCond
namespace Go.Proofs.Ytbjmlahnojfekaa
open Go Go.RowKit Go.WW
set_option maxRecDepth 100000 in
set_option maxHeartbeats 2000000 in
theorem lowlaw_any (b : Nat) (va vb : Value) (la lb : List Int) (w : World) (ha : RdRow intR 3 b w va la) (hb : RdRow intR 3 b w vb lb) :
    Calls Try.prog 3 #[va, vb] w fun e w' => e = .returned (.bool true) ∧ Below w.heap.size w w' := by
  obtain ⟨A, c, rfl, _⟩ := ha.at
  obtain ⟨A2, c2, rfl, _⟩ := hb.at
  have HH := Lib.hid (And.intro ha hb); clear ha hb
  go_enter Try.func3, Try.ntmps3
  go_wp2_with fail
  refine (low_any b _ _ la lb w HH.out.1 HH.out.2).mono ?_
  rintro er w1 ⟨rfl, hB1⟩
  have H1 := Lib.hid hB1; clear hB1
  go_wp2_with fail
  refine (rlow_any b _ _ la lb w1 (HH.out.1.below H1.out) (HH.out.2.below H1.out)).mono ?_
  rintro er w2 ⟨rfl, hB2⟩
  have H2 := Lib.hid (H1.out.trans (hB2.mono H1.out.size)); clear hB2
  go_wp2_with fail
  refine (llives_any _).mono ?_
  rintro er w3 ⟨rfl, hB3⟩
  have H3 := Lib.hid (H2.out.trans (hB3.mono H2.out.size)); clear hB3
  go_wp2_with fail
  go_ret
  exact ⟨rfl, H3.out⟩
end Go.Proofs.Ytbjmlahnojfekaa
namespace Go.Proofs.Ytbjmlahnojfekaa.lows
open Go Go.ChangeShapes Go.WideShapes Go.ChangeAt Go.RowKit Go.WW
set_option linter.unusedVariables false
theorem own : ownKnob Try.prog.godebug = none := by kernel_rfl
theorem laidOut : laidOutB Try.prog = true := by kernel_rfl
set_option maxRecDepth 100000 in
theorem contract (H : Type) (enc : TypeId × Value → H) (W : World) (base : Nat) (args : Array Value) (ds gs : List (DataW H)) (before : List MemPlace)
    (hval : ∀ (j : Nat) t v, Try.f3.params[j]? = some t → args[j]? = some v → Value.okWide Try.prog W .any base t v)
    (hW : DataW.Whole enc Try.prog Try.f3.params.toList Rows.laesaLowSpec.vars false W args.toList ds gs before) :
    Calls Try.prog 3 args W fun e W' => ∃ v, e = .returned v ∧ Rows.laesaLowSpec.post enc Try.prog Try.f3 false true false false W args v W' := by
  have hW' := hW
  obtain ⟨p, q, hA0, hV, rfl, hfz, hnd⟩ := hW
  have hA : DataW.TrodAll enc Try.prog W 0 (fun _ => true) true Try.f3.params.toList args.toList ds p := hA0
  rw [Try.params3] at hA hval
  obtain ⟨v0, v1, d0, d1, p0, p1, rfl, rfl, rfl, h0, h1⟩ := trodAll_two hA
  obtain ⟨rfl, rfl⟩ := trodVars_none hV
  have h0k := h0
  have h1k := h1
  obtain ⟨f0, hf0⟩ := h0
  obtain ⟨f1, hf1⟩ := h1
  obtain ⟨A0, n0, c0, rfl⟩ := okWide_slice Try.underlying22 (hval 0 22 v0 rfl rfl)
  obtain ⟨A1, n1, c1, rfl⟩ := okWide_slice Try.underlying22 (hval 1 22 v1 rfl rfl)
  obtain ⟨w0, la, e0, hR0, _⟩ := open_rd (R := intR) (μ := fun _ _ => True) Try.underlying22 cells_int (by decide) (fun fuel cs x hh => by obtain ⟨n, hn⟩ := open_int' Try.underlying3 hh; exact ⟨n, hn, trivial⟩) hf0
  obtain ⟨w1, lb, e1, hR1, _⟩ := open_rd (R := intR) (μ := fun _ _ => True) Try.underlying22 cells_int (by decide) (fun fuel cs x hh => by obtain ⟨n, hn⟩ := open_int' Try.underlying3 hh; exact ⟨n, hn, trivial⟩) hf1
  have e0 : (Value.slice A0 n0 c0) = w0 := by simpa [Value.cells] using e0
  have e1 : (Value.slice A1 n1 c1) = w1 := by simpa [Value.cells] using e1
  subst e0 e1
  clear hA0 hval
  have hlt0 : ∀ y ∈ p0, y.block < W.heap.size := fun y hy => hW'.lt y (by simp [hy])
  have hlt1 : ∀ y ∈ p1, y.block < W.heap.size := fun y hy => hW'.lt y (by simp [hy])
  refine (lowlaw_any W.heap.size _ _ la lb W hR0 hR1).mono fun e W' ⟨he, hB⟩ => ?_
  subst he
  exact ⟨_, rfl, [d0, d1], [], _, [], p0 ++ (p1 ++ []), [], hW', trodAll_cons_mk (shut_bool Try.underlying4 _) trodAll_mk0, trodAll_cons_mk (Below.trod laidOut (by kernel_rfl) (of_decide_eq_true (by kernel_rfl)) h0k hB hlt0) (trodAll_cons_mk (Below.trod laidOut (by kernel_rfl) (of_decide_eq_true (by kernel_rfl)) h1k hB hlt1) trodAll_mk0), rfl, hB.frame _, fun h => by cases h⟩
set_option maxRecDepth 100000 in
theorem lifted (os : Os) (started : os.Started) (H : Type) (enc : TypeId × Value → H) :
    ReturnsInHanded {} Try.checked os 3 .any (Rows.laesaLowSpec.pre6 enc Try.prog Try.f3 Rows.laesaLowRow.domain false) (Rows.laesaLowSpec.post enc Try.prog Try.f3 false true false false) := by
  refine returnsInHanded_of_change (C := Try.checked) own started (by kernel_rfl) Try.func3
    (ChangeSpec.witness6 (enc := enc) (C := Try.checked) false ⟨#[], #[.slice none 0 0, .slice none 0 0], []⟩ 8 (by kernel_rfl) (by kernel_rfl) (by kernel_rfl) (by kernel_rfl)) ?_
  intro W base args ds gs before hval hW _ _
  exact contract H enc W base args ds gs before hval hW
theorem over : Rows.laesaLowRow.holds Try.pinned (OpenSpec.ofChange Rows.laesaLowSpec) :=
  OpenClaim.holds_of_wide 3 Try.f3 rfl rfl rfl rfl rfl rfl rfl ⟨rfl, rfl, rfl, rfl, rfl⟩ rfl rfl rfl rfl rfl (by kernel_rfl) Try.func3 (by kernel_rfl)
    (of_decide_eq_true (by kernel_rfl)) (by unfold Func.isWrapper; first | (rw [if_pos (by decide +kernel)]; kernel_rfl) | (rw [if_neg (by decide +kernel)]; exact ⟨rfl, rfl⟩))
    (fun os started H enc _ => lifted os started H enc)
end Go.Proofs.Ytbjmlahnojfekaa.lows
namespace Go.Proofs.Ytbjmlahnojfekaa
theorem laesaLow_holds : Rows.LaesaLowSaid := lows.over
#print axioms laesaLow_holds
end Go.Proofs.Ytbjmlahnojfekaa
