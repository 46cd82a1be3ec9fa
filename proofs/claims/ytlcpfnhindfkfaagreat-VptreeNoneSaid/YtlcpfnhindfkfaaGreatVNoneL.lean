/-
  VptreeNone returns true for every input; its arguments read behind the call as before it. No condition.
-/
import Derived.Test.YtlcpfnhindfkfaaGreatVNone
import Derived.Test.YtlcpfnhindfkfaaGreatVLives
import Derived.Test.YtlcpfnhindfkfaaGreatOpn
import Derived.JoinedCond
namespace Go.Proofs.YtlcpfnhindfkfaaGreat
open Go Go.RowKit Go.WW
set_option maxRecDepth 100000 in
set_option maxHeartbeats 8000000 in
theorem vnone_any (b : Nat) (x : It) (cx : List Value) (n : Int) (w : World) (hx : itR.rd b w cx x) :
    Calls Tryz.prog 4 #[.agg cx.toArray, .int .i64 n] w fun e w' => e = .returned (.bool true) ∧ Below w.heap.size w w' := by
  obtain ⟨vx, rfl, hid, hxo⟩ := itR_iff.1 hx
  obtain ⟨Ax, nx, cx', hv'⟩ : ∃ A n c, vx = .slice A n c := by obtain ⟨v', hv2, _, hr, _⟩ := obR_iff.1 hxo; simp only [List.cons.injEq, and_true, true_and] at hv2; subst hv2; obtain ⟨A, c, e, _⟩ := hr.at; exact ⟨A, _, c, e⟩
  subst hv'
  clear hx hxo
  have hq1 := eq_hit0
  have hB0 : Below w.heap.size w (w.alloc (.cells #[.int .u64 x.id, .int .i64 x.ob.tag, .slice Ax nx cx', .string x.ob.str] 48)) := (Below.refl _ w).alloc (Nat.le_refl _) _
  have hI0 := IRow.new w [.int .u64 x.id, .int .i64 x.ob.tag, .slice Ax nx cx', .string x.ob.str] 48
  obtain ⟨W, hW⟩ : ∃ W, W = w.alloc (.cells #[.int .u64 x.id, .int .i64 x.ob.tag, .slice Ax nx cx', .string x.ob.str] 48) := ⟨_, rfl⟩
  rw [← hW] at hB0
  have hI : IRow 48 W w.heap.size [.int .u64 x.id, .int .i64 x.ob.tag, .slice Ax nx cx', .string x.ob.str] := by rw [hW]; exact hI0
  have c0 := hI.cell
  have H0 := Lib.hid (And.intro hI hB0); clear hI hB0 hI0
  go_enter Tryz.func4, Tryz.ntmps4
  go_wp2_with fail
  rw [← hW]
  clear hW
  refine (vwalk_0 W _ _ _).mono ?_
  rintro er w1 ⟨g, h, fv, rfl, k, hB1⟩
  have H1 := Lib.hid (And.intro k (And.intro hB1 (H0.out.1.kept (hB1.block _ H0.out.1.lt)))); clear k hB1 c0
  go_wp2_with fail
  refine (next_0 w1 g h fv H1.out.1).mono ?_
  rintro er w2 ⟨rfl, hB2⟩
  have hI2 := H1.out.2.2.kept (hB2.block _ H1.out.2.2.lt)
  have hBw2 := H0.out.2.trans ((H1.out.2.1.trans (hB2.mono H1.out.2.1.size)).mono H0.out.2.size)
  obtain ⟨W2, hW2⟩ : ∃ W2, W2 = w2.alloc (.cells #[.int .u64 0, .int .i64 0] 51) := ⟨_, rfl⟩
  have H2 := Lib.hid (And.intro (hI2.alloc (.cells #[.int .u64 0, .int .i64 0] 51)) (And.intro (show IRow 51 (w2.alloc (.cells #[.int .u64 0, .int .i64 0] 51)) w2.heap.size [.int .u64 0, .int .i64 0] from IRow.new w2 _ _) (hBw2.alloc hBw2.size (.cells #[.int .u64 0, .int .i64 0] 51))))
  have c2 := hI2.cell
  have hlt := hI2.lt
  have hb2 := hBw2.size
  rw [← hW2] at H2
  clear hI2 hBw2 hB2
  go_wp2_with fail
  rw [← hW2]
  clear hW2 c2 hlt hb2
  refine (vinsert_0 W2 _ _).mono ?_
  rintro er w5 ⟨rfl, hB5⟩
  have H5 := Lib.hid (And.intro (H2.out.1.kept (hB5.block _ H2.out.1.lt)) (And.intro (H2.out.2.1.kept (hB5.block _ H2.out.2.1.lt)) (H2.out.2.2.trans (hB5.mono H2.out.2.2.size)))); clear hB5
  have c5 := H5.out.1.cell
  go_wp2_with fail
  refine (vdelete_0 w5 _ _).mono ?_
  rintro er w6 ⟨rfl, hB6⟩
  have H6 := Lib.hid (And.intro (H5.out.1.kept (hB6.block _ H5.out.1.lt)) (And.intro (H5.out.2.1.kept (hB6.block _ H5.out.2.1.lt)) (H5.out.2.2.trans (hB6.mono H5.out.2.2.size)))); clear hB6 c5
  have c6 := H6.out.1.cell
  have hlt := H6.out.1.lt
  go_wp2_with fail
  refine (vbulk_0 _ _ _).mono ?_
  rintro er w7 ⟨rfl, rfl⟩
  have H7 := Lib.hid (And.intro (H6.out.1.alloc (.cells #[.int .u64 x.id, .int .i64 x.ob.tag, .slice Ax nx cx', .string x.ob.str] 48)) (And.intro (H6.out.2.1.alloc (.cells #[.int .u64 x.id, .int .i64 x.ob.tag, .slice Ax nx cx', .string x.ob.str] 48)) (H6.out.2.2.alloc H6.out.2.2.size (.cells #[.int .u64 x.id, .int .i64 x.ob.tag, .slice Ax nx cx', .string x.ob.str] 48))))
  go_wp2_with fail
  refine (vrange_0 _ _ _ _ n).mono ?_
  rintro er w8 ⟨rfl, hB8⟩
  have H8 := Lib.hid (And.intro (H7.out.1.kept (hB8.block _ H7.out.1.lt)) (And.intro (H7.out.2.1.kept (hB8.block _ H7.out.2.1.lt)) (H7.out.2.2.trans (hB8.mono H7.out.2.2.size)))); clear hB8 c6 hlt
  have c8 := H8.out.1.cell
  go_wp2_with fail
  refine (vnear_0 _ _ _ _ n).mono ?_
  rintro er w9 ⟨rfl, hB9⟩
  have H9 := Lib.hid (And.intro (H8.out.2.1.kept (hB9.block _ H8.out.2.1.lt)) (H8.out.2.2.trans (hB9.mono H8.out.2.2.size))); clear hB9 c8
  have c9 := H9.out.1.cell
  go_wp2_with fail
  refine (vlen_0 _).mono ?_
  rintro er w10 ⟨rfl, rfl⟩
  go_wp2_with fail
  refine (vitems_0 _).mono ?_
  rintro er w10 ⟨rfl, rfl⟩
  go_wp2_with fail
  refine (vgone_0 _).mono ?_
  rintro er w10 ⟨rfl, rfl⟩
  go_wp2_with fail
  refine (vdepth_0 _).mono ?_
  rintro er w10 ⟨rfl, hB10⟩
  have H10 := Lib.hid (H9.out.2.trans (hB10.mono H9.out.2.size)); clear hB10 c9
  have hfi := fld_img0
  go_wp2_with fail
  refine (vimage_0 _).mono ?_
  rintro er w11 ⟨rfl, hB11⟩
  have H11 := Lib.hid (H10.out.trans (hB11.mono H10.out.size)); clear hB11
  go_wp2_with fail
  refine (vlives_any _).mono ?_
  rintro er w12 ⟨rfl, hB12⟩
  have H12 := Lib.hid (H11.out.trans (hB12.mono H11.out.size)); clear hB12
  go_wp2_with fail
  go_ret
  exact ⟨rfl, H12.out⟩
end Go.Proofs.YtlcpfnhindfkfaaGreat
namespace Go.Proofs.YtlcpfnhindfkfaaGreat.vnones
open Go Go.ChangeShapes Go.WideShapes Go.ChangeAt Go.RowKit Go.WW
set_option linter.unusedVariables false
theorem own : ownKnob Tryz.prog.godebug = none := by kernel_rfl
theorem laidOut : laidOutB Tryz.prog = true := by kernel_rfl
set_option maxRecDepth 100000 in
theorem contract (H : Type) (enc : TypeId × Value → H) (W : World) (base : Nat) (args : Array Value) (ds gs : List (DataW H)) (before : List MemPlace)
    (hval : ∀ (j : Nat) t v, Tryz.f4.params[j]? = some t → args[j]? = some v → Value.okWide Tryz.prog W .any base t v)
    (hW : DataW.Whole enc Tryz.prog Tryz.f4.params.toList Rows.vptreeNoneSpec.vars false W args.toList ds gs before) :
    Calls Tryz.prog 4 args W fun e W' => ∃ v, e = .returned v ∧ Rows.vptreeNoneSpec.post enc Tryz.prog Tryz.f4 false true false false W args v W' := by
  have hW' := hW
  obtain ⟨p, q, hA0, hV, rfl, hfz, hnd⟩ := hW
  have hA : DataW.TrodAll enc Tryz.prog W 0 (fun _ => true) true Tryz.f4.params.toList args.toList ds p := hA0
  rw [Tryz.params4] at hA hval
  obtain ⟨v0, v1, d0, d1, p0, p1, rfl, rfl, rfl, h0, h1⟩ := trodAll_two hA
  obtain ⟨rfl, rfl⟩ := trodVars_none hV
  have h0k := h0
  obtain ⟨fuel, hf⟩ := h0
  have hv := hval 0 48 v0 rfl rfl
  unfold Value.okWide at hv
  rw [Tryz.underlying48] at hv
  obtain ⟨cs, rfl, _, _⟩ := hv
  obtain ⟨n, rfl, rfl, rfl, wn⟩ := open_int Tryz.underlying3 (hval 1 3 v1 rfl rfl) h1
  obtain ⟨x, hx⟩ := open_it (cs := cs.toList) (w := W) hf
  clear hA0 hval
  have hlt : ∀ y ∈ p0, y.block < W.heap.size := fun y hy => hW'.lt y (by simp [hy])
  have hn := vnone_any W.heap.size x cs.toList n W hx
  rw [Array.toArray_toList] at hn
  refine hn.mono fun e W' ⟨he, hB⟩ => ?_
  subst he
  exact ⟨_, rfl, [d0, _], [], _, [], p0 ++ ([] ++ []), [], hW', trodAll_cons_mk (shut_bool Tryz.underlying4 _) trodAll_mk0, trodAll_cons_mk (Below.trod laidOut (by kernel_rfl) (of_decide_eq_true (by kernel_rfl)) h0k hB hlt) (trodAll_cons_mk (shut_int Tryz.underlying3 wn) trodAll_mk0), rfl, hB.frame _, fun h => by cases h⟩
set_option maxRecDepth 100000 in
theorem lifted (os : Os) (started : os.Started) (H : Type) (enc : TypeId × Value → H) :
    ReturnsInHanded {} Tryz.checked os 4 .any (Rows.vptreeNoneSpec.pre6 enc Tryz.prog Tryz.f4 Rows.vptreeNoneRow.domain false) (Rows.vptreeNoneSpec.post enc Tryz.prog Tryz.f4 false true false false) := by
  refine returnsInHanded_of_change (C := Tryz.checked) own started (by kernel_rfl) Tryz.func4
    (ChangeSpec.witness6 (enc := enc) (C := Tryz.checked) false ⟨#[], #[.agg #[.int .u64 0, .int .i64 0, .slice none 0 0, .string ⟨#[]⟩], .int .i64 0], []⟩ 8 (by kernel_rfl) (by kernel_rfl) (by kernel_rfl) (by kernel_rfl)) ?_
  intro W base args ds gs before hval hW _ _
  exact contract H enc W base args ds gs before hval hW
theorem over : Rows.vptreeNoneRow.holds Tryz.pinned (OpenSpec.ofChange Rows.vptreeNoneSpec) :=
  OpenClaim.holds_of_wide 4 Tryz.f4 rfl rfl rfl rfl rfl rfl rfl ⟨rfl, rfl, rfl, rfl, rfl⟩ rfl rfl rfl rfl rfl (by kernel_rfl) Tryz.func4 (by kernel_rfl)
    (of_decide_eq_true (by kernel_rfl)) (by unfold Func.isWrapper; first | (rw [if_pos (by decide +kernel)]; kernel_rfl) | (rw [if_neg (by decide +kernel)]; exact ⟨rfl, rfl⟩))
    (fun os started H enc _ => lifted os started H enc)
end Go.Proofs.YtlcpfnhindfkfaaGreat.vnones
namespace Go.Proofs.YtlcpfnhindfkfaaGreat
theorem vptreeNone_holds : Rows.VptreeNoneSaid := vnones.over
#print axioms vptreeNone_holds
end Go.Proofs.YtlcpfnhindfkfaaGreat
