/-
  BktreeNone returns true for every input; its arguments read behind the call as before it. No condition.
-/
import Derived.Test.YtjdcemmodkdajaaNone
import Derived.Test.YtjdcemmodkdajaaOpen
import Derived.JoinedCond
namespace Go.Proofs.Ytjdcemmodkdajaa
open Go Go.RowKit Go.WW
theorem eq_hit0 (w : World) : (binOp .eql 65 hit0 hit0).run Try.prog w = .ok (.bool true) w := by kernel_rfl
theorem fld_img0 (w : World) : (Instr.field 58 img0 0).run Try.prog w = .ok nilS w := by kernel_rfl
set_option maxRecDepth 100000 in
set_option maxHeartbeats 8000000 in
theorem none_any (b : Nat) (x : It) (cx : List Value) (n : Int) (w : World) (hx : itR.rd b w cx x) :
    Calls Try.prog 4 #[.agg cx.toArray, .int .i64 n] w fun e w' => e = .returned (.bool true) ∧ Below w.heap.size w w' := by
  obtain ⟨vx, rfl, hid, hxo⟩ := itR_iff.1 hx
  obtain ⟨Ax, nx, cx', hv'⟩ : ∃ A n c, vx = .slice A n c := by obtain ⟨v', hv2, _, hr, _⟩ := obR_iff.1 hxo; simp only [List.cons.injEq, and_true, true_and] at hv2; subst hv2; obtain ⟨A, c, e, _⟩ := hr.at; exact ⟨A, _, c, e⟩
  subst hv'
  clear hx hxo
  have hq1 := eq_hit0
  have hq2 := fld_img0
  have hB0 : Below w.heap.size w (w.alloc (.cells #[.int .u64 x.id, .int .i64 x.ob.tag, .slice Ax nx cx', .string x.ob.str] 38)) := (Below.refl _ w).alloc (Nat.le_refl _) _
  have hI0 := IRow.new w [.int .u64 x.id, .int .i64 x.ob.tag, .slice Ax nx cx', .string x.ob.str] 38
  obtain ⟨W, hW⟩ : ∃ W, W = w.alloc (.cells #[.int .u64 x.id, .int .i64 x.ob.tag, .slice Ax nx cx', .string x.ob.str] 38) := ⟨_, rfl⟩
  rw [← hW] at hB0
  have hI : IRow 38 W w.heap.size [.int .u64 x.id, .int .i64 x.ob.tag, .slice Ax nx cx', .string x.ob.str] := by rw [hW]; exact hI0
  have c0 := hI.cell
  have H0 := Lib.hid (And.intro hI hB0); clear hI hB0 hI0
  go_enter Try.func4, Try.ntmps4
  go_wp2_with fail
  rw [← hW]
  clear hW
  refine (walk_0 W _ _ _).mono ?_
  rintro er w1 ⟨g, h, fv, rfl, k, hB1⟩
  have H1 := Lib.hid (And.intro k (And.intro hB1 (H0.out.1.kept (hB1.block _ H0.out.1.lt)))); clear k hB1 c0
  go_wp2_with fail
  refine (next_0 w1 g h fv H1.out.1).mono ?_
  rintro er w2 ⟨rfl, hB2⟩
  have hI2 := H1.out.2.2.kept (hB2.block _ H1.out.2.2.lt)
  have hBw2 := H0.out.2.trans ((H1.out.2.1.trans (hB2.mono H1.out.2.1.size)).mono H0.out.2.size)
  have c2 := hI2.cell
  have hlt := hI2.lt
  have hb2 := hBw2.size
  have H2 := Lib.hid (And.intro (hI2.alloc (.cells #[.int .u64 0, .int .i64 0] 65)) (And.intro (show IRow 65 (w2.alloc (.cells #[.int .u64 0, .int .i64 0] 65)) w2.heap.size [.int .u64 0, .int .i64 0] from IRow.new w2 _ _) (hBw2.alloc hBw2.size (.cells #[.int .u64 0, .int .i64 0] 65)))); clear hI2 hBw2 hB2
  go_wp2_with fail
  refine (insert_0 _ _ _).mono ?_
  rintro er w4 ⟨rfl, hB4⟩
  have H4 := Lib.hid (And.intro (H2.out.1.kept (hB4.block _ H2.out.1.lt)) (And.intro (H2.out.2.1.kept (hB4.block _ H2.out.2.1.lt)) (H2.out.2.2.trans (hB4.mono H2.out.2.2.size)))); clear hB4 c2 hlt
  have c4 := H4.out.1.cell
  go_wp2_with fail
  refine (delete_0 w4 _ _).mono ?_
  rintro er w5 ⟨rfl, rfl⟩
  have hlt := H4.out.1.lt
  have hlt2 := H4.out.2.1.lt
  go_wp2_with fail
  refine (bulk_0 _ _ _).mono ?_
  rintro er w6 ⟨rfl, rfl⟩
  have H5 := Lib.hid (And.intro (H4.out.1.alloc (.cells #[.int .u64 x.id, .int .i64 x.ob.tag, .slice Ax nx cx', .string x.ob.str] 38)) (And.intro (H4.out.2.1.alloc (.cells #[.int .u64 x.id, .int .i64 x.ob.tag, .slice Ax nx cx', .string x.ob.str] 38)) (H4.out.2.2.alloc H4.out.2.2.size (.cells #[.int .u64 x.id, .int .i64 x.ob.tag, .slice Ax nx cx', .string x.ob.str] 38))))
  go_wp2_with fail
  refine (range_0 _ _ _ _ n).mono ?_
  rintro er w7 ⟨rfl, hB7⟩
  have H7 := Lib.hid (And.intro (H5.out.1.kept (hB7.block _ H5.out.1.lt)) (And.intro (H5.out.2.1.kept (hB7.block _ H5.out.2.1.lt)) (H5.out.2.2.trans (hB7.mono H5.out.2.2.size)))); clear hB7 c4 hlt hlt2
  have c7 := H7.out.1.cell
  go_wp2_with fail
  refine (near_0 _ _ _ _ n).mono ?_
  rintro er w8 ⟨rfl, hB8⟩
  have H8 := Lib.hid (And.intro (H7.out.1.kept (hB8.block _ H7.out.1.lt)) (And.intro (H7.out.2.1.kept (hB8.block _ H7.out.2.1.lt)) (H7.out.2.2.trans (hB8.mono H7.out.2.2.size)))); clear hB8 c7
  have c8 := H8.out.2.1.cell
  go_wp2_with fail
  refine (tlen_0 _).mono ?_
  rintro er w9 ⟨rfl, rfl⟩
  go_wp2_with fail
  refine (items_0 _).mono ?_
  rintro er w9 ⟨rfl, rfl⟩
  go_wp2_with fail
  refine (gone_0 _).mono ?_
  rintro er w9 ⟨rfl, rfl⟩
  go_wp2_with fail
  refine (depth_0 _).mono ?_
  rintro er w9 ⟨rfl, rfl⟩
  go_wp2_with fail
  refine (image_0 _).mono ?_
  rintro er w10 ⟨rfl, hB10⟩
  have H10 := Lib.hid (H8.out.2.2.trans (hB10.mono H8.out.2.2.size)); clear hB10
  go_wp2_with fail
  refine (lives_any _).mono ?_
  rintro er w11 ⟨rfl, hB11⟩
  have H11 := Lib.hid (H10.out.trans (hB11.mono H10.out.size)); clear hB11
  go_wp2_with fail
  go_ret
  exact ⟨rfl, H11.out⟩
end Go.Proofs.Ytjdcemmodkdajaa
namespace Go.Proofs.Ytjdcemmodkdajaa.nones
open Go Go.ChangeShapes Go.WideShapes Go.ChangeAt Go.RowKit Go.WW
set_option linter.unusedVariables false
theorem own : ownKnob Try.prog.godebug = none := by kernel_rfl
theorem laidOut : laidOutB Try.prog = true := by kernel_rfl
set_option maxRecDepth 100000 in
theorem contract (H : Type) (enc : TypeId × Value → H) (W : World) (base : Nat) (args : Array Value) (ds gs : List (DataW H)) (before : List MemPlace)
    (hval : ∀ (j : Nat) t v, Try.f4.params[j]? = some t → args[j]? = some v → Value.okWide Try.prog W .any base t v)
    (hW : DataW.Whole enc Try.prog Try.f4.params.toList Rows.bktreeNoneSpec.vars false W args.toList ds gs before) :
    Calls Try.prog 4 args W fun e W' => ∃ v, e = .returned v ∧ Rows.bktreeNoneSpec.post enc Try.prog Try.f4 false true false false W args v W' := by
  have hW' := hW
  obtain ⟨p, q, hA0, hV, rfl, hfz, hnd⟩ := hW
  have hA : DataW.TrodAll enc Try.prog W 0 (fun _ => true) true Try.f4.params.toList args.toList ds p := hA0
  rw [Try.params4] at hA hval
  obtain ⟨v0, v1, d0, d1, p0, p1, rfl, rfl, rfl, h0, h1⟩ := trodAll_two hA
  obtain ⟨rfl, rfl⟩ := trodVars_none hV
  have h0k := h0
  obtain ⟨fuel, hf⟩ := h0
  have hv := hval 0 38 v0 rfl rfl
  unfold Value.okWide at hv
  rw [Try.underlying38] at hv
  obtain ⟨cs, rfl, _, _⟩ := hv
  obtain ⟨n, rfl, rfl, rfl, wn⟩ := open_int Try.underlying3 (hval 1 3 v1 rfl rfl) h1
  obtain ⟨x, hx⟩ := open_it (cs := cs.toList) (w := W) hf
  clear hA0 hval
  have hlt : ∀ y ∈ p0, y.block < W.heap.size := fun y hy => hW'.lt y (by simp [hy])
  have hn := none_any W.heap.size x cs.toList n W hx
  rw [Array.toArray_toList] at hn
  refine hn.mono fun e W' ⟨he, hB⟩ => ?_
  subst he
  exact ⟨_, rfl, [d0, _], [], _, [], p0 ++ ([] ++ []), [], hW', trodAll_cons_mk (shut_bool Try.underlying4 _) trodAll_mk0, trodAll_cons_mk (Below.trod laidOut (by kernel_rfl) (of_decide_eq_true (by kernel_rfl)) h0k hB hlt) (trodAll_cons_mk (shut_int Try.underlying3 wn) trodAll_mk0), rfl, hB.frame _, fun h => by cases h⟩
set_option maxRecDepth 100000 in
theorem lifted (os : Os) (started : os.Started) (H : Type) (enc : TypeId × Value → H) :
    ReturnsInHanded {} Try.checked os 4 .any (Rows.bktreeNoneSpec.pre6 enc Try.prog Try.f4 Rows.bktreeNoneRow.domain false) (Rows.bktreeNoneSpec.post enc Try.prog Try.f4 false true false false) := by
  refine returnsInHanded_of_change (C := Try.checked) own started (by kernel_rfl) Try.func4
    (ChangeSpec.witness6 (enc := enc) (C := Try.checked) false ⟨#[], #[.agg #[.int .u64 0, .int .i64 0, .slice none 0 0, .string ⟨#[]⟩], .int .i64 0], []⟩ 8 (by kernel_rfl) (by kernel_rfl) (by kernel_rfl) (by kernel_rfl)) ?_
  intro W base args ds gs before hval hW _ _
  exact contract H enc W base args ds gs before hval hW
theorem over : Rows.bktreeNoneRow.holds Try.pinned (OpenSpec.ofChange Rows.bktreeNoneSpec) :=
  OpenClaim.holds_of_wide 4 Try.f4 rfl rfl rfl rfl rfl rfl rfl ⟨rfl, rfl, rfl, rfl, rfl⟩ rfl rfl rfl rfl rfl (by kernel_rfl) Try.func4 (by kernel_rfl)
    (of_decide_eq_true (by kernel_rfl)) (by unfold Func.isWrapper; first | (rw [if_pos (by decide +kernel)]; kernel_rfl) | (rw [if_neg (by decide +kernel)]; exact ⟨rfl, rfl⟩))
    (fun os started H enc _ => lifted os started H enc)
end Go.Proofs.Ytjdcemmodkdajaa.nones
namespace Go.Proofs.Ytjdcemmodkdajaa
theorem bktreeNone_holds : Rows.BktreeNoneSaid := nones.over
#print axioms bktreeNone_holds
end Go.Proofs.Ytjdcemmodkdajaa
