/-
  slices.Clone of []int32, object.Clone; Meter.Dist.
-/
import Derived.Test.YtlcpfnhindfkfaaOb
import Derived.Test.YtlcpfnhindfkfaaMap
import Derived.Test.YtlcpfnhindfkfaaHoist
import Derived.Lib.SliceRun
namespace Go.Proofs.Ytlcpfnhindfkfaa
open Go Go.RowKit Go.WW
theorem OwnRow.fresh {α : Type} (R : Rd α) (e b : Nat) (w : World) : OwnRow R e b w.heap.size (w.alloc (.cells #[] e)) (.slice (some ⟨w.heap.size, 0, none⟩) 0 0) [] :=
  ⟨[], ⟨by simp, .inr ⟨w.heap.size, 0, #[], rfl, Nat.le_refl _, heap_alloc_new w _, Nat.le_refl _, Nat.zero_le _, by simp, by simp⟩⟩, rfl, fun i x c h => by simp at h⟩
set_option maxRecDepth 100000 in
set_option maxHeartbeats 1000000 in
theorem clone32_any (b : Nat) (v : Value) (l : List Int) (w : World) (rv : RdRow i32R 21 b w v l) (hl : l.length ≤ 1048576) :
    Calls Try.prog 34 #[v] w fun e w' => ∃ v', e = .returned v' ∧ OwnRow i32R 21 0 w.heap.size w' v' l ∧ Below w.heap.size w w' := by
  have rv0 := rv.lift (Nat.le_refl _)
  obtain ⟨A, c, rfl, h1, h2, hA, h3⟩ := rv
  cases A with
  | none =>
    have hl0 : l = [] := by
      cases l with
      | nil => rfl
      | cons x r => obtain ⟨g, o, h, _⟩ := h3 (by simp); cases h
    subst hl0
    have hc := hA rfl
    subst hc
    clear h3
    have hq := fun w : World => Go.Lib.run_eql_slice_nil (P := Try.prog) w 28 21 none 0 0 0 0 Try.underlying28
    go_enter Try.func34, Try.ntmps34
    go_wp2
    go_ret
    exact ⟨_, rfl, OwnRow.nil .., Below.refl _ _⟩
  | some ad =>
    clear h3 hA
    have hq := fun w : World => Go.Lib.run_eql_slice_nil (P := Try.prog) w 28 21 (some ad) l.length c 0 0 Try.underlying28
    have hl8 : (([] : List Int).length + l.length) * 4 ≤ 140737488355328 := by simp; omega
    have rv1 := rv0.below ((Below.refl w.heap.size w).alloc (Nat.le_refl _) (.cells #[] 21))
    have hO := OwnRow.fresh i32R 21 w.heap.size w
    have HH := Lib.hid (And.intro rv1 hO)
    clear rv0 rv1 hO
    go_enter Try.func34, Try.ntmps34
    go_wp2_with (at_builtin; refine wp_cat (R := i32R) rfl (.tmp 5) (.tmp 6) 28 (.int .i32 0) 4 rfl Try.underlying28 info_i32 rfl (by decide) (by decide) _ _ [] l rfl rfl HH.out.1 HH.out.2 (by simp) (fun h => by cases h) (Nat.le_refl _) hl8 ?_; intro v1 w1 hO1 hG1 _ _)
    go_ret
    exact ⟨_, rfl, hO1, ((Below.refl _ w).alloc (Nat.le_refl _) _).grown hG1 (by simp) (fun k hk => by cases hk; exact Nat.le_refl _)⟩
set_option maxRecDepth 100000 in
set_option maxHeartbeats 1000000 in
theorem oclone_any (b : Nat) (x : Ob) (cx : List Value) (w : World) (hx : obR.rd b w cx x) (sx : Short x) :
    Calls Try.prog 25 #[.agg cx.toArray] w fun e w' => ∃ cs, e = .returned (.agg cs.toArray) ∧ obR.rd 0 w' cs x ∧ Below w.heap.size w w' := by
  obtain ⟨vx, rfl, hw, rx, hs⟩ := obR_iff.1 hx
  obtain ⟨sx1, sx2⟩ := sx
  obtain ⟨Ax, cx, rfl, _⟩ := rx.at
  go_enter Try.func25, Try.ntmps25
  go_wp2_with fail
  refine (clone32_any b _ x.vec _ ((rx.below ((Below.refl _ w).alloc (Nat.le_refl _) _)).below (Below.refl _ _ |>.alloc (Nat.le_refl _) _)) sx1).mono ?_
  rintro e w' ⟨v', rfl, hO, hb⟩
  have i0 : IRow 30 w' w.heap.size [.int .i64 x.tag, .slice Ax x.vec.length cx, .string x.str] := ((IRow.new w _ _).alloc _).kept (hb.block _ (by simp; omega))
  have i1 : IRow 30 w' (w.heap.size + 1) [.int .i64 0, .slice none 0 0, .string ⟨#[]⟩] := by
    have := (IRow.new (w.alloc (.cells #[.int .i64 x.tag, .slice Ax x.vec.length cx, .string x.str] 30)) [.int .i64 0, .slice none 0 0, .string ⟨#[]⟩] 30)
    rw [World.size_alloc] at this
    exact this.kept (hb.block _ (by simp))
  have c0 := i0.cell
  have f0 := i0.frozen
  have c1 := i1.cell
  have f1 := i1.frozen
  have hs' := hb.size
  simp only [World.size_alloc] at hs'
  obtain ⟨A', c', rfl⟩ := hO.slice
  have HO := Lib.hid (And.intro hO hb)
  clear hO hb
  go_wp2
  have hi : IRow 30 ((((w'.setCell ⟨w.heap.size, 1, none⟩ (Value.slice A' x.vec.length c')).setCell ⟨w.heap.size + 1, 0, none⟩ (Value.int IntKind.i64 x.tag)).setCell ⟨w.heap.size + 1, 1, none⟩ (Value.slice A' x.vec.length c')).setCell ⟨w.heap.size + 1, 2, none⟩ (Value.string x.str)) (w.heap.size + 1) [.int .i64 x.tag, .slice A' x.vec.length c', .string x.str] :=
    (((i1.kept (Below.heap_setCell w' ⟨w.heap.size, 1, none⟩ _ (w.heap.size + 1) (by simp))).set 0 (.int .i64 x.tag)).set 1 (.slice A' x.vec.length c')).set 2 (.string x.str)
  refine bodyPost_ret (results_cell_row rfl _ _ (w.heap.size + 1) 30 _ (0, 0) _ rfl hi Try.underlying30 rfl (by kernel_rfl)) rfl ?_
  obtain ⟨hO, hb⟩ := HO.out
  have hB1 : Below w.heap.size w w' := ((((Below.refl w.heap.size w).alloc (Nat.le_refl _) _).alloc (by simp) _).trans (hb.mono (by simp; omega)))
  refine ⟨_, rfl, obR_iff.2 ⟨_, rfl, hw, ?_, hs⟩, (((hB1.setCell (p := ⟨w.heap.size, 1, none⟩) (Nat.le_refl _) _).setCell (p := ⟨w.heap.size + 1, 0, none⟩) (by simp) _).setCell (p := ⟨w.heap.size + 1, 1, none⟩) (by simp) _).setCell (p := ⟨w.heap.size + 1, 2, none⟩) (by simp) _⟩
  have n0 : ¬ Sta [21] 0 w' w.heap.size := not_sta i0 (Nat.zero_le _) (by decide)
  have n1 : ¬ Sta [21] 0 w' (w.heap.size + 1) := not_sta i1 (Nat.zero_le _) (by decide)
  exact hO.read.keep (((((TK.refl [21] 0 w').setCell (p := ⟨w.heap.size, 1, none⟩) (.inr n0) _).setCell (p := ⟨w.heap.size + 1, 0, none⟩) (.inr n1) _).setCell (p := ⟨w.heap.size + 1, 1, none⟩) (.inr n1) _).setCell (p := ⟨w.heap.size + 1, 2, none⟩) (.inr n1) _).kp
set_option maxRecDepth 100000 in
set_option maxHeartbeats 1000000 in
theorem meterE_any (b : Nat) (mt : Nat) (m c : Int) (x y : Ob) (cx cy : List Value) (w : World) (hbm : b ≤ mt) (hm : IRow 64 w mt [.int .i64 m, .int .i64 c]) (hx : obR.rd b w cx x) (hy : obR.rd b w cy y) (sx : Short x) (sy : Short y) :
    Calls Try.prog 29 #[.pointer (some ⟨mt, 0, none⟩), .agg cx.toArray, .agg cy.toArray] w fun e w' => e = .returned (.int .i64 (distO m x y)) ∧ w.grownBy w' (some mt) ∧ IRow 64 w' mt [.int .i64 m, .int .i64 (wrap64 (c + 1))] := by
  obtain ⟨vx, rfl, _, rx, _⟩ := obR_iff.1 hx
  obtain ⟨vy, rfl, _, ry, _⟩ := obR_iff.1 hy
  have m0 := hm.cell 0
  have m1 := hm.cell 1
  have f1 := hm.frozen 1
  have hlt := hm.lt
  have hk : ∀ (u : Value) (o1 o2 : Obj), Kp obR.ts b w (((w.setCell ⟨mt, 1, none⟩ u).alloc o1).alloc o2).drew := fun u o1 o2 => (((((TK.refl obR.ts b w).setCell (p := ⟨mt, 1, none⟩) (.inr (not_sta hm hbm (by decide))) u).alloc o1).alloc o2).drew).kp
  have HK := Lib.hid hk; clear hk
  simp only [List.getElem?_cons_zero, List.getElem?_cons_succ] at m0 m1
  go_enter Try.func29, Try.ntmps29
  go_wp2_with fail
  refine wp_region_hoist [true, true, true, true, true, true, false, false] 0 (fun w' => ∃ n, w' = World.drewN _ n) (by kernel_rfl) (by kernel_rfl) ⟨1, rfl⟩ ?_
  simp only [pickR, pickE, List.take, List.drop, wpLate]
  repeat (go_big_quiet_step (fail))
  refine wpQuiet_nil ?_
  go_wp2_with fail
  refine (mdist_any b m x y _ _ _ (obR.keep _ _ _ _ _ (HK.out _ _ _) hx) (obR.keep _ _ _ _ _ (HK.out _ _ _) hy) sx sy).mono ?_
  rintro e w' ⟨rfl, hb⟩
  go_wp2
  simp only [only, Exit.then]
  go_wp2
  go_ret
  have hi := ((((hm.set 1 (.int .i64 (wrap64 (c + 1)))).alloc (.cells #[.int .i64 x.tag, vx, .string x.str] 30)).alloc (.cells #[.int .i64 y.tag, vy, .string y.str] 30)))
  refine ⟨rfl, ?_, hi.kept (hb.block _ (by simp; omega))⟩
  have hg := (((gb_setCell w ⟨mt, 1, none⟩ (.int .i64 (wrap64 (c + 1)))).trans (World.grownBy_alloc _ (.cells #[.int .i64 x.tag, vx, .string x.str] 30) _)).trans (World.grownBy_alloc _ (.cells #[.int .i64 y.tag, vy, .string y.str] 30) _))
  exact ⟨hb.os.trans hg.os, hb.tape.trans hg.tape, hb.output.trans hg.output, Nat.le_trans hg.size hb.size, fun g hl hn => (hb.block g (Nat.lt_of_lt_of_le hl hg.size)).trans (hg.block g hl hn)⟩
theorem meter_any (b : Nat) (mt : Nat) (m c : Int) (x y : Ob) (cx cy : List Value) (w : World) (hbm : b ≤ mt) (hm : IRow 64 w mt [.int .i64 m, .int .i64 c]) (hx : obR.rd b w cx x) (hy : obR.rd b w cy y) (sx : Short x) (sy : Short y) :
    Calls Try.prog 29 #[.pointer (some ⟨mt, 0, none⟩), .agg cx.toArray, .agg cy.toArray] w fun e w' => e = .returned (.int .i64 (distO m x y)) ∧ w.grownBy w' (some mt) ∧ ∃ c', IRow 64 w' mt [.int .i64 m, .int .i64 c'] :=
  (meterE_any b mt m c x y cx cy w hbm hm hx hy sx sy).mono fun _ _ h => ⟨h.1, h.2.1, _, h.2.2⟩
theorem zero_int (w : World) : (zeroValue 3).run Try.prog w = .ok (.int .i64 0) w := by kernel_rfl
end Go.Proofs.Ytlcpfnhindfkfaa
