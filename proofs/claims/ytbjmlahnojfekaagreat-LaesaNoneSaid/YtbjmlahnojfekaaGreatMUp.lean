/-
  metric.Upto and Meter.Upto by L1.
-/
import Derived.Test.YtbjmlahnojfekaaGreatLUp
import Derived.Test.YtbjmlahnojfekaaGreatRow
namespace Go.Proofs.YtbjmlahnojfekaaGreat
open Go Go.RowKit Go.WW Go.Shelf
set_option maxRecDepth 100000 in
set_option maxHeartbeats 1000000 in
theorem mupto_any (b : Nat) (m r : Int) (x y : Ob) (cx cy : List Value) (w : World) (hm : m = 1) (hx : obR.rd b w cx x) (hy : obR.rd b w cy y) (sx : Short x) (sy : Short y) :
    Calls Tryz.prog 92 #[.int .i64 m, .agg cx.toArray, .agg cy.toArray, .int .i64 r] w fun e w' => e = .returned (.tuple #[.int .i64 (if distO m x y ≤ r then distO m x y else 0), .bool (decide (distO m x y ≤ r))]) ∧ Below w.heap.size w w' := by
  subst hm
  obtain ⟨vx, rfl, _, rx, _⟩ := obR_iff.1 hx
  obtain ⟨vy, rfl, _, ry, _⟩ := obR_iff.1 hy
  have hB : ∀ (o1 o2 : Obj), Below w.heap.size w ((w.alloc o1).alloc o2) := fun o1 o2 => ((Below.refl _ w).alloc (Nat.le_refl _) _).alloc (by simp) _
  have HB := Lib.hid hB; clear hB
  obtain ⟨sx1, sx2⟩ := sx
  obtain ⟨sy1, sy2⟩ := sy
  obtain ⟨Ax, cx, rfl, _⟩ := rx.at
  obtain ⟨Ay, cy, rfl, _⟩ := ry.at
  have hd : distO 1 x y = l1D x.vec y.vec := by simp [distO]
  rw [hd]
  have hup := lupto_any b _ _ x.vec y.vec r (((w.alloc (.cells #[.int .i64 x.tag, .slice Ax x.vec.length cx, .string x.str] 30)).alloc (.cells #[.int .i64 y.tag, .slice Ay y.vec.length cy, .string y.str] 30))) (rx.below (HB.out _ _)) (ry.below (HB.out _ _)) sx1 sy1
  generalize (if l1D x.vec y.vec ≤ r then l1D x.vec y.vec else 0) = V at hup ⊢
  generalize decide (l1D x.vec y.vec ≤ r) = F at hup ⊢
  clear hd
  go_enter Tryz.func92, Tryz.ntmps92
  go_wp2_with fail
  refine hup.mono ?_
  rintro e w' ⟨rfl, hb⟩
  go_wp2
  go_ret2
  exact ⟨rfl, (HB.out _ _).trans (hb.mono (by simp; omega))⟩
set_option maxRecDepth 100000 in
set_option maxHeartbeats 1000000 in
theorem meterU_any (b : Nat) (mt : Nat) (m c r : Int) (x y : Ob) (cx cy : List Value) (w : World) (hm1 : m = 1) (hbm : b ≤ mt) (hm : IRow 86 w mt [.int .i64 m, .int .i64 c]) (hx : obR.rd b w cx x) (hy : obR.rd b w cy y) (sx : Short x) (sy : Short y) :
    Calls Tryz.prog 60 #[.pointer (some ⟨mt, 0, none⟩), .agg cx.toArray, .agg cy.toArray, .int .i64 r] w fun e w' => e = .returned (.tuple #[.int .i64 (if distO m x y ≤ r then distO m x y else 0), .bool (decide (distO m x y ≤ r))]) ∧ w.grownBy w' (some mt) ∧ IRow 86 w' mt [.int .i64 m, .int .i64 (wrap64 (c + 1))] := by
  obtain ⟨vx, rfl, _, rx, _⟩ := obR_iff.1 hx
  obtain ⟨vy, rfl, _, ry, _⟩ := obR_iff.1 hy
  have m0 := hm.cell 0
  have m1 := hm.cell 1
  have f1 := hm.frozen 1
  have hlt := hm.lt
  have hk : ∀ (u : Value) (o1 o2 : Obj), Kp obR.ts b w (((w.setCell ⟨mt, 1, none⟩ u).alloc o1).alloc o2).drew := fun u o1 o2 => (((((TK.refl obR.ts b w).setCell (p := ⟨mt, 1, none⟩) (.inr (not_sta hm hbm (by decide))) u).alloc o1).alloc o2).drew).kp
  have HK := Lib.hid hk; clear hk
  have hup := fun W h1 h2 => mupto_any b m r x y [.int .i64 x.tag, vx, .string x.str] [.int .i64 y.tag, vy, .string y.str] W hm1 h1 h2 sx sy
  generalize (if distO m x y ≤ r then distO m x y else 0) = V at hup ⊢
  generalize decide (distO m x y ≤ r) = F at hup ⊢
  have HU := Lib.hid hup; clear hup hm1
  simp only [List.getElem?_cons_zero, List.getElem?_cons_succ] at m0 m1
  obtain ⟨W1, hW1⟩ : ∃ W1, W1 = ((w.setCell ⟨mt, 1, none⟩ (.int .i64 (wrap64 (c + 1)))).alloc (.cells #[.int .i64 x.tag, vx, .string x.str] 30)).alloc (.cells #[.int .i64 y.tag, vy, .string y.str] 30) := ⟨_, rfl⟩
  have i0 : IRow 86 W1 mt [.int .i64 m, .int .i64 (wrap64 (c + 1))] := by rw [hW1]; exact ((hm.set 1 (.int .i64 (wrap64 (c + 1)))).alloc _).alloc _
  have i1 : IRow 30 W1 w.heap.size [.int .i64 x.tag, vx, .string x.str] := by
    have := (IRow.new (w.setCell ⟨mt, 1, none⟩ (.int .i64 (wrap64 (c + 1)))) [.int .i64 x.tag, vx, .string x.str] 30).alloc (.cells #[.int .i64 y.tag, vy, .string y.str] 30)
    rw [World.size_setCell] at this
    rw [hW1]
    exact this
  have i2 : IRow 30 W1 (w.heap.size + 1) [.int .i64 y.tag, vy, .string y.str] := by
    have := IRow.new ((w.setCell ⟨mt, 1, none⟩ (.int .i64 (wrap64 (c + 1)))).alloc (.cells #[.int .i64 x.tag, vx, .string x.str] 30)) [.int .i64 y.tag, vy, .string y.str] 30
    rw [World.size_alloc, World.size_setCell] at this
    rw [hW1]
    exact this
  have hg : w.grownBy W1 (some mt) := by
    rw [hW1]
    exact ((gb_setCell w ⟨mt, 1, none⟩ (.int .i64 (wrap64 (c + 1)))).trans (World.grownBy_alloc _ (.cells #[.int .i64 x.tag, vx, .string x.str] 30) _)).trans (World.grownBy_alloc _ (.cells #[.int .i64 y.tag, vy, .string y.str] 30) _)
  have hk1 : Kp obR.ts b w W1.drew := by rw [hW1]; exact HK.out _ _ _
  have hup1 := HU.out W1.drew (obR.keep _ _ _ _ _ hk1 hx) (obR.keep _ _ _ _ _ hk1 hy)
  clear hk1
  obtain ⟨C0, hC0⟩ : ∃ C0 : World → Prop, C0 = fun w' => Below W1.heap.size W1 w' := ⟨_, rfl⟩
  have a0 := i0.cw (C0 := C0) (fun w' hw => by subst hC0; exact hw.block mt i0.lt)
  have a1 := i1.cw (C0 := C0) (fun w' hw => by subst hC0; exact hw.block _ i1.lt)
  have a2 := i2.cw (C0 := C0) (fun w' hw => by subst hC0; exact hw.block _ i2.lt)
  have h0 : C0 W1.drew := by subst hC0; exact bl_drewN W1 1
  have hne : Nonempty (CW C0) := ⟨⟨_, h0⟩⟩
  have HC := Lib.hid hC0; clear hC0
  have HI := Lib.hid (And.intro i0 (And.intro hg hup1)); clear i0 i1 i2 hg hup1
  go_enter Tryz.func60, Tryz.ntmps60
  go_wp2_with fail
  rw [← hW1]
  clear hW1
  refine wp_region_sched [([true, true, true, true, true, true, true, false, false, false, false, false], 7)] [false, false, false, false, false, false, false, false, true, true, true, true] (fun w' => ∃ z : CW C0, w' = z.w) (by kernel_rfl) (by kernel_rfl) ⟨⟨_, h0⟩, rfl⟩ ?_
  simp only [wpSch, pickR, pickN]
  repeat (go_big_quiet_step (fail))
  refine wpQuiet_nil ?_
  go_wp2_with fail
  refine HI.out.2.2.mono ?_
  rintro e w' ⟨rfl, hb⟩
  have h1 : C0 w' := by rw [HC.out]; exact (bl_drewN W1 1).trans hb
  go_wp2_with fail
  apply only_mk
  refine And.intro ⟨⟨_, h1⟩, rfl⟩ ?_
  repeat (go_big_quiet_step (fail))
  refine wpQuiet_nil ?_
  go_wp2
  go_ret2
  have hB1 : Below W1.heap.size W1 w' := (bl_drewN W1 1).trans hb
  obtain ⟨i0, hg, _⟩ := HI.out
  exact ⟨rfl, ⟨hB1.os.trans hg.os, hB1.tape.trans hg.tape, hB1.output.trans hg.output, Nat.le_trans hg.size hB1.size, fun g hl hn => (hB1.block g (Nat.lt_of_lt_of_le hl hg.size)).trans (hg.block g hl hn)⟩, i0.kept (hB1.block _ i0.lt)⟩
end Go.Proofs.YtbjmlahnojfekaaGreat
