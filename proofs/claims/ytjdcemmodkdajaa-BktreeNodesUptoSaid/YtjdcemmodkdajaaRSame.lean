/-
  ref23: Same.
-/
import Derived.Test.YtjdcemmodkdajaaLess
namespace Go.Proofs.Ytjdcemmodkdajaa
open Go Go.RowKit Go.WW
set_option maxRecDepth 100000 in
set_option maxHeartbeats 4000000 in
theorem rsame_any (b : Nat) (va vb : Value) (l : List Nd) (w : World) (ha : RdRow bkR 77 b w va l) (hb : RdRow bkR 77 b w vb l) (hn : l.length ≤ 1048576) :
    Calls Try.prog 17 #[va, vb] w fun r w' => r = .returned (.bool true) ∧ Below w.heap.size w w' := by
  obtain ⟨A, c, rfl, _⟩ := ha.at
  obtain ⟨A2, c2, rfl, _⟩ := hb.at
  have Hv := Lib.hid (And.intro ha hb); clear ha hb
  go_enter Try.func17, Try.ntmps17
  go_wp2_with fail
  go_loopw [5] (fun j wr => ∃ k : Nat, k ≤ l.length ∧ j = .int .i64 k ∧ Below w.heap.size w wr) (fun j _ => l.length - (intOf j).toNat)
  case atStart => exact ⟨0, Nat.zero_le _, rfl, Below.refl _ _⟩
  case round =>
    obtain ⟨k, hk, rfl, hB⟩ := hrel
    by_cases hlt : k < l.length
    · have hlt' : (k : Int) < l.length := by omega
      obtain ⟨g, o, vx, hA, hg, hix, _, _, d0, d1, d2, d3, d4, d5, d6⟩ := bk_at (Hv.out.1.below hB) k hlt
      obtain ⟨g', o', vy, hA', hg', hiy, _, _, e0, e1, e2, e3, e4, e5, e6⟩ := bk_at (Hv.out.2.below hB) k hlt
      subst hA hA'
      obtain ⟨_, hvx, _, hxo⟩ := itR_iff.1 hix
      simp only [List.cons.injEq, and_true, true_and] at hvx
      subst hvx
      obtain ⟨_, hvy, _, hyo⟩ := itR_iff.1 hiy
      simp only [List.cons.injEq, and_true, true_and] at hvy
      subst hvy
      obtain ⟨C0, hC0⟩ : ∃ C0 : World → Prop, C0 = fun w' => Below wr.heap.size wr w' := ⟨_, rfl⟩
      have hcl : ∀ (z : CW C0) (p : Addr) (u : Value), p.block < wr.heap.size → wr.cell? p = some u → z.w.cell? p = some u := by
        rintro ⟨w', hw⟩ p u hp hu
        subst hC0
        exact (cell_same (hw.block p.block hp)).trans hu
      have : Nonempty (CW C0) := by subst hC0; exact ⟨⟨wr, Below.refl _ _⟩⟩
      have a0 : ∀ z : CW C0, z.w.cell? ⟨g, o + k * 7, none⟩ = some _ := fun z => hcl z _ _ hg d0
      have a1 : ∀ z : CW C0, z.w.cell? ⟨g, o + k * 7 + 1, none⟩ = some _ := fun z => hcl z _ _ hg d1
      have a2 : ∀ z : CW C0, z.w.cell? ⟨g, o + k * 7 + 2, none⟩ = some _ := fun z => hcl z _ _ hg d2
      have a3 : ∀ z : CW C0, z.w.cell? ⟨g, o + k * 7 + 3, none⟩ = some _ := fun z => hcl z _ _ hg d3
      have a4 : ∀ z : CW C0, z.w.cell? ⟨g, o + k * 7 + 4, none⟩ = some _ := fun z => hcl z _ _ hg d4
      have a5 : ∀ z : CW C0, z.w.cell? ⟨g, o + k * 7 + 5, none⟩ = some _ := fun z => hcl z _ _ hg d5
      have a6 : ∀ z : CW C0, z.w.cell? ⟨g, o + k * 7 + 6, none⟩ = some _ := fun z => hcl z _ _ hg d6
      have b0 : ∀ z : CW C0, z.w.cell? ⟨g', o' + k * 7, none⟩ = some _ := fun z => hcl z _ _ hg' e0
      have b1 : ∀ z : CW C0, z.w.cell? ⟨g', o' + k * 7 + 1, none⟩ = some _ := fun z => hcl z _ _ hg' e1
      have b2 : ∀ z : CW C0, z.w.cell? ⟨g', o' + k * 7 + 2, none⟩ = some _ := fun z => hcl z _ _ hg' e2
      have b3 : ∀ z : CW C0, z.w.cell? ⟨g', o' + k * 7 + 3, none⟩ = some _ := fun z => hcl z _ _ hg' e3
      have b4 : ∀ z : CW C0, z.w.cell? ⟨g', o' + k * 7 + 4, none⟩ = some _ := fun z => hcl z _ _ hg' e4
      have b5 : ∀ z : CW C0, z.w.cell? ⟨g', o' + k * 7 + 5, none⟩ = some _ := fun z => hcl z _ _ hg' e5
      have b6 : ∀ z : CW C0, z.w.cell? ⟨g', o' + k * 7 + 6, none⟩ = some _ := fun z => hcl z _ _ hg' e6
      have HH := Lib.hid (And.intro hB (And.intro hxo (And.intro hyo hC0)))
      clear hB hxo hyo hC0 hix hiy hcl d0 d1 d2 d3 d4 d5 d6 e0 e1 e2 e3 e4 e5 e6
      go_wp2_with fail
      refine wp_region_sched [(List.replicate 26 true ++ List.replicate 42 false, 26)] (List.replicate 27 false ++ List.replicate 41 true) (fun w' => ∃ z : CW C0, w' = z.w) (by kernel_rfl) (by kernel_rfl) ?_ ?_
      · have h0 : C0 wr.drew := by rw [HH.out.2.2.2]; exact bl_drewN wr 1
        exact ⟨⟨_, h0⟩, rfl⟩
      simp only [List.append, List.cons_append, List.nil_append, List.replicate]
      simp only [wpSch, pickR, pickN]
      repeat (go_big_quiet_step (fail))
      refine wpQuiet_nil ?_
      go_wp2_with fail
      refine (osame_any b _ _ _ wr.drew (obR_below HH.out.2.1 (bl_drewN wr 1)) (obR_below HH.out.2.2.1 (bl_drewN wr 1))).mono ?_
      rintro er w2 ⟨rfl, hb2⟩
      have hb3 : Below wr.heap.size wr w2 := ⟨hb2.os, hb2.tape, hb2.output, hb2.size, hb2.block⟩
      go_wp2_with fail
      apply only_mk
      refine And.intro ?_ ?_
      · have h0 : C0 w2 := by rw [HH.out.2.2.2]; exact hb3
        exact ⟨⟨_, h0⟩, rfl⟩
      repeat (go_big_quiet_step (fail))
      refine wpQuiet_nil ?_
      go_wp2_with fail
      refine ⟨⟨k + 1, by omega, by go_num, HH.out.1.trans (hb3.mono HH.out.1.size)⟩, ?_⟩
      simp [intOf]; omega
    · go_wp2_with fail
      go_ret
      exact ⟨rfl, hB⟩
end Go.Proofs.Ytjdcemmodkdajaa
