/-
  lone.Upto; metric.Upto and Meter.Upto by L1.
-/
import Derived.Test.YtbjmlahnojfekaaGreatLone2
import Derived.Test.YtbjmlahnojfekaaGreatClone
import Derived.Test.YtbjmlahnojfekaaGreatHoist2
namespace Go.Proofs.YtbjmlahnojfekaaGreat
open Go Go.RowKit Go.WW Go.Shelf
attribute [local go_sem] Oper.semAt_some
theorem l1N_mono (a b : List Int) {j k : Nat} (h : j ≤ k) : l1N a b j ≤ l1N a b k := by
  induction h with
  | refl => exact Int.le_refl _
  | @step k h ih =>
    have : l1N a b k.succ = l1N a b k + ((vat a k - vat b k).natAbs : Int) := rfl
    omega
set_option maxRecDepth 100000 in
set_option maxHeartbeats 2000000 in
theorem lupto_any (b : Nat) (va vb : Value) (la lb : List Int) (r : Int) (w : World) (ra : RdRow i32R 21 b w va la) (rb : RdRow i32R 21 b w vb lb) (hla : la.length ≤ 1048576) (hlb : lb.length ≤ 1048576) :
    Calls Tryz.prog 121 #[va, vb, .int .i64 r] w fun e w' => e = .returned (.tuple #[.int .i64 (if l1D la lb ≤ r then l1D la lb else 0), .bool (decide (l1D la lb ≤ r))]) ∧ Below w.heap.size w w' := by
  have hgap : ∀ k, k ≤ max la.length lb.length → sumW (gapN la lb k) = l1N la lb k := fun k hk => sumW_gap (RdRow_i32 ra) (RdRow_i32 rb) k (by omega)
  have Hgap := Lib.hid hgap; clear hgap
  obtain ⟨V, hV⟩ : ∃ V, V = (if l1D la lb ≤ r then l1D la lb else 0) := ⟨_, rfl⟩
  obtain ⟨F, hF⟩ : ∃ F, F = decide (l1D la lb ≤ r) := ⟨_, rfl⟩
  rw [← hV, ← hF]
  have HV := Lib.hid (And.intro hV hF); clear hV hF
  obtain ⟨Aa, ca, rfl, _, _, _, _⟩ := ra.at
  obtain ⟨Ab, cb, rfl, _, _, _, _⟩ := rb.at
  refine (callsIn_wide (n := 6)).1 ?_
  refine callsIn_of_wp_marks Tryz.func121 rfl trivial ?_ rfl
  simp only [Tryz.ntmps121, List.size_toArray, List.length_cons, List.length_nil, Nat.reduceAdd, Nat.reduceSub, Array.replicate_succ, Array.replicate_zero, List.push_toArray, List.append_toArray, List.nil_append, List.cons_append]
  gi_wp2_with (refine ⟨trivial, ?_⟩; gi_at_call 133; refine ((callsIn_wide).2 (places_mk .nilIface .nilIface _ _ _ _ _ _ _)).mono ?_; rintro e w' ⟨rfl, rfl⟩)
  obtain ⟨w1, e1⟩ : ∃ w1, w1 = w.alloc (.cells #[.int .i64 r] 3) := ⟨_, rfl⟩
  obtain ⟨w2, e2⟩ : ∃ w2, w2 = w1.alloc (.cells #[.int .i64 0] 3) := ⟨_, rfl⟩
  obtain ⟨w3, e3⟩ : ∃ w3, w3 = w2.alloc (.cells #[.bool false] 4) := ⟨_, rfl⟩
  obtain ⟨w4, e4⟩ : ∃ w4, w4 = w3.alloc (.cells #[.int .i64 0] 3) := ⟨_, rfl⟩
  obtain ⟨w5, e5⟩ : ∃ w5, w5 = w4.alloc (.cells #[.slice Aa la.length ca] 28) := ⟨_, rfl⟩
  obtain ⟨W3, e6⟩ : ∃ W3, W3 = w5.alloc (.cells #[.slice Ab lb.length cb] 28) := ⟨_, rfl⟩
  rw [← e1, ← e2, ← e3, ← e4, ← e5, ← e6]
  have s1 : w1.heap.size = w.heap.size + 1 := by rw [e1]; simp
  have s2 : w2.heap.size = w.heap.size + 1 + 1 := by rw [e2]; simp [s1]
  have s3 : w3.heap.size = w.heap.size + 1 + 1 + 1 := by rw [e3]; simp [s2]
  have s4 : w4.heap.size = w.heap.size + 1 + 1 + 1 + 1 := by rw [e4]; simp [s3]
  have s5 : w5.heap.size = w.heap.size + 1 + 1 + 1 + 1 + 1 := by rw [e5]; simp [s4]
  have s6 : W3.heap.size = w.heap.size + 1 + 1 + 1 + 1 + 1 + 1 := by rw [e6]; simp [s5]
  have i1 : IRow 3 w1 w.heap.size [.int .i64 r] := by rw [e1]; exact IRow.new w _ _
  have i2 : IRow 3 w2 (w.heap.size + 1) [.int .i64 0] := by rw [e2, ← s1]; exact IRow.new w1 _ _
  have i3 : IRow 4 w3 (w.heap.size + 1 + 1) [.bool false] := by rw [e3, ← s2]; exact IRow.new w2 _ _
  have i4 : IRow 3 w4 (w.heap.size + 1 + 1 + 1) [.int .i64 0] := by rw [e4, ← s3]; exact IRow.new w3 _ _
  have i5 : IRow 28 w5 (w.heap.size + 1 + 1 + 1 + 1) [.slice Aa la.length ca] := by rw [e5, ← s4]; exact IRow.new w4 _ _
  have i6 : IRow 28 W3 (w.heap.size + 1 + 1 + 1 + 1 + 1) [.slice Ab lb.length cb] := by rw [e6, ← s5]; exact IRow.new w5 _ _
  have j1 : IRow 3 W3 w.heap.size [.int .i64 r] := by rw [e6, e5, e4, e3, e2]; exact ((((i1.alloc _).alloc _).alloc _).alloc _).alloc _
  have j2 : IRow 3 W3 (w.heap.size + 1) [.int .i64 0] := by rw [e6, e5, e4, e3]; exact (((i2.alloc _).alloc _).alloc _).alloc _
  have j3 : IRow 4 W3 (w.heap.size + 1 + 1) [.bool false] := by rw [e6, e5, e4]; exact ((i3.alloc _).alloc _).alloc _
  have j4 : IRow 3 W3 (w.heap.size + 1 + 1 + 1) [.int .i64 0] := by rw [e6, e5]; exact (i4.alloc _).alloc _
  have j5 : IRow 28 W3 (w.heap.size + 1 + 1 + 1 + 1) [.slice Aa la.length ca] := by rw [e6]; exact i5.alloc _
  have hB0 : Below w.heap.size w W3 := by
    rw [e6, e5, e4, e3, e2, e1]
    exact ((((((Below.refl _ w).alloc (Nat.le_refl _) _).alloc (by simp) _).alloc (by simp; omega) _).alloc (by simp; omega) _).alloc (by simp; omega) _).alloc (by simp; omega) _
  clear i1 i2 i3 i4 i5 e1 e2 e3 e4 e5 e6 s1 s2 s3 s4 s5
  have hseq : SeqStopsK Fence.wide 5 Tryz.prog 154 #[.pointer (some ⟨w.heap.size + 1 + 1 + 1 + 1, 0, none⟩), .pointer (some ⟨w.heap.size + 1 + 1 + 1 + 1 + 1, 0, none⟩)] (fun x : Int => #[Value.int .i64 x]) (KpL w.heap.size (w.heap.size + 1 + 1 + 1 + 1) (w.heap.size + 1 + 1 + 1 + 1 + 1)) (fun ys => ys = gapN la lb (max la.length lb.length)) (fun pre => ∃ k, k ≤ max la.length lb.length ∧ pre = gapN la lb k) (max la.length lb.length) W3 := by
    intro l J Jx W hW hJ hJx hY h0
    have hsz := hW.size
    have hBW : Below w.heap.size w W := hB0.trans (hW.mono (by omega))
    refine places1_in Fence.wide rfl 5 (by omega) l (w.heap.size + 1 + 1 + 1 + 1) (w.heap.size + 1 + 1 + 1 + 1 + 1) b w _ _ la lb hla hlb J Jx (fun s A h1 => hJ s A _ none h1 (gb_drewN A 1 none) (fun r hr => by cases hr)) hY W ?_ ?_ hBW ra rb h0
    · rw [hW.cell (p := ⟨w.heap.size + 1 + 1 + 1 + 1, 0, none⟩) (by show w.heap.size + 1 + 1 + 1 + 1 < W3.heap.size; omega), j5.cell]; rfl
    · rw [hW.cell (p := ⟨w.heap.size + 1 + 1 + 1 + 1 + 1, 0, none⟩) (by show w.heap.size + 1 + 1 + 1 + 1 + 1 < W3.heap.size; omega), i6.cell]; rfl
  have hd : ∀ k, k ≤ max la.length lb.length → sumW (gapN la lb k) ≤ l1D la lb := fun k hk => by rw [Hgap.out k hk]; exact l1N_mono la lb hk
  have he : sumW (gapN la lb (max la.length lb.length)) = l1D la lb := Hgap.out _ (Nat.le_refl _)
  have HD := Lib.hid (And.intro hd he); clear hd he
  refine wpIn_rangeFunc_ownF rfl (by omega) (gf := 154) (lb := #[.pointer (some ⟨w.heap.size + 1 + 1 + 1 + 1, 0, none⟩), .pointer (some ⟨w.heap.size + 1 + 1 + 1 + 1 + 1, 0, none⟩)]) rfl trivial (enters_of Tryz.func154 (by kernel_rfl) rfl) hseq
    (fun h1 h2 => ⟨h1.1.trans h2.1, h2.2.1.trans h1.2.1, h2.2.2.trans h1.2.2⟩)
    (fun W l o o' hl ho hc hw => ⟨belowK_b (w := w) (Nat.le_refl _) W l o o' (by omega) ho hc hw, heap_putObj_ne _ _ _ _ (by omega), heap_putObj_ne _ _ _ _ (by omega)⟩) (Below.refl _ _) (fun _ => rfl)
    (fun pre W => (W.cell? ⟨w.heap.size + 1 + 1 + 1, 0, none⟩ = some (.int .i64 (sumW pre)) ∧ W.frozen? ⟨w.heap.size + 1 + 1 + 1, 0, none⟩ = false ∧ W.cell? ⟨w.heap.size, 0, none⟩ = some (.int .i64 r) ∧ W.cell? ⟨w.heap.size + 1, 0, none⟩ = some (.int .i64 0) ∧ W.frozen? ⟨w.heap.size + 1, 0, none⟩ = false ∧ W.cell? ⟨w.heap.size + 1 + 1, 0, none⟩ = some (.bool false) ∧ W.frozen? ⟨w.heap.size + 1 + 1, 0, none⟩ = false ∧ (pre = [] ∨ sumW pre ≤ r)) ∧ Below w.heap.size w W)
    (fun c pre W => (c = .ret ∧ W.cell? ⟨w.heap.size + 1, 0, none⟩ = some (.int .i64 0) ∧ W.cell? ⟨w.heap.size + 1 + 1, 0, none⟩ = some (.bool false) ∧ r < sumW pre) ∧ Below w.heap.size w W)
    (OwnFrom.and (Own.from (fun s A B row hs hg hr => ⟨cell_kept hs.1 hg hr, (frozen_kept hs.1 hg hr).trans hs.2.1, cell_kept hs.2.2.1 hg hr, cell_kept hs.2.2.2.1 hg hr, (frozen_kept hs.2.2.2.1 hg hr).trans hs.2.2.2.2.1, cell_kept hs.2.2.2.2.2.1 hg hr, (frozen_kept hs.2.2.2.2.2.1 hg hr).trans hs.2.2.2.2.2.2.1, hs.2.2.2.2.2.2.2⟩) _) (ownFrom_below (Nat.le_refl _) (by omega)))
    (fun c => OwnFrom.and (Own.from (fun s A B row hs hg hr => ⟨hs.1, cell_kept hs.2.1 hg hr, cell_kept hs.2.2.1 hg hr, hs.2.2.2⟩) _) (ownFrom_below (Nat.le_refl _) (by omega)))
    ⟨⟨j4.cell 0, j4.frozen 0, j1.cell 0, j2.cell 0, j2.frozen 0, j3.cell 0, j3.frozen 0, .inl rfl⟩, hB0⟩
    (fun x => { tmps := #[.slice Aa la.length ca, .slice Ab lb.length cb, .int .i64 r, undef, undef, .pointer (some ⟨w.heap.size, 0, none⟩), .pointer (some ⟨w.heap.size + 1, 0, none⟩), .pointer (some ⟨w.heap.size + 1 + 1, 0, none⟩), .pointer (some ⟨w.heap.size + 1 + 1 + 1, 0, none⟩), .int .i64 x, .slice Aa la.length ca, .slice Ab lb.length cb, .func (.func 154) #[] #[.pointer (some ⟨w.heap.size + 1 + 1 + 1 + 1, 0, none⟩), .pointer (some ⟨w.heap.size + 1 + 1 + 1 + 1 + 1, 0, none⟩)], .int .i64 x, undef, undef, undef, undef, undef, undef, undef, undef, undef, undef], defers := [] }) ?assign ?body ?done ?stop
  case assign =>
    intro l x W K hK
    gi_wp2
    exact hK
  case body =>
    rintro l pre x W ⟨⟨hc, hf, hr, ho, hfo, hb1, hfb, hp⟩, hB⟩ _
    have hs := sumW_snoc pre x
    have HS := Lib.hid hs; clear hs
    have hk1 : Below w.heap.size W (W.setCell ⟨w.heap.size + 1 + 1 + 1, 0, none⟩ (.int .i64 (wrap64 (sumW pre + x)))) := (Below.refl w.heap.size W).setCell (p := ⟨w.heap.size + 1 + 1 + 1, 0, none⟩) (by show w.heap.size ≤ w.heap.size + 1 + 1 + 1; omega) _
    have HK1 := Lib.hid hk1; clear hk1
    by_cases hgt : r < wrap64 (sumW pre + x)
    · gi_wp2
      have hcs : ∀ j, j ≠ w.heap.size + 1 + 1 + 1 → (W.setCell ⟨w.heap.size + 1 + 1 + 1, 0, none⟩ (.int .i64 (wrap64 (sumW pre + x)))).heap[j]? = W.heap[j]? := fun j hj => Below.heap_setCell _ _ _ _ hj
      have k1 := (cell_same (p := ⟨w.heap.size + 1, 0, none⟩) (hcs _ (by show w.heap.size + 1 ≠ w.heap.size + 1 + 1 + 1; omega))).trans ho
      have k2 := (cell_same (p := ⟨w.heap.size + 1 + 1, 0, none⟩) (hcs _ (by show w.heap.size + 1 + 1 ≠ w.heap.size + 1 + 1 + 1; omega))).trans hb1
      refine ⟨((KeepsOthers.setCell W ⟨w.heap.size + 1 + 1 + 1, 0, none⟩ _).trans (KeepsOthers.setCell _ ⟨w.heap.size + 1, 0, none⟩ _)).trans (KeepsOthers.setCell _ ⟨w.heap.size + 1 + 1, 0, none⟩ _), ⟨rfl, ?_, ?_, by rw [HS.out]; exact hgt⟩, ((hB.trans HK1.out).setCell (p := ⟨w.heap.size + 1, 0, none⟩) (by show w.heap.size ≤ w.heap.size + 1; omega) _).setCell (p := ⟨w.heap.size + 1 + 1, 0, none⟩) (by show w.heap.size ≤ w.heap.size + 1 + 1; omega) _⟩
      · exact (cell_same (Below.heap_setCell _ ⟨w.heap.size + 1 + 1, 0, none⟩ _ (w.heap.size + 1) (by show w.heap.size + 1 ≠ w.heap.size + 1 + 1; omega))).trans (World.cell?_setCell_same' _ _ _ (by rw [k1]; rfl))
      · exact World.cell?_setCell_same' _ _ _ (by rw [cell_same (Below.heap_setCell _ ⟨w.heap.size + 1, 0, none⟩ _ (w.heap.size + 1 + 1) (by show w.heap.size + 1 + 1 ≠ w.heap.size + 1; omega)), k2]; rfl)
    · gi_wp2
      have hcs : ∀ j, j ≠ w.heap.size + 1 + 1 + 1 → (W.setCell ⟨w.heap.size + 1 + 1 + 1, 0, none⟩ (.int .i64 (wrap64 (sumW pre + x)))).heap[j]? = W.heap[j]? := fun j hj => Below.heap_setCell _ _ _ _ hj
      refine ⟨KeepsOthers.setCell _ _ _, ⟨HK1.out, hcs _ (by omega), hcs _ (by omega)⟩, ⟨by rw [HS.out]; exact World.cell?_setCell_same' _ _ _ (by rw [hc]; rfl), by rw [World.frozen?_setCell]; exact hf, (cell_same (hcs _ (by show w.heap.size ≠ w.heap.size + 1 + 1 + 1; omega))).trans hr, (cell_same (hcs _ (by show w.heap.size + 1 ≠ w.heap.size + 1 + 1 + 1; omega))).trans ho, by rw [World.frozen?_setCell]; exact hfo, (cell_same (hcs _ (by show w.heap.size + 1 + 1 ≠ w.heap.size + 1 + 1 + 1; omega))).trans hb1, by rw [World.frozen?_setCell]; exact hfb, .inr (by rw [HS.out]; omega)⟩, hB.trans HK1.out⟩
  case done =>
    rintro D ys W hD rfl ⟨⟨hc, hf, hr, ho, hfo, hb1, hfb, hp⟩, hB⟩ hK
    rw [HD.out.2] at hc hp
    gi_wp2
    refine wpIn_wide.2 ?_
    obtain ⟨C0, hC0⟩ : ∃ C0 : World → Prop, C0 = fun w' => w'.cell? ⟨w.heap.size + 1 + 1 + 1, 0, none⟩ = some (.int .i64 (l1D la lb)) ∧ w'.cell? ⟨w.heap.size, 0, none⟩ = some (.int .i64 r) := ⟨_, rfl⟩
    have a1 : ∀ z : CW C0, z.w.cell? ⟨w.heap.size + 1 + 1 + 1, 0, none⟩ = some (.int .i64 (l1D la lb)) := fun z => by obtain ⟨w', hw⟩ := z; subst hC0; exact hw.1
    have a2 : ∀ z : CW C0, z.w.cell? ⟨w.heap.size, 0, none⟩ = some (.int .i64 r) := fun z => by obtain ⟨w', hw⟩ := z; subst hC0; exact hw.2
    have h0 : C0 W.drew := by rw [hC0]; exact ⟨hc, hr⟩
    have h1 : C0 (W.setCell ⟨w.heap.size + 1, 0, none⟩ (.int .i64 (l1D la lb))).drew := by
      rw [hC0]
      exact ⟨(cell_same (p := ⟨w.heap.size + 1 + 1 + 1, 0, none⟩) (Below.heap_setCell W ⟨w.heap.size + 1, 0, none⟩ _ _ (by show w.heap.size + 1 + 1 + 1 ≠ w.heap.size + 1; omega))).trans hc, (cell_same (p := ⟨w.heap.size, 0, none⟩) (Below.heap_setCell W ⟨w.heap.size + 1, 0, none⟩ _ _ (by show w.heap.size ≠ w.heap.size + 1; omega))).trans hr⟩
    have hne : Nonempty (CW C0) := ⟨⟨_, h0⟩⟩
    have HC := Lib.hid hC0; clear hC0
    refine wp_region_hoist [true, true, true, true, false, false] 1 (fun w' => ∃ z : CW C0, w' = z.w) (by kernel_rfl) (by kernel_rfl) ⟨⟨_, h0⟩, rfl⟩ ?_
    simp only [pickR, pickE, List.take, List.drop, wpLate]
    repeat (go_big_quiet_step (fail))
    refine wpQuiet_nil ?_
    go_wp2_with fail
    apply only_mk; refine And.intro ⟨⟨_, h1⟩, rfl⟩ ?_
    go_wp2_with fail
    apply only_mk
    gi_wp2
    have hK' : ((W.setCell ⟨w.heap.size + 1, 0, none⟩ (.int .i64 (l1D la lb))).setCell ⟨w.heap.size + 1 + 1, 0, none⟩ (.bool (decide (l1D la lb ≤ r)))).drew.heap[D]? = some (.deferred (some [])) := by
      show ((W.setCell ⟨w.heap.size + 1, 0, none⟩ (.int .i64 (l1D la lb))).setCell ⟨w.heap.size + 1 + 1, 0, none⟩ (.bool (decide (l1D la lb ≤ r)))).heap[D]? = _
      exact ((Below.heap_setCell _ ⟨w.heap.size + 1 + 1, 0, none⟩ _ D (by show D ≠ w.heap.size + 1 + 1; omega)).trans (Below.heap_setCell _ ⟨w.heap.size + 1, 0, none⟩ _ D (by show D ≠ w.heap.size + 1; omega))).trans hK
    refine ⟨by simp, .inl ⟨_, _, rfl, run_takeDeferred hK', ?_⟩⟩
    have ko : ((W.setCell ⟨w.heap.size + 1, 0, none⟩ (.int .i64 (l1D la lb))).setCell ⟨w.heap.size + 1 + 1, 0, none⟩ (.bool (decide (l1D la lb ≤ r)))).drew.cell? ⟨w.heap.size + 1, 0, none⟩ = some (.int .i64 (l1D la lb)) :=
      (cell_same (Below.heap_setCell _ ⟨w.heap.size + 1 + 1, 0, none⟩ _ (w.heap.size + 1) (by show w.heap.size + 1 ≠ w.heap.size + 1 + 1; omega))).trans (World.cell?_setCell_same' _ _ _ (by rw [ho]; rfl))
    have kb : ((W.setCell ⟨w.heap.size + 1, 0, none⟩ (.int .i64 (l1D la lb))).setCell ⟨w.heap.size + 1 + 1, 0, none⟩ (.bool (decide (l1D la lb ≤ r)))).drew.cell? ⟨w.heap.size + 1 + 1, 0, none⟩ = some (.bool (decide (l1D la lb ≤ r))) :=
      World.cell?_setCell_same' _ _ _ (by rw [cell_same (Below.heap_setCell _ ⟨w.heap.size + 1, 0, none⟩ _ (w.heap.size + 1 + 1) (by show w.heap.size + 1 + 1 ≠ w.heap.size + 1; omega)), hb1]; rfl)
    have ho5 := cell_kept ko (grownBy_putObj' _ D (.deferred none)) (fun r e => by cases e; exact ⟨_, hK', rfl⟩)
    have hb5 := cell_kept kb (grownBy_putObj' _ D (.deferred none)) (fun r e => by cases e; exact ⟨_, hK', rfl⟩)
    have hV : V = l1D la lb := by
      rw [HV.out.1]
      split
      · rfl
      · rcases hp with h | h
        · have := HD.out.2
          rw [h] at this
          exact this
        · omega
    refine ⟨_, ?_, rfl, ((((hB.setCell (p := ⟨w.heap.size + 1, 0, none⟩) (by show w.heap.size ≤ w.heap.size + 1; omega) _).setCell (p := ⟨w.heap.size + 1 + 1, 0, none⟩) (by show w.heap.size ≤ w.heap.size + 1 + 1; omega) _)).drew).trans (belowK_b (w := w) (Nat.le_refl _) _ D _ _ (by omega) hK' rfl rfl)⟩
    rw [hV, HV.out.2]
    simp [results, Tryz.f121, go_sem, ho5, hb5]
  case stop =>
    rintro D c pre W hD ⟨k, hk, rfl⟩ ⟨⟨rfl, ho, hb1, hlt⟩, hB⟩ hK
    gi_wp2
    refine ⟨by simp, .inl ⟨_, _, rfl, run_takeDeferred hK, ?_⟩⟩
    have ho5 := cell_kept ho (grownBy_putObj' _ D (.deferred none)) (fun r e => by cases e; exact ⟨_, hK, rfl⟩)
    have hb5 := cell_kept hb1 (grownBy_putObj' _ D (.deferred none)) (fun r e => by cases e; exact ⟨_, hK, rfl⟩)
    have hle := HD.out.1 k hk
    have hV : V = 0 := HV.out.1.trans (if_neg (by omega))
    have hF : F = false := HV.out.2.trans (decide_eq_false (by omega))
    refine ⟨_, ?_, rfl, hB.trans (belowK_b (w := w) (Nat.le_refl _) W D _ _ (by omega) hK rfl rfl)⟩
    rw [hV, hF]
    simp [results, Tryz.f121, go_sem, ho5, hb5]
end Go.Proofs.YtbjmlahnojfekaaGreat
