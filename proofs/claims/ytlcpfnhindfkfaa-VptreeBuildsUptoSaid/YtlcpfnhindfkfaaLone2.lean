/-
  lone.Dist: the caller.
-/
import Derived.Test.YtlcpfnhindfkfaaLone
namespace Go.Proofs.Ytlcpfnhindfkfaa
open Go Go.RowKit Go.WW Go.Shelf
attribute [local go_sem] Oper.semAt_some
set_option maxHeartbeats 400000 in
theorem places_mk (_va _vb : Value) (la lb : Nat) (A B : Option Addr) (ca cb : Nat) (w : World) : Calls Try.prog 53 #[.slice A la ca, .slice B lb cb] w fun e w' => e = .returned (.func (.func 61) #[] #[.pointer (some ⟨w.heap.size, 0, none⟩), .pointer (some ⟨w.heap.size + 1, 0, none⟩)]) ∧ w' = (w.alloc (.cells #[.slice A la ca] 28)).alloc (.cells #[.slice B lb cb] 28) := by
  go_enter Try.func53, Try.ntmps53
  go_wp2
  go_ret
  exact ⟨rfl, rfl⟩
theorem heap_putObj_ne (W : World) (l g : Nat) (o : Obj) (h : g ≠ l) : (W.putObj l o).heap[g]? = W.heap[g]? := by
  simp [World.putObj, Array.getElem?_setIfInBounds_ne (Ne.symm h)]
set_option maxRecDepth 100000 in
set_option maxHeartbeats 2000000 in
theorem lone_any (b : Nat) (va vb : Value) (la lb : List Int) (w : World) (ra : RdRow i32R 21 b w va la) (rb : RdRow i32R 21 b w vb lb) (hla : la.length ≤ 1048576) (hlb : lb.length ≤ 1048576) :
    Calls Try.prog 46 #[va, vb] w fun e w' => e = .returned (.int .i64 (l1D la lb)) ∧ Below w.heap.size w w' := by
  have hfin := sumW_gap (RdRow_i32 ra) (RdRow_i32 rb) (max la.length lb.length) (by omega)
  have Hfin := Lib.hid hfin; clear hfin
  obtain ⟨Aa, ca, rfl, _, _, _, _⟩ := ra.at
  obtain ⟨Ab, cb, rfl, _, _, _, _⟩ := rb.at
  refine (callsIn_wide (n := 6)).1 ?_
  refine callsIn_of_wp_marks Try.func46 rfl trivial ?_ rfl
  simp only [Try.ntmps46, List.size_toArray, List.length_cons, List.length_nil, Nat.reduceAdd, Nat.reduceSub, Array.replicate_succ, Array.replicate_zero, List.push_toArray, List.append_toArray, List.nil_append, List.cons_append]
  gi_wp2_with (refine ⟨trivial, ?_⟩; gi_at_call 53; refine ((callsIn_wide).2 (places_mk .nilIface .nilIface _ _ _ _ _ _ _)).mono ?_; rintro e w' ⟨rfl, rfl⟩)
  have hseq : SeqStopsK Fence.wide 5 Try.prog 61 #[.pointer (some ⟨w.heap.size + 1, 0, none⟩), .pointer (some ⟨w.heap.size + 1 + 1, 0, none⟩)] (fun x : Int => #[Value.int .i64 x]) (KpL w.heap.size (w.heap.size + 1) (w.heap.size + 1 + 1)) (fun ys => ys = gapN la lb (max la.length lb.length)) (fun pre => ∃ k, k ≤ max la.length lb.length ∧ pre = gapN la lb k) (max la.length lb.length)
      (((w.alloc (.cells #[.int .i64 0] 3)).alloc (.cells #[.slice Aa la.length ca] 28)).alloc (.cells #[.slice Ab lb.length cb] 28)) := by
    intro l J Jx W hW hJ hJx hY h0
    have hsz := hW.size
    have hB0 : Below w.heap.size w (((w.alloc (.cells #[.int .i64 0] 3)).alloc (.cells #[.slice Aa la.length ca] 28)).alloc (.cells #[.slice Ab lb.length cb] 28)) := (((Below.refl _ w).alloc (Nat.le_refl _) _).alloc (by simp) _).alloc (by simp; omega) _
    have hBW : Below w.heap.size w W := hB0.trans (hW.mono (by simp; omega))
    refine places1_in Fence.wide rfl 5 (by omega) l (w.heap.size + 1) (w.heap.size + 1 + 1) b w _ _ la lb hla hlb J Jx (fun s A h1 => hJ s A _ none h1 (gb_drewN A 1 none) (fun r hr => by cases hr)) hY W ?_ ?_ hBW ra rb h0
    · rw [hW.cell (p := ⟨w.heap.size + 1, 0, none⟩) (by simp)]
      simp [go_sem]
    · rw [hW.cell (p := ⟨w.heap.size + 1 + 1, 0, none⟩) (by simp)]
      simp [go_sem]
  have hB0 : Below w.heap.size w (((w.alloc (.cells #[.int .i64 0] 3)).alloc (.cells #[.slice Aa la.length ca] 28)).alloc (.cells #[.slice Ab lb.length cb] 28)) := (((Below.refl _ w).alloc (Nat.le_refl _) _).alloc (by simp) _).alloc (by simp; omega) _
  have hc0 : (((w.alloc (.cells #[.int .i64 0] 3)).alloc (.cells #[.slice Aa la.length ca] 28)).alloc (.cells #[.slice Ab lb.length cb] 28)).cell? ⟨w.heap.size, 0, none⟩ = some (.int .i64 0) := by simp [go_sem]
  have hf0 : (((w.alloc (.cells #[.int .i64 0] 3)).alloc (.cells #[.slice Aa la.length ca] 28)).alloc (.cells #[.slice Ab lb.length cb] 28)).frozen? ⟨w.heap.size, 0, none⟩ = false := by simp [go_sem]
  have hz0 : (((w.alloc (.cells #[.int .i64 0] 3)).alloc (.cells #[.slice Aa la.length ca] 28)).alloc (.cells #[.slice Ab lb.length cb] 28)).heap.size = w.heap.size + 1 + 1 + 1 := by simp
  generalize ((w.alloc (.cells #[.int .i64 0] 3)).alloc (.cells #[.slice Aa la.length ca] 28)).alloc (.cells #[.slice Ab lb.length cb] 28) = W3 at *
  refine wpIn_rangeFunc_ownF rfl (by omega) (gf := 61) (lb := #[.pointer (some ⟨w.heap.size + 1, 0, none⟩), .pointer (some ⟨w.heap.size + 1 + 1, 0, none⟩)]) rfl trivial (enters_of Try.func61 (by kernel_rfl) rfl) hseq
    (fun h1 h2 => ⟨h1.1.trans h2.1, h2.2.1.trans h1.2.1, h2.2.2.trans h1.2.2⟩)
    (fun W l o o' hl ho hc hw => ⟨belowK_b (w := w) (Nat.le_refl _) W l o o' (by omega) ho hc hw, heap_putObj_ne _ _ _ _ (by omega), heap_putObj_ne _ _ _ _ (by omega)⟩) (Below.refl _ _) (fun _ => rfl)
    (fun pre W => (W.cell? ⟨w.heap.size, 0, none⟩ = some (.int .i64 (sumW pre)) ∧ W.frozen? ⟨w.heap.size, 0, none⟩ = false) ∧ Below w.heap.size w W)
    (fun _ _ _ => False)
    (OwnFrom.and (Own.from (fun s A B row hs hg hr => ⟨cell_kept hs.1 hg hr, (frozen_kept hs.1 hg hr).trans hs.2⟩) _) (ownFrom_below (Nat.le_refl _) (by omega)))
    (fun _ _ _ _ _ hs _ _ => hs)
    ⟨⟨hc0, hf0⟩, hB0⟩
    (fun x => { tmps := #[.slice Aa la.length ca, .slice Ab lb.length cb, undef, undef, .int .i64 0, .pointer (some ⟨w.heap.size, 0, none⟩), .int .i64 x, .slice Aa la.length ca, .slice Ab lb.length cb, .func (.func 61) #[] #[.pointer (some ⟨w.heap.size + 1, 0, none⟩), .pointer (some ⟨w.heap.size + 1 + 1, 0, none⟩)], .int .i64 x, undef, undef, undef, undef], defers := [] }) ?assign ?body ?done ?stop
  case assign =>
    intro l x W K hK
    gi_wp2
    exact hK
  case body =>
    rintro l pre x W ⟨⟨hc, hf⟩, hB⟩ _
    gi_wp2
    refine ⟨KeepsOthers.setCell _ _ _, ⟨(Below.refl w.heap.size W).setCell (p := ⟨w.heap.size, 0, none⟩) (Nat.le_refl _) _, Below.heap_setCell _ _ _ _ (by show w.heap.size + 1 ≠ w.heap.size; omega), Below.heap_setCell _ _ _ _ (by show w.heap.size + 1 + 1 ≠ w.heap.size; omega)⟩, ⟨by rw [sumW_snoc]; exact World.cell?_setCell_same' _ _ _ (by rw [hc]; rfl), by rw [World.frozen?_setCell]; exact hf⟩, hB.setCell (p := ⟨w.heap.size, 0, none⟩) (Nat.le_refl _) _⟩
  case done =>
    rintro D ys W hD rfl ⟨⟨hc, _⟩, hB⟩ hK
    gi_wp2
    refine ⟨by simp, .inl ⟨_, _, rfl, run_takeDeferred hK, ?_⟩⟩
    refine ⟨_, results_tmp rfl _ _ _, ?_, hB.trans (belowK_b (w := w) (Nat.le_refl _) W D _ _ (by omega) hK rfl rfl)⟩
    show Ending.returned (.int .i64 (sumW (gapN la lb (max la.length lb.length)))) = _
    rw [Hfin.out]
    rfl
  case stop =>
    rintro D c pre W _ _ h _
    exact h.elim
end Go.Proofs.Ytlcpfnhindfkfaa
