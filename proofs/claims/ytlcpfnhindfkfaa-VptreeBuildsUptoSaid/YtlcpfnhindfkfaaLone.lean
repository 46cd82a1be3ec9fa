/-
  lone.Dist: how far vectors are apart, by a range over a function (l1D).
-/
import Derived.RangeFuncNested
import Derived.RangeFuncBound
import Derived.RangeFuncCalls
import Derived.RangeFuncLeaves
import Derived.RangeFuncFrom
import Derived.Shelf.Abstract
import Derived.Shelf.RegionOpen
import Derived.OwnWalkIn
import Derived.TacticsInMore
import Derived.LoopNIn
import Derived.LoopIn
import Derived.Test.YtlcpfnhindfkfaaMet
namespace Go.Proofs.Ytlcpfnhindfkfaa
open Go Go.RowKit Go.WW Go.Shelf
attribute [local go_sem] Oper.semAt_some
def gapN (a b : List Int) (k : Nat) : List Int := (List.range k).map fun i => ((vat a i - vat b i).natAbs : Int)
theorem gapN_succ (a b : List Int) (k : Nat) : gapN a b (k + 1) = gapN a b k ++ [((vat a k - vat b k).natAbs : Int)] := by simp [gapN, List.range_succ]
theorem gapN_len (a b : List Int) (k : Nat) : (gapN a b k).length = k := by simp [gapN]
def sumW (l : List Int) : Int := l.foldl (fun s x => wrap64 (s + x)) 0
theorem sumW_snoc (l : List Int) (x : Int) : sumW (l ++ [x]) = wrap64 (sumW l + x) := by simp [sumW, List.foldl_append]
theorem sumW_gap {a b : List Int} (ha : ∀ x ∈ a, I32 x) (hb : ∀ x ∈ b, I32 x) (k : Nat) (hk : k ≤ 1048576) : sumW (gapN a b k) = l1N a b k := by
  induction k with
  | zero => rfl
  | succ k ih =>
    have h := l1N_bd ha hb (k + 1)
    rw [gapN_succ, sumW_snoc, ih (by omega)]
    show wrap64 (l1N a b (k + 1)) = _
    exact IntWalk.wrap64_in _ ⟨by omega, by omega⟩
/-- What a round keeps: what lay below n0, and the two boxes. -/
def KpL (n0 A B : Nat) (W W' : World) : Prop := Below n0 W W' ∧ W'.heap[A]? = W.heap[A]? ∧ W'.heap[B]? = W.heap[B]?
set_option maxRecDepth 100000 in
set_option maxHeartbeats 2000000 in
theorem places1_in (F : Fence) (hF : F = Fence.wide) (n : Nat) (hn : 1 ≤ n) (l A B b : Nat) (w0 : World) (va vb : Value) (la lb : List Int) (hla : la.length ≤ 1048576) (hlb : lb.length ≤ 1048576) (J Jx : List Int → World → Prop) (hJ : ∀ s W, J s W → J s W.drew)
    (hY : ∀ pre x W, J pre W → pre.length < max la.length lb.length → YieldAt F (n - 1) Try.prog l #[.int .i64 x] W fun e W' =>
      (e = .returned (.bool true) ∧ J (pre ++ [x]) W' ∧ KpL w0.heap.size A B W W') ∨ (e = .returned (.bool false) ∧ Jx (pre ++ [x]) W'))
    (W : World) (hA : W.cell? ⟨A, 0, none⟩ = some va) (hB : W.cell? ⟨B, 0, none⟩ = some vb) (hW0 : Below w0.heap.size w0 W) (ra : RdRow i32R 21 b w0 va la) (rb : RdRow i32R 21 b w0 vb lb) (h0 : J [] W) :
    CallsIn F n Try.prog 61 #[.func (.yield l) #[] #[], .pointer (some ⟨A, 0, none⟩), .pointer (some ⟨B, 0, none⟩)] W fun e W' => (∃ v, e = .returned v) ∧
      ((∃ ys, ys = gapN la lb (max la.length lb.length) ∧ J ys W') ∨ (∃ pre, (∃ k, k ≤ max la.length lb.length ∧ pre = gapN la lb k) ∧ Jx pre W')) := by
  subst hF
  have HA := RdRow_i32 ra
  have HB := RdRow_i32 rb
  obtain ⟨Aa, ca, rfl, _, _, _, _⟩ := ra.at
  obtain ⟨Ab, cb, rfl, _, _, _, _⟩ := rb.at
  refine callsIn_of_wp Try.func61 rfl trivial ?_ rfl
  simp only [Try.ntmps61, List.size_toArray, List.length_cons, List.length_nil, Nat.reduceAdd, Nat.reduceSub, Array.replicate_succ, Array.replicate_zero, List.push_toArray, List.append_toArray, List.nil_append, List.cons_append]
  obtain ⟨m, hm2⟩ : ∃ m : Nat, m = max la.length lb.length := ⟨_, rfl⟩
  have hm3 : m ≤ 1048576 := by omega
  rw [← hm2] at hY ⊢
  have HAx := Lib.hid HA; clear HA
  have HBx := Lib.hid HB; clear HB
  have HY := Lib.hid hY; clear hY
  have HJ := Lib.hid hJ; clear hJ
  have Hm2 := Lib.hid hm2; clear hm2
  gi_wp2
  rotate_left
  · -- half
    have hLm : la.length = m := by have := Hm2.out; omega
    have HLm := Lib.hid hLm; clear hLm
    gi_loopw [10] (fun i wr => ∃ k : Nat, k ≤ m ∧ i = .int .i64 k ∧ J (gapN la lb k) wr ∧ KpL w0.heap.size A B W wr ∧ W.heap.size ≤ wr.heap.size) (fun i _ => m - (intOf i).toNat)
    case atStart => exact ⟨0, Nat.zero_le _, rfl, h0, ⟨Below.refl _ _, rfl, rfl⟩, Nat.le_refl _⟩
    case round =>
      obtain ⟨k, hk, rfl, hJs, hK, hsz⟩ := hrel
      by_cases hlt : k < m
      · have z1 : (k : Int) < la.length := by have := HLm.out; omega
        have cA : wr.cell? ⟨A, 0, none⟩ = some (.slice Aa la.length ca) := (cell_same hK.2.1).trans hA
        have cB : wr.cell? ⟨B, 0, none⟩ = some (.slice Ab lb.length cb) := (cell_same hK.2.2).trans hB
        have ra' : RdRow i32R 21 b wr (.slice Aa la.length ca) la := ra.below (hW0.trans hK.1)
        have rb' : RdRow i32R 21 b wr (.slice Ab lb.length cb) lb := rb.below (hW0.trans hK.1)
        have hJ' : J (gapN la lb k) wr.drew := HJ.out _ _ hJs
        have hy := HY.out (gapN la lb k) ((vat la k - vat lb k).natAbs : Int) wr.drew hJ' (by rw [gapN_len]; exact hlt)
        have hg := gapN_succ la lb k
        have Hg := Lib.hid hg; clear hg
        have cAt := (callsIn_wide (n := n - 1)).2 (at_any b _ la k wr.drew ra' (by omega))
        have cBt := (callsIn_wide (n := n - 1)).2 (at_any b _ lb k wr.drew rb' (by omega))
        have cAp := (callsIn_wide (n := n - 1)).2 (apart_any (vat la k) (vat lb k) wr.drew (vat_bd HAx.out k) (vat_bd HBx.out k))
        have HcA := Lib.hid cAt; clear cAt
        have HcB := Lib.hid cBt; clear cBt
        have HcP := Lib.hid cAp; clear cAp
        clear ra' rb' hJ'
        obtain ⟨fn, tmps, assign, body, hyy, hR⟩ := hy
        have hR2 := hR.mono (R' := fun e W' => ∃ bb : Bool, e = .returned (.bool bb) ∧ Hid ((bb = true → J (gapN la lb k ++ [((vat la k - vat lb k).natAbs : Int)]) W' ∧ KpL w0.heap.size A B wr.drew W') ∧ (bb = false → Jx (gapN la lb k ++ [((vat la k - vat lb k).natAbs : Int)]) W'))) (by
          rintro e W' (⟨rfl, h1, h2⟩ | ⟨rfl, h1⟩)
          · exact ⟨true, rfl, fun _ => ⟨h1, h2⟩, fun h => by cases h⟩
          · exact ⟨false, rfl, fun h => (by cases h), fun _ => h1⟩)
        have HR := Lib.hid hR2; clear hR2 hR
        gi_wp2
        gi_region_with (first
          | (refine ⟨trivial, ?_⟩; gi_at_call 63; refine HcA.out.mono ?_; clear HcA; rintro e w' ⟨rfl, rfl⟩)
          | (refine ⟨trivial, ?_⟩; gi_at_call 63; refine HcB.out.mono ?_; clear HcB; rintro e w' ⟨rfl, rfl⟩)
          | (refine ⟨trivial, ?_⟩; gi_at_call 62; refine HcP.out.mono ?_; clear HcP; rintro e w' ⟨rfl, rfl⟩)
          | (refine HR.out.mono ?_; rintro e W3 ⟨bb, rfl, HH⟩))
        all_goals
          cases bb
          · gi_wp2
            refine bodyPost_ret (results_none rfl _ _ _) rfl ?_
            exact ⟨⟨_, rfl⟩, .inr ⟨_, ⟨k + 1, by omega, Hg.out.symm⟩, HH.out.2 (by simp)⟩⟩
          · gi_wp2
            obtain ⟨j1, j2⟩ := HH.out.1 (by simp)
            have hs3 : wr.heap.size ≤ W3.heap.size := j2.1.size
            exact ⟨⟨k + 1, by omega, by go_num, by rw [Hg.out]; exact j1, ⟨hK.1.trans (((Below.refl _ wr).drew).trans j2.1), j2.2.1.trans hK.2.1, j2.2.2.trans hK.2.2⟩, Nat.le_trans hsz hs3⟩, by simp [intOf]; omega⟩
      · obtain rfl : k = m := by omega
        have z1 : ¬ (k : Int) < la.length := by have := HLm.out; omega
        gi_wp2
        go_end0
        exact ⟨⟨_, rfl⟩, .inl hJs⟩
  · -- half
    have hLm : lb.length = m := by have := Hm2.out; omega
    have HLm := Lib.hid hLm; clear hLm
    gi_loopw [10] (fun i wr => ∃ k : Nat, k ≤ m ∧ i = .int .i64 k ∧ J (gapN la lb k) wr ∧ KpL w0.heap.size A B W wr ∧ W.heap.size ≤ wr.heap.size) (fun i _ => m - (intOf i).toNat)
    case atStart => exact ⟨0, Nat.zero_le _, rfl, h0, ⟨Below.refl _ _, rfl, rfl⟩, Nat.le_refl _⟩
    case round =>
      obtain ⟨k, hk, rfl, hJs, hK, hsz⟩ := hrel
      by_cases hlt : k < m
      · have z1 : (k : Int) < lb.length := by have := HLm.out; omega
        have cA : wr.cell? ⟨A, 0, none⟩ = some (.slice Aa la.length ca) := (cell_same hK.2.1).trans hA
        have cB : wr.cell? ⟨B, 0, none⟩ = some (.slice Ab lb.length cb) := (cell_same hK.2.2).trans hB
        have ra' : RdRow i32R 21 b wr (.slice Aa la.length ca) la := ra.below (hW0.trans hK.1)
        have rb' : RdRow i32R 21 b wr (.slice Ab lb.length cb) lb := rb.below (hW0.trans hK.1)
        have hJ' : J (gapN la lb k) wr.drew := HJ.out _ _ hJs
        have hy := HY.out (gapN la lb k) ((vat la k - vat lb k).natAbs : Int) wr.drew hJ' (by rw [gapN_len]; exact hlt)
        have hg := gapN_succ la lb k
        have Hg := Lib.hid hg; clear hg
        have cAt := (callsIn_wide (n := n - 1)).2 (at_any b _ la k wr.drew ra' (by omega))
        have cBt := (callsIn_wide (n := n - 1)).2 (at_any b _ lb k wr.drew rb' (by omega))
        have cAp := (callsIn_wide (n := n - 1)).2 (apart_any (vat la k) (vat lb k) wr.drew (vat_bd HAx.out k) (vat_bd HBx.out k))
        have HcA := Lib.hid cAt; clear cAt
        have HcB := Lib.hid cBt; clear cBt
        have HcP := Lib.hid cAp; clear cAp
        clear ra' rb' hJ'
        obtain ⟨fn, tmps, assign, body, hyy, hR⟩ := hy
        have hR2 := hR.mono (R' := fun e W' => ∃ bb : Bool, e = .returned (.bool bb) ∧ Hid ((bb = true → J (gapN la lb k ++ [((vat la k - vat lb k).natAbs : Int)]) W' ∧ KpL w0.heap.size A B wr.drew W') ∧ (bb = false → Jx (gapN la lb k ++ [((vat la k - vat lb k).natAbs : Int)]) W'))) (by
          rintro e W' (⟨rfl, h1, h2⟩ | ⟨rfl, h1⟩)
          · exact ⟨true, rfl, fun _ => ⟨h1, h2⟩, fun h => by cases h⟩
          · exact ⟨false, rfl, fun h => (by cases h), fun _ => h1⟩)
        have HR := Lib.hid hR2; clear hR2 hR
        gi_wp2
        gi_region_with (first
          | (refine ⟨trivial, ?_⟩; gi_at_call 63; refine HcA.out.mono ?_; clear HcA; rintro e w' ⟨rfl, rfl⟩)
          | (refine ⟨trivial, ?_⟩; gi_at_call 63; refine HcB.out.mono ?_; clear HcB; rintro e w' ⟨rfl, rfl⟩)
          | (refine ⟨trivial, ?_⟩; gi_at_call 62; refine HcP.out.mono ?_; clear HcP; rintro e w' ⟨rfl, rfl⟩)
          | (refine HR.out.mono ?_; rintro e W3 ⟨bb, rfl, HH⟩))
        all_goals
          cases bb
          · gi_wp2
            refine bodyPost_ret (results_none rfl _ _ _) rfl ?_
            exact ⟨⟨_, rfl⟩, .inr ⟨_, ⟨k + 1, by omega, Hg.out.symm⟩, HH.out.2 (by simp)⟩⟩
          · gi_wp2
            obtain ⟨j1, j2⟩ := HH.out.1 (by simp)
            have hs3 : wr.heap.size ≤ W3.heap.size := j2.1.size
            exact ⟨⟨k + 1, by omega, by go_num, by rw [Hg.out]; exact j1, ⟨hK.1.trans (((Below.refl _ wr).drew).trans j2.1), j2.2.1.trans hK.2.1, j2.2.2.trans hK.2.2⟩, Nat.le_trans hsz hs3⟩, by simp [intOf]; omega⟩
      · obtain rfl : k = m := by omega
        have z1 : ¬ (k : Int) < lb.length := by have := HLm.out; omega
        gi_wp2
        go_end0
        exact ⟨⟨_, rfl⟩, .inl hJs⟩
-- END OF HALVES
end Go.Proofs.Ytlcpfnhindfkfaa
