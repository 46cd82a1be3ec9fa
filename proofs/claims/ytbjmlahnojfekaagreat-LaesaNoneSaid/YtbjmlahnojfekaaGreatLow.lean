/-
  bound.in, bound.Apart, bound.Cut; laesa.Low, ref22.Low.
-/
import Derived.Test.YtbjmlahnojfekaaGreatOb
import Derived.Test.YtbjmlahnojfekaaGreatHoist2
import Derived.Deep.DeepCutAuto
namespace Go.WW
def clB (x : Int) : Int := max 0 (min x 1125899906842624)
def apB (a b : Int) : Int := max (clB a - clB b) (clB b - clB a)
def lowN (a b : List Int) : Nat → Int
  | 0 => 0
  | k + 1 => max (lowN a b k) (apB (a.getD k 0) (b.getD k 0))
def lowL (a b : List Int) : Int := lowN a b (min a.length b.length)
theorem clB_bd (x : Int) : 0 ≤ clB x ∧ clB x ≤ 1125899906842624 := by unfold clB; omega
theorem apB_bd (a b : Int) : 0 ≤ apB a b ∧ apB a b ≤ 1125899906842624 := by have := clB_bd a; have := clB_bd b; unfold apB; omega
theorem lowN_bd (a b : List Int) (k : Nat) : 0 ≤ lowN a b k ∧ lowN a b k ≤ 1125899906842624 := by
  induction k with
  | zero => show (0 : Int) ≤ 0 ∧ (0 : Int) ≤ 1125899906842624; omega
  | succ k ih => have := apB_bd (a.getD k 0) (b.getD k 0); unfold lowN; omega
theorem lowN_succ (a b : List Int) (k : Nat) : lowN a b (k + 1) = max (lowN a b k) (apB (a.getD k 0) (b.getD k 0)) := rfl
end Go.WW
namespace Go.Proofs.YtbjmlahnojfekaaGreat
open Go Go.RowKit Go.WW
set_option maxHeartbeats 1000000 in
theorem in_any (w : World) (x : Int) : Calls Tryz.prog 91 #[.int .i64 x] w fun e w' => e = .returned (.int .i64 (clB x)) ∧ w' = w := by
  have hc : RowKit.Hid (clB x = max 0 (min x 1125899906842624)) := Lib.hid rfl
  go_enter Tryz.func91, Tryz.ntmps91
  go_wp2_with fail
  all_goals
    go_ret
    refine ⟨ret_i ?_, rfl⟩
    rw [hc.out]
    (repeat' split) <;> omega
set_option maxHeartbeats 1000000 in
theorem apart_any' (w : World) (x y : Int) : Calls Tryz.prog 118 #[.int .i64 x, .int .i64 y] w fun e w' => e = .returned (.int .i64 (apB x y)) ∧ w' = w := by
  have hc : RowKit.Hid (apB x y = max (clB x - clB y) (clB y - clB x)) := Lib.hid rfl
  have hx := clB_bd x
  have hy := clB_bd y
  go_enter Tryz.func118, Tryz.ntmps118
  go_wp2_with fail
  refine (in_any w x).mono ?_
  rintro er w1 ⟨rfl, rfl⟩
  go_wp2_with fail
  refine (in_any _ y).mono ?_
  rintro er w1 ⟨rfl, rfl⟩
  go_wp2_with fail
  all_goals
    go_ret
    refine ⟨ret_i ?_, rfl⟩
    rw [hc.out]
    (repeat' split) <;> omega
set_option maxHeartbeats 1000000 in
theorem cut_any (w : World) (x r : Int) : Calls Tryz.prog 59 #[.int .i64 x, .int .i64 r] w fun e w' => e = .returned (.bool (decide (r < clB x))) ∧ w' = w := by
  go_enter Tryz.func59, Tryz.ntmps59
  go_wp2_with fail
  refine (in_any w x).mono ?_
  rintro er w1 ⟨rfl, rfl⟩
  go_wp2_with fail
  go_ret
  exact ⟨rfl, rfl⟩
set_option maxRecDepth 100000 in
set_option maxHeartbeats 2000000 in
theorem low_any (b : Nat) (va vb : Value) (la lb : List Int) (w : World) (ha : RdRow intR 3 b w va la) (hb : RdRow intR 3 b w vb lb) :
    Calls Tryz.prog 82 #[va, vb] w fun e w' => e = .returned (.int .i64 (lowL la lb)) ∧ Below w.heap.size w w' := by
  have hla := ha.len
  have hlb := hb.len
  obtain ⟨A, c, rfl, _⟩ := ha.at
  obtain ⟨A2, c2, rfl, _⟩ := hb.at
  have HH := Lib.hid (And.intro ha hb); clear ha hb
  obtain ⟨m, hm⟩ : ∃ m : Nat, (if lb.length < la.length then (lb.length : Int) else (la.length : Int)) = (m : Int) ∧ m = min la.length lb.length := ⟨min la.length lb.length, by split <;> omega, rfl⟩
  obtain ⟨hm, hm2⟩ := hm
  have Hm := Lib.hid (And.intro hm hm2)
  have hm3 : m ≤ la.length ∧ m ≤ lb.length := by omega
  obtain ⟨hm4, hm5⟩ := hm3
  clear hm2
  go_enter Tryz.func82, Tryz.ntmps82
  go_wp2_with fail
  go_loopw [5, 6, 12] (fun v _ vk wr => ∃ k : Nat, k ≤ m ∧ vk = .int .i64 k ∧ v = .int .i64 (lowN la lb k) ∧ ∃ n, wr = w.drewN n) (fun _ _ vk _ => m - (intOf vk).toNat)
  case atStart => exact ⟨0, Nat.zero_le _, rfl, rfl, 0, rfl⟩
  case round =>
    obtain ⟨k, hk, rfl, rfl, n, rfl⟩ := hrel
    by_cases hlt : k < m
    · have z1 : (k : Int) < m := by omega
      have z2 : (k : Int) < la.length := by omega
      have z3 : (k : Int) < lb.length := by omega
      obtain ⟨ga, oa, rfl, _, hca⟩ := HH.out.1.intAt k (by omega)
      obtain ⟨gb, ob, rfl, _, hcb⟩ := HH.out.2.intAt k (by omega)
      have hsu := Lib.hid (lowN_succ la lb k)
      obtain ⟨s1, s2⟩ := lowN_bd la lb k
      generalize la.getD k 0 = x at *
      generalize lb.getD k 0 = y at *
      generalize lowN la lb k = s at *
      go_wp2_with fail
      refine wp_region_sched [([true, true, true, true, true, true, true, true, true, false, false, false], 9)] [false, false, false, false, false, false, false, false, false, false, true, true] (fun w' => ∃ n, w' = World.drewN w n) (by kernel_rfl) (by kernel_rfl) ⟨n + 1, rfl⟩ ?_
      simp only [wpSch, pickR, pickN]
      repeat (go_big_quiet_step (fail))
      refine wpQuiet_nil ?_
      go_wp2_with fail
      refine (apart_any' _ x y).mono ?_
      rintro er w1 ⟨rfl, rfl⟩
      generalize apB x y = z at *
      by_cases hcc : s < z
      · go_wp2_with fail
        apply only_mk
        refine And.intro ⟨n + 1, rfl⟩ ?_
        repeat (go_big_quiet_step (fail))
        refine wpQuiet_nil ?_
        go_wp2_with fail
        refine ⟨⟨k + 1, by omega, by go_num, ?_, n + 1, rfl⟩, by simp [intOf]; omega⟩
        rw [hsu.out]; congr 1; omega
      · go_wp2_with fail
        apply only_mk
        refine And.intro ⟨n + 1, rfl⟩ ?_
        repeat (go_big_quiet_step (fail))
        refine wpQuiet_nil ?_
        go_wp2_with fail
        refine ⟨⟨k + 1, by omega, by go_num, ?_, n + 1, rfl⟩, by simp [intOf]; omega⟩
        rw [hsu.out]; congr 1; omega
    · obtain rfl : k = m := by omega
      go_wp2_with fail
      go_ret
      refine ⟨ret_i ?_, bl_drewN w n⟩
      unfold lowL
      rw [← Hm.out.2]
end Go.Proofs.YtbjmlahnojfekaaGreat
