/-
  cmp.Compare of numbers, cmp.Or.
-/
import Derived.Test.YtlcpfnhindfkfaaFr
namespace Go.WW
def cmpI (a b : Int) : Int := if a < b then -1 else if b < a then 1 else 0
end Go.WW
namespace Go.Proofs.Ytlcpfnhindfkfaa
open Go Go.RowKit Go.WW
set_option maxHeartbeats 1000000 in
theorem nani_any (w : World) (x : Int) : Calls Try.prog 60 #[.int .i64 x] w fun e w' => e = .returned (.bool false) ∧ w' = w := by
  go_enter Try.func60, Try.ntmps60
  go_wp2_with fail
  go_ret
  exact ⟨by simp, rfl⟩
set_option maxHeartbeats 1000000 in
theorem cmpi_any (w : World) (x y : Int) : Calls Try.prog 52 #[.int .i64 x, .int .i64 y] w fun e w' => e = .returned (.int .i64 (cmpI x y)) ∧ w' = w := by
  have hc : RowKit.Hid (cmpI x y = if x < y then -1 else if y < x then 1 else 0) := Lib.hid rfl
  go_enter Try.func52, Try.ntmps52
  go_wp2_with fail
  refine (nani_any w x).mono ?_
  rintro er w1 ⟨rfl, rfl⟩
  go_wp2_with fail
  refine (nani_any _ y).mono ?_
  rintro er w1 ⟨rfl, rfl⟩
  by_cases h1 : x < y
  · go_wp2_with fail
    go_ret
    refine ⟨ret_i ?_, rfl⟩
    rw [hc.out, if_pos h1]
  · by_cases h2 : y < x
    · go_wp2_with fail
      go_ret
      refine ⟨ret_i ?_, rfl⟩
      rw [hc.out, if_neg (by omega), if_pos h2]
    · go_wp2_with fail
      go_ret
      refine ⟨ret_i ?_, rfl⟩
      rw [hc.out, if_neg (by omega), if_neg (by omega)]
set_option maxHeartbeats 1000000 in
theorem or_any (w : World) (g : Nat) (x y : Int) (h : IRow 3 w g [.int .i64 x, .int .i64 y]) : Calls Try.prog 51 #[.slice (some ⟨g, 0, none⟩) 2 2] w fun e w' => e = .returned (.int .i64 (if x = 0 then y else x)) ∧ w' = w := by
  have c0 := h.cell 0
  have c1 := h.cell 1
  have hl := h.lt
  simp only [List.getElem?_cons_zero, List.getElem?_cons_succ] at c0 c1
  obtain ⟨V, hV⟩ : ∃ V, V = (if x = 0 then y else x) := ⟨_, rfl⟩
  rw [← hV]
  have HV := Lib.hid hV; clear hV
  go_enter Try.func51, Try.ntmps51
  go_wp2_with fail
  go_loopw [5, 8] (fun _ i w' => (i = .int .i64 0 ∨ (i = .int .i64 1 ∧ x = 0) ∨ (i = .int .i64 2 ∧ x = 0 ∧ y = 0)) ∧ w' = w) (fun _ i _ => (3 - intOf i).toNat)
  case atStart => exact ⟨.inl rfl, rfl⟩
  case round =>
    obtain ⟨hi, rfl⟩ := hrel
    rcases hi with rfl | ⟨rfl, hx⟩ | ⟨rfl, hx, hy⟩
    · by_cases hx : x = 0
      · have hd : decide (x = 0) = true := by simpa using hx
        go_wp2_with fail
        exact ⟨⟨.inr (.inl ⟨rfl, hx⟩), by first | rfl | trivial⟩, by simp [intOf]⟩
      · have hd : decide (x = 0) = false := by simpa using hx
        go_wp2_with fail
        go_ret
        exact ⟨ret_i (by rw [HV.out, if_neg hx]), rfl⟩
    · by_cases hy : y = 0
      · have hd : decide (y = 0) = true := by simpa using hy
        go_wp2_with fail
        exact ⟨⟨.inr (.inr ⟨rfl, hx, hy⟩), by first | rfl | trivial⟩, by simp [intOf]⟩
      · have hd : decide (y = 0) = false := by simpa using hy
        go_wp2_with fail
        go_ret
        exact ⟨ret_i (by rw [HV.out, if_pos hx]), rfl⟩
    · go_wp2_with fail
      go_ret
      exact ⟨ret_i (by rw [HV.out, if_pos hx, hy]), rfl⟩
end Go.Proofs.Ytlcpfnhindfkfaa
