/-
  ref23: Depth.
-/
import Derived.Test.YtjdcemmodkdajaaLess
namespace Go.Proofs.Ytjdcemmodkdajaa
open Go Go.RowKit Go.WW
set_option maxRecDepth 100000 in
set_option maxHeartbeats 2000000 in
theorem rdepth_any (b : Nat) (v : Value) (l : List Nd) (w : World) (hv : RdRow bkR 77 b w v l) (up : Up l) (hn : l.length ≤ 1048576) :
    Calls Try.prog 20 #[v] w fun r w' => r = .returned (.int .i64 (depN l)) ∧ w' = w := by
  obtain ⟨A, c, rfl, hlc, hcm, _⟩ := hv.at
  have Hv := Lib.hid (And.intro hv up); clear hv up
  go_enter Try.func20, Try.ntmps20
  go_wp2
  go_loop [3, 4, 5, 6] (fun vm vi _ _ => ∃ i : Nat, i ≤ l.length ∧ vi = .int .i64 i ∧ vm = .int .i64 (depN (l.take i))) (fun _ vi _ _ => l.length - (intOf vi).toNat)
  case atStart => exact ⟨0, Nat.zero_le _, rfl, rfl⟩
  case round =>
    obtain ⟨i, hi, rfl, rfl⟩ := hrel
    by_cases hlt : i < l.length
    · have hlt' : (i : Int) < l.length := by omega
      have hst := Lib.hid (depN_step hlt)
      have hbd := dAt_bd hlt
      have hD := Lib.hid (rfl : dAt l i = dAt l i)
      generalize hM : depN (l.take i) = M at *
      go_wp2
      go_loop [5, 6] (fun vn vk => ∃ (k n : Nat), k < l.length ∧ vk = .int .i64 k ∧ vn = .int .i64 n ∧ (n : Int) - 1 + dAt l k = dAt l i) (fun _ vk => (intOf vk).toNat)
      case atStart => exact ⟨i, 1, hlt, rfl, rfl, by omega⟩
      case round =>
        obtain ⟨k, n, hk, rfl, rfl, hrel⟩ := hrel
        obtain ⟨g, o, vx, hA, hg, _, _, _, d0, d1, d2, d3, d4, d5, d6⟩ := bk_at Hv.out.1 k hk
        subst hA
        have hk' : (k : Int) < l.length := by omega
        have hbk := dAt_bd hk
        have hde := dAt_eq hk Hv.out.2
        have hup := Hv.out.2 k _ (List.getElem?_eq_getElem hk)
        by_cases hp : 0 ≤ l[k].par
        · obtain ⟨q, hq⟩ : ∃ q : Nat, l[k].par = q := ⟨l[k].par.toNat, by omega⟩
          rw [if_pos hp, hq, Int.toNat_natCast] at hde
          rw [hq] at hup d5
          have hq0 : (0 : Int) ≤ q := Int.natCast_nonneg _
          have HR := Lib.hid (And.intro hrel (And.intro hde (And.intro hbk hbd))); clear hrel hde hbk
          have hn2 : (n : Int) ≤ 1048577 := by have := HR.out; omega
          go_wp2
          go_round
          case rel => exact ⟨q, n + 1, by omega, rfl, by go_num, by have := HR.out; omega⟩
          case measure => simp [intOf]; omega
        · rw [if_neg hp] at hde
          have hp2 : decide (0 ≤ l[k].par) = false := by simpa using hp
          have hn1 : (n : Int) = dAt l i := by omega
          have HN := Lib.hid hn1; clear hn1 hrel hde
          go_wp2
          go_round
          case rel => exact ⟨i + 1, by omega, by go_num, by rw [hst.out, ← HN.out]; congr 1; split <;> omega⟩
          case measure => simp [intOf]; omega
    · go_wp2
      go_ret
      obtain rfl : i = l.length := by omega
      rw [List.take_length]
      exact ⟨rfl, rfl⟩
end Go.Proofs.Ytjdcemmodkdajaa
