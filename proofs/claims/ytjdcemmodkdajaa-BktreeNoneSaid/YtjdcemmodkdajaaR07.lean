/-
  The document's own distances: ref07.
-/
import Derived.Test.YtjdcemmodkdajaaMet
namespace Go.Proofs.Ytjdcemmodkdajaa
open Go Go.RowKit Go.WW
set_option maxHeartbeats 4000000 in
theorem r07_any (a b : ByteArray) (w : World) (ha : a.size ≤ 1048576) (hb : b.size ≤ 1048576) : Calls Try.prog 54 #[.string a, .string b] w fun e w' => e = .returned (.int .i64 (hmD (LL a) (LL b))) ∧ Below w.heap.size w w' := by
  go_enter Try.func54, Try.ntmps54
  go_wp2
  go_loopw [5, 6] (fun v i wr => ∃ k : Nat, k ≤ max a.size b.size ∧ i = .int .i64 k ∧ v = .int .i64 (hmN (LL a) (LL b) k) ∧ Below w.heap.size w wr) (fun _ i _ => max a.size b.size - (intOf i).toNat)
  case atStart => exact ⟨0, Nat.zero_le _, rfl, rfl, Below.refl _ _⟩
  case round =>
    obtain ⟨k, hk, rfl, rfl, HB⟩ := hrel
    have hs := HB.size
    have hbd := hmN_bd (LL a) (LL b) k
    obtain ⟨hb1, hb2⟩ := hbd
    have hsu := hmN_succ (LL a) (LL b) k
    have Hsu := Lib.hid hsu; clear hsu
    by_cases hlt : k < max a.size b.size
    · by_cases h1 : k < a.size
      · by_cases h2 : k < b.size
        · have z1 : (k : Int) < a.size := by omega
          have z2 : (k : Int) < b.size := by omega
          have d1 : decide (k < a.size) = true := by simp; omega
          have d3 : decide (a.size ≤ k) = false := by simp; omega
          have d4 : decide (b.size ≤ k) = false := by simp; omega
          clear hlt hk h1 h2
          by_cases hc : (((a[k]'(by omega)).toNat : Int) != ((b[k]'(by omega)).toNat : Int)) = true
          · have e0 : (LL a)[k]? ≠ (LL b)[k]? := by
              rw [List.getElem?_eq_getElem (by rw [LL_len]; omega), List.getElem?_eq_getElem (by rw [LL_len]; omega)]
              intro e
              exact bne_t hc (Option.some.inj e)
            have e1 := Hsu.out
            rw [if_neg e0] at e1
            have E1 := Lib.hid e1; clear e1 e0 Hsu
            generalize hmN (LL a) (LL b) k = q at *
            go_wp2
            go_quiet (fail)
            go_wp2
            exact ⟨⟨k + 1, by omega, by go_num, by rw [E1.out], HB.trans ((bl_drewN wr nq).mono hs)⟩, by simp [intOf]; omega⟩
          · rw [Bool.not_eq_true] at hc
            have e0 : (LL a)[k]? = (LL b)[k]? := by
              rw [List.getElem?_eq_getElem (by rw [LL_len]; omega), List.getElem?_eq_getElem (by rw [LL_len]; omega)]
              exact congrArg some (bne_f hc)
            have e1 := Hsu.out
            rw [if_pos e0, Int.add_zero] at e1
            have E1 := Lib.hid e1; clear e1 e0 Hsu
            generalize hmN (LL a) (LL b) k = q at *
            go_wp2
            go_quiet (fail)
            go_wp2
            exact ⟨⟨k + 1, by omega, by go_num, by rw [E1.out], HB.trans ((bl_drewN wr nq).mono hs)⟩, by simp [intOf]; omega⟩
        · have z1 : (k : Int) < a.size := by omega
          have z2 : (b.size : Int) ≤ k := by omega
          have d1 : decide (k < a.size) = true := by simp; omega
          have d3 : decide (a.size ≤ k) = false := by simp; omega
          have d4 : decide (b.size ≤ k) = true := by simp; omega
          have e0 : (LL a)[k]? ≠ (LL b)[k]? := by
            rw [List.getElem?_eq_getElem (by rw [LL_len]; omega), List.getElem?_eq_none (l := LL b) (by rw [LL_len]; omega)]; simp
          have e1 := Hsu.out
          rw [if_neg e0] at e1
          have E1 := Lib.hid e1; clear e1 e0 Hsu
          generalize hmN (LL a) (LL b) k = q at *
          go_wp2
          go_quiet (fail)
          go_wp2
          exact ⟨⟨k + 1, by omega, by go_num, by rw [E1.out], HB.trans ((bl_drewN wr nq).mono hs)⟩, by simp [intOf]; omega⟩
      · have z1 : (a.size : Int) ≤ k := by omega
        have z2 : (k : Int) < b.size := by omega
        have d1 : decide (k < a.size) = false := by simp; omega
        have d2 : decide (k < b.size) = true := by simp; omega
        have d3 : decide (a.size ≤ k) = true := by simp; omega
        have e0 : (LL a)[k]? ≠ (LL b)[k]? := by
          rw [List.getElem?_eq_none (by rw [LL_len]; omega), List.getElem?_eq_getElem (by rw [LL_len]; omega)]; simp
        have e1 := Hsu.out
        rw [if_neg e0] at e1
        have E1 := Lib.hid e1; clear e1 e0 Hsu
        generalize hmN (LL a) (LL b) k = q at *
        go_wp2
        go_quiet (fail)
        go_wp2
        exact ⟨⟨k + 1, by omega, by go_num, by rw [E1.out], HB.trans ((bl_drewN wr nq).mono hs)⟩, by simp [intOf]; omega⟩
    · have z1 : (a.size : Int) ≤ k := by omega
      have z2 : (b.size : Int) ≤ k := by omega
      have hfin : hmD (LL a) (LL b) = hmN (LL a) (LL b) k := by unfold hmD; rw [LL_len, LL_len, show max a.size b.size = k from by omega]
      have Hfin := Lib.hid hfin; clear hfin
      clear hlt hk
      have d1 : decide (k < a.size) = false := by simp; omega
      have d2 : decide (k < b.size) = false := by simp; omega
      go_wp2
      all_goals
        go_ret
        exact ⟨ret_i (by rw [Hfin.out]), HB⟩
end Go.Proofs.Ytjdcemmodkdajaa
