/-
  lev.next, lev.Dist: a row more; how many edits there are (lvD).
-/
import Derived.Test.YtlcpfnhindfkfaaLev
namespace Go.Proofs.Ytlcpfnhindfkfaa
open Go Go.RowKit Go.WW
theorem bne_f {x y : UInt8} (h : ((x.toNat : Int) != (y.toNat : Int)) = false) : x = y := by
  have h2 : (x.toNat : Int) = y.toNat := by simpa using h
  exact UInt8.toNat_inj.1 (by omega)
theorem bne_t {x y : UInt8} (h : ((x.toNat : Int) != (y.toNat : Int)) = true) : x ≠ y := by
  rintro rfl
  simp at h
theorem min3 (a b c : Int) : min (min a b) c = min a (min b c) := by omega
set_option maxRecDepth 100000 in
set_option maxHeartbeats 1000000 in
theorem next_any (g : Nat) (ra : List UInt8) (c : UInt8) (b : ByteArray) (w : World) (hb : b.size ≤ 1048576) (hra : ra.length ≤ 1048576) (hR : IRow 3 w g (ints (rowD ra (LL b)))) :
    Calls Try.prog 58 #[.slice (some ⟨g, 0, none⟩) (b.size + 1) (b.size + 1), .int .u8 (c.toNat : Int), .string b] w fun e w' =>
      e = .returned (.slice (some ⟨g, 0, none⟩) (b.size + 1) (b.size + 1)) ∧ IRow 3 w' g (ints (rowD (c :: ra) (LL b))) ∧ ∃ w1, Below w.heap.size w w1 ∧ w1.grownBy w' (some g) := by
  have hmk := run_make_row' (P := Try.prog) 26 3 (.int .i64 0) 8 Try.underlying26 (by kernel_rfl) rfl .i64 .i64 (b.size + 1) (by omega) (by omega)
  simp only [Int.natCast_add, Int.cast_ofNat_Int] at hmk
  have hg := hR.lt
  have hlen : (rowD ra (LL b)).length = b.size + 1 := by rw [rowD_len, LL_len]
  have Hlen := Lib.hid hlen; clear hlen
  have HR := Lib.hid hR; clear hR
  go_enter Try.func58, Try.ntmps58
  go_wp2_with (with_reducible refine wpList_copy_splice rfl (.tmp 13) (.tmp 14) 26 26 rfl 3 Try.underlying26 (by kernel_rfl) (some ⟨w.heap.size, 0, none⟩) (some ⟨g, 0, none⟩) (b.size + 1) (b.size + 1) (b.size + 1) (b.size + 1) rfl rfl w.heap.size 0 (List.replicate (b.size + 1) (.int .i64 0)) 3 ?h1 (ints (rowD ra (LL b))) ?h2 ?h3 ?h4 (ints_one _) w.heap.size w ?h6 (Nat.le_refl _) ?_)
  case h1 => exact IRow.made w (.int .i64 0) (b.size + 1) 3
  case h2 => rw [ints_len, Hlen.out]; simp
  case h3 => exact fun _ j v hv => by rw [HR.out.cell j]; exact hv
  case h4 => rw [ints_len, Hlen.out]; simp
  case h6 => exact (Below.refl _ _).alloc (Nat.le_refl _) _
  intro w1 H1 hB1
  have hR1 : IRow 3 w1 g (ints (rowD ra (LL b))) := HR.out.kept (hB1.block g hg)
  have hW1 : IRow 3 w1 w.heap.size (ints (rowD ra (LL b))) := by
    have h := H1.out
    unfold IRow
    rw [h]
    simp [splice, ints_len, Hlen.out]
  have hc0 : w1.cell? ⟨g, 0, none⟩ = some (.int .i64 ((rowD ra (LL b)).getD 0 0)) := by rw [hR1.cell, ints_at, List.getD_eq_getElem?_getD, rowD_at _ _ 0 (Nat.zero_le _)]; rfl
  have hf0 := hR1.frozen 0
  have h00 : 0 ≤ (rowD ra (LL b)).getD 0 0 ∧ (rowD ra (LL b)).getD 0 0 ≤ 2097152 := by rw [List.getD_eq_getElem?_getD, rowD_at _ _ 0 (Nat.zero_le _)]; have := lr_le ra ((LL b).take 0).reverse; simp at this ⊢; omega
  obtain ⟨h01, h02⟩ := h00
  have HR1 := Lib.hid hR1; clear hR1
  have HW1 := Lib.hid hW1; clear hW1
  have hne : g ≠ w.heap.size := by omega
  clear H1
  generalize hd0 : (rowD ra (LL b)).getD 0 0 = d0 at *
  have Hd0 := Lib.hid hd0; clear hd0
  go_wp2
  go_loopw [23] (fun i wr => ∃ k : Nat, k ≤ b.size ∧ i = .int .i64 k ∧ Hid (IRow 3 wr g (ints (midD c ra (LL b) k))) ∧ Hid (IRow 3 wr w.heap.size (ints (rowD ra (LL b)))) ∧ w1.grownBy wr (some g)) (fun i _ => b.size - (intOf i).toNat)
  case atStart =>
    refine ⟨0, Nat.zero_le _, rfl, ?_, ?_, gb_setCell _ _ _⟩
    · have h := HR1.out.set 0 (.int .i64 (d0 + 1))
      rw [ints_set] at h
      show IRow _ _ _ _
      rw [midD_0, Hd0.out]
      exact h
    · exact HW1.out.kept (Below.heap_setCell w1 _ _ _ (Ne.symm hne))
  case round =>
    obtain ⟨k, hk, rfl, HR, HW, hG⟩ := hrel
    by_cases hlt : k < b.size
    · have hkl : k < (LL b).length := by rw [LL_len]; exact hlt
      have hlt' : (k : Int) < b.size := by omega
      have c1 : wr.cell? ⟨w.heap.size, k, none⟩ = some (.int .i64 (lr ra ((LL b).take k).reverse : Int)) := by rw [HW.out.cell, ints_at, rowD_at _ _ _ (by omega)]; rfl
      have c2 : wr.cell? ⟨w.heap.size, k + 1, none⟩ = some (.int .i64 (lr ra ((LL b).take (k + 1)).reverse : Int)) := by rw [HW.out.cell, ints_at, rowD_at _ _ _ (by omega)]; rfl
      have c3 : wr.cell? ⟨g, k, none⟩ = some (.int .i64 (lr (c :: ra) ((LL b).take k).reverse : Int)) := by rw [HR.out.cell, ints_at, midD_new _ _ _ _ (by omega)]; rfl
      have c4 : ∃ v, wr.cell? ⟨g, k + 1, none⟩ = some v := by rw [HR.out.cell, List.getElem?_eq_getElem (by rw [ints_len, midD_len]; omega)]; exact ⟨_, rfl⟩
      obtain ⟨v4, c4⟩ := c4
      have f4 := HR.out.frozen (k + 1)
      have b1 : lr ra ((LL b).take k).reverse ≤ 4194304 := by have := lr_le ra ((LL b).take k).reverse; simp only [List.length_reverse, List.length_take] at this; omega
      have b2 : lr ra ((LL b).take (k + 1)).reverse ≤ 4194304 := by have := lr_le ra ((LL b).take (k + 1)).reverse; simp only [List.length_reverse, List.length_take] at this; omega
      have b3 : lr (c :: ra) ((LL b).take k).reverse ≤ 4194304 := by have := lr_le (c :: ra) ((LL b).take k).reverse; simp only [List.length_reverse, List.length_take, List.length_cons] at this; omega
      have hst := row_step c ra (LL b) k hkl
      have Hst := Lib.hid hst; clear hst
      have hms := midD_succ c ra (LL b) k hkl
      have Hms := Lib.hid hms; clear hms
      generalize lr ra ((LL b).take k).reverse = x1 at *
      generalize lr ra ((LL b).take (k + 1)).reverse = x2 at *
      generalize lr (c :: ra) ((LL b).take k).reverse = x3 at *
      generalize lr (c :: ra) ((LL b).take (k + 1)).reverse = x4 at *
      go_wp2
      · have hb0 : (((b[k]).toNat : Int) != (c.toNat : Int)) = true := by assumption
        obtain ⟨m, hm, hm1, hmb⟩ : ∃ m : Nat, (if (x3 : Int) < (if x2 < x1 then (x2 : Int) else (x1 : Int)) then (x3 : Int) else if x2 < x1 then (x2 : Int) else (x1 : Int)) = (m : Int) ∧ m = min x1 (min x2 x3) ∧ m ≤ 4194304 := by
          refine ⟨min x1 (min x2 x3), ?_, rfl, by omega⟩
          split <;> split <;> omega
        have j1 : IntKind.i64.wrap (1 + (m : Int)) = 1 + m := IntWalk.i64_in _ (by omega)
        have j2 : IntKind.i64.wrap ((k : Int) + 1) = k + 1 := IntWalk.i64_in _ (by omega)
        have Hm1 := Lib.hid hm1; clear hm1
        go_quiet (fail)
        clear hm j1 j2
        go_wp2
        refine ⟨⟨k + 1, by omega, by go_num, ?_, ?_, hG.trans (World.grownBy.trans (gb_drewN wr nq (some g)) (gb_setCell _ _ _))⟩, by simp [intOf]; omega⟩
        · have h := (show IRow 3 (wr.drewN nq) g _ from HR.out).set (k + 1) (.int .i64 (1 + m))
          have e0 : (LL b)[k] ≠ c := bne_t hb0
          have e : x4 = 1 + m := by rw [Hst.out, if_pos e0, Hm1.out]
          rw [ints_set] at h
          show IRow _ _ _ _
          rw [Hms.out, e]
          exact h
        · exact HW.out.kept (Below.heap_setCell (wr.drewN nq) _ _ _ (Ne.symm hne))
      · have hb0 : (((b[k]).toNat : Int) != (c.toNat : Int)) = false := by assumption
        refine ⟨⟨k + 1, by omega, by go_num, ?_, ?_, hG.trans (gb_setCell _ _ _)⟩, by simp [intOf]; omega⟩
        · have h := HR.out.set (k + 1) (.int .i64 x1)
          have e0 : (LL b)[k] = c := bne_f hb0
          have e : x4 = x1 := by rw [Hst.out, if_neg (fun h => h e0)]
          rw [ints_set] at h
          show IRow _ _ _ _
          rw [Hms.out, e]
          exact h
        · exact HW.out.kept (Below.heap_setCell wr _ _ _ (Ne.symm hne))
    · go_wp2
      go_ret
      obtain rfl : k = b.size := by omega
      refine ⟨rfl, ?_, w1, hB1, hG⟩
      have h := HR.out
      rw [← LL_len, midD_all] at h
      exact h

set_option maxHeartbeats 1000000 in
theorem lev_any (a b : ByteArray) (w : World) (ha : a.size ≤ 1048576) (hb : b.size ≤ 1048576) : Calls Try.prog 48 #[.string a, .string b] w fun e w' => e = .returned (.int .i64 (lvD (LL a) (LL b))) ∧ Below w.heap.size w w' := by
  go_enter Try.func48, Try.ntmps48
  go_wp2_with (first
    | (go_at_call 56; refine (trim_any a b _ ha hb).mono ?_; rintro e w' ⟨⟨a2, b2, p, q, rfl, hp, hq, za, zb⟩, n, rfl⟩; have Hp := Lib.hid hp; clear hp; have Hq := Lib.hid hq; clear hq)
    | (go_at_call 57; refine (first_any b2.size _ (by omega)).mono ?_; rintro e w1 ⟨rfl, hR, hB⟩))
  have hR0 : IRow 3 w1 w.heap.size (ints (rowD [] (LL b2))) := by rw [rowD_nil, LL_len]; exact hR
  have HR0 := Lib.hid hR0; clear hR0 hR
  go_loopw [5, 18] (fun v i wr => ∃ k : Nat, k ≤ a2.size ∧ i = .int .i64 k ∧ v = .slice (some ⟨w.heap.size, 0, none⟩) (b2.size + 1) (b2.size + 1) ∧ Hid (IRow 3 wr w.heap.size (ints (rowD ((LL a2).take k).reverse (LL b2)))) ∧ Below w.heap.size w wr) (fun _ i _ => a2.size - (intOf i).toNat)
  case atStart => exact ⟨0, Nat.zero_le _, rfl, rfl, HR0, (bl_drewN w n).trans hB⟩
  case round =>
    obtain ⟨k, hk, rfl, rfl, HR, HB⟩ := hrel
    by_cases hlt : k < a2.size
    · have hlt' : (k : Int) < a2.size := by omega
      go_wp2_with (go_at_call 58; refine (next_any w.heap.size ((LL a2).take k).reverse _ b2 _ (by omega) (by simp; omega) HR.out).mono ?_; rintro e w2 ⟨rfl, hR2, w3, hB3, hG3⟩)
      refine ⟨⟨k + 1, by omega, by go_num, rfl, ?_, HB.trans ((hB3.mono HB.size).trans ((Below.refl w.heap.size w3).grown hG3 (Nat.le_trans HB.size hB3.size) (by rintro j hj; cases hj; exact Nat.le_refl _)))⟩, by simp [intOf]; omega⟩
      show IRow _ _ _ _
      rw [take_rev_succ (LL a2) k (by rw [LL_len]; exact hlt)]
      exact hR2
    · obtain rfl : k = a2.size := by omega
      have hc : wr.cell? ⟨w.heap.size, b2.size, none⟩ = some (.int .i64 (lvD (LL a) (LL b))) := by
        rw [HR.out.cell, ints_at, rowD_at _ _ _ (by rw [LL_len]; exact Nat.le_refl _), Hp.out, Hq.out, lvD_trim, ← LL_len, ← LL_len, List.take_length, List.take_length]; rfl
      have hlt' : (b2.size : Int) < b2.size + 1 := by omega
      go_wp2
      go_ret
      exact ⟨rfl, HB⟩

end Go.Proofs.Ytlcpfnhindfkfaa
