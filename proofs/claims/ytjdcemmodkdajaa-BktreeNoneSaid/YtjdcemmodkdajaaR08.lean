/-
  The document's own number of edits (ref08.Dist): lvD.
-/
import Derived.Test.YtjdcemmodkdajaaMet
namespace Go.Proofs.Ytjdcemmodkdajaa
open Go Go.RowKit Go.WW
abbrev rowsR : Rd (List Int) := Rd.slice intR 3
def rowsD (a b : List UInt8) (i : Nat) : List (List Int) := (List.range i).map fun k => rowD (a.take k).reverse b
theorem rowsD_succ (a b : List UInt8) (i : Nat) : rowsD a b (i + 1) = rowsD a b i ++ [rowD (a.take i).reverse b] := by simp [rowsD, List.range_succ]
theorem info_ints : (Try.prog.info? 39).map (fun i => (i.zero, i.size, i.bytes)) = some (some (.slice none 0 0), 1, 24) := by kernel_rfl
def cellV (ra rb : List UInt8) : Int := lr ra rb
set_option maxRecDepth 100000 in
set_option maxHeartbeats 2000000 in
theorem r08_any (a b : ByteArray) (w : World) (ha : a.size ≤ 1048576) (hb : b.size ≤ 1048576) : Calls Try.prog 55 #[.string a, .string b] w fun e w' => e = .returned (.int .i64 (lvD (LL a) (LL b))) ∧ Below w.heap.size w w' := by
  go_enter Try.func55, Try.ntmps55
  go_wp2
  go_loopw [5, 6] (fun t i wr => ∃ k : Nat, k ≤ a.size + 1 ∧ i = .int .i64 k ∧ OwnRow rowsR 39 w.heap.size w.heap.size wr t (rowsD (LL a) (LL b) k) ∧ Below w.heap.size w wr) (fun _ i _ => a.size + 1 - (intOf i).toNat)
  case atStart => exact ⟨0, Nat.zero_le _, rfl, OwnRow.nil .., Below.refl _ _⟩
  case round =>
    obtain ⟨i, hi, rfl, HT, HB⟩ := hrel
    by_cases hlt : i < a.size + 1
    · have hlt' : (i : Int) ≤ a.size := by omega
      obtain ⟨wo, rfl⟩ : ∃ wo : World, wo = wr := ⟨_, rfl⟩
      go_wp2
      go_loopw [7, 8] (fun r j wr2 => ∃ k : Nat, k ≤ b.size + 1 ∧ j = .int .i64 k ∧ OwnRow intR 3 0 wo.heap.size wr2 r ((rowD ((LL a).take i).reverse (LL b)).take k) ∧ Below wo.heap.size wo wr2) (fun _ j _ => b.size + 1 - (intOf j).toNat)
      case atStart => exact ⟨0, Nat.zero_le _, rfl, OwnRow.nil .., Below.refl _ _⟩
      case round =>
        obtain ⟨k, hk, rfl, HR, HB2⟩ := hrel
        by_cases hklt : k < b.size + 1
        · have hklt' : (k : Int) ≤ b.size := by omega
          have hsz2 := HB2.size
          have hlenb := LL_len b
          have hlena := LL_len a
          have hl0 : ((rowD ((LL a).take i).reverse (LL b)).take k).length = k := by rw [List.length_take, rowD_len]; omega
          have Hl0 := Lib.hid hl0; clear hl0
          have hsn : (rowD ((LL a).take i).reverse (LL b)).take (k + 1) = (rowD ((LL a).take i).reverse (LL b)).take k ++ [(lr ((LL a).take i).reverse ((LL b).take k).reverse : Int)] := by
            rw [List.take_add_one, rowD_at _ _ k (by omega)]; rfl
          have Hsn := Lib.hid hsn; clear hsn
          have hle := lr_le ((LL a).take i).reverse ((LL b).take k).reverse
          have hle2 : lr ((LL a).take i).reverse ((LL b).take k).reverse ≤ 4194304 := by simp only [List.length_reverse, List.length_take] at hle; omega
          clear hle
          obtain ⟨L, hL⟩ : ∃ L, L = (rowD ((LL a).take i).reverse (LL b)).take k := ⟨_, rfl⟩
          rw [← hL] at HR
          have hLl : L.length = k := by rw [hL]; exact Hl0.out
          have hLl' : (L.length + 1) * 8 ≤ 140737488355328 := by omega
          have HLl := Lib.hid hLl; clear hLl
          have HL := Lib.hid hL; clear hL
          have hfin : ∀ (n : Nat) (v1 : Value) (w1 : World), OwnRow intR 3 0 wo.heap.size w1 v1 (L ++ [(lr ((LL a).take i).reverse ((LL b).take k).reverse : Int)]) → (wr.drewN n).grownBy w1 u7.ownBlock → OwnRow intR 3 0 wo.heap.size w1 v1 ((rowD ((LL a).take i).reverse (LL b)).take (k + 1)) ∧ Below wo.heap.size wo w1 := by
            intro n v1 w1 h1 h2
            refine ⟨by rw [Hsn.out, ← HL.out]; exact h1, bl_push (HB2.trans ((bl_drewN wr n).mono hsz2)) h2 hsz2 (fun k hk => (HR.lt k hk).1)⟩
          have Hfin := Lib.hid hfin; clear hfin
          generalize hx : lr ((LL a).take i).reverse ((LL b).take k).reverse = x at *
          have Hx := Lib.hid hx; clear hx
          by_cases h0 : i = 0 ∨ k = 0
          · have hd : (x : Int) = (i : Int) + k := by
              rw [← Hx.out]
              rcases h0 with rfl | rfl
              · rw [List.take_zero, List.reverse_nil, lr_nil, List.length_reverse, List.length_take]; omega
              · rw [List.take_zero, List.reverse_nil, lr_nil_r, List.length_reverse, List.length_take]; omega
            have Hd := Lib.hid hd; clear hd
            have hwf : (Lit.int .i64 ((i : Int) + k)).wf = true := WalkArith.wf_i64 (by omega)
            by_cases hi1 : 0 < i
            · obtain rfl : k = 0 := by omega
              have e0 : (i : Int) = x := by rw [Hd.out]; omega
              have E0 := Lib.hid e0; clear e0
              go_wp2_with (at_builtin; refine wp_push (R := intR) rfl (.tmp 68) (.tmp 70) 39 (.int .i64 0) 8 rfl Try.underlying39 info_int rfl (by decide) (by decide) u7 L ((i : Int)) #[.int .i64 ((i : Int))] (0, 0) rfl rfl ⟨rfl, WalkArith.wf_i64 (by omega)⟩ HR hsz2 (fun h => by cases h) (Nat.zero_le _) hLl' ?_; intro v1 w1 hO1 hG1 _ _)
              rw [E0.out] at hO1
              obtain ⟨f1, f2⟩ := Hfin.out 0 v1 w1 hO1 hG1
              exact ⟨⟨1, by omega, rfl, f1, f2⟩, by simp [intOf]⟩
            · obtain rfl : i = 0 := by omega
              have e0 : (k : Int) = x := by rw [Hd.out]; omega
              have E0 := Lib.hid e0; clear e0
              go_wp2_with (at_builtin; refine wp_push (R := intR) rfl (.tmp 68) (.tmp 70) 39 (.int .i64 0) 8 rfl Try.underlying39 info_int rfl (by decide) (by decide) u7 L ((k : Int)) #[.int .i64 ((k : Int))] (0, 0) rfl rfl ⟨rfl, WalkArith.wf_i64 (by omega)⟩ HR hsz2 (fun h => by cases h) (Nat.zero_le _) hLl' ?_; intro v1 w1 hO1 hG1 _ _)
              rw [E0.out] at hO1
              obtain ⟨f1, f2⟩ := Hfin.out 0 v1 w1 hO1 hG1
              exact ⟨⟨k + 1, by omega, by simp, by simpa using f1, f2⟩, by simp [intOf]; omega⟩
          · obtain ⟨i', rfl⟩ : ∃ m, i = m + 1 := ⟨i - 1, by omega⟩
            obtain ⟨k', rfl⟩ : ∃ m, k = m + 1 := ⟨k - 1, by omega⟩
            clear h0
            have HT2 := HT.below HB2
            have hTl : (rowsD (LL a) (LL b) (i' + 1)).length = i' + 1 := by simp [rowsD]
            obtain ⟨g5, c5, hv5, hg5a, hg5, hc5, hc5b, _, hcell5⟩ := HT2.at (by intro e; rw [e] at hTl; simp at hTl)
            obtain ⟨cs5, ⟨v6, rfl, hrow6⟩, hj5⟩ := hcell5 i' (by rw [hTl]; omega)
            have hget : (rowsD (LL a) (LL b) (i' + 1))[i']'(by rw [hTl]; omega) = rowD ((LL a).take i').reverse (LL b) := by simp [rowsD]
            rw [hget] at hrow6
            have h6l : (rowD ((LL a).take i').reverse (LL b)).length = b.size + 1 := by rw [rowD_len, LL_len]
            obtain ⟨g6, o6, c6, rfl, hc6, hc6b, hg6, hcell6⟩ := hrow6.ints (by intro e; rw [e] at h6l; simp at h6l)
            have q5 : wr.cell? ⟨g5, i', none⟩ = some (.slice (some ⟨g6, o6, none⟩) (b.size + 1) c6) := by have := hj5 0 _ rfl; rw [h6l] at this; simpa [Rd.slice] using this
            have e6a := (hcell6 k' (by omega)).1
            have e6b := (hcell6 (k' + 1) (by omega)).1
            rw [show (rowD ((LL a).take i').reverse (LL b))[k']'(by omega) = (lr ((LL a).take i').reverse ((LL b).take k').reverse : Int) from Option.some.inj (by rw [← List.getElem?_eq_getElem, rowD_at _ _ _ (by omega)])] at e6a
            rw [show (rowD ((LL a).take i').reverse (LL b))[k' + 1]'(by omega) = (lr ((LL a).take i').reverse ((LL b).take (k' + 1)).reverse : Int) from Option.some.inj (by rw [← List.getElem?_eq_getElem, rowD_at _ _ _ (by omega)])] at e6b
            have hll : L.length = k' + 1 := HLl.out
            obtain ⟨g7, c7, hv7, hg7a, hg7, hc7, hc7b, _, hcell7⟩ := HR.at (by intro e; rw [e] at hll; simp at hll)
            obtain ⟨cs7, ⟨rfl, _⟩, hj7⟩ := hcell7 k' (by omega)
            have q7 : wr.cell? ⟨g7, k', none⟩ = some (.int .i64 (lr ((LL a).take (i' + 1)).reverse ((LL b).take k').reverse : Int)) := by
              have := hj7 0 _ rfl
              have e : L[k']'(by omega) = (lr ((LL a).take (i' + 1)).reverse ((LL b).take k').reverse : Int) := by
                refine Option.some.inj ?_
                rw [← List.getElem?_eq_getElem, HL.out, List.getElem?_take_of_lt (by omega), rowD_at _ _ _ (by omega)]
              rw [e] at this
              simpa [Rd.int] using this
            rw [hTl] at hv5
            rw [hll] at hv7
            have b1 := lr_le ((LL a).take i').reverse ((LL b).take k').reverse
            have b2 := lr_le ((LL a).take i').reverse ((LL b).take (k' + 1)).reverse
            have b3 := lr_le ((LL a).take (i' + 1)).reverse ((LL b).take k').reverse
            simp only [List.length_reverse, List.length_take] at b1 b2 b3
            have hxx : x = min (lr ((LL a).take i').reverse ((LL b).take k').reverse + if (LL a)[i']'(by omega) = (LL b)[k']'(by omega) then 0 else 1) (min (lr ((LL a).take i').reverse ((LL b).take (k' + 1)).reverse + 1) (lr ((LL a).take (i' + 1)).reverse ((LL b).take k').reverse + 1)) := by
              rw [← Hx.out, take_rev_succ (LL a) i' (by omega), take_rev_succ (LL b) k' (by omega), lr_cons]
            have Hxx := Lib.hid hxx; clear hxx
            generalize lr ((LL a).take i').reverse ((LL b).take k').reverse = x1 at *
            generalize lr ((LL a).take i').reverse ((LL b).take (k' + 1)).reverse = x2 at *
            generalize lr ((LL a).take (i' + 1)).reverse ((LL b).take k').reverse = x3 at *
            clear hj5 hcell5 hcell6 hrow6 hget hj7 hcell7
            subst hv5 hv7
            have z1 : (i' : Int) < a.size := by omega
            have z2 : (k' : Int) < b.size := by omega
            by_cases hbd : (((a[i']'(by omega)).toNat : Int) != ((b[k']'(by omega)).toNat : Int)) = true
            · skip
              have hxv : (if (x3 : Int) + 1 < (if x2 < x1 then (x2 : Int) + 1 else (x1 : Int) + 1) then (x3 : Int) + 1 else (if x2 < x1 then (x2 : Int) + 1 else (x1 : Int) + 1)) = (x : Int) := by
                have e := Hxx.out
                have e0 : (LL a)[i']'(by omega) ≠ (LL b)[k']'(by omega) := bne_t hbd
                rw [if_neg e0] at e
                split <;> split <;> omega
              have Hxv := Lib.hid hxv; clear hxv
              go_wp2
              go_quiet (fail)
              obtain ⟨nq1, rfl⟩ : ∃ n1, n1 = nq := ⟨_, rfl⟩
              go_wp2
              go_quiet (fail)
              go_upto_region 15 with (fail)
              simp only [Hxv.out]
              go_wp2_with (at_builtin; refine wp_push (R := intR) rfl (.tmp 68) (.tmp 70) 39 (.int .i64 0) 8 rfl Try.underlying39 info_int rfl (by decide) (by decide) (.slice (some ⟨g7, 0, none⟩) (k' + 1) c7) L (x : Int) #[.int .i64 (x : Int)] (0, 0) rfl rfl ⟨rfl, WalkArith.wf_i64 (by omega)⟩ (HR.below (bl_drewN wr (nq1 + nq))) hsz2 (fun h => by cases h) (Nat.zero_le _) hLl' ?_; intro v1 w1 hO1 hG1 _ _)
              obtain ⟨f1, f2⟩ := Hfin.out _ v1 w1 hO1 hG1
              refine ⟨?_, by simp [intOf]; omega⟩
              (repeat apply Exists.intro)
              exact ⟨⟨k' + 1 + 1, by omega, by go_num, f1, f2⟩, rfl⟩
            · rw [Bool.not_eq_true] at hbd
              have hxv : (if (x3 : Int) + 1 < (if (x2 : Int) + 1 < (x1 : Int) then (x2 : Int) + 1 else (x1 : Int)) then (x3 : Int) + 1 else (if (x2 : Int) + 1 < (x1 : Int) then (x2 : Int) + 1 else (x1 : Int))) = (x : Int) := by
                have e := Hxx.out
                have e0 : (LL a)[i']'(by omega) = (LL b)[k']'(by omega) := bne_f hbd
                rw [if_pos e0] at e
                split <;> split <;> omega
              have Hxv := Lib.hid hxv; clear hxv
              go_wp2
              go_quiet (fail)
              obtain ⟨nq1, rfl⟩ : ∃ n1, n1 = nq := ⟨_, rfl⟩
              go_wp2
              go_quiet (fail)
              go_upto_region 15 with (fail)
              simp only [Hxv.out]
              go_wp2_with (at_builtin; refine wp_push (R := intR) rfl (.tmp 68) (.tmp 70) 39 (.int .i64 0) 8 rfl Try.underlying39 info_int rfl (by decide) (by decide) (.slice (some ⟨g7, 0, none⟩) (k' + 1) c7) L (x : Int) #[.int .i64 (x : Int)] (0, 0) rfl rfl ⟨rfl, WalkArith.wf_i64 (by omega)⟩ (HR.below (bl_drewN wr (nq1 + nq))) hsz2 (fun h => by cases h) (Nat.zero_le _) hLl' ?_; intro v1 w1 hO1 hG1 _ _)
              obtain ⟨f1, f2⟩ := Hfin.out _ v1 w1 hO1 hG1
              refine ⟨?_, by simp [intOf]; omega⟩
              (repeat apply Exists.intro)
              exact ⟨⟨k' + 1 + 1, by omega, by go_num, f1, f2⟩, rfl⟩
        · obtain rfl : k = b.size + 1 := by omega
          have hr : (rowD ((LL a).take i).reverse (LL b)).take (b.size + 1) = rowD ((LL a).take i).reverse (LL b) := by rw [List.take_of_length_le]; rw [rowD_len, LL_len]; omega
          rw [hr] at HR
          have HRr := HR.read
          have HT2 := HT.below HB2
          have hle : ((rowsD (LL a) (LL b) i).length + 1) * 24 ≤ 140737488355328 := by simp [rowsD]; omega
          clear hr
          have hd : decide ((b.size : Int) + 1 ≤ b.size) = false := by simp; omega
          obtain ⟨g7, c7, hv7, hg7, _, hc7, _⟩ := HR.at (by intro e; have := congrArg List.length e; rw [rowD_len] at this; simp at this)
          subst hv7
          clear HR
          have hs0 := HB2.size
          have hs1 := HB.size
          go_wp2_with (at_builtin; refine wp_push (R := rowsR) rfl (.tmp 72) (.tmp 74) 134 (.slice none 0 0) 24 rfl Try.underlying134 info_ints rfl (by decide) (by decide) u5 (rowsD (LL a) (LL b) i) (rowD ((LL a).take i).reverse (LL b)) #[.slice (some ⟨g7, 0, none⟩) (rowD ((LL a).take i).reverse (LL b)).length c7] (0, 0) rfl rfl ⟨_, rfl, HRr.lift' (Nat.zero_le _)⟩ HT2 (by omega) (by decide) (Nat.le_refl _) hle ?_; intro v1 w1 hO1 hG1 _ _)
          rw [← rowsD_succ] at hO1
          exact ⟨⟨i + 1, by omega, by go_num, hO1, bl_push (HB.trans (HB2.mono hs1)) hG1 (by omega) (fun k hk => (HT2.lt k hk).1)⟩, by simp [intOf]; omega⟩
    · obtain rfl : i = a.size + 1 := by omega
      have hlenb := LL_len b
      have hlena := LL_len a
      have hTl : (rowsD (LL a) (LL b) (a.size + 1)).length = a.size + 1 := by simp [rowsD]
      obtain ⟨g5, c5, hv5, hg5a, hg5, hc5, hc5b, _, hcell5⟩ := HT.at (by intro e; rw [e] at hTl; simp at hTl)
      obtain ⟨cs5, ⟨v6, rfl, hrow6⟩, hj5⟩ := hcell5 a.size (by rw [hTl]; omega)
      have hget : (rowsD (LL a) (LL b) (a.size + 1))[a.size]'(by rw [hTl]; omega) = rowD ((LL a).take a.size).reverse (LL b) := by simp [rowsD]
      rw [hget] at hrow6
      have h6l : (rowD ((LL a).take a.size).reverse (LL b)).length = b.size + 1 := by rw [rowD_len, LL_len]
      obtain ⟨g6, o6, c6, rfl, hc6, hc6b, hg6, hcell6⟩ := hrow6.ints (by intro e; rw [e] at h6l; simp at h6l)
      have q5 : wr.cell? ⟨g5, a.size, none⟩ = some (.slice (some ⟨g6, o6, none⟩) (b.size + 1) c6) := by have := hj5 0 _ rfl; rw [h6l] at this; simpa [Rd.slice] using this
      have e6 := (hcell6 b.size (by omega)).1
      have hval : (rowD ((LL a).take a.size).reverse (LL b))[b.size]'(by omega) = (lvD (LL a) (LL b) : Int) := by
        refine Option.some.inj ?_
        rw [← List.getElem?_eq_getElem, rowD_at _ _ _ (by omega), ← LL_len, ← LL_len, List.take_length, List.take_length]
        rfl
      rw [hval] at e6
      rw [hTl] at hv5
      clear hj5 hcell5 hcell6 hrow6 hget hval
      subst hv5
      have hd : decide ((a.size : Int) + 1 ≤ a.size) = false := by simp; omega
      have z1 : (a.size : Int) < a.size + 1 := by omega
      have z2 : (b.size : Int) < b.size + 1 := by omega
      go_wp2
      go_ret
      exact ⟨rfl, HB⟩
end Go.Proofs.Ytjdcemmodkdajaa
