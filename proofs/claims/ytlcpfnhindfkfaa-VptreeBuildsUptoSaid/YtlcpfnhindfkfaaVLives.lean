/-
  vptree: the law's own example: lives.
-/
import Derived.Test.YtlcpfnhindfkfaaVimg
namespace Go.Proofs.Ytlcpfnhindfkfaa
open Go Go.RowKit Go.WW
theorem itR_lift0 (b : Nat) {w : World} {cs : List Value} {x : It} (h : itR.rd 0 w cs x) : itR.rd b w cs x := by
  obtain ⟨v, rfl, h1, h2⟩ := itR_iff.1 h
  exact itR_iff.2 ⟨v, rfl, h1, obR_lift0 b h2⟩
def li (id v : Int) : It := ⟨id, ⟨1, [v], ⟨#[]⟩⟩⟩
set_option maxHeartbeats 1000000 in
theorem mnew_any (w : World) (m : Int) : Calls Try.prog 7 #[.int .i64 m] w fun r w' => r = .returned (.pointer (some ⟨w.heap.size, 0, none⟩)) ∧ w' = w.alloc (.cells #[.int .i64 m, .int .i64 0] 64) := by
  go_enter Try.func7, Try.ntmps7
  go_wp2
  go_ret
  exact ⟨rfl, rfl⟩
set_option maxHeartbeats 1000000 in
theorem liv1_any (w : World) (id v : Int) (hid : (Lit.int .u64 id).wf = true) (hv : (Lit.int .i32 v).wf = true) : Calls Try.prog 16 #[.int .u64 id, .int .i32 v] w fun r w' => ∃ g, r = .returned (.agg #[.int .u64 id, .int .i64 1, .slice (some ⟨g, 0, none⟩) 1 1, .string ⟨#[]⟩]) ∧ itR.rd 0 w' [.int .u64 id, .int .i64 1, .slice (some ⟨g, 0, none⟩) 1 1, .string ⟨#[]⟩] (li id v) ∧ Below w.heap.size w w' := by
  go_enter Try.func16, Try.ntmps16
  go_wp2_with fail
  have hi := (IRow.new w [.int .u64 id, .int .i64 1, .slice (some ⟨w.heap.size + 1, 0, none⟩) 1 1, .string ⟨#[]⟩] 34).alloc (.cells #[.int .i32 v] 21)
  refine bodyPost_ret (results_cell_row rfl _ _ w.heap.size 34 _ (0, 0) _ rfl hi Try.underlying34 rfl (by kernel_rfl)) rfl ?_
  have hb := ((Below.refl w.heap.size w).alloc (Nat.le_refl _) (.cells #[.int .u64 id, .int .i64 1, .slice (some ⟨w.heap.size + 1, 0, none⟩) 1 1, .string ⟨#[]⟩] 34)).alloc (by simp) (.cells #[.int .i32 v] 21)
  refine ⟨_, rfl, itR_iff.2 ⟨_, rfl, hid, obR_iff.2 ⟨_, rfl, (by show (Lit.int .i64 1).wf = true; decide), ?_, (by show (⟨#[]⟩ : ByteArray).size ≤ maxLen; decide)⟩⟩, hb⟩
  have := (OwnRow.one (R := i32R) (e := 21) (b := 0) (n0 := 0) (w := w.alloc (.cells #[.int .u64 id, .int .i64 1, .slice (some ⟨w.heap.size + 1, 0, none⟩) 1 1, .string ⟨#[]⟩] 34)) (cs := [.int .i32 v]) (x := v) ⟨rfl, hv⟩ (Nat.zero_le _)).read
  rw [World.size_alloc] at this
  exact this
def lv5 : List It := [li 1 0, li 2 3, li 3 9, li 4 1, li 5 5]
def lvT : List Vn := [vanV (li 2 3) (-1) 1 2 (2, 2) (3, 6), leafV 0 [li 4 1, li 5 5], leafV 0 [li 1 0, li 3 9]]
theorem lv_build : (buildN 1 4 [1] 5 [vn0] 0 0 (-1) lv5).1 = lvT := by kernel_rfl
theorem lv_ord : ordK lvT 3 = [0, 1, 2] := by kernel_rfl
theorem lv_img : imgL lvT [0, 1, 2] 3 = lvT := by kernel_rfl
theorem lv_dep : (depM lvT [0, 1, 2] 3).2 = 2 := by kernel_rfl
theorem lv_lt : ∀ k, k < 3 → k < (ordK lvT k).length := fun k hk => by
  have : k = 0 ∨ k = 1 ∨ k = 2 := by omega
  rcases this with rfl | rfl | rfl <;> decide
theorem lv_ix : ∀ k, k < 3 → ∃ j : Nat, (ordK lvT k).getD k 0 = j ∧ j < lvT.length := fun k hk => by
  have : k = 0 ∨ k = 1 ∨ k = 2 := by omega
  rcases this with rfl | rfl | rfl
  · exact ⟨0, by decide, by decide⟩
  · exact ⟨1, by decide, by decide⟩
  · exact ⟨2, by decide, by decide⟩
theorem lv_ix2 : ∀ k, k < 3 → ∃ j : Nat, (ordK lvT 3).getD k 0 = j ∧ j < lvT.length := fun k hk => by
  rw [lv_ord]
  have : k = 0 ∨ k = 1 ∨ k = 2 := by omega
  rcases this with rfl | rfl | rfl
  · exact ⟨0, by decide, by decide⟩
  · exact ⟨1, by decide, by decide⟩
  · exact ⟨2, by decide, by decide⟩
theorem fld_imgV (v : Value) (w : World) : (Instr.field 52 (.agg #[nilS, v, nilS, .int .i64 0, nilS, nilS]) 1).run Try.prog w = .ok v w := by kernel_rfl
set_option maxRecDepth 100000 in
set_option maxHeartbeats 4000000 in
theorem vlives_any (w : World) : Calls Try.prog 6 #[] w fun e w' => e = .returned (.bool true) ∧ Below w.heap.size w w' := by
  go_enter Try.func6, Try.ntmps6
  go_wp2_with fail
  refine (mnew_any w 1).mono ?_
  rintro er w1 ⟨rfl, rfl⟩
  have hM := IRow.new w [.int .i64 1, .int .i64 0] 64
  have hB1 : Below w.heap.size w (w.alloc (.cells #[.int .i64 1, .int .i64 0] 64)) := (Below.refl _ w).alloc (Nat.le_refl _) _
  generalize w.alloc (.cells #[.int .i64 1, .int .i64 0] 64) = w1 at *
  have H1 := Lib.hid (And.intro hM hB1); clear hM hB1
  go_wp2_with fail
  refine (vnew_any w1 _ 1 0 4 H1.out.1).mono ?_
  rintro er w2 ⟨t, rfl, hB2, hT2⟩
  have hB2' := H1.out.2.trans (hB2.mono H1.out.2.size)
  have H2 := Lib.hid (And.intro hB2' hT2); clear hB2 hB2' hT2
  go_wp2_with fail
  refine (liv1_any w2 1 0 (by decide) (by decide)).mono ?_
  rintro er w3 ⟨g1, rfl, hr1, hB3⟩
  have H3 := Lib.hid (And.intro hr1 hB3); clear hr1 hB3
  go_wp2_with fail
  refine (liv1_any w3 2 3 (by decide) (by decide)).mono ?_
  rintro er w4 ⟨g2, rfl, hr2, hB4⟩
  have H4 := Lib.hid (And.intro hr2 hB4); clear hr2 hB4
  go_wp2_with fail
  refine (liv1_any w4 3 9 (by decide) (by decide)).mono ?_
  rintro er w5 ⟨g3, rfl, hr3, hB5⟩
  have H5 := Lib.hid (And.intro hr3 hB5); clear hr3 hB5
  go_wp2_with fail
  refine (liv1_any w5 4 1 (by decide) (by decide)).mono ?_
  rintro er w6 ⟨g4, rfl, hr4, hB6⟩
  have H6 := Lib.hid (And.intro hr4 hB6); clear hr4 hB6
  go_wp2_with fail
  refine (liv1_any w6 5 5 (by decide) (by decide)).mono ?_
  rintro er w7 ⟨g5, rfl, hr5, hB7⟩
  have H7 := Lib.hid (And.intro hr5 hB7); clear hr5 hB7
  go_wp2_with fail
  have hB57 : Below w5.heap.size w5 w7 := H6.out.2.trans (H7.out.2.mono H6.out.2.size)
  have hB47 : Below w4.heap.size w4 w7 := H5.out.2.trans (hB57.mono H5.out.2.size)
  have hB37 : Below w3.heap.size w3 w7 := H4.out.2.trans (hB47.mono H4.out.2.size)
  have hB27 : Below w2.heap.size w2 w7 := H3.out.2.trans (hB37.mono H3.out.2.size)
  have hBw7 : Below w.heap.size w w7 := H2.out.1.trans (hB27.mono H2.out.1.size)
  have hO := OwnRow.many (R := itR) (e := 34) (b := w.heap.size) (n0 := w7.heap.size) (w := w7) (css := [[.int .u64 1, .int .i64 1, .slice (some ⟨g1, 0, none⟩) 1 1, .string ⟨#[]⟩], [.int .u64 2, .int .i64 1, .slice (some ⟨g2, 0, none⟩) 1 1, .string ⟨#[]⟩], [.int .u64 3, .int .i64 1, .slice (some ⟨g3, 0, none⟩) 1 1, .string ⟨#[]⟩], [.int .u64 4, .int .i64 1, .slice (some ⟨g4, 0, none⟩) 1 1, .string ⟨#[]⟩], [.int .u64 5, .int .i64 1, .slice (some ⟨g5, 0, none⟩) 1 1, .string ⟨#[]⟩]]) (xs := lv5) rfl (fun i x c hx hc => by
    match i with
    | 0 => simp [lv5] at hx hc; subst hx hc; exact itR_lift0 _ (itR_below H3.out.1 hB37)
    | 1 => simp [lv5] at hx hc; subst hx hc; exact itR_lift0 _ (itR_below H4.out.1 hB47)
    | 2 => simp [lv5] at hx hc; subst hx hc; exact itR_lift0 _ (itR_below H5.out.1 hB57)
    | 3 => simp [lv5] at hx hc; subst hx hc; exact itR_lift0 _ (itR_below H6.out.1 H7.out.2)
    | 4 => simp [lv5] at hx hc; subst hx hc; exact itR_lift0 _ H7.out.1
    | n + 5 => simp [lv5] at hx) (Nat.le_refl _) (by decide)
  obtain ⟨w8, hw8⟩ : ∃ w8, w8 = w7.alloc (.cells #[.int .u64 1, .int .i64 1, .slice (some ⟨g1, 0, none⟩) 1 1, .string ⟨#[]⟩, .int .u64 2, .int .i64 1, .slice (some ⟨g2, 0, none⟩) 1 1, .string ⟨#[]⟩, .int .u64 3, .int .i64 1, .slice (some ⟨g3, 0, none⟩) 1 1, .string ⟨#[]⟩, .int .u64 4, .int .i64 1, .slice (some ⟨g4, 0, none⟩) 1 1, .string ⟨#[]⟩, .int .u64 5, .int .i64 1, .slice (some ⟨g5, 0, none⟩) 1 1, .string ⟨#[]⟩] 34) := ⟨_, rfl⟩
  have hs8 : w8.heap.size = w7.heap.size + 1 := by rw [hw8]; simp
  have hA : Below w7.heap.size w7 w8 := by rw [hw8]; exact (Below.refl _ _).alloc (Nat.le_refl _) _
  have hR8 : RdRow itR 34 w.heap.size w8 (.slice (some ⟨w7.heap.size, 0, none⟩) 5 5) lv5 := by rw [hw8]; exact hO.read
  have hI9 := (OwnRow.one (R := intR) (e := 3) (b := 0) (n0 := 0) (w := w8) (cs := [.int .i64 1]) (x := 1) ⟨rfl, by decide⟩ (Nat.zero_le _)).read
  obtain ⟨w9, hw9⟩ : ∃ w9, w9 = w8.alloc (.cells #[.int .i64 1] 3) := ⟨_, rfl⟩
  have hC : Below w8.heap.size w8 w9 := by rw [hw9]; exact (Below.refl _ _).alloc (Nat.le_refl _) _
  have hI : RdRow intR 3 0 w9 (.slice (some ⟨w7.heap.size + 1, 0, none⟩) 1 1) [1] := by rw [hw9, ← hs8]; exact hI9
  have hR9 := hR8.below hC
  rw [← hw8, ← hw9]
  clear hO hw8 hw9 hR8 hI9 hs8
  have hB79 : Below w7.heap.size w7 w9 := hA.trans (hC.mono hA.size)
  have hB29 := hB27.trans (hB79.mono hB27.size)
  have hT9 := (H2.out.2.below hB29).tight
  have hB9 := hBw7.trans (hB79.mono hBw7.size)
  have H9 := Lib.hid (And.intro hT9 (And.intro hB9 hR9)); clear hT9 hB9 hR9 hA hC hB29 hB79 hBw7 hB27 hB37 hB47 hB57
  refine (dnew_any 0 _ [1] w9 hI (by decide)).mono ?_
  rintro er w10 ⟨s, rfl, hs, hS, hB10⟩
  have hT10 := H9.out.1.below hB10
  have hBw10 := H9.out.2.1.trans (hB10.mono H9.out.2.1.size)
  have hR10 := H9.out.2.2.below hB10
  have H10 := Lib.hid (And.intro hT10 (And.intro hBw10 (And.intro hR10 (And.intro hS hs)))); clear hT10 hBw10 hR10 hS hs hB10 hI
  go_wp2_with fail
  refine (vbulk0_any w.heap.size H10.out.1 H10.out.2.2.2.1 (fun h => by have := h.2; have := H10.out.2.2.2.2; omega) (by decide) (by decide) _ lv5 H10.out.2.2.1 (by decide) (by decide) (by decide) (fun x hx => by
    simp [lv5] at hx
    rcases hx with rfl | rfl | rfl | rfl | rfl <;> exact ⟨by decide, by decide⟩) (by decide)).mono ?_
  rintro er w11 ⟨rfl, hF, f', c', hT, -⟩
  have hlv : (buildN 1 (max 4 1) [1] lv5.length [vn0] 0 0 (-1) lv5).1 = lvT := lv_build
  rw [hlv] at hT
  have hB11 : Below w.heap.size w w11 := H10.out.2.1.trans (hF.toB (fun g hg => by
    have h1 := H1.out.2.size
    have h9 := H10.out.2.2.2.2
    have h2 := H9.out.2.1.size
    rcases hg.1 with hg | hg
    · rcases hg.1 with hg | hg <;> omega
    · omega) H10.out.2.1.size)
  have H11 := Lib.hid (And.intro hT hB11); clear hT hB11 hF hlv
  go_wp2_with fail
  refine (vimage_any H11.out.1 (by decide) (by decide) (fun n hn => by
    simp [lvT] at hn
    rcases hn with rfl | rfl | rfl
    · exact ⟨⟨by decide, by decide⟩, fun x hx => by cases hx⟩
    · exact ⟨⟨by decide, by decide⟩, fun x hx => by
        simp [leafV] at hx
        rcases hx with rfl | rfl <;> exact ⟨by decide, by decide⟩⟩
    · exact ⟨⟨by decide, by decide⟩, fun x hx => by
        simp [leafV] at hx
        rcases hx with rfl | rfl <;> exact ⟨by decide, by decide⟩⟩) (fun n hn => by
    simp [lvT] at hn
    rcases hn with rfl | rfl | rfl <;> decide) 3 (by decide) (by decide) lv_lt lv_ix lv_ix2).mono ?_
  rintro er w12 ⟨v, rfl, hO, hB⟩
  rw [lv_ord, lv_img] at hO
  obtain ⟨g9, cap9, hv9, _, hg9, _, _, _, hat9⟩ := hO.at (by simp [lvT])
  subst hv9
  obtain ⟨cs9, hcs9, hc9⟩ := hat9 0 (by decide)
  obtain ⟨vb, vv, rfl, -⟩ := vnR_iff.1 hcs9
  have e2 := hc9 2 _ rfl
  have e11 := hc9 11 _ rfl
  have e12 := hc9 12 _ rfl
  simp only [Nat.zero_mul, Nat.zero_add] at e2 e11 e12
  change w12.cell? ⟨g9, 2, none⟩ = some (Value.int .u64 2) at e2
  change w12.cell? ⟨g9, 11, none⟩ = some (Value.int .i64 2) at e11
  change w12.cell? ⟨g9, 12, none⟩ = some (Value.int .i64 3) at e12
  have hT12 := H11.out.1.below hB
  have hB12 := H11.out.2.trans (hB.mono H11.out.2.size)
  have H12 := Lib.hid (And.intro hT12 hB12); clear hT12 hB12 hO hB hat9 hc9 hcs9
  have hfd := fun w => fld_imgV (.slice (some ⟨g9, 0, none⟩) lvT.length cap9) w
  have hll : lvT.length = 3 := rfl
  rw [hll] at hfd ⊢
  go_wp2_with fail
  refine (vdepth_any H12.out.1 (by decide) (by decide) 3 (by decide) (by decide) lv_lt lv_ix lv_ix2).mono ?_
  rintro er w13 ⟨rfl, hB13⟩
  rw [lv_ord, lv_dep]
  have H13 := Lib.hid (H12.out.2.trans (hB13.mono H12.out.2.size)); clear hB13
  go_wp2_with fail
  go_ret
  exact ⟨rfl, H13.out⟩
end Go.Proofs.Ytlcpfnhindfkfaa
