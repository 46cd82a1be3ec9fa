/-
  laesa: the law's own example: lives.
-/
import Derived.Test.YtbjmlahnojfekaaGreatLBulk
import Derived.Test.YtbjmlahnojfekaaGreatLRange
namespace Go.Proofs.YtbjmlahnojfekaaGreat
open Go Go.RowKit Go.WW
theorem itR_lift0 (b : Nat) {w : World} {cs : List Value} {x : It} (h : itR.rd 0 w cs x) : itR.rd b w cs x := by
  obtain ⟨v, rfl, h1, h2⟩ := itR_iff.1 h
  exact itR_iff.2 ⟨v, rfl, h1, obR_lift0 b h2⟩
def li (id v : Int) : It := ⟨id, ⟨1, [v], ⟨#[]⟩⟩⟩
set_option maxHeartbeats 1000000 in
theorem liv1_any (w : World) (id v : Int) (hid : (Lit.int .u64 id).wf = true) (hv : (Lit.int .i32 v).wf = true) : Calls Tryz.prog 36 #[.int .u64 id, .int .i32 v] w fun r w' => ∃ g, r = .returned (.agg #[.int .u64 id, .int .i64 1, .slice (some ⟨g, 0, none⟩) 1 1, .string ⟨#[]⟩]) ∧ itR.rd 0 w' [.int .u64 id, .int .i64 1, .slice (some ⟨g, 0, none⟩) 1 1, .string ⟨#[]⟩] (li id v) ∧ Below w.heap.size w w' := by
  go_enter Tryz.func36, Tryz.ntmps36
  go_wp2_with fail
  have hi := (IRow.new w [.int .u64 id, .int .i64 1, .slice (some ⟨w.heap.size + 1, 0, none⟩) 1 1, .string ⟨#[]⟩] 34).alloc (.cells #[.int .i32 v] 21)
  refine bodyPost_ret (results_cell_row rfl _ _ w.heap.size 34 _ (0, 0) _ rfl hi Tryz.underlying34 rfl (by kernel_rfl)) rfl ?_
  have hb := ((Below.refl w.heap.size w).alloc (Nat.le_refl _) (.cells #[.int .u64 id, .int .i64 1, .slice (some ⟨w.heap.size + 1, 0, none⟩) 1 1, .string ⟨#[]⟩] 34)).alloc (by simp) (.cells #[.int .i32 v] 21)
  refine ⟨_, rfl, itR_iff.2 ⟨_, rfl, hid, obR_iff.2 ⟨_, rfl, (by show (Lit.int .i64 1).wf = true; decide), ?_, (by show (⟨#[]⟩ : ByteArray).size ≤ maxLen; decide)⟩⟩, hb⟩
  have := (OwnRow.one (R := i32R) (e := 21) (b := 0) (n0 := 0) (w := w.alloc (.cells #[.int .u64 id, .int .i64 1, .slice (some ⟨w.heap.size + 1, 0, none⟩) 1 1, .string ⟨#[]⟩] 34)) (cs := [.int .i32 v]) (x := v) ⟨rfl, hv⟩ (Nat.zero_le _)).read
  rw [World.size_alloc] at this
  exact this
def lL : List It := [li 1 0, li 2 3, li 3 9]
def lP : List Ob := [(li 1 0).ob]
theorem lP_eq : lP = (chooseN 1 (lL.map It.ob) (1 : Int).toNat (List.replicate lL.length bigI) 0).map (fun i => (lL.map It.ob).getD i.toNat ⟨0, [], ⟨#[]⟩⟩) := by
  have h : chooseN 1 (lL.map It.ob) (1 : Int).toNat (List.replicate lL.length bigI) 0 = [0] := by
    show chooseN 1 (lL.map It.ob) (0 + 1) (List.replicate lL.length bigI) 0 = [0]
    rw [chooseN]
    split <;> rfl
  rw [h]
  rfl
def lR : List Lw := lL.map fun x => ⟨x, rowL 1 x.ob lP⟩
theorem lH : hitsN 1 2 (li 0 8).ob (rowL 1 (li 0 8).ob lP) lR 3 = [⟨3, 1⟩] := by kernel_rfl
theorem lA : askN 2 (rowL 1 (li 0 8).ob lP) lR 3 = 1 := by decide
theorem eq_hit31 (w : World) : (binOp .eql 75 (.agg #[.int .u64 3, .int .i64 1]) (.agg #[.int .u64 3, .int .i64 1])).run Tryz.prog w = .ok (.bool true) w := by kernel_rfl
theorem fld_it (id : Int) (g : Nat) (w : World) : (Instr.field 34 (.agg #[.int .u64 id, .int .i64 1, .slice (some ⟨g, 0, none⟩) 1 1, .string ⟨#[]⟩]) 1).run Tryz.prog w = .ok (.agg #[.int .i64 1, .slice (some ⟨g, 0, none⟩) 1 1, .string ⟨#[]⟩]) w := by kernel_rfl
set_option maxRecDepth 100000 in
set_option maxHeartbeats 4000000 in
theorem llives_any (w : World) : Calls Tryz.prog 8 #[] w fun e w' => e = .returned (.bool true) ∧ Below w.heap.size w w' := by
  go_enter Tryz.func8, Tryz.ntmps8
  go_wp2_with fail
  refine (mnew_any w 1).mono ?_
  rintro er w1 ⟨rfl, rfl⟩
  have hM := IRow.new w [.int .i64 1, .int .i64 0] 86
  have hB1 : Below w.heap.size w (w.alloc (.cells #[.int .i64 1, .int .i64 0] 86)) := (Below.refl _ w).alloc (Nat.le_refl _) _
  generalize w.alloc (.cells #[.int .i64 1, .int .i64 0] 86) = w1 at *
  have H1 := Lib.hid (And.intro hM hB1); clear hM hB1
  go_wp2_with fail
  refine (lnew_any w1 _ 1 0 1 H1.out.1).mono ?_
  rintro er w2 ⟨t, rfl, hB2, hT2⟩
  have hB2' := H1.out.2.trans (hB2.mono H1.out.2.size)
  have H2 := Lib.hid (And.intro hB2' hT2); clear hB2 hB2' hT2
  go_wp2_with fail
  refine (liv1_any w2 1 0 (by decide) (by decide)).mono ?_
  rintro er w3 ⟨g1, rfl, hr1, hB3⟩
  have H3 := Lib.hid (And.intro hr1 hB3); clear hr1 hB3
  go_wp2_with fail
  refine (liv1_any w3 2 3 (by decide) (by decide)).mono ?_
  rintro er w4 ⟨g2, rfl, hr2, hB4⟩
  have H4 := Lib.hid (And.intro hr2 hB4); clear hr2 hB4
  go_wp2_with fail
  refine (liv1_any w4 3 9 (by decide) (by decide)).mono ?_
  rintro er w5 ⟨g3, rfl, hr3, hB5⟩
  have H5 := Lib.hid (And.intro hr3 hB5); clear hr3 hB5
  go_wp2_with fail
  have hB35 : Below w3.heap.size w3 w5 := H4.out.2.trans (H5.out.2.mono H4.out.2.size)
  have hB25 : Below w2.heap.size w2 w5 := H3.out.2.trans (hB35.mono H3.out.2.size)
  have hBw5 : Below w.heap.size w w5 := H2.out.1.trans (hB25.mono H2.out.1.size)
  have hO := OwnRow.many (R := itR) (e := 34) (b := w.heap.size) (n0 := w5.heap.size) (w := w5) (css := [[.int .u64 1, .int .i64 1, .slice (some ⟨g1, 0, none⟩) 1 1, .string ⟨#[]⟩], [.int .u64 2, .int .i64 1, .slice (some ⟨g2, 0, none⟩) 1 1, .string ⟨#[]⟩], [.int .u64 3, .int .i64 1, .slice (some ⟨g3, 0, none⟩) 1 1, .string ⟨#[]⟩]]) (xs := lL) rfl (fun i x c hx hc => by
    match i with
    | 0 => simp [lL] at hx hc; subst hx hc; exact itR_lift0 _ (itR_below H3.out.1 hB35)
    | 1 => simp [lL] at hx hc; subst hx hc; exact itR_lift0 _ (itR_below H4.out.1 H5.out.2)
    | 2 => simp [lL] at hx hc; subst hx hc; exact itR_lift0 _ H5.out.1
    | n + 3 => simp [lL] at hx) (Nat.le_refl _) (by decide)
  obtain ⟨w6, hw6⟩ : ∃ w6, w6 = (w5.alloc (.cells #[.int .u64 1, .int .i64 1, .slice (some ⟨g1, 0, none⟩) 1 1, .string ⟨#[]⟩, .int .u64 2, .int .i64 1, .slice (some ⟨g2, 0, none⟩) 1 1, .string ⟨#[]⟩, .int .u64 3, .int .i64 1, .slice (some ⟨g3, 0, none⟩) 1 1, .string ⟨#[]⟩] 34)) := ⟨_, rfl⟩
  have hA : Below w5.heap.size w5 w6 := by rw [hw6]; exact (Below.refl _ _).alloc (Nat.le_refl _) _
  have hR : RdRow itR 34 w.heap.size w6 (.slice (some ⟨w5.heap.size, 0, none⟩) 3 3) lL := by rw [hw6]; exact hO.read
  rw [← hw6]
  clear hO hw6
  have hB26 := hB25.trans (hA.mono hB25.size)
  have hT6 := H2.out.2.below hB26
  have hB6 := hBw5.trans (hA.mono hBw5.size)
  have hown : ∀ g, (g = w.heap.size ∨ w1.heap.size ≤ g) → w.heap.size ≤ g := fun g hg => by
    have := H1.out.2.size
    rcases hg with hg | hg <;> omega
  refine (lbulk0_any w.heap.size hT6 hown hB6.size (by decide) _ lL hR (fun i j hij hj => by
    simp [lL] at hj
    have : (i = 0 ∧ j = 1) ∨ (i = 0 ∧ j = 2) ∨ (i = 1 ∧ j = 2) := by omega
    rcases this with ⟨rfl, rfl⟩ | ⟨rfl, rfl⟩ | ⟨rfl, rfl⟩ <;> decide) (fun x hx => by
    simp [lL] at hx
    rcases hx with rfl | rfl | rfl <;> exact ⟨by decide, by decide⟩) (by decide) (by decide) (by decide) (by decide) lP lP_eq (by decide) (by decide)).mono ?_
  rintro er w7 ⟨rfl, hF7, c7, hc7, hT7⟩
  have hB7 : Below w.heap.size w w7 := hB6.trans (hF7.toB (fun g hg => hown g hg.1) hB6.size)
  have hown7 : ∀ g, MoreL (fun g => g = w.heap.size ∨ w1.heap.size ≤ g) w6 g → w.heap.size ≤ g := fun g hg => by
    rcases hg with hg | hg
    · exact hown g hg
    · exact Nat.le_trans hB6.size hg
  have H7 := Lib.hid (And.intro hB7 (And.intro hT7 (And.intro hown7 hc7))); clear hB7 hT7 hF7 hT6 hR hA hB6 hBw5 hB25 hB35 hB26 hown7 hown hc7
  go_wp2_with fail
  refine (calls_any w7 _ 1 c7 H7.out.2.1.met).mono ?_
  rintro er w7 ⟨rfl, rfl⟩
  go_wp2_with fail
  refine (liv1_any _ 0 8 (by decide) (by decide)).mono ?_
  rintro er w8 ⟨g0, rfl, hr0, hB8⟩
  have hT8 := H7.out.2.1.below hB8
  have hBw8 := H7.out.1.trans (hB8.mono H7.out.1.size)
  have hr8 : obR.rd w.heap.size w8 [.int .i64 1, .slice (some ⟨g0, 0, none⟩) 1 1, .string ⟨#[]⟩] (li 0 8).ob := by
    obtain ⟨v', hv, _, h⟩ := itR_iff.1 hr0
    simp only [List.cons.injEq] at hv
    obtain ⟨-, -, hv, -⟩ := hv
    subst hv
    exact obR_lift0 _ h
  have H8 := Lib.hid (And.intro hT8 (And.intro hBw8 hr8)); clear hr0 hB8 hT8 hBw8 hr8
  have hfd := fun w => fld_it 0 g0 w
  go_wp2_with fail
  refine (lrange_any w.heap.size rfl H8.out.1 H7.out.2.2.1 H7.out.2.2.2 (li 0 8).ob 2 _ H8.out.2.2 ⟨by decide, by decide⟩ (by decide) (by decide)).mono ?_
  rintro er w9 ⟨v9, rfl, hO9, hF9, hT9⟩
  have hh : sortH (hitsN 1 2 (li 0 8).ob (rowL 1 (li 0 8).ob lP) (lL.map fun x => ⟨x, rowL 1 x.ob lP⟩) (lL.map fun x => (⟨x, rowL 1 x.ob lP⟩ : Lw)).length) = [⟨3, 1⟩] := by
    have := lH
    show sortH (hitsN 1 2 (li 0 8).ob (rowL 1 (li 0 8).ob lP) lR 3) = _
    rw [this]
    simp [sortH]
  have ha : askN 2 (rowL 1 (li 0 8).ob lP) (lL.map fun x => ⟨x, rowL 1 x.ob lP⟩) (lL.map fun x => (⟨x, rowL 1 x.ob lP⟩ : Lw)).length = 1 := lA
  rw [hh] at hO9
  rw [ha] at hT9
  have hcc : wrap64 (c7 + (lP.length : Nat) + 1) = wrap64 (c7 + 2) := by
    show wrap64 (c7 + ((1 : Nat) : Int) + 1) = wrap64 (c7 + 2)
    congr 1
    omega
  rw [hcc] at hT9
  obtain ⟨g9, cap9, hv9, _, hg9, _, _, _, hat9⟩ := hO9.at (by simp)
  subst hv9
  obtain ⟨cs9, hcs9, hc9⟩ := hat9 0 (by decide)
  obtain ⟨rfl, _⟩ := hitR_iff.1 hcs9
  have e0 := hc9 0 _ rfl
  have e1 := hc9 1 _ rfl
  simp only [Nat.zero_mul, Nat.zero_add, List.getElem_cons_zero] at e0 e1
  have hB9 : Below w.heap.size w w9 := H8.out.2.1.trans (hF9.toB (fun g hg => by subst hg; exact Nat.le_refl _) H8.out.2.1.size)
  have H9 := Lib.hid (And.intro hT9 hB9); clear hO9 hF9 hT9 hB9 hh ha hcc hat9 hc9 hcs9
  have hq := eq_hit31
  go_wp2_with fail
  refine (calls_any w9 _ 1 _ H9.out.1.met).mono ?_
  rintro er w9 ⟨rfl, rfl⟩
  go_wp2_with fail
  go_ret
  exact ⟨rfl, H9.out.2⟩
end Go.Proofs.YtbjmlahnojfekaaGreat
