/-
  laesa: row.
-/
import Derived.Test.YtbjmlahnojfekaaGreatLk
import Derived.Test.YtbjmlahnojfekaaGreatHoist2
namespace Go.WW
open Go Go.RowKit
theorem wrap_step (c n : Int) : wrap64 (wrap64 (c + n) + 1) = wrap64 (c + (n + 1)) := by unfold wrap64; omega
theorem wrap_wf (d : Int) : (Lit.int .i64 (wrap64 d)).wf = true := by
  have h2 : (IntKind.i64).min = -9223372036854775808 := by decide
  have h3 : (IntKind.i64).max = 9223372036854775807 := by decide
  simp only [Lit.wf, Bool.and_eq_true, decide_eq_true_eq, h2, h3]
  unfold wrap64
  omega
/-- What a count of calls may become. -/
def Wfi (c : Int) : Type := {c' : Int // (Lit.int .i64 c).wf = true → (Lit.int .i64 c').wf = true}
def Wfi.refl (c : Int) : Wfi c := ⟨c, id⟩
def Wfi.trans {c : Int} (a : Wfi c) (b : Wfi a.1) : Wfi c := ⟨b.1, fun h => b.2 (a.2 h)⟩
def Wfi.wrap (c d : Int) : Wfi c := ⟨wrap64 d, fun _ => wrap_wf d⟩
theorem wrap_zero (c : Int) (h : (Lit.int .i64 c).wf = true) : wrap64 (c + 0) = c := by
  rw [Int.add_zero]
  have h2 : (IntKind.i64).min = -9223372036854775808 := by decide
  have h3 : (IntKind.i64).max = 9223372036854775807 := by decide
  simp only [Lit.wf, Bool.and_eq_true, decide_eq_true_eq, h2, h3] at h
  unfold wrap64; omega
theorem IRow.cw {C0 : World → Prop} {T g : Nat} {W : World} {xs : List Value} (h : IRow T W g xs) (hC : ∀ w', C0 w' → w'.heap[g]? = W.heap[g]?) : ∀ (z : CW C0) (j : Nat), z.w.cell? ⟨g, j, none⟩ = xs[j]? := fun z j => (cell_same (hC z.w z.h)).trans (h.cell j)
theorem OwnRow.base {α : Type} {R : Rd α} {e b n0 n1 : Nat} {w : World} {v : Value} {l : List α} (h : OwnRow R e b n0 w v l) (hn : n1 ≤ n0) : OwnRow R e b n1 w v l := by
  obtain ⟨cs, ho, hl, hr⟩ := h
  refine ⟨cs, ⟨ho.1, ?_⟩, hl, hr⟩
  rcases ho.2 with h0 | ⟨g, cap, cur, rfl, hb, hh⟩
  · exact .inl h0
  · exact .inr ⟨g, cap, cur, rfl, Nat.le_trans hn hb, hh⟩
end Go.WW
namespace Go.Proofs.YtbjmlahnojfekaaGreat
open Go Go.RowKit Go.WW
def rowL (m : Int) (x : Ob) (piv : List Ob) : List Int := piv.map (distO m x)
set_option maxRecDepth 100000 in
set_option maxHeartbeats 4000000 in
theorem row_any {own : Nat → Prop} {w : World} {t mt : Nat} {m most calls : Int} {piv : List Ob} {rows : List Lw} (b : Nat) (h : LT own w t mt m most calls piv rows) (hb : ∀ g, own g → b ≤ g) (hc : (Lit.int .i64 calls).wf = true) (x : Ob) (cx : List Value) (hx : obR.rd b w cx x) (sx : Short x) (hn : piv.length ≤ 1048576) :
    Calls Tryz.prog 49 #[.pointer (some ⟨t, 0, none⟩), .agg cx.toArray] w fun r w' => ∃ v, r = .returned v ∧ OwnRow intR 3 0 w.heap.size w' v (rowL m x piv) ∧ Fr (fun g => g = mt) w w' ∧
      LT own w' t mt m most (wrap64 (calls + piv.length)) piv rows := by
  obtain ⟨vp, vr, hrow, hP, hR, hop, hor⟩ := h.mem
  obtain ⟨Ap, cp, hvp⟩ := hP.slice
  subst hvp
  obtain ⟨vx, rfl, hwx, rx, hsx⟩ := obR_iff.1 hx
  obtain ⟨Ax, cx, rfl, _⟩ := rx.at
  have c0 := hrow.cell
  have hlt := hrow.lt
  have hm0 := h.met.lt
  have HH := Lib.hid (And.intro h (And.intro hb (And.intro hc (And.intro hx (And.intro hP hrow))))); clear h hb hc hx hP hrow rx hR hop hor
  go_enter Tryz.func49, Tryz.ntmps49
  go_wp2_with fail
  go_loopw [5, 7, 13] (fun v _ vk wr => ∃ k : Nat, vk = .int .i64 k ∧ k ≤ piv.length ∧ OwnRow intR 3 0 (w.heap.size + 1) wr v (rowL m x (piv.take k)) ∧ Fr (fun g => g = mt) w wr ∧
    IRow 86 wr mt [.int .i64 m, .int .i64 (wrap64 (calls + k))] ∧ IRow 30 wr w.heap.size [.int .i64 x.tag, .slice Ax x.vec.length cx, .string x.str]) (fun _ _ vk _ => piv.length - (intOf vk).toNat)
  case atStart =>
    refine ⟨0, rfl, Nat.zero_le _, OwnRow.nil .., (Fr.refl _ w).alloc _, ?_, IRow.new w _ _⟩
    have := HH.out.1.met.alloc (.cells #[.int .i64 x.tag, .slice Ax x.vec.length cx, .string x.str] 30)
    rw [← wrap_zero calls HH.out.2.2.1] at this
    exact this
  case round =>
    obtain ⟨k, rfl, hk, hO, hF, hM, hX⟩ := hrel
    by_cases hlt' : k < piv.length
    · have hz : (k : Int) < piv.length := by omega
      have hkp : Kp obR.ts 0 w wr := hF.kp (fun g hg => by subst hg; exact not_sta HH.out.1.met (Nat.zero_le _) (by decide))
      have hPr := HH.out.2.2.2.2.1.keep hkp (fun g hg => hF.block g (HH.out.2.2.2.2.1.lt g hg).2 (fun e => by subst e; obtain ⟨d, hd⟩ := HH.out.2.2.2.2.1.blk hg; exact blk_ne hd HH.out.1.met (by decide) rfl))
      have hTr : IRow 88 wr t _ := HH.out.2.2.2.2.2.kept (hF.block t hlt (fun e => by subst e; exact blk_ne HH.out.2.2.2.2.2 HH.out.1.met (by decide) rfl))
      obtain ⟨lb, cap, hlv, _, hlb, hc1, hc2, hfr, hat⟩ := hPr.at (by intro e; rw [e] at hlt'; cases hlt')
      injection hlv with e1 _ e2
      subst e1 e2
      obtain ⟨cs, hr, hcell⟩ := hat k hlt'
      obtain ⟨vp, rfl, hwp, rp, hsp⟩ := obR_iff.1 hr
      obtain ⟨Ay, cy, hvp, _⟩ := rp.at
      subst hvp
      have d0 := hcell 0 _ rfl
      have d1 := hcell 1 _ rfl
      have d2 := hcell 2 _ rfl
      rw [show obR.sz = 3 from rfl] at d0 d1 d2
      simp only [Nat.add_zero] at d0
      have c1 := hTr.cell
      have c3 := hX.cell
      have hs1 := hF.size
      have hX1 := hX.lt
      have hlt2 : t < wr.heap.size := by omega
      have sp := HH.out.1.sp _ (List.getElem_mem hlt')
      have hob1 := fun o : Obj => obR_below hr ((Below.refl wr.heap.size wr).alloc (Nat.le_refl _) o)
      have hx1 := fun o : Obj => obR.keep _ _ _ _ _ ((hF.alloc o).kp (ts := obR.ts) (b := b) (fun g hg => by subst hg; exact not_sta HH.out.1.met (HH.out.2.1 _ HH.out.1.om) (by decide))) HH.out.2.2.2.1
      obtain ⟨W1, hW1⟩ : ∃ W1, W1 = wr.alloc (.cells #[.int .i64 piv[k].tag, .slice Ay piv[k].vec.length cy, .string piv[k].str] 30) := ⟨_, rfl⟩
      have i1 : IRow 30 W1 wr.heap.size [.int .i64 piv[k].tag, .slice Ay piv[k].vec.length cy, .string piv[k].str] := by rw [hW1]; exact IRow.new wr _ _
      have i2 := hTr.alloc (.cells #[.int .i64 piv[k].tag, .slice Ay piv[k].vec.length cy, .string piv[k].str] 30)
      have i3 := hX.alloc (.cells #[.int .i64 piv[k].tag, .slice Ay piv[k].vec.length cy, .string piv[k].str] 30)
      have i4 := hM.alloc (.cells #[.int .i64 piv[k].tag, .slice Ay piv[k].vec.length cy, .string piv[k].str] 30)
      rw [← hW1] at i2 i3 i4
      obtain ⟨C0, hC0⟩ : ∃ C0 : World → Prop, C0 = fun w' => Fr (fun g => g = mt) W1 w' := ⟨_, rfl⟩
      have hne1 : t ≠ mt := blk_ne HH.out.2.2.2.2.2 HH.out.1.met (by decide)
      have a1 := i2.cw (C0 := C0) (fun w' hw => by subst hC0; exact hw.block t i2.lt hne1)
      have a2 := i3.cw (C0 := C0) (fun w' hw => by subst hC0; exact hw.block w.heap.size i3.lt (fun e => by omega))
      have a3 := i1.cw (C0 := C0) (fun w' hw => by subst hC0; exact hw.block wr.heap.size i1.lt (fun e => by omega))
      have : Nonempty (CW C0) := by subst hC0; exact ⟨⟨W1, Fr.refl _ _⟩⟩
      have hl8 : ((rowL m x (piv.take k)).length + 1) * 8 ≤ 140737488355328 := by unfold rowL; rw [List.length_map, List.length_take]; omega
      have HC := Lib.hid (And.intro hC0 (And.intro hW1 (And.intro i1 (And.intro i4 hl8))))
      clear hC0 i1 i2 i3 i4 hl8
      have HR := Lib.hid (And.intro hO (And.intro hF (And.intro hM (And.intro hX (And.intro hr (And.intro hob1 hx1))))))
      clear hO hF hM hX hr hob1 hx1 hkp hPr hTr hat hcell rp hfr hwp hsp
      go_wp2_with fail
      rw [← hW1]
      clear hW1
      refine wp_region_hoist [true, true, true, true, true, true, true, false, false, false, false] 2 (fun w' => ∃ z : CW C0, w' = z.w) (by kernel_rfl) (by kernel_rfl) ?_ ?_
      · have h0 : C0 W1.drew := by rw [HC.out.1]; exact (Fr.refl _ W1).drew
        exact ⟨⟨_, h0⟩, rfl⟩
      simp only [pickR, pickE, List.take, List.drop, wpLate]
      repeat (go_big_quiet_step (fail))
      refine wpQuiet_nil ?_
      go_wp2_with fail
      refine (meterE_any b mt m _ x piv[k] _ _ W1.drew (HH.out.2.1 _ HH.out.1.om) (HC.out.2.2.2.1.kept rfl) ?_ ?_ sx sp).mono ?_
      · have := HR.out.2.2.2.2.2.2 (.cells #[.int .i64 piv[k].tag, .slice Ay piv[k].vec.length cy, .string piv[k].str] 30)
        rw [← HC.out.2.1] at this
        exact obR_below this (bl_drewN W1 1)
      · have := obR_lift0 b (HR.out.2.2.2.2.2.1 (.cells #[.int .i64 piv[k].tag, .slice Ay piv[k].vec.length cy, .string piv[k].str] 30))
        rw [← HC.out.2.1] at this
        exact obR_below this (bl_drewN W1 1)
      rintro er w2 ⟨rfl, hG, hM2⟩
      have hF1 : Fr (fun g => g = mt) W1 w2 := (Fr.refl _ W1).drew.grown hG (fun g hg => by cases hg; exact .inl rfl)
      have hC2 : C0 w2 := by rw [HC.out.1]; exact hF1
      obtain ⟨A5, c5, hv5⟩ := HR.out.1.slice
      subst hv5
      have hFw : Fr (fun g => g = mt) w W1 := by have := HR.out.2.1.alloc (.cells #[.int .i64 piv[k].tag, .slice Ay piv[k].vec.length cy, .string piv[k].str] 30); rw [← HC.out.2.1] at this; exact this
      have hO1 : OwnRow intR 3 0 (w.heap.size + 1) W1 (.slice A5 (rowL m x (piv.take k)).length c5) (rowL m x (piv.take k)) := by rw [HC.out.2.1]; exact HR.out.1.alloc _
      have hO2 := (hO1.below (bl_drewN W1 1)).grown hG (fun g _ => by rintro (h | ⟨c, e, f, _, h⟩) <;> first | omega | simp [Rd.int] at h) (.inr (fun e => by have := (hO1.lt mt e).1; omega))
      have hX2 : IRow 30 w2 w.heap.size [.int .i64 x.tag, .slice Ax x.vec.length cx, .string x.str] := by
        have := HR.out.2.2.2.1.alloc (.cells #[.int .i64 piv[k].tag, .slice Ay piv[k].vec.length cy, .string piv[k].str] 30)
        rw [← HC.out.2.1] at this
        exact this.kept (hF1.block _ this.lt (fun e => by omega))
      have hdw := bd_wf (distO_bd (m := m) HH.out.2.2.2.1 (obR_lift0 b HR.out.2.2.2.2.1) sx sp)
      have hsz2 : w.heap.size + 1 ≤ w2.heap.size := by have := hF1.size; have := hX2.lt; omega
      have hst : rowL m x (piv.take (k + 1)) = rowL m x (piv.take k) ++ [distO m x piv[k]] := by unfold rowL; rw [List.take_add_one, List.getElem?_eq_getElem hlt', List.map_append]; rfl
      rw [wrap_step] at hM2
      have hFw2 := hFw.trans hF1 (fun g hg => .inl hg)
      generalize distO m x piv[k] = d at *
      generalize hL : rowL m x (piv.take k) = L at *
      have hl8 := HC.out.2.2.2.2
      have HS := Lib.hid (And.intro hM2 (And.intro hF1 (And.intro hO2 (And.intro hX2 (And.intro hdw (And.intro hsz2 (And.intro hst (And.intro hFw2 hl8))))))))
      clear hM2 hF1 hO2 hX2 hdw hsz2 hst hFw hO1 hG hFw2 hl8 c3 c1 d0 d1 d2
      go_wp2_with fail
      apply only_mk; refine And.intro ⟨⟨_, hC2⟩, rfl⟩ ?_
      go_wp2_with fail
      apply only_mk; refine And.intro ?_ ?_
      · have h0 : C0 (w2.alloc (.cells #[.int .i64 d] 3)) := by rw [HC.out.1] at hC2 ⊢; exact hC2.alloc _
        exact ⟨⟨_, h0⟩, rfl⟩
      clear hL
      go_wp2_with (at_builtin; go_loud (refine wp_push (R := intR) (W := w2) rfl (.tmp 17) (.tmp 25) 26 (.int .i64 0) 8 rfl Tryz.underlying26 info_int rfl (by decide) (by decide) (.slice A5 L.length c5) L d #[.int .i64 d] (0, 0) rfl rfl ⟨rfl, HS.out.2.2.2.2.1⟩ HS.out.2.2.1 (Nat.le_of_succ_le HS.out.2.2.2.2.2.1 |> fun _ => HS.out.2.2.2.2.2.1) (fun h => by cases h) (Nat.zero_le _) HS.out.2.2.2.2.2.2.2.2 ?_); intro v5 w5 hO5 hG5 _ _)
      apply only_mk
      go_wp2_with fail
      obtain ⟨hM2, hF1, hO2, hX2, hdw, hsz2, hst, hFw2, hl8⟩ := HS.out
      refine ⟨⟨k + 1, by go_num, by omega, by rw [hst]; exact hO5, ?_, ?_, hX2.kept (hG5.block _ hX2.lt (fun e => by have := (hO2.lt _ e.symm).1; omega))⟩, by simp [intOf]; omega⟩
      · exact hFw2.grown hG5 (fun g hg => .inr (by have := (hO2.lt _ hg).1; omega))
      · rw [show ((k + 1 : Nat) : Int) = (k : Int) + 1 by omega]
        exact hM2.kept (hG5.block _ hM2.lt (fun e => by have := (hO2.lt _ e.symm).1; omega))
    · obtain rfl : k = piv.length := by omega
      go_wp2_with fail
      go_ret
      rw [List.take_length] at hO
      exact ⟨_, rfl, OwnRow.base hO (by omega), hF, HH.out.1.metered hF hM⟩
end Go.Proofs.YtbjmlahnojfekaaGreat
