/-
  vptree: fars, pick.
-/
import Derived.Test.YtlcpfnhindfkfaaVleaf
namespace Go.Proofs.Ytlcpfnhindfkfaa
open Go Go.RowKit Go.WW
def itD (l : List It) (i : Nat) : It := l.getD i it0
def farsN (m : Int) (l : List It) (v : Nat) : Nat → List Fa
  | 0 => []
  | k + 1 => farsN m l v k ++ (if k = v then [] else [⟨k, distO m (itD l v).ob (itD l k).ob⟩])
theorem farsN_len (m : Int) (l : List It) (v k : Nat) : (farsN m l v k).length ≤ k := by
  induction k with
  | zero => exact Nat.le_refl _
  | succ k ih => rw [farsN, List.length_append]; split <;> simp <;> omega
theorem itD_eq {l : List It} {i : Nat} (h : i < l.length) : itD l i = l[i] := by unfold itD; rw [List.getD_eq_getElem?_getD, List.getElem?_eq_getElem h]; rfl
set_option maxRecDepth 100000 in
set_option maxHeartbeats 4000000 in
theorem vfars_any {own : Nat → Prop} {w : World} {t mt : Nat} {m most calls : Int} {l : List Vn} {gone : Int} {f : Int → Option Int} (h : VT own w t mt m most calls l gone f) (v : Value) (xs : List It) (hv : RdRow itR 34 0 w v xs) (hn : xs.length ≤ 1048576) (hsh : ∀ x ∈ xs, Short x.ob) (v0 : Nat) (hv0 : v0 < xs.length) :
    Calls Try.prog 36 #[.pointer (some ⟨t, 0, none⟩), v, .int .i64 v0] w fun r w' => ∃ va, r = .returned va ∧ OwnRow faR 99 0 w.heap.size w' va (farsN m xs v0 xs.length) ∧ Fr (fun g => g = mt) w w' ∧ ∃ c', VT own w' t mt m most c' l gone f := by
  obtain ⟨lv, mb, hrow, _, _, _, _⟩ := h.mem
  obtain ⟨A, c, rfl, hlc, hcm, hA, h3⟩ := hv
  obtain ⟨g, o, rfl, hg, hs, hc⟩ := h3 (by rintro rfl; simp at hv0)
  have hlt := hrow.lt
  have hm0 := h.met.lt
  have hi' : (v0 : Int) < xs.length := by omega
  have hit : ∀ k (hk : k < xs.length), ∃ vx, itR.rd 0 w [.int .u64 xs[k].id, .int .i64 xs[k].ob.tag, vx, .string xs[k].ob.str] xs[k] ∧ (∃ A n c, vx = .slice A n c) ∧ w.cell? ⟨g, o + k * 4, none⟩ = some (.int .u64 xs[k].id) ∧ w.cell? ⟨g, o + k * 4 + 1, none⟩ = some (.int .i64 xs[k].ob.tag) ∧ w.cell? ⟨g, o + k * 4 + 2, none⟩ = some vx ∧ w.cell? ⟨g, o + k * 4 + 3, none⟩ = some (.string xs[k].ob.str) := fun k hk => by
    obtain ⟨cs, hr, hcc⟩ := hc k xs[k] (List.getElem?_eq_getElem hk)
    obtain ⟨vx, rfl, hid, hob⟩ := itR_iff.1 hr
    refine ⟨vx, hr, ?_, hcc 0 _ rfl, hcc 1 _ rfl, hcc 2 _ rfl, hcc 3 _ rfl⟩
    obtain ⟨v', hv2, _, hr, _⟩ := obR_iff.1 hob
    simp only [List.cons.injEq, and_true, true_and] at hv2
    subst hv2
    obtain ⟨A, c, e, _⟩ := hr.at
    exact ⟨A, _, c, e⟩
  have hgm : g ≠ mt := fun e => by
    subst e
    exact not_sta h.met (Nat.zero_le _) (by decide) hs
  have HH := Lib.hid (And.intro h (And.intro hrow (And.intro hit (And.intro hgm hsh)))); clear h hrow hit hgm hsh hc h3 hs hA
  go_enter Try.func36, Try.ntmps36
  go_wp2_with fail
  go_loopw [7, 8, 9, 12] (fun va _ _ vk wr => ∃ (k : Nat) (c2 : Int), vk = .int .i64 k ∧ k ≤ xs.length ∧ OwnRow faR 99 0 w.heap.size wr va (farsN m xs v0 k) ∧ Fr (fun g => g = mt) w wr ∧ IRow 64 wr mt [.int .i64 m, .int .i64 c2]) (fun _ _ _ vk _ => xs.length - (intOf vk).toNat)
  case atStart => exact ⟨0, calls, rfl, Nat.zero_le _, OwnRow.nil .., Fr.refl _ _, HH.out.1.met⟩
  case round =>
    obtain ⟨k, c2, rfl, hk, hO, hF, hM⟩ := hrel
    by_cases hlt3 : k < xs.length
    · have hz : (k : Int) < xs.length := by omega
      obtain ⟨vx, hrx, ⟨Av, nv, cv, rfl⟩, d0, d1, d2, d3⟩ := HH.out.2.2.1 k hlt3
      have hbg := hF.block g hg HH.out.2.2.2.1
      have k0 := (cell_same (p := ⟨g, o + k * 4, none⟩) hbg).trans d0
      have k1 := (cell_same (p := ⟨g, o + k * 4 + 1, none⟩) hbg).trans d1
      have k2 := (cell_same (p := ⟨g, o + k * 4 + 2, none⟩) hbg).trans d2
      have k3 := (cell_same (p := ⟨g, o + k * 4 + 3, none⟩) hbg).trans d3
      have hgr : g < wr.heap.size := Nat.lt_of_lt_of_le hg hF.size
      have hstp : farsN m xs v0 (k + 1) = farsN m xs v0 k ++ (if k = v0 then [] else [⟨k, distO m xs[v0].ob xs[k].ob⟩]) := by rw [farsN, itD_eq hv0, itD_eq hlt3]
      obtain ⟨A7, c7, hv7⟩ := hO.slice
      subst hv7
      have hl7 := farsN_len m xs v0 k
      by_cases hkv : k = v0
      · have hd : ((k : Int) != (v0 : Int)) = false := by rw [hkv]; simp
        have hd2 : decide (k = v0) = true := decide_eq_true hkv
        rw [if_pos hkv, List.append_nil] at hstp
        generalize farsN m xs v0 k = L at *
        have HR := Lib.hid (And.intro hO (And.intro hF (And.intro hM (And.intro hstp hk)))); clear hO hF hM hstp hk d0 d1 d2 d3 hrx hbg
        subst hkv
        go_wp2_with fail
        obtain ⟨hO, hF, hM, hstp, hk⟩ := HR.out
        exact ⟨⟨k + 1, c2, by go_num, by omega, by rw [hstp]; exact hO.alloc _, hF.alloc _, hM.alloc _⟩, by simp [intOf]; omega⟩
      · have hd : ((k : Int) != (v0 : Int)) = true := by simp; omega
        have hd2 : decide (k = v0) = false := decide_eq_false hkv
        rw [if_neg hkv] at hstp
        generalize farsN m xs v0 k = L at *
        obtain ⟨vy, hry, ⟨Ay, ny, cy, rfl⟩, e0, e1, e2, e3⟩ := HH.out.2.2.1 v0 hv0
        obtain ⟨W1, hW1⟩ : ∃ W1, W1 = wr.alloc (.cells #[.int .u64 xs[k].id, .int .i64 xs[k].ob.tag, .slice Av nv cv, .string xs[k].ob.str] 34) := ⟨_, rfl⟩
        have hB1 : Below wr.heap.size wr W1 := by rw [hW1]; exact (Below.refl _ wr).alloc (Nat.le_refl _) _
        have j1 : IRow 34 W1 wr.heap.size [.int .u64 xs[k].id, .int .i64 xs[k].ob.tag, .slice Av nv cv, .string xs[k].ob.str] := by rw [hW1]; exact IRow.new wr _ _
        have hF1 : Fr (fun g => g = mt) w W1 := hF.below hB1 hF.size
        have htm : t ≠ mt := blk_ne HH.out.2.1 HH.out.1.met (by decide)
        have hT1 := HH.out.2.1.kept (hF1.block t hlt htm)
        have hM1 := hM.kept (hB1.block _ hM.lt)
        obtain ⟨C0, hC0⟩ : ∃ C0 : World → Prop, C0 = fun w' => Fr (fun g => g = mt) W1 w' := ⟨_, rfl⟩
        have a1 := hT1.cw (C0 := C0) (fun w' hw => by subst hC0; exact hw.block t hT1.lt htm)
        have a2 := j1.cw (C0 := C0) (fun w' hw => by subst hC0; exact hw.block _ j1.lt (fun e => by have := hM.lt; omega))
        have ag : ∀ z : CW C0, z.w.heap[g]? = w.heap[g]? := fun z => by
          obtain ⟨w', hw⟩ := z
          subst hC0
          exact (hw.block g (Nat.lt_of_lt_of_le hg hF1.size) HH.out.2.2.2.1).trans (hF1.block g hg HH.out.2.2.2.1)
        have a4 : ∀ z : CW C0, z.w.cell? ⟨g, o + v0 * 4 + 1, none⟩ = _ := fun z => (cell_same (p := ⟨g, o + v0 * 4 + 1, none⟩) (ag z)).trans e1
        have a5 : ∀ z : CW C0, z.w.cell? ⟨g, o + v0 * 4 + 2, none⟩ = _ := fun z => (cell_same (p := ⟨g, o + v0 * 4 + 2, none⟩) (ag z)).trans e2
        have a6 : ∀ z : CW C0, z.w.cell? ⟨g, o + v0 * 4 + 3, none⟩ = _ := fun z => (cell_same (p := ⟨g, o + v0 * 4 + 3, none⟩) (ag z)).trans e3
        have h0 : C0 W1.drew := by subst hC0; exact (Fr.refl _ W1).drew
        have hne : Nonempty (CW C0) := ⟨⟨_, h0⟩⟩
        have hkpW : Kp obR.ts 0 w W1.drew := (hF1.drew).kp (fun g hg => by subst hg; exact not_sta HH.out.1.met (Nat.zero_le _) (by decide))
        have hox : obR.rd 0 W1.drew [.int .i64 xs[k].ob.tag, .slice Av nv cv, .string xs[k].ob.str] xs[k].ob := obR.keep _ _ _ _ _ hkpW (by obtain ⟨v', hv, _, h⟩ := itR_iff.1 hrx; simp only [List.cons.injEq] at hv; obtain ⟨-, -, hv, -⟩ := hv; subst hv; exact h)
        have hoy : obR.rd 0 W1.drew [.int .i64 xs[v0].ob.tag, .slice Ay ny cy, .string xs[v0].ob.str] xs[v0].ob := obR.keep _ _ _ _ _ hkpW (by obtain ⟨v', hv, _, h⟩ := itR_iff.1 hry; simp only [List.cons.injEq] at hv; obtain ⟨-, -, hv, -⟩ := hv; subst hv; exact h)
        have sx := HH.out.2.2.2.2 _ (List.getElem_mem hlt3)
        have sy := HH.out.2.2.2.2 _ (List.getElem_mem hv0)
        have hcall := meterE_any 0 mt m c2 xs[v0].ob xs[k].ob _ _ W1.drew (Nat.zero_le _) (hM1.kept rfl) hoy hox sy sx
        have hdw := bd_wf (distO_bd (m := m) hoy hox sy sx)
        generalize distO m xs[v0].ob xs[k].ob = d at *
        have hl8 : (L.length + 1) * 16 ≤ 140737488355328 := by omega
        have hkw : (Lit.int .i64 (k : Int)).wf = true := bd_wf ⟨by omega, by omega⟩
        have HC := Lib.hid hC0; clear hC0 ag
        have HR := Lib.hid (And.intro hO (And.intro hF (And.intro hM (And.intro hstp (And.intro hk (And.intro hF1 (And.intro hB1 (And.intro hdw (And.intro hl8 (And.intro hkw hcall))))))))))
        clear hO hF hM hstp hk d0 d1 d2 d3 e0 e1 e2 e3 hrx hry hbg hF1 hB1 j1 hT1 hM1 hkpW hox hoy sx sy hcall hdw hl8 hkw htm
        go_wp2_with fail
        rw [← hW1]
        clear hW1
        refine wp_region_hoist [true, true, true, true, true, true, true, true, true, true, true, true, true, false, false, false, false, false] 3 (fun w' => ∃ z : CW C0, w' = z.w) (by kernel_rfl) (by kernel_rfl) ⟨⟨_, h0⟩, rfl⟩ ?_
        simp only [pickR, pickE, List.take, List.drop, wpLate]
        repeat (go_big_quiet_step (fail))
        refine wpQuiet_nil ?_
        go_wp2_with fail
        obtain ⟨hO, hF, hM, hstp, hk, hF1, hB1, hdw, hl8, hkw, hcall⟩ := HR.out
        refine hcall.mono ?_
        clear hcall HR
        rintro er w3 ⟨rfl, hG, hM3⟩
        have hF3 : Fr (fun g => g = mt) W1 w3 := (Fr.refl _ W1).drew.grown hG (fun g hg => by cases hg; exact .inl rfl)
        have h3 : C0 w3 := by rw [HC.out]; exact hF3
        have hFw3 := hF1.trans hF3 (fun g hg => .inl hg)
        have hO3 : OwnRow faR 99 0 w.heap.size w3 (.slice A7 L.length c7) L := (hO.below hB1).keep (hF3.kp (fun g hg => by rintro (h | ⟨_, _, _, _, h⟩) <;> first | omega | simp [faR, Rd.iso, Rd.pair, Rd.int] at h)) (fun g hg => hF3.block g ((hO.below hB1).lt g hg).2 (fun e => by have := (hO.lt g hg).1; omega))
        have h4 : C0 (w3.alloc (.cells #[.int .i64 k, .int .i64 d] 99)) := by rw [HC.out]; exact hF3.alloc _
        have hs3 := hFw3.size
        have HS := Lib.hid (And.intro hO3 (And.intro hFw3 (And.intro hM3 (And.intro hstp (And.intro hk (And.intro hdw (And.intro hl8 (And.intro hkw hs3))))))))
        clear hO hF hM hstp hk hF1 hB1 hdw hl8 hkw hG hM3 hF3 hFw3 hO3 hs3
        go_wp2_with fail
        apply only_mk; refine And.intro ⟨⟨_, h3⟩, rfl⟩ ?_
        go_wp2_with fail
        apply only_mk; refine And.intro ⟨⟨_, h3⟩, rfl⟩ ?_
        go_wp2_with fail
        apply only_mk; refine And.intro ⟨⟨_, h4⟩, rfl⟩ ?_
        go_wp2_with (at_builtin; go_loud (refine wp_push (R := faR) (W := w3) rfl (.tmp 20) (.tmp 35) 91 (.agg #[.int .i64 0, .int .i64 0]) 16 rfl Try.underlying91 info_far rfl (by decide) (by decide) (.slice A7 L.length c7) L ⟨k, d⟩ #[.int .i64 k, .int .i64 d] (0, 0) rfl rfl (faR_iff.2 ⟨rfl, HS.out.2.2.2.2.2.2.2.1, HS.out.2.2.2.2.2.1⟩) HS.out.1 HS.out.2.2.2.2.2.2.2.2 (fun h => by cases h) (Nat.zero_le _) HS.out.2.2.2.2.2.2.1 ?_); intro v1 w4 hO4 hG4 _ _)
        apply only_mk
        go_wp2_with fail
        obtain ⟨hO3, hFw3, hM3, hstp, hk, hdw, hl8, hkw, hs3⟩ := HS.out
        exact ⟨⟨k + 1, _, by go_num, by omega, by rw [hstp]; exact hO4, hFw3.grown hG4 (fun g hg => .inr (hO3.lt _ hg).1), hM3.kept (hG4.block _ hM3.lt (fun e => by have := (hO3.lt _ e.symm).1; omega))⟩, by simp [intOf]; omega⟩
    · obtain rfl : k = xs.length := by omega
      have HR := Lib.hid (And.intro hO (And.intro hF hM)); clear hO hF hM
      go_wp2_with fail
      go_ret
      exact ⟨_, rfl, HR.out.1, HR.out.2.1, _, HH.out.1.metered HR.out.2.1 HR.out.2.2⟩
end Go.Proofs.Ytlcpfnhindfkfaa
