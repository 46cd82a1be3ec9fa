/-
  bktree: hang.
-/
import Derived.Test.YtjdcemmodkdajaaKid
namespace Go.Proofs.Ytjdcemmodkdajaa
open Go Go.RowKit Go.WW
structure CW (C : World → Prop) where
  w : World
  h : C w
theorem only_mk {K : Act → World → Prop} {a : Act} {w : World} (h : K a w) : only K .normal a w := h
theorem cut_world {P : Program} {c : Code} {Q : Exit → Act → World → Prop} {a : Act} {w : World} (F : World → Prop) (h1 : F w) (h2 : ∀ W, F W → c.wp P Q a W) : c.wp P Q a w := h2 w h1
theorem len_wf {n : Nat} (h : n ≤ 1048576) : (Lit.int .i64 (n : Int)).wf = true := by
  have h2 : (IntKind.i64).min = -9223372036854775808 := by decide
  have h3 : (IntKind.i64).max = 9223372036854775807 := by decide
  simp only [Lit.wf, h2, h3, Bool.and_eq_true, decide_eq_true_eq]
  omega
theorem info_nd : (Try.prog.info? 90).map (fun i => (i.zero, i.size, i.bytes)) = some (some (.agg #[.int .u64 0, .int .i64 0, .slice none 0 0, .string ⟨#[]⟩, .bool false, .int .i64 0, .int .i64 0, .slice none 0 0]), ndR.sz, 104) := by kernel_rfl
section
variable {own : Nat → Prop} {w : World} {t mb : Nat} {mtv lv : Value} {kv : List Value} {l : List Nd} {kl : Nat → List Nat} {gone : Int} {f : Int → Option Int}
theorem KT.zlen (h : KT own w t mtv lv mb kv l kl gone f) : (l.zip kv).length = l.length := by rw [List.length_zip, h.klen, Nat.min_self]
theorem KT.slice (h : KT own w t mtv lv mb kv l kl gone f) : ∃ A c, lv = .slice A l.length c := by
  obtain ⟨A, c, e⟩ := h.nodes.slice
  rw [h.zlen] at e
  exact ⟨A, c, e⟩
theorem KT.alloc (h : KT own w t mtv lv mb kv l kl gone f) (o : Obj) : KT own (w.alloc o) t mtv lv mb kv l kl gone f :=
  h.keep (TK.alloc (TK.refl Fz 0 w) o).kp (fun _ hg _ => Below.heap_alloc _ _ _ hg)
theorem KT.heap (h : KT own w t mtv lv mb kv l kl gone f) {w' : World} (hh : w'.heap = w.heap) : KT own w' t mtv lv mb kv l kl gone f :=
  h.keep (Kp.heap hh) (fun g hg _ => by rw [hh])
theorem KT.below (h : KT own w t mtv lv mb kv l kl gone f) {w' : World} (hb : Below w.heap.size w w') : KT own w' t mtv lv mb kv l kl gone f :=
  h.keep (TK.of_below hb).kp (fun g hg _ => hb.block g hg)
theorem KT.kls (h : KT own w t mtv lv mb kv l kl gone f) {kl' : Nat → List Nat} (hk : kl = kl') : KT own w t mtv lv mb kv l kl' gone f := hk ▸ h
end
theorem kidsOf_push (l : List Nd) (nd : Nd) (q : Nat) (hp : nd.par = (q : Int)) : (fun i => if i = q then kidsOf l q ++ [l.length] else kidsOf l i) = kidsOf (l ++ [nd]) := by
  funext i
  rw [kidsOf_snoc, hp]
  by_cases e : i = q
  · subst e; simp
  · have : ¬ (q : Int) = (i : Int) := by omega
    simp [e, this]
theorem kidsOf_push0 (l : List Nd) (nd : Nd) (hp : nd.par = -1) : kidsOf l = kidsOf (l ++ [nd]) := by
  funext i
  rw [kidsOf_snoc, hp]
  have : ¬ (-1 : Int) = (i : Int) := by omega
  simp [this]
theorem Up.snoc {l : List Nd} (h : Up l) {nd : Nd} (hp : nd.par < (l.length : Int)) : Up (l ++ [nd]) := by
  intro k n hk
  rcases Nat.lt_or_ge k l.length with hl | hl
  · rw [List.getElem?_append_left hl] at hk
    exact h k n hk
  · rw [List.getElem?_append_right hl] at hk
    have : k - l.length = 0 := by
      have := (List.getElem?_eq_some_iff.1 hk).1
      simp at this
      omega
    rw [this] at hk
    simp at hk
    subst hk
    omega
set_option maxRecDepth 100000 in
set_option maxHeartbeats 4000000 in
theorem hang_any {own : Nat → Prop} {w : World} {t mb : Nat} {mtv lv : Value} {kv : List Value} {l : List Nd} {gone : Int} {f : Int → Option Int} (b : Nat) (h : KT own w t mtv lv mb kv l (kidsOf l) gone f) (up : Up l) (hb : ∀ g, own g → b ≤ g)
    (x : It) (cx : List Value) (hx : itR.rd b w cx x) (sx : Short x.ob) (p e : Int) (hp : p = -1 ∨ ∃ q : Nat, p = q ∧ q < l.length) (he : (Lit.int .i64 e).wf = true) (hn : l.length ≤ 1048575) (hd : ∀ y, f y ≠ none → y ∈ l.map (fun n => n.it.id)) :
    Calls Try.prog 51 #[.pointer (some ⟨t, 0, none⟩), .agg cx.toArray, .int .i64 p, .int .i64 e] w fun r w' => r = .returned (.tuple #[]) ∧ Fr (nf own w) w w' ∧
      ∃ lv' kv', KT (More own w) w' t mtv lv' mb kv' (l ++ [⟨x, false, p, e⟩]) (kidsOf (l ++ [⟨x, false, p, e⟩])) gone (upd f x.id (some l.length)) := by
  obtain ⟨vx, rfl, hid, hxo⟩ := itR_iff.1 hx
  obtain ⟨_, hvx, _, rx, _⟩ := obR_iff.1 hxo
  simp only [List.cons.injEq, and_true, true_and] at hvx
  obtain ⟨rfl, _⟩ := hvx
  obtain ⟨Al, cl, hlv⟩ := h.slice
  subst hlv
  have hlw := len_wf (n := l.length) (by omega)
  have hpw : (Lit.int .i64 p).wf = true := by
    rcases hp with rfl | ⟨q, rfl, hq⟩
    · rfl
    · exact len_wf (by omega)
  have hpl : p < (l.length : Int) := by rcases hp with rfl | ⟨q, rfl, hq⟩ <;> omega
  have hk0 : kidsOf (l ++ [⟨x, false, p, e⟩]) l.length = [] := by
    have : kidsOf l l.length = [] := kidsOf_new up (Nat.le_refl _)
    rw [kidsOf_snoc, this]
    simp
    omega
  have HX := Lib.hid (And.intro hx (And.intro hxo (And.intro rx (And.intro hk0 (And.intro up hb)))))
  have HP := Lib.hid (And.intro hpw hpl)
  clear hx hxo rx hk0 up hb hpw hpl
  have c0 := h.row.cell
  have f0 := h.row.frozen
  have hlt := h.row.lt
  have hom0 : nf own w mb := ⟨h.om, by obtain ⟨es, c, hmb⟩ := h.map.isMap; exact not_frz_map hmb⟩
  have hol := h.ol
  have hof : ∀ g, (Value.slice Al l.length cl).ownBlock = some g → ¬ Frz w g := fun g hg => by obtain ⟨d, hd⟩ := h.nodb hg; exact not_frz hd (by decide)
  have hot0 : nf own w t := ⟨h.ot, not_frz h.row (by decide)⟩
  rcases hp with rfl | ⟨q, rfl, hq⟩
  · go_enter Try.func51, Try.ntmps51
    go_wp2_with fail
    refine cut_world (fun W => KT (More own w) W t mtv (.slice Al l.length cl) mb kv l (kidsOf (l ++ [⟨x, false, -1, e⟩])) gone f ∧ Fr (nf own w) w W ∧ IRow 38 W w.heap.size [.int .u64 x.id, .int .i64 x.ob.tag, vx, .string x.ob.str] ∧ w.heap.size < W.heap.size) ?_ ?_
    · refine ⟨?_, (Fr.refl _ w).alloc _, IRow.new w _ _, by simp⟩
      exact ((h.alloc _).grow (fun g hg => .inl hg)).kls (kidsOf_push0 l _ rfl)
    intro W2 ⟨hW2, hF2, hI2, hS2⟩
    clear h c0 f0
    have c4 := hW2.row.cell
    have f4 := hW2.row.frozen
    have c5 := hI2.cell
    obtain ⟨w3, hrun, hm3, hg3⟩ := (hW2.map.kept (w' := W2.drew) rfl).store (t := 78) Try.underlying33 Try.underlying3 Try.underlying78 hid hlw (L := l.map (fun n => n.it.id)) (fun y _ hy => hd y hy) (by rw [List.length_map]; unfold maxLen; omega)
    have H2 := Lib.hid (And.intro hW2 (And.intro hF2 (And.intro hI2 (And.intro hS2 (And.intro hm3 hg3)))))
    clear hW2 hF2 hI2 hS2 hm3 hg3
    refine wp_region_hoist [true, true, true, true, true, true, true, true, true, true, true, false] 0 (fun w' => ∃ n, w' = World.drewN W2 n) (by kernel_rfl) (by kernel_rfl) ⟨1, rfl⟩ ?_
    simp only [pickR, pickE, List.take, List.drop, wpLate]
    repeat (go_big_quiet_step (fail))
    refine wpQuiet_nil ?_
    go_wp2_with fail
    apply only_mk
    have hK3 := (H2.out.1.heap (w' := W2.drew) rfl).setMap H2.out.2.2.2.2.1 H2.out.2.2.2.2.2
    have hF3 : Fr (nf own w) w w3 := (H2.out.2.1.drew).grown H2.out.2.2.2.2.2 (fun g hg => by cases hg; exact .inl hom0)
    have hI3 : IRow 38 w3 w.heap.size [.int .u64 x.id, .int .i64 x.ob.tag, vx, .string x.ob.str] := H2.out.2.2.1.kept (H2.out.2.2.2.2.2.block _ H2.out.2.2.2.1 (fun e => by
      obtain ⟨es, cc, hmb⟩ := H2.out.1.map.isMap
      cases e
      exact blk_ne_map H2.out.2.2.1 hmb rfl))
    have hS3 : w.heap.size < w3.heap.size := Nat.lt_of_lt_of_le H2.out.2.2.2.1 H2.out.2.2.2.2.2.size
    have hx3 := obR.keep _ _ _ _ _ (hF3.kp (ts := obR.ts) (b := b) (fun g hg => hg.sta HX.out.2.2.2.2.2)) HX.out.2.1
    clear c4 c5 f4 hrun
    have c6 := hK3.row.cell
    have f6 := hK3.row.frozen
    have c7 := hI3.cell
    obtain ⟨C1, hC1⟩ : ∃ C0 : World → Prop, C0 = fun w' => w'.heap[t]? = w3.heap[t]? ∧ w'.heap[w.heap.size]? = w3.heap[w.heap.size]? := ⟨_, rfl⟩
    have s1 : ∀ (z : CW C1) j, z.w.cell? ⟨t, j, none⟩ = w3.cell? ⟨t, j, none⟩ := by rintro ⟨w', hw⟩ j; subst hC1; exact cell_same hw.1
    have s2 : ∀ (z : CW C1) j, z.w.cell? ⟨w.heap.size, j, none⟩ = w3.cell? ⟨w.heap.size, j, none⟩ := by rintro ⟨w', hw⟩ j; subst hC1; exact cell_same hw.2
    have : Nonempty (CW C1) := by subst hC1; exact ⟨⟨w3, rfl, rfl⟩⟩
    have H3 := Lib.hid (And.intro hC1 (And.intro hK3 (And.intro hF3 (And.intro hI3 (And.intro hS3 hx3)))))
    clear hC1 hK3 hF3 hI3 hS3 hx3
    go_wp2_with fail
    refine wp_region_hoist [true, true, true, true, true, true, true, true, true, false, false, true, true, false, false, false, false, false, false, false] 6 (fun w' => ∃ z : CW C1, w' = z.w) (by kernel_rfl) (by kernel_rfl) ?_ ?_
    · have h0 : C1 w3.drew := by rw [H3.out.1]; exact ⟨rfl, rfl⟩
      exact ⟨⟨_, h0⟩, rfl⟩
    simp only [pickR, pickE, List.take, List.drop, wpLate]
    repeat (go_big_quiet_step (fail))
    refine wpQuiet_nil ?_
    go_wp2_with fail
    refine (oclone_any b x.ob _ _ (obR_below H3.out.2.2.2.2.2 (bl_drewN w3 1)) sx).mono ?_
    rintro er w4 ⟨cs, rfl, hcs, hb4⟩
    obtain ⟨v4, rfl, hw4, hr4, hs4⟩ := obR_iff.1 hcs
    go_wp2_with fail
    have hC4 : C1 w4 := by rw [H3.out.1]; exact ⟨hb4.block t H3.out.2.1.row.lt, hb4.block _ H3.out.2.2.2.2.1⟩
    have hK4 := H3.out.2.1.below (w' := w4) ⟨hb4.os, hb4.tape, hb4.output, hb4.size, hb4.block⟩
    have hit : itR.rd 0 w4 [.int .u64 x.id, .int .i64 x.ob.tag, v4, .string x.ob.str] x := itR_iff.2 ⟨_, rfl, hid, hcs⟩
    have hnd : ndR.rd 0 w4 [.int .u64 x.id, .int .i64 x.ob.tag, v4, .string x.ob.str, .bool false, .int .i64 (-1), .int .i64 e, .slice none 0 0] (⟨x, false, -1, e⟩, .slice none 0 0) := ndR_iff.2 ⟨_, rfl, hit, HP.out.1, he, rfl⟩
    have hzl : ((l.zip (kv)).length + 1) * 104 ≤ 140737488355328 := by rw [hK4.zlen]; omega
    obtain ⟨A4, n4, c4, hv4⟩ : ∃ A4 n4 c4, v4 = .slice A4 n4 c4 := by obtain ⟨A4, c4, h4, _⟩ := hr4.at; exact ⟨A4, _, c4, h4⟩
    subst hv4
    have H4 := Lib.hid (And.intro hK4 (And.intro hnd (And.intro hzl hb4)))
    clear hcs hr4 hK4 hit hnd hzl hb4
    go_wp2_with fail
    apply only_mk; refine And.intro ⟨⟨_, hC4⟩, rfl⟩ ?_
    go_wp2_with fail
    apply only_mk; refine And.intro ⟨⟨_, hC4⟩, rfl⟩ ?_
    go_wp2_with fail
    apply only_mk; refine And.intro ⟨⟨_, hC4⟩, rfl⟩ ?_
    go_wp2_with fail
    apply only_mk; refine And.intro ⟨⟨_, hC4⟩, rfl⟩ ?_
    go_wp2_with fail
    apply only_mk; refine And.intro ?_ ?_
    · have h0 : C1 (w4.alloc (.cells #[.int .u64 x.id, .int .i64 x.ob.tag, .slice A4 n4 c4, .string x.ob.str, .bool false, .int .i64 (-1), .int .i64 e, .slice none 0 0] 90)) := by
        rw [H3.out.1] at hC4 ⊢
        exact ⟨(Below.heap_alloc _ _ _ (H4.out.1.row.lt)).trans hC4.1, (Below.heap_alloc _ _ _ (Nat.lt_of_lt_of_le H3.out.2.2.2.2.1 H4.out.2.2.2.size)).trans hC4.2⟩
      exact ⟨⟨_, h0⟩, rfl⟩
    go_wp2_with (at_builtin; go_loud (refine wp_push (R := ndR) (W := w4) rfl (.tmp 47) (.tmp 58) 79 _ 104 rfl Try.underlying79 info_nd rfl (by decide) (by decide) ((.slice Al l.length cl)) (l.zip (kv)) (⟨x, false, -1, e⟩, .slice none 0 0) #[.int .u64 x.id, .int .i64 x.ob.tag, .slice A4 n4 c4, .string x.ob.str, .bool false, .int .i64 (-1), .int .i64 e, .slice none 0 0] (0, 0) rfl rfl H4.out.2.1 H4.out.1.nodes (Nat.zero_le _) (by decide) (Nat.le_refl _) H4.out.2.2.1 ?_); intro v5 w5 hO5 hG5 hb5 _)
    have hrow5 : ∀ {g T : Nat} {c' : Array Value} {fr : Nat × Nat}, w4.heap[g]? = some (.cells c' T fr) → T ≠ 90 → w5.heap[g]? = w4.heap[g]? := fun {g T c' fr} hh hT => hG5.block g (Array.getElem?_eq_some_iff.1 hh).1 (fun e => by
      obtain ⟨d, hd⟩ := H4.out.1.nodb e.symm
      exact blk_ne hh hd hT rfl)
    have hC4' := hC4
    rw [H3.out.1] at hC4'
    have ht5 : w5.heap[t]? = w3.heap[t]? := (hrow5 H4.out.1.row (by decide)).trans hC4'.1
    have hi5 : w5.heap[w.heap.size]? = w3.heap[w.heap.size]? := (hrow5 (hC4'.2.trans H3.out.2.2.2.1) (by decide)).trans hC4'.2
    have hC5 : C1 w5 := by rw [H3.out.1]; exact ⟨ht5, hi5⟩
    have hR5 := H3.out.2.1.row.kept ht5
    have c8 := hR5.cell
    have f8 := hR5.frozen
    obtain ⟨A5, n5, c5, hv5⟩ : ∃ A5 n5 c5, v5 = .slice A5 n5 c5 := by obtain ⟨A5, c5, h5⟩ := hO5.slice; exact ⟨A5, _, c5, h5⟩
    subst hv5
    have H5 := Lib.hid (And.intro hO5 (And.intro hG5 (And.intro hb5 hR5)))
    clear hO5 hG5 hb5 hR5 hrow5 hC4' ht5 hi5
    refine And.intro ⟨⟨_, hC5⟩, rfl⟩ ?_
    go_wp2_with fail
    apply only_mk
    go_wp2_with fail
    go_end0
    refine ⟨rfl, ?_, _, _, (H4.out.1.pushNode (nd := ⟨x, false, -1, e⟩) H5.out.1 H5.out.2.1 H5.out.2.2.1 HX.out.2.2.2.1).grow (fun g hg => ?_)⟩
    · have hF4 : Fr (nf own w) w w4 := H3.out.2.2.1.drew.below H4.out.2.2.2 (by have := H3.out.2.2.1.size; simpa using this)
      exact (hF4.grown H5.out.2.1 (fun g hg => .inl ⟨hol g hg, hof g hg⟩)).setCell _ (.inl hot0)
    · have h3 := H3.out.2.2.1.size
      have h4 : w3.heap.size ≤ w4.heap.size := H4.out.2.2.2.size
      rcases hg with (hg | hg) | hg
      · exact .inl hg
      · exact .inr hg
      · exact .inr (Nat.le_trans h3 (Nat.le_trans h4 hg))
  · have hhq : (0 : Int) ≤ q := Int.natCast_nonneg _
    obtain ⟨lb, cap, hlv, hlb, hc1, hc2, hfr, hat⟩ := h.blk (by rintro rfl; simp at hq)
    injection hlv with e1 _ e2
    subst e1 e2
    obtain ⟨_, u, hki, hone, _, _, _, _, _, _, _, _, _, _, c2⟩ := hat q hq
    obtain ⟨A, c, hu⟩ := (h.kids q u hki).slice
    subst hu
    obtain ⟨C0, hC0⟩ : ∃ C0 : World → Prop, C0 = fun w' => w'.heap[t]? = w.heap[t]? ∧ w'.heap[lb]? = w.heap[lb]? := ⟨_, rfl⟩
    have r1 : ∀ z : CW C0, z.w.cell? ⟨t, 1, none⟩ = some (.slice (some ⟨lb, 0, none⟩) l.length cl) := by rintro ⟨w', hw⟩; subst hC0; exact (cell_same hw.1).trans (c0 1)
    have r2 : ∀ z : CW C0, z.w.cell? ⟨lb, q * 8 + 7, none⟩ = some (.slice A (nats (kidsOf l q)).length c) := by rintro ⟨w', hw⟩; subst hC0; exact (cell_same hw.2).trans c2
    have : Nonempty (CW C0) := by subst hC0; exact ⟨⟨w, rfl, rfl⟩⟩
    have hnl : ((nats (kidsOf l q)).length + 1) * 8 ≤ 140737488355328 := by have := kidsFrom_len (i := q) (l := l) (m := 0); rw [nat_len]; unfold kidsOf; omega
    have HN := Lib.hid (And.intro hnl (And.intro hC0 (And.intro hat hfr))); clear hnl hC0 hat hfr
    have HH := Lib.hid h; clear h
    go_enter Try.func51, Try.ntmps51
    go_wp2_with fail
    refine cut_world (fun W => w.heap.size < W.heap.size ∧ KT own W t mtv (.slice (some ⟨lb, 0, none⟩) l.length cl) mb kv l (kidsOf l) gone f ∧ Below w.heap.size w W ∧ IRow 38 W w.heap.size [.int .u64 x.id, .int .i64 x.ob.tag, vx, .string x.ob.str]) ?_ ?_
    · exact ⟨by simp, HH.out.alloc _, (Below.refl _ w).alloc (Nat.le_refl _) _, IRow.new w _ _⟩
    intro W ⟨hWs, hW, hWB, hWI⟩
    have HW := Lib.hid (And.intro hW (And.intro hWB (And.intro hWI hWs))); clear hW hWB hWI hWs
    refine wp_region_hoist [true, true, true, true, true, true, true, true, true, true, true, true, true, true, true, true, true, true, false, false, false, false, false] 2 (fun w' => ∃ z : CW C0, w' = z.w) (by kernel_rfl) (by kernel_rfl) ?_ ?_
    · have h0 : C0 W.drew := by rw [HN.out.2.1]; exact ⟨HW.out.2.1.block t hlt, HW.out.2.1.block lb hlb⟩
      exact ⟨⟨_, h0⟩, rfl⟩
    simp only [pickR, pickE, List.take, List.drop, wpLate]
    repeat (go_big_quiet_step (fail))
    refine wpQuiet_nil ?_
    go_wp2_with fail
    apply only_mk; refine And.intro ?_ ?_
    · have h0 : C0 (W.drew.alloc (.cells #[.int .i64 (l.length : Int)] 3)) := by
        rw [HN.out.2.1]
        exact ⟨(Below.heap_alloc _ _ _ (HW.out.1.row.lt)).trans (HW.out.2.1.block t hlt), (Below.heap_alloc _ _ _ (Nat.lt_of_lt_of_le hlb (Nat.le_of_lt HW.out.2.2.2))).trans (HW.out.2.1.block lb hlb)⟩
      exact ⟨⟨_, h0⟩, rfl⟩
    go_wp2_with (at_builtin; refine wp_push (R := intR) (W := W.drew) rfl (.tmp 22) (.tmp 28) 39 (.int .i64 0) 8 rfl Try.underlying39 (by kernel_rfl) rfl (by decide) (by decide) (.slice A (nats (kidsOf l q)).length c) (nats (kidsOf l q)) (l.length : Int) #[.int .i64 (l.length : Int)] (0, 0) rfl rfl ⟨rfl, hlw⟩ ((HW.out.1.kids q _ hki).heap rfl) (Nat.zero_le _) (fun h => by cases h) (Nat.le_refl _) HN.out.1 ?_; intro v1 w1 hO1 hG1 hb1 _)
    have hne : ∀ {g T : Nat} {c' : Array Value} {fr : Nat × Nat}, W.heap[g]? = some (.cells c' T fr) → T ≠ 3 → w1.heap[g]? = W.heap[g]? := fun {g T c' fr} hh hT => hG1.block g (Array.getElem?_eq_some_iff.1 hh).1 (fun e => by
      obtain ⟨d, hd⟩ := HW.out.1.kidb hki e.symm
      exact blk_ne hh hd hT rfl)
    obtain ⟨dl, hdl⟩ := HW.out.1.nodb (g := lb) rfl
    have ht1 := (hne HW.out.1.row (by decide)).trans (HW.out.2.1.block t hlt)
    have hl1 := (hne hdl (by decide)).trans (HW.out.2.1.block lb hlb)
    have f2 : ∀ j, w1.frozen? ⟨lb, j, none⟩ = false := fun j => (frozen_same hl1).trans (HN.out.2.2.2 j)
    have c3 := (cell_same (p := ⟨lb, q * 8 + 7, none⟩) hl1).trans c2
    obtain ⟨A1, n1, cc1, hv1⟩ : ∃ A1 n1 cc1, v1 = .slice A1 n1 cc1 := by obtain ⟨A1, c1, e1⟩ := hO1.slice; exact ⟨A1, _, c1, e1⟩
    subst hv1
    have H1 := Lib.hid (And.intro hO1 (And.intro hG1 (And.intro hb1 (And.intro ht1 hl1))))
    clear hO1 hG1 hb1 hne ht1 hl1 hdl
    refine And.intro ?_ ?_
    · have h0 : C0 w1 := by rw [HN.out.2.1]; exact H1.out.2.2.2
      exact ⟨⟨_, h0⟩, rfl⟩
    go_wp2_with fail
    apply only_mk
    go_wp2_with fail
    refine cut_world (fun W => KT (More own w) W t mtv (.slice (some ⟨lb, 0, none⟩) l.length cl) mb (kv.set q (.slice A1 n1 cc1)) l (kidsOf (l ++ [⟨x, false, (q : Int), e⟩])) gone f ∧ Fr (nf own w) w W ∧ IRow 38 W w.heap.size [.int .u64 x.id, .int .i64 x.ob.tag, vx, .string x.ob.str] ∧ w.heap.size < W.heap.size) ?_ ?_
    · obtain ⟨hO1, hG1, hb1, _, _⟩ := H1.out
      obtain ⟨hW, hWB, hWI, hWs⟩ := HW.out
      have hg2 : W.grownBy w1 (Value.slice A (nats (kidsOf l q)).length c).ownBlock := ⟨hG1.os, hG1.tape, hG1.output, hG1.size, hG1.block⟩
      have hp := hW.pushKid (p := q) (k := l.length) hki hO1 hg2 hb1
      have hIb : w1.heap[w.heap.size]? = W.heap[w.heap.size]? := hg2.block _ hWs (fun e => by obtain ⟨d, hd⟩ := hW.kidb hki e.symm; exact blk_ne hWI hd (by decide) rfl)
      refine ⟨(hp.grow (fun g hg => ?_)).kls (kidsOf_push l _ q rfl), ?_, (hWI.kept hIb).kept (Below.heap_setCell _ _ _ _ (by show w.heap.size ≠ lb; omega)), Nat.lt_of_lt_of_le hWs (by simpa using hg2.size)⟩
      · rcases hg with hg | hg
        · exact .inl hg
        · exact .inr (by omega)
      · exact (((Fr.of_below hWB).grown hg2 (fun g hg => .inl ⟨hW.ok _ (List.mem_of_getElem? hki) g hg, by obtain ⟨d, hd⟩ := HH.out.kidb hki hg; exact not_frz hd (by decide)⟩))).setCell _ (.inl ⟨hW.ol lb rfl, by obtain ⟨d, hd⟩ := HH.out.nodb (g := lb) rfl; exact not_frz hd (by decide)⟩)
    intro W2 ⟨hW2, hF2, hI2, hS2⟩
    clear c0 f0 r1 r2 f2 c2 c3
    have c4 := hW2.row.cell
    have f4 := hW2.row.frozen
    have c5 := hI2.cell
    obtain ⟨w3, hrun, hm3, hg3⟩ := (hW2.map.kept (w' := W2.drew) rfl).store (t := 78) Try.underlying33 Try.underlying3 Try.underlying78 hid hlw (L := l.map (fun n => n.it.id)) (fun y _ hy => hd y hy) (by rw [List.length_map]; unfold maxLen; omega)
    have H2 := Lib.hid (And.intro hW2 (And.intro hF2 (And.intro hI2 (And.intro hS2 (And.intro hm3 hg3)))))
    clear hW2 hF2 hI2 hS2 hm3 hg3
    refine wp_region_hoist [true, true, true, true, true, true, true, true, true, true, true, false] 0 (fun w' => ∃ n, w' = World.drewN W2 n) (by kernel_rfl) (by kernel_rfl) ⟨1, rfl⟩ ?_
    simp only [pickR, pickE, List.take, List.drop, wpLate]
    repeat (go_big_quiet_step (fail))
    refine wpQuiet_nil ?_
    go_wp2_with fail
    apply only_mk
    have hK3 := (H2.out.1.heap (w' := W2.drew) rfl).setMap H2.out.2.2.2.2.1 H2.out.2.2.2.2.2
    have hF3 : Fr (nf own w) w w3 := (H2.out.2.1.drew).grown H2.out.2.2.2.2.2 (fun g hg => by cases hg; exact .inl hom0)
    have hI3 : IRow 38 w3 w.heap.size [.int .u64 x.id, .int .i64 x.ob.tag, vx, .string x.ob.str] := H2.out.2.2.1.kept (H2.out.2.2.2.2.2.block _ H2.out.2.2.2.1 (fun e => by
      obtain ⟨es, cc, hmb⟩ := H2.out.1.map.isMap
      cases e
      exact blk_ne_map H2.out.2.2.1 hmb rfl))
    have hS3 : w.heap.size < w3.heap.size := Nat.lt_of_lt_of_le H2.out.2.2.2.1 H2.out.2.2.2.2.2.size
    have hx3 := obR.keep _ _ _ _ _ (hF3.kp (ts := obR.ts) (b := b) (fun g hg => hg.sta HX.out.2.2.2.2.2)) HX.out.2.1
    clear c4 c5 f4 hrun
    have c6 := hK3.row.cell
    have f6 := hK3.row.frozen
    have c7 := hI3.cell
    obtain ⟨C1, hC1⟩ : ∃ C0 : World → Prop, C0 = fun w' => w'.heap[t]? = w3.heap[t]? ∧ w'.heap[w.heap.size]? = w3.heap[w.heap.size]? := ⟨_, rfl⟩
    have s1 : ∀ (z : CW C1) j, z.w.cell? ⟨t, j, none⟩ = w3.cell? ⟨t, j, none⟩ := by rintro ⟨w', hw⟩ j; subst hC1; exact cell_same hw.1
    have s2 : ∀ (z : CW C1) j, z.w.cell? ⟨w.heap.size, j, none⟩ = w3.cell? ⟨w.heap.size, j, none⟩ := by rintro ⟨w', hw⟩ j; subst hC1; exact cell_same hw.2
    have : Nonempty (CW C1) := by subst hC1; exact ⟨⟨w3, rfl, rfl⟩⟩
    have H3 := Lib.hid (And.intro hC1 (And.intro hK3 (And.intro hF3 (And.intro hI3 (And.intro hS3 hx3)))))
    clear hC1 hK3 hF3 hI3 hS3 hx3
    go_wp2_with fail
    refine wp_region_hoist [true, true, true, true, true, true, true, true, true, false, false, true, true, false, false, false, false, false, false, false] 6 (fun w' => ∃ z : CW C1, w' = z.w) (by kernel_rfl) (by kernel_rfl) ?_ ?_
    · have h0 : C1 w3.drew := by rw [H3.out.1]; exact ⟨rfl, rfl⟩
      exact ⟨⟨_, h0⟩, rfl⟩
    simp only [pickR, pickE, List.take, List.drop, wpLate]
    repeat (go_big_quiet_step (fail))
    refine wpQuiet_nil ?_
    go_wp2_with fail
    refine (oclone_any b x.ob _ _ (obR_below H3.out.2.2.2.2.2 (bl_drewN w3 1)) sx).mono ?_
    rintro er w4 ⟨cs, rfl, hcs, hb4⟩
    obtain ⟨v4, rfl, hw4, hr4, hs4⟩ := obR_iff.1 hcs
    go_wp2_with fail
    have hC4 : C1 w4 := by rw [H3.out.1]; exact ⟨hb4.block t H3.out.2.1.row.lt, hb4.block _ H3.out.2.2.2.2.1⟩
    have hK4 := H3.out.2.1.below (w' := w4) ⟨hb4.os, hb4.tape, hb4.output, hb4.size, hb4.block⟩
    have hit : itR.rd 0 w4 [.int .u64 x.id, .int .i64 x.ob.tag, v4, .string x.ob.str] x := itR_iff.2 ⟨_, rfl, hid, hcs⟩
    have hnd : ndR.rd 0 w4 [.int .u64 x.id, .int .i64 x.ob.tag, v4, .string x.ob.str, .bool false, .int .i64 ((q : Int)), .int .i64 e, .slice none 0 0] (⟨x, false, (q : Int), e⟩, .slice none 0 0) := ndR_iff.2 ⟨_, rfl, hit, HP.out.1, he, rfl⟩
    have hzl : ((l.zip (kv.set q (.slice A1 n1 cc1))).length + 1) * 104 ≤ 140737488355328 := by rw [hK4.zlen]; omega
    obtain ⟨A4, n4, c4, hv4⟩ : ∃ A4 n4 c4, v4 = .slice A4 n4 c4 := by obtain ⟨A4, c4, h4, _⟩ := hr4.at; exact ⟨A4, _, c4, h4⟩
    subst hv4
    have H4 := Lib.hid (And.intro hK4 (And.intro hnd (And.intro hzl hb4)))
    clear hcs hr4 hK4 hit hnd hzl hb4
    go_wp2_with fail
    apply only_mk; refine And.intro ⟨⟨_, hC4⟩, rfl⟩ ?_
    go_wp2_with fail
    apply only_mk; refine And.intro ⟨⟨_, hC4⟩, rfl⟩ ?_
    go_wp2_with fail
    apply only_mk; refine And.intro ⟨⟨_, hC4⟩, rfl⟩ ?_
    go_wp2_with fail
    apply only_mk; refine And.intro ⟨⟨_, hC4⟩, rfl⟩ ?_
    go_wp2_with fail
    apply only_mk; refine And.intro ?_ ?_
    · have h0 : C1 (w4.alloc (.cells #[.int .u64 x.id, .int .i64 x.ob.tag, .slice A4 n4 c4, .string x.ob.str, .bool false, .int .i64 ((q : Int)), .int .i64 e, .slice none 0 0] 90)) := by
        rw [H3.out.1] at hC4 ⊢
        exact ⟨(Below.heap_alloc _ _ _ (H4.out.1.row.lt)).trans hC4.1, (Below.heap_alloc _ _ _ (Nat.lt_of_lt_of_le H3.out.2.2.2.2.1 H4.out.2.2.2.size)).trans hC4.2⟩
      exact ⟨⟨_, h0⟩, rfl⟩
    go_wp2_with (at_builtin; go_loud (refine wp_push (R := ndR) (W := w4) rfl (.tmp 47) (.tmp 58) 79 _ 104 rfl Try.underlying79 info_nd rfl (by decide) (by decide) ((.slice (some ⟨lb, 0, none⟩) l.length cl)) (l.zip (kv.set q (.slice A1 n1 cc1))) (⟨x, false, (q : Int), e⟩, .slice none 0 0) #[.int .u64 x.id, .int .i64 x.ob.tag, .slice A4 n4 c4, .string x.ob.str, .bool false, .int .i64 ((q : Int)), .int .i64 e, .slice none 0 0] (0, 0) rfl rfl H4.out.2.1 H4.out.1.nodes (Nat.zero_le _) (by decide) (Nat.le_refl _) H4.out.2.2.1 ?_); intro v5 w5 hO5 hG5 hb5 _)
    have hrow5 : ∀ {g T : Nat} {c' : Array Value} {fr : Nat × Nat}, w4.heap[g]? = some (.cells c' T fr) → T ≠ 90 → w5.heap[g]? = w4.heap[g]? := fun {g T c' fr} hh hT => hG5.block g (Array.getElem?_eq_some_iff.1 hh).1 (fun e => by
      obtain ⟨d, hd⟩ := H4.out.1.nodb e.symm
      exact blk_ne hh hd hT rfl)
    have hC4' := hC4
    rw [H3.out.1] at hC4'
    have ht5 : w5.heap[t]? = w3.heap[t]? := (hrow5 H4.out.1.row (by decide)).trans hC4'.1
    have hi5 : w5.heap[w.heap.size]? = w3.heap[w.heap.size]? := (hrow5 (hC4'.2.trans H3.out.2.2.2.1) (by decide)).trans hC4'.2
    have hC5 : C1 w5 := by rw [H3.out.1]; exact ⟨ht5, hi5⟩
    have hR5 := H3.out.2.1.row.kept ht5
    have c8 := hR5.cell
    have f8 := hR5.frozen
    obtain ⟨A5, n5, c5, hv5⟩ : ∃ A5 n5 c5, v5 = .slice A5 n5 c5 := by obtain ⟨A5, c5, h5⟩ := hO5.slice; exact ⟨A5, _, c5, h5⟩
    subst hv5
    have H5 := Lib.hid (And.intro hO5 (And.intro hG5 (And.intro hb5 hR5)))
    clear hO5 hG5 hb5 hR5 hrow5 hC4' ht5 hi5
    refine And.intro ⟨⟨_, hC5⟩, rfl⟩ ?_
    go_wp2_with fail
    apply only_mk
    go_wp2_with fail
    go_end0
    refine ⟨rfl, ?_, _, _, (H4.out.1.pushNode (nd := ⟨x, false, (q : Int), e⟩) H5.out.1 H5.out.2.1 H5.out.2.2.1 HX.out.2.2.2.1).grow (fun g hg => ?_)⟩
    · have hF4 : Fr (nf own w) w w4 := H3.out.2.2.1.drew.below H4.out.2.2.2 (by have := H3.out.2.2.1.size; simpa using this)
      exact (hF4.grown H5.out.2.1 (fun g hg => .inl ⟨hol g hg, hof g hg⟩)).setCell _ (.inl hot0)
    · have h3 := H3.out.2.2.1.size
      have h4 : w3.heap.size ≤ w4.heap.size := H4.out.2.2.2.size
      rcases hg with (hg | hg) | hg
      · exact .inl hg
      · exact .inr hg
      · exact .inr (Nat.le_trans h3 (Nat.le_trans h4 hg))
end Go.Proofs.Ytjdcemmodkdajaa
