/-
  bktree: Delete.
-/
import Derived.Test.YtjdcemmodkdajaaAnew
namespace Go.Proofs.Ytjdcemmodkdajaa
open Go Go.RowKit Go.WW
def gcnt (l : List Nd) : Nat := (l.filter (fun n => n.gone)).length
def markN (l : List Nd) (id : Int) : List Nd := l.map (fun n => if n.it.id = id then { n with gone := true } else n)
def cutN (m : Int) (l : List Nd) (id : Int) : List Nd := if 2 * gcnt (markN l id) > l.length then anewN m (markN l id) else markN l id
theorem markN_len (l : List Nd) (id : Int) : (markN l id).length = l.length := List.length_map ..
theorem gcnt_le (l : List Nd) : gcnt l ≤ l.length := List.length_filter_le ..
theorem mark_set {l : List Nd} {f : Int → Option Int} (h : TI l f) {id : Int} {k : Nat} (hk : k < l.length) (hf : f id = some (k : Int)) : l.set k { l[k] with gone := true } = markN l id := by
  have hid : l[k].it.id = id := by
    obtain ⟨j, n, h0, h1, h2, _⟩ := h.at_ id k hf
    have : j = k := by omega
    subst this
    rw [List.getElem?_eq_getElem hk] at h1
    cases h1
    exact h2
  apply List.ext_getElem?
  intro i
  unfold markN
  rw [List.getElem?_map]
  by_cases e : i = k
  · subst e
    rw [List.getElem?_set_self hk, List.getElem?_eq_getElem hk]
    simp [hid]
  · rw [List.getElem?_set_ne (Ne.symm e)]
    cases hi : l[i]? with
    | none => rfl
    | some n =>
      simp only [Option.map_some, Option.some.injEq]
      by_cases hn : n.it.id = id
      · rw [if_pos hn]
        cases hg : n.gone with
        | true => cases n; simp at hg; subst hg; rfl
        | false =>
          have := h.has i n hi hg
          rw [hn, hf] at this
          injection this with this
          omega
      · rw [if_neg hn]
theorem gcnt_mark {l : List Nd} {f : Int → Option Int} (h : TI l f) {id : Int} {k : Nat} (hk : k < l.length) (hf : f id = some (k : Int)) (hg : l[k].gone = false) : gcnt (markN l id) = gcnt l + 1 := by
  rw [← mark_set h hk hf]
  clear h hf
  unfold gcnt
  induction l generalizing k with
  | nil => simp at hk
  | cons a r ih =>
    cases k with
    | zero =>
      simp only [List.getElem_cons_zero] at hg
      simp [hg]
    | succ j =>
      have := ih (k := j) (by simpa using hk) (by simpa using hg)
      simp only [List.set_cons_succ, List.getElem_cons_succ, List.filter_cons]
      split <;> simp_all
theorem TI.mark {l : List Nd} {f : Int → Option Int} (h : TI l f) (id : Int) : TI (markN l id) (upd f id none) := by
  constructor
  · intro y v hv
    unfold upd at hv
    split at hv
    · cases hv
    · rename_i hne
      obtain ⟨k, n, h0, h1, h2, h3⟩ := h.at_ y v hv
      refine ⟨k, n, h0, ?_, h2, h3⟩
      unfold markN
      rw [List.getElem?_map, h1]
      simp [h2, hne]
  · intro k n hk hg
    unfold markN at hk
    rw [List.getElem?_map] at hk
    cases hl : l[k]? with
    | none => rw [hl] at hk; cases hk
    | some n' =>
      rw [hl] at hk
      simp only [Option.map_some, Option.some.injEq] at hk
      by_cases e : n'.it.id = id
      · rw [if_pos e] at hk
        rw [← hk] at hg
        cases hg
      · rw [if_neg e] at hk
        subst hk
        unfold upd
        rw [if_neg e]
        exact h.has k n' hl hg
theorem Up.mark {l : List Nd} (h : Up l) (id : Int) : Up (markN l id) := by
  intro k n hk
  unfold markN at hk
  rw [List.getElem?_map] at hk
  cases hl : l[k]? with
  | none => rw [hl] at hk; cases hk
  | some n' =>
    rw [hl] at hk
    simp only [Option.map_some, Option.some.injEq] at hk
    have := h k n' hl
    split at hk <;> (rw [← hk]; exact this)
theorem kidsFrom_mark (id : Int) (i : Nat) : ∀ (l : List Nd) (k : Nat), kidsFrom k (markN l id) i = kidsFrom k l i
  | [], k => rfl
  | n :: r, k => by
    show kidsFrom k ((if n.it.id = id then { n with gone := true } else n) :: markN r id) i = _
    have hp : (if n.it.id = id then { n with gone := true } else n).par = n.par := by split <;> rfl
    simp only [kidsFrom, hp, kidsFrom_mark id i r]
theorem kidsOf_mark (l : List Nd) (id : Int) : kidsOf (markN l id) = kidsOf l := funext fun i => kidsFrom_mark id i l 0
theorem short_mark {l : List Nd} (h : ∀ n ∈ l, Short n.it.ob) (id : Int) : ∀ n ∈ markN l id, Short n.it.ob := by
  intro n hn
  unfold markN at hn
  obtain ⟨n', h1, rfl⟩ := List.mem_map.1 hn
  have := h n' h1
  split <;> exact this
theorem gcnt_put (m : Int) (l : List Nd) (x : It) : gcnt (putN m l x) = gcnt l := by
  obtain ⟨p, e, h, _⟩ := putN_snoc m l x
  rw [h]
  simp [gcnt]
theorem gcnt_fold (m : Int) : ∀ (xs : List It) (acc : List Nd), gcnt (xs.foldl (putN m) acc) = gcnt acc
  | [], acc => rfl
  | x :: r, acc => by rw [List.foldl_cons, gcnt_fold m r, gcnt_put]
theorem gcnt_anew (m : Int) (l : List Nd) : gcnt (anewN m l) = 0 := by
  unfold anewN
  rw [gcnt_fold]
  rfl
set_option maxRecDepth 100000 in
set_option maxHeartbeats 4000000 in
theorem delete_any {own : Nat → Prop} {w : World} {t mt : Nat} {m : Int} {l : List Nd} {f : Int → Option Int} (h : Tr own w t mt m l (gcnt l) f) (id : Int) (dv : Value) (hid : W64 id) (hn : l.length ≤ 1048575) :
    Calls Try.prog 12 #[.pointer (some ⟨t, 0, none⟩), .int .u64 id, dv] w fun r w' => r = .returned (.int .i64 (if (f id).isSome then 0 else 5)) ∧ Fr (nf own w) w w' ∧
      ∃ f', Tr (More own w) w' t mt m (if (f id).isSome then cutN m l id else l) (gcnt (if (f id).isSome then cutN m l id else l)) f' := by
  obtain ⟨lv, mb, kv, hK⟩ := h.mem
  obtain ⟨cM, hM⟩ := h.met
  have hKD := hK.drop hM (by decide)
  cases hf : f id with
  | none =>
    have HH := Lib.hid (And.intro h hK); clear h hK
    go_enter Try.func12, Try.ntmps12
    go_wp2_with fail
    refine (has_any HH.out.2 id hid).mono ?_
    rintro er w1 ⟨rfl, rfl⟩
    have e : (f id).isSome = false := by rw [hf]; rfl
    rw [e]
    go_wp2_with fail
    go_ret
    exact ⟨rfl, Fr.refl _ _, f, HH.out.1.grow (fun g hg => .inl hg)⟩
  | some v =>
    obtain ⟨k, n, rfl, hkn, hni, hng⟩ := h.ti.at_ id v hf
    have hk : k < l.length := (List.getElem?_eq_some_iff.1 hkn).1
    obtain rfl : l[k] = n := (List.getElem?_eq_some_iff.1 hkn).2
    obtain ⟨lb, cap, hlv, hlb, hc1, hc2, hfr, hat⟩ := hK.blk (by rintro rfl; simp at hk)
    subst hlv
    have c0 := hK.row.cell
    have f0 := hK.row.frozen
    obtain ⟨_, _, _, _, _, _, _, _, _, _, _, d4, _⟩ := hat k hk
    have hlk : ∀ n, (Instr.lookup 78 (.map (some mb)) (.int .u64 id) false).run Try.prog (w.drewN n) = .ok (.int .i64 (k : Int)) (w.drewN n) := by
      intro n
      obtain ⟨v, hrun, hv, _⟩ := (hK.map.kept (w' := w.drewN n) rfl).look (t := 78) Try.underlying33 Try.underlying3 Try.underlying78 (zero_int _) hid
      rw [hv k hf] at hrun
      exact hrun
    have hk' : (k : Int) < l.length := by omega
    have HH := Lib.hid (And.intro h (And.intro hK (And.intro hat (And.intro hni (And.intro hng (And.intro hM hKD)))))); clear h hK hM hKD hat hni hng hkn
    go_enter Try.func12, Try.ntmps12
    go_wp2_with fail
    refine (has_any HH.out.2.1 id hid).mono ?_
    rintro er w1 ⟨rfl, rfl⟩
    have e : (f id).isSome = true := by rw [hf]; rfl
    rw [e]
    go_wp2_with fail
    refine wp_region_hoist [true, true, true, true, true, true, true, true, true, true, true, true, true, false] 0 (fun w' => ∃ n, w' = World.drewN w1 n) (by kernel_rfl) (by kernel_rfl) ⟨1, rfl⟩ ?_
    simp only [pickR, pickE, List.take, List.drop, wpLate]
    repeat (go_big_quiet_step (fail))
    refine wpQuiet_nil ?_
    go_wp2_with fail
    have hKF : KT own (w1.setCell ⟨lb, k * 8 + 4, none⟩ (.bool true)).drew t (.pointer (some ⟨mt, 0, none⟩)) (.slice (some ⟨lb, 0, none⟩) l.length cap) mb kv (markN l id) (kidsOf (markN l id)) (gcnt l) f ∧ Fr (nf (fun g => own g ∧ g ≠ mt) w1) w1 (w1.setCell ⟨lb, k * 8 + 4, none⟩ (.bool true)).drew := by
      obtain ⟨h, hK, _, _, _, hM, hKD⟩ := HH.out
      have hs := hK.setGone (x := true) hk
      rw [mark_set h.ti hk hf] at hs
      exact ⟨(hs.kls (kidsOf_mark l id).symm).heap rfl, ((Fr.refl _ w1).setCell _ (.inl ⟨hKD.ol lb rfl, by obtain ⟨d, hd⟩ := hK.nodb (g := lb) rfl; exact not_frz hd (by decide)⟩)).drew⟩
    generalize (w1.setCell ⟨lb, k * 8 + 4, none⟩ (Value.bool true)).drew = W2 at hKF ⊢
    obtain ⟨hK2, hF2⟩ := hKF
    have c2 := hK2.row.cell
    obtain ⟨w3, hrun, hm3, hg3⟩ := hK2.map.drop (t := 78) Try.underlying33 Try.underlying78 hid 0
    have hK3 := hK2.setMap hm3 hg3
    have hom0 : nf (fun g => own g ∧ g ≠ mt) w1 mb := ⟨HH.out.2.2.2.2.2.2.om, by obtain ⟨es, c, hmb⟩ := HH.out.2.1.map.isMap; exact not_frz_map hmb⟩
    have hot0 : nf (fun g => own g ∧ g ≠ mt) w1 t := ⟨HH.out.2.2.2.2.2.2.ot, not_frz HH.out.2.1.row (by decide)⟩
    have hF3 := hF2.grown hg3 (fun g hg => by cases hg; exact .inl hom0)
    have c3 := hK3.row.cell
    have f3 := hK3.row.frozen
    obtain ⟨G, hG⟩ : ∃ G, G = gcnt l := ⟨_, rfl⟩
    have hGl : G ≤ 1048575 := by rw [hG]; exact Nat.le_trans (gcnt_le l) hn
    rw [← hG] at c2 c3
    have H3 := Lib.hid (And.intro hK3 (And.intro hF3 (And.intro hG hK2)))
    clear hK3 hF3 hG hK2 hF2 hm3 hg3 c0 f0 hlk d4
    apply only_mk
    go_wp2_with fail
    refine cut_world (fun W => Tr own W t mt m (markN l id) (gcnt (markN l id)) (upd f id none) ∧ Fr (nf own w1) w1 W ∧ W.cell? ⟨t, 3, none⟩ = some (.int .i64 ((G : Int) + 1)) ∧ W.cell? ⟨t, 1, none⟩ = some (.slice (some ⟨lb, 0, none⟩) l.length cap)) ?_ ?_
    · obtain ⟨h, hK, _, _, hng, hM, hKD⟩ := HH.out
      obtain ⟨hK3, hF3, hG, _⟩ := H3.out
      have hgm := gcnt_mark h.ti hk hf hng
      have hs := hK3.setRow (j := 3) (u := .int .i64 ((G : Int) + 1)) (gone' := (gcnt (markN l id) : Int)) (by rw [hgm, hG]; rfl)
      have hF4 := hF3.setCell (p := ⟨t, 3, none⟩) (.int .i64 ((G : Int) + 1)) (.inl hot0)
      refine ⟨⟨⟨_, _, _, hs⟩, ⟨cM, hM.kept (hF4.block mt hM.lt (fun hg => hg.1.2 rfl))⟩, h.om, h.up.mark id, short_mark h.sh id, h.ti.mark id⟩, hF4.mono (fun g hg => ⟨hg.1.1, hg.2⟩), ?_, ?_⟩
      · have := hs.row.cell 3
        rw [hgm, ← hG] at this
        exact this
      · exact hs.row.cell 1
    intro W4 ⟨hT4, hF4, e3, e1⟩
    have hgm : gcnt (markN l id) = G + 1 := by rw [gcnt_mark HH.out.1.ti hk hf HH.out.2.2.2.2.1, H3.out.2.2.1]
    have H4 := Lib.hid (And.intro hT4 (And.intro hF4 hgm)); clear hT4 hF4 hgm c2 c3 f3 hrun
    have hcut : cutN m l id = if 2 * (G + 1) > l.length then anewN m (markN l id) else markN l id := by unfold cutN; rw [H4.out.2.2]
    have Hc := Lib.hid hcut; clear hcut
    by_cases hb : l.length < 2 * (G + 1)
    · go_quiet (fail)
      go_wp2_with fail
      refine (anew_any (H4.out.1.below (bl_drewN W4 nq)) (by rw [markN_len]; exact hn)).mono ?_
      rintro er w5 ⟨rfl, hF5, f5, hT5⟩
      go_wp2_with fail
      go_ret
      try rw [if_pos rfl, if_pos rfl]
      refine ⟨rfl, Fr.nf_trans H4.out.2.1 ((Fr.of_below (bl_drewN W4 nq)).trans hF5 (fun g hg => .inl ⟨.inl hg.1, hg.2⟩)), f5, ?_⟩
      rw [Hc.out, if_pos hb, gcnt_anew]
      have hs4 := H4.out.2.1.size
      exact hT5.grow (fun g hg => by
        rcases hg with hg | hg
        · exact .inl hg
        · exact .inr (Nat.le_trans hs4 hg))
    · go_quiet (fail)
      go_wp2_with fail
      go_ret
      refine ⟨rfl, H4.out.2.1.below (bl_drewN W4 nq) H4.out.2.1.size, upd f id none, ?_⟩
      rw [Hc.out, if_neg hb]
      exact (H4.out.1.below (bl_drewN W4 nq)).grow (fun g hg => .inl hg)
end Go.Proofs.Ytjdcemmodkdajaa
