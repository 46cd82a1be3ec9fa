/-
  bktree: anew.
-/
import Derived.Test.YtjdcemmodkdajaaIns
namespace Go.Proofs.Ytjdcemmodkdajaa
open Go Go.RowKit Go.WW
def live (l : List Nd) : List It := (l.filter (fun n => !n.gone)).map Nd.it
def anewN (m : Int) (l : List Nd) : List Nd := (live l).foldl (putN m) []
theorem live_take (l : List Nd) (k : Nat) (n : Nd) (h : l[k]? = some n) : live (l.take (k + 1)) = live (l.take k) ++ if n.gone then [] else [n.it] := by
  have : l.take (k + 1) = l.take k ++ [n] := by rw [List.take_add_one, h]; rfl
  rw [this]
  unfold live
  rw [List.filter_append, List.map_append]
  cases hg : n.gone <;> simp [hg]
theorem fold_len (m : Int) : ∀ (xs : List It) (acc : List Nd), (xs.foldl (putN m) acc).length = acc.length + xs.length
  | [], acc => rfl
  | x :: r, acc => by
    rw [List.foldl_cons, fold_len m r, putN_len, List.length_cons]
    omega
theorem live_le (l : List Nd) : (live l).length ≤ l.length := by
  unfold live
  rw [List.length_map]
  exact List.length_filter_le ..
set_option maxRecDepth 100000 in
set_option maxHeartbeats 4000000 in
theorem anew_any {own : Nat → Prop} {w : World} {t mt : Nat} {m gone : Int} {l : List Nd} {f : Int → Option Int} (h : Tr own w t mt m l gone f) (hn : l.length ≤ 1048575) :
    Calls Try.prog 35 #[.pointer (some ⟨t, 0, none⟩)] w fun r w' => r = .returned (.tuple #[]) ∧ Fr (nf own w) w w' ∧ ∃ f', Tr (More own w) w' t mt m (anewN m l) 0 f' := by
  obtain ⟨lv, mb, kv, hK⟩ := h.mem
  obtain ⟨c, hM⟩ := h.met
  obtain ⟨Al, cl, hlv⟩ := hK.slice
  subst hlv
  have c0 := hK.row.cell
  have f0 := hK.row.frozen
  have hlt := hK.row.lt
  have hmm := @run_makeMap Try.prog
  have HH := Lib.hid (And.intro h (And.intro hK hM))
  clear h hK hM
  go_enter Try.func35, Try.ntmps35
  have hlvw : ∀ g, (Value.slice Al l.length cl).ownBlock = some g → g ≠ t := fun g hg => by obtain ⟨d, hd⟩ := HH.out.2.1.nodb hg; exact blk_ne hd HH.out.2.1.row (by decide)
  obtain ⟨own2, ho2⟩ : ∃ own2 : Nat → Prop, own2 = fun g => (own g ∧ (Value.slice Al l.length cl).ownBlock ≠ some g) ∨ w.heap.size ≤ g := ⟨_, rfl⟩
  have Ho2 := Lib.hid ho2; clear ho2
  have HL := Lib.hid hlvw; clear hlvw
  go_wp2_with fail
  go_loopw [4, 21] (fun _ vk wr => ∃ (k : Nat) (f' : Int → Option Int), vk = .int .i64 k ∧ k ≤ l.length ∧ (∀ y, f' y ≠ none → ∃ (j : Nat) (n : Nd), j < k ∧ l[j]? = some n ∧ n.gone = false ∧ n.it.id = y) ∧
    Tr own2 wr t mt m ((live (l.take k)).foldl (putN m) []) 0 f' ∧ OwnRow ndR 90 0 0 wr (.slice Al l.length cl) (l.zip kv) ∧ Fr (nf own w) w wr) (fun _ vk _ => l.length - (intOf vk).toNat)
  case atStart =>
    obtain ⟨hT0, hK, hM⟩ := HH.out
    have hrow := ((((hK.row.set 1 (.slice none 0 0)).set 2 (.map (some w.heap.size))).set 3 (.int .i64 0)).alloc (.map #[] 0))
    have hmap := MapU.made (((w.setCell ⟨t, 1, none⟩ (.slice none 0 0)).setCell ⟨t, 2, none⟩ (.map (some w.heap.size))).setCell ⟨t, 3, none⟩ (.int .i64 0)) Try.prog 33 3
    have hsz : (((w.setCell ⟨t, 1, none⟩ (.slice none 0 0)).setCell ⟨t, 2, none⟩ (.map (some w.heap.size))).setCell ⟨t, 3, none⟩ (.int .i64 0)).heap.size = w.heap.size := by simp
    rw [hsz] at hmap
    have hot : nf own w t := ⟨hK.ot, not_frz hK.row (by decide)⟩
    have hF := ((((Fr.refl (nf own w) w).setCell (p := ⟨t, 1, none⟩) (.slice none 0 0) (.inl hot)).setCell (p := ⟨t, 2, none⟩) (.map (some w.heap.size)) (.inl hot)).setCell (p := ⟨t, 3, none⟩) (.int .i64 0) (.inl hot)).alloc (.map #[] 0)
    have hne : ∀ g, g < w.heap.size → g ≠ t → ((((w.setCell ⟨t, 1, none⟩ (.slice none 0 0)).setCell ⟨t, 2, none⟩ (.map (some w.heap.size))).setCell ⟨t, 3, none⟩ (.int .i64 0)).alloc (.map #[] 0)).heap[g]? = w.heap[g]? := fun g hg hn =>
      (Below.heap_alloc _ _ _ (by simpa using hg)).trans (((Below.heap_setCell _ ⟨t, 3, none⟩ _ g hn).trans (Below.heap_setCell _ ⟨t, 2, none⟩ _ g hn)).trans (Below.heap_setCell _ ⟨t, 1, none⟩ _ g hn))
    have hmt : mt ≠ t := Ne.symm (blk_ne hK.row hM (by decide))
    have hol : ∀ g, own g → (Value.slice Al l.length cl).ownBlock ≠ some g → own2 g := fun g h1 h2 => by rw [Ho2.out]; exact .inl ⟨h1, h2⟩
    refine ⟨0, fun _ => none, rfl, Nat.zero_le _, fun y hy => absurd rfl hy, ⟨⟨.slice none 0 0, w.heap.size, [], hrow, OwnRow.nil .., rfl, (fun i v hv => by simp at hv), (fun i j u v g hu => by simp at hu), hmap, hol t hK.ot (fun e => HL.out t e rfl), (by rw [Ho2.out]; exact .inr (Nat.le_refl _)), (fun g hg => by cases hg), (fun v hv => by cases hv)⟩, ⟨c, hM.kept (hne mt hM.lt hmt)⟩, hol mt hT0.om (fun e => by obtain ⟨d, hd⟩ := hK.nodb e; exact blk_ne hd hM (by decide) rfl), (fun k n hk => by simp [live] at hk), (fun n hn => by cases hn), TI.nil⟩, ?_, hF⟩
    exact hK.nodes.keep (hF.kp (ts := ndR.ts) (b := 0) (fun g hg => hg.sta (fun _ _ => Nat.zero_le _))) (fun g hg => hne g (hK.nodes.lt g hg).2 (HL.out g hg))
  case round =>
    obtain ⟨k, f', rfl, hk, hD, hT, hN, hF⟩ := hrel
    by_cases hlt : k < l.length
    · obtain ⟨lb, cap, hlv, hlb, hc1, hc2, hfr, hat⟩ := nodes_blk hN HH.out.2.1.klen (by rintro rfl; simp at hlt)
      injection hlv with e1 _ e2
      subst e1 e2
      obtain ⟨vi, ki, hki, hone, hit, _, _, d0, d1, d2, d3, d4, d5, d6, d7⟩ := hat k hlt
      obtain ⟨_, hvi, hwi, hob⟩ := itR_iff.1 hit
      simp only [List.cons.injEq, and_true, true_and] at hvi
      subst hvi
      obtain ⟨Av, nv, cv, hv'⟩ : ∃ A n c, vi = .slice A n c := by obtain ⟨v', hv2, _, hr, _⟩ := obR_iff.1 hob; simp only [List.cons.injEq, and_true, true_and] at hv2; subst hv2; obtain ⟨A, c, e, _⟩ := hr.at; exact ⟨A, _, c, e⟩
      subst hv'
      obtain ⟨Ak, nk, ck, hv'⟩ : ∃ A n c, ki = .slice A n c := by obtain ⟨A, c, e⟩ := (HH.out.2.1.kids k ki hki).slice; exact ⟨A, _, c, e⟩
      subst hv'
      have hlt' : (k : Int) < l.length := by omega
      have HR := Lib.hid (And.intro hD (And.intro hT (And.intro hN (And.intro hF (And.intro hit (And.intro hat hki))))))
      clear hD hT hN hF hit hat hki hob
      cases hg : l[k].gone
      · rw [hg] at d4
        go_wp2_with fail
        obtain ⟨hD, hT, hN, hF, hit, hat, hki⟩ := HR.out
        have hB1 : ∀ o : Obj, Below wr.heap.size wr (wr.alloc o) := fun o => (Below.refl _ wr).alloc (Nat.le_refl _) o
        have hle := live_le (l.take k)
        rw [List.length_take] at hle
        have hnone : f' l[k].it.id = none := by
          cases hfk : f' l[k].it.id with
          | none => rfl
          | some v =>
            obtain ⟨j, n, hj, h1, h2, h3⟩ := hD l[k].it.id (by rw [hfk]; simp)
            have e1 := HH.out.1.ti.has j n h1 h2
            have e2 := HH.out.1.ti.has k l[k] (List.getElem?_eq_getElem hlt) hg
            rw [h3, e2] at e1
            injection e1 with e1
            omega
        refine (put_tr 0 (hT.below (hB1 _)) (fun g _ => Nat.zero_le _) l[k].it _ (itR_below hit (hB1 _)) (HH.out.1.sh _ (List.getElem_mem ..)) (by rw [fold_len]; simp; omega) hnone).mono ?_
        rintro er w2 ⟨rfl, hF2, hT2⟩
        have hlbw := (HH.out.2.1.nodes.lt lb rfl).2
        have hnlb : ¬ own2 lb := by
          rw [Ho2.out]
          rintro (h1 | h1)
          · exact h1.2 rfl
          · omega
        have hsz := hF.size
        have hlt2 := live_take l k l[k] (List.getElem?_eq_getElem hlt)
        rw [hg] at hlt2
        simp only [Bool.false_eq_true, if_false] at hlt2
        have hT3 : Tr own2 w2 t mt m ((live (l.take (k + 1))).foldl (putN m) []) 0 (upd f' l[k].it.id (some ((live (l.take k)).foldl (putN m) []).length)) := by
          rw [hlt2, List.foldl_append]
          refine hT2.grow (fun g hg => ?_)
          rcases hg with hg | hg
          · exact hg
          · rw [Ho2.out]; exact .inr (by simp at hg; omega)
        have hN3 : OwnRow ndR 90 0 0 w2 (.slice (some ⟨lb, 0, none⟩) l.length cl) (l.zip kv) := (hN.below (hB1 _)).keep (hF2.kp (ts := ndR.ts) (b := 0) (fun g hg => hg.sta (fun _ _ => Nat.zero_le _))) (fun g hg => by
          cases hg
          exact hF2.block lb (by simp; omega) (fun h1 => hnlb h1.1))
        have hF3 : Fr (nf own w) w w2 := Fr.nf_trans (hF.below (hB1 _) hF.size) (hF2.mono (fun g hg => ⟨by
          have := hg.1
          rw [Ho2.out] at this
          rcases this with h1 | h1
          · exact .inl h1.1
          · exact .inr h1, hg.2⟩))
        have hD3 : ∀ y, upd f' l[k].it.id (some ((live (l.take k)).foldl (putN m) []).length) y ≠ none → ∃ (j : Nat) (n : Nd), j < k + 1 ∧ l[j]? = some n ∧ n.gone = false ∧ n.it.id = y := by
          intro y hy
          unfold upd at hy
          split at hy
          · rename_i e
            exact ⟨k, l[k], by omega, List.getElem?_eq_getElem hlt, hg, e.symm⟩
          · obtain ⟨j, n, hj, h1⟩ := hD y hy
            exact ⟨j, n, by omega, h1⟩
        have HZ := Lib.hid (And.intro hT3 (And.intro hN3 (And.intro hF3 hD3)))
        clear hT3 hN3 hF3 hD3 hD hT hN hF hit hat hki hF2 hT2 hnone hlt2
        go_wp2_with fail
        refine ⟨⟨k + 1, _, by simp, by omega, HZ.out.2.2.2, HZ.out.1, HZ.out.2.1, HZ.out.2.2.1⟩, ?_⟩
        simp [intOf]; omega
      · rw [hg] at d4
        go_wp2_with fail
        obtain ⟨hD, hT, hN, hF, hit, hat, hki⟩ := HR.out
        have hB1 : ∀ o : Obj, Below wr.heap.size wr (wr.alloc o) := fun o => (Below.refl _ wr).alloc (Nat.le_refl _) o
        have hlt2 := live_take l k l[k] (List.getElem?_eq_getElem hlt)
        rw [hg] at hlt2
        simp only [if_true, List.append_nil] at hlt2
        refine ⟨⟨k + 1, f', by simp, by omega, fun y hy => ?_, ?_, hN.below (hB1 _), hF.below (hB1 _) hF.size⟩, ?_⟩
        · obtain ⟨j, n, hj, h1⟩ := hD y hy
          exact ⟨j, n, by omega, h1⟩
        · rw [hlt2]; exact hT.below (hB1 _)
        · simp [intOf]; omega
    · obtain rfl : k = l.length := by omega
      go_wp2_with fail
      go_end0
      rw [List.take_length] at hT
      refine ⟨rfl, hF, f', hT.grow (fun g hg => ?_)⟩
      rw [Ho2.out] at hg
      rcases hg with h1 | h1
      · exact .inl h1.1
      · exact .inr h1
end Go.Proofs.Ytjdcemmodkdajaa
