/-
  bktree: Bulk.
-/
import Derived.Test.YtjdcemmodkdajaaFresh
namespace Go.Proofs.Ytjdcemmodkdajaa
open Go Go.RowKit Go.WW
set_option maxRecDepth 100000 in
set_option maxHeartbeats 4000000 in
theorem bulk_any {own : Nat → Prop} {w : World} {t mt : Nat} {m gone : Int} {l : List Nd} {f : Int → Option Int} (b : Nat) (h : Tr own w t mt m l gone f) (hb : ∀ g, own g → b ≤ g) (hbw : b ≤ w.heap.size) (v dv : Value) (xs : List It) (hv : RdRow itR 38 b w v xs)
    (hsh : ∀ x ∈ xs, Short x.ob) (hn : l.length + xs.length ≤ 1048575) :
    Calls Try.prog 15 #[.pointer (some ⟨t, 0, none⟩), v, dv] w fun r w' => r = .returned (.int .i64 (if freshB f [] (xs.map It.id) then 0 else 4)) ∧ Fr (nf own w) w w' ∧
      ∃ f', Tr (More own w) w' t mt m (if freshB f [] (xs.map It.id) then xs.foldl (putN m) l else l) gone f' := by
  obtain ⟨A, c, rfl, hlc, hcm, hA, hat⟩ := hv.at
  obtain ⟨lv, mb, kv, hK⟩ := h.mem
  have HH := Lib.hid (And.intro h (And.intro hv (And.intro hb (And.intro hsh hK)))); clear h hv hb hsh hK hat
  cases hfr : freshB f [] (xs.map It.id) with
  | false =>
    go_enter Try.func15, Try.ntmps15
    go_wp2_with fail
    refine (fresh_any b HH.out.2.2.2.2 _ xs HH.out.2.1 (by omega)).mono ?_
    rintro er w1 ⟨i, rfl, hB⟩
    rw [hfr]
    simp only [Bool.false_eq_true, if_false]
    go_wp2_with fail
    go_ret
    exact ⟨rfl, Fr.of_below hB, f, (HH.out.1.below hB).grow (fun g hg => .inl hg)⟩
  | true =>
    go_enter Try.func15, Try.ntmps15
    go_wp2_with fail
    refine (fresh_any b HH.out.2.2.2.2 _ xs HH.out.2.1 (by omega)).mono ?_
    rintro er w1 ⟨i, rfl, hB⟩
    rw [hfr]
    simp only [if_true]
    go_wp2_with fail
    go_loopw [10, 25] (fun _ vk wr => ∃ (k : Nat) (f' : Int → Option Int), vk = .int .i64 k ∧ k ≤ xs.length ∧ freshB f ((xs.take k).map It.id) ((xs.drop k).map It.id) = true ∧ (∀ y, f' y ≠ none → f y ≠ none ∨ y ∈ (xs.take k).map It.id) ∧
      Tr (More own w) wr t mt m ((xs.take k).foldl (putN m) l) gone f' ∧ Fr (nf own w) w wr) (fun _ vk _ => xs.length - (intOf vk).toNat)
    case atStart =>
      exact ⟨0, f, rfl, Nat.zero_le _, hfr, fun y hy => .inl hy, (HH.out.1.below hB).grow (fun g hg => .inl hg), Fr.of_below hB⟩
    case round =>
      obtain ⟨k, f', rfl, hk, hfk, hD, hT, hF⟩ := hrel
      by_cases hlt : k < xs.length
      · have hvr := HH.out.2.1.keep (hF.kp (ts := 38 :: itR.ts) (b := b) (fun g hg => hg.sta HH.out.2.2.1))
        obtain ⟨A', c', hv', _, _, _, hat⟩ := hvr.at
        injection hv' with e1 e2 e3
        subst e1 e3
        obtain ⟨g, o, cs, hA, hg, hr, hc⟩ := hat k hlt
        subst hA
        obtain ⟨vx, rfl, hid, hob⟩ := itR_iff.1 hr
        obtain ⟨Av, nv, cv, hv'⟩ : ∃ A n c, vx = .slice A n c := by obtain ⟨v', hv2, _, hr, _⟩ := obR_iff.1 hob; simp only [List.cons.injEq, and_true, true_and] at hv2; subst hv2; obtain ⟨A, c, e, _⟩ := hr.at; exact ⟨A, _, c, e⟩
        subst hv'
        have d0 := hc 0 _ rfl
        have d1 := hc 1 _ rfl
        have d2 := hc 2 _ rfl
        have d3 := hc 3 _ rfl
        simp only [Nat.add_zero] at d0
        rw [show itR.sz = 4 from rfl] at d0 d1 d2 d3
        have hlt' : (k : Int) < xs.length := by omega
        have hdrop : (xs.drop k).map It.id = xs[k].id :: (xs.drop (k + 1)).map It.id := by rw [List.drop_eq_getElem_cons hlt]; rfl
        have htake : xs.take (k + 1) = xs.take k ++ [xs[k]] := by rw [List.take_add_one, List.getElem?_eq_getElem hlt]; rfl
        rw [hdrop, freshB_cons, Bool.and_eq_true, Bool.and_eq_true] at hfk
        have HR := Lib.hid (And.intro hfk (And.intro hD (And.intro hT (And.intro hF (And.intro hr htake)))))
        clear hfk hD hT hF hr hc hat hob htake hdrop hvr
        go_wp2_with fail
        obtain ⟨hfk, hD, hT, hF, hr, htake⟩ := HR.out
        have hB1 : ∀ o : Obj, Below wr.heap.size wr (wr.alloc o) := fun o => (Below.refl _ wr).alloc (Nat.le_refl _) o
        have hnone : f' xs[k].id = none := by
          cases hfx : f' xs[k].id with
          | none => rfl
          | some v =>
            rcases hD xs[k].id (by rw [hfx]; simp) with h1 | h1
            · have := hfk.1.2
              cases hff : f xs[k].id with
              | none => exact absurd hff h1
              | some z => rw [hff] at this; cases this
            · have := hfk.1.1
              rw [decide_eq_true h1] at this
              cases this
        refine (put_tr b (hT.below (hB1 _)) (fun g hg => ?_) xs[k] _ (itR_below hr (hB1 _)) (HH.out.2.2.2.1 _ (List.getElem_mem ..)) (by rw [fold_len, List.length_take]; omega) hnone).mono ?_
        · rcases hg with hg | hg
          · exact HH.out.2.2.1 g hg
          · exact Nat.le_trans hbw hg
        rintro er w2 ⟨rfl, hF2, hT2⟩
        have hF3 : Fr (nf own w) w w2 := Fr.nf_trans (hF.below (hB1 _) hF.size) hF2
        have hs1 := hF.size
        have hs2 := (hB1 (.cells #[] 0)).size
        have hT3 : Tr (More own w) w2 t mt m ((xs.take (k + 1)).foldl (putN m) l) gone (upd f' xs[k].id (some ((xs.take k).foldl (putN m) l).length)) := by
          rw [htake, List.foldl_append]
          refine hT2.grow (fun g hg => ?_)
          rcases hg with hg | hg
          · exact hg
          · exact .inr (by simp at hg; omega)
        have hD3 : ∀ y, upd f' xs[k].id (some ((xs.take k).foldl (putN m) l).length) y ≠ none → f y ≠ none ∨ y ∈ (xs.take (k + 1)).map It.id := by
          intro y hy
          rw [htake, List.map_append, List.mem_append]
          unfold upd at hy
          split at hy
          · rename_i e
            exact .inr (.inr (by simp [e]))
          · rcases hD y hy with h1 | h1
            · exact .inl h1
            · exact .inr (.inl h1)
        have hf3 : freshB f ((xs.take (k + 1)).map It.id) ((xs.drop (k + 1)).map It.id) = true := by
          rw [htake, List.map_append]
          exact hfk.2
        have HZ := Lib.hid (And.intro hT3 (And.intro hF3 (And.intro hD3 hf3)))
        clear hT3 hF3 hD3 hf3 hfk hD hT hF hr htake hT2 hF2 hnone hs2
        go_wp2_with fail
        refine ⟨⟨k + 1, _, by simp, by omega, HZ.out.2.2.2, HZ.out.2.2.1, HZ.out.1, HZ.out.2.1⟩, ?_⟩
        simp [intOf]; omega
      · obtain rfl : k = xs.length := by omega
        go_wp2_with fail
        go_ret
        rw [List.take_length] at hT
        exact ⟨rfl, hF, f', hT⟩
end Go.Proofs.Ytjdcemmodkdajaa
