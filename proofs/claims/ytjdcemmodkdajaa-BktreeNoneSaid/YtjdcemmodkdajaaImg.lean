/-
  bktree: Image.
-/
import Derived.Test.YtjdcemmodkdajaaNew
namespace Go.Proofs.Ytjdcemmodkdajaa
open Go Go.RowKit Go.WW
theorem info_bk : (Try.prog.info? 77).map (fun i => (i.zero, i.size, i.bytes)) = some (some (.agg #[.int .u64 0, .int .i64 0, .slice none 0 0, .string ⟨#[]⟩, .bool false, .int .i64 0, .int .i64 0]), bkR.sz, 80) := by kernel_rfl
abbrev nilS : Value := .slice none 0 0
set_option maxRecDepth 100000 in
set_option maxHeartbeats 4000000 in
theorem image_any {own : Nat → Prop} {w : World} {t mt : Nat} {m gone : Int} {l : List Nd} {f : Int → Option Int} (h : Tr own w t mt m l gone f) (hn : l.length ≤ 1048576) :
    Calls Try.prog 18 #[.pointer (some ⟨t, 0, none⟩)] w fun r w' => ∃ vb, r = .returned (.agg #[vb, nilS, nilS, .int .i64 0, nilS, nilS]) ∧ RdRow bkR 77 0 w' vb l ∧ Below w.heap.size w w' := by
  obtain ⟨lv, mb, kv, hK⟩ := h.mem
  obtain ⟨Al, cl, hlv⟩ := hK.slice
  subst hlv
  have c0 := hK.row.cell
  have hlt := hK.row.lt
  have HH := Lib.hid (And.intro h hK); clear h hK
  go_enter Try.func18, Try.ntmps18
  go_wp2_with fail
  go_loopw [5, 14] (fun _ vk wr => ∃ (k : Nat) (vb : Value), vk = .int .i64 k ∧ k ≤ l.length ∧ OwnRow bkR 77 0 (w.heap.size + 2) wr vb (l.take k) ∧
    IRow 58 wr (w.heap.size + 1) [vb, nilS, nilS, .int .i64 0, nilS, nilS] ∧ IRow 58 wr w.heap.size [nilS, nilS, nilS, .int .i64 0, nilS, nilS] ∧ Below w.heap.size w wr) (fun _ vk _ => l.length - (intOf vk).toNat)
  case atStart =>
    have hB := (((Below.refl w.heap.size w).alloc (Nat.le_refl _) (.cells #[nilS, nilS, nilS, .int .i64 0, nilS, nilS] 58)).alloc (by simp) (.cells #[nilS, nilS, nilS, .int .i64 0, nilS, nilS] 58))
    have hi := IRow.new (w.alloc (.cells #[nilS, nilS, nilS, .int .i64 0, nilS, nilS] 58)) [nilS, nilS, nilS, .int .i64 0, nilS, nilS] 58
    rw [World.size_alloc] at hi
    exact ⟨0, nilS, rfl, Nat.zero_le _, OwnRow.nil .., hi, (IRow.new w [nilS, nilS, nilS, .int .i64 0, nilS, nilS] 58).alloc _, hB⟩
  case round =>
    obtain ⟨k, vb, rfl, hk, hO, hI, hR, hB⟩ := hrel
    have hIl := hI.lt
    by_cases hlt : k < l.length
    · have hKr := HH.out.2.below hB
      obtain ⟨lb, cap, hlv, hlb, hc1, hc2, hfr, hat⟩ := hKr.blk (by rintro rfl; simp at hlt)
      injection hlv with e1 _ e2
      subst e1 e2
      obtain ⟨vi, ki, hki, hone, hit, hpw, hew, d0, d1, d2, d3, d4, d5, d6, d7⟩ := hat k hlt
      obtain ⟨_, hvi, hwi, hob⟩ := itR_iff.1 hit
      simp only [List.cons.injEq, and_true, true_and] at hvi
      subst hvi
      obtain ⟨Av, nv, cv, hv'⟩ : ∃ A n c, vi = .slice A n c := by obtain ⟨v', hv2, _, hr, _⟩ := obR_iff.1 hob; simp only [List.cons.injEq, and_true, true_and] at hv2; subst hv2; obtain ⟨A, c, e, _⟩ := hr.at; exact ⟨A, _, c, e⟩
      subst hv'
      obtain ⟨Ak, nk, ck, hv'⟩ : ∃ A n c, ki = .slice A n c := by obtain ⟨A, c, e⟩ := (hKr.kids k ki hki).slice; exact ⟨A, _, c, e⟩
      subst hv'
      have hlt' : (k : Int) < l.length := by omega
      have hob1 := fun o : Obj => obR_below hob ((Below.refl wr.heap.size wr).alloc (Nat.le_refl _) o)
      have HR := Lib.hid (And.intro hO (And.intro hI (And.intro hR (And.intro hB (And.intro hit (And.intro hpw (And.intro hew hob1)))))))
      clear hO hI hR hB hat hki hit hpw hew hob hob1 hKr hwi
      go_wp2_with fail
      refine (oclone_any 0 l[k].it.ob _ _ (HR.out.2.2.2.2.2.2.2 _) (HH.out.1.sh _ (List.getElem_mem ..))).mono ?_
      rintro er w2 ⟨cs, rfl, hcs, hb2⟩
      obtain ⟨v4, rfl, hw4, hr4, hs4⟩ := obR_iff.1 hcs
      obtain ⟨A4, n4, c4, hv4⟩ : ∃ A4 n4 c4, v4 = .slice A4 n4 c4 := by obtain ⟨A4, c4, h4, _⟩ := hr4.at; exact ⟨A4, _, c4, h4⟩
      subst hv4
      obtain ⟨Ab, nb, cb, hvb⟩ : ∃ A n c, vb = .slice A n c := by obtain ⟨A, c, e⟩ := HR.out.1.slice; exact ⟨A, _, c, e⟩
      subst hvb
      have hb3 : Below wr.heap.size wr w2 := ((Below.refl wr.heap.size wr).alloc (Nat.le_refl _) _).trans (hb2.mono (by simp))
      have i5 : IRow 90 w2 wr.heap.size [.int .u64 l[k].it.id, .int .i64 l[k].it.ob.tag, .slice Av nv cv, .string l[k].it.ob.str, .bool l[k].gone, .int .i64 l[k].par, .int .i64 l[k].edge, .slice Ak nk ck] := (IRow.new wr _ _).kept (hb2.block _ (by simp))
      have hIw := HR.out.2.1.kept (hb3.block _ hIl)
      have c5 := i5.cell
      have f5 := i5.frozen
      have cI := hIw.cell
      have fI := hIw.frozen
      have hsz := hb3.size
      obtain ⟨w3, hw3⟩ : ∃ w3, w3 = ((w2.setCell ⟨wr.heap.size, 1, none⟩ (.int .i64 l[k].it.ob.tag)).setCell ⟨wr.heap.size, 2, none⟩ (.slice A4 n4 c4)).setCell ⟨wr.heap.size, 3, none⟩ (.string l[k].it.ob.str) := ⟨_, rfl⟩
      have hns : ∀ ts, 90 ∉ ts → ¬ Sta ts 0 w2 wr.heap.size := fun ts hts => not_sta i5 (Nat.zero_le _) hts
      have hk3 : ∀ ts, 90 ∉ ts → TK ts 0 w2 w3 := fun ts hts => by
        rw [hw3]
        exact (((TK.refl ts 0 w2).setCell (p := ⟨wr.heap.size, 1, none⟩) (.inr (hns ts hts)) _).setCell (p := ⟨wr.heap.size, 2, none⟩) (.inr (hns ts hts)) _).setCell (p := ⟨wr.heap.size, 3, none⟩) (.inr (hns ts hts)) _
      have hne3 : ∀ g, g ≠ wr.heap.size → w3.heap[g]? = w2.heap[g]? := fun g hg => by
        rw [hw3]
        exact ((Below.heap_setCell _ ⟨wr.heap.size, 3, none⟩ _ g hg).trans (Below.heap_setCell _ ⟨wr.heap.size, 2, none⟩ _ g hg)).trans (Below.heap_setCell _ ⟨wr.heap.size, 1, none⟩ _ g hg)
      have hO3 : OwnRow bkR 77 0 (w.heap.size + 2) w3 (.slice Ab nb cb) (l.take k) := (HR.out.1.below hb3).keep (hk3 bkR.ts (by decide)).kp (fun g hg => hne3 g (by have := (HR.out.1.lt g hg).2; omega))
      have hit3 : itR.rd 0 w3 [.int .u64 l[k].it.id, .int .i64 l[k].it.ob.tag, .slice A4 n4 c4, .string l[k].it.ob.str] l[k].it := itR_iff.2 ⟨_, rfl, by obtain ⟨_, _, h1, _⟩ := itR_iff.1 HR.out.2.2.2.2.1; exact h1, obR.keep _ _ _ _ _ (hk3 obR.ts (by decide)).kp hcs⟩
      have hbk3 : bkR.rd 0 w3 [.int .u64 l[k].it.id, .int .i64 l[k].it.ob.tag, .slice A4 n4 c4, .string l[k].it.ob.str, .bool l[k].gone, .int .i64 l[k].par, .int .i64 l[k].edge] l[k] := bkR_iff.2 ⟨_, rfl, hit3, HR.out.2.2.2.2.2.1, HR.out.2.2.2.2.2.2.1⟩
      have hsz3 : w3.heap.size = w2.heap.size := by rw [hw3]; simp
      have hwz : w.heap.size + 2 ≤ w3.heap.size := by omega
      have hl8 : ((l.take k).length + 1) * 80 ≤ 140737488355328 := by rw [List.length_take]; omega
      have HS := Lib.hid (And.intro hO3 (And.intro hbk3 (And.intro hne3 (And.intro hsz3 (And.intro hl8 (And.intro hb3 (And.intro hIw (And.intro hk3 hwz))))))))
      clear hO3 hbk3 hne3 hsz3 hl8 hb3 hIw hk3 hit3 hns hcs hr4 i5 hb2 hwz
      go_wp2_with (
        at_builtin
        rw [← hw3]
        refine wp_push (R := bkR) (W := w3) rfl (.tmp 27) (.tmp 30) 31 _ 80 rfl Try.underlying31 info_bk rfl (by decide) (by decide) (.slice Ab nb cb) (l.take k) l[k] #[.int .u64 l[k].it.id, .int .i64 l[k].it.ob.tag, .slice A4 n4 c4, .string l[k].it.ob.str, .bool l[k].gone, .int .i64 l[k].par, .int .i64 l[k].edge] (0, 0) rfl (by rw [HS.out.2.2.2.1]; rfl) HS.out.2.1 HS.out.1 HS.out.2.2.2.2.2.2.2.2 (by decide) (Nat.zero_le _) HS.out.2.2.2.2.1 ?_
        intro v5 w5 hO5 hG5 hb5 hsz5
        obtain ⟨hO3, hbk3, hne3, hsz3, hl8, hb3, hIw, hk3, hwz⟩ := HS.out
        have hvne : ∀ {g : Nat} {c' : Array Value} {fr : Nat × Nat}, w3.heap[g]? = some (.cells c' 58 fr) → w5.heap[g]? = w3.heap[g]? := fun {g c' fr} hh => hG5.block g (Array.getElem?_eq_some_iff.1 hh).1 (fun e => by
          obtain ⟨d, hd⟩ := hO3.blk e.symm
          exact blk_ne hh hd (by decide) rfl)
        have hI3 := hIw.kept (hne3 _ (by omega))
        have hI5 := hI3.kept (hvne hI3)
        have hR3 := (HR.out.2.2.1.kept (hb3.block _ HR.out.2.2.1.lt)).kept (hne3 _ (by omega))
        have hR5 := hR3.kept (hvne hR3)
        obtain ⟨A5, n5, c5', hv5⟩ : ∃ A n c, v5 = .slice A n c := by obtain ⟨A, c, e⟩ := hO5.slice; exact ⟨A, _, c, e⟩
        subst hv5
        have htake : l.take (k + 1) = l.take k ++ [l[k]] := by rw [List.take_add_one, List.getElem?_eq_getElem hlt]; rfl
        rw [← htake] at hO5
        have hB5 : Below w.heap.size w w5 := ((HR.out.2.2.2.1.trans (hb3.mono HR.out.2.2.2.1.size)).trans (⟨(hk3 [] (by decide)).os, (hk3 [] (by decide)).tape, (hk3 [] (by decide)).output, (hk3 [] (by decide)).size, fun g hg => hne3 g (by omega)⟩ : Below w.heap.size w2 w3)).grown hG5 (by omega) (fun g hg => by have := (hO3.lt g hg).1; omega)
        have hI6 := hI5.set 0 (.slice A5 n5 c5')
        have hO6 : OwnRow bkR 77 0 (w.heap.size + 2) (w5.setCell ⟨w.heap.size + 1, 0, none⟩ (.slice A5 n5 c5')) (.slice A5 n5 c5') (l.take (k + 1)) := hO5.grown (gb_setCell w5 ⟨w.heap.size + 1, 0, none⟩ _) (fun g hg => by cases hg; exact not_sta hI5 (Nat.zero_le _) (by decide)) (.inr (fun e => by
          obtain ⟨d, hd⟩ := hO5.blk e
          exact blk_ne hI5 hd (by decide) rfl))
        have hR6 := hR5.kept (Below.heap_setCell w5 ⟨w.heap.size + 1, 0, none⟩ (.slice A5 n5 c5') w.heap.size (by show w.heap.size ≠ w.heap.size + 1; omega))
        have hB6 := hB5.setCell (p := ⟨w.heap.size + 1, 0, none⟩) (by show w.heap.size ≤ w.heap.size + 1; omega) (.slice A5 n5 c5')
        have c6 := hI5.cell
        have f6 := hI5.frozen
        have HZ := Lib.hid (And.intro hO6 (And.intro hI6 (And.intro hR6 hB6)))
        clear hO6 hI6 hR6 hB6 hO5 hG5 hI5 hR5 hI3 hR3 hB5 hvne hO3 hbk3 hne3 hsz3 hl8 hb3 hIw hk3 hwz htake HS)
      refine ⟨⟨k + 1, _, by simp, by omega, HZ.out.1, HZ.out.2.1, HZ.out.2.2.1, HZ.out.2.2.2⟩, ?_⟩
      simp [intOf]; omega
    · obtain rfl : k = l.length := by omega
      obtain ⟨Ab, nb, cb, hvb⟩ : ∃ A n c, vb = .slice A n c := by obtain ⟨A, c, e⟩ := hO.slice; exact ⟨A, _, c, e⟩
      subst hvb
      have c1 := hI.cell
      have c2 := hR.cell
      have f2 := hR.frozen
      go_wp2_with fail
      have hi := (((((hR.set 0 (.slice Ab nb cb)).set 1 nilS).set 2 nilS).set 3 (.int .i64 0)).set 4 nilS).set 5 nilS
      refine bodyPost_ret (results_cell_row rfl _ _ w.heap.size 58 _ (0, 0) _ rfl hi Try.underlying58 rfl (by kernel_rfl)) rfl ?_
      rw [List.take_length] at hO
      have hS : ∀ (W : World) (hW : IRow 58 W w.heap.size [nilS, nilS, nilS, .int .i64 0, nilS, nilS]), True := fun _ _ => trivial
      have hk : TK bkR.ts 0 wr ((((((wr.setCell ⟨w.heap.size, 0, none⟩ (.slice Ab nb cb)).setCell ⟨w.heap.size, 1, none⟩ nilS).setCell ⟨w.heap.size, 2, none⟩ nilS).setCell ⟨w.heap.size, 3, none⟩ (.int .i64 0)).setCell ⟨w.heap.size, 4, none⟩ nilS).setCell ⟨w.heap.size, 5, none⟩ nilS) := by
        have hns : ¬ Sta bkR.ts 0 wr w.heap.size := not_sta hR (Nat.zero_le _) (by decide)
        exact ((((((TK.refl bkR.ts 0 wr).setCell (p := ⟨w.heap.size, 0, none⟩) (.inr hns) _).setCell (p := ⟨w.heap.size, 1, none⟩) (.inr hns) _).setCell (p := ⟨w.heap.size, 2, none⟩) (.inr hns) _).setCell (p := ⟨w.heap.size, 3, none⟩) (.inr hns) _).setCell (p := ⟨w.heap.size, 4, none⟩) (.inr hns) _).setCell (p := ⟨w.heap.size, 5, none⟩) (.inr hns) _
      refine ⟨_, rfl, ?_, (((((hB.setCell (p := ⟨w.heap.size, 0, none⟩) (Nat.le_refl _) _).setCell (p := ⟨w.heap.size, 1, none⟩) (Nat.le_refl _) _).setCell (p := ⟨w.heap.size, 2, none⟩) (Nat.le_refl _) _).setCell (p := ⟨w.heap.size, 3, none⟩) (Nat.le_refl _) _).setCell (p := ⟨w.heap.size, 4, none⟩) (Nat.le_refl _) _).setCell (p := ⟨w.heap.size, 5, none⟩) (Nat.le_refl _) _⟩
      have hk' : Kp (77 :: bkR.ts) 0 wr ((((((wr.setCell ⟨w.heap.size, 0, none⟩ (.slice Ab nb cb)).setCell ⟨w.heap.size, 1, none⟩ nilS).setCell ⟨w.heap.size, 2, none⟩ nilS).setCell ⟨w.heap.size, 3, none⟩ (.int .i64 0)).setCell ⟨w.heap.size, 4, none⟩ nilS).setCell ⟨w.heap.size, 5, none⟩ nilS) := by
        have hns : ¬ Sta (77 :: bkR.ts) 0 wr w.heap.size := not_sta hR (Nat.zero_le _) (by decide)
        exact (((((((TK.refl (77 :: bkR.ts) 0 wr).setCell (p := ⟨w.heap.size, 0, none⟩) (.inr hns) _).setCell (p := ⟨w.heap.size, 1, none⟩) (.inr hns) _).setCell (p := ⟨w.heap.size, 2, none⟩) (.inr hns) _).setCell (p := ⟨w.heap.size, 3, none⟩) (.inr hns) _).setCell (p := ⟨w.heap.size, 4, none⟩) (.inr hns) _).setCell (p := ⟨w.heap.size, 5, none⟩) (.inr hns) _).kp
      exact hO.read.keep hk'
end Go.Proofs.Ytjdcemmodkdajaa
