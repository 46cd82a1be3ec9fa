/-
  laesa: Bulk of things of rising numbers, into an empty table.
-/
import Derived.Test.YtbjmlahnojfekaaGreatPiv
import Derived.Test.YtbjmlahnojfekaaGreatLIns
import Derived.Test.YtbjmlahnojfekaaGreatLFresh
namespace Go.WW
theorem freshB_asc : ∀ (l seen : List Int), (∀ y ∈ l, y ∉ seen) → asc l → freshB (fun _ => none) seen l = true
  | [], _, _, _ => rfl
  | x :: r, seen, h, ha => by
    rw [freshB_cons, decide_eq_false (h x List.mem_cons_self)]
    have ha' : asc r := fun i j hij hj => by have := ha (i + 1) (j + 1) (by omega) (by simpa using hj); simpa using this
    rw [freshB_asc r (seen ++ [x]) (fun y hy => ?_) ha']
    · rfl
    · intro hm
      rcases List.mem_append.1 hm with hm | hm
      · exact h y (List.mem_cons_of_mem _ hy) hm
      · simp only [List.mem_singleton] at hm
        subst hm
        obtain ⟨i, hi⟩ := List.getElem?_of_mem hy
        have hil := (List.getElem?_eq_some_iff.1 hi).1
        have := ha 0 (i + 1) (by omega) (by simp; omega)
        simp [List.getD_eq_getElem?_getD, hi] at this
theorem asc_take {l : List Int} (h : asc l) (k : Nat) : asc (l.take k) := fun i j hij hj => by
  rw [List.length_take] at hj
  have := h i j hij (by omega)
  simp only [List.getD_eq_getElem?_getD] at *
  rw [List.getElem?_take_of_lt (by omega), List.getElem?_take_of_lt (by omega)]
  exact this
end Go.WW
namespace Go.Proofs.YtbjmlahnojfekaaGreat
open Go Go.RowKit Go.WW
set_option maxRecDepth 100000 in
set_option maxHeartbeats 4000000 in
theorem lbulk0_any {own : Nat → Prop} {w : World} {t mt : Nat} {m most calls : Int} (b : Nat) (h : LT own w t mt m most calls [] []) (hb : ∀ g, own g → b ≤ g) (hbw : b ≤ w.heap.size) (hcw : (Lit.int .i64 calls).wf = true) (v : Value) (xs : List It) (hv : RdRow itR 34 b w v xs)
    (hasc : asc (xs.map It.id)) (hsh : ∀ x ∈ xs, Short x.ob) (hn : xs.length ≤ 1000) (hx0 : 0 < xs.length) (hm1 : 1 ≤ most) (hm2 : most ≤ 1000) (P : List Ob) (hP : P = (chooseN m (xs.map It.ob) most.toNat (List.replicate xs.length bigI) 0).map (fun i => (xs.map It.ob).getD i.toNat ⟨0, [], ⟨#[]⟩⟩)) (hPm : most ≤ P.length) (hPn : P.length ≤ 1000) :
    Calls Tryz.prog 11 #[.pointer (some ⟨t, 0, none⟩), v, .pointer none] w fun r w' => r = .returned (.int .i64 0) ∧ Fr (nfL own w) w w' ∧
      ∃ calls' : Int, (Lit.int .i64 calls').wf = true ∧ LT (MoreL own w) w' t mt m most calls' P (xs.map fun x => ⟨x, rowL m x.ob P⟩) := by
  have hfr := freshB_asc (xs.map It.id) [] (fun y _ h => by cases h) hasc
  obtain ⟨vp, vr, hrow, hP0, hR, hop, hor⟩ := h.mem
  have c0 := hrow.cell
  have hlt := hrow.lt
  obtain ⟨Ap, cp, hvp⟩ := hP0.slice
  subst hvp
  obtain ⟨A, c, rfl, hlc, hcm, hA, hat⟩ := hv.at
  have HH := Lib.hid (And.intro h (And.intro hv (And.intro hb (And.intro hsh (And.intro hrow (And.intro hasc (And.intro hcw hP))))))); clear h hv hb hsh hrow hat hP0 hR hop hor hasc hcw hP
  have HFR := Lib.hid hfr; clear hfr
  have HPM := Lib.hid (And.intro hPm hPn); clear hPm hPn
  go_enter Tryz.func11, Tryz.ntmps11
  go_wp2_with fail
  refine (lfresh_any b HH.out.1 (fun i j hij hj => by simp at hj) (by simp) (fun _ => none) (fun y => by simp) _ xs HH.out.2.1 (by omega)).mono ?_
  rintro er w1 ⟨i, rfl, hB⟩
  rw [HFR.out]
  simp only [if_true]
  have c1 : ∀ j, w1.cell? ⟨t, j, none⟩ = w.cell? ⟨t, j, none⟩ := fun j => cell_same (hB.block t hlt)
  have c12 := (c1 2).trans (c0 2)
  simp only [List.getElem?_cons_zero, List.getElem?_cons_succ] at c12
  have hlt1 : t < w1.heap.size := by have := hB.size; omega
  have HB := Lib.hid hB; clear hB c0 c1
  go_wp2_with fail
  have hB := HB.out
  refine (lchoose_any b (HH.out.1.below hB) HH.out.2.2.1 (Nat.le_trans hbw hB.size) _ xs (HH.out.2.1.below hB) HH.out.2.2.2.1 (by omega) hx0 hm1 hm2 (by simp)).mono ?_
  rintro er w2 ⟨rfl, hF2, calls', hT2⟩
  rw [List.nil_append, ← HH.out.2.2.2.2.2.2.2] at hT2
  have hs1 := hB.size
  have hT : LT (MoreL own w) w2 t mt m most calls'.1 P [] := hT2.grow (fun g hg => by
    rcases hg with hg | hg
    · exact .inl hg
    · exact .inr (by omega))
  have hF : Fr (nfL own w) w w2 := Fr.nfL_trans (Fr.of_below hB) (hF2.mono (fun g hg => ⟨.inl hg.1, hg.2⟩))
  have hcw2 := calls'.2 HH.out.2.2.2.2.2.2.1
  have H2 := Lib.hid (And.intro hT (And.intro hF hcw2)); clear hT hF hcw2 hT2 hF2 hB
  go_wp2_with fail
  go_loopw [10, 35] (fun _ vk wr => ∃ (k : Nat) (c2 : Int), vk = .int .i64 k ∧ k ≤ xs.length ∧ (Lit.int .i64 c2).wf = true ∧ LT (MoreL own w) wr t mt m most c2 P ((xs.take k).map fun x => ⟨x, rowL m x.ob P⟩) ∧ Fr (nfL own w) w wr) (fun _ vk _ => xs.length - (intOf vk).toNat)
  case atStart =>
    exact ⟨0, _, rfl, Nat.zero_le _, H2.out.2.2, H2.out.1, H2.out.2.1⟩
  case round =>
    obtain ⟨k, c2, rfl, hk, hcw2, hT, hF⟩ := hrel
    by_cases hlt3 : k < xs.length
    · have hvr := HH.out.2.1.keep (hF.kp (ts := 34 :: itR.ts) (b := b) (fun g hg => hg.sta HH.out.2.2.1))
      obtain ⟨A', c', hv', _, _, _, hat⟩ := hvr.at
      injection hv' with e1 e2 e3
      subst e1 e3
      obtain ⟨g, o, cs, hA, hg, hr, hc⟩ := hat k hlt3
      subst hA
      obtain ⟨vx, rfl, hid, hob⟩ := itR_iff.1 hr
      obtain ⟨Av, nv, cv, hv'⟩ : ∃ A n c, vx = .slice A n c := by obtain ⟨v', hv2, _, hr, _⟩ := obR_iff.1 hob; simp only [List.cons.injEq, and_true, true_and] at hv2; subst hv2; obtain ⟨A, c, e, _⟩ := hr.at; exact ⟨A, _, c, e⟩
      subst hv'
      have d0 := hc 0 _ rfl
      have d1 := hc 1 _ rfl
      have d2 := hc 2 _ rfl
      have d3 := hc 3 _ rfl
      simp only [Nat.add_zero] at d0
      rw [show itR.sz = 4 from rfl] at d0 d1 d2 d3
      have hlt' : (k : Int) < xs.length := by omega
      have htake : xs.take (k + 1) = xs.take k ++ [xs[k]] := by rw [List.take_add_one, List.getElem?_eq_getElem hlt3]; rfl
      have hB1 : Below wr.heap.size wr (wr.alloc (.cells #[.int .u64 xs[k].id, .int .i64 xs[k].ob.tag, .slice Av nv cv, .string xs[k].ob.str] 34)) := (Below.refl _ wr).alloc (Nat.le_refl _) _
      have hids : ((xs.take k).map (fun x => (⟨x, rowL m x.ob P⟩ : Lw))).map (·.it.id) = (xs.map It.id).take k := by rw [List.map_map, ← List.map_take]; rfl
      have has2 : asc (((xs.take k).map (fun x => (⟨x, rowL m x.ob P⟩ : Lw))).map (·.it.id)) := by rw [hids]; exact asc_take HH.out.2.2.2.2.2.1 k
      have hgt : ∀ i ∈ ((xs.take k).map (fun x => (⟨x, rowL m x.ob P⟩ : Lw))).map (·.it.id), i < xs[k].id := by
        rw [hids]
        intro i hi
        obtain ⟨j, hj⟩ := List.getElem?_of_mem hi
        have hjl := (List.getElem?_eq_some_iff.1 hj).1
        rw [List.length_take, List.length_map] at hjl
        rw [List.getElem?_take_of_lt (by omega)] at hj
        have := HH.out.2.2.2.2.2.1 j k (by omega) (by rw [List.length_map]; omega)
        rw [List.getD_eq_getElem?_getD, List.getD_eq_getElem?_getD, hj] at this
        simpa [hlt3] using this
      have hcall := putEnd_any b (hT.below hB1) (fun g hg => by
        rcases hg with hg | hg
        · exact HH.out.2.2.1 g hg
        · exact Nat.le_trans hbw hg) hcw2 xs[k] _ (itR_below hr hB1) (HH.out.2.2.2.1 _ (List.getElem_mem ..)) (by have := HPM.out; omega) HPM.out.1 has2 hgt (by rw [List.length_map, List.length_take]; omega)
      have HR := Lib.hid (And.intro hT (And.intro hF (And.intro htake (And.intro hcall hB1))))
      clear hT hF hr hc hat hob htake hvr hids has2 hgt hcall hcw2 hB1
      go_wp2_with fail
      refine HR.out.2.2.2.1.mono ?_
      obtain ⟨hT, hF, htake, hcall, hB1⟩ := HR.out
      rintro er w3 ⟨rfl, hF3, hT3⟩
      have hs2 := hF.size
      have hs3 := hB1.size
      have hF4 : Fr (nfL own w) w w3 := Fr.nfL_trans (hF.below hB1 hF.size) hF3
      have hT4 : LT (MoreL own w) w3 t mt m most (wrap64 (c2 + P.length)) P ((xs.take (k + 1)).map fun x => ⟨x, rowL m x.ob P⟩) := by
        rw [htake, List.map_append]
        refine hT3.grow (fun g hg => ?_)
        rcases hg with hg | hg
        · exact hg
        · exact .inr (by omega)
      have HZ := Lib.hid (And.intro hT4 (And.intro hF4 (wrap_wf (c2 + P.length)))); clear hT hF htake hcall hB1 hF3 hT3 hF4 hT4 hs2 hs3 HR
      go_wp2_with fail
      exact ⟨⟨k + 1, _, by simp, by omega, HZ.out.2.2, HZ.out.1, HZ.out.2.1⟩, by simp [intOf]; omega⟩
    · obtain rfl : k = xs.length := by omega
      rw [List.take_length] at hT
      have HR := Lib.hid (And.intro hT (And.intro hF hcw2)); clear hT hF hcw2
      go_wp2_with fail
      go_ret
      exact ⟨rfl, HR.out.2.1, _, HR.out.2.2, HR.out.1⟩
end Go.Proofs.YtbjmlahnojfekaaGreat
