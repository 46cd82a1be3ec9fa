/-
  vptree: has, own; index.Fresh with a tree's has.
-/
import Derived.Test.YtlcpfnhindfkfaaVbld
namespace Go.Proofs.Ytlcpfnhindfkfaa
open Go Go.RowKit Go.WW
set_option maxRecDepth 100000 in
set_option maxHeartbeats 1000000 in
theorem vhas_any {own : Nat → Prop} {w : World} {t mt : Nat} {m most calls : Int} {l : List Vn} {gone : Int} {f : Int → Option Int} (h : VT own w t mt m most calls l gone f) (id : Int) (hid : W64 id) :
    Calls Try.prog 19 #[.pointer (some ⟨t, 0, none⟩), .int .u64 id] w fun r w' => r = .returned (.bool (f id).isSome) ∧ Below w.heap.size w w' := by
  obtain ⟨lv, mb, hrow, _, hM, _, _⟩ := h.mem
  have c0 := hrow.cell
  obtain ⟨v, hrun, _, _⟩ := hM.look_ok (t := 65) Try.underlying32 Try.underlying3 Try.underlying65 (zero_int w) hid
  clear h
  go_enter Try.func19, Try.ntmps19
  go_wp2
  go_ret
  exact ⟨rfl, Below.refl _ _⟩
set_option maxRecDepth 100000 in
set_option maxHeartbeats 4000000 in
theorem vfresh_any {own : Nat → Prop} {w : World} {t mt : Nat} {m most calls : Int} {l : List Vn} {gone : Int} {f : Int → Option Int} (b : Nat) (h : VT own w t mt m most calls l gone f) (v : Value) (xs : List It) (hv : RdRow itR 34 b w v xs) (hn : xs.length ≤ 1048576) :
    Calls Try.prog 18 #[v, .func (.func 19) #[.pointer (some ⟨t, 0, none⟩)] #[]] w fun r w' => ∃ i : Int, r = .returned (.tuple #[.int .i64 i, .int .i64 (if freshB f [] (xs.map It.id) then 0 else 4)]) ∧ Below w.heap.size w w' := by
  have hmm := @run_makeMap Try.prog
  obtain ⟨E, hE⟩ : ∃ E : Int, E = (if freshB f [] (xs.map It.id) then 0 else 4) := ⟨_, rfl⟩
  rw [← hE]
  have HE := Lib.hid hE; clear hE
  obtain ⟨A, c, rfl, hlc, hcm, hA, hat⟩ := hv.at
  have HH := Lib.hid (And.intro h (And.intro hv (And.intro hat hA))); clear h hv hat hA
  go_enter Try.func18, Try.ntmps18
  go_wp2_with fail
  go_loopw [7, 8, 9, 10, 14] (fun _ _ _ _ vk wr => ∃ (k : Nat) (seen : Int → Option Int), vk = .int .i64 k ∧ k ≤ xs.length ∧ freshB f [] (xs.map It.id) = freshB f ((xs.take k).map It.id) ((xs.drop k).map It.id) ∧ (∀ y, seen y ≠ none ↔ y ∈ (xs.take k).map It.id) ∧
    MapU Try.prog 32 3 wr w.heap.size seen ∧ Below w.heap.size w wr) (fun _ _ _ _ vk _ => xs.length - (intOf vk).toNat)
  case atStart =>
    exact ⟨0, fun _ => none, rfl, Nat.zero_le _, rfl, by simp, MapU.made .., (Below.refl _ w).alloc (Nat.le_refl _) _⟩
  case round =>
    obtain ⟨k, seen, rfl, hk, hfr, hseen, hM, hB⟩ := hrel
    by_cases hlt : k < xs.length
    · obtain ⟨_, hv, hat, _⟩ := HH.out
      obtain ⟨g, o, cs, hA, hg, hr, hc⟩ := hat k hlt
      subst hA
      obtain ⟨vx, rfl, hid, hob⟩ := itR_iff.1 hr
      obtain ⟨Av, nv, cv, hv'⟩ : ∃ A n c, vx = .slice A n c := by obtain ⟨v', hv2, _, hr, _⟩ := obR_iff.1 hob; simp only [List.cons.injEq, and_true, true_and] at hv2; subst hv2; obtain ⟨A, c, e, _⟩ := hr.at; exact ⟨A, _, c, e⟩
      subst hv'
      have hbl := fun j u h => (hB.cell (p := ⟨g, o + k * 4 + j, none⟩) hg).trans (hc j u h)
      have d0 := hbl 0 _ rfl
      have d1 := hbl 1 _ rfl
      have d2 := hbl 2 _ rfl
      have d3 := hbl 3 _ rfl
      simp only [Nat.add_zero] at d0
      have hlt' : (k : Int) < xs.length := by omega
      have hBA : ∀ o : Obj, Below wr.heap.size wr (wr.alloc o) := fun o => (Below.refl _ wr).alloc (Nat.le_refl _) o
      have hdrop : (xs.drop k).map It.id = xs[k].id :: (xs.drop (k + 1)).map It.id := by rw [List.drop_eq_getElem_cons hlt]; rfl
      have htake : (xs.take (k + 1)).map It.id = (xs.take k).map It.id ++ [xs[k].id] := by rw [List.take_add_one, List.getElem?_eq_getElem hlt, List.map_append]; rfl
      rw [hdrop, freshB_cons] at hfr
      have hMA : MapU Try.prog 32 3 (wr.alloc (.cells #[.int .u64 xs[k].id, .int .i64 xs[k].ob.tag, .slice Av nv cv, .string xs[k].ob.str] 34)) w.heap.size seen := hM.kept (Below.heap_alloc _ _ _ hM.lt)
      obtain ⟨v, hrun, _, _⟩ := hMA.look_ok (t := 65) Try.underlying32 Try.underlying3 Try.underlying65 (zero_int _) hid
      have HR := Lib.hid (And.intro hfr (And.intro hseen (And.intro hM (And.intro hB (And.intro hBA (And.intro htake hMA))))))
      clear hfr hseen hM hB hbl hc hr hob hat hv hBA hdrop htake hMA
      cases hs : seen xs[k].id with
      | some v' =>
        rw [hs] at hrun
        go_wp2_with fail
        go_ret2
        obtain ⟨hfr, hseen, hM, hB, hBA, htake, hMA⟩ := HR.out
        have h1 := (hseen xs[k].id).1 (by rw [hs]; simp)
        have h4 : E = 4 := by rw [HE.out, hfr, decide_eq_true h1]; rfl
        exact ⟨(k : Int), by rw [h4]; rfl, hB.trans ((hBA _).mono hB.size)⟩
      | none =>
        rw [hs] at hrun
        have hno : xs[k].id ∉ (xs.take k).map It.id := fun h1 => absurd hs ((HR.out.2.1 _).2 h1)
        have hbx := IRow.new wr [.int .u64 xs[k].id, .int .i64 xs[k].ob.tag, .slice Av nv cv, .string xs[k].ob.str] 34
        have HX := Lib.hid hbx; clear hbx
        go_wp2_with fail
        refine (vhas_any ((HH.out.1.below HR.out.2.2.2.1).below (HR.out.2.2.2.2.1 _)) xs[k].id hid).mono ?_
        rintro er w3 ⟨rfl, hb3⟩
        have hM3 := HR.out.2.2.2.2.2.2.kept (hb3.block _ HR.out.2.2.2.2.2.2.lt)
        have c8 := (HX.out.kept (hb3.block _ HX.out.lt)).cell
        obtain ⟨w5, hrun5, hM5, hg5⟩ := hM3.store (t := 65) Try.underlying32 Try.underlying3 Try.underlying65 hid (len_wf (n := k) (by omega)) (L := (xs.take k).map It.id) (fun y _ hy => (HR.out.2.1 y).1 hy) (by rw [List.length_map, List.length_take]; unfold maxLen; omega)
        have hB3 : Below w.heap.size w w3 := (HR.out.2.2.2.1.trans ((HR.out.2.2.2.2.1 _).mono HR.out.2.2.2.1.size)).trans (hb3.mono (Nat.le_trans HR.out.2.2.2.1.size (HR.out.2.2.2.2.1 _).size))
        have HM5 := Lib.hid (And.intro hM5 (And.intro hg5 hB3)); clear hM5 hg5 hB3 hb3 hM3
        cases hf : f xs[k].id with
        | some v' =>
          have e : (some v' : Option Int).isSome = true := rfl
          rw [e]
          go_wp2_with fail
          go_ret2
          obtain ⟨hfr, hseen, hM, hB, hBA, htake, hMA⟩ := HR.out
          have h4 : E = 4 := by rw [HE.out, hfr, hf]; simp
          exact ⟨(k : Int), by rw [h4]; rfl, HM5.out.2.2⟩
        | none =>
          have e : (none : Option Int).isSome = false := rfl
          rw [e]
          go_wp2_with fail
          obtain ⟨hfr, hseen, hM, hB, hBA, htake, hMA⟩ := HR.out
          have hB5 : Below w.heap.size w w5 := HM5.out.2.2.grown HM5.out.2.1 HM5.out.2.2.size (fun g hg => by cases hg; exact Nat.le_refl _)
          refine ⟨⟨k + 1, _, by simp, by omega, ?_, ?_, HM5.out.1, hB5⟩, ?_⟩
          · rw [hfr, htake, hf, decide_eq_false hno]
            rfl
          · intro y
            rw [htake, List.mem_append, ← hseen y]
            unfold upd
            by_cases e : y = xs[k].id
            · simp [e]
            · simp [e]
          · simp [intOf]; omega
    · obtain rfl : k = xs.length := by omega
      go_wp2_with fail
      go_ret2
      have h0 : E = 0 := by rw [HE.out, hfr, List.drop_length]; rfl
      exact ⟨(xs.length : Int), by rw [h0]; rfl, hB⟩
set_option maxRecDepth 100000 in
set_option maxHeartbeats 2000000 in
theorem vown_any (b : Nat) (x : It) (cx : List Value) (w : World) (hx : itR.rd b w cx x) (sx : Short x.ob) :
    Calls Try.prog 20 #[.agg cx.toArray] w fun e w' => ∃ cs, e = .returned (.agg cs.toArray) ∧ itR.rd 0 w' cs x ∧ Below w.heap.size w w' := by
  obtain ⟨vx, rfl, hid, hob⟩ := itR_iff.1 hx
  obtain ⟨Av, nv, cv, hv'⟩ : ∃ A n c, vx = .slice A n c := by obtain ⟨v', hv2, _, hr, _⟩ := obR_iff.1 hob; simp only [List.cons.injEq, and_true, true_and] at hv2; subst hv2; obtain ⟨A, c, e, _⟩ := hr.at; exact ⟨A, _, c, e⟩
  subst hv'
  obtain ⟨W, hW⟩ : ∃ W, W = (w.alloc (.cells #[.int .u64 x.id, .int .i64 x.ob.tag, .slice Av nv cv, .string x.ob.str] 34)).alloc (.cells #[.int .u64 0, .int .i64 0, .slice none 0 0, .string ⟨#[]⟩] 34) := ⟨_, rfl⟩
  have hB : Below w.heap.size w W := by rw [hW]; exact ((Below.refl _ w).alloc (Nat.le_refl _) _).alloc (by simp) _
  have i0 : IRow 34 W w.heap.size [.int .u64 x.id, .int .i64 x.ob.tag, .slice Av nv cv, .string x.ob.str] := by rw [hW]; exact (IRow.new w _ _).alloc _
  have i1 : IRow 34 W (w.heap.size + 1) [.int .u64 0, .int .i64 0, .slice none 0 0, .string ⟨#[]⟩] := by
    have := IRow.new (w.alloc (.cells #[.int .u64 x.id, .int .i64 x.ob.tag, .slice Av nv cv, .string x.ob.str] 34)) [.int .u64 0, .int .i64 0, .slice none 0 0, .string ⟨#[]⟩] 34
    rw [World.size_alloc] at this
    rw [hW]
    exact this
  have hcl := oclone_any b x.ob _ W.drew (obR_below (obR_below hob hB) (bl_drewN W 1)) sx
  obtain ⟨C0, hC0⟩ : ∃ C0 : World → Prop, C0 = fun w' => w'.heap[w.heap.size]? = W.heap[w.heap.size]? := ⟨_, rfl⟩
  have a1 := i0.cw (C0 := C0) (fun w' hw => by subst hC0; exact hw)
  have h0 : C0 W.drew := by subst hC0; rfl
  have hne : Nonempty (CW C0) := ⟨⟨_, h0⟩⟩
  have HC := Lib.hid hC0; clear hC0
  have HI := Lib.hid (And.intro i1 (And.intro hB i0.lt)); clear i0 i1 hB hx hob
  go_enter Try.func20, Try.ntmps20
  go_wp2_with fail
  rw [← hW]
  clear hW
  refine wp_region_sched [([true, true, true, true, false, false, false], 4), ([false, false, false, false, false, true, false], 6)] [false, false, false, false, false, false, false] (fun w' => ∃ z : CW C0, w' = z.w) (by kernel_rfl) (by kernel_rfl) ⟨⟨_, h0⟩, rfl⟩ ?_
  simp only [wpSch, pickR, pickN]
  repeat (go_big_quiet_step (fail))
  refine wpQuiet_nil ?_
  go_wp2_with fail
  refine hcl.mono ?_
  clear hcl
  rintro er w2 ⟨cs, rfl, hcs, hB2⟩
  obtain ⟨v2, rfl, hw2, hr2, hs2⟩ := obR_iff.1 hcs
  obtain ⟨A2, c2', rfl, _⟩ := hr2.at
  have hB3 : Below W.heap.size W w2 := (bl_drewN W 1).trans hB2
  have i2 := HI.out.1.kept (hB3.block _ HI.out.1.lt)
  have hBw := HI.out.2.1.trans (hB3.mono HI.out.2.1.size)
  have hC2 : C0 w2 := by rw [HC.out]; exact hB3.block _ HI.out.2.2
  have c2 := i2.cell
  have f2 := i2.frozen
  have l2 := i2.lt
  obtain ⟨W3, hW3⟩ : ∃ W3, W3 = (((w2.setCell ⟨w.heap.size + 1, 0, none⟩ (.int .u64 x.id)).setCell ⟨w.heap.size + 1, 1, none⟩ (.int .i64 x.ob.tag)).setCell ⟨w.heap.size + 1, 2, none⟩ (.slice A2 x.ob.vec.length c2')).setCell ⟨w.heap.size + 1, 3, none⟩ (.string x.ob.str) := ⟨_, rfl⟩
  have i3 := (((i2.set 0 (.int .u64 x.id)).set 1 (.int .i64 x.ob.tag)).set 2 (.slice A2 x.ob.vec.length c2')).set 3 (.string x.ob.str)
  have hn2 : ¬ Sta [21] 0 w2 (w.heap.size + 1) := not_sta i2 (Nat.zero_le _) (by decide)
  have hk3 : Kp [21] 0 w2 W3 := by
    rw [hW3]
    exact (((((TK.refl [21] 0 w2).setCell (p := ⟨w.heap.size + 1, 0, none⟩) (.inr hn2) _).setCell (p := ⟨w.heap.size + 1, 1, none⟩) (.inr hn2) _).setCell (p := ⟨w.heap.size + 1, 2, none⟩) (.inr hn2) _).setCell (p := ⟨w.heap.size + 1, 3, none⟩) (.inr hn2) _).kp
  have hB4 : Below w.heap.size w W3 := by
    rw [hW3]
    exact (((hBw.setCell (p := ⟨w.heap.size + 1, 0, none⟩) (Nat.le_succ _) _).setCell (p := ⟨w.heap.size + 1, 1, none⟩) (Nat.le_succ _) _).setCell (p := ⟨w.heap.size + 1, 2, none⟩) (Nat.le_succ _) _).setCell (p := ⟨w.heap.size + 1, 3, none⟩) (Nat.le_succ _) _
  have hC3 : C0 W3 := by
    rw [HC.out]
    have h1 := hC2
    rw [HC.out] at h1
    rw [hW3]
    have hne2 : w.heap.size ≠ w.heap.size + 1 := by omega
    exact (((Below.heap_setCell _ ⟨w.heap.size + 1, 3, none⟩ _ _ hne2).trans (Below.heap_setCell _ ⟨w.heap.size + 1, 2, none⟩ _ _ hne2)).trans (Below.heap_setCell _ ⟨w.heap.size + 1, 1, none⟩ _ _ hne2)).trans ((Below.heap_setCell _ ⟨w.heap.size + 1, 0, none⟩ _ _ hne2).trans h1)
  have hrd : itR.rd 0 W3 [.int .u64 x.id, .int .i64 x.ob.tag, .slice A2 x.ob.vec.length c2', .string x.ob.str] x := itR_iff.2 ⟨_, rfl, hid, obR.keep _ _ _ _ _ hk3 hcs⟩
  rw [← hW3] at i3
  have H2 := Lib.hid (And.intro i3 (And.intro hB4 hrd)); clear i2 hBw hcs hB3 hB2 hr2 i3 hB4 hrd hk3 hn2
  go_wp2_with fail
  apply only_mk
  refine And.intro ⟨⟨_, hC2⟩, rfl⟩ ?_
  repeat (go_big_quiet_step (fail))
  refine wpQuiet_nil ?_
  go_wp2_with fail
  rw [← hW3]
  apply only_mk
  refine And.intro ⟨⟨_, hC3⟩, rfl⟩ ?_
  refine wpQuiet_nil ?_
  go_wp2_with fail
  refine bodyPost_ret (results_cell_row rfl _ _ (w.heap.size + 1) 34 _ (0, 0) _ rfl H2.out.1 Try.underlying34 rfl (by kernel_rfl)) rfl ?_
  exact ⟨_, rfl, H2.out.2.2, H2.out.2.1⟩
end Go.Proofs.Ytlcpfnhindfkfaa
