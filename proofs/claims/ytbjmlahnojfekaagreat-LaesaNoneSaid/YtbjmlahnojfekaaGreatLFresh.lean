/-
  index.Fresh with a table's has.
-/
import Derived.Test.YtbjmlahnojfekaaGreatPlace
namespace Go.Proofs.YtbjmlahnojfekaaGreat
open Go Go.RowKit Go.WW
set_option maxRecDepth 100000 in
set_option maxHeartbeats 4000000 in
theorem lfresh_any {own : Nat → Prop} {w : World} {t mt : Nat} {m most calls : Int} {piv : List Ob} {rows : List Lw} (b : Nat) (h : LT own w t mt m most calls piv rows) (hs0 : asc (rows.map (·.it.id))) (hrn : rows.length ≤ 1048576) (f : Int → Option Int) (hf0 : ∀ y, (f y).isSome = decide (y ∈ rows.map (·.it.id))) (v : Value) (xs : List It) (hv : RdRow itR 34 b w v xs) (hn : xs.length ≤ 1048576) :
    Calls Tryz.prog 38 #[v, .func (.func 39) #[.pointer (some ⟨t, 0, none⟩)] #[]] w fun r w' => ∃ i : Int, r = .returned (.tuple #[.int .i64 i, .int .i64 (if freshB f [] (xs.map It.id) then 0 else 4)]) ∧ Below w.heap.size w w' := by
  have hmm := @run_makeMap Tryz.prog
  obtain ⟨E, hE⟩ : ∃ E : Int, E = (if freshB f [] (xs.map It.id) then 0 else 4) := ⟨_, rfl⟩
  rw [← hE]
  have HE := Lib.hid hE; clear hE
  obtain ⟨A, c, rfl, hlc, hcm, hA, hat⟩ := hv.at
  have HH := Lib.hid (And.intro h (And.intro hv (And.intro hat hA))); clear h hv hat hA
  go_enter Tryz.func38, Tryz.ntmps38
  go_wp2_with fail
  go_loopw [7, 8, 9, 10, 14] (fun _ _ _ _ vk wr => ∃ (k : Nat) (seen : Int → Option Int), vk = .int .i64 k ∧ k ≤ xs.length ∧ freshB f [] (xs.map It.id) = freshB f ((xs.take k).map It.id) ((xs.drop k).map It.id) ∧ (∀ y, seen y ≠ none ↔ y ∈ (xs.take k).map It.id) ∧
    MapU Tryz.prog 32 3 wr w.heap.size seen ∧ Below w.heap.size w wr) (fun _ _ _ _ vk _ => xs.length - (intOf vk).toNat)
  case atStart =>
    exact ⟨0, fun _ => none, rfl, Nat.zero_le _, rfl, by simp, MapU.made .., (Below.refl _ w).alloc (Nat.le_refl _) _⟩
  case round =>
    obtain ⟨k, seen, rfl, hk, hfr, hseen, hM, hB⟩ := hrel
    by_cases hlt : k < xs.length
    · obtain ⟨_, hv, hat, _⟩ := HH.out
      obtain ⟨g, o, cs, hA, hg, hr, hc⟩ := hat k hlt
      subst hA
      obtain ⟨vx, rfl, hid, hob⟩ := itR_iff.1 hr
      obtain ⟨Av, nv, cv, hv'⟩ : ∃ A n c, vx = .slice A n c := by obtain ⟨v', hv2, _, hr, _⟩ := obR_iff.1 hob; simp only [List.cons.injEq, and_true, true_and] at hv2; subst hv2; obtain ⟨A, c, e, _⟩ := hr.at; exact ⟨A, _, c, e⟩
      subst hv'
      have hbl := fun j u h => (hB.cell (p := ⟨g, o + k * 4 + j, none⟩) hg).trans (hc j u h)
      have d0 := hbl 0 _ rfl
      have d1 := hbl 1 _ rfl
      have d2 := hbl 2 _ rfl
      have d3 := hbl 3 _ rfl
      simp only [Nat.add_zero] at d0
      have hlt' : (k : Int) < xs.length := by omega
      have hBA : ∀ o : Obj, Below wr.heap.size wr (wr.alloc o) := fun o => (Below.refl _ wr).alloc (Nat.le_refl _) o
      have hdrop : (xs.drop k).map It.id = xs[k].id :: (xs.drop (k + 1)).map It.id := by rw [List.drop_eq_getElem_cons hlt]; rfl
      have htake : (xs.take (k + 1)).map It.id = (xs.take k).map It.id ++ [xs[k].id] := by rw [List.take_add_one, List.getElem?_eq_getElem hlt, List.map_append]; rfl
      rw [hdrop, freshB_cons] at hfr
      have hMA : MapU Tryz.prog 32 3 (wr.alloc (.cells #[.int .u64 xs[k].id, .int .i64 xs[k].ob.tag, .slice Av nv cv, .string xs[k].ob.str] 34)) w.heap.size seen := hM.kept (Below.heap_alloc _ _ _ hM.lt)
      obtain ⟨v, hrun, _, _⟩ := hMA.look_ok (t := 129) Tryz.underlying32 Tryz.underlying3 Tryz.underlying129 (zero_int _) hid
      have HR := Lib.hid (And.intro hfr (And.intro hseen (And.intro hM (And.intro hB (And.intro hBA (And.intro htake hMA))))))
      clear hfr hseen hM hB hbl hc hr hob hat hv hBA hdrop htake hMA
      cases hs : seen xs[k].id with
      | some v' =>
        rw [hs] at hrun
        go_wp2_with fail
        go_ret2
        obtain ⟨hfr, hseen, hM, hB, hBA, htake, hMA⟩ := HR.out
        have h1 := (hseen xs[k].id).1 (by rw [hs]; simp)
        have h4 : E = 4 := by rw [HE.out, hfr, decide_eq_true h1]; rfl
        exact ⟨(k : Int), by rw [h4]; rfl, hB.trans ((hBA _).mono hB.size)⟩
      | none =>
        rw [hs] at hrun
        have hno : xs[k].id ∉ (xs.take k).map It.id := fun h1 => absurd hs ((HR.out.2.1 _).2 h1)
        have hbx := IRow.new wr [.int .u64 xs[k].id, .int .i64 xs[k].ob.tag, .slice Av nv cv, .string xs[k].ob.str] 34
        have HX := Lib.hid hbx; clear hbx
        go_wp2_with fail
        refine (lhas_any ((HH.out.1.below HR.out.2.2.2.1).below (HR.out.2.2.2.2.1 _)) xs[k].id hs0 hrn).mono ?_
        rintro er w3 ⟨rfl, hb3⟩
        rw [← hf0]
        have hM3 := HR.out.2.2.2.2.2.2.kept (hb3.block _ HR.out.2.2.2.2.2.2.lt)
        have c8 := (HX.out.kept (hb3.block _ HX.out.lt)).cell
        obtain ⟨w5, hrun5, hM5, hg5⟩ := hM3.store (t := 129) Tryz.underlying32 Tryz.underlying3 Tryz.underlying129 hid (len_wf (n := k) (by omega)) (L := (xs.take k).map It.id) (fun y _ hy => (HR.out.2.1 y).1 hy) (by rw [List.length_map, List.length_take]; unfold maxLen; omega)
        have hB3 : Below w.heap.size w w3 := (HR.out.2.2.2.1.trans ((HR.out.2.2.2.2.1 _).mono HR.out.2.2.2.1.size)).trans (hb3.mono (Nat.le_trans HR.out.2.2.2.1.size (HR.out.2.2.2.2.1 _).size))
        have HM5 := Lib.hid (And.intro hM5 (And.intro hg5 hB3)); clear hM5 hg5 hB3 hb3 hM3
        cases hf : f xs[k].id with
        | some v' =>
          have e : (some v' : Option Int).isSome = true := rfl
          rw [e]
          go_wp2_with fail
          go_ret2
          obtain ⟨hfr, hseen, hM, hB, hBA, htake, hMA⟩ := HR.out
          have h4 : E = 4 := by rw [HE.out, hfr, hf]; simp
          exact ⟨(k : Int), by rw [h4]; rfl, HM5.out.2.2⟩
        | none =>
          have e : (none : Option Int).isSome = false := rfl
          rw [e]
          go_wp2_with fail
          obtain ⟨hfr, hseen, hM, hB, hBA, htake, hMA⟩ := HR.out
          have hB5 : Below w.heap.size w w5 := HM5.out.2.2.grown HM5.out.2.1 HM5.out.2.2.size (fun g hg => by cases hg; exact Nat.le_refl _)
          refine ⟨⟨k + 1, _, by simp, by omega, ?_, ?_, HM5.out.1, hB5⟩, ?_⟩
          · rw [hfr, htake, hf, decide_eq_false hno]
            rfl
          · intro y
            rw [htake, List.mem_append, ← hseen y]
            unfold upd
            by_cases e : y = xs[k].id
            · simp [e]
            · simp [e]
          · simp [intOf]; omega
    · obtain rfl : k = xs.length := by omega
      go_wp2_with fail
      go_ret2
      have h0 : E = 0 := by rw [HE.out, hfr, List.drop_length]; rfl
      exact ⟨(xs.length : Int), by rw [h0]; rfl, hB⟩
end Go.Proofs.YtbjmlahnojfekaaGreat
