/-
  vptree: pick.
-/
import Derived.Test.YtlcpfnhindfkfaaVfars
namespace Go.Proofs.Ytlcpfnhindfkfaa
open Go Go.RowKit Go.WW
def pickF (l : List It) (f : List Fa) : List It := f.map (fun x => itD l x.pl.toNat)
/-- A thing of a row that is read. -/
theorem itrow_at {w : World} {v : Value} {xs : List It} (hv : RdRow itR 34 0 w v xs) (hn : xs ≠ []) : ∃ g o c, v = .slice (some ⟨g, o, none⟩) xs.length c ∧ g < w.heap.size ∧ Sta (34 :: itR.ts) 0 w g ∧ ∀ k (_hk : k < xs.length), ∃ vx, itR.rd 0 w [.int .u64 xs[k].id, .int .i64 xs[k].ob.tag, vx, .string xs[k].ob.str] xs[k] ∧ (∃ A n c, vx = .slice A n c) ∧ w.cell? ⟨g, o + k * 4, none⟩ = some (.int .u64 xs[k].id) ∧ w.cell? ⟨g, o + k * 4 + 1, none⟩ = some (.int .i64 xs[k].ob.tag) ∧ w.cell? ⟨g, o + k * 4 + 2, none⟩ = some vx ∧ w.cell? ⟨g, o + k * 4 + 3, none⟩ = some (.string xs[k].ob.str) := by
  obtain ⟨A, c, rfl, hlc, hcm, hA, h3⟩ := hv
  obtain ⟨g, o, rfl, hg, hs, hc⟩ := h3 hn
  refine ⟨g, o, c, rfl, hg, hs, fun k hk => ?_⟩
  obtain ⟨cs, hr, hcc⟩ := hc k xs[k] (List.getElem?_eq_getElem hk)
  obtain ⟨vx, rfl, hid, hob⟩ := itR_iff.1 hr
  refine ⟨vx, hr, ?_, hcc 0 _ rfl, hcc 1 _ rfl, hcc 2 _ rfl, hcc 3 _ rfl⟩
  obtain ⟨v', hv2, _, hr, _⟩ := obR_iff.1 hob
  simp only [List.cons.injEq, and_true, true_and] at hv2
  subst hv2
  obtain ⟨A, c, e, _⟩ := hr.at
  exact ⟨A, _, c, e⟩
set_option maxRecDepth 100000 in
set_option maxHeartbeats 4000000 in
theorem vpick_any (w : World) (v vf : Value) (xs : List It) (fs : List Fa) (hv : RdRow itR 34 0 w v xs) (hf : RdRow faR 99 0 w vf fs) (hn : xs.length ≤ 1048576) (hfn : fs.length ≤ 1048576) (hfx : ∀ x ∈ fs, 0 ≤ x.pl ∧ x.pl.toNat < xs.length) :
    Calls Try.prog 39 #[v, vf] w fun r w' => ∃ va, r = .returned va ∧ OwnRow itR 34 0 w.heap.size w' va (pickF xs fs) ∧ Below w.heap.size w w' := by
  have hv1 := hv
  have hf1 := hf
  obtain ⟨A, c, rfl, hlc, hcm, hA, _⟩ := hv.at
  obtain ⟨Af, cf, rfl, hlf, hcf, hAf, _⟩ := hf.at
  have HH := Lib.hid (And.intro hv1 (And.intro hf1 hfx)); clear hv hf hv1 hf1 hfx hA hAf
  go_enter Try.func39, Try.ntmps39
  go_wp2_with fail
  go_loopw [5, 7, 10] (fun va _ vk wr => ∃ k : Nat, vk = .int .i64 k ∧ k ≤ fs.length ∧ OwnRow itR 34 0 w.heap.size wr va (pickF xs (fs.take k)) ∧ Below w.heap.size w wr) (fun _ _ vk _ => fs.length - (intOf vk).toNat)
  case atStart => exact ⟨0, rfl, Nat.zero_le _, OwnRow.nil .., Below.refl _ _⟩
  case round =>
    obtain ⟨k, rfl, hk, hO, hB⟩ := hrel
    by_cases hlt3 : k < fs.length
    · have hz : (k : Int) < fs.length := by omega
      have hfr := HH.out.2.1.below hB
      obtain ⟨A', c', hv', _, _, _, hat⟩ := hfr.at
      injection hv' with e1 e2 e3
      clear e2
      subst e1 e3
      obtain ⟨g, o, cs, hA', hg, hr, hc⟩ := hat k hlt3
      subst hA'
      obtain ⟨rfl, hok⟩ := faR_iff.1 hr
      have d0 := hc 0 _ rfl
      have d1 := hc 1 _ rfl
      rw [show faR.sz = 2 from rfl] at d0 d1
      simp only [Nat.add_zero] at d0
      obtain ⟨hx0, hx1⟩ := HH.out.2.2 _ (List.getElem_mem hlt3)
      have hstp : pickF xs (fs.take (k + 1)) = pickF xs (fs.take k) ++ [itD xs fs[k].pl.toNat] := by unfold pickF; rw [List.take_add_one, List.getElem?_eq_getElem hlt3, List.map_append]; rfl
      rw [itD_eq hx1] at hstp
      obtain ⟨j, hj⟩ : ∃ j : Nat, fs[k].pl.toNat = j := ⟨_, rfl⟩
      have hpl : fs[k].pl = (j : Int) := by omega
      rw [hpl] at d0
      simp only [hj] at hstp
      rw [hj] at hx1
      have hzj : (j : Int) < xs.length := by omega
      have hpn : xs ≠ [] := by rintro rfl; simp at hx1
      have hvw := HH.out.1.below hB
      obtain ⟨g2, o2, c2, hv2, hg2, _, hit⟩ := itrow_at hvw hpn
      injection hv2 with e1 e2 e3
      clear e2
      subst e1 e3
      obtain ⟨vx, hrx, ⟨Av, nv, cv, rfl⟩, k0, k1, k2, k3⟩ := hit j hx1
      generalize fs[k].ds = ds at d1
      obtain ⟨A7, c7, hv7⟩ := hO.slice
      subst hv7
      have hl7 : (pickF xs (fs.take k)).length ≤ 1048576 := by unfold pickF; rw [List.length_map, List.length_take]; omega
      generalize pickF xs (fs.take k) = L at *
      generalize xs[j] = x at *
      have hl8 : (L.length + 1) * 56 ≤ 140737488355328 := by omega
      have hBb : ∀ ob : Obj, Below wr.heap.size wr (wr.alloc ob) := fun ob => (Below.refl _ wr).alloc (Nat.le_refl _) ob
      have HR := Lib.hid (And.intro (hO.alloc (.cells #[.int .i64 j, .int .i64 ds] 99)) (And.intro (hB.alloc hB.size (.cells #[.int .i64 j, .int .i64 ds] 99)) (And.intro hstp (And.intro hk (And.intro (itR_below hrx (hBb (.cells #[.int .i64 j, .int .i64 ds] 99))) hl8)))))
      clear hO hB hstp hk hrx hl8 hr hc hat hfr hok hit hvw hBb hpl
      go_wp2_with (at_builtin; go_loud (refine wp_push (R := itR) (W := wr.alloc (.cells #[.int .i64 j, .int .i64 ds] 99)) rfl (.tmp 14) (.tmp 20) 25 (.agg #[.int .u64 0, .int .i64 0, .slice none 0 0, .string ⟨#[]⟩]) 56 rfl Try.underlying25 info_it rfl (by decide) (by decide) (.slice A7 L.length c7) L x #[.int .u64 x.id, .int .i64 x.ob.tag, .slice Av nv cv, .string x.ob.str] (0, 0) rfl (by rw [World.size_alloc]; rfl) HR.out.2.2.2.2.1 HR.out.1 HR.out.2.1.size (by decide) (Nat.zero_le _) HR.out.2.2.2.2.2 ?_); intro v1 w1 hO1 hG1 _ _)
      obtain ⟨hO, hB, hstp, hk, hrx, hl8⟩ := HR.out
      exact ⟨⟨k + 1, by go_num, by omega, by rw [hstp]; exact hO1, hB.grown hG1 hB.size (fun g hg => (hO.lt _ hg).1)⟩, by simp [intOf]; omega⟩
    · obtain rfl : k = fs.length := by omega
      rw [List.take_length] at hO
      have HR := Lib.hid (And.intro hO hB); clear hO hB
      go_wp2_with fail
      go_ret
      exact ⟨_, rfl, HR.out.1, HR.out.2⟩
end Go.Proofs.Ytlcpfnhindfkfaa
