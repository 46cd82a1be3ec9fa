/-
  vptree: Bulk into an empty tree.
-/
import Derived.Test.YtlcpfnhindfkfaaVfr
namespace Go.Proofs.Ytlcpfnhindfkfaa
open Go Go.RowKit Go.WW
set_option maxRecDepth 100000 in
set_option maxHeartbeats 4000000 in
theorem vbulk0_any {own : Nat → Prop} {w : World} {t mt s : Nat} {m most calls : Int} {gone : Int} {f : Int → Option Int} {src : List Int} {used : Nat} (b : Nat) (h : VT own w t mt m most calls [] gone f) (hS : SrcM w s src used) (hos : ¬ own s) (hsl : src.length ≤ 1048576) (hm1 : 1 ≤ most) (v : Value) (xs : List It) (hv : RdRow itR 34 b w v xs) (hx0 : 0 < xs.length) (hxl : xs.length ≤ 100000) (hul : used ≤ 100000) (hsh : ∀ x ∈ xs, Short x.ob) (hfr : freshB f [] (xs.map It.id) = true) :
    Calls Try.prog 9 #[.pointer (some ⟨t, 0, none⟩), v, .pointer (some ⟨s, 0, none⟩)] w fun r w' => r = .returned (.int .i64 0) ∧ Fr (nfL (OS own s) w) w w' ∧ ∃ f' c', VT (MoreL own w) w' t mt m most c' (buildN m most src xs.length [vn0] used 0 (-1) xs).1 0 f' ∧ SrcM w' s src (buildN m most src xs.length [vn0] used 0 (-1) xs).2 := by
  obtain ⟨A, c, rfl, hlc, hcm, hA, hat⟩ := hv.at
  have HH := Lib.hid (And.intro h (And.intro hv (And.intro hS (And.intro hos (And.intro hsh hat))))); clear h hv hS hos hsh hat hA
  have HFR := Lib.hid hfr; clear hfr
  go_enter Try.func9, Try.ntmps9
  go_wp2_with fail
  refine (vfresh_any b HH.out.1 _ xs HH.out.2.1 (by omega)).mono ?_
  rintro er w1 ⟨i, rfl, hB⟩
  rw [HFR.out]
  simp only [if_true]
  have HB := Lib.hid hB; clear hB
  go_wp2_with fail
  go_loopw [9, 11, 28] (fun va _ vk wr => ∃ k : Nat, vk = .int .i64 k ∧ k ≤ xs.length ∧ OwnRow itR 34 0 w.heap.size wr va (xs.take k) ∧ Below w.heap.size w wr) (fun _ _ vk _ => xs.length - (intOf vk).toNat)
  case atStart => exact ⟨0, rfl, Nat.zero_le _, OwnRow.nil .., HB.out⟩
  case round =>
    obtain ⟨k, rfl, hk, hO, hB⟩ := hrel
    by_cases hlt3 : k < xs.length
    · have hz : (k : Int) < xs.length := by omega
      obtain ⟨g, o, cs, hA, hg, hr, hc⟩ := HH.out.2.2.2.2.2 k hlt3
      subst hA
      obtain ⟨vx, rfl, hid, hob⟩ := itR_iff.1 hr
      obtain ⟨Av, nv, cv, hv'⟩ : ∃ A n c, vx = .slice A n c := by obtain ⟨v', hv2, _, hr, _⟩ := obR_iff.1 hob; simp only [List.cons.injEq, and_true, true_and] at hv2; subst hv2; obtain ⟨A, c, e, _⟩ := hr.at; exact ⟨A, _, c, e⟩
      subst hv'
      have hbl := fun j u h => (hB.cell (p := ⟨g, o + k * 4 + j, none⟩) hg).trans (hc j u h)
      have d0 := hbl 0 _ rfl
      have d1 := hbl 1 _ rfl
      have d2 := hbl 2 _ rfl
      have d3 := hbl 3 _ rfl
      simp only [Nat.add_zero] at d0
      have hgr : g < wr.heap.size := Nat.lt_of_lt_of_le hg hB.size
      have htake : xs.take (k + 1) = xs.take k ++ [xs[k]] := by rw [List.take_add_one, List.getElem?_eq_getElem hlt3]; rfl
      have sx := HH.out.2.2.2.2.1 _ (List.getElem_mem hlt3)
      obtain ⟨W1, hW1⟩ : ∃ W1, W1 = wr.alloc (.cells #[.int .u64 xs[k].id, .int .i64 xs[k].ob.tag, .slice Av nv cv, .string xs[k].ob.str] 34) := ⟨_, rfl⟩
      have hB1 : Below wr.heap.size wr W1 := by rw [hW1]; exact (Below.refl _ wr).alloc (Nat.le_refl _) _
      have hown := vown_any b xs[k] _ W1 (itR_below (itR_below hr hB) hB1) sx
      have hlk : (xs.take k).length ≤ 100000 := by rw [List.length_take]; omega
      obtain ⟨A7, c7, hv7⟩ := hO.slice
      subst hv7
      generalize xs.take k = L at *
      generalize xs[k] = x at *
      have hl8 : (L.length + 1) * 56 ≤ 140737488355328 := by omega
      have HR := Lib.hid (And.intro hO (And.intro hB (And.intro htake (And.intro hk (And.intro hB1 hl8))))); clear hO hB htake hk hB1 hr hc hbl hob hl8
      go_wp2_with fail
      rw [← hW1]
      clear hW1
      refine hown.mono ?_
      clear hown
      rintro er w3 ⟨cs, rfl, hcs, hB3⟩
      obtain ⟨v3, rfl, _, hob3⟩ := itR_iff.1 hcs
      obtain ⟨A3, n3, c3, hv3⟩ : ∃ A n c, v3 = .slice A n c := by obtain ⟨v', hv2, _, hr, _⟩ := obR_iff.1 hob3; simp only [List.cons.injEq, and_true, true_and] at hv2; subst hv2; obtain ⟨A, c, e, _⟩ := hr.at; exact ⟨A, _, c, e⟩
      subst hv3
      obtain ⟨hO, hB, htake, hk, hB1, hl8⟩ := HR.out
      have hBr : Below wr.heap.size wr w3 := hB1.trans (hB3.mono hB1.size)
      have hO3 := hO.below hBr
      have hBw := hB.trans (hBr.mono hB.size)
      have HS := Lib.hid (And.intro hO3 (And.intro hBw (And.intro hcs (And.intro htake (And.intro hk hl8))))); clear hO hB htake hk hB1 hl8 hO3 hBw hcs hBr hB3 hob3 HR
      go_wp2_with (at_builtin; go_loud (refine wp_push (R := itR) (W := w3) rfl (.tmp 32) (.tmp 35) 25 (.agg #[.int .u64 0, .int .i64 0, .slice none 0 0, .string ⟨#[]⟩]) 56 rfl Try.underlying25 info_it rfl (by decide) (by decide) (.slice A7 L.length c7) L x #[.int .u64 x.id, .int .i64 x.ob.tag, .slice A3 n3 c3, .string x.ob.str] (0, 0) rfl rfl HS.out.2.2.1 HS.out.1 HS.out.2.1.size (by decide) (Nat.zero_le _) HS.out.2.2.2.2.2 ?_); intro v1 w4 hO4 hG4 _ _)
      obtain ⟨hO3, hBw, hcs, htake, hk, hl8⟩ := HS.out
      exact ⟨⟨k + 1, by go_num, by omega, by rw [htake]; exact hO4, hBw.grown hG4 hBw.size (fun g hg => (hO3.lt _ hg).1)⟩, by simp [intOf]; omega⟩
    · obtain rfl : k = xs.length := by omega
      rw [List.take_length] at hO
      have hTr := HH.out.1.below hB
      obtain ⟨lv, mb, hrow, hOl, _, _, _⟩ := hTr.mem
      obtain ⟨Al, cl, hlv⟩ := hOl.slice
      subst hlv
      have c0 := hrow.cell
      have hlt := hrow.lt
      obtain ⟨A7, c7, hv7⟩ := hO.slice
      subst hv7
      have hcall := vfreshT_any (hTr.tight) (HH.out.2.2.1.below hB) (fun e => HH.out.2.2.2.1 e.1) hsl hm1 _ xs hO.read hx0 hxl hul HH.out.2.2.2.2.1
      have HR := Lib.hid hB; clear hO hB hTr hrow hOl
      go_wp2_with fail
      refine hcall.mono ?_
      clear hcall
      rintro er w3 ⟨rfl, hF3, f', c', hT3, hS3⟩
      have HZ := Lib.hid (And.intro hF3 (And.intro hT3 hS3)); clear hF3 hT3 hS3
      go_wp2_with fail
      go_ret
      obtain ⟨hF3, hT3, hS3⟩ := HZ.out
      have hsz := HR.out.size
      refine ⟨rfl, Fr.step_own (Fr.of_below HR.out) hF3 (fun g hg => ?_), f', c', hT3.grow (fun g hg => ?_), hS3⟩
      · rcases hg with e | e
        · exact .inl (.inl e.1)
        · exact .inl (.inr e)
      · rcases hg with e | e
        · exact .inl e.1
        · exact .inr (by omega)
end Go.Proofs.Ytlcpfnhindfkfaa
