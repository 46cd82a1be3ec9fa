/-
  vptree: fresh.
-/
import Derived.Test.YtlcpfnhindfkfaaVown
namespace Go.Proofs.Ytlcpfnhindfkfaa
open Go Go.RowKit Go.WW
set_option maxRecDepth 100000 in
set_option maxHeartbeats 4000000 in
theorem vfreshT_any {own : Nat → Prop} {w : World} {t mt s : Nat} {m most calls : Int} {l : List Vn} {gone : Int} {f : Int → Option Int} {src : List Int} {used : Nat} (h : VT own w t mt m most calls l gone f) (hS : SrcM w s src used) (hos : ¬ own s) (hsl : src.length ≤ 1048576) (hm1 : 1 ≤ most) (v : Value) (xs : List It) (hv : RdRow itR 34 0 w v xs) (hx0 : 0 < xs.length) (hxl : xs.length ≤ 100000) (hul : used ≤ 100000) (hsh : ∀ x ∈ xs, Short x.ob) :
    Calls Try.prog 21 #[.pointer (some ⟨t, 0, none⟩), v, .pointer (some ⟨s, 0, none⟩)] w fun r w' => r = .returned (.tuple #[]) ∧ Fr (nfL (OS own s) w) w w' ∧ ∃ f' c', VT (MoreL own w) w' t mt m most c' (buildN m most src xs.length [vn0] used 0 (-1) xs).1 0 f' ∧ SrcM w' s src (buildN m most src xs.length [vn0] used 0 (-1) xs).2 := by
  obtain ⟨lv, mb, hrow, hO, hM, hol, hom⟩ := h.mem
  obtain ⟨A, c, rfl, hlc, hcm, hA, _⟩ := hv.at
  have hmm := @run_makeMap Try.prog
  have hz : decide ((0 : Int) < xs.length) = true := decide_eq_true (by omega)
  have hlt := hrow.lt
  have c0 := hrow.cell
  have f0 := hrow.frozen
  obtain ⟨W, hW⟩ : ∃ W, W = (((w.setCell ⟨t, 2, none⟩ nilS).setCell ⟨t, 3, none⟩ (.map (some w.heap.size))).setCell ⟨t, 4, none⟩ (.int .i64 0)).alloc (.map #[] 0) := ⟨_, rfl⟩
  have htt : t ≠ mt := blk_ne hrow h.met (by decide)
  have rW : IRow 67 W t [.pointer (some ⟨mt, 0, none⟩), .int .i64 most, nilS, .map (some w.heap.size), .int .i64 0] := by rw [hW]; exact (((hrow.set 2 nilS).set 3 (.map (some w.heap.size))).set 4 (.int .i64 0)).alloc _
  have hhW : ∀ g, g ≠ t → g < w.heap.size → W.heap[g]? = w.heap[g]? := fun g hg hl => by
    rw [hW]
    exact (((Below.heap_alloc _ _ g (by simpa using hl)).trans (Below.heap_setCell _ ⟨t, 4, none⟩ _ g hg)).trans (Below.heap_setCell _ ⟨t, 3, none⟩ _ g hg)).trans (Below.heap_setCell _ ⟨t, 2, none⟩ _ g hg)
  have hmapW : MapU Try.prog 32 3 W w.heap.size (fun _ => none) := by
    have := MapU.made (((w.setCell ⟨t, 2, none⟩ nilS).setCell ⟨t, 3, none⟩ (.map (some w.heap.size))).setCell ⟨t, 4, none⟩ (.int .i64 0)) Try.prog 32 3
    rw [World.size_setCell, World.size_setCell, World.size_setCell] at this
    rw [hW]
    exact this
  have hTW : VT (MoreL own w) W t mt m most calls [] 0 (fun _ => none) := ⟨⟨_, _, rW, OwnRow.nil .., hmapW, fun g hg => by (cases hg), .inr (Nat.le_refl _)⟩, h.met.kept (hhW _ (Ne.symm htt) h.met.lt), .inl h.ot, .inl h.om⟩
  have hFW : Fr (nfL (OS own s) w) w W := by
    rw [hW]
    have hnt : nfL (OS own s) w t := ⟨.inl h.ot, not_frzL hrow (by decide)⟩
    exact ((((Fr.refl _ w).setCell _ (.inl hnt)).setCell _ (.inl hnt)).setCell _ (.inl hnt)).alloc _
  have hvW : RdRow itR 34 0 W (.slice A xs.length c) xs := hv.keep (hFW.kp (ts := 34 :: itR.ts) (b := 0) (fun g hg => hg.sta (fun g _ => Nat.zero_le g)))
  have hts : t ≠ s := by obtain ⟨_, hr, _⟩ := hS.row; exact blk_ne hrow hr (by decide)
  have hSW : SrcM W s src used := hS.keep (hFW.kp (ts := [3]) (b := 0) (fun g hg => hg.sta (fun g _ => Nat.zero_le g))) (hhW s (Ne.symm hts) hS.lt)
  have hosW : ¬ MoreL own w s := by rintro (e | e); exact hos e; have := hS.lt; omega
  have hadd := vadd_any hTW (by simp)
  have HH := Lib.hid (And.intro hFW (And.intro hvW (And.intro hSW (And.intro hosW hsh)))); clear hFW hvW hSW hosW hsh hTW hmapW hhW rW h hS hos hv hrow hO hM hol hom hA
  go_enter Try.func21, Try.ntmps21
  go_wp2_with fail
  rw [← hW]
  clear hW
  refine hadd.mono ?_
  clear hadd
  rintro er w2 ⟨rfl, hF2, hT2⟩
  have hsW : w.heap.size ≤ W.heap.size := HH.out.1.size
  have hK2 := Fr.step_own HH.out.1 hF2 (fun g hg => by
    rcases hg with e | e
    · exact .inl (.inl e)
    · exact .inr e)
  have hS2 := HH.out.2.2.1.fr hF2 HH.out.2.2.2.1
  have hv2 := HH.out.2.1.keep (hF2.kp (ts := 34 :: itR.ts) (b := 0) (fun g hg => hg.sta (fun g _ => Nat.zero_le g)))
  have hos2 : ¬ MoreL (MoreL own w) W s := by
    rintro (e | e)
    · exact HH.out.2.2.2.1 e
    · have := HH.out.2.2.1.lt; omega
  have hcall := vbuild_any src hsl (xs.map It.id) (by rw [List.length_map]; omega) t mt s m most 0 hm1 xs.length (MoreL (MoreL own w) W) w2 calls [vn0] (fun _ => none) 0 (-1) _ xs used hT2 hS2 hos2 (by simp) (by simp; omega) (by omega) (by unfold wfI; decide) hv2 HH.out.2.2.2.2 (fun y hy => absurd rfl hy) (fun x hx => List.mem_map.2 ⟨x, hx, rfl⟩) (Nat.le_refl _)
  have H2 := Lib.hid (And.intro hK2 hsW); clear hK2 hS2 hv2 hos2 hF2 hT2 hsW
  go_wp2_with fail
  refine hcall.mono ?_
  clear hcall
  rintro er w3 ⟨rfl, hF3, f', c', _, hT3, hS3⟩
  have HZ := Lib.hid (And.intro hF3 (And.intro hT3 hS3)); clear hF3 hT3 hS3
  go_wp2_with fail
  refine bodyPost_end (results_none rfl _ _ _) rfl ?_
  obtain ⟨hF3, hT3, hS3⟩ := HZ.out
  obtain ⟨hK2, hsW⟩ := H2.out
  have hs2 := hK2.size
  refine ⟨rfl, Fr.step_own hK2 hF3 (fun g hg => ?_), f', c', hT3.grow (fun g hg => ?_), hS3⟩
  · rcases hg with (((e | e) | e) | e)
    · exact .inl (.inl e)
    · exact .inr e
    · exact .inr (by omega)
    · exact .inl (.inr e)
  · rcases hg with (((e | e) | e) | e)
    · exact .inl e
    · exact .inr e
    · exact .inr (by omega)
    · exact .inr (by omega)
end Go.Proofs.Ytlcpfnhindfkfaa
