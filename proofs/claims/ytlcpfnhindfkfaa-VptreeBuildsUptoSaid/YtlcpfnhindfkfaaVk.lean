/-
  vptree: the tree in memory.
-/
import Derived.Test.YtlcpfnhindfkfaaFz
import Derived.Test.YtlcpfnhindfkfaaFar4
import Derived.Test.YtlcpfnhindfkfaaDraw
namespace Go.Proofs.Ytlcpfnhindfkfaa
open Go Go.RowKit Go.WW
structure Vn where
  leaf : Bool
  bucket : List It
  van : It
  gone : Bool
  par : Int
  kin : Int
  kout : Int
  il : Int
  ih : Int
  ol : Int
  oh : Int
abbrev bktR : Rd (List It) := Rd.slice itR 34
def vnR : Rd Vn := Rd.iso (Rd.pair Rd.bool (Rd.pair bktR (Rd.pair itR (Rd.pair Rd.bool (Rd.pair (Rd.int .i64) (Rd.pair (Rd.int .i64) (Rd.pair (Rd.int .i64) (Rd.pair (Rd.int .i64) (Rd.pair (Rd.int .i64) (Rd.pair (Rd.int .i64) (Rd.int .i64))))))))))) (fun x => (x.leaf, x.bucket, x.van, x.gone, x.par, x.kin, x.kout, x.il, x.ih, x.ol, x.oh))
def wfI (x : Int) : Prop := (Lit.int .i64 x).wf = true
structure VnOk (x : Vn) : Prop where
  par : wfI x.par
  kin : wfI x.kin
  kout : wfI x.kout
  il : wfI x.il
  ih : wfI x.ih
  ol : wfI x.ol
  oh : wfI x.oh
theorem vnR_iff {b : Nat} {w : World} {cs : List Value} {x : Vn} : vnR.rd b w cs x ↔ ∃ vb vv, cs = [.bool x.leaf, vb, .int .u64 x.van.id, .int .i64 x.van.ob.tag, vv, .string x.van.ob.str, .bool x.gone, .int .i64 x.par, .int .i64 x.kin, .int .i64 x.kout, .int .i64 x.il, .int .i64 x.ih, .int .i64 x.ol, .int .i64 x.oh] ∧
    RdRow itR 34 b w vb x.bucket ∧ itR.rd b w [.int .u64 x.van.id, .int .i64 x.van.ob.tag, vv, .string x.van.ob.str] x.van ∧ VnOk x := by
  constructor
  · rintro ⟨c1, r1, rfl, rfl, c2, r2, rfl, ⟨vb, rfl, hb⟩, c3, r3, rfl, h3, c4, r4, rfl, rfl, c5, r5, rfl, ⟨rfl, w5⟩, c6, r6, rfl, ⟨rfl, w6⟩, c7, r7, rfl, ⟨rfl, w7⟩, c8, r8, rfl, ⟨rfl, w8⟩, c9, r9, rfl, ⟨rfl, w9⟩, c10, c11, rfl, ⟨rfl, w10⟩, rfl, w11⟩
    obtain ⟨v, rfl, h4, h5⟩ := itR_iff.1 h3
    exact ⟨vb, v, rfl, hb, h3, w5, w6, w7, w8, w9, w10, w11⟩
  · rintro ⟨vb, v, rfl, hb, h3, w5, w6, w7, w8, w9, w10, w11⟩
    exact ⟨[_], _, rfl, rfl, [_], _, rfl, ⟨vb, rfl, hb⟩, [_, _, _, _], _, rfl, h3, [_], _, rfl, rfl, [_], _, rfl, ⟨rfl, w5⟩, [_], _, rfl, ⟨rfl, w6⟩, [_], _, rfl, ⟨rfl, w7⟩, [_], _, rfl, ⟨rfl, w8⟩, [_], _, rfl, ⟨rfl, w9⟩, [_], [_], rfl, ⟨rfl, w10⟩, rfl, w11⟩
def it0 : It := ⟨0, ⟨0, [], ⟨#[]⟩⟩⟩
def vn0 : Vn := ⟨false, [], it0, false, 0, 0, 0, 0, 0, 0, 0⟩
abbrev vn0V : List Value := [.bool false, .slice none 0 0, .int .u64 0, .int .i64 0, .slice none 0 0, .string ⟨#[]⟩, .bool false, .int .i64 0, .int .i64 0, .int .i64 0, .int .i64 0, .int .i64 0, .int .i64 0, .int .i64 0]
theorem it0_rd (b : Nat) (w : World) : itR.rd b w [.int .u64 0, .int .i64 0, .slice none 0 0, .string ⟨#[]⟩] it0 := itR_iff.2 ⟨_, rfl, (by decide), obR_iff.2 ⟨_, rfl, (by decide), RdRow.nil .., (by decide)⟩⟩
theorem wf0 : wfI 0 := by unfold wfI; decide
theorem vn0_rd (b : Nat) (w : World) : vnR.rd b w vn0V vn0 := vnR_iff.2 ⟨_, _, rfl, RdRow.nil .., it0_rd b w, wf0, wf0, wf0, wf0, wf0, wf0, wf0⟩
theorem info_vn : (Try.prog.info? 55).map (fun i => (i.zero, i.size, i.bytes)) = some (some (.agg vn0V.toArray), 14, 152) := by kernel_rfl
/-- A tree in memory: its block t, its meter mt. -/
structure VT (own : Nat → Prop) (w : World) (t mt : Nat) (m most calls : Int) (l : List Vn) (gone : Int) (f : Int → Option Int) : Prop where
  mem : ∃ lv mb, IRow 67 w t [.pointer (some ⟨mt, 0, none⟩), .int .i64 most, lv, .map (some mb), .int .i64 gone] ∧ OwnRow vnR 55 0 0 w lv l ∧ MapU Try.prog 32 3 w mb f ∧ (∀ g, lv.ownBlock = some g → own g) ∧ own mb
  met : IRow 64 w mt [.int .i64 m, .int .i64 calls]
  ot : own t
  om : own mt
section
variable {own own' : Nat → Prop} {w w' : World} {t mt : Nat} {m most calls calls' : Int} {l : List Vn} {gone : Int} {f : Int → Option Int}
theorem VT.keep (h : VT own w t mt m most calls l gone f) (hk : Kp FzL 0 w w') (ho : ∀ g, g < w.heap.size → own g → w'.heap[g]? = w.heap[g]?) : VT own w' t mt m most calls l gone f := by
  obtain ⟨lv, mb, h1, h2, h3, h4, h5⟩ := h.mem
  exact ⟨⟨lv, mb, h1.kept (ho _ h1.lt h.ot), h2.keep (hk.mono (by decide)) (fun k hk' => ho k (h2.lt k hk').2 (h4 k hk')), h3.kept (ho _ h3.lt h5), h4, h5⟩, h.met.kept (ho _ h.met.lt h.om), h.ot, h.om⟩
theorem VT.below (h : VT own w t mt m most calls l gone f) (hb : Below w.heap.size w w') : VT own w' t mt m most calls l gone f := h.keep (TK.of_below hb).kp (fun g hg _ => hb.block g hg)
theorem VT.grow (h : VT own w t mt m most calls l gone f) (ho : ∀ g, own g → own' g) : VT own' w t mt m most calls l gone f := by
  obtain ⟨lv, mb, h1, h2, h3, h4, h5⟩ := h.mem
  exact ⟨⟨lv, mb, h1, h2, h3, fun g hg => ho _ (h4 g hg), ho _ h5⟩, h.met, ho _ h.ot, ho _ h.om⟩
theorem VT.tight (h : VT own w t mt m most calls l gone f) : VT (fun g => own g ∧ g < w.heap.size) w t mt m most calls l gone f := by
  obtain ⟨lv, mb, h1, h2, h3, h4, h5⟩ := h.mem
  exact ⟨⟨lv, mb, h1, h2, h3, fun g hg => ⟨h4 g hg, (h2.lt g hg).2⟩, h5, h3.lt⟩, h.met, ⟨h.ot, h1.lt⟩, h.om, h.met.lt⟩
/-- The meter alone has turned. -/
theorem VT.metered (h : VT own w t mt m most calls l gone f) (hF : Fr (fun g => g = mt) w w') (hm : IRow 64 w' mt [.int .i64 m, .int .i64 calls']) : VT own w' t mt m most calls' l gone f := by
  obtain ⟨lv, mb, h1, h2, h3, h4, h5⟩ := h.mem
  have hk : Kp FzL 0 w w' := hF.kp (fun g hg => by subst hg; exact not_sta h.met (Nat.zero_le _) (by decide))
  have hne : ∀ {g T : Nat} {c : Array Value} {fr : Nat × Nat}, w.heap[g]? = some (.cells c T fr) → T ≠ 64 → w'.heap[g]? = w.heap[g]? := fun {g T c fr} hh hT => hF.block g (Array.getElem?_eq_some_iff.1 hh).1 (fun e => by subst e; exact blk_ne hh h.met hT rfl)
  have hmap : w'.heap[mb]? = w.heap[mb]? := hF.block mb h3.lt (fun e => by
    subst e
    obtain ⟨es, c, hm2⟩ := h3.isMap
    have := h.met
    unfold IRow at this
    rw [hm2] at this
    cases this)
  exact ⟨⟨lv, mb, h1.kept (hne h1 (by decide)), h2.keep (hk.mono (by decide)) (fun k hk' => by obtain ⟨d, hd⟩ := h2.blk hk'; exact hne hd (by decide)), h3.kept hmap, h4, h5⟩, hm, h.ot, h.om⟩
end
set_option maxHeartbeats 1000000 in
theorem vnew_any (w : World) (mt : Nat) (m c most : Int) (hM : IRow 64 w mt [.int .i64 m, .int .i64 c]) : Calls Try.prog 8 #[.pointer (some ⟨mt, 0, none⟩), .int .i64 most] w fun r w' => ∃ t, r = .returned (.pointer (some ⟨t, 0, none⟩)) ∧ Below w.heap.size w w' ∧
    VT (fun g => g = mt ∨ w.heap.size ≤ g) w' t mt m (max most 1) c [] 0 (fun _ => none) := by
  have hmm := @run_makeMap Try.prog
  go_enter Try.func8, Try.ntmps8
  go_wp2
  go_ret
  have hmp : MapU Try.prog 32 3 (w.alloc (.map #[] 0)) w.heap.size (fun _ => none) := MapU.made w Try.prog 32 3
  have hr := IRow.new (w.alloc (.map #[] 0)) [.pointer (some ⟨mt, 0, none⟩), .int .i64 (max most 1), .slice none 0 0, .map (some w.heap.size), .int .i64 0] 67
  rw [World.size_alloc] at hr
  have hb1 : Below w.heap.size w (w.alloc (.map #[] 0)) := (Below.refl _ w).alloc (Nat.le_refl _) _
  have hb2 : Below w.heap.size w ((w.alloc (.map #[] 0)).alloc (.cells #[.pointer (some ⟨mt, 0, none⟩), .int .i64 (max most 1), .slice none 0 0, .map (some w.heap.size), .int .i64 0] 67)) := hb1.alloc (by simp) _
  have hb3 : Below (w.alloc (.map #[] 0)).heap.size (w.alloc (.map #[] 0)) ((w.alloc (.map #[] 0)).alloc (.cells #[.pointer (some ⟨mt, 0, none⟩), .int .i64 (max most 1), .slice none 0 0, .map (some w.heap.size), .int .i64 0] 67)) := (Below.refl _ _).alloc (Nat.le_refl _) _
  exact ⟨_, rfl, hb2, ⟨_, _, hr, OwnRow.nil .., hmp.kept (hb3.block _ (by simp)), fun g hg => by (cases hg), .inr (Nat.le_refl _)⟩, hM.kept (hb2.block mt hM.lt), .inr (by simp), .inl rfl⟩
set_option maxRecDepth 100000 in
set_option maxHeartbeats 2000000 in
theorem vadd_any {own : Nat → Prop} {w : World} {t mt : Nat} {m most calls : Int} {l : List Vn} {gone : Int} {f : Int → Option Int} (h : VT own w t mt m most calls l gone f) (hl : l.length ≤ 1048576) :
    Calls Try.prog 27 #[.pointer (some ⟨t, 0, none⟩)] w fun r w' => r = .returned (.int .i64 l.length) ∧ Fr (nfL own w) w w' ∧ VT (MoreL own w) w' t mt m most calls (l ++ [vn0]) gone f := by
  obtain ⟨lv, mb, hrow, hO, hM, hol, hom⟩ := h.mem
  obtain ⟨Al, cl, hlv⟩ := hO.slice
  subst hlv
  have c0 := hrow.cell
  have f0 := hrow.frozen
  have hlt := hrow.lt
  have hl8 : (l.length + 1) * 152 ≤ 140737488355328 := by omega
  have HH := Lib.hid (And.intro h (And.intro hrow (And.intro hO (And.intro hM (And.intro hol (And.intro hom hl8)))))); clear h hrow hO hM hol hom hl8
  go_enter Try.func27, Try.ntmps27
  go_wp2_with (at_builtin; go_loud (refine wp_push (R := vnR) (W := w) rfl (.tmp 7) (.tmp 9) 47 (.agg vn0V.toArray) 152 rfl Try.underlying47 info_vn rfl (by decide) (by decide) (.slice Al l.length cl) l vn0 vn0V.toArray (0, 0) rfl rfl (vn0_rd _ _) HH.out.2.2.1 (Nat.zero_le _) (by decide) (Nat.le_refl _) HH.out.2.2.2.2.2.2 ?_); intro v1 w1 hO1 hG1 hat1 hs1; obtain ⟨A1, cp1, hv1⟩ := hO1.slice; subst hv1; rw [List.length_append, List.length_singleton] at *; have r1 := HH.out.2.1.kept (hG1.block t hlt (fun e => by obtain ⟨d, hd⟩ := HH.out.2.2.1.blk e.symm; exact blk_ne hd HH.out.2.1 (by decide) rfl)); have c1 := r1.cell; have f1 := r1.frozen; have l1 := r1.lt; have HR := Lib.hid (And.intro hO1 (And.intro hG1 (And.intro hat1 r1))); clear hO1 hG1 hat1 r1)
  go_ret
  obtain ⟨h, hrow, hO, hM, hol, hom, hl8⟩ := HH.out
  obtain ⟨hO1, hG1, hat1, r1⟩ := HR.out
  have hne : ∀ {g T : Nat} {d : Array Value} {fr : Nat × Nat}, w.heap[g]? = some (.cells d T fr) → T ≠ 55 → w1.heap[g]? = w.heap[g]? := fun {g T d fr} hh hT => hG1.block g (Array.getElem?_eq_some_iff.1 hh).1 (fun e => by obtain ⟨d', hd⟩ := hO.blk e.symm; exact blk_ne hd hh (Ne.symm hT) rfl)
  have hmap : w1.heap[mb]? = w.heap[mb]? := hG1.block mb hM.lt (fun e => by
    obtain ⟨d', hd⟩ := hO.blk e.symm
    obtain ⟨es, c, hm2⟩ := hM.isMap
    exact blk_ne_map hd hm2 rfl)
  have hmt : t ≠ mb := by obtain ⟨es, c, hm2⟩ := hM.isMap; exact blk_ne_map hrow hm2
  have htt : t ≠ mt := blk_ne hrow h.met (by decide)
  have hF : Fr (nfL own w) w (w1.setCell ⟨t, 2, none⟩ (.slice A1 (l.length + 1) cp1)) := ((Fr.refl _ w).grown hG1 (fun g hg => .inl ⟨hol g hg, by obtain ⟨d', hd⟩ := hO.blk hg; exact not_frzL hd (by decide)⟩)).setCell _ (.inl ⟨h.ot, not_frzL hrow (by decide)⟩)
  have hkp : Kp vnR.ts 0 w1 (w1.setCell ⟨t, 2, none⟩ (.slice A1 (l.length + 1) cp1)) := (Kp.refl vnR.ts 0 w1).grown (gb_setCell w1 ⟨t, 2, none⟩ _) (fun k hk => by cases hk; exact .inr (not_sta r1 (Nat.zero_le _) (by decide)))
  refine ⟨rfl, hF, ⟨_, mb, r1.set 2 _, hO1.keep hkp (fun g hg => Below.heap_setCell w1 ⟨t, 2, none⟩ _ g (fun e => by subst e; obtain ⟨d', hd⟩ := hO1.blk hg; exact blk_ne hd r1 (by decide) rfl)), hM.kept ((Below.heap_setCell w1 ⟨t, 2, none⟩ _ mb (Ne.symm hmt)).trans hmap), fun g hg => ?_, .inl hom⟩, h.met.kept ((Below.heap_setCell w1 ⟨t, 2, none⟩ _ mt (Ne.symm htt)).trans (hne h.met (by decide))), .inl h.ot, .inl h.om⟩
  rcases hat1 with e | ⟨b, e, hb⟩
  · exact .inl (hol g (e ▸ hg))
  · rw [e] at hg
    cases hg
    exact .inr hb
end Go.Proofs.Ytlcpfnhindfkfaa
