/-
  vptree: build.
-/
import Derived.Test.YtlcpfnhindfkfaaVbldP
namespace Go.Proofs.Ytlcpfnhindfkfaa
open Go Go.RowKit Go.WW
section
variable {own : Nat → Prop} {w w' : World} {t mt s : Nat} {m most calls : Int} {l : List Vn} {gone : Int} {f : Int → Option Int} {src : List Int} {used : Nat}
/-- A source alone has turned. -/
theorem VT.sourced (h : VT own w t mt m most calls l gone f) (hS : SrcM w s src used) (hF : Fr (fun g => g = s) w w') : VT own w' t mt m most calls l gone f := by
  obtain ⟨v, hrow, _⟩ := hS.row
  obtain ⟨lv, mb, h1, h2, h3, h4, h5⟩ := h.mem
  have hk : Kp FzL 0 w w' := hF.kp (fun g hg => by subst hg; exact not_sta hrow (Nat.zero_le _) (by decide))
  have hne : ∀ {g T : Nat} {c : Array Value} {fr : Nat × Nat}, w.heap[g]? = some (.cells c T fr) → T ≠ 76 → w'.heap[g]? = w.heap[g]? := fun {g T c fr} hh hT => hF.block g (Array.getElem?_eq_some_iff.1 hh).1 (fun e => by subst e; exact blk_ne hh hrow hT rfl)
  have hmap : w'.heap[mb]? = w.heap[mb]? := hF.block mb h3.lt (fun e => by
    subst e
    obtain ⟨es, c, hm2⟩ := h3.isMap
    exact blk_ne_map hrow hm2 rfl)
  exact ⟨⟨lv, mb, h1.kept (hne h1 (by decide)), h2.keep (hk.mono (by decide)) (fun k hk' => by obtain ⟨d, hd⟩ := h2.blk hk'; exact hne hd (by decide)), h3.kept hmap, h4, h5⟩, h.met.kept (hne h.met (by decide)), h.ot, h.om⟩
theorem SrcM.fr (h : SrcM w s src used) (hF : Fr (nfL own w) w w') (hs : ¬ own s) : SrcM w' s src used :=
  h.keep (hF.kp (fun g hg => hg.sta (fun g _ => Nat.zero_le g))) (hF.block s h.lt (fun hn => hs hn.1))
theorem SrcM.met {mt : Nat} {m c : Int} (h : SrcM w s src used) (hF : Fr (fun g => g = mt) w w') (hm : IRow 64 w mt [.int .i64 m, .int .i64 c]) : SrcM w' s src used := by
  obtain ⟨v, hrow, _⟩ := h.row
  exact h.keep (hF.kp (fun g hg => by subst hg; exact not_sta hm (Nat.zero_le _) (by decide))) (hF.block s h.lt (fun e => by subst e; exact blk_ne hrow hm (by decide) rfl))
end
abbrev OS (own : Nat → Prop) (s : Nat) : Nat → Prop := fun g => own g ∨ g = s
theorem far_ok {n0 : Nat} {w : World} {v : Value} {l : List Fa} (h : OwnRow faR 99 0 n0 w v l) : ∀ x ∈ l, okF x := fun x hx => by
  obtain ⟨cs, _, hl, hr⟩ := h
  obtain ⟨i, hi⟩ := List.getElem?_of_mem hx
  have hil : i < cs.length := by rw [hl]; exact (List.getElem?_eq_some_iff.1 hi).1
  exact (faR_iff.1 (hr i x _ hi (List.getElem?_eq_getElem hil))).2
theorem far_keep {ot : Nat → Prop} {s n0 : Nat} {w w3 X : World} {v : Value} {l : List Fa} (h : OwnRow faR 99 0 n0 w3 v l) (hJ : Fr (nfL (OS ot s) w3) w3 X) (hn : w.heap.size ≤ n0) (hot : ∀ g, ot g → g < w.heap.size) (hs : s < w.heap.size) : RdRow faR 99 0 X v l :=
  (h.keep (hJ.kp (ts := faR.ts) (b := 0) (fun g hg => hg.sta (fun g _ => Nat.zero_le g) (by decide))) (fun g hg => hJ.block g (h.lt g hg).2 (fun e => by
    have := (h.lt g hg).1
    rcases e.1 with e1 | e1
    · have := hot g e1; omega
    · omega))).read
/-- One node is written anew. -/
theorem VT.store_at {own : Nat → Prop} {w : World} {t mt : Nat} {m most calls : Int} {l : List Vn} {gone : Int} {f : Int → Option Int} (h : VT own w t mt m most calls l gone f) (i : Nat) (hi : i < l.length) :
    ∃ lb cap : Nat, (∀ w0 : World, w0.heap[t]? = w.heap[t]? → w0.cell? ⟨t, 2, none⟩ = some (Value.slice (some ⟨lb, 0, none⟩) l.length cap)) ∧ lb < w.heap.size ∧ (∀ j, w.frozen? ⟨lb, j, none⟩ = false) ∧ (∃ c : Nat → Value, ∀ k, k < 14 → w.cell? ⟨lb, i * 14 + k, none⟩ = some (c k)) ∧
      ∀ cs y, vnR.rd 0 w cs y → VT own (setsAt w lb (i * 14) cs) t mt m most calls (l.set i y) gone f ∧ Fr (nfL own w) w (setsAt w lb (i * 14) cs) ∧ lb ≠ t ∧ w.grownBy (setsAt w lb (i * 14) cs) (some lb) ∧ own lb := by
  obtain ⟨lv, mb, hrow, hO, hM, hol, hom⟩ := h.mem
  obtain ⟨lb, cap, hlv, _, hlb, hc1, hc2, hfr, hat⟩ := hO.at (by rintro rfl; simp at hi)
  subst hlv
  obtain ⟨cs0, hcs, hc⟩ := hat i hi
  have hl14 := vnR.len _ _ _ _ hcs
  obtain ⟨dlb, hdlb⟩ := hO.blk (g := lb) rfl
  have htl : t ≠ lb := blk_ne hrow hdlb (by decide)
  have hml : mt ≠ lb := blk_ne h.met hdlb (by decide)
  have hbl : mb ≠ lb := fun e => by
    obtain ⟨es, c, hm2⟩ := hM.isMap
    exact blk_ne_map hdlb hm2 e.symm
  refine ⟨lb, cap, fun w0 h0 => (cell_same (p := ⟨t, 2, none⟩) h0).trans (hrow.cell 2), hlb, hfr, ⟨fun k => cs0.getD k undef, fun k hk => ?_⟩, fun cs y hy => ?_⟩
  · have hk' : k < cs0.length := by rw [hl14]; exact hk
    have := hc k cs0[k] (List.getElem?_eq_getElem hk')
    rw [show vnR.sz = 14 from rfl] at this
    show _ = some (cs0.getD k undef)
    rw [this, List.getD_eq_getElem?_getD, List.getElem?_eq_getElem hk']
    rfl
  · have hG := gb_sets cs w lb (i * 14)
    refine ⟨⟨⟨_, mb, hrow.kept (hG.block t hrow.lt (fun e => by injection e with e; exact htl e)), hO.store (by decide) (by decide) (Nat.le_refl _) i hi cs y hy, hM.kept (hG.block mb hM.lt (fun e => by injection e with e; exact hbl e)), hol, hom⟩, h.met.kept (hG.block mt h.met.lt (fun e => by injection e with e; exact hml e)), h.ot, h.om⟩, (Fr.refl _ w).grown hG (fun g hg => by cases hg; exact .inl ⟨hol lb rfl, not_frzL hdlb (by decide)⟩), Ne.symm htl, hG, hol lb rfl⟩
theorem Fr.step_mt {P : Nat → Prop} {w w1 w2 : World} {mt : Nat} {m c : Int} (h : Fr (nfL P w) w w1) (k : Fr (fun g => g = mt) w1 w2) (hP : P mt) (hM : IRow 64 w1 mt [.int .i64 m, .int .i64 c]) : Fr (nfL P w) w w2 :=
  Fr.nfL_trans h (k.mono (fun g hg => by subst hg; exact ⟨.inl hP, not_frzL hM (by decide)⟩))
theorem Fr.step_own {P own' : Nat → Prop} {w w1 w2 : World} (h : Fr (nfL P w) w w1) (k : Fr (nfL own' w1) w1 w2) (hP : ∀ g, own' g → P g ∨ w.heap.size ≤ g) : Fr (nfL P w) w w2 :=
  Fr.nfL_trans h (k.mono (fun g hg => ⟨hP g hg.1, hg.2⟩))
set_option maxRecDepth 100000 in
set_option maxHeartbeats 8000000 in
theorem vbuild_any (src : List Int) (hsl : src.length ≤ 1048576) (D : List Int) (hDl : D.length ≤ 1048576) (t mt s : Nat) (m most gone : Int) (hm1 : 1 ≤ most) : ∀ (n : Nat) (own : Nat → Prop) (w : World) (calls : Int) (L : List Vn) (f : Int → Option Int) (i : Nat) (par : Int) (v : Value) (l : List It) (used : Nat),
    VT own w t mt m most calls L gone f → SrcM w s src used → ¬ own s → i < L.length → L.length + 2 * l.length ≤ 1000000 → used + l.length ≤ 1000000 → wfI par → RdRow itR 34 0 w v l → (∀ x ∈ l, Short x.ob) → (∀ y, f y ≠ none → y ∈ D) → (∀ x ∈ l, x.id ∈ D) → l.length ≤ n →
    Calls Try.prog 26 #[.pointer (some ⟨t, 0, none⟩), .int .i64 i, .int .i64 par, v, .pointer (some ⟨s, 0, none⟩)] w fun r w' => r = .returned (.tuple #[]) ∧ Fr (nfL (OS own s) w) w w' ∧ ∃ f' c', (∀ y, f' y ≠ none → y ∈ D) ∧ VT (MoreL own w) w' t mt m most c' (buildN m most src n L used i par l).1 gone f' ∧ SrcM w' s src (buildN m most src n L used i par l).2 := by
  intro n
  induction n with
  | zero =>
    intro own w calls L f i par v l used h hS hos hi hLl hul hpar hv hsh hD hin hn
    obtain ⟨lv, mb, hrow, _, _, _, _⟩ := h.mem
    have c0 := hrow.cell
    have hlt := hrow.lt
    obtain ⟨A, c, rfl, hlc, hcm, hA, _⟩ := hv.at
    have hle : (l.length : Int) ≤ most := by omega
    rw [buildN_leaf hle]
    have hd : decide ((l.length : Int) ≤ most) = true := decide_eq_true hle
    have hcall := vleaf_any h i hi (by omega) par hpar _ l hv (by omega) D hD hDl hin
    have HS := Lib.hid (And.intro hS hos); clear hS hos hv hsh hD hin h hrow
    go_enter Try.func26, Try.ntmps26
    go_wp2_with fail
    refine hcall.mono ?_
    rintro er w1 ⟨rfl, hF, f', hD', hT⟩
    go_wp2_with fail
    refine bodyPost_ret (results_none rfl _ _ _) rfl ?_
    exact ⟨rfl, hF.mono (fun g hg => ⟨.inl hg.1, hg.2⟩), f', _, hD', hT, HS.out.1.fr hF HS.out.2⟩
  | succ n ih =>
    intro own w calls L f i par v l used h hS hos hi hLl hul hpar hv hsh hD hin hn
    obtain ⟨lv, mb, hrow, _, _, _, _⟩ := h.mem
    have c0 := hrow.cell
    have hlt := hrow.lt
    obtain ⟨A, c, rfl, hlc, hcm, hA, _⟩ := hv.at
    by_cases hle : (l.length : Int) ≤ most
    · rw [buildN_leaf hle]
      have hd : decide ((l.length : Int) ≤ most) = true := decide_eq_true hle
      have hcall := vleaf_any h i hi (by omega) par hpar _ l hv (by omega) D hD hDl hin
      have HS := Lib.hid (And.intro hS hos); clear hS hos hv hsh hD hin h hrow
      go_enter Try.func26, Try.ntmps26
      go_wp2_with fail
      refine hcall.mono ?_
      rintro er w1 ⟨rfl, hF, f', hD', hT⟩
      go_wp2_with fail
      refine bodyPost_ret (results_none rfl _ _ _) rfl ?_
      exact ⟨rfl, hF.mono (fun g hg => ⟨.inl hg.1, hg.2⟩), f', _, hD', hT, HS.out.1.fr hF HS.out.2⟩
    · have hd : decide ((l.length : Int) ≤ most) = false := decide_eq_false hle
      have hp := modI_bd (x := if src = [] then 0 else src.getD (used % src.length) 0) (n := (l.length : Int)) (by omega)
      have hp1 : 0 ≤ pickI src used l.length ∧ pickI src used l.length < l.length := hp
      obtain ⟨v0, hv0⟩ : ∃ v0 : Nat, pickI src used l.length = v0 := ⟨(pickI src used l.length).toNat, by omega⟩
      have hv0l : v0 < l.length := by omega
      have hpick := pick_any w s src used l.length hS ⟨by omega, by omega⟩ (by omega) hsl
      rw [hv0] at hpick
      have hl2 : l.length ≤ 1000000 := by omega
      have hl1 : 2 ≤ l.length := by omega
      obtain ⟨ot, hot⟩ : ∃ ot : Nat → Prop, ot = fun g => own g ∧ g < w.heap.size := ⟨_, rfl⟩
      have hT0 : VT ot w t mt m most calls L gone f := by rw [hot]; exact h.tight
      have hots : ¬ ot s := by rw [hot]; exact fun e => hos e.1
      have hotl : ∀ g, ot g → g < w.heap.size := by rw [hot]; exact fun g hg => hg.2
      have hoto : ∀ g, ot g → own g := by rw [hot]; exact fun g hg => hg.1
      clear hot
      have hvw : ∀ X, Fr (nfL (OS ot s) w) w X → RdRow itR 34 0 X (.slice A l.length c) l := fun X hX => hv.keep (hX.kp (ts := 34 :: itR.ts) (b := 0) (fun g hg => hg.sta (fun g _ => Nat.zero_le g)))
      have HH := Lib.hid (And.intro hT0 (And.intro hS (And.intro hots (And.intro hotl (And.intro hoto (And.intro hvw (And.intro hsh (And.intro hD (And.intro hin hrow)))))))))
      clear hT0 hS hots hotl hoto hvw hsh hD hin hrow hA hp hos hv h
      have HN := Lib.hid (And.intro hi (And.intro hLl (And.intro hul (And.intro hn hv0)))); clear hp1 hLl hul hn hv0
      go_enter Try.func26, Try.ntmps26
      go_wp2_with fail
      refine hpick.mono ?_
      rintro er w1 ⟨rfl, hF1, hS1⟩
      have hT1 := HH.out.1.sourced HH.out.2.1 hF1
      have hK1 : Fr (nfL (OS ot s) w) w w1 := hF1.mono (fun g hg => by subst hg; obtain ⟨_, hr, _⟩ := HH.out.2.1.row; exact ⟨.inr rfl, not_frzL hr (by decide)⟩)
      have hv1 := HH.out.2.2.2.2.2.1 w1 hK1
      have H1 := Lib.hid (And.intro hT1 (And.intro hS1 (And.intro hv1 hK1))); clear hT1 hS1 hv1 hF1 hK1 hpick
      go_wp2_with fail
      refine (vfars_any H1.out.1 _ l H1.out.2.2.1 (by omega) HH.out.2.2.2.2.2.2.1 v0 hv0l).mono ?_
      rintro er w2 ⟨va, rfl, hO2, hF2, c2, hT2⟩
      have hFl := farsN_len_eq m l v0 l.length
      rw [if_pos hv0l] at hFl
      obtain ⟨F, hFd⟩ : ∃ F, F = farsN m l v0 l.length := ⟨_, rfl⟩
      rw [← hFd] at hO2 hFl
      obtain ⟨Aa, ca, hva⟩ := hO2.slice
      subst hva
      have hF2l : F.length ≤ 1000000 := by omega
      have hF1l : F.length / 2 < F.length := by omega
      have hS2 := H1.out.2.1.met hF2 H1.out.1.met
      have hK2 := Fr.step_mt H1.out.2.2.2 hF2 (.inl H1.out.1.om) H1.out.1.met
      have hcall := halve_any 0 _ F (F.length / 2) w2 hO2.read (by omega) hF1l
      have hq : ((F.length / 2 : Nat) : Int) = (F.length : Int) / 2 := by omega
      rw [hq] at hcall
      have H2 := Lib.hid (And.intro hT2 (And.intro hS2 (And.intro hK2 (And.intro hO2 (And.intro hFd hFl))))); clear hT2 hS2 hK2 hO2 hF2 hFd hFl hq
      go_wp2_with fail
      refine hcall.mono ?_
      clear hcall
      rintro er w3 ⟨va, vb, rfl, hOa, hOb, hB3⟩
      have hhl := halveF_len F (F.length / 2)
      have hma : ∀ x, x ∈ (halveF F (F.length / 2)).1 ∨ x ∈ (halveF F (F.length / 2)).2 → 0 ≤ x.pl ∧ x.pl.toNat < l.length := fun x hx => by
        have h1 := halveF_mem hx
        rw [H2.out.2.2.2.2.1] at h1
        obtain ⟨j, h2, h3⟩ := farsN_mem h1
        omega
      obtain ⟨LA, hLA⟩ : ∃ LA, LA = (halveF F (F.length / 2)).1 := ⟨_, rfl⟩
      obtain ⟨LB, hLB⟩ : ∃ LB, LB = (halveF F (F.length / 2)).2 := ⟨_, rfl⟩
      rw [← hLA] at hOa hhl hma
      rw [← hLB] at hOb hhl hma
      obtain ⟨Ax, cx, hvx⟩ := hOa.slice
      obtain ⟨Ay, cy, hvy⟩ := hOb.slice
      subst hvx hvy
      have hT3 := H2.out.1.below hB3
      have hS3 := H2.out.2.1.below hB3
      have hK3 := H2.out.2.2.1.below hB3 H2.out.2.2.1.size
      have hv3 := HH.out.2.2.2.2.2.1 w3 hK3
      obtain ⟨g, o, c', hvv, hg, _, hit⟩ := itrow_at hv3 (by rintro rfl; simp at hv0l)
      injection hvv with e1 e2 e3
      clear e2
      subst e1 e3
      obtain ⟨vx, hrx, ⟨Av, nv, cv, rfl⟩, k0, k1, k2, k3⟩ := hit v0 hv0l
      have hi' : (v0 : Int) < l.length := by omega
      have hsz3 := hK3.size
      have hAB := Lib.hid (And.intro hhl (And.intro hLA hLB)); clear hhl hLA hLB
      have H3 := Lib.hid (And.intro hT3 (And.intro hS3 (And.intro hK3 (And.intro hOa (And.intro hOb (And.intro hma (And.intro hrx hB3))))))); clear hT3 hS3 hK3 hOa hOb hma hrx hB3 hit hv3
      go_wp2_with fail
      obtain ⟨W4, hW4⟩ : ∃ W4, W4 = w3.alloc (.cells #[.bool false, nilS, .int .u64 l[v0].id, .int .i64 l[v0].ob.tag, .slice Av nv cv, .string l[v0].ob.str, .bool false, .int .i64 par, .int .i64 0, .int .i64 0, .int .i64 0, .int .i64 0, .int .i64 0, .int .i64 0] 55) := ⟨_, rfl⟩
      have hB4 : Below w3.heap.size w3 W4 := by rw [hW4]; exact (Below.refl _ w3).alloc (Nat.le_refl _) _
      have b4 : IRow 55 W4 w3.heap.size [.bool false, nilS, .int .u64 l[v0].id, .int .i64 l[v0].ob.tag, .slice Av nv cv, .string l[v0].ob.str, .bool false, .int .i64 par, .int .i64 0, .int .i64 0, .int .i64 0, .int .i64 0, .int .i64 0, .int .i64 0] := by rw [hW4]; exact IRow.new w3 _ _
      rw [← hW4]
      clear hW4
      have hLAl : LA.length ≤ 1000000 := by have := hAB.out.1; omega
      have hLBl : LB.length ≤ 1000000 := by have := hAB.out.1; omega
      refine (bounds_any 0 _ LA W4 (H3.out.2.2.2.1.below hB4).read (by omega)).mono ?_
      rintro er w5 ⟨rfl, hB5⟩
      have hB35 : Below w3.heap.size w3 w5 := hB4.trans (hB5.mono hB4.size)
      have b5 := b4.kept (hB5.block _ b4.lt)
      obtain ⟨BA, hBA⟩ : ∃ BA, BA = bndN LA := ⟨_, rfl⟩
      rw [← hBA]
      have cb5 := b5.cell
      have fb5 := b5.frozen
      have lb5 := b5.lt
      have H5 := Lib.hid (And.intro b5 (And.intro hB35 hBA)); clear b5 b4 hB4 hB5 hB35 hBA k0 k1 k2 k3
      go_wp2_with fail
      have b6 := (H5.out.1.set 10 (.int .i64 BA.1)).set 11 (.int .i64 BA.2)
      have hB6 := (H5.out.2.1.setCell (p := ⟨w3.heap.size, 10, none⟩) (Nat.le_refl _) (.int .i64 BA.1)).setCell (p := ⟨w3.heap.size, 11, none⟩) (Nat.le_refl _) (.int .i64 BA.2)
      obtain ⟨W6, hW6⟩ : ∃ W6, W6 = (w5.setCell ⟨w3.heap.size, 10, none⟩ (.int .i64 BA.1)).setCell ⟨w3.heap.size, 11, none⟩ (.int .i64 BA.2) := ⟨_, rfl⟩
      rw [← hW6] at b6 hB6 ⊢
      clear hW6 cb5 fb5 lb5
      refine (bounds_any 0 _ LB W6 (H3.out.2.2.2.2.1.below hB6).read (by omega)).mono ?_
      rintro er w7 ⟨rfl, hB7⟩
      obtain ⟨BB, hBB⟩ : ∃ BB, BB = bndN LB := ⟨_, rfl⟩
      rw [← hBB]
      have b7 := b6.kept (hB7.block _ b6.lt)
      have hB37 : Below w3.heap.size w3 w7 := hB6.trans (hB7.mono hB6.size)
      have cb7 := b7.cell
      have fb7 := b7.frozen
      have lb7 := b7.lt
      have H7 := Lib.hid (And.intro b7 (And.intro hB37 hBB)); clear b7 b6 hB6 hB7 hB37 hBB
      go_wp2_with fail
      have b8 := (H7.out.1.set 12 (.int .i64 BB.1)).set 13 (.int .i64 BB.2)
      have hB8 := (H7.out.2.1.setCell (p := ⟨w3.heap.size, 12, none⟩) (Nat.le_refl _) (.int .i64 BB.1)).setCell (p := ⟨w3.heap.size, 13, none⟩) (Nat.le_refl _) (.int .i64 BB.2)
      obtain ⟨W8, hW8⟩ : ∃ W8, W8 = (w7.setCell ⟨w3.heap.size, 12, none⟩ (.int .i64 BB.1)).setCell ⟨w3.heap.size, 13, none⟩ (.int .i64 BB.2) := ⟨_, rfl⟩
      rw [← hW8] at b8 hB8 ⊢
      clear hW8 cb7 fb7 lb7
      have hJ8 : Fr (nfL (OS ot s) w3) w3 W8 := Fr.of_below hB8
      have hT8 := H3.out.1.below hB8
      have hS8 := H3.out.2.1.below hB8
      have hK8 := H3.out.2.2.1.below hB8 H3.out.2.2.1.size
      refine (vadd_any hT8 (by have := HN.out.2.1; omega)).mono ?_
      rintro er w9 ⟨rfl, hF9, hT9⟩
      have b9 := b8.kept (hF9.block _ b8.lt (fun e => by have := HH.out.2.2.2.1 _ e.1; omega))
      have hK9 := Fr.step_own hK8 hF9 (fun g hg => .inl (.inl hg))
      have hS9 := hS8.fr hF9 HH.out.2.2.1
      have hJ9 : Fr (nfL (OS ot s) w3) w3 w9 := Fr.step_own hJ8 hF9 (fun g hg => .inl (.inl hg))
      have h89 := hF9.size
      have h38 := b8.lt
      have hLn : L.length + 1 ≤ 1000000 := by have := HN.out.2.1; omega
      have H9 := Lib.hid (And.intro hT9 (And.intro b9 (And.intro hK9 (And.intro hS9 hJ9)))); clear hT8 hS8 hK8 hB8 hJ8 hF9 hT9 b9 hK9 hS9 hJ9 b8
      go_wp2_with fail
      refine (vadd_any H9.out.1 (by rw [List.length_append, List.length_singleton]; omega)).mono ?_
      rintro er w10 ⟨rfl, hF10, hT10⟩
      rw [List.length_append, List.length_singleton]
      obtain ⟨o8, ho8⟩ : ∃ o8 : Nat → Prop, o8 = MoreL ot W8 := ⟨_, rfl⟩
      have ho8s : ¬ o8 s := by rw [ho8]; rintro (e | e); exact HH.out.2.2.1 e; have := HH.out.2.1.lt; omega
      have ho8b : ¬ o8 w3.heap.size := by rw [ho8]; rintro (e | e); have := HH.out.2.2.2.1 _ e; omega; omega
      have ho8w : ∀ g, o8 g → OS ot s g ∨ w3.heap.size ≤ g := by rw [ho8]; rintro g (e | e); exact .inl (.inl e); exact .inr (by omega)
      have hT10' : VT o8 w10 t mt m most c2 (L ++ [vn0] ++ [vn0]) gone f := hT10.grow (fun g hg => by
        rw [ho8]
        rcases hg with hg | hg
        · exact hg
        · exact .inr (by omega))
      rw [← ho8] at hF10
      have b10 := H9.out.2.1.kept (hF10.block _ H9.out.2.1.lt (fun e => ho8b e.1))
      have hK10 := Fr.step_own H9.out.2.2.1 hF10 (fun g hg => by
        rcases ho8w g hg with e | e
        · exact .inl e
        · exact .inr (by omega))
      have hS10 := H9.out.2.2.2.1.fr hF10 ho8s
      have hJ10 := Fr.step_own H9.out.2.2.2.2 hF10 ho8w
      have cb10 := b10.cell
      have fb10 := b10.frozen
      have lb10 := b10.lt
      have H10 := Lib.hid (And.intro hT10' (And.intro b10 (And.intro hK10 (And.intro hS10 (And.intro hJ10 (And.intro ho8s (And.intro ho8b (And.intro ho8w ho8)))))))); clear hT10 hT10' b10 hK10 hS10 hJ10 ho8s ho8b ho8w ho8 hF10 h89 h38
      go_wp2_with fail
      obtain ⟨hT10, b10, hK10, hS10, hJ10, ho8s, ho8b, ho8w, ho8⟩ := H10.out
      obtain ⟨W11, hW11⟩ : ∃ W11, W11 = (w10.setCell ⟨w3.heap.size, 8, none⟩ (.int .i64 L.length)).setCell ⟨w3.heap.size, 9, none⟩ (.int .i64 ((L.length : Int) + 1)) := ⟨_, rfl⟩
      have hh11 : ∀ g, g ≠ w3.heap.size → W11.heap[g]? = w10.heap[g]? := fun g hg => by rw [hW11]; exact (Below.heap_setCell _ ⟨w3.heap.size, 9, none⟩ _ g hg).trans (Below.heap_setCell _ ⟨w3.heap.size, 8, none⟩ _ g hg)
      have hkp11 : ∀ ts, 55 ∉ ts → Kp ts 0 w10 W11 := fun ts hts => by rw [hW11]; exact (((TK.refl ts 0 w10).setCell (p := ⟨w3.heap.size, 8, none⟩) (.inr (not_sta b10 (Nat.zero_le _) hts)) _).setCell (p := ⟨w3.heap.size, 9, none⟩) (.inr (not_sta b10 (Nat.zero_le _) hts)) _).kp
      have b11 := (b10.set 8 (.int .i64 L.length)).set 9 (.int .i64 ((L.length : Int) + 1))
      have hK11 : Fr (nfL (OS ot s) w) w W11 := by rw [hW11]; exact (hK10.setCell _ (.inr hsz3)).setCell _ (.inr hsz3)
      have hJ11 : Fr (nfL (OS ot s) w3) w3 W11 := by rw [hW11]; exact (hJ10.setCell _ (.inr (Nat.le_refl _))).setCell _ (.inr (Nat.le_refl _))
      rw [← hW11] at b11
      have hT11 : VT o8 W11 t mt m most c2 (L ++ [vn0] ++ [vn0]) gone f := hT10.keep (hkp11 FzL (by decide)) (fun g _ hg => hh11 g (fun e => ho8b (e ▸ hg)))
      have hS11 : SrcM W11 s src (used + 1) := hS10.keep (hkp11 _ (by decide)) (hh11 s (fun e => by have := HH.out.2.1.lt; omega))
      have hll : (L ++ [vn0] ++ [vn0]).length = L.length + 2 := by simp
      obtain ⟨lb, cap, hlbf, hlbl, hlbz, ⟨cf, hc9⟩, hput⟩ := hT11.store_at i (by rw [hll]; omega)
      have cl9 := hlbf W11 rfl
      rw [hll] at cl9
      clear hll
      have k0 := hc9 0 (by decide)
      have k1 := hc9 1 (by decide)
      have k2 := hc9 2 (by decide)
      have k3 := hc9 3 (by decide)
      have k4 := hc9 4 (by decide)
      have k5 := hc9 5 (by decide)
      have k6 := hc9 6 (by decide)
      have k7 := hc9 7 (by decide)
      have k8 := hc9 8 (by decide)
      have k9 := hc9 9 (by decide)
      have k10 := hc9 10 (by decide)
      have k11 := hc9 11 (by decide)
      have k12 := hc9 12 (by decide)
      have k13 := hc9 13 (by decide)
      simp only [Nat.add_zero] at k0
      have cb11 := b11.cell
      have lb11 := b11.lt
      have hi9 : (i : Int) < (L.length : Int) + 2 := by omega
      have H11 := Lib.hid (And.intro hT11 (And.intro b11 (And.intro hK11 (And.intro hS11 (And.intro hJ11 (And.intro hput (And.intro ho8s (And.intro ho8b (And.intro ho8w ho8)))))))))
      clear hT10 b10 hK10 hS10 hJ10 hT11 b11 hK11 hS11 hJ11 hput hh11 hkp11 hlbf hc9 H10 cb10 fb10 lb10 ho8s ho8b ho8w ho8
      rw [← hW11]
      clear hW11
      refine wp_region_hoist [true, true, true, true, true, true, true, false] 0 (fun w' => ∃ n, w' = World.drewN W11 n) (by kernel_rfl) (by kernel_rfl) ⟨1, rfl⟩ ?_
      simp only [pickR, pickE, List.take, List.drop, wpLate]
      repeat (go_big_quiet_step (fail))
      refine wpQuiet_nil ?_
      go_wp2_with fail
      obtain ⟨hT11, b11, hK11, hS11, hJ11, hput, ho8s, ho8b, ho8w, ho8⟩ := H11.out
      have hrd : vnR.rd 0 W11 [.bool false, nilS, .int .u64 l[v0].id, .int .i64 l[v0].ob.tag, .slice Av nv cv, .string l[v0].ob.str, .bool false, .int .i64 par, .int .i64 L.length, .int .i64 ((L.length : Int) + 1), .int .i64 BA.1, .int .i64 BA.2, .int .i64 BB.1, .int .i64 BB.2] (vanV l[v0] par L.length (L.length + 1) BA BB) := by
        refine vnR_iff.2 ⟨_, _, rfl, RdRow.nil .., itR.keep _ _ _ _ _ (hJ11.kp (ts := itR.ts) (b := 0) (fun g hg => hg.sta (fun g _ => Nat.zero_le g))) H3.out.2.2.2.2.2.2.1, ?_⟩
        have h1 := bndN_wf (far_ok H3.out.2.2.2.1)
        have h2 := bndN_wf (far_ok H3.out.2.2.2.2.1)
        rw [← H5.out.2.2] at h1
        rw [← H7.out.2.2] at h2
        exact ⟨hpar, (show wfI (L.length : Int) from bd_wf ⟨by omega, by omega⟩), (show wfI ((L.length : Int) + 1) from bd_wf ⟨by omega, by omega⟩), h1.1, h1.2, h2.1, h2.2⟩
      obtain ⟨hT12, hF12, htl, hG12, hol⟩ := hput _ _ hrd
      obtain ⟨W12, hW12⟩ : ∃ W12, W12 = setsAt W11 lb (i * 14) [.bool false, nilS, .int .u64 l[v0].id, .int .i64 l[v0].ob.tag, .slice Av nv cv, .string l[v0].ob.str, .bool false, .int .i64 par, .int .i64 L.length, .int .i64 ((L.length : Int) + 1), .int .i64 BA.1, .int .i64 BA.2, .int .i64 BB.1, .int .i64 BB.2] := ⟨_, rfl⟩
      rw [← hW12] at hT12 hF12 hG12
      have hlbb : lb ≠ w3.heap.size := fun e => ho8b (e ▸ hol)
      have b12 := b11.kept (hG12.block _ b11.lt (fun e => by injection e with e; exact hlbb e.symm))
      have hK12 := Fr.step_own hK11 hF12 (fun g hg => by
        rcases ho8w g hg with e | e
        · exact .inl e
        · exact .inr (by omega))
      have hS12 := hS11.fr hF12 ho8s
      have hJ12 := Fr.step_own hJ11 hF12 ho8w
      have hT12d : VT o8 W12.drew.drew t mt m most c2 ((L ++ [vn0] ++ [vn0]).set i (vanV l[v0] par L.length (L.length + 1) BA BB)) gone f := (hT12.below (bl_drewN W12 1)).below (bl_drewN _ 1)
      have hidv : (Lit.int .u64 l[v0].id).wf = true := by obtain ⟨_, _, h, _⟩ := itR_iff.1 H3.out.2.2.2.2.2.2.1; exact h
      obtain ⟨mb', hmb, w13, hrun, hT13, hF13⟩ := hT12d.map_at l[v0].id i hidv (bd_wf ⟨by omega, by omega⟩) D HH.out.2.2.2.2.2.2.2.1 hDl
      have cm := hmb W12 rfl
      have hlt12 : t < W12.heap.size := by obtain ⟨_, _, hx, _⟩ := hT12.mem; exact hx.lt
      obtain ⟨g', o', c'', hvv, hg12, _, hit⟩ := itrow_at (HH.out.2.2.2.2.2.1 W12 hK12) (by rintro rfl; simp at hv0l)
      injection hvv with e1 e2 e3
      clear e2
      injection e1 with e1
      injection e1 with e1 e4
      subst e1 e3 e4
      obtain ⟨_, _, _, k0', _⟩ := hit v0 hv0l
      have hD13 : ∀ y, upd f l[v0].id (some (i : Int)) y ≠ none → y ∈ D := fun y hy => by
        unfold upd at hy
        split at hy
        · rename_i e
          rw [e]
          exact HH.out.2.2.2.2.2.2.2.2.1 _ (List.getElem_mem ..)
        · exact HH.out.2.2.2.2.2.2.2.1 y hy
      have H12 := Lib.hid (And.intro hT13 (And.intro b12 (And.intro hK12 (And.intro hS12 (And.intro hJ12 (And.intro ho8s (And.intro ho8b (And.intro ho8w (And.intro ho8 (And.intro hF13 hD13))))))))))
      clear hT11 b11 hK11 hS11 hJ11 hput ho8s ho8b ho8w ho8 hrd hT12 hF12 htl hG12 hol hlbb b12 hK12 hS12 hJ12 hT12d hmb hT13 hF13 hD13 hit hidv H11 cb11 lb11 cl9 hlbz hlbl k0 k1 k2 k3 k4 k5 k6 k7 k8 k9 k10 k11 k12 k13
      change (only _ _ _ (setsAt W11 lb (i * 14) [.bool false, nilS, .int .u64 l[v0].id, .int .i64 l[v0].ob.tag, .slice Av nv cv, .string l[v0].ob.str, .bool false, .int .i64 par, .int .i64 L.length, .int .i64 ((L.length : Int) + 1), .int .i64 BA.1, .int .i64 BA.2, .int .i64 BB.1, .int .i64 BB.2]).drew)
      rw [← hW12]
      clear hW12
      apply only_mk
      go_wp2_with fail
      refine wp_region_hoist [true, true, true, true, true, true, true, true, true, true, false] 0 (fun w' => ∃ n, w' = World.drewN W12.drew n) (by kernel_rfl) (by kernel_rfl) ⟨1, rfl⟩ ?_
      simp only [pickR, pickE, List.take, List.drop, wpLate]
      repeat (go_big_quiet_step (fail))
      refine wpQuiet_nil ?_
      go_wp2_with fail
      apply only_mk
      go_wp2_with fail
      obtain ⟨hT13, b12, hK12, hS12, hJ12, ho8s, ho8b, ho8w, ho8, hF13, hD13⟩ := H12.out
      have hb12d := b12.kept (w' := W12.drew.drew) rfl
      have b13 := hb12d.kept (hF13.block _ hb12d.lt (fun e => ho8b e.1))
      have ho8K : ∀ g, o8 g → OS ot s g ∨ w.heap.size ≤ g := fun g hg => by
        rcases ho8w g hg with e | e
        · exact .inl e
        · exact .inr (by omega)
      have hK13 := Fr.step_own hK12.drew.drew hF13 ho8K
      have hJ13 := Fr.step_own hJ12.drew.drew hF13 ho8w
      have hS13 := (hS12.keep (w' := W12.drew.drew) (Kp.heap rfl) rfl).fr hF13 ho8s
      obtain ⟨L12, hL12⟩ : ∃ L12, L12 = (L ++ [vn0] ++ [vn0]).set i (vanV l[v0] par L.length (L.length + 1) BA BB) := ⟨_, rfl⟩
      have hL12l : L12.length = L.length + 2 := by rw [hL12]; simp
      rw [← hL12] at hT13
      have hssw := HH.out.2.1.lt
      have hfA := far_keep H3.out.2.2.2.1 hJ13 H2.out.2.2.1.size HH.out.2.2.2.1 hssw
      have hpickA := vpick_any w13.drew _ _ l LA ((HH.out.2.2.2.2.2.1 w13 hK13).below (bl_drewN w13 1)) (hfA.below (bl_drewN w13 1)) (by omega) (by omega) (fun x hx => H3.out.2.2.2.2.2.1 x (.inl hx))
      obtain ⟨C0, hC0⟩ : ∃ C0 : World → Prop, C0 = fun w' => w'.heap[w3.heap.size]? = w13.heap[w3.heap.size]? := ⟨_, rfl⟩
      have a1 := b13.cw (C0 := C0) (fun w' hw => by subst hC0; exact hw)
      have h0 : C0 w13.drew := by subst hC0; rfl
      have hne : Nonempty (CW C0) := ⟨⟨_, h0⟩⟩
      have HC := Lib.hid hC0; clear hC0
      have H13 := Lib.hid (And.intro hT13 (And.intro b13 (And.intro hK13 (And.intro hJ13 (And.intro hS13 (And.intro ho8s (And.intro ho8b (And.intro ho8w (And.intro ho8K (And.intro hD13 (And.intro hL12 hL12l)))))))))))
      clear hT13 b12 hK12 hS12 hJ12 ho8s ho8b ho8w ho8 hF13 hD13 hb12d b13 ho8K hK13 hJ13 hS13 hL12 hL12l hfA H12 cm hrun k0'
      refine wp_region_hoist [true, true, true, true, true, true, false, true, false] 1 (fun w' => ∃ z : CW C0, w' = z.w) (by kernel_rfl) (by kernel_rfl) ⟨⟨_, h0⟩, rfl⟩ ?_
      simp only [pickR, pickE, List.take, List.drop, wpLate]
      repeat (go_big_quiet_step (fail))
      refine wpQuiet_nil ?_
      go_wp2_with fail
      refine hpickA.mono ?_
      clear hpickA
      rintro er w14 ⟨vp, rfl, hOp, hBp⟩
      obtain ⟨Ap, cp, hvp⟩ := hOp.slice
      subst hvp
      obtain ⟨hT13, b13, hK13, hJ13, hS13, ho8s, ho8b, ho8w, ho8K, hD13, hL12, hL12l⟩ := H13.out
      have hB14 : Below w13.heap.size w13 w14 := (bl_drewN w13 1).trans hBp
      have hC14 : C0 w14 := by rw [HC.out]; exact hB14.block _ b13.lt
      have b14 := b13.kept (hB14.block _ b13.lt)
      have hK14 := hK13.below hB14 hK13.size
      have hJ14 := hJ13.below hB14 hJ13.size
      have hAl : (pickF l LA).length = LA.length := pickF_len _ _
      rw [hAl]
      have hmemA : ∀ y ∈ pickF l LA, y ∈ l := fun y hy => pickF_mem (fun x hx => H3.out.2.2.2.2.2.1 x (.inl hx)) hy
      have hABs := hAB.out.1
      have hihA := ih o8 w14 c2 L12 (upd f l[v0].id (some (i : Int))) L.length i _ (pickF l LA) (used + 1) (hT13.below hB14) (hS13.below hB14) ho8s (by omega) (by rw [hL12l, hAl]; have := HN.out.2.1; have := H2.out.2.2.2.2.2; omega) (by rw [hAl]; have := HN.out.2.2.1; have := H2.out.2.2.2.2.2; omega) (bd_wf ⟨by omega, by omega⟩) hOp.read (fun x hx => HH.out.2.2.2.2.2.2.1 x (hmemA x hx)) hD13 (fun x hx => HH.out.2.2.2.2.2.2.2.2.1 x (hmemA x hx)) (by rw [hAl]; have := HN.out.2.2.2.1; have := H2.out.2.2.2.2.2; omega)
      have H14 := Lib.hid (And.intro b14 (And.intro hK14 (And.intro hJ14 (And.intro ho8s (And.intro ho8b (And.intro ho8w (And.intro ho8K (And.intro hL12 hL12l))))))))
      clear hT13 b13 hK13 hJ13 hS13 ho8s ho8b ho8w ho8K hD13 hL12 hL12l hB14 hBp hOp b14 hK14 hJ14 hmemA H13 hABs
      rw [hAl] at hihA
      clear hAl
      obtain ⟨PA, hPA⟩ : ∃ PA, PA = pickF l LA := ⟨_, rfl⟩
      rw [← hPA] at hihA
      have HPA := Lib.hid hPA; clear hPA
      go_wp2_with fail
      apply only_mk; refine And.intro ⟨⟨_, hC14⟩, rfl⟩ ?_
      go_wp2_with fail
      refine hihA.mono ?_
      clear hihA
      rintro er w15 ⟨rfl, hF15, f2, c3, hD15, hT15, hS15⟩
      obtain ⟨b14, hK14, hJ14, ho8s, ho8b, ho8w, ho8K, hL12, hL12l⟩ := H14.out
      have hbd := buildN_bd m most src hm1 n L12 (used + 1) L.length i PA (by rw [HPA.out, pickF_len]; have := HN.out.2.2.2.1; have := H2.out.2.2.2.2.2; have := hAB.out.1; omega)
      have hPl : PA.length = LA.length := by rw [HPA.out, pickF_len]
      rw [hPl] at hbd
      obtain ⟨R, hR⟩ : ∃ R, R = buildN m most src n L12 (used + 1) L.length i PA := ⟨_, rfl⟩
      rw [← hR] at hT15 hS15 hbd
      obtain ⟨o9, ho9⟩ : ∃ o9 : Nat → Prop, o9 = MoreL o8 w14 := ⟨_, rfl⟩
      rw [← ho9] at hT15
      have h1314 : w3.heap.size < w14.heap.size := b14.lt
      have hs14 : s < w14.heap.size := by have := hK14.size; have := HH.out.2.1.lt; omega
      have ho9s : ¬ o9 s := by rw [ho9]; rintro (e | e); exact ho8s e; omega
      have ho9b : ¬ o9 w3.heap.size := by rw [ho9]; rintro (e | e); exact ho8b e; omega
      have hssw : s < w.heap.size := HH.out.2.1.lt
      have hOSb : ¬ OS o8 s w3.heap.size := by rintro (e | e); exact ho8b e; omega
      have ho8Kb : ∀ g, OS o8 s g → OS ot s g ∨ w.heap.size ≤ g := fun g hg => by
        rcases hg with e | e
        · exact ho8K g e
        · exact .inl (.inr e)
      have ho8wb : ∀ g, OS o8 s g → OS ot s g ∨ w3.heap.size ≤ g := fun g hg => by
        rcases hg with e | e
        · exact ho8w g e
        · exact .inl (.inr e)
      have b15 := b14.kept (hF15.block _ b14.lt (fun e => hOSb e.1))
      have hK15 := Fr.step_own hK14 hF15 ho8Kb
      have hJ15 := Fr.step_own hJ14 hF15 ho8wb
      have ho9K : ∀ g, o9 g → OS ot s g ∨ w.heap.size ≤ g := fun g hg => by
        rw [ho9] at hg
        rcases hg with e | e
        · exact ho8K g e
        · exact .inr (by omega)
      have hfB := far_keep H3.out.2.2.2.2.1 hJ15 H2.out.2.2.1.size HH.out.2.2.2.1 hssw
      have hpickB := vpick_any w15.drew _ _ l LB ((HH.out.2.2.2.2.2.1 w15 hK15).below (bl_drewN w15 1)) (hfB.below (bl_drewN w15 1)) (by omega) (by omega) (fun x hx => H3.out.2.2.2.2.2.1 x (.inr hx))
      obtain ⟨C1, hC1⟩ : ∃ C1 : World → Prop, C1 = fun w' => w'.heap[w3.heap.size]? = w15.heap[w3.heap.size]? := ⟨_, rfl⟩
      have a1 := b15.cw (C0 := C1) (fun w' hw => by subst hC1; exact hw)
      have h01 : C1 w15.drew := by subst hC1; rfl
      have hne1 : Nonempty (CW C1) := ⟨⟨_, h01⟩⟩
      have HC1 := Lib.hid hC1; clear hC1
      have H15 := Lib.hid (And.intro hT15 (And.intro b15 (And.intro hK15 (And.intro hS15 (And.intro hD15 (And.intro ho9s (And.intro ho9K (And.intro hbd (And.intro hR (And.intro hL12 (And.intro hL12l ho9)))))))))))
      clear b14 hK14 hJ14 ho8s ho8b ho8w ho8K hL12 hL12l hbd hPl hR hT15 hS15 hD15 ho9 ho9s ho9b hOSb ho8Kb ho8wb b15 hK15 hJ15 ho9K hfB hF15 H14 HC h0 hC14
      go_wp2_with fail
      apply only_mk
      go_wp2_with fail
      refine wp_region_hoist [true, true, true, true, true, true, false, true, false] 1 (fun w' => ∃ z : CW C1, w' = z.w) (by kernel_rfl) (by kernel_rfl) ⟨⟨_, h01⟩, rfl⟩ ?_
      simp only [pickR, pickE, List.take, List.drop, wpLate]
      repeat (go_big_quiet_step (fail))
      refine wpQuiet_nil ?_
      go_wp2_with fail
      refine hpickB.mono ?_
      clear hpickB
      rintro er w16 ⟨vp, rfl, hOp, hBp⟩
      obtain ⟨Aq, cq, hvp⟩ := hOp.slice
      subst hvp
      obtain ⟨hT15, b15, hK15, hS15, hD15, ho9s, ho9K, hbd, hR, hL12, hL12l, ho9⟩ := H15.out
      have hB16 : Below w15.heap.size w15 w16 := (bl_drewN w15 1).trans hBp
      have hC16 : C1 w16 := by rw [HC1.out]; exact hB16.block _ b15.lt
      have hK16 := hK15.below hB16 hK15.size
      have hAl : (pickF l LB).length = LB.length := pickF_len _ _
      rw [hAl]
      have hmemB : ∀ y ∈ pickF l LB, y ∈ l := fun y hy => pickF_mem (fun x hx => H3.out.2.2.2.2.2.1 x (.inr hx)) hy
      have hABs := hAB.out.1
      have hihB := ih o9 w16 c3 R.1 f2 (L.length + 1) i _ (pickF l LB) R.2 (hT15.below hB16) (hS15.below hB16) ho9s (by omega) (by rw [hAl]; have := HN.out.2.1; have := H2.out.2.2.2.2.2; omega) (by rw [hAl]; have := HN.out.2.2.1; have := H2.out.2.2.2.2.2; omega) (bd_wf ⟨by omega, by omega⟩) hOp.read (fun x hx => HH.out.2.2.2.2.2.2.1 x (hmemB x hx)) hD15 (fun x hx => HH.out.2.2.2.2.2.2.2.2.1 x (hmemB x hx)) (by rw [hAl]; have := HN.out.2.2.2.1; have := H2.out.2.2.2.2.2; omega)
      rw [show ((L.length + 1 : Nat) : Int) = (L.length : Int) + 1 by omega] at hihB
      have h3w16 : w.heap.size ≤ w16.heap.size := hK16.size
      have H16 := Lib.hid (And.intro hK16 (And.intro ho9K (And.intro hR (And.intro hL12 ho9s))))
      rw [hAl] at hihB
      obtain ⟨PB, hPB⟩ : ∃ PB, PB = pickF l LB := ⟨_, rfl⟩
      rw [← hPB] at hihB
      have HPB := Lib.hid hPB
      clear hPB hAl hT15 b15 hK15 hS15 hD15 ho9s ho9K hbd hR hL12 hL12l ho9 hB16 hBp hOp hK16 hmemB hABs H15
      go_wp2_with fail
      apply only_mk; refine And.intro ⟨⟨_, hC16⟩, rfl⟩ ?_
      go_wp2_with fail
      refine hihB.mono ?_
      clear hihB
      rintro er w17 ⟨rfl, hF17, f3, c4, hD17, hT17, hS17⟩
      have HZ := Lib.hid (And.intro hF17 (And.intro hD17 (And.intro hT17 hS17))); clear hF17 hD17 hT17 hS17
      go_wp2_with fail
      apply only_mk
      go_wp2_with fail
      refine bodyPost_end (results_none rfl _ _ _) rfl ?_
      obtain ⟨hF17, hD17, hT17, hS17⟩ := HZ.out
      obtain ⟨hK16, ho9K, hR, hL12, ho9s⟩ := H16.out
      have hspl := buildN_split (m := m) (most := most) (src := src) (n := n) (L := L) (u := used) (i := i) (par := par) (l := l) (by omega) (v := v0) (F := F) (A := LA) (B := LB) (by have := HN.out.2.2.2.2; omega) H2.out.2.2.2.2.1.symm hAB.out.2.1.symm hAB.out.2.2.symm
      rw [itD_eq hv0l, ← H5.out.2.2, ← H7.out.2.2, ← hL12, ← HPA.out, ← hR, ← HPB.out] at hspl
      rw [hspl]
      have hK17 := Fr.step_own hK16 hF17 (fun g hg => by
        rcases hg with e | e
        · exact ho9K g e
        · exact .inl (.inr e))
      refine ⟨rfl, hK17.mono (fun g hg => ⟨by
        rcases hg.1 with e | e
        · exact .inl (HH.out.2.2.2.2.1 g e)
        · exact .inr e, hg.2⟩), f3, c4, hD17, hT17.grow (fun g hg => ?_), hS17⟩
      rcases hg with e | e
      · rcases ho9K g e with h1 | h1
        · rcases h1 with h1 | h1
          · exact .inl (HH.out.2.2.2.2.1 g h1)
          · exact absurd (h1 ▸ e) ho9s
        · exact .inr h1
      · exact .inr (by omega)
end Go.Proofs.Ytlcpfnhindfkfaa
