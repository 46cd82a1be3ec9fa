/-
  VptreeBuilds: the law's walk.
-/
import Derived.Test.YtlcpfnhindfkfaaVRef
import Derived.Test.YtlcpfnhindfkfaaVE
import Derived.Test.YtlcpfnhindfkfaaVLives
namespace Go.Proofs.Ytlcpfnhindfkfaa
open Go Go.RowKit Go.WW
theorem imgL_bl {T : List Vn} {o : List Int} {k M : Nat} (h : ∀ n ∈ T, n.bucket.length ≤ M) : ∀ n ∈ imgL T o k, n.bucket.length ≤ M := by
  intro n hn
  obtain ⟨i, _, rfl⟩ := List.mem_map.1 hn
  show (nodO T i).bucket.length ≤ M
  unfold nodO
  rw [List.getD_eq_getElem?_getD]
  cases e : T[i.toNat]? with
  | none => exact Nat.zero_le _
  | some x => exact h x (List.mem_of_getElem? e)
theorem sh0 : Short it0.ob := ⟨by decide, by decide⟩
set_option maxRecDepth 100000 in
set_option maxHeartbeats 8000000 in
theorem vbuilds_any (b : Nat) (m sz most : Int) (va v v2 : Value) (l : List It) (raw : List Int) (w : World) (hbw : b ≤ w.heap.size) (hva : ∃ A n c, va = .slice A n c) (hv : RdRow itR 34 b w v l) (hv2 : RdRow intR 3 b w v2 raw) (hl : l.length ≤ 1048576) (hraw : raw.length ≤ 1048576) :
    Calls Try.prog 3 #[.agg #[.int .i64 m, .int .i64 sz, .int .i64 most, va], v, v2] w fun e w' => e = .returned (.bool true) ∧ Below w.heap.size w w' := by
  obtain ⟨Aa, na, ca, rfl⟩ := hva
  obtain ⟨A, c, rfl, hlc, hcm, hA, -⟩ := hv.at
  obtain ⟨A2, c2, rfl, hlc2, hcm2, hA2, -⟩ := hv2.at
  obtain ⟨W, hW⟩ : ∃ W, W = w.alloc (.cells #[.int .i64 m, .int .i64 sz, .int .i64 most, .slice Aa na ca] 24) := ⟨_, rfl⟩
  have hB : Below w.heap.size w W := by rw [hW]; exact (Below.refl _ w).alloc (Nat.le_refl _) _
  have hI : IRow 24 W w.heap.size [.int .i64 m, .int .i64 sz, .int .i64 most, .slice Aa na ca] := by rw [hW]; exact IRow.new w _ _
  have hvW := hv.below hB
  have hv2W := hv2.below hB
  obtain ⟨C0, hC0⟩ : ∃ C0 : World → Prop, C0 = fun w' => Below W.heap.size W w' := ⟨_, rfl⟩
  have a1 := hI.cw (C0 := C0) (fun w' hw => by subst hC0; exact hw.block _ hI.lt)
  have h0 : C0 W.drew := by subst hC0; exact bl_drewN W 1
  have hne : Nonempty (CW C0) := ⟨⟨_, h0⟩⟩
  have hbW : b ≤ W.heap.size := Nat.le_trans hbw hB.size
  have hfirst := vfirst_any b _ l W.drew (hvW.below (bl_drewN W 1))
  obtain ⟨fo, hfo⟩ : ∃ fo, fo = (l.getD 0 it0).ob := ⟨_, rfl⟩
  rw [← hfo] at hfirst
  clear hfo
  have H0 := Lib.hid (And.intro hB (And.intro hI (And.intro hvW (And.intro hv2W hC0)))); clear hB hI hvW hv2W hC0 hv hv2 hA hA2
  go_enter Try.func3, Try.ntmps3
  go_wp2_with fail
  rw [← hW]
  clear hW
  refine wp_region_hoist [true, true, true, true, true, false, false, true, false, false, false, false] 4 (fun w' => ∃ z : CW C0, w' = z.w) (by kernel_rfl) (by kernel_rfl) ⟨⟨_, h0⟩, rfl⟩ ?_
  simp only [pickR, pickE, List.take, List.drop, wpLate]
  repeat (go_big_quiet_step (fail))
  refine wpQuiet_nil ?_
  go_wp2_with fail
  refine hfirst.mono ?_
  clear hfirst
  rintro er w1 ⟨Af, nf, cf, rfl, hob, hB1⟩
  have hB1' : Below W.heap.size W w1 := (bl_drewN W 1).trans hB1
  have h1 : C0 w1 := by rw [H0.out.2.2.2.2]; exact hB1'
  have H1 := Lib.hid (And.intro hob hB1'); clear hob hB1 hB1'
  obtain ⟨w2, hw2⟩ : ∃ w2, w2 = w1.alloc (.cells #[.int .i64 2, .int .u64 0, .int .i64 fo.tag, .slice Af nf cf, .string fo.str, .slice A l.length c, .int .i64 0, .slice none 0 0] 36) := ⟨_, rfl⟩
  have hB2 : Below w1.heap.size w1 w2 := by rw [hw2]; exact (Below.refl _ w1).alloc (Nat.le_refl _) _
  have hB02 := H1.out.2.trans (hB2.mono H1.out.2.size)
  have h2 : C0 w2 := by rw [H0.out.2.2.2.2]; exact hB02
  have hact : RdRow acR 36 b w2 (.slice (some ⟨w1.heap.size, 0, none⟩) 1 1) [⟨2, ⟨0, fo⟩, l, 0, nilS⟩] := by
    rw [hw2]
    refine (OwnRow.one (R := acR) (e := 36) (b := b) (n0 := b) (w := w1) (cs := [.int .i64 2, .int .u64 0, .int .i64 fo.tag, .slice Af nf cf, .string fo.str, .slice A l.length c, .int .i64 0, .slice none 0 0]) (x := ⟨2, ⟨0, fo⟩, l, 0, nilS⟩) ?_ ?_).read
    · exact acR_iff.2 ⟨_, _, _, _, _, rfl, (by show (Lit.int .i64 2).wf = true; decide), itR_iff.2 ⟨_, rfl, (by show (Lit.int .u64 0).wf = true; decide), H1.out.1⟩, H0.out.2.2.1.below H1.out.2, (by show (Lit.int .i64 0).wf = true; decide), rfl, by decide⟩
    · have := H1.out.2.size; omega
  have hright := aright_any b m sz _ _ w2 (by have := hB02.size; omega) hact (fun a ha => by simp only [List.mem_singleton] at ha; subst ha; exact hl)
  have H2 := Lib.hid (And.intro hB02 h2); clear hB2 hB02 hact
  go_wp2_with fail
  apply only_mk; refine And.intro ⟨⟨_, h1⟩, rfl⟩ ?_
  go_wp2_with fail
  apply only_mk; refine And.intro ⟨⟨_, h1⟩, rfl⟩ ?_
  go_wp2_with fail
  apply only_mk; refine And.intro ⟨⟨_, h1⟩, rfl⟩ ?_
  go_wp2_with fail
  rw [← hw2]
  clear hw2
  apply only_mk; refine And.intro ⟨⟨_, h2⟩, rfl⟩ ?_
  go_wp2_with fail
  refine hright.mono ?_
  clear hright a1 h0 h1 h2 hne
  rintro er w3 ⟨⟨r, rfl, hr⟩, hB3⟩
  have hBw3 := H0.out.1.trans ((H2.out.1.trans (hB3.mono H2.out.1.size)).mono H0.out.1.size)
  have hI3 := H0.out.2.1.kept ((H2.out.1.trans (hB3.mono H2.out.1.size)).block _ H0.out.2.1.lt)
  have hv3 := H0.out.2.2.1.below (H2.out.1.trans (hB3.mono H2.out.1.size))
  have hv23 := H0.out.2.2.2.1.below (H2.out.1.trans (hB3.mono H2.out.1.size))
  have c3 := hI3.cell
  have l3 := hI3.lt
  have H3 := Lib.hid (And.intro hBw3 (And.intro hI3 (And.intro hv3 (And.intro hv23 hr)))); clear hBw3 hI3 hv3 hv23 hr hB3 H0 H1 H2
  cases r with
  | false =>
    go_wp2_with fail
    apply only_mk
    go_wp2_with fail
    refine (vlives_any w3).mono ?_
    rintro er w4 ⟨rfl, hB4⟩
    have H4 := Lib.hid (H3.out.1.trans (hB4.mono H3.out.1.size)); clear hB4
    go_wp2_with fail
    go_ret
    exact ⟨rfl, H4.out⟩
  | true =>
    obtain ⟨-, hok⟩ := H3.out.2.2.2.2 rfl
    obtain ⟨hl59, -, hsh⟩ := hok _ (List.mem_singleton.2 rfl)
    simp only at hl59 hsh
    have HS := Lib.hid hsh; clear hok hsh
    go_wp2_with fail
    apply only_mk
    go_wp2_with fail
    refine (mnew_any w3 m).mono ?_
    rintro er w4 ⟨rfl, rfl⟩
    have hM4 := IRow.new w3 [.int .i64 m, .int .i64 0] 64
    have hB34 : Below w3.heap.size w3 (w3.alloc (.cells #[.int .i64 m, .int .i64 0] 64)) := (Below.refl _ w3).alloc (Nat.le_refl _) _
    obtain ⟨w4, hw4⟩ : ∃ w4, w4 = w3.alloc (.cells #[.int .i64 m, .int .i64 0] 64) := ⟨_, rfl⟩
    rw [← hw4] at hM4 hB34 ⊢
    clear hw4
    have hI4 := H3.out.2.1.kept (hB34.block _ H3.out.2.1.lt)
    have c4 := hI4.cell
    have l4 := hI4.lt
    have H4 := Lib.hid (And.intro hM4 (And.intro hB34 hI4)); clear hM4 hB34 hI4 c3 l3
    go_wp2_with fail
    refine (vnew_any w4 _ m 0 most H4.out.1).mono ?_
    rintro er w5 ⟨t, rfl, hB45, hT5⟩
    have hB35 := H4.out.2.1.trans (hB45.mono H4.out.2.1.size)
    have hs34 : w3.heap.size < w4.heap.size := H4.out.1.lt
    have hs5 : w4.heap.size ≤ w5.heap.size := hB45.size
    have H5 := Lib.hid (And.intro hT5 (And.intro hB35 (And.intro hs34 hs5))); clear hT5 hB45 hB35 hs34 hs5 c4 l4
    go_wp2_with fail
    refine (dnew_any b _ raw w5 (H3.out.2.2.2.1.below H5.out.2.1) hraw).mono ?_
    rintro er w6 ⟨s, rfl, hs, hS, hB56⟩
    have hB36 := H5.out.2.1.trans (hB56.mono H5.out.2.1.size)
    have hT6 := (H5.out.1.tight).below hB56
    have hv6 := H3.out.2.2.1.below hB36
    have hos : ¬ ((s = w3.heap.size ∨ w4.heap.size ≤ s) ∧ s < w5.heap.size) := fun h => by have := h.2; omega
    have hBw6 := H3.out.1.trans (hB36.mono H3.out.1.size)
    have hI6 := H3.out.2.1.kept (hB36.block _ H3.out.2.1.lt)
    have hv26 := H3.out.2.2.2.1.below hB36
    have H6 := Lib.hid (And.intro hT6 (And.intro hS (And.intro hv6 (And.intro hos (And.intro hBw6 (And.intro hI6 (And.intro hv26 (And.intro hB36 (And.intro H5.out.2.2.1 (And.intro H5.out.2.2.2 hs))))))))))
    clear hT6 hS hv6 hos hBw6 hI6 hv26 hB36 hB56 hs H4 H5
    have hm1 : 1 ≤ max most 1 := by omega
    cases hfr : freshB (fun _ => none) [] (l.map It.id) with
    | false =>
      go_wp2_with fail
      refine (vbulkD_any b H6.out.1 _ _ l H6.out.2.2.1 (by omega) hfr).mono ?_
      rintro er w7 ⟨rfl, hB7⟩
      have H7 := Lib.hid (H6.out.2.2.2.2.1.trans (hB7.mono H6.out.2.2.2.2.1.size)); clear hB7
      go_wp2_with fail
      refine (vlives_any w7).mono ?_
      rintro er w8 ⟨rfl, hB8⟩
      have H8 := Lib.hid (H7.out.trans (hB8.mono H7.out.size)); clear hB8
      go_wp2_with fail
      go_ret
      exact ⟨rfl, H8.out⟩
    | true =>
      by_cases hl0 : l = []
      · subst hl0
        go_wp2_with fail
        refine (vbulkE_any b H6.out.1 _ _ H6.out.2.2.1).mono ?_
        rintro er w7 ⟨rfl, hF7, own7, hT7⟩
        have hB37 : Below w3.heap.size w3 w7 := H6.out.2.2.2.2.2.2.2.1.trans (hF7.toB (b := w3.heap.size) (fun g hg => by
          have := H6.out.2.2.2.2.2.2.2.2.1
          rcases hg.1.1 with e | e <;> omega) H6.out.2.2.2.2.2.2.2.1.size)
        have hBw7 := H3.out.1.trans (hB37.mono H3.out.1.size)
        have H7 := Lib.hid (And.intro hT7 hBw7); clear hT7 hF7 hB37 hBw7
        go_wp2_with fail
        refine (vimageE_any H7.out.1).mono ?_
        rintro er w8 ⟨rfl, hB8⟩
        have hBw8 := H7.out.2.trans (hB8.mono H7.out.2.size)
        have i9 := IRow.new w8 [nilS, nilS, nilS, .int .i64 0, nilS, nilS] 52
        have c9 := i9.cell
        have l9 := i9.lt
        have H8 := Lib.hid (hBw8.alloc hBw8.size (.cells #[nilS, nilS, nilS, .int .i64 0, nilS, nilS] 52)); clear hB8 hBw8 i9
        go_wp2_with fail
        refine (vlives_any _).mono ?_
        rintro er w10 ⟨rfl, hB10⟩
        have H10 := Lib.hid (H8.out.trans (hB10.mono H8.out.size)); clear hB10
        go_wp2_with fail
        go_ret
        exact ⟨rfl, H10.out⟩
      · have hx0 : 0 < l.length := List.length_pos_iff.2 hl0
        go_wp2_with fail
        refine (vbulk0_any b H6.out.1 H6.out.2.1 H6.out.2.2.2.1 hraw hm1 _ l H6.out.2.2.1 hx0 (by omega) (by decide) HS.out hfr).mono ?_
        rintro er w7 ⟨rfl, hF7, f', c', hT7, -⟩
        have hB37 : Below w3.heap.size w3 w7 := H6.out.2.2.2.2.2.2.2.1.trans (hF7.toB (b := w3.heap.size) (fun g hg => by
          obtain ⟨h1, h2, h3⟩ := H6.out.2.2.2.2.2.2.2.2
          rcases hg.1 with hg | hg
          · rcases hg.1 with e | e <;> omega
          · omega) H6.out.2.2.2.2.2.2.2.1.size)
        have hBw7 := H3.out.1.trans (hB37.mono H3.out.1.size)
        have hbd := buildN_bd m (max most 1) raw hm1 l.length [vn0] 0 0 (-1) l (Nat.le_refl _)
        have hTl : (buildN m (max most 1) raw l.length [vn0] 0 0 (-1) l).1.length ≤ 119 := by have := hbd.2.1; simp at this; omega
        have hTp : 0 < (buildN m (max most 1) raw l.length [vn0] 0 0 (-1) l).1.length := by have := hbd.1; simp at this; omega
        have hall := buildN_all (P := fun n => (Short n.van.ob ∧ ∀ x ∈ n.bucket, Short x.ob) ∧ n.bucket.length ≤ 59) (m := m) (src := raw) hm1 ⟨⟨sh0, fun x hx => by cases hx⟩, by decide⟩ l (fun par k hk hkl => ⟨⟨sh0, fun x hx => HS.out x (hk x hx)⟩, by show k.length ≤ 59; omega⟩) (fun x _ _ _ _ _ hx => ⟨⟨HS.out x hx, fun x hx => by cases hx⟩, by show 0 ≤ 59; omega⟩) l.length [vn0] 0 0 (-1) l (fun x hx => by
          simp only [List.mem_singleton] at hx
          subst hx
          exact ⟨⟨sh0, fun x hx => by cases hx⟩, by decide⟩) (fun x hx => hx) (Nat.le_refl _)
        have H7 := Lib.hid (And.intro hT7 (And.intro hBw7 (And.intro hB37 hall))); clear hT7 hF7 hB37 hBw7 hbd hall
        by_cases hle : (l.length : Int) ≤ max most 1
        · obtain ⟨hT, hO, hIl, hIf⟩ := told_leaf (m := m) (src := raw) l hle l.length
          have hT7 := H7.out.1
          have hall := H7.out.2.2.2
          rw [hT] at hT7 hall
          have himg := vimage_any hT7 (by simp) (by simp) (fun n hn => (hall n hn).1) (fun n hn => by have := (hall n hn).2; omega) 1 (by decide) hO.len hO.lt hO.ix hO.ix2
          generalize imgL [leafV (-1) l] (ordK [leafV (-1) l] 1) 1 = I at himg hIl hIf
          have HI := Lib.hid (And.intro hIl hIf); clear hT7 hall hT hO hTl hTp hIl hIf
          go_wp2_with fail
          refine himg.mono ?_
          clear himg
          rintro er w8 ⟨v8, rfl, hO8, hB8⟩
          obtain ⟨g8, cap8, hv8, _, hg8, _, _, _, hat8⟩ := hO8.at (by intro e; have := HI.out.1; rw [e] at this; cases this)
          subst hv8
          have hI0 : 0 < I.length := by rw [HI.out.1]; omega
          obtain ⟨cs8, hcs8, hc8⟩ := hat8 0 hI0
          obtain ⟨vb8, vv8, rfl, -⟩ := vnR_iff.1 hcs8
          have e0 := hc8 0 _ rfl
          simp only [Nat.zero_mul, Nat.zero_add] at e0
          have hlf : I[0].leaf = true := by have := HI.out.2; unfold nodN at this; rw [List.getD_eq_getElem?_getD, List.getElem?_eq_getElem hI0] at this; exact this
          rw [hlf] at e0
          rw [HI.out.1]
          have hBw8 := H7.out.2.1.trans (hB8.mono H7.out.2.1.size)
          have hB38 := H7.out.2.2.1.trans (hB8.mono H7.out.2.2.1.size)
          have hI8 := H3.out.2.1.kept (hB38.block _ H3.out.2.1.lt)
          have cI8 := hI8.cell
          have lI8 := hI8.lt
          have i9 := IRow.new w8 [nilS, .slice (some ⟨g8, 0, none⟩) 1 cap8, nilS, .int .i64 0, nilS, nilS] 52
          have c9 := i9.cell
          have l9 := i9.lt
          have z0 : ((l.length : Int) == 0) = false := beq_eq_false_iff_ne.2 (by omega)
          have z1 : decide (l.length = 0) = false := decide_eq_false (by omega)
          have H8 := Lib.hid (hBw8.alloc hBw8.size (.cells #[nilS, .slice (some ⟨g8, 0, none⟩) 1 cap8, nilS, .int .i64 0, nilS, nilS] 52)); clear hB8 hBw8 i9 hB38 hI8 hO8 hat8 hc8 hcs8
          go_wp2_with fail
          refine (vlives_any _).mono ?_
          rintro er w10 ⟨rfl, hB10⟩
          have H10 := Lib.hid (H8.out.trans (hB10.mono H8.out.size)); clear hB10
          go_wp2_with fail
          go_ret
          exact ⟨rfl, H10.out⟩
        · have hd : ∀ i j, i < l.length → j < l.length → 0 ≤ distO m (itD l i).ob (itD l j).ob := fun i j hi hj => by
            obtain ⟨_, _, _, _, _, _, _, r1, _⟩ := it_at H3.out.2.2.1 i hi
            obtain ⟨_, _, _, _, _, _, _, r2, _⟩ := it_at H3.out.2.2.1 j hj
            obtain ⟨_, _, _, q1⟩ := itR_iff.1 r1
            obtain ⟨_, _, _, q2⟩ := itR_iff.1 r2
            rw [itD_eq hi, itD_eq hj]
            exact (distO_bd q1 q2 (HS.out _ (List.getElem_mem hi)) (HS.out _ (List.getElem_mem hj))).1
          obtain ⟨N, r, r', tr, hO, hTd⟩ := told_of (src := raw) hm1 l hle hd l.length (Nat.le_refl _)
          have hT7 := H7.out.1
          have hall := H7.out.2.2.2
          generalize (buildN m (max most 1) raw l.length [vn0] 0 0 (-1) l).1 = T at hT7 hall hTl hTp hO hTd
          have hN := hTd.few
          have himg := vimage_any hT7 hTp (by omega) (fun n hn => (hall n hn).1) (fun n hn => by have := (hall n hn).2; omega) N (by omega) hO.len hO.lt hO.ix hO.ix2
          have hIb := imgL_bl (o := ordK T N) (k := N) (fun n hn => (hall n hn).2)
          generalize imgL T (ordK T N) N = I at himg hTd hIb
          have hIN := hTd.len
          subst hIN
          have HI := Lib.hid (And.intro hTd hIb); clear hT7 hall hO hTl hTp hTd hIb hd
          go_wp2_with fail
          refine himg.mono ?_
          clear himg
          rintro er w8 ⟨v8, rfl, hO8, hB8⟩
          have hI0 : 0 < I.length := HI.out.1.pos
          obtain ⟨g8, cap8, hv8, _, hg8, _, _, _, hat8⟩ := hO8.at (by intro e; rw [e] at hI0; cases hI0)
          subst hv8
          obtain ⟨cs8, hcs8, hc8⟩ := hat8 0 hI0
          obtain ⟨vb8, vv8, rfl, -⟩ := vnR_iff.1 hcs8
          have e0 := hc8 0 _ rfl
          simp only [Nat.zero_mul, Nat.zero_add] at e0
          have hn0 : nodN I 0 = I[0] := by unfold nodN; rw [List.getD_eq_getElem?_getD, List.getElem?_eq_getElem hI0]; rfl
          have hlf : I[0].leaf = false := by rw [← hn0]; exact HI.out.1.leaf
          rw [hlf] at e0
          have hBw8 := H7.out.2.1.trans (hB8.mono H7.out.2.1.size)
          have hB38 := H7.out.2.2.1.trans (hB8.mono H7.out.2.2.1.size)
          obtain ⟨w9, hw9⟩ : ∃ w9, w9 = w8.alloc (.cells #[nilS, .slice (some ⟨g8, 0, none⟩) I.length cap8, nilS, .int .i64 0, nilS, nilS] 52) := ⟨_, rfl⟩
          have i9 := IRow.new w8 [nilS, .slice (some ⟨g8, 0, none⟩) I.length cap8, nilS, .int .i64 0, nilS, nilS] 52
          have c9 := i9.cell
          have l9 := i9.lt
          rw [← hw9] at i9
          have hB89 : Below w8.heap.size w8 w9 := by rw [hw9]; exact (Below.refl _ w8).alloc (Nat.le_refl _) _
          have hR9 := hO8.read.below hB89
          have hBw9 := hBw8.trans (hB89.mono hBw8.size)
          have hB39 := hB38.trans (hB89.mono hB38.size)
          have z0 : ((I.length : Int) == 0) = false := beq_eq_false_iff_ne.2 (by omega)
          have z1 : decide (I.length = 0) = false := decide_eq_false (by omega)
          have z2 : (0 : Int) < I.length := by omega
          have H8 := Lib.hid (And.intro i9 (And.intro hR9 (And.intro hBw9 hB39))); clear hB8 hBw8 i9 hB38 hO8 hat8 hc8 hcs8 hR9 hBw9 hB39 hB89 hn0 hlf
          go_wp2_with fail
          rw [← hw9]
          clear hw9 c9 l9 e0 hg8 z1
          obtain ⟨x0, hx0⟩ : ∃ x0, x0 = (if raw = [] then 0 else raw.getD (0 % raw.length) 0) := ⟨_, rfl⟩
          have hrat := rat_any b _ raw w9 (H3.out.2.2.2.1.below H8.out.2.2.2)
          rw [← hx0] at hrat
          refine hrat.mono ?_
          clear hrat
          rintro er w10 ⟨rfl, rfl⟩
          have hx0w : (Lit.int .i64 x0).wf = true := by
            rw [hx0]
            split
            · decide
            · rename_i hne
              have hl0' : 0 < raw.length := List.length_pos_iff.2 hne
              obtain ⟨_, _, _, _, _, _, hat⟩ := H3.out.2.2.2.1.at
              obtain ⟨_, _, _, _, _, hr, _⟩ := hat 0 hl0'
              rw [Nat.zero_mod, List.getD_eq_getElem?_getD, List.getElem?_eq_getElem hl0']
              exact hr.2
          obtain ⟨pv, hpv⟩ : ∃ pv : Nat, pv = (pickI raw 0 l.length).toNat := ⟨_, rfl⟩
          have hpl : pv < l.length := by rw [hpv]; exact pick_lt (by omega)
          have hmod : modI x0 l.length = pv := by
            have h1 : modI x0 l.length = pickI raw 0 l.length := by rw [hx0]; rfl
            have h2 := modI_bd (x := x0) (n := (l.length : Int)) (by omega)
            omega
          have hrm := rmod_any w10 x0 l.length hx0w ⟨by omega, by omega⟩
          rw [hmod] at hrm
          rw [← hpv] at HI
          clear hx0 hx0w hpv hmod
          go_wp2_with fail
          refine hrm.mono ?_
          clear hrm
          rintro er w11 ⟨rfl, rfl⟩
          obtain ⟨g8', cap8', hv8', _, _, _, hat8⟩ := H8.out.2.1.at
          injection hv8' with q1 q2 q3
          clear q2 q3
          subst q1
          obtain ⟨gg, og, cs8, hA8, hg8, hcs8, hc8⟩ := hat8 0 hI0
          injection hA8 with hA8
          injection hA8 with q1 q2
          subst q1 q2
          have hn0 : nodN I 0 = I[0] := by unfold nodN; rw [List.getD_eq_getElem?_getD, List.getElem?_eq_getElem hI0]; rfl
          obtain ⟨hTd, hIb⟩ := HI.out
          have hvan := hTd.van
          have hkin := hTd.kin
          have hkout := hTd.kout
          have hle2 := hTd.le
          rw [hn0] at hvan hkin hkout hle2
          generalize I[0] = x at *
          obtain ⟨vb, vv, rfl, hrb, hri, -⟩ := vnR_iff.1 hcs8
          obtain ⟨Ab, cb, rfl, -⟩ := hrb.at
          obtain ⟨Av, nv, cv, rfl⟩ : ∃ A n c, vv = .slice A n c := by
            obtain ⟨v', hv', _, h2⟩ := itR_iff.1 hri
            simp only [List.cons.injEq] at hv'
            obtain ⟨-, -, hv', -⟩ := hv'
            subst hv'
            obtain ⟨v', hv2, _, hr, _⟩ := obR_iff.1 h2
            simp only [List.cons.injEq, and_true, true_and] at hv2
            subst hv2
            obtain ⟨A, c, e, _⟩ := hr.at
            exact ⟨A, _, c, e⟩
          have d0 := hc8 0 _ rfl
          have d1 := hc8 1 _ rfl
          have d2 := hc8 2 _ rfl
          have d3 := hc8 3 _ rfl
          have d4 := hc8 4 _ rfl
          have d5 := hc8 5 _ rfl
          have d6 := hc8 6 _ rfl
          have d7 := hc8 7 _ rfl
          have d8 := hc8 8 _ rfl
          have d9 := hc8 9 _ rfl
          have d10 := hc8 10 _ rfl
          have d11 := hc8 11 _ rfl
          have d12 := hc8 12 _ rfl
          have d13 := hc8 13 _ rfl
          simp only [Nat.zero_mul, Nat.zero_add] at d0 d1 d2 d3 d4 d5 d6 d7 d8 d9 d10 d11 d12 d13
          rw [hkin] at d8
          rw [hkout] at d9
          have HX := Lib.hid (And.intro hvan hle2); clear hvan hkin hkout hle2
          have c10 := H8.out.1.cell
          have l10 := H8.out.1.lt
          obtain ⟨w12, hw12⟩ : ∃ w12, w12 = w11.alloc (.cells #[.bool x.leaf, .slice Ab x.bucket.length cb, .int .u64 x.van.id, .int .i64 x.van.ob.tag, .slice Av nv cv, .string x.van.ob.str, .bool x.gone, .int .i64 x.par, .int .i64 r, .int .i64 r', .int .i64 x.il, .int .i64 x.ih, .int .i64 x.ol, .int .i64 x.oh] 55) := ⟨_, rfl⟩
          have hB12 : Below w11.heap.size w11 w12 := by rw [hw12]; exact (Below.refl _ _).alloc (Nat.le_refl _) _
          have i12 : IRow 55 w12 w11.heap.size [.bool x.leaf, .slice Ab x.bucket.length cb, .int .u64 x.van.id, .int .i64 x.van.ob.tag, .slice Av nv cv, .string x.van.ob.str, .bool x.gone, .int .i64 x.par, .int .i64 r, .int .i64 r', .int .i64 x.il, .int .i64 x.ih, .int .i64 x.ol, .int .i64 x.oh] := by rw [hw12]; exact IRow.new w11 _ _
          have im12 := H8.out.1.kept (hB12.block _ H8.out.1.lt)
          have hBw12 := H8.out.2.2.1.trans (hB12.mono H8.out.2.2.1.size)
          have hB312 := H8.out.2.2.2.trans (hB12.mono H8.out.2.2.2.size)
          have hR12 := H8.out.2.1.below hB12
          have cI12 := im12.cell
          have cN12 := i12.cell
          have lN12 := i12.lt
          have lI12 := im12.lt
          have H12 := Lib.hid (And.intro hBw12 (And.intro hB312 (And.intro hR12 (And.intro hTd (And.intro hIb i12))))); clear hBw12 hB312 hR12 hTd hIb hB12 i12 im12 hat8 hc8 hcs8 hrb hri HI H8 hn0
          go_upto_region 12 with (fail)
          rw [← hw12]
          clear hw12 d0 d1 d2 d3 d4 d5 d6 d7 d8 d9 d10 d11 d12 d13 c10 l10 hg8
          have hin := fun n => below_any 0 _ I (w12.drewN n) r (H12.out.2.2.1.below (bl_drewN w12 n)) (by omega) (fun n hn => by have := H12.out.2.2.2.2.1 n hn; omega) (by omega) H12.out.2.2.2.1.par
          have hou := fun n => below_any 0 _ I (w12.drewN n) r' (H12.out.2.2.1.below (bl_drewN w12 n)) (by omega) (fun n hn => by have := H12.out.2.2.2.2.1 n hn; omega) (by omega) H12.out.2.2.2.1.par
          refine wp_region_hoist [true, true, true, true, false, true, true, true, true, false, false, false] 1 (fun w' => ∃ n, w' = World.drewN w12 n) (by kernel_rfl) (by kernel_rfl) ⟨1, rfl⟩ ?_
          simp only [pickR, pickE, List.take, List.drop, wpLate]
          repeat (go_big_quiet_step (fail))
          refine wpQuiet_nil ?_
          go_wp2_with fail
          refine (hin 1).mono ?_
          rintro er w13 ⟨rfl, rfl⟩
          go_wp2_with fail
          apply only_mk; refine And.intro ⟨1, rfl⟩ ?_
          go_wp2_with fail
          refine (hou 1).mono ?_
          rintro er w13 ⟨rfl, rfl⟩
          clear hin hou
          obtain ⟨w13, hw13⟩ : ∃ w13, w13 = w12.drewN 1 := ⟨_, rfl⟩
          have hB13 : Below w12.heap.size w12 w13 := by rw [hw13]; exact bl_drewN w12 1
          have hBw13 := H12.out.1.trans (hB13.mono H12.out.1.size)
          have hB313 := H12.out.2.1.trans (hB13.mono H12.out.2.1.size)
          have hI13 := H3.out.2.1.kept (hB313.block _ H3.out.2.1.lt)
          have cR13 := hI13.cell
          have lR13 := hI13.lt
          have hN13 := H12.out.2.2.2.2.2.kept (hB13.block _ lN12)
          have cN13 := hN13.cell
          have lN13 := hN13.lt
          obtain ⟨gl, ol, Al, nl, cl, hAl, hgl, _, dl, _, _, _⟩ := it_at (H3.out.2.2.1.below hB313) pv hpl
          subst hAl
          obtain ⟨hvan, hle2⟩ := HX.out
          have hTd := H12.out.2.2.2.1
          have hin := hTd.inn
          have hall := hTd.all
          have hvid : x.van.id = l[pv].id := by rw [hvan, itD_eq hpl]
          rw [hvid] at cN13
          have hpz : (pv : Int) < l.length := by omega
          have b1 : decide (max most 1 < (l.length : Int)) = true := decide_eq_true (by omega)
          have b2 : decide (x.ih ≤ x.ol) = true := decide_eq_true hle2
          generalize belowI I r I.length = bi at hin hall ⊢
          generalize belowI I r' I.length = bo at hall ⊢
          have f1 : ((l.length : Int) - 1).tdiv 2 = bi := by rw [Int.tdiv_eq_ediv_of_nonneg (by omega)]; omega
          have f2 : (bi : Int) + bo + 1 = l.length := by omega
          have f3 : bi ≤ 59 := by omega
          have f4 : bo ≤ 59 := by omega
          rw [← hw13]
          clear hin hall hw13 cI12 cN12 lN12 lI12 hvid hle2
          have H13 := Lib.hid (And.intro hBw13 (And.intro hvan hTd)); clear hBw13 hvan hTd hB13 hB313 hI13 hN13
          go_wp2_with fail
          apply only_mk
          go_wp2_with fail
          refine wp_region_hoist [true, true, true, true, true, true, true, true, true, true, true, true, true, true, true, true, true, true, true, true, true, true, true, true, true, true, true, true, true, true, true, true, true, true, true, true, true, true, true, true, true, true, false, false, false] 0 (fun w' => ∃ n, w' = World.drewN w13 n) (by kernel_rfl) (by kernel_rfl) ⟨1, rfl⟩ ?_
          simp only [pickR, pickE, List.take, List.drop, wpLate]
          repeat (go_big_quiet_step (fail))
          refine wpQuiet_nil ?_
          go_wp2_with fail
          have hBd := H13.out.1.trans ((bl_drewN w13 1).mono H13.out.1.size)
          refine (vlives_any _).mono ?_
          rintro er w14 ⟨rfl, hB14⟩
          have H14 := Lib.hid (hBd.trans (hB14.mono hBd.size)); clear hB14 hBd
          go_wp2_with fail
          apply only_mk
          go_wp2_with fail
          go_ret
          exact ⟨rfl, H14.out⟩
end Go.Proofs.Ytlcpfnhindfkfaa
