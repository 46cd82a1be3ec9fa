/-
  The law BktreeNodes: its walk.
-/
import Derived.Test.YtjdcemmodkdajaaLawA
namespace Go.Proofs.Ytjdcemmodkdajaa
open Go Go.RowKit Go.WW
set_option maxRecDepth 100000 in
set_option maxHeartbeats 16000000 in
theorem nodes_any (m s : Int) (va : Value) (acts : List Ac) (w : World) (hv : RdRow acR 41 w.heap.size w va acts) (hsm : ∀ a ∈ acts, a.items.length ≤ 1048576) :
    Calls Try.prog 3 #[.agg #[.int .i64 m, .int .i64 s, va]] w fun e w' => e = .returned (.bool true) ∧ Below w.heap.size w w' := by
  obtain ⟨A, c, rfl, hlc, hcm, _⟩ := hv.at
  have hB1 : Below w.heap.size w (w.alloc (.cells #[.int .i64 m, .int .i64 s, .slice A acts.length c] 24)) := (Below.refl _ w).alloc (Nat.le_refl _) _
  have hI1 := IRow.new w [.int .i64 m, .int .i64 s, .slice A acts.length c] 24
  have hs1 : w.heap.size < (w.alloc (.cells #[.int .i64 m, .int .i64 s, .slice A acts.length c] 24)).heap.size := by simp
  obtain ⟨w1, hw1⟩ : ∃ w1, w1 = w.alloc (.cells #[.int .i64 m, .int .i64 s, .slice A acts.length c] 24) := ⟨_, rfl⟩
  rw [← hw1] at hB1 hs1
  have hI1' : IRow 24 w1 w.heap.size [.int .i64 m, .int .i64 s, .slice A acts.length c] := by rw [hw1]; exact hI1
  have c1 := hI1'.cell
  have HH := Lib.hid (And.intro hv (And.intro hsm (And.intro hB1 (And.intro hI1' hs1)))); clear hv hsm hB1 hI1 hI1' hs1
  go_enter Try.func3, Try.ntmps3
  go_wp2_with fail
  rw [← hw1]
  clear hw1
  refine (aright_any w.heap.size m s _ acts w1 HH.out.2.2.1.size (HH.out.1.below HH.out.2.2.1) HH.out.2.1).mono ?_
  rintro er w2 ⟨⟨r, rfl, hr⟩, hB2⟩
  have hBw2 := HH.out.2.2.1.trans (hB2.mono HH.out.2.2.1.size)
  cases r with
  | false =>
    have H2 := Lib.hid hBw2; clear hBw2 hB2 hr
    go_wp2_with fail
    refine (lives_any w2).mono ?_
    rintro er w3 ⟨rfl, hB3⟩
    go_wp2_with fail
    go_ret
    exact ⟨rfl, H2.out.trans (hB3.mono H2.out.size)⟩
  | true =>
    have hI2 := HH.out.2.2.2.1.kept (hB2.block _ HH.out.2.2.2.1.lt)
    have c2 := hI2.cell
    have hs2 := Nat.lt_of_lt_of_le HH.out.2.2.2.2 hB2.size
    have H2 := Lib.hid (And.intro hBw2 (And.intro hI2 (And.intro (hr rfl) hs2))); clear hBw2 hB2 hr hI2 hs2 c1
    go_wp2_with fail
    refine (mnew_any w2 m).mono ?_
    rintro er w3 ⟨rfl, rfl⟩
    have hM := IRow.new w2 [.int .i64 m, .int .i64 0] 83
    have hB3 : Below w2.heap.size w2 (w2.alloc (.cells #[.int .i64 m, .int .i64 0] 83)) := (Below.refl _ w2).alloc (Nat.le_refl _) _
    generalize w2.alloc (.cells #[.int .i64 m, .int .i64 0] 83) = w3 at *
    have H3 := Lib.hid (And.intro hM hB3); clear hM hB3
    go_wp2_with fail
    refine (new_any w3 _ m 0 H3.out.1).mono ?_
    rintro er w4 ⟨t, rfl, hB4, hT4⟩
    have hSt : St m s (.slice A acts.length c) t w2.heap.size w w4 [] [] (fun _ => none) 0 :=
      ⟨hT4.grow (fun g hg => by
        have h2 := H2.out.2.2.2
        have h3 := H3.out.2.size
        rcases hg with hg | hg <;> omega), Rt.nil m, Nat.le_refl _, List.Perm.refl _, Nat.le_refl _, H2.out.1.trans ((H3.out.2.trans (hB4.mono H3.out.2.size)).mono H2.out.1.size), H2.out.2.1.kept ((H3.out.2.trans (hB4.mono H3.out.2.size)).block _ H2.out.2.1.lt)⟩
    have HS := Lib.hid hSt; clear hSt hT4 hB4 c2
    have hmt : ∃ mt, mt = w2.heap.size := ⟨_, rfl⟩
    obtain ⟨mt, hmt⟩ := hmt
    rw [← hmt] at HS
    clear hmt
    go_wp2_with fail
    go_loopw [4, 5, 6, 7, 8, 9, 10, 11, 12, 13, 14, 42, 64, 89] (fun vl vit vi _ _ _ _ _ _ _ _ _ _ _ wr => ∃ (i : Nat) (L : List Nd) (I : List It) (f : Int → Option Int), vi = .int .i64 i ∧ i ≤ acts.length ∧ RdRow bkR 77 w.heap.size wr vl L ∧ RdRow itR 38 w.heap.size wr vit I ∧ St m s (.slice A acts.length c) t mt w wr L I f (60 * i)) (fun _ _ vi _ _ _ _ _ _ _ _ _ _ _ _ => acts.length - (intOf vi).toNat)
    case atStart => exact ⟨0, [], [], _, rfl, Nat.zero_le _, RdRow.nil .., RdRow.nil .., HS.out⟩
    case round =>
      obtain ⟨i, L, I, f, rfl, hi, hL, hI, hS⟩ := hrel
      have cb := hS.box.cell
      have hbl := hS.box.lt
      obtain ⟨AL, cL, hvL, _⟩ := hL.at
      subst hvL
      obtain ⟨AI, cI, hvI, _⟩ := hI.at
      subst hvI
      by_cases hlt : i < acts.length
      · have hlt' : (i : Int) < acts.length := by omega
        have hOK := H2.out.2.2.1.2 acts[i] (List.getElem_mem ..)
        have h120 := H2.out.2.2.1.1
        obtain ⟨g, o, Av, nv, cv, As, cs, Ad, nd, cd, hA, hg, hit, hits, hnd, d0, d1, d2, d3, d4, d5, d6, d7⟩ := ac_at (HH.out.1.below hS.below) i hlt
        subst hA
        have HR := Lib.hid (And.intro hL (And.intro hI (And.intro hS (And.intro hOK (And.intro hit hits)))))
        clear hL hI hS hOK hit hits
        have hS := HR.out.2.2.1
        have hLb : L.length ≤ 7200 := by have := hS.len; omega
        have hIb : I.length ≤ 7200 := by have := hS.ilen; omega
        have hbw : w.heap.size ≤ wr.heap.size := hS.below.size
        have Hb := Lib.hid (And.intro hLb (And.intro hIb hbw)); clear hLb hIb hbw hS
        go_upto_block 2 with fail
        go_cut [4, 5] (fun vl vit wx => ∃ (L' : List Nd) (I' : List It) (f' : Int → Option Int), RdRow bkR 77 w.heap.size wx vl L' ∧ RdRow itR 38 w.heap.size wx vit I' ∧ St m s (.slice (some ⟨g, o, none⟩) acts.length c) t mt w wx L' I' f' (60 * (i + 1)))
        case first =>
          have hBa : ∀ ob, Below wr.heap.size wr (wr.alloc ob) := fun ob => (Below.refl _ wr).alloc (Nat.le_refl _) ob
          have HBa := Lib.hid hBa; clear hBa
          clear d0 d1 d2 d3 d4 d5 d6 d7
          by_cases k0 : acts[i].kind = 0
          · have k0' : (acts[i].kind == 0) = true := by simpa using k0
            clear k0
            go_wp2_with fail
            refine (insert_any w.heap.size (HR.out.2.2.1.ahead _) (fun g hg => by have := hg.1; omega) acts[i].item _ (.pointer none) (itR_below HR.out.2.2.2.2.1 (HBa.out _)) HR.out.2.2.2.1.2.1 (by have := Hb.out.1; omega)).mono ?_
            rintro er w5 ⟨rfl, hF, hT⟩
            generalize (if (f acts[i].item.id).isSome = true then (4 : Int) else 0) = E5
            have hA5 : IRow 41 w5 wr.heap.size [.int .i64 acts[i].kind, .int .u64 acts[i].item.id, .int .i64 acts[i].item.ob.tag, .slice Av nv cv, .string acts[i].item.ob.str, .slice As acts[i].items.length cs, .int .i64 acts[i].n, .slice Ad nd cd] := ahd_act hF
            have hL5 := (HR.out.1.below (HBa.out _)).keep ((ahd_kp hF).mono (by decide))
            have hI5 := (HR.out.2.1.below (HBa.out _)).keep ((ahd_kp hF).mono (by decide))
            have hi5 := itR.keep _ _ _ _ _ ((ahd_kp hF).mono (by decide)) (itR_below HR.out.2.2.2.2.1 (HBa.out _))
            have hB5 := ahd_toB HR.out.2.2.1 hF
            have hx5 : IRow 24 w5 w.heap.size [.int .i64 m, .int .i64 s, .slice (some ⟨g, o, none⟩) acts.length c] := HR.out.2.2.1.box.kept ((hF.block _ (by simp; omega) (fun hg => by have := hg.1.1; omega)).trans (Below.heap_alloc wr _ _ hbl))
            have hb5 : w.heap.size ≤ w5.heap.size := Nat.le_trans Hb.out.2.2 hB5.size
            have c5 := hA5.cell
            have cx5 := hx5.cell
            have H5 := Lib.hid (And.intro hF (And.intro hT (And.intro hA5 (And.intro hL5 (And.intro hI5 (And.intro hi5 (And.intro hx5 hb5)))))))
            clear hF hT hA5 hL5 hI5 hi5 hB5 hx5 hb5
            go_wp2_with fail
            refine (rp_any w.heap.size _ I acts[i].item _ w5 H5.out.2.2.2.2.2.2.2 H5.out.2.2.2.2.1 H5.out.2.2.2.2.2.1 (by have := Hb.out.2.1; omega)).mono ?_
            rintro er w6 ⟨v6, e6, I6, rfl, hI6, hB6, hpi⟩
            rcases hpi with ⟨hin, rfl, rfl⟩ | ⟨hni, rfl, hperm⟩
            · have hso : (f acts[i].item.id).isSome = true := by rw [HR.out.2.2.1.has]; exact decide_eq_true hin
              have H6 := Lib.hid (And.intro hI6 (And.intro hB6 hso)); clear hI6 hB6 hso hin
              go_wp2_with fail
              go_meet
              have hT := H5.out.2.1
              simp only [H6.out.2.2, if_true] at hT
              have hS := HR.out.2.2.1
              exact ⟨L, _, f, H5.out.2.2.2.1.below H6.out.2.1, H6.out.1, ((hS.after H5.out.1 hT hS.rt hS.half hS.perm hS.len).next H6.out.2.1).more (by omega)⟩
            · have hso : (f acts[i].item.id).isSome = false := by rw [HR.out.2.2.1.has]; exact decide_eq_false hni
              have c6 := (H5.out.2.2.1.kept (hB6.block _ H5.out.2.2.1.lt)).cell
              have cx6 := (H5.out.2.2.2.2.2.2.1.kept (hB6.block _ H5.out.2.2.2.2.2.2.1.lt)).cell
              have H6 := Lib.hid (And.intro hI6 (And.intro hB6 (And.intro hso hperm))); clear hI6 hB6 hso hperm hni c5 cx5
              go_wp2_with fail
              refine (rput_any w.heap.size m _ L acts[i].item _ w6 (Nat.le_trans H5.out.2.2.2.2.2.2.2 H6.out.2.1.size) (H5.out.2.2.2.1.below H6.out.2.1) HR.out.2.2.1.tr.up HR.out.2.2.1.tr.sh (itR_below H5.out.2.2.2.2.2.1 H6.out.2.1) HR.out.2.2.2.1.2.1 (by have := Hb.out.1; omega)).mono ?_
              rintro er w7 ⟨v7, rfl, hL7, hB7⟩
              have H7 := Lib.hid (And.intro hL7 hB7); clear hL7 hB7
              go_wp2_with fail
              go_meet
              have hT := H5.out.2.1
              simp only [H6.out.2.2.1, Bool.false_eq_true, if_false] at hT
              have hS := HR.out.2.2.1
              rw [← gcnt_put m L acts[i].item] at hT
              have hperm : (I6.map It.id).Perm (ids (putN m L acts[i].item)) := by
                unfold ids
                rw [live_put, List.map_append]
                exact H6.out.2.2.2.trans ((hS.perm.cons _).trans (List.perm_append_singleton _ _).symm)
              exact ⟨putN m L acts[i].item, I6, _, H7.out.1, H6.out.1.below H7.out.2, (((hS.after H5.out.1 hT (hS.rt.put _) (by rw [gcnt_put, putN_len]; have := hS.half; omega) hperm (Nat.le_refl _)).next H6.out.2.1).next H7.out.2).more (by rw [putN_len]; have := hS.len; omega)⟩
          · have k0' : (acts[i].kind == 0) = false := by simpa using k0
            by_cases k1 : acts[i].kind = 1
            · have k1' : (acts[i].kind == 1) = true := by simpa using k1
              clear k0 k1
              have hid : W64 acts[i].item.id := by obtain ⟨_, _, h1, _⟩ := itR_iff.1 HR.out.2.2.2.2.1; exact h1
              have Hid := Lib.hid hid; clear hid
              go_wp2_with fail
              refine (delete_any (HR.out.2.2.1.ahead _) acts[i].item.id (.pointer none) Hid.out (by have := Hb.out.1; omega)).mono ?_
              rintro er w5 ⟨rfl, hF, f5, hT⟩
              generalize (if (f acts[i].item.id).isSome = true then (0 : Int) else 5) = E5
              have hA5 : IRow 41 w5 wr.heap.size [.int .i64 acts[i].kind, .int .u64 acts[i].item.id, .int .i64 acts[i].item.ob.tag, .slice Av nv cv, .string acts[i].item.ob.str, .slice As acts[i].items.length cs, .int .i64 acts[i].n, .slice Ad nd cd] := ahd_act hF
              have hL5 := (HR.out.1.below (HBa.out _)).keep ((ahd_kp hF).mono (by decide))
              have hI5 := (HR.out.2.1.below (HBa.out _)).keep ((ahd_kp hF).mono (by decide))
              have hB5 := ahd_toB HR.out.2.2.1 hF
              have hx5 : IRow 24 w5 w.heap.size [.int .i64 m, .int .i64 s, .slice (some ⟨g, o, none⟩) acts.length c] := HR.out.2.2.1.box.kept ((hF.block _ (by simp; omega) (fun hg => by have := hg.1.1; omega)).trans (Below.heap_alloc wr _ _ hbl))
              have hb5 : w.heap.size ≤ w5.heap.size := Nat.le_trans Hb.out.2.2 hB5.size
              have c5 := hA5.cell
              have cx5 := hx5.cell
              have H5 := Lib.hid (And.intro hF (And.intro hT (And.intro hA5 (And.intro hL5 (And.intro hI5 (And.intro hx5 hb5))))))
              clear hF hT hA5 hL5 hI5 hB5 hx5 hb5
              go_wp2_with fail
              refine (rc_any w.heap.size _ I acts[i].item.id w5 H5.out.2.2.2.2.2.2 H5.out.2.2.2.2.1 (by have := Hb.out.2.1; omega)).mono ?_
              rintro er w6 ⟨v6, e6, I6, rfl, hI6, hB6, hpi⟩
              rcases hpi with ⟨hin, rfl, rfl⟩ | ⟨hni, rfl, hfil⟩
              · have hso : (f acts[i].item.id).isSome = false := by rw [HR.out.2.2.1.has]; exact decide_eq_false hin
                have H6 := Lib.hid (And.intro hI6 (And.intro hB6 hso)); clear hI6 hB6 hso hin
                go_wp2_with fail
                go_meet
                have hT := H5.out.2.1
                simp only [H6.out.2.2, Bool.false_eq_true, if_false] at hT
                have hS := HR.out.2.2.1
                exact ⟨L, _, _, H5.out.2.2.2.1.below H6.out.2.1, H6.out.1, ((hS.after H5.out.1 hT hS.rt hS.half hS.perm hS.len).next H6.out.2.1).more (by omega)⟩
              · have hso : (f acts[i].item.id).isSome = true := by rw [HR.out.2.2.1.has]; exact decide_eq_true hni
                have c6 := (H5.out.2.2.1.kept (hB6.block _ H5.out.2.2.1.lt)).cell
                have cx6 := (H5.out.2.2.2.2.2.1.kept (hB6.block _ H5.out.2.2.2.2.2.1.lt)).cell
                have H6 := Lib.hid (And.intro hI6 (And.intro hB6 (And.intro hso hfil))); clear hI6 hB6 hso hfil hni c5 cx5
                go_wp2_with fail
                refine (rcut_any w.heap.size m _ L acts[i].item.id w6 (Nat.le_trans H5.out.2.2.2.2.2.2 H6.out.2.1.size) (H5.out.2.2.2.1.below H6.out.2.1) HR.out.2.2.1.tr.sh (by have := Hb.out.1; omega)).mono ?_
                rintro er w7 ⟨v7, rfl, hL7, hB7⟩
                have H7 := Lib.hid (And.intro hL7 hB7); clear hL7 hB7
                go_wp2_with fail
                go_meet
                have hT := H5.out.2.1
                simp only [H6.out.2.2.1, if_true] at hT
                have hS := HR.out.2.2.1
                have hperm : (I6.map It.id).Perm (ids (cutN m L acts[i].item.id)) := by
                  unfold ids
                  rw [live_cut, H6.out.2.2.2]
                  have := hS.perm
                  unfold ids at this
                  have h2 := this.filter (fun y => decide (y ≠ acts[i].item.id))
                  rw [List.filter_map, List.filter_map] at h2
                  exact h2
                exact ⟨cutN m L acts[i].item.id, I6, _, H7.out.1, H6.out.1.below H7.out.2, (((hS.after H5.out.1 hT (hS.rt.cut _) (gcnt_cut2 _ _ _ hS.half) hperm (Nat.le_refl _)).next H6.out.2.1).next H7.out.2).more (Nat.le_trans (cut_len _ _ _) (by have := hS.len; omega))⟩
            · have k1' : (acts[i].kind == 1) = false := by simpa using k1
              by_cases k2 : acts[i].kind = 2
              · have k2' : (acts[i].kind == 2) = true := by simpa using k2
                clear k0 k1 k2
                go_wp2_with fail
                refine (bulk_any w.heap.size (HR.out.2.2.1.ahead _) (fun g hg => by have := hg.1; omega) (Nat.le_trans Hb.out.2.2 (HBa.out _).size) _ (.pointer none) acts[i].items (HR.out.2.2.2.2.2.below (HBa.out _)) HR.out.2.2.2.1.2.2 (by have := Hb.out.1; have := HR.out.2.2.2.1.1; omega)).mono ?_
                rintro er w5 ⟨rfl, hF, f5, hT⟩
                have hfb : freshB f [] (acts[i].items.map It.id) = freshL (I.map It.id) (acts[i].items.map It.id) := freshB_L (fun y => by
                  have := HR.out.2.2.1.has y
                  rw [this]; simp)
                rw [hfb] at hT ⊢
                generalize (if freshL (I.map It.id) (acts[i].items.map It.id) = true then (0 : Int) else 4) = E5
                have hA5 : IRow 41 w5 wr.heap.size [.int .i64 acts[i].kind, .int .u64 acts[i].item.id, .int .i64 acts[i].item.ob.tag, .slice Av nv cv, .string acts[i].item.ob.str, .slice As acts[i].items.length cs, .int .i64 acts[i].n, .slice Ad nd cd] := ahd_act hF
                have hL5 := (HR.out.1.below (HBa.out _)).keep ((ahd_kp hF).mono (by decide))
                have hI5 := (HR.out.2.1.below (HBa.out _)).keep ((ahd_kp hF).mono (by decide))
                have hi5 := (HR.out.2.2.2.2.2.below (HBa.out _)).keep ((ahd_kp hF).mono (by decide))
                have hB5 := ahd_toB HR.out.2.2.1 hF
                have hx5 : IRow 24 w5 w.heap.size [.int .i64 m, .int .i64 s, .slice (some ⟨g, o, none⟩) acts.length c] := HR.out.2.2.1.box.kept ((hF.block _ (by simp; omega) (fun hg => by have := hg.1.1; omega)).trans (Below.heap_alloc wr _ _ hbl))
                have hb5 : w.heap.size ≤ w5.heap.size := Nat.le_trans Hb.out.2.2 hB5.size
                have c5 := hA5.cell
                have H5 := Lib.hid (And.intro hF (And.intro hT (And.intro hA5 (And.intro hL5 (And.intro hI5 (And.intro hi5 (And.intro hx5 hb5)))))))
                clear hF hT hA5 hL5 hI5 hi5 hB5 hx5 hb5 hfb
                go_wp2_with fail
                refine (rb_any w.heap.size _ _ I acts[i].items w5 H5.out.2.2.2.2.2.2.2 H5.out.2.2.2.2.1 H5.out.2.2.2.2.2.1 (by have := Hb.out.2.1; have := HR.out.2.2.2.1.1; omega)).mono ?_
                rintro er w6 ⟨v6, e6, I6, rfl, hI6, hB6, hpi⟩
                have hA6 := H5.out.2.2.1.kept (hB6.block _ H5.out.2.2.1.lt)
                have c6 := hA6.cell
                rcases hpi with ⟨hfl, rfl, rfl⟩ | ⟨hfl, rfl, hperm⟩
                · have H6 := Lib.hid (And.intro hI6 (And.intro hB6 hfl)); clear hI6 hB6 hfl hA6 c5
                  go_wp2_with fail
                  go_loopw [4, 14] (fun vl vk w' => vl = .slice AL L.length cL ∧ vk = .int .i64 0 ∧ w' = w6) (fun _ _ _ => 0)
                  case atStart => exact ⟨rfl, rfl, rfl⟩
                  case round =>
                    obtain ⟨rfl, rfl, rfl⟩ := hrel
                    by_cases hz : acts[i].items.length = 0
                    · rw [hz] at c6
                      go_wp2_with fail
                      go_meet
                      have hT := H5.out.2.1
                      simp only [H6.out.2.2, Bool.false_eq_true, if_false] at hT
                      have hS := HR.out.2.2.1
                      exact ⟨L, _, _, H5.out.2.2.2.1.below H6.out.2.1, H6.out.1, ((hS.after H5.out.1 hT hS.rt hS.half hS.perm hS.len).next H6.out.2.1).more (by omega)⟩
                    · have hz' : (0 : Int) < acts[i].items.length := by omega
                      go_wp2_with fail
                      go_meet
                      have hT := H5.out.2.1
                      simp only [H6.out.2.2, Bool.false_eq_true, if_false] at hT
                      have hS := HR.out.2.2.1
                      exact ⟨L, _, _, H5.out.2.2.2.1.below H6.out.2.1, H6.out.1, ((hS.after H5.out.1 hT hS.rt hS.half hS.perm hS.len).next H6.out.2.1).more (by omega)⟩
                · have hx6 := H5.out.2.2.2.2.2.2.1.kept (hB6.block _ H5.out.2.2.2.2.2.2.1.lt)
                  have hi6 := H5.out.2.2.2.2.2.1.below hB6
                  have hL6 := H5.out.2.2.2.1.below hB6
                  have H6 := Lib.hid (And.intro hI6 (And.intro hB6 (And.intro hfl (And.intro hperm (And.intro hx6 (And.intro hi6 (And.intro hL6 hA6))))))); clear hI6 hB6 hfl hA6 c5 hperm hx6 hi6 hL6 c6
                  go_wp2_with fail
                  go_loopw [4, 14] (fun vl vk w' => ∃ k : Nat, vk = .int .i64 k ∧ k ≤ acts[i].items.length ∧ RdRow bkR 77 w.heap.size w' vl ((acts[i].items.take k).foldl (putN m) L) ∧ Below w6.heap.size w6 w') (fun _ vk _ => acts[i].items.length - (intOf vk).toNat)
                  case atStart => exact ⟨0, rfl, Nat.zero_le _, H6.out.2.2.2.2.2.2.1, Below.refl _ _⟩
                  case round =>
                    obtain ⟨k, rfl, hk, hL7, hB7⟩ := hrel
                    obtain ⟨AK, cK, hvK, _⟩ := hL7.at
                    generalize hnK : ((acts[i].items.take k).foldl (putN m) L).length = nK at hvK
                    subst hvK
                    have HnK := Lib.hid hnK; clear hnK
                    have c7 := (H6.out.2.2.2.2.2.2.2.kept (hB7.block _ H6.out.2.2.2.2.2.2.2.lt)).cell
                    by_cases hkl : k < acts[i].items.length
                    · have hkl' : (k : Int) < acts[i].items.length := by omega
                      have hil : acts[i].items.length ≤ 59 := HR.out.2.2.2.1.1
                      have cx7 := (H6.out.2.2.2.2.1.kept (hB7.block _ H6.out.2.2.2.2.1.lt)).cell
                      obtain ⟨g7, o7, A7, n7, c7', hA7, hg7, hit7, b0, b1, b2, b3⟩ := it_at (H6.out.2.2.2.2.2.1.below hB7) k hkl
                      subst hA7
                      have htk : (acts[i].items.take (k + 1)).foldl (putN m) L = putN m ((acts[i].items.take k).foldl (putN m) L) acts[i].items[k] := by rw [List.take_add_one, List.getElem?_eq_getElem hkl, List.foldl_append]; rfl
                      have hup := (HR.out.2.2.1.rt.fold (xs := acts[i].items.take k)).up
                      have hsh : ∀ n ∈ (acts[i].items.take k).foldl (putN m) L, Short n.it.ob := fold_short (fun x hx => HR.out.2.2.2.1.2.2 x (List.mem_of_mem_take hx)) HR.out.2.2.1.tr.sh
                      have hsx := HR.out.2.2.2.1.2.2 acts[i].items[k] (List.getElem_mem ..)
                      have hll : ((acts[i].items.take k).foldl (putN m) L).length ≤ 1048575 := by
                        have h1 := Hb.out.1
                        have h2 := HR.out.2.2.2.1.1
                        rw [fold_len, List.length_take]; omega
                      have hb7 : w.heap.size ≤ wr.heap.size := Nat.le_trans H5.out.2.2.2.2.2.2.2 (Nat.le_trans H6.out.2.1.size hB7.size)
                      have H7 := Lib.hid (And.intro hL7 (And.intro hB7 (And.intro hit7 (And.intro htk (And.intro hup (And.intro hsh (And.intro hsx (And.intro hll hb7))))))))
                      clear hL7 hB7 hit7 htk hup hsh hsx hll hb7
                      go_wp2_with fail
                      refine wp_region_hoist [true, true, true, true, true, true, true, true, false, false] 0 (fun w' => ∃ n, w' = World.drewN wr n) (by kernel_rfl) (by kernel_rfl) ⟨1, rfl⟩ ?_
                      simp only [pickR, pickE, List.take, List.drop, wpLate]
                      repeat (go_big_quiet_step (fail))
                      refine wpQuiet_nil ?_
                      go_wp2_with fail
                      refine (rput_any w.heap.size m _ _ acts[i].items[k] _ wr.drew H7.out.2.2.2.2.2.2.2.2 (H7.out.1.below (bl_drewN wr 1)) H7.out.2.2.2.2.1 H7.out.2.2.2.2.2.1 (itR_below H7.out.2.2.1 (bl_drewN wr 1)) H7.out.2.2.2.2.2.2.1 H7.out.2.2.2.2.2.2.2.1).mono ?_
                      rintro er w8 ⟨v8, rfl, hL8, hB8⟩
                      rw [← H7.out.2.2.2.1] at hL8
                      have hB8' : Below wr.heap.size wr w8 := ⟨hB8.os, hB8.tape, hB8.output, hB8.size, hB8.block⟩
                      have H8 := Lib.hid (And.intro hL8 hB8'); clear hL8 hB8 hB8'
                      go_wp2_with fail
                      apply only_mk
                      go_wp2_with fail
                      refine ⟨⟨k + 1, by go_num, by omega, H8.out.1, H7.out.2.1.trans (H8.out.2.mono H7.out.2.1.size)⟩, ?_⟩
                      simp [intOf]; omega
                    · obtain rfl : k = acts[i].items.length := by omega
                      rw [List.take_length] at hL7
                      have H7 := Lib.hid (And.intro hL7 hB7); clear hL7 hB7
                      go_wp2_with fail
                      go_meet
                      have hT := H5.out.2.1
                      simp only [H6.out.2.2.1, if_true] at hT
                      have hS := HR.out.2.2.1
                      rw [← gcnt_fold m acts[i].items L] at hT
                      have hperm : (I6.map It.id).Perm (ids (acts[i].items.foldl (putN m) L)) := by
                        unfold ids
                        rw [live_fold, List.map_append]
                        exact H6.out.2.2.2.1.trans (hS.perm.append_right _)
                      exact ⟨acts[i].items.foldl (putN m) L, I6, _, H7.out.1, H6.out.1.below H7.out.2, (((hS.after H5.out.1 hT hS.rt.fold (gcnt_fold2 _ _ _ hS.half) hperm (Nat.le_refl _)).next H6.out.2.1).next H7.out.2).more (by have := hS.len; have := HR.out.2.2.2.1.1; rw [fold_len]; omega)⟩
              · have k2' : (acts[i].kind == 2) = false := by simpa using k2
                clear k0 k1 k2
                go_wp2_with fail
                go_meet
                exact ⟨L, I, f, HR.out.1.below (HBa.out _), HR.out.2.1.below (HBa.out _), (HR.out.2.2.1.next (HBa.out _)).more (by omega)⟩
        case rest =>
          obtain ⟨L', I', f', hL', hI', hS'⟩ := hcut
          obtain ⟨A', c', hv', _⟩ := hL'.at
          subst hv'
          obtain ⟨AI', cI', hvI', _⟩ := hI'.at
          subst hvI'
          have hLb' : L'.length ≤ 7200 := by have := hS'.len; omega
          have hsub := hS'.sub
          have hGb : gcnt L' ≤ 7200 := Nat.le_trans (gcnt_le _) hLb'
          have hIb' : I'.length ≤ 7200 := by have := hS'.ilen; omega
          obtain ⟨C0, hC0⟩ : ∃ C0 : World → Prop, C0 = fun w' => Below wc.heap.size wc w' := ⟨_, rfl⟩
          have a1 : ∀ z : CW C0, z.w.cell? ⟨w.heap.size, 0, none⟩ = some (.int .i64 m) := by
            rintro ⟨w', hw⟩
            subst hC0
            exact (cell_same (hw.block w.heap.size hS'.box.lt)).trans (hS'.box.cell 0)
          have : Nonempty (CW C0) := by subst hC0; exact ⟨⟨wc, Below.refl _ _⟩⟩
          have HC := Lib.hid (And.intro hL' (And.intro hI' (And.intro hS' hC0))); clear hL' hI' hS' hC0
          clear cb d0 d1 d2 d3 d4 d5 d6 d7
          go_wp2_with fail
          refine wp_region_sched [([true, false, false, true, false, false, false, false, false, false, false, false, false, false, false, false, false, false, false, false, false, false, false, false, false, false, false, false, false, false, false], 1), ([false, false, true, false, false, false, false, false, false, false, false, false, false, false, false, false, false, false, false, false, false, false, false, false, false, false, false, false, false, false, false], 4), ([false, false, false, false, false, true, true, true, false, true, false, false, false, false, false, false, false, false, false, false, false, false, false, false, false, false, false, false, false, false, false], 8), ([false, false, false, false, false, false, false, false, false, false, false, false, false, false, false, false, false, false, false, false, false, false, false, false, false, false, false, false, false, false, false], 10), ([false, false, false, false, false, false, false, false, false, false, false, true, true, true, true, false, true, true, true, true, true, false, false, false, false, false, false, false, false, false, false], 15), ([false, false, false, false, false, false, false, false, false, false, false, false, false, false, false, false, false, false, false, false, false, true, true, true, true, true, true, false, false, false, false], 27), ([false, false, false, false, false, false, false, false, false, false, false, false, false, false, false, false, false, false, false, false, false, false, false, false, false, false, false, false, false, false, false], 28)] [false, false, false, false, false, false, false, false, false, false, false, false, false, false, false, false, false, false, false, false, false, false, false, false, false, false, false, false, false, true, true] (fun w' => ∃ z : CW C0, w' = z.w) (by kernel_rfl) (by kernel_rfl) ?_ ?_
          · have h0 : C0 wc.drew := by rw [HC.out.2.2.2]; exact bl_drewN wc 1
            exact ⟨⟨_, h0⟩, rfl⟩
          try simp only [List.append, List.cons_append, List.nil_append]
          simp only [wpSch, pickR, pickN]
          repeat (go_big_quiet_step (fail))
          refine wpQuiet_nil ?_
          go_wp2_with fail
          refine (image_any (HC.out.2.2.1.tr.below (bl_drewN wc 1)) (by omega)).mono ?_
          rintro er w5 ⟨vb, rfl, hRb, hB5⟩
          have hB5' : Below wc.heap.size wc w5 := ⟨hB5.os, hB5.tape, hB5.output, hB5.size, hB5.block⟩
          obtain ⟨A5, c5, hvb, _⟩ := hRb.at
          subst hvb
          have hRb' := bk_lift0 w.heap.size hRb
          have hfd := fun w => fld_img A5 L'.length c5 w
          have H5 := Lib.hid (And.intro hRb' hB5'); clear hRb hRb' hB5 hB5'
          go_wp2_with fail
          apply only_mk
          refine And.intro ?_ ?_
          · have h0 : C0 w5 := by rw [HC.out.2.2.2]; exact H5.out.2
            exact ⟨⟨_, h0⟩, rfl⟩
          repeat (go_big_quiet_step (fail))
          refine wpQuiet_nil ?_
          go_wp2_with fail
          refine (rsame_any w.heap.size _ _ L' w5 H5.out.1 (HC.out.1.below H5.out.2) (by omega)).mono ?_
          rintro er w6 ⟨rfl, hB6⟩
          have hB6' := H5.out.2.trans (hB6.mono H5.out.2.size)
          have H6 := Lib.hid hB6'; clear hB6 hB6' hfd
          go_wp2_with fail
          apply only_mk
          refine And.intro ?_ ?_
          · have h0 : C0 w6 := by rw [HC.out.2.2.2]; exact H6.out
            exact ⟨⟨_, h0⟩, rfl⟩
          repeat (go_big_quiet_step (fail))
          refine wpQuiet_nil ?_
          go_wp2_with fail
          refine (depth_any (HC.out.2.2.1.tr.below H6.out) (by omega)).mono ?_
          rintro er w7 ⟨rfl, hB7⟩
          have hB7' := H6.out.trans (hB7.mono H6.out.size)
          have H7 := Lib.hid hB7'; clear hB7 hB7'
          go_wp2_with fail
          apply only_mk
          refine And.intro ?_ ?_
          · have h0 : C0 w7 := by rw [HC.out.2.2.2]; exact H7.out
            exact ⟨⟨_, h0⟩, rfl⟩
          repeat (go_big_quiet_step (fail))
          refine wpQuiet_nil ?_
          go_wp2_with fail
          refine (rdepth_any w.heap.size _ L' w7 (HC.out.1.below H7.out) HC.out.2.2.1.tr.up (by omega)).mono ?_
          rintro er w8 ⟨rfl, rfl⟩
          go_wp2_with fail
          apply only_mk
          refine And.intro ?_ ?_
          · have h0 : C0 w8 := by rw [HC.out.2.2.2]; exact H7.out
            exact ⟨⟨_, h0⟩, rfl⟩
          repeat (go_big_quiet_step (fail))
          refine wpQuiet_nil ?_
          go_wp2_with fail
          refine (gone_any (HC.out.2.2.1.tr.below H7.out)).mono ?_
          rintro er w9 ⟨rfl, rfl⟩
          go_wp2_with fail
          apply only_mk
          refine And.intro ?_ ?_
          · have h0 : C0 w9 := by rw [HC.out.2.2.2]; exact H7.out
            exact ⟨⟨_, h0⟩, rfl⟩
          repeat (go_big_quiet_step (fail))
          refine wpQuiet_nil ?_
          go_wp2_with fail
          refine (image_any (HC.out.2.2.1.tr.below H7.out) (by omega)).mono ?_
          rintro er w10 ⟨vb2, rfl, hRb, hB10⟩
          have hB10' := H7.out.trans (hB10.mono H7.out.size)
          obtain ⟨A10, c10, hvb, _⟩ := hRb.at
          subst hvb
          have hRb' := bk_lift0 w.heap.size hRb
          have H10 := Lib.hid (And.intro hRb' hB10'); clear hRb hRb' hB10 hB10'
          go_wp2_with fail
          apply only_mk
          refine And.intro ?_ ?_
          · have h0 : C0 w10 := by rw [HC.out.2.2.2]; exact H10.out.2
            exact ⟨⟨_, h0⟩, rfl⟩
          repeat (go_big_quiet_step (fail))
          refine wpQuiet_nil ?_
          go_wp2_with fail
          refine (rright_any w.heap.size m _ L' w10 H10.out.1 HC.out.2.2.1.rt HC.out.2.2.1.tr.sh (fun i k ni nk h1 h2 h3 h4 h5 => HC.out.2.2.1.tr.ti.apart h1 h2 h3 h4 h5) HC.out.2.2.1.half (by omega)).mono ?_
          rintro er w11 ⟨rfl, hB11⟩
          have hB11' := H10.out.2.trans (hB11.mono H10.out.2.size)
          have H11 := Lib.hid hB11'; clear hB11 hB11'
          go_wp2_with fail
          apply only_mk
          refine And.intro ?_ ?_
          · have h0 : C0 w11 := by rw [HC.out.2.2.2]; exact H11.out
            exact ⟨⟨_, h0⟩, rfl⟩
          repeat (go_big_quiet_step (fail))
          refine wpQuiet_nil ?_
          go_wp2_with fail
          refine ⟨⟨i + 1, L', I', f', by go_num, by omega, HC.out.1.below H11.out, HC.out.2.1.below H11.out, HC.out.2.2.1.next H11.out⟩, ?_⟩
          simp [intOf]; omega
      · obtain rfl : i = acts.length := by omega
        have HR := Lib.hid hS; clear hS hL hI
        go_wp2_with fail
        refine (lives_any wr).mono ?_
        rintro er w5 ⟨rfl, hB5⟩
        go_wp2_with fail
        go_ret
        exact ⟨rfl, HR.out.below.trans (hB5.mono HR.out.below.size)⟩
end Go.Proofs.Ytjdcemmodkdajaa
