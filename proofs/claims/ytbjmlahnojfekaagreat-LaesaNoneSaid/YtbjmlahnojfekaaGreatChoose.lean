/-
  pivots: start, closer, farthest, Choose; draws.Pick of nil.
-/
import Derived.Test.YtbjmlahnojfekaaGreatRow
import Derived.Deep.DeepCutAuto
namespace Go.WW
open Go Go.RowKit
def bigI : Int := 1125899906842624
def farN (near : List Int) : Nat → Nat
  | 0 => 0
  | k + 1 => if near.getD k 0 > near.getD (farN near k) 0 then k else farN near k
def farI (near : List Int) : Nat := farN near near.length
theorem farN_succ (near : List Int) (k : Nat) : farN near (k + 1) = if near.getD k 0 > near.getD (farN near k) 0 then k else farN near k := rfl
theorem farN_lt (near : List Int) : ∀ k, 0 < near.length → k ≤ near.length → farN near k < near.length
  | 0, h, _ => h
  | k + 1, h, hk => by
    rw [farN_succ]
    split
    · omega
    · exact farN_lt near k h (by omega)
theorem farI_lt {near : List Int} (h : 0 < near.length) : farI near < near.length := farN_lt near _ h (Nat.le_refl _)
theorem ints_getD (xs : List Int) (j : Nat) (h : j < xs.length) : (ints xs)[j]? = some (.int .i64 (xs.getD j 0)) := by
  rw [ints_at, List.getD_eq_getElem?_getD, List.getElem?_eq_getElem h]; rfl
end Go.WW
namespace Go.Proofs.YtbjmlahnojfekaaGreat
open Go Go.RowKit Go.WW
def closeL (m : Int) (q : Ob) (all : List Ob) (near : List Int) : List Int := near.zipWith (fun n x => min n (distO m q x)) all
theorem closeL_len (m : Int) (q : Ob) (all : List Ob) (near : List Int) (h : near.length = all.length) : (closeL m q all near).length = all.length := by simp [closeL, h]
/-- Which are chosen. -/
def chooseN (m : Int) (all : List Ob) : Nat → List Int → Nat → List Int
  | 0, _, _ => []
  | k + 1, near, a => (a : Int) :: (if (closeL m (all.getD a ⟨0, [], ⟨#[]⟩⟩) all near).getD (farI (closeL m (all.getD a ⟨0, [], ⟨#[]⟩⟩) all near)) 0 = 0 then [] else chooseN m all k (closeL m (all.getD a ⟨0, [], ⟨#[]⟩⟩) all near) (farI (closeL m (all.getD a ⟨0, [], ⟨#[]⟩⟩) all near)))
set_option maxHeartbeats 1000000 in
theorem picknil_any (w : World) (n : Int) : Calls Tryz.prog 70 #[.pointer none, .int .i64 n] w fun e w' => e = .returned (.int .i64 0) ∧ w' = w := by
  go_enter Tryz.func70, Tryz.ntmps70
  go_wp2_with fail
  go_ret
  exact ⟨rfl, rfl⟩
set_option maxRecDepth 100000 in
set_option maxHeartbeats 2000000 in
theorem start_any (w : World) (n : Nat) (hn : n ≤ 1048576) : Calls Tryz.prog 105 #[.int .i64 n] w fun e w' => e = .returned (.slice (some ⟨w.heap.size, 0, none⟩) n n) ∧ IRow 3 w' w.heap.size (ints (List.replicate n bigI)) ∧ Below w.heap.size w w' := by
  have hmk := run_make_row' (P := Tryz.prog) 26 3 (.int .i64 0) 8 Tryz.underlying26 (by kernel_rfl) rfl .i64 .i64 n (by omega) (by omega)
  have hn' : (n : Int) ≤ 1048576 := by omega
  go_enter Tryz.func105, Tryz.ntmps105
  go_wp2_with fail
  go_loopw [4, 9] (fun _ j wr => ∃ k : Nat, k ≤ n ∧ j = .int .i64 k ∧ IRow 3 wr w.heap.size (ints (List.replicate k bigI ++ List.replicate (n - k) 0)) ∧ Below w.heap.size w wr) (fun _ j _ => n - (intOf j).toNat)
  case atStart => exact ⟨0, Nat.zero_le _, rfl, by have := IRow.made w (.int .i64 0) n 3; simpa [ints] using this, (Below.refl _ _).alloc (Nat.le_refl _) _⟩
  case round =>
    obtain ⟨k, hk, rfl, HR, HB⟩ := hrel
    by_cases hlt : k < n
    · have hc : wr.cell? ⟨w.heap.size, k, none⟩ = some (.int .i64 0) := by
        rw [HR.cell, ints_at, List.getElem?_append_right (by simp)]
        simp [show 0 < n - k by omega]
      have hf := HR.frozen k
      have hlt' : (k : Int) < n := by omega
      have H1 := Lib.hid HR; clear HR
      go_wp2_with fail
      refine ⟨⟨k + 1, by omega, by go_num, ?_, HB.setCell (Nat.le_refl _) _⟩, by simp [intOf]; omega⟩
      have h2 := H1.out.set k (.int .i64 bigI)
      rw [ints_set] at h2
      have h3 : (List.replicate k bigI ++ List.replicate (n - k) 0).set k bigI = List.replicate (k + 1) bigI ++ List.replicate (n - (k + 1)) 0 := by
        rw [List.set_append_right _ _ (by simp)]
        simp only [List.length_replicate, Nat.sub_self]
        rw [show n - k = (n - (k + 1)) + 1 from by omega, List.replicate_succ, List.replicate_succ' (n := k), List.append_assoc]
        rfl
      rw [h3] at h2
      exact h2
    · obtain rfl : k = n := by omega
      have H1 := Lib.hid HR; clear HR
      go_wp2_with fail
      go_ret
      refine ⟨rfl, ?_, HB⟩
      have h2 := H1.out
      simpa using h2
set_option maxRecDepth 100000 in
set_option maxHeartbeats 2000000 in
theorem far_any (w : World) (g : Nat) (near : List Int) (hI : IRow 3 w g (ints near)) (h0 : 0 < near.length) (hn : near.length ≤ 1048576) (n c : Nat) (hnn : n = near.length) : Calls Tryz.prog 107 #[.slice (some ⟨g, 0, none⟩) n c] w fun e w' => e = .returned (.int .i64 (farI near)) ∧ w' = w := by
  subst hnn
  have hcell : ∀ j, j < near.length → w.cell? ⟨g, j, none⟩ = some (.int .i64 (near.getD j 0)) := fun j hj => by rw [hI.cell, ints_getD near j hj]
  obtain ⟨N, hN⟩ : ∃ N, N = near.length := ⟨_, rfl⟩
  have hfl : ∀ k, k ≤ N → farN near k < N := fun k hk => by rw [hN] at hk ⊢; exact farN_lt near k h0 hk
  have hR : farI near = farN near N := by rw [hN]; rfl
  rw [hR]
  rw [← hN] at hcell h0 hn ⊢
  have HN := Lib.hid (And.intro hcell hfl)
  clear hN hcell hfl hR hI
  go_enter Tryz.func107, Tryz.ntmps107
  go_wp2_with fail
  go_loopw [3, 4, 5, 8] (fun va _ _ vk wr => ∃ k : Nat, vk = .int .i64 k ∧ k ≤ N ∧ va = .int .i64 (farN near k) ∧ wr = w) (fun _ _ _ vk _ => N - (intOf vk).toNat)
  case atStart => exact ⟨0, rfl, Nat.zero_le _, rfl, rfl⟩
  case round =>
    obtain ⟨k, rfl, hk, rfl, rfl⟩ := hrel
    by_cases hlt : k < N
    · have z1 : (k : Int) < N := by omega
      have d1 := HN.out.1 k hlt
      have h2 := HN.out.2 k hk
      have d2 := HN.out.1 _ h2
      have hs := Lib.hid (farN_succ near k)
      generalize farN near k = f at *
      have z2 : (f : Int) < N := by omega
      generalize near.getD k 0 = x at *
      generalize near.getD f 0 = y at *
      by_cases hc : x > y
      · go_wp2_with fail
        refine ⟨⟨k + 1, by go_num, by omega, by rw [hs.out, if_pos hc], by first | rfl | trivial⟩, by simp [intOf]; omega⟩
      · go_wp2_with fail
        refine ⟨⟨k + 1, by go_num, by omega, by rw [hs.out, if_neg hc], by first | rfl | trivial⟩, by simp [intOf]; omega⟩
    · obtain rfl : k = N := by omega
      go_wp2_with fail
      go_ret
      exact ⟨rfl, rfl⟩
theorem closeL_step (m : Int) (q : Ob) (all : List Ob) (near : List Int) (k : Nat) (h : near.length = all.length) (hk : k < all.length) (v : Int) (hv : v = min (near.getD k 0) (distO m q all[k])) :
    (closeL m q (all.take k) (near.take k) ++ near.drop k).set k v = closeL m q (all.take (k + 1)) (near.take (k + 1)) ++ near.drop (k + 1) := by
  have h1 : (closeL m q (all.take k) (near.take k)).length = k := by simp [closeL, h]; omega
  rw [List.set_append_right _ _ (by omega), h1, Nat.sub_self, List.drop_eq_getElem_cons (by omega), List.set_cons_zero]
  have h2 : closeL m q (all.take (k + 1)) (near.take (k + 1)) = closeL m q (all.take k) (near.take k) ++ [v] := by
    unfold closeL
    have h3 : k < near.length := by omega
    rw [List.take_add_one (l := near), List.take_add_one (l := all), List.getElem?_eq_getElem hk, List.getElem?_eq_getElem h3, Option.toList_some, Option.toList_some, List.zipWith_append (by simp [h])]
    simp [hv, List.getD_eq_getElem?_getD, List.getElem?_eq_getElem h3]
  rw [h2, List.append_assoc]
  rfl
theorem closeL_at (m : Int) (q : Ob) (all : List Ob) (near : List Int) (k : Nat) (h : near.length = all.length) (hk : k < all.length) :
    (closeL m q (all.take k) (near.take k) ++ near.drop k)[k]? = some (near.getD k 0) := by
  have h1 : (closeL m q (all.take k) (near.take k)).length = k := by simp [closeL, h]; omega
  rw [List.getElem?_append_right (by omega), h1, Nat.sub_self, List.drop_eq_getElem_cons (show k < near.length by omega), List.getD_eq_getElem?_getD, List.getElem?_eq_getElem (show k < near.length by omega)]
  rfl
set_option maxRecDepth 100000 in
set_option maxHeartbeats 4000000 in
theorem closer_any (b : Nat) (w : World) (mt g : Nat) (m c : Int) (hM : IRow 86 w mt [.int .i64 m, .int .i64 c]) (hbm : b ≤ mt) (all : List Ob) (va : Value) (hA : RdRow obR 30 b w va all) (hsh : ∀ x ∈ all, Short x) (near : List Int) (hI : IRow 3 w g (ints near)) (hbg : b ≤ g)
    (hl : near.length = all.length) (hn : all.length ≤ 1048576) (q : Ob) (cq : List Value) (hq : obR.rd b w cq q) (sq : Short q) (cc : Nat) :
    Calls Tryz.prog 106 #[.pointer (some ⟨mt, 0, none⟩), va, .slice (some ⟨g, 0, none⟩) all.length cc, .agg cq.toArray] w fun r w' => r = .returned (.tuple #[]) ∧ Fr (fun k => k = mt ∨ k = g) w w' ∧ IRow 3 w' g (ints (closeL m q all near)) ∧
      ∃ c' : Wfi c, IRow 86 w' mt [.int .i64 m, .int .i64 c'.1] := by
  obtain ⟨A, ca, rfl, _⟩ := hA.at
  obtain ⟨vx, rfl, hwx, rx, hsx⟩ := obR_iff.1 hq
  obtain ⟨Ax, cx, rfl, _⟩ := rx.at
  have hm0 := hM.lt
  have hg0 := hI.lt
  have hmg : mt ≠ g := blk_ne hM hI (by decide)
  have HH := Lib.hid (And.intro hA (And.intro hq (And.intro hM hI))); clear hA hq rx hM hI
  go_enter Tryz.func106, Tryz.ntmps106
  go_wp2_with fail
  go_loopw [8, 9, 12] (fun _ _ vk wr => ∃ k : Nat, vk = .int .i64 k ∧ k ≤ all.length ∧ Fr (fun k => k = mt ∨ k = g) w wr ∧ IRow 3 wr g (ints (closeL m q (all.take k) (near.take k) ++ near.drop k)) ∧ (∃ c' : Wfi c, IRow 86 wr mt [.int .i64 m, .int .i64 c'.1]) ∧
    IRow 30 wr w.heap.size [.int .i64 q.tag, .slice Ax q.vec.length cx, .string q.str]) (fun _ _ vk _ => all.length - (intOf vk).toNat)
  case atStart =>
    refine ⟨0, rfl, Nat.zero_le _, (Fr.refl _ w).alloc _, ?_, ⟨Wfi.refl c, HH.out.2.2.1.alloc _⟩, IRow.new w _ _⟩
    simpa [closeL] using HH.out.2.2.2.alloc _
  case round =>
    obtain ⟨k, rfl, hk, hF, hI, ⟨c', hM⟩, hX⟩ := hrel
    by_cases hlt' : k < all.length
    · have hz : (k : Int) < all.length := by omega
      have hns : ∀ ts, 3 ∉ ts → 86 ∉ ts → ∀ x, x = mt ∨ x = g → ¬ Sta ts b w x := by
        rintro ts h1 h2 x (rfl | rfl)
        · exact not_sta HH.out.2.2.1 hbm h2
        · exact not_sta HH.out.2.2.2 hbg h1
      have hAr := HH.out.1.keep (hF.kp (hns _ (by decide) (by decide)))
      obtain ⟨A', c2, hv', _, _, _, hat⟩ := hAr.at
      injection hv' with e1 _ e3
      subst e1 e3
      obtain ⟨lb, lo, cs, hA2, hlb, hr, hcell⟩ := hat k hlt'
      subst hA2
      obtain ⟨vp, rfl, hwp, rp, hsp⟩ := obR_iff.1 hr
      obtain ⟨Ay, cy, hvp, _⟩ := rp.at
      subst hvp
      have d0 := hcell 0 _ rfl
      have d1 := hcell 1 _ rfl
      have d2 := hcell 2 _ rfl
      rw [show obR.sz = 3 from rfl] at d0 d1 d2
      simp only [Nat.add_zero] at d0
      have hc3 := hX.cell
      have sp := hsh _ (List.getElem_mem hlt')
      have hqr := obR.keep _ _ _ _ _ (hF.kp (hns obR.ts (by decide) (by decide))) HH.out.2.1
      obtain ⟨W1, hW1⟩ : ∃ W1, W1 = wr.alloc (.cells #[.int .i64 all[k].tag, .slice Ay all[k].vec.length cy, .string all[k].str] 30) := ⟨_, rfl⟩
      have hbW : Below wr.heap.size wr W1 := by rw [hW1]; exact (Below.refl _ wr).alloc (Nat.le_refl _) _
      have i1 : IRow 30 W1 wr.heap.size [.int .i64 all[k].tag, .slice Ay all[k].vec.length cy, .string all[k].str] := by rw [hW1]; exact IRow.new wr _ _
      have i2 := hI.kept (hbW.block _ hI.lt)
      have i3 := hX.kept (hbW.block _ hX.lt)
      have i4 := hM.kept (hbW.block _ hM.lt)
      have hFW := hF.below hbW hF.size
      have hgk : (ints (closeL m q (all.take k) (near.take k) ++ near.drop k))[k]? = some (.int .i64 (near.getD k 0)) := by rw [ints_at, closeL_at m q all near k hl hlt']; rfl
      obtain ⟨C0, hC0⟩ : ∃ C0 : World → Prop, C0 = fun w' => Fr (fun x => x = mt) W1 w' := ⟨_, rfl⟩
      have a1 : ∀ z : CW C0, z.w.cell? ⟨g, k, none⟩ = some (.int .i64 (near.getD k 0)) := fun z => (i2.cw (C0 := C0) (fun w' hw => by subst hC0; exact hw.block g i2.lt (Ne.symm hmg)) z k).trans hgk
      have a2 := i3.cw (C0 := C0) (fun w' hw => by subst hC0; exact hw.block w.heap.size i3.lt (fun e => by omega))
      have a3 := i1.cw (C0 := C0) (fun w' hw => by subst hC0; exact hw.block wr.heap.size i1.lt (fun e => by have := hM.lt; omega))
      have hne : Nonempty (CW C0) := by subst hC0; exact ⟨⟨W1, Fr.refl _ _⟩⟩
      have hst := closeL_step m q all near k hl hlt'
      obtain ⟨nk, hnk⟩ : ∃ nk, near.getD k 0 = nk := ⟨_, rfl⟩
      rw [hnk] at a1 hgk hst
      clear hnk
      have h1 : obR.rd b W1 _ q := obR_below hqr hbW
      have h2 : obR.rd b W1 _ all[k] := obR_below hr hbW
      have hdw := bd_wf (distO_bd (m := m) h1 h2 sq sp)
      have HR := Lib.hid (And.intro hW1 (And.intro i2 (And.intro i3 (And.intro i4 (And.intro hFW (And.intro hC0 (And.intro hst (And.intro h1 (And.intro h2 hdw)))))))))
      clear i1 i2 i3 i4 hFW hC0 hst h1 h2 hdw hX hI hM hr rp hAr hat hcell hqr hns hgk
      go_wp2_with fail
      rw [← hW1]
      clear hW1
      refine wp_region_hoist [true, true, true, true, true, true, true, true, true, false, false, false, false] 2 (fun w' => ∃ z : CW C0, w' = z.w) (by kernel_rfl) (by kernel_rfl) ?_ ?_
      · have h0 : C0 W1.drew := by rw [HR.out.2.2.2.2.2.1]; exact (Fr.refl _ W1).drew
        exact ⟨⟨_, h0⟩, rfl⟩
      simp only [pickR, pickE, List.take, List.drop, wpLate]
      repeat (go_big_quiet_step (fail))
      refine wpQuiet_nil ?_
      go_wp2_with fail
      refine (meterE_any b mt m _ q all[k] _ _ W1.drew hbm (HR.out.2.2.2.1.kept rfl) (obR_below HR.out.2.2.2.2.2.2.2.1 (bl_drewN W1 1)) (obR_below HR.out.2.2.2.2.2.2.2.2.1 (bl_drewN W1 1)) sq sp).mono ?_
      rintro er w2 ⟨rfl, hG, hM2⟩
      have hF1 : Fr (fun x => x = mt) W1 w2 := (Fr.refl _ W1).drew.grown hG (fun x hx => by cases hx; exact .inl rfl)
      have hC2 : C0 w2 := by rw [HR.out.2.2.2.2.2.1]; exact hF1
      obtain ⟨v, hv⟩ : ∃ v, v = min (nk) (distO m q all[k]) := ⟨_, rfl⟩
      have hmin : (if distO m q all[k] < nk then distO m q all[k] else nk) = v := by rw [hv]; split <;> omega
      have hI2 := HR.out.2.1.kept (hF1.block g HR.out.2.1.lt (Ne.symm hmg))
      have hX2 := HR.out.2.2.1.kept (hF1.block w.heap.size HR.out.2.2.1.lt (fun e => by omega))
      have hI3 := hI2.set k (.int .i64 v)
      rw [ints_set, HR.out.2.2.2.2.2.2.1 v hv] at hI3
      have hdw := HR.out.2.2.2.2.2.2.2.2.2
      have hFw2 : Fr (fun x => x = mt ∨ x = g) w w2 := HR.out.2.2.2.2.1.trans hF1 (fun x hx => .inl (.inl hx))
      have e1 : w2.cell? ⟨g, k, none⟩ = some (.int .i64 (nk)) := a1 ⟨w2, hC2⟩
      have f1 := hI2.frozen k
      generalize distO m q all[k] = d at *
      have HS := Lib.hid (And.intro hM2 (And.intro hF1 (And.intro hI2 (And.intro hX2 (And.intro hdw (And.intro hI3 hFw2))))))
      clear hM2 hF1 hI2 hX2 hdw hI3 hFw2 hG hv
      go_wp2_with fail
      refine And.intro ⟨⟨_, hC2⟩, rfl⟩ ?_
      go_wp2_with fail
      apply only_mk; refine And.intro ⟨⟨_, hC2⟩, rfl⟩ ?_
      go_wp2_with fail
      apply only_mk
      go_wp2_with fail
      obtain ⟨hM2, hF1, hI2, hX2, hdw, hI3, hFw2⟩ := HS.out
      exact ⟨⟨k + 1, by go_num, by omega, hFw2.setCell _ (.inl (.inr rfl)), hI3, ⟨Wfi.wrap c (c'.1 + 1), hM2.kept (Below.heap_setCell w2 ⟨g, k, none⟩ _ mt hmg)⟩, hX2.kept (Below.heap_setCell w2 ⟨g, k, none⟩ _ w.heap.size (by show w.heap.size ≠ g; omega))⟩, by simp [intOf]; omega⟩
    · obtain rfl : k = all.length := by omega
      go_wp2_with fail
      refine bodyPost_end (results_none rfl _ _ _) rfl ?_
      refine ⟨rfl, hF, ?_, c', hM⟩
      rw [List.take_length, ← hl, List.take_length, List.drop_length, List.append_nil] at hI
      exact hI
theorem chooseN_succ (m : Int) (all : List Ob) (k : Nat) (near : List Int) (a : Nat) (n2 : List Int) (h : n2 = closeL m (all.getD a ⟨0, [], ⟨#[]⟩⟩) all near) : chooseN m all (k + 1) near a = (a : Int) :: (if n2.getD (farI n2) 0 = 0 then [] else chooseN m all k n2 (farI n2)) := by subst h; rfl
set_option maxRecDepth 100000 in
set_option maxHeartbeats 4000000 in
theorem choose_any (b : Nat) (w : World) (mt : Nat) (m c most : Int) (hM : IRow 86 w mt [.int .i64 m, .int .i64 c]) (hbm : b ≤ mt) (all : List Ob) (va : Value) (hA : RdRow obR 30 b w va all) (hsh : ∀ x ∈ all, Short x) (s : Nat) (hs : s < all.length)
    (hn : all.length ≤ 1048576) (hm1 : 1 ≤ most) (hm2 : most ≤ 1048576) :
    Calls Tryz.prog 69 #[.pointer (some ⟨mt, 0, none⟩), va, .int .i64 most, .int .i64 s] w fun r w' => ∃ v, r = .returned v ∧ OwnRow intR 3 0 w.heap.size w' v (chooseN m all most.toNat (List.replicate all.length bigI) s) ∧ Fr (fun k => k = mt) w w' ∧
      ∃ c' : Wfi c, IRow 86 w' mt [.int .i64 m, .int .i64 c'.1] := by
  obtain ⟨A, ca, rfl, _⟩ := hA.at
  have hm0 := hM.lt
  have hbw : b ≤ w.heap.size := by omega
  have HH := Lib.hid (And.intro hA hM); clear hA hM
  have z0 : (0 : Int) < all.length := by omega
  have z1 : (s : Int) < all.length := by omega
  have z5 : ((all.length : Int) == 0) = false := beq_eq_false_iff_ne.2 (by omega)
  have z6 : decide (most < 1) = false := decide_eq_false (by omega)
  have z2 : (all.length : Int) ≤ 1048576 := by omega
  have z3 : (if (all.length : Int) - 1 < s then (all.length : Int) - 1 else (s : Int)) = s := by rw [if_neg (by omega)]
  have z4 : (if (0 : Int) < s then (s : Int) else 0) = s := by split <;> omega
  have z4' : (if 0 < s then (s : Int) else 0) = s := by split <;> omega
  go_enter Tryz.func69, Tryz.ntmps69
  go_wp2_with fail
  refine (start_any w all.length hn).mono ?_
  rintro er w1 ⟨rfl, hI1, hb1⟩
  have H1 := Lib.hid (And.intro hI1 hb1); clear hI1 hb1
  go_wp2_with fail
  go_loopw [10, 11] (fun va vo wr => ∃ (near : List Int) (a : Nat) (out : List Int), va = .int .i64 a ∧ a < all.length ∧ near.length = all.length ∧ IRow 3 wr w.heap.size (ints near) ∧
    (out.length : Int) ≤ most ∧ OwnRow intR 3 0 (w.heap.size + 1) wr vo out ∧ out ++ chooseN m all (most.toNat - out.length) near a = chooseN m all most.toNat (List.replicate all.length bigI) s ∧ Fr (fun k => k = mt) w wr ∧
    ∃ c' : Wfi c, IRow 86 wr mt [.int .i64 m, .int .i64 c'.1]) (fun _ vo _ => most.toNat - slen vo)
  case atStart =>
    exact ⟨_, s, [], rfl, hs, by simp, H1.out.1, by simp; omega, OwnRow.nil .., rfl, Fr.of_below H1.out.2, Wfi.refl c, HH.out.2.kept (H1.out.2.block _ hm0)⟩
  case round =>
    obtain ⟨near, a, out, rfl, ha, hnl, hI, hol, hO, hch, hF, c', hM⟩ := hrel
    obtain ⟨Ao, co, hvo⟩ := hO.slice
    subst hvo
    by_cases hlt : (out.length : Int) < most
    · have ho : most.toNat - out.length = (most.toNat - (out.length + 1)) + 1 := by omega
      rw [ho] at hch
      obtain ⟨q, hq⟩ : ∃ q, q = all.getD a ⟨0, [], ⟨#[]⟩⟩ := ⟨_, rfl⟩
      have hqe : all[a] = q := by rw [hq, List.getD_eq_getElem?_getD, List.getElem?_eq_getElem ha]; rfl
      obtain ⟨n2, hn2⟩ : ∃ n2, n2 = closeL m q all near := ⟨_, rfl⟩
      have hch2 := chooseN_succ m all (most.toNat - (out.length + 1)) near a n2 (by rw [hn2, hq])
      rw [hch2] at hch
      have hn2l : n2.length = all.length := by rw [hn2]; exact closeL_len m q all near hnl
      have hfl : farI n2 < all.length := by rw [← hn2l]; exact farI_lt (by omega)
      have hsq : Short q := by rw [← hqe]; exact hsh _ (List.getElem_mem ..)
      have hg1 := hI.lt
      have hl8 : (out.length + 1) * 8 ≤ 140737488355328 := by omega
      have haw := len_wf (n := a) (by omega)
      have za : (a : Int) < all.length := by omega
      have HR := Lib.hid (And.intro hI (And.intro hO (And.intro hch (And.intro hF (And.intro hM (And.intro hn2 (And.intro hl8 haw)))))))
      clear hI hO hch hF hM hch2 hn2 hl8 haw hq
      go_wp2_with (
        at_builtin
        refine wp_push (R := intR) (W := wr) rfl (.tmp 32) (.tmp 34) 26 (.int .i64 0) 8 rfl Tryz.underlying26 info_int rfl (by decide) (by decide) (.slice Ao out.length co) out (a : Int) #[.int .i64 (a : Int)] (0, 0) rfl rfl ⟨rfl, HR.out.2.2.2.2.2.2.2⟩ HR.out.2.1 hg1 (fun h => by cases h) (Nat.zero_le _) HR.out.2.2.2.2.2.2.1 ?_
        intro v2 w2 hO2 hG2 _ _
        obtain ⟨hI, hO, hch, hF, hM, hn2, hl8, haw⟩ := HR.out
        have hI2 := hI.kept (hG2.block _ hI.lt (fun e => by have := (hO.lt _ e.symm).1; omega))
        have hM2 := hM.kept (hG2.block _ hM.lt (fun e => by have := (hO.lt _ e.symm).1; omega))
        have hF2 : Fr (fun k => k = mt) w w2 := hF.grown hG2 (fun k hk => .inr (by have := (hO.lt _ hk).1; omega))
        have hA2 := HH.out.1.keep (hF2.kp (fun k hk => by subst hk; exact not_sta HH.out.2 hbm (by decide)))
        obtain ⟨A', c2, hv', _, _, _, hat⟩ := hA2.at
        injection hv' with e1 _ e3
        subst e1 e3
        obtain ⟨lb, lo, cs, hAA, hlb, hr, hcell⟩ := hat a ha
        subst hAA
        obtain ⟨vp, rfl, hwp, rp, hsp⟩ := obR_iff.1 hr
        obtain ⟨Ay, cy, hvp, _⟩ := rp.at
        subst hvp
        have d0 := hcell 0 _ rfl
        have d1 := hcell 1 _ rfl
        have d2 := hcell 2 _ rfl
        rw [show obR.sz = 3 from rfl] at d0 d1 d2
        simp only [Nat.add_zero] at d0
        rw [hqe] at hr d0 d1 d2
        obtain ⟨out2, hout2⟩ : ∃ o2, o2 = out ++ [(a : Int)] := ⟨_, rfl⟩
        rw [← hout2] at hO2
        obtain ⟨A3, c3, hv3⟩ := hO2.slice
        subst hv3
        have hol2 : out2.length = out.length + 1 := by rw [hout2]; simp
        have hch3 : out2 ++ (if n2.getD (farI n2) 0 = 0 then [] else chooseN m all (most.toNat - (out.length + 1)) n2 (farI n2)) = chooseN m all most.toNat (List.replicate all.length bigI) s := by rw [hout2, List.append_assoc]; exact hch
        have hs2 : w.heap.size + 1 ≤ w2.heap.size := by have := hI2.lt; omega
        have HS := Lib.hid (And.intro hI2 (And.intro hM2 (And.intro hF2 (And.intro hA2 (And.intro hr (And.intro hO2 (And.intro hch3 hn2)))))))
        clear hI hO hch hF hM hn2 hl8 haw hI2 hM2 hF2 hA2 hat hr hcell rp hO2 hG2 hch3 hout2)
      refine (closer_any b w2 mt w.heap.size m c'.1 HS.out.2.1 hbm all _ HS.out.2.2.2.1 hsh near HS.out.1 hbw hnl hn q _ HS.out.2.2.2.2.1 hsq _).mono ?_
      rintro er w3 ⟨rfl, hF3, hI3, c3', hM3⟩
      rw [← HS.out.2.2.2.2.2.2.2] at hI3
      have hO3 : OwnRow intR 3 0 (w.heap.size + 1) w3 (.slice A3 (out.length + 1) c3) out2 := by
        have := HS.out.2.2.2.2.2.1
        rw [hol2] at this
        exact this.keep (hF3.kp (fun k hk => by rintro (h | ⟨c, e, f, _, h⟩) <;> first | omega | simp [Rd.int] at h)) (fun k hk => hF3.block k (this.lt k hk).2 (by
          have := (this.lt k hk).1
          rintro (e | e) <;> omega))
      have hFw3 : Fr (fun k => k = mt) w w3 := HS.out.2.2.1.trans hF3 (fun k hk => by rcases hk with h | h; exact .inl h; exact .inr (by omega))
      have hcell : w3.cell? ⟨w.heap.size, farI n2, none⟩ = some (.int .i64 (n2.getD (farI n2) 0)) := by rw [hI3.cell, ints_getD _ _ (by omega)]
      have hch3 := HS.out.2.2.2.2.2.2.1
      have HT := Lib.hid (And.intro hI3 (And.intro hM3 (And.intro hO3 (And.intro hFw3 hch3))))
      clear hI3 hM3 hO3 hFw3 hF3 hch3 d0 d1 d2
      go_wp2_with fail
      refine (far_any w3 w.heap.size n2 HT.out.1 (by omega) (by omega) all.length _ hn2l.symm).mono ?_
      rintro er w4 ⟨rfl, rfl⟩
      have zf : (farI n2 : Int) < all.length := by omega
      generalize hfi : farI n2 = fi at *
      generalize n2.getD fi 0 = x at *
      have HU := Lib.hid hfi; clear hfi
      by_cases hx : x = 0
      · subst hx
        go_wp2_with fail
        go_ret
        obtain ⟨hI3, hM3, hO3, hFw3, hch3⟩ := HT.out
        simp only [if_true, List.append_nil] at hch3
        exact ⟨_, rfl, by rw [← hch3]; exact OwnRow.base hO3 (by omega), hFw3, c'.trans c3', hM3⟩
      · have hx' : (x == 0) = false := beq_eq_false_iff_ne.2 hx
        go_wp2_with fail
        obtain ⟨hI3, hM3, hO3, hFw3, hch3⟩ := HT.out
        rw [if_neg hx] at hch3
        exact ⟨⟨n2, fi, out2, rfl, by omega, hn2l, hI3, by omega, hO3, by rw [hol2]; exact hch3, hFw3, c'.trans c3', hM3⟩, by simp [slen]; omega⟩
    · have ho : most.toNat - out.length = 0 := by omega
      rw [ho] at hch
      have HZ := Lib.hid (And.intro hch (And.intro hO hF)); clear hch hO hF hI
      go_wp2_with fail
      go_ret
      refine ⟨_, rfl, ?_, HZ.out.2.2, c', hM⟩
      have := HZ.out.1
      simp only [chooseN, List.append_nil] at this
      rw [← this]
      exact OwnRow.base HZ.out.2.1 (by omega)
end Go.Proofs.YtbjmlahnojfekaaGreat
