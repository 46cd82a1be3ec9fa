/-
  vptree: root, order.
-/
import Derived.Test.YtlcpfnhindfkfaaVbulk
namespace Go.Proofs.Ytlcpfnhindfkfaa
open Go Go.RowKit Go.WW
set_option maxRecDepth 100000 in
set_option maxHeartbeats 1000000 in
theorem vroot_any {own : Nat → Prop} {w : World} {t mt : Nat} {m most calls : Int} {l : List Vn} {gone : Int} {f : Int → Option Int} (h : VT own w t mt m most calls l gone f) (hl : 0 < l.length) :
    Calls Try.prog 33 #[.pointer (some ⟨t, 0, none⟩)] w fun r w' => ∃ v, r = .returned v ∧ OwnRow intR 3 0 w.heap.size w' v [0] ∧ Below w.heap.size w w' := by
  obtain ⟨lv, mb, hrow, hO, _, _, _⟩ := h.mem
  obtain ⟨Al, cl, hlv⟩ := hO.slice
  subst hlv
  have c0 := hrow.cell
  have hlt := hrow.lt
  have z0 : ((l.length : Int) == 0) = false := beq_eq_false_iff_ne.2 (by omega)
  have z1 : decide (l.length = 0) = false := decide_eq_false (by omega)
  clear h hrow hO
  go_enter Try.func33, Try.ntmps33
  go_wp2_with fail
  go_ret
  exact ⟨_, rfl, OwnRow.one (R := intR) (cs := [.int .i64 0]) (x := 0) ⟨rfl, by decide⟩ (Nat.le_refl _), (Below.refl _ w).alloc (Nat.le_refl _) _⟩
def stepO (l : List Vn) (out : List Int) (k : Nat) : List Int :=
  match l[(out.getD k 0).toNat]? with
  | some n => if n.leaf then out else out ++ [n.kin, n.kout]
  | none => out
/-- The places behind so many steps. -/
def ordK (l : List Vn) : Nat → List Int
  | 0 => [0]
  | k + 1 => stepO l (ordK l k) k
theorem stepO_len (l : List Vn) (out : List Int) (k : Nat) : (stepO l out k).length ≤ out.length + 2 := by
  unfold stepO
  split
  · split <;> simp
  · omega
theorem ordK_len (l : List Vn) (k : Nat) : (ordK l k).length ≤ 1 + 2 * k := by
  induction k with
  | zero => exact Nat.le_refl _
  | succ k ih =>
    have := stepO_len l (ordK l k) k
    rw [ordK]
    omega
set_option maxRecDepth 100000 in
set_option maxHeartbeats 4000000 in
theorem vorder_any {own : Nat → Prop} {w : World} {t mt : Nat} {m most calls : Int} {l : List Vn} {gone : Int} {f : Int → Option Int} (h : VT own w t mt m most calls l gone f) (hl : 0 < l.length) (N : Nat) (hNl : N ≤ 1000000) (hN : (ordK l N).length = N) (hlt : ∀ k, k < N → k < (ordK l k).length) (hix : ∀ k, k < N → ∃ j : Nat, (ordK l k).getD k 0 = j ∧ j < l.length) :
    Calls Try.prog 24 #[.pointer (some ⟨t, 0, none⟩)] w fun r w' => ∃ v, r = .returned v ∧ OwnRow intR 3 0 w.heap.size w' v (ordK l N) ∧ Below w.heap.size w w' := by
  have hroot := vroot_any h hl
  have HH := Lib.hid (And.intro h (And.intro hN (And.intro hlt hix))); clear h hN hlt hix
  go_enter Try.func24, Try.ntmps24
  go_wp2_with fail
  refine hroot.mono ?_
  clear hroot
  rintro er w1 ⟨v1, rfl, hO1, hB1⟩
  have H1 := Lib.hid (And.intro hO1 hB1); clear hO1 hB1
  go_wp2_with fail
  go_loopw [3, 4, 5] (fun vo vk _ wr => ∃ k : Nat, vk = .int .i64 k ∧ k ≤ N ∧ OwnRow intR 3 0 w.heap.size wr vo (ordK l k) ∧ Below w.heap.size w wr) (fun _ vk _ _ => N - (intOf vk).toNat)
  case atStart => exact ⟨0, rfl, Nat.zero_le _, H1.out.1, H1.out.2⟩
  case round =>
    obtain ⟨k, rfl, hk, hO, hB⟩ := hrel
    by_cases hlt3 : k < N
    · have hkl := HH.out.2.2.1 k hlt3
      obtain ⟨j, hj, hjl⟩ := HH.out.2.2.2 k hlt3
      have hol := ordK_len l k
      have hT := HH.out.1.below hB
      obtain ⟨lv, mb, hrow, hOl, _, hol2, _⟩ := hT.mem
      obtain ⟨lb, cap, hlv, _, hlb, hc1, hc2, _, hat⟩ := hOl.at (by rintro rfl; simp at hjl)
      subst hlv
      obtain ⟨cs, hcs, hc⟩ := hat j hjl
      obtain ⟨vb, vv, rfl, hrb, hri, hok⟩ := vnR_iff.1 hcs
      obtain ⟨Ab, nb, cb, rfl⟩ : ∃ A n c, vb = .slice A n c := by obtain ⟨A, c, e, _⟩ := hrb; exact ⟨A, _, c, e⟩
      obtain ⟨Av, nv, cv, rfl⟩ : ∃ A n c, vv = .slice A n c := by
        obtain ⟨v', hv', _, h2⟩ := itR_iff.1 hri
        simp only [List.cons.injEq] at hv'
        obtain ⟨-, -, hv', -⟩ := hv'
        subst hv'
        obtain ⟨v', hv2, _, hr, _⟩ := obR_iff.1 h2
        simp only [List.cons.injEq, and_true, true_and] at hv2
        subst hv2
        obtain ⟨A, c, e, _⟩ := hr.at
        exact ⟨A, _, c, e⟩
      have d0 := hc 0 _ rfl
      have d1 := hc 1 _ rfl
      have d2 := hc 2 _ rfl
      have d3 := hc 3 _ rfl
      have d4 := hc 4 _ rfl
      have d5 := hc 5 _ rfl
      have d6 := hc 6 _ rfl
      have d7 := hc 7 _ rfl
      have d8 := hc 8 _ rfl
      have d9 := hc 9 _ rfl
      have d10 := hc 10 _ rfl
      have d11 := hc 11 _ rfl
      have d12 := hc 12 _ rfl
      have d13 := hc 13 _ rfl
      rw [show vnR.sz = 14 from rfl] at d0 d1 d2 d3 d4 d5 d6 d7 d8 d9 d10 d11 d12 d13
      simp only [Nat.add_zero] at d0
      have hst : ordK l (k + 1) = if l[j].leaf then ordK l k else ordK l k ++ [l[j].kin, l[j].kout] := by
        rw [ordK]
        unfold stepO
        rw [hj, Int.toNat_natCast, List.getElem?_eq_getElem hjl]
      have hlj : (j : Int) < l.length := by omega
      obtain ⟨go', capo, hvo, hgo1, hgol, _, _, _, hato⟩ := hO.at (by intro e; rw [e] at hkl; simp at hkl)
      subst hvo
      obtain ⟨cso, hcso, hco⟩ := hato k hkl
      obtain ⟨rfl, _⟩ := hcso
      have do0 := hco 0 _ rfl
      rw [show intR.sz = 1 from rfl] at do0
      simp only [Nat.mul_one, Nat.add_zero] at do0
      have hgk : (ordK l k)[k] = (j : Int) := by rw [← hj, List.getD_eq_getElem?_getD, List.getElem?_eq_getElem hkl]; rfl
      rw [hgk] at do0
      have hkl' : (k : Int) < (ordK l k).length := by omega
      have hsz : ((ordK l k).length + 2) * 8 ≤ 140737488355328 := by omega
      generalize ordK l k = O at *
      generalize hxx : l[j] = x at *
      obtain ⟨C0, hC0⟩ : ∃ C0 : World → Prop, C0 = fun w' => Below wr.heap.size wr w' := ⟨_, rfl⟩
      have a1 := hrow.cw (C0 := C0) (fun w' hw => by subst hC0; exact hw.block _ hrow.lt)
      have alb : ∀ z : CW C0, z.w.heap[lb]? = wr.heap[lb]? := fun z => by obtain ⟨w', hw⟩ := z; subst hC0; exact hw.block lb hlb
      have alo : ∀ z : CW C0, z.w.heap[go']? = wr.heap[go']? := fun z => by obtain ⟨w', hw⟩ := z; subst hC0; exact hw.block go' hgol
      have x0 : ∀ z : CW C0, z.w.cell? ⟨lb, j * 14, none⟩ = _ := fun z => (cell_same (p := ⟨lb, j * 14, none⟩) (alb z)).trans d0
      have x1 : ∀ z : CW C0, z.w.cell? ⟨lb, j * 14 + 1, none⟩ = _ := fun z => (cell_same (p := ⟨lb, j * 14 + 1, none⟩) (alb z)).trans d1
      have x2 : ∀ z : CW C0, z.w.cell? ⟨lb, j * 14 + 2, none⟩ = _ := fun z => (cell_same (p := ⟨lb, j * 14 + 2, none⟩) (alb z)).trans d2
      have x3 : ∀ z : CW C0, z.w.cell? ⟨lb, j * 14 + 3, none⟩ = _ := fun z => (cell_same (p := ⟨lb, j * 14 + 3, none⟩) (alb z)).trans d3
      have x4 : ∀ z : CW C0, z.w.cell? ⟨lb, j * 14 + 4, none⟩ = _ := fun z => (cell_same (p := ⟨lb, j * 14 + 4, none⟩) (alb z)).trans d4
      have x5 : ∀ z : CW C0, z.w.cell? ⟨lb, j * 14 + 5, none⟩ = _ := fun z => (cell_same (p := ⟨lb, j * 14 + 5, none⟩) (alb z)).trans d5
      have x6 : ∀ z : CW C0, z.w.cell? ⟨lb, j * 14 + 6, none⟩ = _ := fun z => (cell_same (p := ⟨lb, j * 14 + 6, none⟩) (alb z)).trans d6
      have x7 : ∀ z : CW C0, z.w.cell? ⟨lb, j * 14 + 7, none⟩ = _ := fun z => (cell_same (p := ⟨lb, j * 14 + 7, none⟩) (alb z)).trans d7
      have x8 : ∀ z : CW C0, z.w.cell? ⟨lb, j * 14 + 8, none⟩ = _ := fun z => (cell_same (p := ⟨lb, j * 14 + 8, none⟩) (alb z)).trans d8
      have x9 : ∀ z : CW C0, z.w.cell? ⟨lb, j * 14 + 9, none⟩ = _ := fun z => (cell_same (p := ⟨lb, j * 14 + 9, none⟩) (alb z)).trans d9
      have x10 : ∀ z : CW C0, z.w.cell? ⟨lb, j * 14 + 10, none⟩ = _ := fun z => (cell_same (p := ⟨lb, j * 14 + 10, none⟩) (alb z)).trans d10
      have x11 : ∀ z : CW C0, z.w.cell? ⟨lb, j * 14 + 11, none⟩ = _ := fun z => (cell_same (p := ⟨lb, j * 14 + 11, none⟩) (alb z)).trans d11
      have x12 : ∀ z : CW C0, z.w.cell? ⟨lb, j * 14 + 12, none⟩ = _ := fun z => (cell_same (p := ⟨lb, j * 14 + 12, none⟩) (alb z)).trans d12
      have x13 : ∀ z : CW C0, z.w.cell? ⟨lb, j * 14 + 13, none⟩ = _ := fun z => (cell_same (p := ⟨lb, j * 14 + 13, none⟩) (alb z)).trans d13
      have xo : ∀ z : CW C0, z.w.cell? ⟨go', k, none⟩ = _ := fun z => (cell_same (p := ⟨go', k, none⟩) (alo z)).trans do0
      have h0 : C0 wr.drew := by subst hC0; exact bl_drewN wr 1
      have hne : Nonempty (CW C0) := ⟨⟨_, h0⟩⟩
      have h1 : C0 (wr.alloc (.cells vn0V.toArray 55)).drew := by subst hC0; exact ((Below.refl _ wr).alloc (Nat.le_refl _) _).drew
      have hBo : ∀ o : Obj, Below wr.heap.size wr (wr.alloc o).drew := fun o => ((Below.refl _ wr).alloc (Nat.le_refl _) o).drew
      have HR := Lib.hid (And.intro hO (And.intro hB (And.intro hst (And.intro hk (And.intro hok (And.intro hsz hBo)))))); clear hO hB hst hk hok hsz hBo hT hrow hOl hol2 hat hcs hc hrb hri hato hco hgk alb alo hC0 hxx hj d0 d1 d2 d3 d4 d5 d6 d7 d8 d9 d10 d11 d12 d13 do0 hc1 hc2
      go_wp2_with fail
      refine wp_region_hoist [true, true, true, true, true, true, true, true, true, true, false, false] 1 (fun w' => ∃ z : CW C0, w' = z.w) (by kernel_rfl) (by kernel_rfl) ⟨⟨_, h0⟩, rfl⟩ ?_
      simp only [pickR, pickE, List.take, List.drop, wpLate]
      repeat (go_big_quiet_step (fail))
      refine wpQuiet_nil ?_
      go_wp2_with fail
      apply only_mk; refine And.intro ⟨⟨_, h1⟩, rfl⟩ ?_
      go_wp2_with fail
      apply only_mk
      obtain ⟨W, hW⟩ : ∃ W, W = (wr.alloc (.cells #[.bool x.leaf, .slice Ab nb cb, .int .u64 x.van.id, .int .i64 x.van.ob.tag, .slice Av nv cv, .string x.van.ob.str, .bool x.gone, .int .i64 x.par, .int .i64 x.kin, .int .i64 x.kout, .int .i64 x.il, .int .i64 x.ih, .int .i64 x.ol, .int .i64 x.oh] 55)).drew := ⟨_, rfl⟩
      have hBW : Below wr.heap.size wr W := by rw [hW]; exact HR.out.2.2.2.2.2.2 _
      have j1 : IRow 55 W wr.heap.size [.bool x.leaf, .slice Ab nb cb, .int .u64 x.van.id, .int .i64 x.van.ob.tag, .slice Av nv cv, .string x.van.ob.str, .bool x.gone, .int .i64 x.par, .int .i64 x.kin, .int .i64 x.kout, .int .i64 x.il, .int .i64 x.ih, .int .i64 x.ol, .int .i64 x.oh] := by rw [hW]; exact (IRow.new wr _ _).kept rfl
      rw [← hW]
      clear hW
      obtain ⟨hO, hB, hst, hk, hok, hsz, hBo⟩ := HR.out
      have hOW := hO.below hBW
      have hBw := hB.trans (hBW.mono hB.size)
      have cj := j1.cell
      have lj := j1.lt
      have hsW := hBw.size
      clear x0 x1 x2 x3 x4 x5 x6 x7 x8 x9 x10 x11 x12 x13 xo a1
      cases hle : x.leaf with
      | true =>
        rw [hle] at cj
        have HS := Lib.hid (And.intro hOW (And.intro hBw (And.intro hst (And.intro hk hle)))); clear hO hB hst hk hok hsz hBo hOW hBw j1 hBW HR
        clear hle
        go_wp2_with fail
        obtain ⟨hOW, hBw, hst, hk, hle⟩ := HS.out
        rw [hle, if_pos rfl] at hst
        exact ⟨⟨k + 1, by go_num, by omega, by rw [hst]; exact hOW, hBw⟩, by simp [intOf]; omega⟩
      | false =>
        rw [hle] at cj
        have hm := OwnRow.many (R := intR) (e := 3) (b := 0) (n0 := W.heap.size) (w := W) (css := [[.int .i64 x.kin], [.int .i64 x.kout]]) (xs := [x.kin, x.kout]) rfl (fun i y c hx hc => by
          match i with
          | 0 => simp at hx hc; subst hx hc; exact ⟨rfl, hok.kin⟩
          | 1 => simp at hx hc; subst hx hc; exact ⟨rfl, hok.kout⟩
          | n + 2 => simp at hx) (Nat.le_refl _) (by simp [maxLen])
        have hm2 : RdRow intR 3 0 (W.alloc (.cells #[.int .i64 x.kin, .int .i64 x.kout] 3)) (.slice (some ⟨W.heap.size, 0, none⟩) 2 2) [x.kin, x.kout] := hm.read
        have hOW2 := hOW.alloc (.cells #[.int .i64 x.kin, .int .i64 x.kout] 3)
        have hBw2 := hBw.alloc hBw.size (.cells #[.int .i64 x.kin, .int .i64 x.kout] 3)
        have HS := Lib.hid (And.intro hOW2 (And.intro hBw2 (And.intro hst (And.intro hk (And.intro hle (And.intro hm2 hsz)))))); clear hO hB hst hk hok hsz hBo hOW hBw j1 hBW HR hm hm2 hOW2 hBw2
        clear hle
        go_wp2_with (at_builtin; refine wp_cat (R := intR) rfl (.tmp 27) (.tmp 32) 26 (.int .i64 0) 8 rfl Try.underlying26 info_int rfl (by decide) (by decide) _ _ O [x.kin, x.kout] rfl rfl HS.out.2.2.2.2.2.1 HS.out.1 HS.out.2.1.size (fun h => by cases h) (Nat.zero_le _) HS.out.2.2.2.2.2.2 ?_; intro v1 w1 hO1 hG1 _ _)
        obtain ⟨hOW2, hBw2, hst, hk, hle, hm2, hsz⟩ := HS.out
        rw [hle] at hst
        simp only [Bool.false_eq_true, if_false] at hst
        exact ⟨⟨k + 1, by go_num, by omega, by rw [hst]; exact hO1, hBw2.grown hG1 hBw2.size (fun g hg => (hOW2.lt _ hg).1)⟩, by simp [intOf]; omega⟩
    · obtain rfl : k = N := by omega
      obtain ⟨Ao, co, hvo⟩ := hO.slice
      subst hvo
      have hN := HH.out.2.1
      rw [hN] at hO
      rw [hN]
      have HR := Lib.hid (And.intro hO hB); clear hO hB hN
      go_wp2_with fail
      go_ret
      exact ⟨_, rfl, HR.out.1, HR.out.2⟩
end Go.Proofs.Ytlcpfnhindfkfaa
