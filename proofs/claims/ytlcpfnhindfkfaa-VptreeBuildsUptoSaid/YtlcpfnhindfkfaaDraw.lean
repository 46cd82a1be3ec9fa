/-
  draws: Mod, Pick, New.
-/
import Derived.Test.YtlcpfnhindfkfaaFr2
import Derived.WalkMore
namespace Go.WW
/-- A number but for a multiple. -/
def modI (x n : Int) : Int := if n < 1 then 0 else x % n
/-- The next number below n. -/
def pickI (src : List Int) (used : Nat) (n : Int) : Int := modI (if src = [] then 0 else src.getD (used % src.length) 0) n
theorem modI_bd {x n : Int} (h : 1 ≤ n) : 0 ≤ modI x n ∧ modI x n < n := by
  unfold modI
  rw [if_neg (by omega)]
  exact ⟨Int.emod_nonneg _ (by omega), Int.emod_lt_of_pos _ (by omega)⟩
theorem tmod_mod (x n : Int) (h : 1 ≤ n) : (if x.tmod n < 0 then x.tmod n + n else x.tmod n) = x % n := by
  have h1 := Int.tmod_eq_emod (a := x) (b := n)
  have h2 := Int.emod_nonneg x (show n ≠ 0 by omega)
  have h3 := Int.emod_lt_of_pos x (show 0 < n by omega)
  have h4 : (n.natAbs : Int) = n := by omega
  rw [h1]
  split
  · rename_i hc
    rw [if_neg (by omega)]
    omega
  · rename_i hc
    rw [if_pos (by omega)]
    omega
end Go.WW
namespace Go.Proofs.Ytlcpfnhindfkfaa
open Go Go.RowKit Go.WW
set_option maxRecDepth 100000 in
set_option maxHeartbeats 1000000 in
theorem cloneI_any (b : Nat) (v : Value) (l : List Int) (w : World) (rv : RdRow intR 3 b w v l) (hl : l.length ≤ 1048576) :
    Calls Try.prog 23 #[v] w fun e w' => ∃ v', e = .returned v' ∧ OwnRow intR 3 0 w.heap.size w' v' l ∧ Below w.heap.size w w' := by
  have rv0 := rv.lift (Nat.le_refl _)
  obtain ⟨A, c, rfl, h1, h2, hA, h3⟩ := rv
  cases A with
  | none =>
    have hl0 : l = [] := by
      cases l with
      | nil => rfl
      | cons x r => obtain ⟨g, o, h, _⟩ := h3 (by simp); cases h
    subst hl0
    have hc := hA rfl
    subst hc
    clear h3
    have hq := fun w : World => Go.Lib.run_eql_slice_nil (P := Try.prog) w 26 3 none 0 0 0 0 Try.underlying26
    go_enter Try.func23, Try.ntmps23
    go_wp2
    go_ret
    exact ⟨_, rfl, OwnRow.nil .., Below.refl _ _⟩
  | some ad =>
    clear h3 hA
    have hq := fun w : World => Go.Lib.run_eql_slice_nil (P := Try.prog) w 26 3 (some ad) l.length c 0 0 Try.underlying26
    have hl8 : (([] : List Int).length + l.length) * 8 ≤ 140737488355328 := by simp; omega
    have rv1 := rv0.below ((Below.refl w.heap.size w).alloc (Nat.le_refl _) (.cells #[] 3))
    have hO := OwnRow.fresh intR 3 w.heap.size w
    have HH := Lib.hid (And.intro rv1 hO)
    clear rv0 rv1 hO
    go_enter Try.func23, Try.ntmps23
    go_wp2_with (at_builtin; refine wp_cat (R := intR) rfl (.tmp 5) (.tmp 6) 26 (.int .i64 0) 8 rfl Try.underlying26 info_int rfl (by decide) (by decide) _ _ [] l rfl rfl HH.out.1 HH.out.2 (by simp) (fun h => by cases h) (Nat.le_refl _) hl8 ?_; intro v1 w1 hO1 hG1 _ _)
    go_ret
    exact ⟨_, rfl, hO1, ((Below.refl _ w).alloc (Nat.le_refl _) _).grown hG1 (by simp) (fun k hk => by cases hk; exact Nat.le_refl _)⟩
set_option maxHeartbeats 2000000 in
theorem mod_any (w : World) (x n : Int) (hn : 1 ≤ n ∧ n ≤ 9007199254740992) : Calls Try.prog 42 #[.int .i64 x, .int .i64 n] w fun e w' => e = .returned (.int .i64 (modI x n)) ∧ w' = w := by
  have hm : modI x n = x % n := by unfold modI; rw [if_neg (by omega)]
  rw [hm]
  have ht := tmod_mod x n hn.1
  have h2 := Int.emod_nonneg x (show n ≠ 0 by omega)
  have h3 := Int.emod_lt_of_pos x (show 0 < n by omega)
  obtain ⟨hn1, hn2⟩ := hn
  have z0 : decide (n < 1) = false := decide_eq_false (by omega)
  have z1 : (n == 0) = false := beq_eq_false_iff_ne.2 (by omega)
  have z2 : (n = 0) = False := by simp; omega
  generalize x % n = r at *
  generalize hq : x.tmod n = q at *
  clear hm
  go_enter Try.func42, Try.ntmps42
  go_wp2_with fail
  · go_ret
    exact ⟨ret_i (by rw [← ht, if_pos (by assumption)]), rfl⟩
  · go_ret
    exact ⟨ret_i (by rw [← ht, if_neg (by omega)]), rfl⟩
/-- A source in memory: its numbers, how many were used. -/
structure SrcM (w : World) (s : Nat) (src : List Int) (used : Nat) : Prop where
  row : ∃ v, IRow 76 w s [v, .int .i64 used] ∧ RdRow intR 3 0 w v src
theorem SrcM.lt {w : World} {s : Nat} {src : List Int} {used : Nat} (h : SrcM w s src used) : s < w.heap.size := by obtain ⟨v, h1, _⟩ := h.row; exact h1.lt
theorem SrcM.keep {w w' : World} {s : Nat} {src : List Int} {used : Nat} (h : SrcM w s src used) (hk : Kp [3] 0 w w') (hs : w'.heap[s]? = w.heap[s]?) : SrcM w' s src used := by
  obtain ⟨v, h1, h2⟩ := h.row
  exact ⟨v, h1.kept hs, h2.keep hk⟩
theorem SrcM.below {w w' : World} {s : Nat} {src : List Int} {used : Nat} (h : SrcM w s src used) (hb : Below w.heap.size w w') : SrcM w' s src used := h.keep (TK.of_below hb).kp (hb.block _ h.lt)
set_option maxRecDepth 100000 in
set_option maxHeartbeats 2000000 in
theorem pick_any (w : World) (s : Nat) (src : List Int) (used : Nat) (n : Int) (h : SrcM w s src used) (hn : 1 ≤ n ∧ n ≤ 9007199254740992) (hu : used ≤ 1048576) (hl : src.length ≤ 1048576) :
    Calls Try.prog 35 #[.pointer (some ⟨s, 0, none⟩), .int .i64 n] w fun e w' => e = .returned (.int .i64 (pickI src used n)) ∧ Fr (fun g => g = s) w w' ∧ SrcM w' s src (used + 1) := by
  obtain ⟨v, hrow, hR⟩ := h.row
  obtain ⟨A, c, rfl, hlc, hcm, hA, hat⟩ := hR.at
  have cr := hrow.cell
  have fr := hrow.frozen
  have hlt := hrow.lt
  have z0 : decide (n < 1) = false := decide_eq_false (by omega)
  have hF : Fr (fun g => g = s) w (w.setCell ⟨s, 1, none⟩ (.int .i64 ((used : Int) + 1))) := (Fr.refl _ w).setCell _ (.inl rfl)
  have hS : SrcM (w.setCell ⟨s, 1, none⟩ (.int .i64 ((used : Int) + 1))) s src (used + 1) := by
    refine ⟨_, ?_, hR.keep (hF.kp (fun g hg => by subst hg; exact not_sta hrow (Nat.zero_le _) (by decide)))⟩
    have := hrow.set 1 (.int .i64 ((used : Int) + 1))
    exact this
  have HF := Lib.hid (And.intro hF hS); clear hF hS
  by_cases he : src = []
  · subst he
    have hp : pickI [] used n = modI 0 n := rfl
    rw [hp]
    have hm := fun w => mod_any w 0 n hn
    generalize modI 0 n = V at hm ⊢
    clear hat hA hR
    have HM := Lib.hid hm; clear hm
    go_enter Try.func35, Try.ntmps35
    go_wp2_with fail
    refine (HM.out _).mono ?_
    rintro er w1 ⟨rfl, rfl⟩
    go_wp2_with fail
    go_ret
    exact ⟨rfl, HF.out.1, HF.out.2⟩
  · have hpos : 0 < src.length := List.length_pos_iff.2 he
    have hmod : used % src.length < src.length := Nat.mod_lt _ hpos
    obtain ⟨g, o, cs, rfl, hg, hr, hc⟩ := hat (used % src.length) hmod
    obtain ⟨rfl, _⟩ := hr
    have d0 := hc 0 _ rfl
    rw [show intR.sz = 1 from rfl] at d0
    simp only [Nat.mul_one, Nat.add_zero] at d0
    have hp : pickI src used n = modI (src[used % src.length]) n := by
      unfold pickI
      rw [if_neg he, List.getD_eq_getElem?_getD, List.getElem?_eq_getElem hmod]
      rfl
    rw [hp]
    have hm := fun w => mod_any w (src[used % src.length]) n hn
    generalize modI (src[used % src.length]) n = V at hm ⊢
    generalize src[used % src.length] = x at *
    have z1 : decide ((0 : Int) < src.length) = true := decide_eq_true (by omega)
    have z3 : (src.length = 0) = False := by simp; omega
    have HM := Lib.hid hm; clear hm hat hA hR hc
    go_enter Try.func35, Try.ntmps35
    go_wp2_with fail
    refine wp_region_hoist [true, true, true, true, true, true, true, true, true, true, true, true, true, true, true, true, true] 0 (fun w' => ∃ n, w' = World.drewN w n) (by kernel_rfl) (by kernel_rfl) ⟨1, rfl⟩ ?_
    simp only [pickR, pickE, List.take, List.drop, wpLate]
    repeat (go_big_quiet_step (fail))
    refine wpQuiet_nil ?_
    go_wp2_with fail
    apply only_mk
    go_wp2_with fail
    refine (HM.out _).mono ?_
    rintro er w1 ⟨rfl, rfl⟩
    go_wp2_with fail
    go_ret
    refine ⟨rfl, HF.out.1.drew, HF.out.2.keep (Kp.heap rfl) rfl⟩
set_option maxHeartbeats 1000000 in
theorem dnew_any (b : Nat) (v : Value) (src : List Int) (w : World) (rv : RdRow intR 3 b w v src) (hl : src.length ≤ 1048576) :
    Calls Try.prog 10 #[v] w fun e w' => ∃ s, e = .returned (.pointer (some ⟨s, 0, none⟩)) ∧ w.heap.size ≤ s ∧ SrcM w' s src 0 ∧ Below w.heap.size w w' := by
  go_enter Try.func10, Try.ntmps10
  go_wp2_with fail
  refine (cloneI_any b v src w rv hl).mono ?_
  rintro er w1 ⟨v1, rfl, hO, hB⟩
  obtain ⟨A, c, hv⟩ := hO.slice
  subst hv
  have HH := Lib.hid (And.intro hO hB); clear hO hB
  go_wp2_with fail
  go_ret
  have hb := (Below.refl w1.heap.size w1).alloc (Nat.le_refl _) (.cells #[.slice A src.length c, .int .i64 0] 76)
  exact ⟨_, rfl, HH.out.2.size, ⟨_, IRow.new w1 _ _, HH.out.1.read.below hb⟩, HH.out.2.trans (hb.mono HH.out.2.size)⟩
end Go.Proofs.Ytlcpfnhindfkfaa
