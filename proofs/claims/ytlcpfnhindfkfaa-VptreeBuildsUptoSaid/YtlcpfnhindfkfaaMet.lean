/-
  How far things are apart: what lone, ham, lev, metric compute.
-/
import Derived.Test.YtlcpfnhindfkfaaBase
import Derived.Test.YtlcpfnhindfkfaaHoist
import Derived.Test.YtlcpfnhindfkfaaRows
import Derived.Test.YtlcpfnhindfkfaaMetP
import Derived.Test.YtlcpfnhindfkfaaLev2
namespace Go.Proofs.Ytlcpfnhindfkfaa
open Go Go.RowKit Go.WW
theorem ret_i {k : IntKind} {a b : Int} (h : a = b) : Ending.returned (.int k a) = .returned (.int k b) := by rw [h]
set_option maxHeartbeats 400000 in
theorem apart_any (x y : Int) (w : World) (hx : I32 x) (hy : I32 y) : Calls Try.prog 62 #[.int .i32 x, .int .i32 y] w fun e w' => e = .returned (.int .i64 ((x - y).natAbs : Int)) ∧ w' = w := by
  obtain ⟨hx1, hx2⟩ := hx
  obtain ⟨hy1, hy2⟩ := hy
  go_enter Try.func62, Try.ntmps62
  go_wp2
  all_goals
    go_ret
    exact ⟨ret_i (by omega), rfl⟩
abbrev intR : Rd Int := Rd.int .i64
theorem info_int : (Try.prog.info? 3).map (fun i => (i.zero, i.size, i.bytes)) = some (some (.int .i64 0), 1, 8) := by kernel_rfl
abbrev i32R : Rd Int := Rd.int .i32
set_option maxHeartbeats 400000 in
theorem at_any (b : Nat) (v : Value) (l : List Int) (i : Nat) (w : World) (hv : RdRow i32R 21 b w v l) (_hi : i ≤ 1152921504606846976) : Calls Try.prog 63 #[v, .int .i64 i] w fun e w' => e = .returned (.int .i32 (vat l i)) ∧ w' = w := by
  obtain ⟨A, c, rfl, h1, h2, _, h3⟩ := hv.at
  unfold maxLen at h2
  by_cases h : i < l.length
  · obtain ⟨g, o, cs, rfl, hg, ⟨rfl, hwf⟩, hc⟩ := h3 i h
    have hc0 : w.cell? ⟨g, o + i, none⟩ = some (.int .i32 l[i]) := by have := hc 0 _ rfl; simpa [Rd.int] using this
    have hlt : (i : Int) < l.length := by omega
    have hv : vat l i = l[i] := by simp [vat, h]
    have Hv := Lib.hid hv; clear hv
    go_enter Try.func63, Try.ntmps63
    go_wp2
    go_ret
    exact ⟨ret_i (by rw [Hv.out]), rfl⟩
  · have hlt : (l.length : Int) ≤ i := by omega
    have hv : vat l i = 0 := by simp [vat, List.getElem?_eq_none (show l.length ≤ i by omega)]
    have Hv := Lib.hid hv; clear hv
    go_enter Try.func63, Try.ntmps63
    go_wp2
    go_ret
    exact ⟨ret_i (by rw [Hv.out]), rfl⟩
theorem wf_i32 {x : Int} (h : (Lit.int .i32 x).wf = true) : I32 x := by
  simp only [Lit.wf, Bool.and_eq_true, decide_eq_true_eq] at h
  have h1 : IntKind.i32.min = -2147483648 := by decide
  have h2 : IntKind.i32.max = 2147483647 := by decide
  unfold I32
  omega
theorem RdRow_i32 {b e : Nat} {w : World} {v : Value} {l : List Int} (h : RdRow i32R e b w v l) : ∀ x ∈ l, I32 x := by
  intro x hx
  obtain ⟨i, hi⟩ := List.getElem?_of_mem hx
  obtain ⟨A, c, rfl, _, _, _, h3⟩ := h
  obtain ⟨g, o, _, _, _, hc⟩ := h3 (by intro e; rw [e] at hx; cases hx)
  obtain ⟨cs, ⟨_, hwf⟩, _⟩ := hc i x hi
  exact wf_i32 hwf
theorem info_i32 : (Try.prog.info? 21).map (fun i => (i.zero, i.size, i.bytes)) = some (some (.int .i32 0), 1, 4) := by kernel_rfl
set_option maxHeartbeats 400000 in
theorem longer_any (a b : ByteArray) (w : World) (ha : a.size ≤ 1048576) (hb : b.size ≤ 1048576) : Calls Try.prog 54 #[.string a, .string b] w fun e w' => e = .returned (.int .i64 (max ((LL a).length - (LL b).length : Int) ((LL b).length - (LL a).length))) ∧ w' = w := by
  have h1 := LL_len a
  have h2 := LL_len b
  have H1 := Lib.hid h1; clear h1
  have H2 := Lib.hid h2; clear h2
  go_enter Try.func54, Try.ntmps54
  go_wp2
  all_goals
    go_ret
    exact ⟨ret_i (by first | omega | (rw [H1.out, H2.out]; omega)), rfl⟩
set_option maxHeartbeats 1000000 in
theorem places_any (a b : ByteArray) (w : World) (ha : a.size ≤ 1048576) (hb : b.size ≤ 1048576) : Calls Try.prog 55 #[.string a, .string b] w fun e w' => ∃ v, e = .returned v ∧ OwnRow intR 3 0 w.heap.size w' v (plN (LL a) (LL b) (min (LL a).length (LL b).length)) ∧ Below w.heap.size w w' := by
  obtain ⟨m, hm, hm1, hm2⟩ : ∃ m : Nat, (if b.size < a.size then (b.size : Int) else (a.size : Int)) = (m : Int) ∧ m = min (LL a).length (LL b).length ∧ m ≤ 1048576 := by
    refine ⟨min (LL a).length (LL b).length, ?_, rfl, ?_⟩ <;> rw [LL_len, LL_len]
    · split <;> omega
    · omega
  rw [← hm1]
  have Hm1 := Lib.hid hm1; clear hm1
  have Hm := Lib.hid hm; clear hm
  have hla : m ≤ a.size := by have := Hm1.out; rw [LL_len, LL_len] at this; omega
  have hlb : m ≤ b.size := by have := Hm1.out; rw [LL_len, LL_len] at this; omega
  go_enter Try.func55, Try.ntmps55
  go_upto_block 0 with (fail)
  simp only [Hm.out]
  go_wp2
  go_loopw [5, 12] (fun v i wr => ∃ k : Nat, k ≤ m ∧ i = .int .i64 k ∧ OwnRow intR 3 0 w.heap.size wr v (plN (LL a) (LL b) k) ∧ Below w.heap.size w wr) (fun _ i _ => m - (intOf i).toNat)
  case atStart => exact ⟨0, Nat.zero_le _, rfl, OwnRow.nil .., Below.refl _ _⟩
  case round =>
    obtain ⟨k, hk, rfl, HO, HB⟩ := hrel
    by_cases hlt : k < m
    · have z0 : (k : Int) < m := by omega
      have z1 : (k : Int) < a.size := by omega
      have z2 : (k : Int) < b.size := by omega
      have hs := HB.size
      have hbd := plN_len (LL a) (LL b) k
      have hbd2 := (hmN_bd (LL a) (LL b) k).2
      have hl8 : ((plN (LL a) (LL b) k).length + 1) * 8 ≤ 140737488355328 := by omega
      clear hbd hbd2
      by_cases hc : (((a[k]'(by omega)).toNat : Int) != ((b[k]'(by omega)).toNat : Int)) = true
      · have hp : plN (LL a) (LL b) (k + 1) = plN (LL a) (LL b) k ++ [(k : Int)] := by
          have e0 : (LL a)[k]'(by rw [LL_len]; omega) ≠ (LL b)[k]'(by rw [LL_len]; omega) := bne_t hc
          rw [plN, if_neg]
          rw [List.getElem?_eq_getElem (by rw [LL_len]; omega), List.getElem?_eq_getElem (by rw [LL_len]; omega)]
          intro e
          exact e0 (Option.some.inj e)
        have Hp := Lib.hid hp; clear hp
        go_wp2
        go_quiet (fail)
        go_wp2_with (at_builtin; refine wp_push (R := intR) rfl (.tmp 22) (.tmp 24) 26 (.int .i64 0) 8 rfl Try.underlying26 info_int rfl (by decide) (by decide) u5 (plN (LL a) (LL b) k) (k : Int) #[.int .i64 (k : Int)] (0, 0) rfl rfl ⟨rfl, WalkArith.wf_i64 (by omega)⟩ (HO.below (bl_drewN wr nq)) hs (fun h => by cases h) (Nat.zero_le _) hl8 ?_; intro v1 w1 hO1 hG1 _ _)
        rw [← Hp.out] at hO1
        exact ⟨⟨k + 1, by omega, by go_num, hO1, bl_push (HB.trans ((bl_drewN wr nq).mono hs)) hG1 hs (fun k hk => (HO.lt k hk).1)⟩, by simp [intOf]; omega⟩
      · rw [Bool.not_eq_true] at hc
        have hp : plN (LL a) (LL b) (k + 1) = plN (LL a) (LL b) k := by
          have e0 : (LL a)[k]'(by rw [LL_len]; omega) = (LL b)[k]'(by rw [LL_len]; omega) := bne_f hc
          rw [plN, if_pos]
          rw [List.getElem?_eq_getElem (by rw [LL_len]; omega), List.getElem?_eq_getElem (by rw [LL_len]; omega), e0]
        have Hp := Lib.hid hp; clear hp
        go_wp2
        go_quiet (fail)
        go_wp2
        exact ⟨⟨k + 1, by omega, by go_num, by rw [Hp.out]; exact HO.below (bl_drewN wr nq), HB.trans ((bl_drewN wr nq).mono hs)⟩, by simp [intOf]; omega⟩
    · obtain rfl : k = m := by omega
      go_wp2
      go_ret
      exact ⟨_, rfl, HO, HB⟩
set_option maxHeartbeats 400000 in
theorem ham_any (a b : ByteArray) (w : World) (ha : a.size ≤ 1048576) (hb : b.size ≤ 1048576) : Calls Try.prog 47 #[.string a, .string b] w fun e w' => e = .returned (.int .i64 (hmD (LL a) (LL b))) ∧ Below w.heap.size w w' := by
  have hd := hmD_eq (LL a) (LL b)
  have Hd := Lib.hid hd; clear hd
  have h1 := LL_len a
  have h2 := LL_len b
  have hb1 := plN_len (LL a) (LL b) (min (LL a).length (LL b).length)
  have hb2 := (hmN_bd (LL a) (LL b) (min (LL a).length (LL b).length)).2
  have hb3 : (plN (LL a) (LL b) (min (LL a).length (LL b).length)).length ≤ 1048576 := by omega
  have hm0 : 0 ≤ max (((LL a).length : Int) - (LL b).length) ((LL b).length - (LL a).length) := by omega
  have hm1 : max (((LL a).length : Int) - (LL b).length) ((LL b).length - (LL a).length) ≤ 1048576 := by omega
  clear h1 h2 hb1 hb2
  have hL := fun w => longer_any a b w ha hb
  have hP := fun w => places_any a b w ha hb
  generalize max (((LL a).length : Int) - (LL b).length) ((LL b).length - (LL a).length) = mx at *
  generalize plN (LL a) (LL b) (min (LL a).length (LL b).length) = PL at *
  have HPP := Lib.hid hP; clear hP
  have HLL := Lib.hid hL; clear hL
  go_enter Try.func47, Try.ntmps47
  go_wp2_with (first
    | (go_at_call 54; refine (HLL.out _).mono ?_; rintro e w' ⟨rfl, rfl⟩)
    | (go_at_call 55; refine (HPP.out _).mono ?_; rintro e w' ⟨v, rfl, hO, hB⟩; obtain ⟨A, c, hv⟩ := hO.slice; subst hv))
  go_ret
  exact ⟨ret_i (by rw [Hd.out]), hB⟩
end Go.Proofs.Ytlcpfnhindfkfaa
