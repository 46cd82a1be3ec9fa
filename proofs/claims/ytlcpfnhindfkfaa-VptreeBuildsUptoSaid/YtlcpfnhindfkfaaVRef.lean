/-
  vptree's law: ref16.Mod, ref16.At, the first thing, what is below a node.
-/
import Derived.Test.YtlcpfnhindfkfaaVGuard
import Derived.Test.YtlcpfnhindfkfaaVBuild
import Derived.IntWalk
namespace Go.Proofs.Ytlcpfnhindfkfaa
open Go Go.RowKit Go.WW
set_option maxRecDepth 100000 in
set_option maxHeartbeats 2000000 in
theorem rat_any (b : Nat) (v : Value) (src : List Int) (w : World) (rv : RdRow intR 3 b w v src) :
    Calls Try.prog 13 #[v, .int .i64 0] w fun e w' => e = .returned (.int .i64 (if src = [] then 0 else src.getD (0 % src.length) 0)) ∧ w' = w := by
  obtain ⟨A, c, rfl, hlc, hcm, hA, hat⟩ := rv.at
  by_cases h0 : src = []
  · subst h0
    go_enter Try.func13, Try.ntmps13
    go_wp2_with fail
    go_ret
    exact ⟨rfl, rfl⟩
  · have hl : 0 < src.length := List.length_pos_iff.2 h0
    have hz : ((src.length : Int) == 0) = false := by simp; omega
    obtain ⟨g, o, cs, hA2, hg, hr, hc⟩ := hat 0 hl
    subst hA2
    obtain ⟨rfl, _⟩ := hr
    have d0 := hc 0 _ rfl
    simp only [Nat.zero_mul, Nat.add_zero] at d0
    rw [if_neg h0]
    have e : src.getD (0 % src.length) 0 = src[0] := by rw [Nat.zero_mod, List.getD_eq_getElem?_getD, List.getElem?_eq_getElem hl]; rfl
    rw [e]
    have HR := Lib.hid (And.intro rv (And.intro hat e)); clear rv hat e hc
    go_enter Try.func13, Try.ntmps13
    go_wp2_with fail
    go_ret
    exact ⟨rfl, rfl⟩
set_option maxHeartbeats 2000000 in
theorem rmod_any (w : World) (x n : Int) (hx : (Lit.int .i64 x).wf = true) (hn : 1 ≤ n ∧ n ≤ 9007199254740992) : Calls Try.prog 12 #[.int .i64 x, .int .i64 n] w fun e w' => e = .returned (.int .i64 (modI x n)) ∧ w' = w := by
  have hm : modI x n = x % n := by unfold modI; rw [if_neg (by omega)]
  rw [hm]
  have ht := tmod_mod x n hn.1
  have h2 := Int.emod_nonneg x (show n ≠ 0 by omega)
  have h3 := Int.emod_lt_of_pos x (show 0 < n by omega)
  have hdm := Int.tmod_add_tdiv_mul x n
  obtain ⟨hn1, hn2⟩ := hn
  have z0 : decide (n ≤ 0) = false := decide_eq_false (by omega)
  have z1 : (n == 0) = false := beq_eq_false_iff_ne.2 (by omega)
  have z2 : (n = 0) = False := by simp; omega
  have h5 : (IntKind.i64).min = -9223372036854775808 := by decide
  have h6 : (IntKind.i64).max = 9223372036854775807 := by decide
  simp only [Lit.wf, Bool.and_eq_true, decide_eq_true_eq, h5, h6] at hx
  have a1 : (x.tdiv n).natAbs ≤ x.natAbs := by rw [Int.natAbs_tdiv]; exact Nat.div_le_self ..
  have a2 : (x.tdiv n * n).natAbs ≤ x.natAbs := by rw [Int.natAbs_mul, Int.natAbs_tdiv]; exact Nat.div_mul_le_self ..
  have a3 : 0 ≤ x → 0 ≤ x.tdiv n := fun h => Int.tdiv_nonneg h (by omega)
  have a4 : x < 0 → x.tdiv n ≤ 0 := fun h => by
    have h1 := Int.tdiv_nonneg (show 0 ≤ -x by omega) (show 0 ≤ n by omega)
    rw [Int.neg_tdiv] at h1
    omega
  have a5 : 0 ≤ x.tdiv n → 0 ≤ x.tdiv n * n := fun h => Int.mul_nonneg h (by omega)
  have a6 : x.tdiv n ≤ 0 → x.tdiv n * n ≤ 0 := fun h => Int.mul_nonpos_of_nonpos_of_nonneg h (by omega)
  have e1 : wrap64 (x.tdiv n) = x.tdiv n := by unfold wrap64; omega
  generalize hp : x.tdiv n * n = p at *
  have e2 : wrap64 p = p := by unfold wrap64; omega
  have e3 : wrap64 (x - p) = x.tmod n := by unfold wrap64; omega
  have e4 : wrap64 (x.tmod n + n) = x.tmod n + n := by
    generalize x.tmod n = y at *
    split at ht <;> unfold wrap64 <;> omega
  generalize x % n = r at *
  clear hm hdm a1 a2 a3 a4 a5 a6 h5 h6
  go_enter Try.func12, Try.ntmps12
  go_wp2_with fail
  · go_ret
    exact ⟨ret_i (by rw [← ht, if_pos (by assumption)]), rfl⟩
  · go_ret
    exact ⟨ret_i (by rw [← ht, if_neg (by omega)]; exact e3), rfl⟩
set_option maxRecDepth 100000 in
set_option maxHeartbeats 2000000 in
theorem vfirst_any (b : Nat) (v : Value) (l : List It) (w : World) (rv : RdRow itR 34 b w v l) :
    Calls Try.prog 5 #[v] w fun e w' => ∃ A n c, e = .returned (.agg #[.int .i64 (l.getD 0 it0).ob.tag, .slice A n c, .string (l.getD 0 it0).ob.str]) ∧ obR.rd b w' [.int .i64 (l.getD 0 it0).ob.tag, .slice A n c, .string (l.getD 0 it0).ob.str] (l.getD 0 it0).ob ∧ Below w.heap.size w w' := by
  obtain ⟨A, c, rfl, hlc, hcm, hA, -⟩ := rv.at
  cases l with
  | nil =>
    go_enter Try.func5, Try.ntmps5
    go_wp2_with fail
    have hi := IRow.new w [.int .i64 0, .slice none 0 0, .string ⟨#[]⟩] 30
    refine bodyPost_ret (results_cell_row rfl _ _ w.heap.size 30 _ (0, 0) _ rfl hi Try.underlying30 rfl (by kernel_rfl)) rfl ?_
    exact ⟨none, 0, 0, rfl, obR_iff.2 ⟨_, rfl, (by decide), RdRow.nil .., (by decide)⟩, (Below.refl _ w).alloc (Nat.le_refl _) _⟩
  | cons y r =>
    obtain ⟨g, o, Av, nv, cv, hA2, hg, hr, d0, d1, d2, d3⟩ := it_at rv 0 (by simp)
    subst hA2
    simp only [List.getElem_cons_zero, Nat.zero_mul, Nat.add_zero] at hr d1 d2 d3
    obtain ⟨_, hvx, _, hxo⟩ := itR_iff.1 hr
    simp only [List.cons.injEq, and_true, true_and] at hvx
    subst hvx
    have hN0 : 0 < (y :: r).length := by simp
    obtain ⟨n, hn⟩ : ∃ n, n = (y :: r).length := ⟨_, rfl⟩
    rw [← hn] at rv hN0 hlc ⊢
    have hN2 : ((n : Int) == 0) = false := beq_eq_false_iff_ne.2 (by omega)
    have hN3 : (0 : Int) < n := by omega
    have HR := Lib.hid (And.intro rv (And.intro hxo hn)); clear rv hxo hr d0 hn
    go_enter Try.func5, Try.ntmps5
    go_wp2_with fail
    have hi := IRow.new w [.int .i64 y.ob.tag, .slice Av nv cv, .string y.ob.str] 30
    refine bodyPost_ret (results_cell_row rfl _ _ w.heap.size 30 _ (0, 0) _ rfl hi Try.underlying30 rfl (by kernel_rfl)) rfl ?_
    have hb := (Below.refl w.heap.size w).alloc (Nat.le_refl _) (.cells #[.int .i64 y.ob.tag, .slice Av nv cv, .string y.ob.str] 30)
    exact ⟨Av, nv, cv, rfl, obR_below HR.out.2.1 hb, hb⟩
theorem belowI_le {I : List Vn} {i : Int} {M : Nat} (h1 : 1 ≤ M) (h : ∀ n ∈ I, n.bucket.length ≤ M) : ∀ k, k ≤ I.length → belowI I i k ≤ k * M
  | 0, _ => Nat.zero_le _
  | k + 1, hk => by
    have ih := belowI_le (i := i) h1 h k (by omega)
    rw [belowI, Nat.succ_mul]
    have hc : cntV (nodN I k) ≤ M := by
      unfold cntV
      split
      · have : nodN I k ∈ I := by
          unfold nodN
          rw [List.getD_eq_getElem?_getD, List.getElem?_eq_getElem (by omega)]
          exact List.getElem_mem ..
        exact h _ this
      · split <;> omega
    split <;> omega
set_option maxRecDepth 100000 in
set_option maxHeartbeats 4000000 in
theorem below_any (b : Nat) (v : Value) (I : List Vn) (w : World) (i : Int) (rv : RdRow vnR 55 b w v I) (hI : I.length ≤ 1000000) (hbl : ∀ n ∈ I, n.bucket.length ≤ 1000000) (hi0 : 0 ≤ i) (hpar : ∀ q, q < I.length → (nodN I q).par < q ∧ -1 ≤ (nodN I q).par) :
    Calls Try.prog 14 #[v, .int .i64 i] w fun e w' => e = .returned (.int .i64 (belowI I i I.length)) ∧ w' = w := by
  obtain ⟨A, c, rfl, hlc, hcm, hA, -⟩ := rv.at
  have hle := belowI_le (i := i) (by omega) hbl
  have HH := Lib.hid (And.intro rv (And.intro hpar (And.intro hle hbl))); clear rv hpar hle hbl
  go_enter Try.func14, Try.ntmps14
  go_wp2_with fail
  go_loopw [5, 6, 7] (fun vn vk _ wr => ∃ k : Nat, vk = .int .i64 k ∧ k ≤ I.length ∧ vn = .int .i64 (belowI I i k) ∧ wr = w) (fun _ vk _ _ => I.length - (intOf vk).toNat)
  case atStart => exact ⟨0, rfl, Nat.zero_le _, rfl, rfl⟩
  case round =>
    obtain ⟨k, rfl, hk, rfl, rfl⟩ := hrel
    by_cases hlt : k < I.length
    · have hlt' : (k : Int) < I.length := by omega
      have hle1 := HH.out.2.2.1 k hk
      have hle2 := HH.out.2.2.1 (k + 1) hlt
      have hle3 : belowI I i k ≤ 1000000000000 := by omega
      obtain ⟨A', c', hv', _, _, _, hat⟩ := HH.out.1.at
      injection hv' with e1 e2 e3
      subst e1
      obtain ⟨g, o, cs, hA2, hg, hr, hc⟩ := hat k hlt
      subst hA2
      have hnk : nodN I k = I[k] := by unfold nodN; rw [List.getD_eq_getElem?_getD, List.getElem?_eq_getElem hlt]; rfl
      have hbel : belowI I i (k + 1) = belowI I i k + if climbI I i (k + 1) (k : Int) = i then cntV I[k] else 0 := by rw [belowI, hnk]
      obtain ⟨vb, vv, rfl, hrb, -, -⟩ := vnR_iff.1 hr
      obtain ⟨Ab, cb, rfl, -⟩ := hrb.at
      have d0 := hc 0 _ rfl
      have d1 := hc 1 _ rfl
      have d6 := hc 6 _ rfl
      rw [show vnR.sz = 14 from rfl] at d0 d1 d6
      simp only [Nat.add_zero] at d0
      have hbk : I[k].bucket.length ≤ 1000000 := HH.out.2.2.2 _ (List.getElem_mem hlt)
      generalize hxx : I[k] = x at *
      generalize hBk : belowI I i k = B at *
      have HR := Lib.hid (And.intro hbel (And.intro hle1 (And.intro hle2 (And.intro hk (And.intro hat hxx))))); clear hbel hle1 hle2 hk hat hxx hr hc hrb hnk hBk e2 e3
      go_wp2_with fail
      go_loopw [7] (fun vj wx => ∃ (f : Nat) (j : Int), vj = .int .i64 j ∧ climbI I i (k + 1) k = climbI I i f j ∧ j.toNat < f ∧ -1 ≤ j ∧ j ≤ k ∧ wx = wr) (fun vj _ => (intOf vj + 1).toNat)
      case atStart => exact ⟨k + 1, k, rfl, rfl, by omega, by omega, by omega, rfl⟩
      case round =>
        obtain ⟨f, j, rfl, hcl, hjf, hj1, hjk, rfl⟩ := hrel
        by_cases hij : i < j
        · obtain ⟨q, rfl⟩ : ∃ q : Nat, j = q := ⟨j.toNat, by omega⟩
          have hq : q < I.length := by omega
          have hq' : (q : Int) < I.length := by omega
          obtain ⟨A', c', hv', _, _, _, hat⟩ := HH.out.1.at
          injection hv' with e1 e2 e3
          clear e2 e3
          subst e1
          obtain ⟨g', o', cs, hA2, hg', hr, hc⟩ := hat q hq
          injection hA2 with hA2
          injection hA2 with e1 e2
          subst e1 e2
          have hp := HH.out.2.1 q hq
          have hnq : nodN I q = I[q] := by unfold nodN; rw [List.getD_eq_getElem?_getD, List.getElem?_eq_getElem hq]; rfl
          obtain ⟨vb', vv', rfl, -, -, -⟩ := vnR_iff.1 hr
          have d7 := hc 7 _ rfl
          rw [show vnR.sz = 14 from rfl] at d7
          obtain ⟨f', rfl⟩ : ∃ f', f = f' + 1 := ⟨f - 1, by omega⟩
          have hst : climbI I i (f' + 1) q = climbI I i f' I[q].par := by
            rw [climbI, if_pos ⟨hij, by omega, by omega⟩, Int.toNat_natCast, hnq]
          rw [hnq] at hp
          generalize I[q].par = p at *
          have HS := Lib.hid (And.intro hcl (And.intro hst (And.intro hp hnq))); clear hcl hst hp hat hr hc hnq d0 d1 d6
          go_wp2_with fail
          obtain ⟨hcl, hst, hp, hnq⟩ := HS.out
          exact ⟨⟨f', p, rfl, hcl.trans hst, by omega, by omega, by omega, by first | rfl | trivial⟩, by simp [intOf]; omega⟩
        · obtain ⟨f', rfl⟩ : ∃ f', f = f' + 1 := ⟨f - 1, by omega⟩
          have hst : climbI I i (f' + 1) j = j := by rw [climbI, if_neg (by omega)]
          rw [hst] at hcl
          obtain ⟨hbel, hle1, hle2, hk, hat, hxx⟩ := HR.out
          rw [hcl] at hbel
          by_cases hji : j = i
          · subst hji
            rw [if_pos rfl] at hbel
            cases hlf : x.leaf with
            | true =>
              rw [show cntV x = x.bucket.length by unfold cntV; rw [hlf]; rfl] at hbel
              rw [hlf] at d0
              have HS := Lib.hid (And.intro hbel (And.intro hk hcl)); clear hbel hk hcl hle1 hle2 hat hxx hst
              go_wp2_with fail
              obtain ⟨hbel, hk, hcl⟩ := HS.out
              exact ⟨⟨k + 1, by go_num, by omega, by rw [hbel]; go_num, by first | rfl | trivial⟩, by simp [intOf]; omega⟩
            | false =>
              rw [hlf] at d0
              cases hgo : x.gone with
              | true =>
                rw [show cntV x = 0 by unfold cntV; rw [hlf, hgo]; rfl] at hbel
                rw [hgo] at d6
                have HS := Lib.hid (And.intro hbel (And.intro hk hcl)); clear hbel hk hcl hle1 hle2 hat hxx hst
                go_wp2_with fail
                obtain ⟨hbel, hk, hcl⟩ := HS.out
                exact ⟨⟨k + 1, by go_num, by omega, by rw [hbel]; rfl, by first | rfl | trivial⟩, by simp [intOf]; omega⟩
              | false =>
                rw [show cntV x = 1 by unfold cntV; rw [hlf, hgo]; rfl] at hbel
                rw [hgo] at d6
                have HS := Lib.hid (And.intro hbel (And.intro hk hcl)); clear hbel hk hcl hle1 hle2 hat hxx hst
                go_wp2_with fail
                obtain ⟨hbel, hk, hcl⟩ := HS.out
                exact ⟨⟨k + 1, by go_num, by omega, by rw [hbel]; go_num, by first | rfl | trivial⟩, by simp [intOf]; omega⟩
          · rw [if_neg hji] at hbel
            have hji' : (j == i) = false := beq_eq_false_iff_ne.2 hji
            have HS := Lib.hid (And.intro hbel (And.intro hk hcl)); clear hbel hk hcl hle1 hle2 hat hxx hst
            go_wp2_with fail
            obtain ⟨hbel, hk, hcl⟩ := HS.out
            exact ⟨⟨k + 1, by go_num, by omega, by rw [hbel]; rfl, by first | rfl | trivial⟩, by simp [intOf]; omega⟩
    · obtain rfl : k = I.length := by omega
      go_wp2_with fail
      go_ret
      exact ⟨rfl, rfl⟩
end Go.Proofs.Ytlcpfnhindfkfaa
