/-
  The document's own distances: ref06, ref09.
-/
import Derived.Test.YtjdcemmodkdajaaR07
import Derived.Test.YtjdcemmodkdajaaR08
namespace Go.Proofs.Ytjdcemmodkdajaa
open Go Go.RowKit Go.WW
set_option maxHeartbeats 1000000 in
theorem pad_any (b : Nat) (v : Value) (l : List Int) (n : Nat) (w : World) (hv : RdRow i32R 21 b w v l) (hl : l.length ≤ 1048576) (hn : n ≤ 1048576) : Calls Try.prog 75 #[v, .int .i64 n] w fun e w' => ∃ v', e = .returned v' ∧ OwnRow i32R 21 w.heap.size w.heap.size w' v' (l ++ List.replicate (n - l.length) 0) ∧ Below w.heap.size w w' := by
  have hl8 : (([] : List Int).length + l.length) * 4 ≤ 140737488355328 := by simp; omega
  go_enter Try.func75, Try.ntmps75
  go_wp2_with (at_builtin; refine wp_cat (R := i32R) rfl (.const (.slice none 0 0)) (.tmp 6) 34 (.int .i32 0) 4 rfl Try.underlying34 info_i32 rfl (by decide) (by decide) (.slice none 0 0) v [] l rfl rfl (hv.lift (Nat.le_refl _)) (OwnRow.nil _ _ _ w.heap.size _) (Nat.le_refl _) (fun h => by cases h) (Nat.le_refl _) hl8 ?_; intro v1 w1 hO1 hG1 _ _)
  have HO0 := Lib.hid hO1; clear hO1
  have hB1 : Below w.heap.size w w1 := (Below.refl _ w).grown hG1 (Nat.le_refl _) (fun k hk => by cases hk)
  go_loopw [5] (fun v wr => ∃ k : Nat, k ≤ n - l.length ∧ OwnRow i32R 21 w.heap.size w.heap.size wr v (l ++ List.replicate k 0) ∧ Below w.heap.size w wr) (fun v _ => l.length + (n - l.length) - slen v)
  case atStart => exact ⟨0, Nat.zero_le _, by simpa using HO0.out, hB1⟩
  case round =>
    obtain ⟨k, hk, HO, HB⟩ := hrel
    have hs := HB.size
    have hlk : (l ++ List.replicate k (0 : Int)).length = l.length + k := by simp
    have hl4 : ((l ++ List.replicate k (0 : Int)).length + 1) * 4 ≤ 140737488355328 := by omega
    obtain ⟨A, c, hv5⟩ := HO.slice
    rw [hlk] at hv5
    subst hv5
    have Hlk := Lib.hid hlk; clear hlk
    by_cases hlt : k < n - l.length
    · have z1 : decide (((l.length + k : Nat) : Int) < n) = true := by simp; omega
      have z2 : l.length + k < n := by omega
      go_wp2_with (at_builtin; refine wp_push (R := i32R) rfl (.tmp 12) (.tmp 13) 34 (.int .i32 0) 4 rfl Try.underlying34 info_i32 rfl (by decide) (by decide) (.slice A (l.length + k) c) (l ++ List.replicate k 0) 0 #[.int .i32 0] (0, 0) rfl rfl ⟨rfl, by decide⟩ HO hs (fun h => by cases h) (Nat.le_refl _) hl4 ?_; intro v1 w2 hO2 hG2 _ _)
      obtain ⟨A1, c1, hv1⟩ := hO2.slice
      have e : (l ++ List.replicate k (0 : Int)) ++ [0] = l ++ List.replicate (k + 1) 0 := by rw [List.append_assoc]; congr 1; exact List.replicate_succ'.symm
      rw [e] at hO2 hv1
      subst hv1
      refine ⟨⟨k + 1, by omega, hO2, bl_push HB hG2 hs (fun k hk => (HO.lt k hk).1)⟩, ?_⟩
      show _ - (l ++ List.replicate (k + 1) (0 : Int)).length < _ - (l.length + k)
      simp
      omega
    · have z2 : ¬ (l.length : Int) + k < n := by omega
      obtain rfl : k = n - l.length := by omega
      go_wp2
      go_ret
      exact ⟨_, rfl, HO, HB⟩
set_option maxHeartbeats 1000000 in
theorem r06_any (b : Nat) (v1 v2 : Value) (l1 l2 : List Int) (w : World) (h1 : RdRow i32R 21 b w v1 l1) (h2 : RdRow i32R 21 b w v2 l2) (hl1 : l1.length ≤ 1048576) (hl2 : l2.length ≤ 1048576) : Calls Try.prog 53 #[v1, v2] w fun e w' => e = .returned (.int .i64 (l1D l1 l2)) ∧ Below w.heap.size w w' := by
  have H1 := RdRow_i32 h1
  have H2 := RdRow_i32 h2
  obtain ⟨A1, c1, rfl, _⟩ := h1.at
  obtain ⟨A2, c2, rfl, _⟩ := h2.at
  have HH1 := Lib.hid H1; clear H1
  have HH2 := Lib.hid H2; clear H2
  obtain ⟨m, hm⟩ : ∃ m, m = max l1.length l2.length := ⟨_, rfl⟩
  have hm2 : m ≤ 1048576 := by omega
  have hla : (l1 ++ List.replicate (l2.length - l1.length) (0 : Int)).length = m := by simp; omega
  have hlb : (l2 ++ List.replicate (m - l2.length) (0 : Int)).length = m := by simp; omega
  have Hm := Lib.hid hm; clear hm
  have Hla := Lib.hid hla; clear hla
  have Hlb := Lib.hid hlb; clear hlb
  go_enter Try.func53, Try.ntmps53
  go_wp2_with fail
  refine (pad_any b _ l1 l2.length _ h1 hl1 hl2).mono ?_
  rintro e w1 ⟨va, rfl, hOa, hBa⟩
  obtain ⟨Aa, ca, hva⟩ := hOa.slice
  rw [Hla.out] at hva
  subst hva
  go_wp2_with fail
  refine (pad_any b _ l2 m _ (h2.below hBa) hl2 hm2).mono ?_
  rintro e w2 ⟨vb, rfl, hOb, hBb⟩
  obtain ⟨Ab, cb, hvb⟩ := hOb.slice
  rw [Hlb.out] at hvb
  subst hvb
  have hRa := (hOa.below hBb).read
  have hRb := hOb.read
  have hB2 : Below w.heap.size w w2 := hBa.trans (hBb.mono hBa.size)
  clear hOa hOb hBa hBb h1 h2
  go_wp2
  go_loopw [5, 6] (fun v i wr => ∃ k : Nat, k ≤ m ∧ i = .int .i64 k ∧ v = .int .i64 (l1N l1 l2 k) ∧ ∃ n, wr = w2.drewN n) (fun _ i _ => m - (intOf i).toNat)
  case atStart => exact ⟨0, Nat.zero_le _, rfl, rfl, 0, rfl⟩
  case round =>
    obtain ⟨k, hk, rfl, rfl, n, rfl⟩ := hrel
    by_cases hlt : k < m
    · have z1 : (k : Int) < m := by omega
      obtain ⟨ga, oa, rfl, _, hca⟩ := hRa.intAt k (by rw [Hla.out]; exact hlt)
      obtain ⟨gb, ob, rfl, _, hcb⟩ := hRb.intAt k (by rw [Hlb.out]; exact hlt)
      have ea : (l1 ++ List.replicate (l2.length - l1.length) (0 : Int)).getD k 0 = vat l1 k := vat_pad l1 _ k
      have eb : (l2 ++ List.replicate (m - l2.length) (0 : Int)).getD k 0 = vat l2 k := vat_pad l2 _ k
      rw [ea] at hca
      rw [eb] at hcb
      clear ea eb
      obtain ⟨x1, x2⟩ := vat_bd HH1.out k
      obtain ⟨y1, y2⟩ := vat_bd HH2.out k
      obtain ⟨s1, s2⟩ := l1N_bd HH1.out HH2.out k
      have hsu : l1N l1 l2 (k + 1) = l1N l1 l2 k + ((vat l1 k - vat l2 k).natAbs : Int) := rfl
      have Hsu := Lib.hid hsu; clear hsu
      have s3 : l1N l1 l2 k ≤ 1048576 * 4294967295 := by omega
      clear s2
      generalize vat l1 k = x at *
      generalize vat l2 k = y at *
      generalize l1N l1 l2 k = s at *
      by_cases hc : y < x
      · have d1 : decide (y < x) = true := by simpa using hc
        go_wp2
        go_quiet (fail)
        go_wp2
        go_quiet (fail)
        go_wp2
        exact ⟨⟨k + 1, by omega, by go_num, by rw [Hsu.out]; congr 1; omega, _, rfl⟩, by simp [intOf]; omega⟩
      · have d1 : decide (y < x) = false := by simpa using hc
        go_wp2
        go_quiet (fail)
        go_wp2
        go_quiet (fail)
        go_wp2
        exact ⟨⟨k + 1, by omega, by go_num, by rw [Hsu.out]; congr 1; omega, _, rfl⟩, by simp [intOf]; omega⟩
    · obtain rfl : k = m := by omega
      go_wp2
      go_ret
      refine ⟨ret_i ?_, hB2.trans ((bl_drewN w2 n).mono hB2.size)⟩
      unfold l1D
      rw [← Hm.out]
end Go.Proofs.Ytjdcemmodkdajaa
