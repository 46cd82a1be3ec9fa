/-
  bktree: Depth.
-/
import Derived.Test.YtjdcemmodkdajaaImg
namespace Go.Proofs.Ytjdcemmodkdajaa
open Go Go.RowKit Go.WW
/-- How deep nodes are. -/
def depF (acc : List Int) (n : Nd) : List Int := acc ++ [if 0 ≤ n.par then acc.getD n.par.toNat 0 + 1 else 1]
def deps (l : List Nd) : List Int := l.foldl depF []
def depN (l : List Nd) : Int := (deps l).foldl max 0
theorem deps_snoc (l : List Nd) (n : Nd) : deps (l ++ [n]) = depF (deps l) n := by unfold deps; rw [List.foldl_append]; rfl
theorem deps_len (l : List Nd) : (deps l).length = l.length := by
  unfold deps
  suffices ∀ acc : List Int, (l.foldl depF acc).length = acc.length + l.length by simpa using this []
  induction l with
  | nil => intro acc; rfl
  | cons n r ih => intro acc; rw [List.foldl_cons, ih]; simp [depF]; omega
theorem deps_bd {l : List Nd} : ∀ d ∈ deps l, 1 ≤ d ∧ d ≤ l.length := by
  suffices ∀ (r : List Nd) (acc : List Int) (N : Int), (∀ d ∈ acc, 1 ≤ d ∧ d ≤ N) → 0 ≤ N → ∀ d ∈ r.foldl depF acc, 1 ≤ d ∧ d ≤ N + r.length by
    intro d hd
    have := this l [] 0 (by simp) (Int.le_refl _) d hd
    omega
  intro r
  induction r with
  | nil => intro acc N h _ d hd; have := h d hd; simp; omega
  | cons n r ih =>
    intro acc N h hN d hd
    have := ih (depF acc n) (N + 1) (fun d hd => by
      unfold depF at hd
      rcases List.mem_append.1 hd with hd | hd
      · have := h d hd; omega
      · simp only [List.mem_singleton] at hd
        subst hd
        split
        · rw [List.getD_eq_getElem?_getD]
          cases hg : acc[n.par.toNat]? with
          | none => simp; omega
          | some z => have := h z (List.mem_of_getElem? hg); simp; omega
        · omega) (by omega) d hd
    rw [List.length_cons]
    omega
theorem foldl_max_snoc (l : List Int) (x : Int) : (l ++ [x]).foldl max 0 = max (l.foldl max 0) x := by rw [List.foldl_append]; rfl
set_option maxRecDepth 100000 in
set_option maxHeartbeats 4000000 in
theorem depth_any {own : Nat → Prop} {w : World} {t mt : Nat} {m gone : Int} {l : List Nd} {f : Int → Option Int} (h : Tr own w t mt m l gone f) (hn : l.length ≤ 1048576) :
    Calls Try.prog 19 #[.pointer (some ⟨t, 0, none⟩)] w fun r w' => r = .returned (.int .i64 (depN l)) ∧ Below w.heap.size w w' := by
  obtain ⟨lv, mb, kv, hK⟩ := h.mem
  obtain ⟨Al, cl, hlv⟩ := hK.slice
  subst hlv
  have c0 := hK.row.cell
  have hlt := hK.row.lt
  have HH := Lib.hid (And.intro h hK); clear h hK
  have hmk := run_make_row' (P := Try.prog) 39 3 (.int .i64 0) 8 Try.underlying39 (by kernel_rfl) rfl .i64 .i64 l.length (by omega) (by omega)
  go_enter Try.func19, Try.ntmps19
  go_wp2_with fail
  go_loopw [3, 5, 6, 20] (fun vm _ _ vk wr => ∃ k : Nat, vk = .int .i64 k ∧ k ≤ l.length ∧ vm = .int .i64 (depN (l.take k)) ∧ IRow 3 wr w.heap.size (ints (deps (l.take k) ++ List.replicate (l.length - k) 0)) ∧ Below w.heap.size w wr) (fun _ _ _ vk _ => l.length - (intOf vk).toNat)
  case atStart =>
    refine ⟨0, rfl, Nat.zero_le _, rfl, ?_, (Below.refl _ w).alloc (Nat.le_refl _) _⟩
    have := IRow.made w (.int .i64 0) l.length 3
    simpa [deps, ints] using this
  case round =>
    obtain ⟨k, rfl, hk, rfl, hI, hB⟩ := hrel
    have hIl := hI.lt
    by_cases hlt : k < l.length
    · have hKr := HH.out.2.below hB
      obtain ⟨lb, cap, hlv, hlb, hc1, hc2, hfr, hat⟩ := hKr.blk (by rintro rfl; simp at hlt)
      injection hlv with e1 _ e2
      subst e1 e2
      obtain ⟨vi, ki, hki, hone, hit, hpw, hew, d0, d1, d2, d3, d4, d5, d6, d7⟩ := hat k hlt
      obtain ⟨_, hvi, hwi, hob⟩ := itR_iff.1 hit
      simp only [List.cons.injEq, and_true, true_and] at hvi
      subst hvi
      obtain ⟨Av, nv, cv, hv'⟩ : ∃ A n c, vi = .slice A n c := by obtain ⟨v', hv2, _, hr, _⟩ := obR_iff.1 hob; simp only [List.cons.injEq, and_true, true_and] at hv2; subst hv2; obtain ⟨A, c, e, _⟩ := hr.at; exact ⟨A, _, c, e⟩
      subst hv'
      obtain ⟨Ak, nk, ck, hv'⟩ : ∃ A n c, ki = .slice A n c := by obtain ⟨A, c, e⟩ := (hKr.kids k ki hki).slice; exact ⟨A, _, c, e⟩
      subst hv'
      have hlt' : (k : Int) < l.length := by omega
      have hdl : (deps (l.take k)).length = k := by rw [deps_len, List.length_take]; omega
      have htake : l.take (k + 1) = l.take k ++ [l[k]] := by rw [List.take_add_one, List.getElem?_eq_getElem hlt]; rfl
      have hup := HH.out.1.up k l[k] (List.getElem?_eq_getElem hlt)
      have f0 := hI.frozen
      have ck0 : wr.cell? ⟨w.heap.size, k, none⟩ = some (.int .i64 0) := by
        rw [hI.cell, ints_at, List.getElem?_append_right (by omega), hdl, Nat.sub_self, List.getElem?_replicate, if_pos (by omega)]
        rfl
      have hset : ∀ x : Int, (deps (l.take k) ++ List.replicate (l.length - k) 0).set k x = deps (l.take k) ++ [x] ++ List.replicate (l.length - (k + 1)) 0 := fun x => by
        rw [List.set_append, if_neg (by omega), hdl, Nat.sub_self, show l.length - k = (l.length - (k + 1)) + 1 from by omega, List.replicate_succ]
        simp
      by_cases hp : 0 ≤ l[k].par
      · obtain ⟨q, hq⟩ : ∃ q : Nat, l[k].par = q := ⟨l[k].par.toNat, by omega⟩
        have hqk : q < k := by omega
        have hdq : deps (l.take (k + 1)) = deps (l.take k) ++ [(deps (l.take k)).getD q 0 + 1] := by
          rw [htake, deps_snoc]; unfold depF; rw [if_pos hp, hq]; rfl
        have cq : wr.cell? ⟨w.heap.size, q, none⟩ = some (.int .i64 ((deps (l.take k)).getD q 0)) := by
          rw [hI.cell, ints_at, List.getElem?_append_left (by omega), List.getD_eq_getElem?_getD, List.getElem?_eq_getElem (by omega)]
          rfl
        rw [hq] at d5
        have hDb : 1 ≤ (deps (l.take k)).getD q 0 ∧ (deps (l.take k)).getD q 0 ≤ k := by
          rw [List.getD_eq_getElem?_getD, List.getElem?_eq_getElem (by omega)]
          have := deps_bd (l := l.take k) _ (List.getElem_mem (by omega : q < (deps (l.take k)).length))
          rw [List.length_take] at this
          simp only [Option.getD_some]
          omega
        have hdep : depN (l.take (k + 1)) = max (depN (l.take k)) ((deps (l.take k)).getD q 0 + 1) := by unfold depN; rw [hdq, foldl_max_snoc]
        have hst := hset ((deps (l.take k)).getD q 0 + 1)
        rw [← hdq] at hst
        have hhq : (0 : Int) ≤ q := Int.natCast_nonneg _
        have hqn : (q : Int) < l.length := by omega
        generalize (deps (l.take k)).getD q 0 = D at *
        generalize hMM : depN (l.take k) = M at *
        have HR := Lib.hid (And.intro hI (And.intro hB (And.intro hst (And.intro hdep (And.intro hMM hset)))))
        clear hI hB hst hdep hMM hset hdq htake hdl hat hki hit hob hKr hup
        go_wp2_with fail
        obtain ⟨hI, hB, hst, hdep, hMM, hset⟩ := HR.out
        refine ⟨⟨k + 1, by simp, by omega, ?_, ?_, ?_⟩, ?_⟩
        · rw [hdep]; congr 1; split <;> omega
        · have h1 := hI.set k (.int .i64 1)
          rw [ints_set, hset] at h1
          have h2 := h1.set k (.int .i64 (D + 1))
          rw [ints_set] at h2
          have h3 : (deps (l.take k) ++ [1] ++ List.replicate (l.length - (k + 1)) (0 : Int)).set k (D + 1) = deps (l.take (k + 1)) ++ List.replicate (l.length - (k + 1)) 0 := by
            rw [← hset 1, List.set_set, hst]
          rw [h3] at h2
          exact h2.alloc _
        · exact ((hB.setCell (p := ⟨w.heap.size, k, none⟩) (Nat.le_refl _) _).setCell (p := ⟨w.heap.size, k, none⟩) (Nat.le_refl _) _).alloc (by simpa using hB.size) _
        · simp [intOf]; omega
      · have hdq : deps (l.take (k + 1)) = deps (l.take k) ++ [1] := by
          rw [htake, deps_snoc]; unfold depF; rw [if_neg hp]
        have hdep : depN (l.take (k + 1)) = max (depN (l.take k)) 1 := by unfold depN; rw [hdq, foldl_max_snoc]
        have hst := hset 1
        rw [← hdq] at hst
        have hpn : decide (0 ≤ l[k].par) = false := by simp; omega
        generalize hMM : depN (l.take k) = M at *
        have HR := Lib.hid (And.intro hI (And.intro hB (And.intro hst (And.intro hdep (And.intro hMM hset)))))
        clear hI hB hst hdep hMM hset hdq htake hdl hat hki hit hob hKr hup
        go_wp2_with fail
        obtain ⟨hI, hB, hst, hdep, hMM, hset⟩ := HR.out
        refine ⟨⟨k + 1, by simp, by omega, ?_, ?_, ?_⟩, ?_⟩
        · rw [hdep]; congr 1; split <;> omega
        · have h1 := hI.set k (.int .i64 1)
          rw [ints_set, hst] at h1
          exact h1.alloc _
        · exact (hB.setCell (p := ⟨w.heap.size, k, none⟩) (Nat.le_refl _) _).alloc (by simpa using hB.size) _
        · simp [intOf]; omega
    · obtain rfl : k = l.length := by omega
      go_wp2_with fail
      go_ret
      rw [List.take_length]
      exact ⟨rfl, hB⟩
end Go.Proofs.Ytjdcemmodkdajaa
