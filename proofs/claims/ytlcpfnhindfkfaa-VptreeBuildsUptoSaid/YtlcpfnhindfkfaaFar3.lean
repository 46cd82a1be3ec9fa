/-
  split.Nth, Halve, Bounds.
-/
import Derived.Test.YtlcpfnhindfkfaaFar2
namespace Go.Proofs.Ytlcpfnhindfkfaa
open Go Go.RowKit Go.WW
theorem bl_any {w w' : World} {v : Value} {l : List Fa} {b : Nat} (h : RdRow faR 99 b w v l) (hb : Below w.heap.size w w') : RdRow faR 99 b w' v l := h.below hb
set_option maxRecDepth 100000 in
set_option maxHeartbeats 4000000 in
theorem nth_any (b : Nat) (v : Value) (l : List Fa) (k : Nat) (w : World) (rv : RdRow faR 99 b w v l) (hl : l.length ≤ 1048576) (hk : k < l.length) :
    Calls Try.prog 43 #[v, .int .i64 k] w fun e w' => nthF l k ∈ l ∧ e = .returned (.tuple #[.agg #[.int .i64 (nthF l k).pl, .int .i64 (nthF l k).ds], .bool true]) ∧ Below w.heap.size w w' := by
  obtain ⟨A, c, rfl, hlc, hcm, hA, _⟩ := rv.at
  have z1 : decide ((k : Int) < 0) = false := decide_eq_false (by omega)
  have z2 : decide (l.length ≤ k) = false := decide_eq_false (by omega)
  have HH := Lib.hid rv; clear rv hA
  go_enter Try.func43, Try.ntmps43
  go_wp2_with fail
  apply wp_scope_straight
  go_wp2_with fail
  apply wp_label
  go_wp2_with fail
  go_loopw [0, 1, 6, 7, 8, 20, 26, 32] (fun vl vk _ _ _ _ _ _ wr => ∃ (l' : List Fa) (k' b' : Nat), vk = .int .i64 k' ∧ k' < l'.length ∧ l'.length ≤ l.length ∧ RdRow faR 99 b' wr vl l' ∧ (∀ q ∈ l', Is l' k' q → q ∈ l ∧ Is l k q) ∧ Below w.heap.size w wr ∧ IRow 99 wr w.heap.size [.int .i64 0, .int .i64 0]) (fun vl _ _ _ _ _ _ _ _ => slen vl)
  clear z1 z2
  case atStart => exact ⟨l, k, b, rfl, hk, Nat.le_refl _, HH.out.below ((Below.refl _ w).alloc (Nat.le_refl _) _), fun q hq h => ⟨hq, h⟩, (Below.refl _ w).alloc (Nat.le_refl _) _, IRow.new w _ _⟩
  case round =>
    obtain ⟨l', k', b', rfl, hk', hll, hR, hq, hB, hI⟩ := hrel
    obtain ⟨A', c', rfl, hlc', hcm', hA', _⟩ := hR.at
    have HR := Lib.hid (And.intro hR (And.intro hq (And.intro hB hI))); clear hR hq hB hI hA'
    go_wp2_with fail
    refine (middle_any b' _ l' wr HR.out.1 (by intro e; rw [e] at hk'; simp at hk') (by omega)).mono ?_
    rintro er w1 ⟨p, hp, rfl, hB1⟩
    have H1 := Lib.hid (And.intro hp hB1); clear hp hB1
    go_wp2_with fail
    obtain ⟨W1, hW1⟩ : ∃ W1, W1 = w1.alloc (.cells #[.int .i64 p.pl, .int .i64 p.ds] 99) := ⟨_, rfl⟩
    have hBW : Below wr.heap.size wr W1 := by rw [hW1]; exact H1.out.2.alloc H1.out.2.size _
    have hp1 : IRow 99 W1 w1.heap.size [.int .i64 p.pl, .int .i64 p.ds] := by rw [hW1]; exact IRow.new w1 _ _
    rw [← hW1]
    clear hW1
    refine (around_any b' _ l' p W1 (HR.out.1.below hBW) (by omega)).mono ?_
    rintro er w2 ⟨va, vb, rfl, hOa, hOb, hB2⟩
    obtain ⟨Aa, ca, hva⟩ := hOa.slice
    obtain ⟨Ab, cb, hvb⟩ := hOb.slice
    subst hva hvb
    have hBr : Below wr.heap.size wr w2 := hBW.trans (hB2.mono hBW.size)
    have hBw : Below w.heap.size w w2 := HR.out.2.2.1.trans (hBr.mono HR.out.2.2.1.size)
    have hI2 := HR.out.2.2.2.kept (hBr.block _ HR.out.2.2.2.lt)
    have hp2 := hp1.kept (hB2.block _ hp1.lt)
    have la := ahead_lt H1.out.1
    have lb := behind_lt H1.out.1
    have lbe := behindF_len p l'
    have hla := aheadF_len p l'
    have hma : ∀ q ∈ aheadF p l', q ∈ l' ∧ ltF q p = true := fun q hq => List.mem_filter.1 hq
    have hmb : ∀ q ∈ behindF p l', q ∈ l' ∧ ltF p q = true := fun q hq => List.mem_filter.1 hq
    have hmid := Is.mid (p := p) (l := l') (k := k')
    have hda := fun (q : Fa) (hq : ltF q p = true) (h : Is (aheadF p l') k' q) => h.ahead hq
    have hdb := fun (q : Fa) (hq : ltF p q = true) (hk : cLe p l' ≤ k') (h : Is (behindF p l') (k' - cLe p l') q) => h.behind hq hk
    generalize aheadF p l' = LA at *
    generalize behindF p l' = LB at *
    have HS := Lib.hid (And.intro hOa (And.intro hOb (And.intro hBw (And.intro hI2 (And.intro hp2 (And.intro hma (And.intro hmb (And.intro hmid (And.intro hda (And.intro hdb (And.intro hla (And.intro hBr lb)))))))))))) 
    clear hOa hOb hBw hI2 hp2 hma hmb hmid hda hdb hla hBr hB2 hp1 hBW lb
    by_cases h1 : k' < LA.length
    · have hz1 : (k' : Int) < LA.length := by omega
      have HL := Lib.hid lbe; clear lbe
      go_wp2_with fail
      obtain ⟨hOa, hOb, hBw, hI2, hp2, hma, hmb, hmid, hda, hdb, hla, hBr, lb⟩ := HS.out
      exact ⟨⟨LA, k', 0, rfl, h1, by omega, hOa.read, fun q hq h => HR.out.2.1 q (hma q hq).1 (hda q (hma q hq).2 h), hBw, hI2⟩, la⟩
    · have hz1 : decide ((k' : Int) < LA.length) = false := decide_eq_false (by omega)
      have h1' : LA.length ≤ k' := by omega
      by_cases h2 : k' + LB.length < l'.length
      · have hz2 : decide ((l'.length : Int) - LB.length ≤ k') = false := decide_eq_false (by omega)
        have HL := Lib.hid lbe; clear lbe
        have c2 := HS.out.2.2.2.2.1.cell
        have i2 := HS.out.2.2.2.1.cell
        have f2 := HS.out.2.2.2.1.frozen
        have l2 := HS.out.2.2.2.1.lt
        have l3 := HS.out.2.2.2.2.1.lt
        go_wp2_with fail
        rw [Exit.noGoto_ret]
        have hnp : nthF l k = p := by
          obtain ⟨hm, his⟩ := HR.out.2.1 p H1.out.1 (HS.out.2.2.2.2.2.2.2.1 h1' h2)
          exact nthF_eq hm his
        have hpl := (HR.out.2.1 p H1.out.1 (HS.out.2.2.2.2.2.2.2.1 h1' h2)).1
        have hi := (HS.out.2.2.2.1.set 0 (.int .i64 p.pl)).set 1 (.int .i64 p.ds)
        have hB := (HS.out.2.2.1.setCell (p := ⟨w.heap.size, 0, none⟩) (Nat.le_refl _) (.int .i64 p.pl)).setCell (p := ⟨w.heap.size, 1, none⟩) (Nat.le_refl _) (.int .i64 p.ds)
        refine bodyPost_ret (results_cell_row2 rfl _ _ w.heap.size 99 _ (0, 0) _ rfl hi Try.underlying99 rfl (by kernel_rfl)) rfl ?_
        rw [hnp]
        exact ⟨hpl, rfl, hB⟩
      · have hz2 : decide ((l'.length : Int) - LB.length ≤ k') = true := decide_eq_true (by omega)
        have h3 : cLe p l' ≤ k' := by omega
        have h4 : k' - cLe p l' < LB.length := by omega
        have h5 : (k' : Int) - ((l'.length : Int) - LB.length) = ((k' - cLe p l' : Nat) : Int) := by omega
        have h6 : LB.length ≤ l.length := by have := HS.out.2.2.2.2.2.2.2.2.2.2.2.2; omega
        have HL := Lib.hid lbe; clear lbe
        go_wp2_with fail
        obtain ⟨hOa, hOb, hBw, hI2, hp2, hma, hmb, hmid, hda, hdb, hla, hBr, lb⟩ := HS.out
        exact ⟨⟨LB, k' - cLe p l', 0, rfl, h4, h6, hOb.read, fun q hq h => HR.out.2.1 q (hmb q hq).1 (hdb q (hmb q hq).2 h3 h), hBw, hI2⟩, lb⟩
end Go.Proofs.Ytlcpfnhindfkfaa
