/-
  laesa: lows: how near each row may be at least.
-/
import Derived.Test.YtbjmlahnojfekaaGreatRow
import Derived.Test.YtbjmlahnojfekaaGreatLow
import Derived.Laws.MakeOwn
namespace Go.WW
open Go Go.RowKit
structure En where
  low : Int
  node : Int
  id : Int
def entR : Rd En := Rd.iso (Rd.pair (Rd.int .i64) (Rd.pair (Rd.int .i64) (Rd.int .u64))) (fun x => (x.low, x.node, x.id))
theorem entR_iff {b : Nat} {w : World} {cs : List Value} {x : En} : entR.rd b w cs x ↔ cs = [.int .i64 x.low, .int .i64 x.node, .int .u64 x.id] ∧ (Lit.int .i64 x.low).wf = true ∧ (Lit.int .i64 x.node).wf = true ∧ (Lit.int .u64 x.id).wf = true := by
  constructor
  · rintro ⟨c1, c2, rfl, ⟨rfl, h1⟩, c3, c4, rfl, ⟨rfl, h2⟩, rfl, h3⟩
    exact ⟨rfl, h1, h2, h3⟩
  · rintro ⟨rfl, h1, h2, h3⟩
    exact ⟨[_], [_, _], rfl, ⟨rfl, h1⟩, [_], [_], rfl, ⟨rfl, h2⟩, rfl, h3⟩
def lowsN (q : List Int) (rs : List (List Int)) : Nat → List En
  | 0 => []
  | k + 1 => lowsN q rs k ++ [⟨lowL q (rs.getD k []), k, 0⟩]
def lowsL (q : List Int) (rs : List (List Int)) : List En := lowsN q rs rs.length
theorem lowsN_len (q : List Int) (rs : List (List Int)) (k : Nat) : (lowsN q rs k).length = k := by
  induction k with
  | zero => rfl
  | succ k ih => simp [lowsN, ih]
theorem lowsN_at (q : List Int) (rs : List (List Int)) {k i : Nat} (h : i < k) : (lowsN q rs k)[i]? = some ⟨lowL q (rs.getD i []), i, 0⟩ := by
  induction k with
  | zero => omega
  | succ k ih =>
    rw [lowsN]
    by_cases hi : i < k
    · rw [List.getElem?_append_left (by rw [lowsN_len]; exact hi)]
      exact ih hi
    · obtain rfl : i = k := by omega
      rw [List.getElem?_append_right (by rw [lowsN_len]; omega), lowsN_len]
      simp
theorem OwnRow.made {α : Type} (R : Rd α) {e b n0 n : Nat} {w : World} {mc : Array Value} (h : mc.size = n * R.sz) (hm : n ≤ maxLen) (hn : n0 ≤ w.heap.size) : OwnRow R e b n0 (w.alloc (.cells mc e)) (.slice (some ⟨w.heap.size, 0, none⟩) 0 n) [] :=
  ⟨[], World.ownsRow_made w _ n hn hm h, rfl, fun i x c h => by simp at h⟩
end Go.WW
namespace Go.Proofs.YtbjmlahnojfekaaGreat
open Go Go.RowKit Go.WW
theorem info_ent : (Tryz.prog.info? 108).map (fun i => (i.zero, i.size, i.bytes)) = some (some (.agg #[.int .i64 0, .int .i64 0, .int .u64 0]), 3, 24) := by kernel_rfl
theorem make_ent (n : Nat) (hn : n ≤ 1048576) : ∃ mc : Array Value, mc.size = n * 3 ∧ ∀ w : World, (Instr.makeSlice 105 (.int .i64 0) (.int .i64 (n : Int))).run Tryz.prog w = .ok (.slice (some ⟨w.heap.size, 0, none⟩) 0 n) (w.alloc (.cells mc 108)) := by
  obtain ⟨i, hi, hz⟩ := Option.map_eq_some_iff.1 info_ent
  simp only [Prod.mk.injEq] at hz
  obtain ⟨h1, h2, h3⟩ := hz
  refine ⟨madeCells (Value.agg #[.int .i64 0, .int .i64 0, .int .u64 0]).cells (n * i.size), by rw [size_madeCells, h2], fun w => ?_⟩
  have := run_make (P := Tryz.prog) w 105 108 i _ Tryz.underlying105 hi h1 .i64 .i64 0 n (Int.le_refl _) (by omega) (by rw [h3]; omega) (by omega)
  rw [Int.toNat_natCast, Int.toNat_zero] at this
  exact this
theorem lowL_wf (q r : List Int) : (Lit.int .i64 (lowL q r)).wf = true := by
  have := lowN_bd q r (min q.length r.length)
  exact bd_wf ⟨this.1, by unfold lowL; omega⟩
set_option maxRecDepth 100000 in
set_option maxHeartbeats 4000000 in
theorem lows_any {own : Nat → Prop} {w : World} {t mt : Nat} {m most calls : Int} {piv : List Ob} {rows : List Lw} (b : Nat) (h : LT own w t mt m most calls piv rows) (hb : ∀ g, own g → b ≤ g) (hc : (Lit.int .i64 calls).wf = true) (x : Ob) (cx : List Value) (hx : obR.rd b w cx x) (sx : Short x) (hn : piv.length ≤ 1048576) (hr : rows.length ≤ 1048576) :
    Calls Tryz.prog 54 #[.pointer (some ⟨t, 0, none⟩), .agg cx.toArray] w fun r w' => ∃ v, r = .returned v ∧ OwnRow entR 108 0 w.heap.size w' v (lowsL (rowL m x piv) (rows.map (·.row))) ∧ Fr (fun g => g = mt) w w' ∧
      LT own w' t mt m most (wrap64 (calls + piv.length)) piv rows := by
  obtain ⟨vx, rfl, hwx, rx, hsx⟩ := obR_iff.1 hx
  obtain ⟨mc, hmc, hmk⟩ := make_ent rows.length hr
  have hm0 := h.met.lt
  have hlt : t < w.heap.size := by obtain ⟨_, _, h1, _⟩ := h.mem; exact h1.lt
  have hT1 := h.below ((Below.refl _ w).alloc (Nat.le_refl _) (.cells #[.int .i64 x.tag, vx, .string x.str] 30))
  have hx1 := obR_below hx ((Below.refl _ w).alloc (Nat.le_refl _) (.cells #[.int .i64 x.tag, vx, .string x.str] 30))
  have HH := Lib.hid (And.intro h (And.intro hb (And.intro hc (And.intro hx1 (And.intro hT1 hmc))))); clear h hb hc hx hx1 hT1 hmc rx hwx hsx
  have HMK := Lib.hid hmk; clear hmk
  go_enter Tryz.func54, Tryz.ntmps54
  go_wp2_with fail
  refine (row_any b HH.out.2.2.2.2.1 HH.out.2.1 HH.out.2.2.1 x _ HH.out.2.2.2.1 sx hn).mono ?_
  rintro er w2 ⟨vq, rfl, hQ, hF, hT⟩
  rw [World.size_alloc] at hQ
  obtain ⟨vp, vr, hrow, hP, hR, hop, hor⟩ := hT.mem
  obtain ⟨Aq, cq, hvq⟩ := hQ.slice
  subst hvq
  obtain ⟨Ar, cr, hvr⟩ := hR.slice
  subst hvr
  have c3 := hrow.cell 3
  have hlt2 := hrow.lt
  simp only [List.getElem?_cons_zero, List.getElem?_cons_succ] at c3
  have hql : (rowL m x piv).length = piv.length := by unfold rowL; rw [List.length_map]
  rw [hql] at hQ ⊢
  have hF0 : Fr (fun g => g = mt) w w2 := ((Fr.refl _ w).alloc _).trans hF (fun g hg => .inl hg)
  have hsz := hF0.size
  generalize hQd : rowL m x piv = Q at *
  have HQD := Lib.hid hQd; clear hQd
  have HT := Lib.hid (And.intro hT (And.intro hQ (And.intro hF0 (And.intro hql hsz)))); clear hT hQ hF0 hF hql hsz hop hor hP hR hrow
  have hmk := HMK.out w2
  go_wp2_with fail
  clear hmk
  have hrr : rows.length ≤ 1048576 := hr
  have HRR := Lib.hid hrr; clear hrr
  go_loopw [6, 7, 8, 25] (fun v _ _ vk wr => ∃ k : Nat, vk = .int .i64 k ∧ k ≤ rows.length ∧ OwnRow entR 108 0 w2.heap.size wr v (lowsN Q (rows.map (·.row)) k) ∧ Below w2.heap.size w2 wr) (fun _ _ _ vk _ => rows.length - (intOf vk).toNat)
  case atStart => exact ⟨0, rfl, Nat.zero_le _, OwnRow.made entR HH.out.2.2.2.2.2 (by have := HRR.out; simp [maxLen]; omega) (Nat.le_refl _), (Below.refl _ w2).alloc (Nat.le_refl _) _⟩
  case round =>
    obtain ⟨k, rfl, hk, hO, hB⟩ := hrel
    by_cases hlt' : k < rows.length
    · have hz : (k : Int) < rows.length := by omega
      have hTr := HT.out.1.below hB
      obtain ⟨vp2, vr2, hrow2, hP2, hR2, _, _⟩ := hTr.mem
      have c3' := (hB.block _ hlt2)
      have e3 : wr.cell? ⟨t, 3, none⟩ = some (.slice Ar rows.length cr) := (cell_same c3').trans c3
      have e4 := hrow2.cell 3
      simp only [List.getElem?_cons_zero, List.getElem?_cons_succ] at e4
      rw [e3] at e4
      injection e4 with e4
      subst e4
      obtain ⟨lb, cap, hlv, _, hlb, hc1, hc2, hfr, hat⟩ := hR2.at (by intro e; rw [e] at hlt'; cases hlt')
      injection hlv with e1 _ e2
      subst e1 e2
      obtain ⟨cs, hrd, hcell⟩ := hat k hlt'
      obtain ⟨v, vrow, rfl, hit, hrr⟩ := lrR_iff.1 hrd
      have d0 := hcell 0 _ rfl
      have d1 := hcell 1 _ rfl
      have d2 := hcell 2 _ rfl
      have d3 := hcell 3 _ rfl
      have d4 := hcell 4 _ rfl
      rw [show lrR.sz = 5 from rfl] at d0 d1 d2 d3 d4
      simp only [Nat.add_zero] at d0
      have hsz2 := hB.size
      have hQ1 := (HT.out.2.1.read.below (Below.mono hB (by omega))).below ((Below.refl wr.heap.size wr).alloc (Nat.le_refl _) (.cells #[.int .u64 rows[k].it.id, .int .i64 rows[k].it.ob.tag, v, .string rows[k].it.ob.str, vrow] 101))
      have hrow1 := hrr.below ((Below.refl wr.heap.size wr).alloc (Nat.le_refl _) (.cells #[.int .u64 rows[k].it.id, .int .i64 rows[k].it.ob.tag, v, .string rows[k].it.ob.str, vrow] 101))
      have hst : lowsN Q (rows.map (·.row)) (k + 1) = lowsN Q (rows.map (·.row)) k ++ [⟨lowL Q rows[k].row, k, 0⟩] := by
        rw [lowsN]
        simp [hlt']
      have hwf : (Lit.int .i64 (lowL Q rows[k].row)).wf = true := lowL_wf Q _
      obtain ⟨Av, nv, cv, rfl⟩ : ∃ A n c, v = .slice A n c := by
        obtain ⟨v', hc', _, h2⟩ := itR_iff.1 hit
        obtain ⟨v2, hc2, _, hr2, _⟩ := obR_iff.1 h2
        simp only [List.cons.injEq] at hc2
        obtain ⟨A, c, hv, _⟩ := hr2
        simp only [List.cons.injEq] at hc'
        exact ⟨_, _, _, (hc'.2.2.1.trans hc2.2.1).trans hv⟩
      obtain ⟨Ay, cy, rfl⟩ : ∃ A c, vrow = .slice A rows[k].row.length c := by obtain ⟨A, c, h1, _⟩ := hrow1; exact ⟨A, c, h1⟩
      obtain ⟨A5, c5, hv5⟩ := hO.slice
      have hln := lowsN_len Q (rows.map (·.row)) k
      rw [hln] at hv5
      subst hv5
      generalize hL : lowsN Q (rows.map (·.row)) k = L at *
      have hl8 : (L.length + 1) * 24 ≤ 140737488355328 := by have := HRR.out; omega
      have HR := Lib.hid (And.intro hO (And.intro hB (And.intro hQ1 (And.intro hrow1 (And.intro hst (And.intro hwf (And.intro hl8 (And.intro hsz2 hk))))))))
      clear hO hB hQ1 hrow1 hst hwf hl8 hsz2 hln hL hTr hrow2 hP2 hR2 hat hcell hrr hrd hit c3' hlb hc1 hc2 hfr hk
      go_wp2_with fail
      refine (low_any _ _ _ Q rows[k].row _ HR.out.2.2.1 HR.out.2.2.2.1).mono ?_
      rintro er w3 ⟨rfl, hb3⟩
      have hO3 := (HR.out.1.alloc (.cells #[.int .u64 rows[k].it.id, .int .i64 rows[k].it.ob.tag, .slice Av nv cv, .string rows[k].it.ob.str, .slice Ay rows[k].row.length cy] 101)).below hb3
      have hB3 := (HR.out.2.1.alloc HR.out.2.2.2.2.2.2.2.1 (.cells #[.int .u64 rows[k].it.id, .int .i64 rows[k].it.ob.tag, .slice Av nv cv, .string rows[k].it.ob.str, .slice Ay rows[k].row.length cy] 101)).trans (hb3.mono (by have := HR.out.2.2.2.2.2.2.2.1; simp; omega))
      obtain ⟨-, -, -, -, hst, hwf, hl8, hsz2, hk⟩ := HR.out
      generalize lowL Q rows[k].row = V at *
      have HR2 := Lib.hid (And.intro hO3 (And.intro hB3 (And.intro hst (And.intro hwf (And.intro hl8 hk))))); clear hO3 hB3 hst hwf hl8 hsz2 hk hb3 HR
      have hkw : (Lit.int .i64 (k : Int)).wf = true := bd_wf ⟨by omega, by have := HRR.out; omega⟩
      have HKW := Lib.hid hkw; clear hkw
      go_wp2_with (at_builtin; go_loud (refine wp_push (R := entR) (W := w3) rfl (.tmp 30) (.tmp 37) 105 (.agg #[.int .i64 0, .int .i64 0, .int .u64 0]) 24 rfl Tryz.underlying105 info_ent rfl (by decide) (by decide) (.slice A5 k c5) L ⟨V, k, 0⟩ #[.int .i64 V, .int .i64 k, .int .u64 0] (0, 0) rfl rfl (entR_iff.2 ⟨rfl, HR2.out.2.2.2.1, HKW.out, by show (Lit.int .u64 0).wf = true; decide⟩) HR2.out.1 HR2.out.2.1.size (fun h => by cases h) (Nat.zero_le _) HR2.out.2.2.2.2.1 ?_); intro v1 w1 hO1 hG1 _ _)
      obtain ⟨hO3, hB3, hst, hwf, hl8, hk⟩ := HR2.out
      exact ⟨⟨k + 1, by go_num, by omega, by rw [hst]; exact hO1, hB3.grown hG1 hB3.size (fun g hg => (hO3.lt _ hg).1)⟩, by simp [intOf]; omega⟩
    · obtain rfl : k = rows.length := by omega
      have HR := Lib.hid (And.intro hO hB); clear hO hB
      go_wp2_with fail
      go_ret
      obtain ⟨hO, hB⟩ := HR.out
      obtain ⟨hT, hQ, hF0, hql, hsz⟩ := HT.out
      rw [HQD.out]
      have he : lowsL Q (rows.map (·.row)) = lowsN Q (rows.map (·.row)) rows.length := by unfold lowsL; rw [List.length_map]
      exact ⟨_, rfl, by rw [he]; exact hO.base hsz, hF0.below hB hsz, hT.below hB⟩
end Go.Proofs.YtbjmlahnojfekaaGreat
