/-
  ref05: Less and Same of one thing.
-/
import Derived.Test.YtjdcemmodkdajaaPure
import Derived.Test.YtjdcemmodkdajaaHoist2
namespace Go.Proofs.Ytjdcemmodkdajaa
open Go Go.RowKit Go.WW
theorem bytesLess_self : ∀ l, Op.bytesLess l l = false
  | [] => rfl
  | a :: r => by simp [Op.bytesLess, bytesLess_self r]
set_option maxRecDepth 100000 in
set_option maxHeartbeats 2000000 in
theorem less_any (b : Nat) (x : Ob) (cx cy : List Value) (w : World) (hx : obR.rd b w cx x) (hy : obR.rd b w cy x) :
    Calls Try.prog 56 #[.agg cx.toArray, .agg cy.toArray] w fun e w' => e = .returned (.bool false) ∧ Below w.heap.size w w' := by
  obtain ⟨vx, rfl, _, rx, _⟩ := obR_iff.1 hx
  obtain ⟨vy, rfl, _, ry, _⟩ := obR_iff.1 hy
  have hlen := rx.len
  obtain ⟨Ax, cx, rfl, _⟩ := rx.at
  obtain ⟨Ay, cy, rfl, _⟩ := ry.at
  obtain ⟨W, hW⟩ : ∃ W, W = (w.alloc (.cells #[.int .i64 x.tag, .slice Ax x.vec.length cx, .string x.str] 36)).alloc (.cells #[.int .i64 x.tag, .slice Ay x.vec.length cy, .string x.str] 36) := ⟨_, rfl⟩
  have hB : Below w.heap.size w W := by rw [hW]; exact ((Below.refl _ w).alloc (Nat.le_refl _) _).alloc (by simp) _
  have hI1 : IRow 36 W w.heap.size [.int .i64 x.tag, .slice Ax x.vec.length cx, .string x.str] := by rw [hW]; exact (IRow.new w _ _).alloc _
  have hI2 : IRow 36 W (w.heap.size + 1) [.int .i64 x.tag, .slice Ay x.vec.length cy, .string x.str] := by
    have := IRow.new (w.alloc (.cells #[.int .i64 x.tag, .slice Ax x.vec.length cx, .string x.str] 36)) [.int .i64 x.tag, .slice Ay x.vec.length cy, .string x.str] 36
    rw [World.size_alloc] at this
    rw [hW]; exact this
  have rx' := rx.below hB
  have ry' := ry.below hB
  have c1 := hI1.cell
  have c2 := hI2.cell
  have HH := Lib.hid (And.intro hB (And.intro rx' ry')); clear hB rx' ry' hI1 hI2
  go_enter Try.func56, Try.ntmps56
  go_wp2_with fail
  rw [← hW]
  clear hW
  go_loopw [5] (fun i wr => ∃ k : Nat, k ≤ x.vec.length ∧ i = .int .i64 k ∧ ∃ n, wr = W.drewN n) (fun i _ => x.vec.length - (intOf i).toNat)
  case atStart => exact ⟨0, Nat.zero_le _, rfl, 0, rfl⟩
  case round =>
    obtain ⟨k, hk, rfl, n, rfl⟩ := hrel
    by_cases hlt : k < x.vec.length
    · have z1 : (k : Int) < x.vec.length := by omega
      obtain ⟨ga, oa, rfl, _, hca⟩ := HH.out.2.1.intAt k hlt
      obtain ⟨gb, ob, rfl, _, hcb⟩ := HH.out.2.2.intAt k hlt
      generalize x.vec.getD k 0 = y at *
      go_wp2
      go_quiet (fail)
      go_wp2
      exact ⟨⟨k + 1, by omega, by go_num, _, rfl⟩, by simp [intOf]; omega⟩
    · go_wp2
      go_ret
      exact ⟨by rw [bytesLess_self]; rfl, HH.out.1.trans ((bl_drewN W n).mono HH.out.1.size)⟩
set_option maxRecDepth 100000 in
set_option maxHeartbeats 2000000 in
theorem osame_any (b : Nat) (x : Ob) (cx cy : List Value) (w : World) (hx : obR.rd b w cx x) (hy : obR.rd b w cy x) :
    Calls Try.prog 37 #[.agg cx.toArray, .agg cy.toArray] w fun e w' => e = .returned (.bool true) ∧ Below w.heap.size w w' := by
  obtain ⟨vx, rfl, _, rx, _⟩ := obR_iff.1 hx
  obtain ⟨vy, rfl, _, ry, _⟩ := obR_iff.1 hy
  have hlen := rx.len
  obtain ⟨Ax, cx, rfl, _⟩ := rx.at
  obtain ⟨Ay, cy, rfl, _⟩ := ry.at
  obtain ⟨W, hW⟩ : ∃ W, W = (w.alloc (.cells #[.int .i64 x.tag, .slice Ax x.vec.length cx, .string x.str] 36)).alloc (.cells #[.int .i64 x.tag, .slice Ay x.vec.length cy, .string x.str] 36) := ⟨_, rfl⟩
  have hB : Below w.heap.size w W := by rw [hW]; exact ((Below.refl _ w).alloc (Nat.le_refl _) _).alloc (by simp) _
  have hI1 : IRow 36 W w.heap.size [.int .i64 x.tag, .slice Ax x.vec.length cx, .string x.str] := by rw [hW]; exact (IRow.new w _ _).alloc _
  have hI2 : IRow 36 W (w.heap.size + 1) [.int .i64 x.tag, .slice Ay x.vec.length cy, .string x.str] := by
    have := IRow.new (w.alloc (.cells #[.int .i64 x.tag, .slice Ax x.vec.length cx, .string x.str] 36)) [.int .i64 x.tag, .slice Ay x.vec.length cy, .string x.str] 36
    rw [World.size_alloc] at this
    rw [hW]; exact this
  have hx' := obR_below hx hB
  have hy' := obR_below hy hB
  have c1 := hI1.cell
  have c2 := hI2.cell
  have HH := Lib.hid (And.intro hB (And.intro hx' (And.intro hy' (And.intro hI1 hI2)))); clear hB hx' hy' hI1 hI2 rx ry hx hy
  go_enter Try.func37, Try.ntmps37
  go_wp2_with fail
  rw [← hW]
  clear hW
  refine (less_any b x _ _ W HH.out.2.1 HH.out.2.2.1).mono ?_
  rintro er w1 ⟨rfl, hb1⟩
  have c3 := (HH.out.2.2.2.1.kept (hb1.block _ HH.out.2.2.2.1.lt)).cell
  have c4 := (HH.out.2.2.2.2.kept (hb1.block _ HH.out.2.2.2.2.lt)).cell
  have H1 := Lib.hid hb1; clear hb1
  go_wp2_with fail
  refine (less_any b x _ _ w1 (obR_below HH.out.2.2.1 H1.out) (obR_below HH.out.2.1 H1.out)).mono ?_
  rintro er w2 ⟨rfl, hb2⟩
  have H2 := Lib.hid hb2; clear hb2
  go_wp2_with fail
  go_ret
  exact ⟨rfl, HH.out.1.trans ((H1.out.trans (H2.out.mono H1.out.size)).mono HH.out.1.size)⟩
end Go.Proofs.Ytjdcemmodkdajaa
