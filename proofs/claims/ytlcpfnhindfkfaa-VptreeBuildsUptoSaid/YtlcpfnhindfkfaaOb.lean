/-
  Things and items: how they are read; how far they are apart (metric.Dist, Meter.Dist, ref09.Dist).
-/
import Derived.Test.YtlcpfnhindfkfaaLone2
import Derived.Test.YtlcpfnhindfkfaaLev2
namespace Go.Proofs.Ytlcpfnhindfkfaa
open Go Go.RowKit Go.WW
structure Ob where
  tag : Int
  vec : List Int
  str : ByteArray
structure It where
  id : Int
  ob : Ob
abbrev vecR : Rd (List Int) := Rd.slice i32R 21
def obR : Rd Ob := Rd.iso (Rd.pair (Rd.int .i64) (Rd.pair vecR Rd.str)) (fun x => (x.tag, x.vec, x.str))
def itR : Rd It := Rd.iso (Rd.pair (Rd.int .u64) obR) (fun x => (x.id, x.ob))
theorem obR_iff {b : Nat} {w : World} {cs : List Value} {x : Ob} : obR.rd b w cs x ↔ ∃ v, cs = [.int .i64 x.tag, v, .string x.str] ∧ (Lit.int .i64 x.tag).wf = true ∧ RdRow i32R 21 b w v x.vec ∧ x.str.size ≤ maxLen := by
  constructor
  · rintro ⟨c1, c2, rfl, ⟨rfl, hw⟩, c3, c4, rfl, ⟨v, rfl, hv⟩, rfl, hs⟩
    exact ⟨v, rfl, hw, hv, hs⟩
  · rintro ⟨v, rfl, hw, hv, hs⟩
    exact ⟨[_], [_, _], rfl, ⟨rfl, hw⟩, [_], [_], rfl, ⟨v, rfl, hv⟩, rfl, hs⟩
theorem itR_iff {b : Nat} {w : World} {cs : List Value} {x : It} : itR.rd b w cs x ↔ ∃ v, cs = [.int .u64 x.id, .int .i64 x.ob.tag, v, .string x.ob.str] ∧ (Lit.int .u64 x.id).wf = true ∧ obR.rd b w [.int .i64 x.ob.tag, v, .string x.ob.str] x.ob := by
  constructor
  · rintro ⟨c1, c2, rfl, ⟨rfl, hw⟩, h2⟩
    obtain ⟨v, rfl, h3, h4, h5⟩ := obR_iff.1 h2
    exact ⟨v, rfl, hw, h2⟩
  · rintro ⟨v, rfl, hw, h2⟩
    exact ⟨[_], _, rfl, ⟨rfl, hw⟩, h2⟩
/-- Short enough for the model's bounds. -/
def Short (x : Ob) : Prop := x.vec.length ≤ 1048576 ∧ x.str.size ≤ 1048576
def distO (m : Int) (x y : Ob) : Int := if m = 1 then l1D x.vec y.vec else if m = 2 then hmD (LL x.str) (LL y.str) else if m = 3 then lvD (LL x.str) (LL y.str) else 0
theorem obR_below {b : Nat} {w w' : World} {cs : List Value} {x : Ob} (h : obR.rd b w cs x) (hb : Below w.heap.size w w') : obR.rd b w' cs x := obR.keep _ _ _ _ _ ⟨hb.size, fun g hg _ => hb.block g hg⟩ h
theorem itR_below {b : Nat} {w w' : World} {cs : List Value} {x : It} (h : itR.rd b w cs x) (hb : Below w.heap.size w w') : itR.rd b w' cs x := itR.keep _ _ _ _ _ ⟨hb.size, fun g hg _ => hb.block g hg⟩ h
theorem obR_lift0 (b : Nat) {w : World} {cs : List Value} {x : Ob} (h : obR.rd 0 w cs x) : obR.rd b w cs x := by
  obtain ⟨v, rfl, h1, h2, h3⟩ := obR_iff.1 h
  exact obR_iff.2 ⟨v, rfl, h1, h2.lift' (Nat.zero_le _), h3⟩
theorem bd_wf {d : Int} (h : 0 ≤ d ∧ d ≤ 9007199254740992) : (Lit.int .i64 d).wf = true := by
  have h2 : (IntKind.i64).min = -9223372036854775808 := by decide
  have h3 : (IntKind.i64).max = 9223372036854775807 := by decide
  simp only [Lit.wf, h2, h3, Bool.and_eq_true, decide_eq_true_eq]
  omega
theorem ll_len (s : ByteArray) : (LL s).length = s.size := by simp
theorem distO_bd {b b' : Nat} {w w' : World} {cx cy : List Value} {m : Int} {x y : Ob} (hx : obR.rd b w cx x) (hy : obR.rd b' w' cy y) (sx : Short x) (sy : Short y) : 0 ≤ distO m x y ∧ distO m x y ≤ 9007199254740992 := by
  obtain ⟨vx, _, _, rx, _⟩ := obR_iff.1 hx
  obtain ⟨vy, _, _, ry, _⟩ := obR_iff.1 hy
  have hx := RdRow_i32 rx
  have hy := RdRow_i32 ry
  obtain ⟨sx1, sx2⟩ := sx
  obtain ⟨sy1, sy2⟩ := sy
  unfold distO
  split
  · have := l1N_bd hx hy (max x.vec.length y.vec.length)
    have h2 : max x.vec.length y.vec.length ≤ 1048576 := by omega
    unfold l1D
    omega
  · split
    · have := hmN_bd (LL x.str) (LL y.str) (max (LL x.str).length (LL y.str).length)
      have h1 := ll_len x.str
      have h2 := ll_len y.str
      unfold hmD
      omega
    · split
      · have := lr_le (LL x.str).reverse (LL y.str).reverse
        have h1 := ll_len x.str
        have h2 := ll_len y.str
        rw [List.length_reverse, List.length_reverse] at this
        unfold lvD
        omega
      · omega
set_option maxHeartbeats 1000000 in
theorem mdist_any (b : Nat) (m : Int) (x y : Ob) (cx cy : List Value) (w : World) (hx : obR.rd b w cx x) (hy : obR.rd b w cy y) (sx : Short x) (sy : Short y) :
    Calls Try.prog 40 #[.int .i64 m, .agg cx.toArray, .agg cy.toArray] w fun e w' => e = .returned (.int .i64 (distO m x y)) ∧ Below w.heap.size w w' := by
  obtain ⟨vx, rfl, _, rx, _⟩ := obR_iff.1 hx
  obtain ⟨vy, rfl, _, ry, _⟩ := obR_iff.1 hy
  have hB : ∀ (o1 o2 : Obj), Below w.heap.size w ((w.alloc o1).alloc o2) := fun o1 o2 => ((Below.refl _ w).alloc (Nat.le_refl _) _).alloc (by simp) _
  have HB := Lib.hid hB; clear hB
  obtain ⟨sx1, sx2⟩ := sx
  obtain ⟨sy1, sy2⟩ := sy
  obtain ⟨Ax, cx, rfl, _⟩ := rx.at
  obtain ⟨Ay, cy, rfl, _⟩ := ry.at
  by_cases m1 : m = 1
  · subst m1
    have hd : distO 1 x y = l1D x.vec y.vec := by simp [distO]
    have Hd := Lib.hid hd; clear hd
    go_enter Try.func40, Try.ntmps40
    go_wp2_with fail
    refine (lone_any b _ _ x.vec y.vec _ (rx.below (HB.out _ _)) (ry.below (HB.out _ _)) sx1 sy1).mono ?_
    rintro e w' ⟨rfl, hb⟩
    go_wp2
    go_ret
    exact ⟨ret_i Hd.out.symm, (HB.out _ _).trans (hb.mono (by simp; omega))⟩
  · by_cases m2 : m = 2
    · subst m2
      have hd : distO 2 x y = hmD (LL x.str) (LL y.str) := by simp [distO]
      have Hd := Lib.hid hd; clear hd
      go_enter Try.func40, Try.ntmps40
      go_wp2_with fail
      refine (ham_any x.str y.str _ sx2 sy2).mono ?_
      rintro e w' ⟨rfl, hb⟩
      go_wp2
      go_ret
      exact ⟨ret_i Hd.out.symm, (HB.out _ _).trans (hb.mono (by simp; omega))⟩
    · by_cases m3 : m = 3
      · subst m3
        have hd : distO 3 x y = lvD (LL x.str) (LL y.str) := by simp [distO]
        have Hd := Lib.hid hd; clear hd
        go_enter Try.func40, Try.ntmps40
        go_wp2_with fail
        refine (lev_any x.str y.str _ sx2 sy2).mono ?_
        rintro e w' ⟨rfl, hb⟩
        go_wp2
        go_ret
        exact ⟨ret_i Hd.out.symm, (HB.out _ _).trans (hb.mono (by simp; omega))⟩
      · have hd : distO m x y = 0 := by simp [distO, m1, m2, m3]
        have Hd := Lib.hid hd; clear hd
        have e1 : (m == 1) = false := by simpa using m1
        have e2 : (m == 2) = false := by simpa using m2
        have e3 : (m == 3) = false := by simpa using m3
        go_enter Try.func40, Try.ntmps40
        go_wp2
        go_ret
        exact ⟨ret_i Hd.out.symm, HB.out _ _⟩
end Go.Proofs.Ytlcpfnhindfkfaa
