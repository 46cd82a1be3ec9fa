/-
  split: the walks: order, middle, around, Nth, Halve, Bounds.
-/
import Derived.Test.YtlcpfnhindfkfaaSortK
import Derived.Test.YtlcpfnhindfkfaaFarP
import Derived.WalkMore
namespace Go.WW
open Go Go.RowKit Go.Sort Go.Proofs
def faR : Rd Fa := Rd.iso (Rd.pair (Rd.int .i64) (Rd.int .i64)) (fun x => (x.pl, x.ds))
def encF (x : Fa) : List Value := [.int .i64 x.pl, .int .i64 x.ds]
def okF (x : Fa) : Prop := (Lit.int .i64 x.pl).wf = true ∧ (Lit.int .i64 x.ds).wf = true
theorem faR_iff {b : Nat} {w : World} {cs : List Value} {x : Fa} : faR.rd b w cs x ↔ cs = encF x ∧ okF x := by
  constructor
  · rintro ⟨c1, c2, rfl, ⟨rfl, h1⟩, ⟨rfl, h2⟩⟩
    exact ⟨rfl, h1, h2⟩
  · rintro ⟨rfl, h1, h2⟩
    exact ⟨[_], [_], rfl, ⟨rfl, h1⟩, ⟨rfl, h2⟩⟩
def cfF (x y : Fa) : Int := if cmpI x.ds y.ds = 0 then cmpI x.pl y.pl else cmpI x.ds y.ds
theorem cfF_lt (x y : Fa) : decide (cfF x y < 0) = ltF x y := by
  unfold cfF cmpI ltF
  apply decide_eq_decide.2
  repeat' split
  all_goals omega
theorem cfF_gt (x y : Fa) : decide (0 < cfF x y) = ltF y x := by
  unfold cfF cmpI ltF
  apply decide_eq_decide.2
  repeat' split
  all_goals omega
theorem ltOfF (x y : Fa) : ltOf cfF x y = ltF x y := cfF_lt x y
theorem swoF : SWO (ltOf cfF) where
  irrefl x := by rw [ltOfF]; exact ltF_irrefl x
  trans x y z h1 h2 := by rw [ltOfF] at *; exact ltF_trans h1 h2
  ntrans x y z h1 h2 := by rw [ltOfF] at *; exact leF_trans h2 h1
end Go.WW
namespace Go.Proofs.Ytlcpfnhindfkfaa
open Go Go.RowKit Go.WW Go.Sort
theorem info_far : (Try.prog.info? 99).map (fun i => (i.zero, i.size, i.bytes)) = some (some (.agg #[.int .i64 0, .int .i64 0]), 2, 16) := by kernel_rfl
set_option maxHeartbeats 1000000 in
theorem forder_any (x y : Fa) (w : World) : Calls Try.prog 45 #[.agg (encF x).toArray, .agg (encF y).toArray] w fun e w' => e = .returned (.int .i64 (cfF x y)) ∧ ∃ q os', w' = grow (w.drewN q) os' := by
  show Calls Try.prog 45 #[.agg #[.int .i64 x.pl, .int .i64 x.ds], .agg #[.int .i64 y.pl, .int .i64 y.ds]] w _
  obtain ⟨V, hv⟩ : ∃ V, V = cfF x y := ⟨_, rfl⟩
  rw [← hv]
  have HV := Lib.hid (show V = if cmpI x.ds y.ds = 0 then cmpI x.pl y.pl else cmpI x.ds y.ds from hv); clear hv
  go_enter Try.func45, Try.ntmps45
  go_wp2_with fail
  refine wp_region_hoist [true, true, true, true, false, true, true, true, true, false, false, false, false] 1 (fun w' => ∃ n, w' = World.drewN _ n) (by kernel_rfl) (by kernel_rfl) ⟨1, rfl⟩ ?_
  simp only [pickR, pickE, List.take, List.drop, wpLate]
  repeat (go_big_quiet_step (fail))
  refine wpQuiet_nil ?_
  go_wp2_with fail
  refine (cmpi_any _ x.ds y.ds).mono ?_
  rintro er w1 ⟨rfl, rfl⟩
  go_wp2_with fail
  apply only_mk; refine And.intro ⟨1, rfl⟩ ?_
  go_wp2_with fail
  refine (cmpi_any _ x.pl y.pl).mono ?_
  rintro er w1 ⟨rfl, rfl⟩
  generalize cmpI x.ds y.ds = c1 at *
  generalize cmpI x.pl y.pl = c2 at *
  go_wp2_with fail
  have hi := IRow.new ((w.alloc (.cells #[.int .i64 x.pl, .int .i64 x.ds] 99)).alloc (.cells #[.int .i64 y.pl, .int .i64 y.ds] 99)) [.int .i64 c1, .int .i64 c2] 3
  rw [World.size_alloc, World.size_alloc] at hi
  refine (or_any _ _ c1 c2 ?_).mono ?_
  · exact hi.kept rfl
  rintro er w1 ⟨rfl, rfl⟩
  rw [← HV.out]
  go_wp2
  simp only [only, Exit.then]
  go_wp2
  go_ret
  exact ⟨rfl, 1, _, by rw [alloc_eq_grow, alloc_eq_grow, alloc_eq_grow, grow_grow, grow_grow]; rfl⟩
theorem cmpLaysF (blk size : Nat) (w : World) : CmpLays Try.prog 45 #[] encF 2 cfF blk 0 size w := fun _ _ _ _ x y => forder_any x y _
theorem isAggF (w : World) : (isAgg 99).run Try.prog w = .ok true w := by kernel_rfl
theorem sizeOfF (w : World) : (Go.sizeOf 99).run Try.prog w = .ok 2 w := by kernel_rfl
/-- Some fars sorted: a permutation of them. -/
theorem fsort_any (w : World) (g c : Nat) (l : List Fa) (hO : OwnRow faR 99 0 g w (.slice (some ⟨g, 0, none⟩) l.length c) l) (hl : l.length ≤ 1048576) (hg : g < w.heap.size) :
    Calls Try.prog 59 #[.slice (some ⟨g, 0, none⟩) l.length c, .func (.func 45) #[] #[]] w fun e w' => e = .returned (.tuple #[]) ∧ (∃ l', l'.Perm l ∧ OwnRow faR 99 0 g w' (.slice (some ⟨g, 0, none⟩) l.length c) l') ∧ w.grownBy w' (some g) := by
  have hH := hO.holds encF (by decide) (fun b w cs x h => (faR_iff.1 h).1) (fun _ => rfl)
  have eg : ∀ args w, (callFunc 45 args).run Try.prog w = .ok (.enter 45 args) w := enters_of Try.func45 (by kernel_rfl) rfl
  have hcon := AnyQ.slices_SortFunc Try.sortFar 2 isAggF sizeOfF encF (fun _ => rfl) (fun x v hv => by simp [encF] at hv; rcases hv with rfl | rfl <;> rfl) cfF swoF 45 #[] g 0 c l.toArray w eg (cmpLaysF g l.toArray.size w) hH hg (by simp; omega)
  change Calls Try.prog 59 _ _ _ at hcon
  rw [List.size_toArray] at hcon
  refine hcon.mono ?_
  rintro er w2 ⟨rfl, d', n, os, hp, hs, hw⟩
  have hpp : d'.toList.Perm l := by
    have h1 := hp.2.2
    have h2 : d'.size = l.length := by simpa using hp.1
    rw [Array.extract_eq_self_of_le (by omega), Array.extract_eq_self_of_le (by simp)] at h1
    simpa using h1
  have hO2 := hO.sorted (n := n) (os := os) (d := d') encF okF (by decide) (fun b w cs x => faR_iff) (fun _ => rfl) hpp
  have hG := grownBy_sortK (enc := encF) (k := 2) (w := w) (g := g) (n := n) (os := os) d'
  have hsz : faR.sz = 2 := rfl
  rw [hsz] at hO2
  rw [← hw] at hO2 hG
  exact ⟨rfl, ⟨_, hpp, hO2⟩, hG⟩
end Go.Proofs.Ytlcpfnhindfkfaa
