/-
  metric.New, bktree.New, Gone.
-/
import Derived.Test.YtjdcemmodkdajaaBulk
namespace Go.Proofs.Ytjdcemmodkdajaa
open Go Go.RowKit Go.WW
set_option maxHeartbeats 1000000 in
theorem mnew_any (w : World) (m : Int) : Calls Try.prog 8 #[.int .i64 m] w fun r w' => r = .returned (.pointer (some ⟨w.heap.size, 0, none⟩)) ∧ w' = w.alloc (.cells #[.int .i64 m, .int .i64 0] 83) := by
  go_enter Try.func8, Try.ntmps8
  go_wp2
  go_ret
  exact ⟨rfl, rfl⟩
set_option maxHeartbeats 1000000 in
theorem new_any (w : World) (mt : Nat) (m c : Int) (hM : IRow 83 w mt [.int .i64 m, .int .i64 c]) : Calls Try.prog 7 #[.pointer (some ⟨mt, 0, none⟩)] w fun r w' => ∃ t, r = .returned (.pointer (some ⟨t, 0, none⟩)) ∧ Below w.heap.size w w' ∧
    Tr (fun g => g = mt ∨ w.heap.size ≤ g) w' t mt m [] 0 (fun _ => none) := by
  have hmm := @run_makeMap Try.prog
  go_enter Try.func7, Try.ntmps7
  go_wp2
  go_ret
  have hB : Below w.heap.size w ((w.alloc (.map #[] 0)).alloc (.cells #[.pointer (some ⟨mt, 0, none⟩), .slice none 0 0, .map (some w.heap.size), .int .i64 0] 81)) := ((Below.refl _ w).alloc (Nat.le_refl _) _).alloc (by simp) _
  have hrow := IRow.new (w.alloc (.map #[] 0)) [.pointer (some ⟨mt, 0, none⟩), .slice none 0 0, .map (some w.heap.size), .int .i64 0] 81
  rw [World.size_alloc] at hrow
  have hmap := MapU.made w Try.prog 33 3
  refine ⟨w.heap.size + 1, rfl, hB, ⟨.slice none 0 0, w.heap.size, [], hrow, OwnRow.nil .., rfl, (fun i v hv => by simp at hv), (fun i j u v g hu => by simp at hu), hmap.kept (Below.heap_alloc _ _ _ hmap.lt), .inr (by omega), .inr (Nat.le_refl _), (fun g hg => by cases hg), (fun v hv => by cases hv)⟩, ⟨c, hM.kept (hB.block mt hM.lt)⟩, .inl rfl, (fun k n hk => by simp at hk), (fun n hn => by cases hn), TI.nil⟩
set_option maxHeartbeats 1000000 in
theorem gone_any {own : Nat → Prop} {w : World} {t mt : Nat} {m gone : Int} {l : List Nd} {f : Int → Option Int} (h : Tr own w t mt m l gone f) : Calls Try.prog 21 #[.pointer (some ⟨t, 0, none⟩)] w fun r w' => r = .returned (.int .i64 gone) ∧ w' = w := by
  obtain ⟨lv, mb, kv, hK⟩ := h.mem
  have c0 := hK.row.cell
  clear h hK
  go_enter Try.func21, Try.ntmps21
  go_wp2
  go_ret
  exact ⟨rfl, rfl⟩
end Go.Proofs.Ytjdcemmodkdajaa
