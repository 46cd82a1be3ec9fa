/-
  Rows of one-cell elements that are laid whole (make, a literal): a block known to the cell.
-/
import Derived.Test.YtlcpfnhindfkfaaBase
import Derived.Deep.OwnRows
import Derived.Laws.CopyOwn
namespace Go.WW
open Go Go.RowKit
/-- Block g is just this row. -/
def IRow (T : Nat) (w : World) (g : Nat) (xs : List Value) : Prop := w.heap[g]? = some (.cells xs.toArray T (0, 0))
def ints (xs : List Int) : List Value := xs.map (Value.int .i64)
theorem ints_len (xs : List Int) : (ints xs).length = xs.length := by simp [ints]
theorem IRow.lt {T : Nat} {w : World} {g : Nat} {xs : List Value} (h : IRow T w g xs) : g < w.heap.size := (Array.getElem?_eq_some_iff.1 h).1
theorem IRow.cell {T : Nat} {w : World} {g : Nat} {xs : List Value} (h : IRow T w g xs) (j : Nat) : w.cell? ⟨g, j, none⟩ = xs[j]? := by
  unfold World.cell?
  unfold IRow at h
  simp [h]
theorem IRow.frozen {T : Nat} {w : World} {g : Nat} {xs : List Value} (h : IRow T w g xs) (j : Nat) : w.frozen? ⟨g, j, none⟩ = false := by
  unfold World.frozen?
  unfold IRow at h
  simp [h]
theorem IRow.set {T : Nat} {w : World} {g : Nat} {xs : List Value} (h : IRow T w g xs) (j : Nat) (u : Value) : IRow T (w.setCell ⟨g, j, none⟩ u) g (xs.set j u) := by
  unfold IRow at *
  unfold World.setCell
  have hg := (Array.getElem?_eq_some_iff.1 h).1
  have hx : w.heap[g] = .cells xs.toArray T (0, 0) := (Array.getElem?_eq_some_iff.1 h).2
  simp [hg, Array.getElem_modify_self, hx]
theorem IRow.alloc {T : Nat} {w : World} {g : Nat} {xs : List Value} (h : IRow T w g xs) (o : Obj) : IRow T (w.alloc o) g xs := (Below.heap_alloc w o g h.lt).trans h
theorem IRow.new (w : World) (xs : List Value) (T : Nat) : IRow T (w.alloc (.cells xs.toArray T)) w.heap.size xs := heap_alloc_new w _
theorem IRow.made (w : World) (z : Value) (m T : Nat) : IRow T (w.alloc (.cells (madeCells #[z] m) T)) w.heap.size (List.replicate m z) := by
  have h : madeCells #[z] m = (List.replicate m z).toArray := by
    apply Array.ext
    · simp [madeCells]
    · intro i h1 h2
      simp [madeCells, Nat.mod_one]
  rw [h]
  exact IRow.new ..
theorem IRow.kept {T : Nat} {w w' : World} {g : Nat} {xs : List Value} (h : IRow T w g xs) (hk : w'.heap[g]? = w.heap[g]?) : IRow T w' g xs := hk.trans h
theorem ints_at (xs : List Int) (j : Nat) : (ints xs)[j]? = (xs[j]?).map (Value.int .i64) := by simp [ints]
theorem ints_set (xs : List Int) (j : Nat) (x : Int) : (ints xs).set j (.int .i64 x) = ints (xs.set j x) := by simp [ints, List.map_set]
theorem ints_one (xs : List Int) : ∀ u ∈ ints xs, u.oneCell' = true := by
  intro u hu
  simp only [ints, List.mem_map] at hu
  obtain ⟨x, _, rfl⟩ := hu
  rfl
end Go.WW
