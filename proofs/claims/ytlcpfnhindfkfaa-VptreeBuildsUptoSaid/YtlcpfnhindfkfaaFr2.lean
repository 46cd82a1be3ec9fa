/-
  Frames, more: cells in a class of worlds, own rows' bases, counts that wrap.
-/
import Derived.Test.YtlcpfnhindfkfaaFr
import Derived.Test.YtlcpfnhindfkfaaHoist2
namespace Go.WW
open Go Go.RowKit
theorem wrap_step (c n : Int) : wrap64 (wrap64 (c + n) + 1) = wrap64 (c + (n + 1)) := by unfold wrap64; omega
theorem wrap_wf (d : Int) : (Lit.int .i64 (wrap64 d)).wf = true := by
  have h2 : (IntKind.i64).min = -9223372036854775808 := by decide
  have h3 : (IntKind.i64).max = 9223372036854775807 := by decide
  simp only [Lit.wf, Bool.and_eq_true, decide_eq_true_eq, h2, h3]
  unfold wrap64
  omega
/-- What a count of calls may become. -/
def Wfi (c : Int) : Type := {c' : Int // (Lit.int .i64 c).wf = true → (Lit.int .i64 c').wf = true}
def Wfi.refl (c : Int) : Wfi c := ⟨c, id⟩
def Wfi.trans {c : Int} (a : Wfi c) (b : Wfi a.1) : Wfi c := ⟨b.1, fun h => b.2 (a.2 h)⟩
def Wfi.wrap (c d : Int) : Wfi c := ⟨wrap64 d, fun _ => wrap_wf d⟩
theorem wrap_zero (c : Int) (h : (Lit.int .i64 c).wf = true) : wrap64 (c + 0) = c := by
  rw [Int.add_zero]
  have h2 : (IntKind.i64).min = -9223372036854775808 := by decide
  have h3 : (IntKind.i64).max = 9223372036854775807 := by decide
  simp only [Lit.wf, Bool.and_eq_true, decide_eq_true_eq, h2, h3] at h
  unfold wrap64; omega
theorem IRow.cw {C0 : World → Prop} {T g : Nat} {W : World} {xs : List Value} (h : IRow T W g xs) (hC : ∀ w', C0 w' → w'.heap[g]? = W.heap[g]?) : ∀ (z : CW C0) (j : Nat), z.w.cell? ⟨g, j, none⟩ = xs[j]? := fun z j => (cell_same (hC z.w z.h)).trans (h.cell j)
theorem OwnRow.base {α : Type} {R : Rd α} {e b n0 n1 : Nat} {w : World} {v : Value} {l : List α} (h : OwnRow R e b n0 w v l) (hn : n1 ≤ n0) : OwnRow R e b n1 w v l := by
  obtain ⟨cs, ho, hl, hr⟩ := h
  refine ⟨cs, ⟨ho.1, ?_⟩, hl, hr⟩
  rcases ho.2 with h0 | ⟨g, cap, cur, rfl, hb, hh⟩
  · exact .inl h0
  · exact .inr ⟨g, cap, cur, rfl, Nat.le_trans hn hb, hh⟩
end Go.WW
