/-
  Blocks of frozen types: what only is read once it is laid (vectors, things, rows of numbers).
-/
import Derived.Test.YtlcpfnhindfkfaaFr2
namespace Go.Proofs.Ytlcpfnhindfkfaa
open Go Go.RowKit Go.WW
def FzL : List Nat := [21, 34, 3]
/-- A block of a frozen type. -/
def FrzL (w : World) (g : Nat) : Prop := ∃ c e f, w.heap[g]? = some (.cells c e f) ∧ e ∈ FzL
def nfL (own : Nat → Prop) (w : World) (g : Nat) : Prop := own g ∧ ¬ FrzL w g
theorem not_frzL {w : World} {g T : Nat} {c : Array Value} {f : Nat × Nat} (h : w.heap[g]? = some (.cells c T f)) (hT : T ∉ FzL) : ¬ FrzL w g := by
  rintro ⟨c', e, f', h1, h2⟩
  rw [h] at h1
  injection h1 with h1
  injection h1 with _ h3 _
  subst h3
  exact hT h2
theorem nfL.sta {own : Nat → Prop} {w : World} {b g : Nat} {ts : List Nat} (h : nfL own w g) (hb : ∀ g, own g → b ≤ g) (hts : ∀ e ∈ ts, e ∈ FzL := by decide) : ¬ Sta ts b w g := by
  intro hs
  revert hs
  refine fun hs => (?_ : ¬ Sta FzL b w g) (hs.mono hts)
  rintro (h1 | h1)
  · have := hb g h.1; omega
  · exact h.2 h1
abbrev MoreL (own : Nat → Prop) (w : World) : Nat → Prop := fun g => own g ∨ w.heap.size ≤ g
theorem Fr.nfL_trans {own : Nat → Prop} {w w1 w' : World} (h : Fr (nfL own w) w w1) (k : Fr (nfL (MoreL own w) w1) w1 w') : Fr (nfL own w) w w' :=
  h.trans k (fun g hg => by
    rcases Nat.lt_or_ge g w.heap.size with hl | hl
    · refine .inl ⟨?_, fun hf => hg.2 ?_⟩
      · rcases hg.1 with h1 | h1
        · exact h1
        · omega
      · obtain ⟨c, e, f, h1, h2⟩ := hf
        exact ⟨c, e, f, (h.block g hl (fun hn => hn.2 ⟨c, e, f, h1, h2⟩)).trans h1, h2⟩
    · exact .inr hl)
end Go.Proofs.Ytlcpfnhindfkfaa
