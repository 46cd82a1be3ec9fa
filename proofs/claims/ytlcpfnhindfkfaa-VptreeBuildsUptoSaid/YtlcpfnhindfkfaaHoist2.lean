/-
  Regions that draw: phases of reads, one effect behind each.
-/
import Derived.Test.YtlcpfnhindfkfaaHoist
namespace Go.WW
open Go Go.RowKit
section
variable {P : Program} {md : Region.Mode} {K : Act → World → Prop} {C : World → Prop}
def pickN : Nat → List Oper → List Oper
  | 0, o :: _ => [o]
  | n + 1, _ :: l => pickN n l
  | _, [] => []
theorem pickN_eq : ∀ (k : Nat) (l : List Oper) (o : Oper), l[k]? = some o → pickN k l = [o]
  | _, [], o, h => by simp at h
  | 0, a :: l, o, h => by simp at h; subst h; rfl
  | n + 1, a :: l, o, h => pickN_eq n l o (by simpa using h)
def schB (md : Region.Mode) (l : List Oper) : List (List Bool × Nat) → List Bool → Array Bool → Bool
  | [], m, listed => (m.length == l.length) && (hoistR md l.toArray m 0 listed).1 && (Region.ready md l.toArray (hoistR md l.toArray m 0 listed).2 == [])
  | (m, k) :: ps, last, listed => (m.length == l.length) && (hoistR md l.toArray m 0 listed).1 && (Region.ready md l.toArray (hoistR md l.toArray m 0 listed).2 == [k]) && schB md l ps last ((hoistR md l.toArray m 0 listed).2.setIfInBounds k true)
def schLen (l : List Oper) : List (List Bool × Nat) → List Bool → Nat
  | [], m => (pickR m l).length
  | (m, _) :: ps, last => (pickR m l).length + (schLen l ps last + 1)
def wpSch (P : Program) (l : List Oper) (K : Act → World → Prop) (C : World → Prop) : List (List Bool × Nat) → List Bool → Act → World → Prop
  | [], m, a, w => wpQuiet P l.toArray C (fun a' => K a' w) (pickR m l) a
  | (m, k) :: ps, last, a, w => wpQuiet P l.toArray C (fun a' => wpList P l.toArray (only fun a'' w' => C w' ∧ wpSch P l K C ps last a'' w') (pickN k l) a' w) (pickR m l) a
theorem closed_hoistR {ops : Array Oper} : ∀ (m : List Bool) (k : Nat) (listed : Array Bool), ClosedL md ops listed → (hoistR md ops m k listed).1 = true → ClosedL md ops (hoistR md ops m k listed).2
  | [], _, _, h, _ => h
  | false :: m, k, listed, h, hB => by
    simp only [hoistR] at hB ⊢
    exact closed_hoistR m (k + 1) listed h hB
  | true :: m, k, listed, h, hB => by
    simp only [hoistR, Bool.and_eq_true] at hB ⊢
    obtain ⟨⟨⟨hr, hf⟩, hp⟩, hB'⟩ := hB
    exact closed_hoistR m (k + 1) _ (h.set (by simpa using hr)) hB'
theorem wpAnyC_S {l : List Oper} (hs : Region.noSelect l.toArray = true) : ∀ (ps : List (List Bool × Nat)) (last : List Bool) (listed : Array Bool) (a : Act) (w : World), C w → ClosedL md l.toArray listed → schB md l ps last listed = true →
    wpSch P l K C ps last a w → wpAnyC P md l.toArray K C (fun _ => true) (schLen l ps last) listed a w
  | [], m, listed, a, w, hw, hc, hB, h => by
    simp only [schB, Bool.and_eq_true, beq_iff_eq] at hB
    obtain ⟨⟨hlen, hR⟩, hE⟩ := hB
    have := wpAnyC_R (P := P) (K := K) (late := fun _ => true) hs hw 0 m l 0 listed a hlen (fun j => by simp) hc hR (fun j hj => by cases hj) (Q := fun a' => K a' w) (fun a' ha' => ⟨hE, ha'⟩) h
    exact this
  | (m, k) :: ps, last, listed, a, w, hw, hc, hB, h => by
    simp only [schB, Bool.and_eq_true, beq_iff_eq] at hB
    obtain ⟨⟨⟨hlen, hR⟩, hE⟩, hB'⟩ := hB
    have hc1 := closed_hoistR m 0 listed hc hR
    refine wpAnyC_R (P := P) (K := K) (late := fun _ => true) hs hw (schLen l ps last + 1) m l 0 listed a hlen (fun j => by simp) hc hR (fun j hj => by cases hj) (fun a' ha' => ?_) h
    refine ⟨fun h => (by rw [hE] at h; cases h), fun i hi => ?_⟩
    have hik := hi
    rw [hE, List.mem_singleton] at hi
    subst hi
    obtain ⟨_, o, ho, _⟩ := mem_ready.1 hik
    have hpk := pickN_eq i l o (by simpa using ho)
    rw [hpk] at ha'
    have h1 : wpOp P l.toArray (only fun a' w' => C w' ∧ wpSch P l K C ps last a' w') i (fun a' w' => C w' ∧ wpSch P l K C ps last a' w') a' w := by
      unfold wpOp
      simp only [ho]
      exact ha'
    have h2 : wpOp P l.toArray (only K) i (fun a' w' => C w' ∧ wpSch P l K C ps last a' w') a' w := by
      unfold wpOp at h1 ⊢
      simp only [ho] at h1 ⊢
      split
      · rename_i hw
        simp only [hw, if_true] at h1
        rcases h1 with h1 | ⟨_, _, _, h2⟩
        · refine .inl ?_
          unfold Oper.wp at h1 ⊢
          generalize (execOp a'.eval o).run P w = r at *
          cases r with
          | ok n w' =>
            cases n <;> simp only [Oper.upon] at h1 ⊢ <;>
              first
                | exact h1
                | exact Calls.mono h1 (fun e w'' he => by cases e <;> first | exact he | exact (he : False).elim | (obtain ⟨_, _, h0⟩ := he; exact (h0 : False).elim))
          | halt x w' => cases x <;> simp only [Oper.upon] at h1 ⊢ <;> exact (h1 : False).elim
        · exact (h2 : False).elim
      · rename_i hw
        simp only [hw] at h1
        exact h1
    refine wpOp_mono (fun a' w' h3 => ⟨fun _ => h3.1, ?_⟩) h2
    exact wpAnyC_S hs ps last _ a' w' h3.1 (hc1.set hik) hB' h3.2
def schOK (md : Region.Mode) (l : List Oper) (ps : List (List Bool × Nat)) (last : List Bool) : Bool := Region.noSelect l.toArray && (schLen l ps last == l.length) && schB md l ps last (Array.replicate l.length false)
/-- THE LAW. -/
theorem wp_region_sched {id : Nat} {Q : Exit → Act → World → Prop} {a : Act} {w : World} {l : List Oper} (ps : List (List Bool × Nat)) (last : List Bool) (C : World → Prop) (hm : P.follows .mixedOrders = true) (hB : schOK .any l ps last = true) (hC : C w.drew)
    (h : wpSch P l (fun a w => Q .normal a w) C ps last a w.drew) : (Code.region id l.toArray true).wp P Q a w := by
  simp only [schOK, Bool.and_eq_true, beq_iff_eq] at hB
  obtain ⟨⟨hs, hlen⟩, hE⟩ := hB
  have hsz : l.toArray.size = l.length := by simp
  refine wp_region_any hm (wpAny_of_C (K := fun a w => Q .normal a w) (C := C) (late := fun _ => true) (fun _ _ h => h) _ _ _ _ ?_)
  have hc0 : ClosedL .any l.toArray (Array.replicate l.length false) := by
    intro j o ho hl
    rcases Nat.lt_or_ge j l.length with h' | h'
    · simp [h'] at hl
    · rw [Array.getElem?_eq_none (by simpa using h')] at ho; cases ho
  have h1 := wpAnyC_S (P := P) (K := fun a w => Q .normal a w) hs ps last _ a w.drew hC hc0 hE h
  rw [hlen] at h1
  rw [hsz]
  exact h1
end
structure CW (C : World → Prop) where
  w : World
  h : C w
theorem only_mk {K : Act → World → Prop} {a : Act} {w : World} (h : K a w) : only K .normal a w := h
theorem cut_world {P : Program} {c : Code} {Q : Exit → Act → World → Prop} {a : Act} {w : World} (F : World → Prop) (h1 : F w) (h2 : ∀ W, F W → c.wp P Q a W) : c.wp P Q a w := h2 w h1
end Go.WW
