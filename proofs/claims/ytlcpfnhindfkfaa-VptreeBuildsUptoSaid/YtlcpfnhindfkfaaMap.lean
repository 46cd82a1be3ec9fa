/-
  Maps from u64 to int that the program owns: what they answer, as a function.
-/
import Derived.Test.YtlcpfnhindfkfaaIRow
import Derived.Maps.Own
import Derived.Maps.OwnSet
namespace Go.WW
open Go Go.RowKit
open Go.Maps

theorem mem_len {α : Type} [DecidableEq α] : ∀ {l L : List α}, l.Nodup → (∀ x ∈ l, x ∈ L) → l.length ≤ L.length
  | [], L, _, _ => Nat.zero_le _
  | a :: l, L, h, hs => by
    rw [List.nodup_cons] at h
    have ha := hs a List.mem_cons_self
    have := mem_len (l := l) (L := L.erase a) h.2 (fun x hx => (List.mem_erase_of_ne (fun e => h.1 (by rw [← e]; exact hx))).2 (hs x (List.mem_cons_of_mem _ hx)))
    rw [List.length_erase_of_mem ha] at this
    have : 0 < L.length := List.length_pos_of_mem ha
    simp only [List.length_cons]
    omega

abbrev W64 (x : Int) : Prop := (Lit.int .u64 x).wf = true

/-- Block b: a map of u64 numbers, as a function. -/
def MapU (P : Program) (k e : TypeId) (w : World) (b : Nat) (f : Int → Option Int) : Prop :=
  ∃ D : DataW Unit, w.ownsMap P k (plainElem P e) b (Maps.size D) D ∧ ∀ x, W64 x → Maps.has D (.int .u64 x) = (f x).isSome ∧ ∀ v, f x = some v → D.atKey (.int .u64 x) (.lit (.int .i64 0)) = .lit (.int .i64 v)

variable {P : Program} {k e t : TypeId} {w : World} {b : Nat} {f : Int → Option Int}

theorem tight {n : Nat} {D : DataW Unit} {R : Value → Option (DataW Unit × List MemPlace)} (h : w.ownsMap P k R b n D) : w.ownsMap P k R b (Maps.size D) D := by
  obtain ⟨es, clock, hb, F, hs, rfl⟩ := h
  exact ⟨es, clock, hb, F, by simp [Maps.size, length_sorted], rfl⟩

theorem MapU.made (w : World) (P : Program) (k e : TypeId) : MapU P k e (w.alloc (.map #[] 0)) w.heap.size (fun _ => none) :=
  ⟨.map [], World.ownsMap_made w P k _, fun x _ => ⟨rfl, fun v h => by cases h⟩⟩
theorem MapU.lt (h : MapU P k e w b f) : b < w.heap.size := by obtain ⟨D, h, _⟩ := h; exact h.lt
theorem MapU.kept {w' : World} (h : MapU P k e w b f) (hb : w'.heap[b]? = w.heap[b]?) : MapU P k e w' b f := by
  obtain ⟨D, ⟨es, clock, h1, h2⟩, hf⟩ := h
  exact ⟨D, ⟨es, clock, hb.trans h1, h2⟩, hf⟩
theorem MapU.isMap (h : MapU P k e w b f) : ∃ es c, w.heap[b]? = some (.map es c) := by
  obtain ⟨D, ⟨es, clock, h1, h2⟩, hf⟩ := h
  exact ⟨es, clock, h1⟩
theorem MapU.look_ok (h : MapU P k e w b f) (hk : P.underlying k = some (.int .u64)) (he : P.underlying e = some (.int .i64)) (ht : P.underlying t = some (.map k e)) (hz : (zeroValue e).run P w = .ok (.int .i64 0) w) {x : Int} (hx : W64 x) :
    ∃ v, (Instr.lookup t (.map (some b)) (.int .u64 x) true).run P w = .ok (.tuple #[.int .i64 v, .bool (f x).isSome]) w ∧ (∀ y, f x = some y → v = y) ∧ (f x = none → v = 0) := by
  obtain ⟨D, h, hf⟩ := h
  obtain ⟨v, ps, hrun, hv⟩ := h.look_ok (int_keyed hk) ht hz (plainElem_int (a := 0) he rfl) (keyOf_int_mk hk hx)
  obtain ⟨a, rfl, hz, hw⟩ := plainElem_int_inv he hv
  injection hz with hz hz2
  refine ⟨a, by rw [hrun, (hf x hx).1], fun y hy => ?_, fun hn => ?_⟩
  · rw [(hf x hx).2 y hy] at hz
    injection hz with hz
    injection hz with _ hz
    exact hz.symm
  · have := (hf x hx).1
    rw [hn] at this
    rw [Maps.atKey_of_not_has this] at hz
    injection hz with hz
    injection hz with _ hz
    exact hz.symm
theorem MapU.look (h : MapU P k e w b f) (hk : P.underlying k = some (.int .u64)) (he : P.underlying e = some (.int .i64)) (ht : P.underlying t = some (.map k e)) (hz : (zeroValue e).run P w = .ok (.int .i64 0) w) {x : Int} (hx : W64 x) :
    ∃ v, (Instr.lookup t (.map (some b)) (.int .u64 x) false).run P w = .ok (.int .i64 v) w ∧ (∀ y, f x = some y → v = y) ∧ (f x = none → v = 0) := by
  obtain ⟨D, h, hf⟩ := h
  obtain ⟨a, hrun, hz, hw⟩ := h.lookup_int (int_keyed hk) ht he hz (keyOf_int_mk hk hx)
  refine ⟨a, hrun, fun y hy => ?_, fun hn => ?_⟩
  · rw [(hf x hx).2 y hy] at hz
    injection hz with hz
    injection hz with _ hz
    exact hz.symm
  · have := (hf x hx).1
    rw [hn] at this
    rw [Maps.atKey_of_not_has this] at hz
    injection hz with hz
    injection hz with _ hz
    exact hz.symm
theorem u64_ne {x y : Int} (h : x ≠ y) : Lit.int .u64 x ≠ Lit.int .u64 y := fun e => by injection e with _ e; exact h e
theorem u64_key (x : Int) : WideAt.IsKeyLit (.int .u64 x) := trivial
theorem keys_int {x : Lit} {v : Value} (hk : P.underlying k = some (.int .u64)) (h : keyOf P k v = some x) : ∃ a, x = .int .u64 a ∧ W64 a := by
  simp only [keyOf, hk] at h
  cases v <;> simp [mapKey, hk] at h
  obtain ⟨⟨h1, h2⟩, rfl⟩ := h
  subst h1
  exact ⟨_, rfl, h2⟩
def ki : Lit → Int | .int _ a => a | _ => 0
theorem MapU.keys {D : DataW Unit} (hk : P.underlying k = some (.int .u64)) (h : w.ownsMap P k (plainElem P e) b (Maps.size D) D) : ∃ es, D = .map es ∧ (es.map (fun p => ki p.1)).Nodup ∧ ∀ p ∈ es, p.1 = .int .u64 (ki p.1) ∧ W64 (ki p.1) := by
  obtain ⟨es, hes, hp⟩ := h.tidy (int_keyed hk)
  have hkeys : ∀ p ∈ es, p.1 = .int .u64 (ki p.1) ∧ W64 (ki p.1) := by
    obtain ⟨es', c, hb, F, _, hD⟩ := h
    rw [hes] at hD
    injection hD with hD
    intro p hp
    obtain ⟨v, hv⟩ := Maps.fit_keys F p (by rw [hD] at hp; exact (Go.WideShapes.sorted_perm _).mem_iff.1 hp)
    obtain ⟨a, ha, hw⟩ := keys_int hk hv
    rw [ha]
    exact ⟨rfl, hw⟩
  refine ⟨es, hes, ?_, hkeys⟩
  rw [List.nodup_iff_pairwise_ne, List.pairwise_map]
  exact hp.imp_of_mem (fun {p q} hp hq hne e => hne (by rw [(hkeys p hp).1, (hkeys q hq).1, e]))
theorem same_iff {x : Int} {l : Lit} (h : l = .int .u64 (ki l)) : l.sameKey (.int .u64 x) = true ↔ ki l = x := by
  constructor
  · intro hs
    have := WideAt.sameKey_eq hs
    rw [this]
    rfl
  · intro hs
    rw [h, hs]
    simp [Lit.sameKey]
/-- How many keys a map has: at most as many as L, if all of them lie in L; just as many, if L's are all there. -/
theorem MapU.size_le {D : DataW Unit} (hk : P.underlying k = some (.int .u64)) (h : w.ownsMap P k (plainElem P e) b (Maps.size D) D) (hf : ∀ x, W64 x → Maps.has D (.int .u64 x) = (f x).isSome) {L : List Int} (hL : ∀ x, W64 x → f x ≠ none → x ∈ L) : Maps.size D ≤ L.length := by
  obtain ⟨es, rfl, hn, hkeys⟩ := MapU.keys hk h
  have := mem_len (L := L) hn (fun x hx => by
    obtain ⟨p, hp, rfl⟩ := List.mem_map.1 hx
    refine hL _ (hkeys p hp).2 (fun e => ?_)
    have h1 := hf _ (hkeys p hp).2
    rw [e, Maps.has_eq] at h1
    simp only [Option.isSome_none, List.any_eq_false] at h1
    exact h1 p hp ((same_iff (hkeys p hp).1).2 rfl))
  simpa [Maps.size_eq] using this
theorem MapU.size_ge {D : DataW Unit} (hk : P.underlying k = some (.int .u64)) (h : w.ownsMap P k (plainElem P e) b (Maps.size D) D) (hf : ∀ x, W64 x → Maps.has D (.int .u64 x) = (f x).isSome) {L : List Int} (hn : L.Nodup) (hL : ∀ x ∈ L, W64 x ∧ f x ≠ none) : L.length ≤ Maps.size D := by
  obtain ⟨es, rfl, _, hkeys⟩ := MapU.keys hk h
  have := mem_len (L := es.map (fun p => ki p.1)) hn (fun x hx => by
    have h1 := hf _ (hL x hx).1
    have h2 : (f x).isSome = true := by
      cases hfx : f x with
      | none => exact absurd hfx (hL x hx).2
      | some y => rfl
    rw [h2, Maps.has_eq, List.any_eq_true] at h1
    obtain ⟨p, hp, h3⟩ := h1
    exact List.mem_map.2 ⟨p, hp, (same_iff (hkeys p hp).1).1 h3⟩)
  simpa [Maps.size_eq] using this
theorem MapU.len (h : MapU P k e w b f) (hk : P.underlying k = some (.int .u64)) (ht : P.underlying t = some (.map k e)) (ty : TypeId) {L : List Int} (hn : L.Nodup) (hL : ∀ x, W64 x → (x ∈ L ↔ f x ≠ none)) (hw : ∀ x ∈ L, W64 x) :
    (Builtin.len_ #[t] ty #[.map (some b)]).run P w = .ok (.int .i64 L.length) w := by
  obtain ⟨D, h, hf⟩ := h
  have h1 := MapU.size_le hk h (fun x hx => (hf x hx).1) (L := L) (fun x hx hne => (hL x hx).2 hne)
  have h2 := MapU.size_ge hk h (fun x hx => (hf x hx).1) hn (fun x hx => ⟨hw x hx, (hL x (hw x hx)).1 hx⟩)
  rw [h.len ht ty, show Maps.size D = L.length from by omega]
def upd (f : Int → Option Int) (x : Int) (v : Option Int) : Int → Option Int := fun y => if y = x then v else f y
theorem MapU.store (h : MapU P k e w b f) (hk : P.underlying k = some (.int .u64)) (he : P.underlying e = some (.int .i64)) (ht : P.underlying t = some (.map k e)) {x v : Int} (hx : W64 x) (hv : (Lit.int .i64 v).wf = true)
    {L : List Int} (hL : ∀ x, W64 x → f x ≠ none → x ∈ L) (hm : L.length < maxLen) :
    ∃ w', (Instr.mapUpdate t (.map (some b)) (.int .u64 x) (.int .i64 v)).run P w = .ok () w' ∧ MapU P k e w' b (upd f x (some v)) ∧ w.grownBy w' (some b) := by
  obtain ⟨D, h, hf⟩ := h
  have h1 := MapU.size_le hk h (fun x hx => (hf x hx).1) (L := L) hL
  obtain ⟨w', hrun, ho, hg⟩ := h.update (int_keyed hk) ht (by omega) (keyOf_int_mk hk hx) (plainElem_int he hv)
  refine ⟨w', hrun, ⟨_, tight ho, fun y hy => ?_⟩, hg⟩
  unfold upd
  by_cases e : y = x
  · subst e
    rw [Maps.has_put_same h.isMap (u64_key _), Maps.atKey_put_same h.isMap (u64_key _)]
    simp
  · rw [Maps.has_put_other (u64_ne e)]
    simp only [e, if_false]
    refine ⟨(hf y hy).1, fun v hv => ?_⟩
    rw [Maps.atKey_put_other (u64_ne e)]
    exact (hf y hy).2 v hv
theorem MapU.drop (h : MapU P k e w b f) (hk : P.underlying k = some (.int .u64)) (ht : P.underlying t = some (.map k e)) {x : Int} (hx : W64 x) (ty : TypeId) :
    ∃ w', (Builtin.delete_ #[t, k] ty #[.map (some b), .int .u64 x]).run P w = .ok (.tuple #[]) w' ∧ MapU P k e w' b (upd f x none) ∧ w.grownBy w' (some b) := by
  obtain ⟨D, h, hf⟩ := h
  obtain ⟨w', hrun, ho, hg⟩ := h.drop (int_keyed hk) ht (keyOf_int_mk hk hx) ty
  refine ⟨w', hrun, ⟨_, tight ho, fun y hy => ?_⟩, hg.grown⟩
  unfold upd
  by_cases e : y = x
  · subst e
    rw [Maps.has_del_same]
    simp
  · rw [Maps.has_del_other (u64_ne e)]
    simp only [e, if_false]
    refine ⟨(hf y hy).1, fun v hv => ?_⟩
    rw [Maps.atKey_del_other (u64_ne e)]
    exact (hf y hy).2 v hv
/-- No number twice, none there already. -/
def freshB (f : Int → Option Int) : List Int → List Int → Bool
  | _, [] => true
  | seen, x :: r => !(decide (x ∈ seen)) && (f x).isNone && freshB f (seen ++ [x]) r
theorem freshB_cons (f : Int → Option Int) (seen : List Int) (x : Int) (r : List Int) : freshB f seen (x :: r) = (!(decide (x ∈ seen)) && (f x).isNone && freshB f (seen ++ [x]) r) := rfl
theorem len_wf {n : Nat} (h : n ≤ 1048576) : (Lit.int .i64 (n : Int)).wf = true := by
  have h2 : (IntKind.i64).min = -9223372036854775808 := by decide
  have h3 : (IntKind.i64).max = 9223372036854775807 := by decide
  simp only [Lit.wf, h2, h3, Bool.and_eq_true, decide_eq_true_eq]
  omega
end Go.WW
