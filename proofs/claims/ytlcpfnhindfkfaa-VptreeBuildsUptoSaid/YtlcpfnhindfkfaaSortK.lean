/-
  Sorting by the kit's contract: rows of whole elements.
-/
import Derived.Test.YtlcpfnhindfkfaaCmp
import Derived.Test.YtlcpfnhindfkfaaHoist2
import Derived.Test.YtlcpfnhindfkfaaShelf
import Derived.Lib.SliceRun
import Derived.Sort.LotA
namespace Go.WW
open Go Go.RowKit Go.Sort Go.Proofs
section
variable {α : Type} [Inhabited α]
theorem flatK_toList (enc : α → List Value) (k : Nat) (hk0 : 0 < k) (hk : ∀ x, (enc x).length = k) (d : Array α) : (flatK enc k d).toList = (d.toList.map enc).flatten := by
  have hl : ((d.toList.map enc).flatten).length = d.size * k := by rw [flatten_len (n := k) (by simpa using fun x _ => hk x)]; simp
  apply List.ext_getElem?
  intro t
  by_cases ht : t < d.size * k
  · have hq : t / k < d.size := Nat.div_lt_of_lt_mul (by rw [Nat.mul_comm]; exact ht)
    have hm := Nat.mod_lt t hk0
    have h1 := get_flatK enc k d t ht
    rw [Array.getElem?_toList, getElem?_pos (flatK enc k d) t (by simpa using ht), ← getElem!_pos (flatK enc k d) t (by simpa using ht), h1]
    have h2 := flatten_at (n := k) (cs := d.toList.map enc) (i := t / k) (j := t % k) (c := enc d[t / k]!) (u := (enc d[t / k]!)[t % k]!) (by simpa using fun x _ => hk x) (by simp [hq]) (by rw [getElem!_pos (enc d[t / k]!) (t % k) (by rw [hk]; exact hm), getElem?_pos (enc d[t / k]!) (t % k) (by rw [hk]; exact hm)])
    rw [← h2]
    congr 1
    rw [Nat.mul_comm]
    exact Nat.div_add_mod t k
  · rw [List.getElem?_eq_none (by simp; omega), List.getElem?_eq_none (by omega)]
/-- A row of one's own is what the sort asks for. -/
theorem OwnRow.holds {R : Rd α} {e b n0 : Nat} {w : World} {l : List α} {g n cap : Nat} (enc : α → List Value) (hk0 : 0 < R.sz) (hR : ∀ b w cs x, R.rd b w cs x → cs = enc x) (hk : ∀ x, (enc x).length = R.sz) (h : OwnRow R e b n0 w (.slice (some ⟨g, 0, none⟩) n cap) l) : HoldsK enc R.sz w g 0 l.toArray := by
  intro t ht
  have ht' : t < l.length * R.sz := by simpa using ht
  have hn : l ≠ [] := by rintro rfl; simp at ht'
  obtain ⟨g', cap', hv, h1, h2, h3, h4, h5, h6⟩ := h.at hn
  injection hv with hv hv2 hv3
  injection hv with hv
  injection hv with hv
  subst hv
  have hq : t / R.sz < l.length := Nat.div_lt_of_lt_mul (by rw [Nat.mul_comm]; exact ht')
  have hm := Nat.mod_lt t hk0
  obtain ⟨cs, hcs, hc⟩ := h6 (t / R.sz) hq
  have := hR _ _ _ _ hcs
  subst this
  have h7 := hc (t % R.sz) _ (List.getElem?_eq_getElem (by rw [hk]; exact hm))
  rw [show t / R.sz * R.sz + t % R.sz = t by rw [Nat.mul_comm]; exact Nat.div_add_mod t R.sz] at h7
  rw [Nat.zero_add]
  refine ⟨?_, h5 t⟩
  rw [h7, get_flatK enc R.sz l.toArray t (by simpa using ht')]
  rw [getElem!_pos l.toArray (t / R.sz) (by simpa using hq)]
  simp only [List.getElem_toArray, id_eq]
  rw [getElem!_pos]
theorem heap_sortK {enc : α → List Value} {k : Nat} {w : World} {g n : Nat} {os : Array Obj} {cur : Array Value} {e : TypeId} {fr : Nat × Nat} (d : Array α) (hb : w.heap[g]? = some (.cells cur e fr)) :
    (sortWorldK enc k w g 0 n d os).heap[g]? = some (.cells (putCells id 0 (flatK enc k d) cur) e fr) := by
  have hg : g < w.heap.size := (Array.getElem?_eq_some_iff.1 hb).1
  unfold sortWorldK
  rw [heap_grow_old _ _ (by rw [size_putRowK]; exact hg)]
  simp [putRowK, putRow, mapBlock, Sort.ahead, Array.getElem?_modify, hb, onCells]
theorem grownBy_sortK {enc : α → List Value} {k : Nat} {w : World} {g n : Nat} {os : Array Obj} (d : Array α) : w.grownBy (sortWorldK enc k w g 0 n d os) (some g) := by
  refine ⟨rfl, rfl, rfl, size_sortWorldK_c enc k w g 0 n d os, fun j hj hne => ?_⟩
  unfold sortWorldK
  rw [heap_grow_old _ _ (by rw [size_putRowK]; exact hj)]
  have : g ≠ j := fun e => hne (by rw [e])
  simp [putRowK, putRow, mapBlock, Sort.ahead, Array.getElem?_modify, this]
/-- Behind the sort the same slice owns the sorted list. -/
theorem OwnRow.sorted {R : Rd α} {e n0 : Nat} {w : World} {l : List α} {g c n : Nat} {os : Array Obj} {d : Array α} (enc : α → List Value) (ok : α → Prop) (hk0 : 0 < R.sz) (hR : ∀ b w cs x, R.rd b w cs x ↔ cs = enc x ∧ ok x) (hk : ∀ x, (enc x).length = R.sz) (h : OwnRow R e 0 n0 w (.slice (some ⟨g, 0, none⟩) l.length c) l) (hp : d.toList.Perm l) :
    OwnRow R e 0 n0 (sortWorldK enc R.sz w g 0 n d os) (.slice (some ⟨g, 0, none⟩) l.length c) d.toList := by
  obtain ⟨cs, ho, hl, hr⟩ := h
  have hlen := hp.length_eq
  have hlens := OwnRow.lens hl hr
  have hfl := flatK_toList enc R.sz hk0 hk d
  refine ⟨d.toList.map enc, ?_, by simp, fun i x c' h1 h2 => ?_⟩
  · rcases ho.2 with ⟨h1, _⟩ | ⟨g', cap, cur, h1, h2, h3, h4, h5, h6, h7⟩
    · cases h1
    · injection h1 with h1 h1b h1c
      injection h1 with h1
      injection h1 with h1
      subst h1
      subst h1c
      refine ⟨?_, .inr ⟨g, c, _, by rw [hlen], h2, heap_sortK d h3, by rw [hlen]; exact h4, h5, by simpa [putCells] using h6, ?_⟩⟩
      · rw [flatten_len (n := R.sz) (by simpa using fun x _ => hk x)]
        simp
      · rw [← hfl]
        apply List.ext_getElem?
        intro j
        have hsz : (flatK enc R.sz d).size = d.toList.length * R.sz := by simp
        by_cases hj : j < d.toList.length * R.sz
        · have hcl : cur.size = c * R.sz := by simpa using h6
          have hjc : j < cur.size := by
            rw [hcl]
            exact Nat.lt_of_lt_of_le hj (Nat.mul_le_mul_right _ (by rw [hlen]; exact h4))
          rw [List.getElem?_take_of_lt hj, Array.getElem?_toList, Array.getElem?_toList]
          have hj2 : j < (flatK enc R.sz d).size := by rw [hsz]; exact hj
          rw [getElem?_pos (flatK enc R.sz d) j hj2]
          simp only [putCells, Array.getElem?_mapIdx, getElem?_pos cur j hjc, Option.map_some, Nat.zero_le, Nat.zero_add, true_and, hj2, if_true, Nat.sub_zero, id_eq]
          rw [getElem!_pos (flatK enc R.sz d) j hj2]
        · rw [List.getElem?_take_eq_none (by omega), List.getElem?_eq_none (by simp at hj ⊢; omega)]
  · rw [List.getElem?_map] at h2
    rw [h1] at h2
    simp at h2
    subst h2
    refine (hR _ _ _ _).2 ⟨rfl, ?_⟩
    have hx : x ∈ l := hp.mem_iff.1 (List.mem_of_getElem? h1)
    obtain ⟨i2, hi2⟩ := List.getElem?_of_mem hx
    have hil : i2 < cs.length := by rw [hl]; exact (List.getElem?_eq_some_iff.1 hi2).1
    exact ((hR _ _ _ _).1 (hr i2 x _ hi2 (List.getElem?_eq_getElem hil))).2
end
end Go.WW
namespace Go.Proofs.Ytlcpfnhindfkfaa
open Go Go.RowKit Go.WW
abbrev nilS : Value := .slice none 0 0
theorem results_cell_row2 {P : Program} {fn : Func} {p u : Tmp} {ty : TypeId} (h : fn.results = #[.cell p ty, .tmp u]) (tmps : Array Value) (w : World) (g : Nat) (t : TypeId) (cs : Array Value) (fr : Nat × Nat) (d : TypeDesc)
    (hp : tmps.getD p undef = .pointer (some ⟨g, 0, none⟩)) (hg : w.heap[g]? = some (.cells cs t fr))
    (hu : P.underlying ty = some d) (hd : (match d with | .struct _ | .array _ _ => true | _ => false) = true) (hi : (P.info? ty).map (·.size) = some cs.size) :
    (results fn tmps).run P w = .ok (.tuple #[.agg cs, tmps.getD u undef]) w := by
  rw [results_cell_tmp h, hp]
  simp [asAddr, run_loadVar_row w g t ty cs fr d hg hu hd hi, Result.andThen]
end Go.Proofs.Ytlcpfnhindfkfaa
