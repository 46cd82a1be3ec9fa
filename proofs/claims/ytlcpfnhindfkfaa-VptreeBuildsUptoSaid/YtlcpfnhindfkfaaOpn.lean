/-
  What comes in, read as data, is what the walks read.
-/
import Derived.Test.YtlcpfnhindfkfaaRows
import Derived.Test.YtlcpfnhindfkfaaOb
import Derived.WalkKit
import Derived.ProofKit
import Derived.OpenShut
namespace Go.Proofs.Ytlcpfnhindfkfaa
open Go Go.RowKit Go.WW
theorem bulk_mem {H : Type} {d : DataW H} {l : List (DataW H)} (h : d ∈ l) : Rows.uptoBulk d ≤ Rows.uptoBulkAll l := by
  induction l with
  | nil => cases h
  | cons x r ih =>
    simp only [Rows.uptoBulkAll]
    rcases List.mem_cons.1 h with e | e
    · subst e; omega
    · have := ih e; omega
theorem bulk_one {H : Type} (d : DataW H) : 1 ≤ Rows.uptoBulk d := by
  cases d with
  | lit l => cases l <;> simp [Rows.uptoBulk]
  | _ => simp [Rows.uptoBulk]
theorem bulk_len {H : Type} (l : List (DataW H)) : l.length ≤ Rows.uptoBulkAll l := by
  induction l with
  | nil => simp [Rows.uptoBulkAll]
  | cons x r ih => have := bulk_one x; simp only [Rows.uptoBulkAll, List.length_cons]; omega
theorem exists_list {α : Type} {Q : Nat → α → Prop} : ∀ n : Nat, (∀ i, i < n → ∃ y, Q i y) → ∃ ys : List α, ys.length = n ∧ ∀ i y, ys[i]? = some y → Q i y
  | 0, _ => ⟨[], rfl, fun i y h => by simp at h⟩
  | n + 1, h => by
    obtain ⟨ys, hl, hq⟩ := exists_list n (fun i hi => h i (by omega))
    obtain ⟨y, hy⟩ := h n (by omega)
    refine ⟨ys ++ [y], by simp [hl], fun i z hz => ?_⟩
    rcases Nat.lt_or_ge i ys.length with hi | hi
    · rw [List.getElem?_append_left hi] at hz
      exact hq i z hz
    · rw [List.getElem?_append_right hi] at hz
      have h0 : i - ys.length = 0 := by
        have := (List.getElem?_eq_some_iff.1 hz).1
        simp at this
        omega
      rw [h0] at hz
      simp at hz
      subst hz
      rw [show i = n from by omega]
      exact hy
theorem mapM_get {α β : Type} {f : α → Option β} : ∀ {l : List α} {r : List β}, l.mapM f = some r → ∀ (i : Nat) (x : α), l[i]? = some x → f x = r[i]?
  | [], r, h, i, x, hx => by simp at hx
  | a :: l, r, h, i, x, hx => by
    simp only [List.mapM_cons, Option.pure_def, Option.bind_eq_bind, Option.bind_eq_some_iff, Option.some.injEq] at h
    obtain ⟨b, hb, bs, hbs, rfl⟩ := h
    cases i with
    | zero => simp at hx; subst hx; simpa using hb
    | succ i => simpa using mapM_get hbs i x (by simpa using hx)
theorem cells_at {w : World} {base n : Nat} {a : Addr} {c : List Value} (h : w.cells? base a n = some c) : c.length = n ∧ ∀ j u, c[j]? = some u → w.cell? (a.add j) = some u := by
  unfold World.cells? at h
  split at h
  · have hl : c.length = n := by simpa using mapM_some_length h
    refine ⟨hl, fun j u hu => ?_⟩
    have hj : j < n := by rw [← hl]; exact (List.getElem?_eq_some_iff.1 hu).1
    have := mapM_get h j j (by simp [hj])
    rw [this, hu]
  · cases h
theorem cell_spot {w : World} {a : Addr} {u : Value} (h : w.cell? a = some u) : ∃ g o, a = ⟨g, o, none⟩ ∧ g < w.heap.size := by
  obtain ⟨g, o, s⟩ := a
  unfold World.cell? at h
  split at h
  · rename_i c e f hh
    cases s with
    | none => exact ⟨g, o, rfl, (Array.getElem?_eq_some_iff.1 hh).1⟩
    | some k => simp at h
  · cases h
theorem add_none (g o n : Nat) : (⟨g, o, none⟩ : Addr).add n = ⟨g, o + n, none⟩ := by unfold Addr.add; split <;> simp_all
section
variable {H : Type} {enc : TypeId × Value → H} {P : Program} {w : World} {sp : Nat → Bool} {held : Bool}
/-- A slice that is read as data is a row that is read. -/
theorem open_rd {α : Type} {R : Rd α} {μ : α → DataW H → Prop} {e t : TypeId} (ht : P.underlying t = some (.slice e)) (hc : P.cellsOf e = R.sz) (hpos : 0 < R.sz)
    (hR : ∀ fuel cs x, DataW.trod enc P w 0 sp held fuel e cs = some x → ∃ y, R.rd w.heap.size w cs y ∧ μ y x.1) {fuel : Nat} {cs : List Value} {x : DataW H × List MemPlace} (h : DataW.trod enc P w 0 sp held fuel t cs = some x) :
    ∃ v ys, cs = [v] ∧ RdRow R e w.heap.size w v ys ∧ ys.length ≤ Rows.uptoBulk x.1 ∧ (∃ A n c, v = .slice A n c ∧ n ≤ 9223372036854775807) ∧ ∀ y ∈ ys, ∃ d, μ y d ∧ Rows.uptoBulk d ≤ Rows.uptoBulk x.1 := by
  rcases DataW.trod_slice ht h with ⟨rfl, rfl⟩ | ⟨a, len, cap, elems, rest, n, _, rfl, rfl, _, hl, hm, hlen, hel, _, _⟩
  · exact ⟨_, [], rfl, RdRow.nil .., by simp, ⟨_, _, _, rfl, by decide⟩, fun y hy => by cases hy⟩
  · have each : ∀ i, i < len → ∃ y, (∃ c, w.cells? 0 (a.add (i * R.sz)) R.sz = some c ∧ R.rd w.heap.size w c y) ∧ ∃ d, d ∈ elems.map (·.1) ∧ μ y d := by
      intro i hi
      have h1 := hel i hi
      rw [hc] at h1
      have h2 : elems[i]? = some elems[i] := List.getElem?_eq_getElem (by omega)
      rw [h2] at h1
      obtain ⟨c, hc1, hc2⟩ := Option.bind_eq_some_iff.1 h1
      obtain ⟨y, hy, hmu⟩ := hR _ _ _ hc2
      exact ⟨y, ⟨c, hc1, hy⟩, _, List.mem_map.2 ⟨_, List.getElem_mem .., rfl⟩, hmu⟩
    obtain ⟨ys, hyl, hys⟩ := exists_list len each
    subst hyl
    refine ⟨_, ys, rfl, ⟨some a, cap, rfl, hl, hm, fun h => (by cases h), fun hn => ?_⟩, ?_, ⟨_, _, _, rfl, by unfold maxLen at hm; omega⟩, fun y hy => ?_⟩
    · have h0 : 0 < ys.length := List.length_pos_iff.2 hn
      obtain ⟨⟨c, hc1, hc2⟩, _⟩ := hys 0 ys[0] (List.getElem?_eq_getElem h0)
      obtain ⟨hcl, hcc⟩ := cells_at hc1
      have hu := hcc 0 (c[0]'(by omega)) (List.getElem?_eq_getElem (by omega))
      rw [Nat.zero_mul] at hu
      obtain ⟨g, o, rfl, hg⟩ := cell_spot (a := a) hu
      refine ⟨g, o, rfl, hg, .inl hg, fun i y hi => ?_⟩
      obtain ⟨⟨c, hc1, hc2⟩, _⟩ := hys i y hi
      refine ⟨c, hc2, fun j u hj => ?_⟩
      have := (cells_at hc1).2 j u hj
      rw [add_none, add_none] at this
      exact this
    · simp only [Rows.uptoBulk]
      have := bulk_len (elems.map (·.1))
      rw [List.length_map, hlen] at this
      omega
    · obtain ⟨i, hi⟩ := List.getElem?_of_mem hy
      obtain ⟨_, d, hd, hmu⟩ := hys i y hi
      refine ⟨d, hmu, ?_⟩
      simp only [Rows.uptoBulk]
      have := bulk_mem hd
      omega
end
theorem len2 {α : Type} {l : List α} (h : l.length = 4) : ∃ a b c d, l = [a, b, c, d] := by
  match l, h with
  | [a, b, c, d], _ => exact ⟨a, b, c, d, rfl⟩
theorem len3 {α : Type} {l : List α} (h : l.length = 3) : ∃ a b c, l = [a, b, c] := by
  match l, h with
  | [a, b, c], _ => exact ⟨a, b, c, rfl⟩
theorem len8 {α : Type} {l : List α} (h : l.length = 8) : ∃ a b c d e f g i, l = [a, b, c, d, e, f, g, i] := by
  match l, h with
  | [a, b, c, d, e, f, g, i], _ => exact ⟨a, b, c, d, e, f, g, i, rfl⟩
theorem cells_int : Try.prog.cellsOf 3 = 1 := by kernel_rfl
theorem cells_u64 : Try.prog.cellsOf 32 = 1 := by kernel_rfl
theorem cells_i32 : Try.prog.cellsOf 21 = 1 := by kernel_rfl
theorem cells_str : Try.prog.cellsOf 9 = 1 := by kernel_rfl
theorem cells_vec : Try.prog.cellsOf 28 = 1 := by kernel_rfl
theorem cells_ints : Try.prog.cellsOf 26 = 1 := by kernel_rfl
theorem cells_items : Try.prog.cellsOf 25 = 1 := by kernel_rfl
theorem cells_ob : Try.prog.cellsOf 30 = 3 := by kernel_rfl
theorem cells_it : Try.prog.cellsOf 34 = 4 := by kernel_rfl
section
variable {H : Type} {enc : TypeId × Value → H} {w : World} {sp : Nat → Bool} {held : Bool} {fuel : Nat} {cs : List Value} {x : DataW H × List MemPlace}
theorem some_of {α : Type} {o : Option α} {l : List α} {i : Nat} (h : o = l[i]?) (hi : i < l.length) : ∃ y, o = some y ∧ l[i]? = some y := ⟨l[i], by rw [h, List.getElem?_eq_getElem hi], List.getElem?_eq_getElem hi⟩
theorem open_int' {t : TypeId} {k : IntKind} (ht : Try.prog.underlying t = some (.int k)) (h : DataW.trod enc Try.prog w 0 sp held fuel t cs = some x) : ∃ n, (Rd.int k).rd w.heap.size w cs n := by
  obtain ⟨n, rfl, _, hw⟩ := DataW.trod_int ht h
  exact ⟨n, rfl, hw⟩
theorem open_ob (h : DataW.trod enc Try.prog w 0 sp held fuel 30 cs = some x) : ∃ y, obR.rd w.heap.size w cs y := by
  obtain ⟨xs, n, _, _, hl, hx, hf⟩ := DataW.trod_struct Try.underlying30 h
  rw [cells_ob] at hl
  have hx : xs.length = 3 := hx
  obtain ⟨a, b, c, rfl⟩ := len3 hl
  obtain ⟨y0, h0, _⟩ := some_of (show DataW.trod enc Try.prog w 0 sp held n 3 (([a, b, c].drop 0).take (Try.prog.cellsOf 3)) = xs[0]? from hf 0 _ rfl) (by omega)
  obtain ⟨y1, h1, _⟩ := some_of (show DataW.trod enc Try.prog w 0 sp held n 28 (([a, b, c].drop 1).take (Try.prog.cellsOf 28)) = xs[1]? from hf 1 _ rfl) (by omega)
  obtain ⟨y2, h2, _⟩ := some_of (show DataW.trod enc Try.prog w 0 sp held n 9 (([a, b, c].drop 2).take (Try.prog.cellsOf 9)) = xs[2]? from hf 2 _ rfl) (by omega)
  simp only [cells_int, cells_vec, cells_str, List.drop_zero, List.drop_succ_cons, List.take_succ_cons, List.take_zero] at h0 h1 h2
  obtain ⟨tg, ha, _, hw⟩ := DataW.trod_int Try.underlying3 h0
  obtain ⟨s, hs, _, hsz⟩ := DataW.trod_string Try.underlying9 h2
  obtain ⟨v, ys, hv, hR, _⟩ := open_rd (R := i32R) (μ := fun _ _ => True) Try.underlying28 cells_i32 (by decide) (fun fuel cs x hh => by obtain ⟨n, hn⟩ := open_int' Try.underlying21 hh; exact ⟨n, hn, trivial⟩) h1
  simp only [List.cons.injEq, and_true] at ha hs hv
  subst ha hs hv
  exact ⟨⟨tg, ys, s⟩, obR_iff.2 ⟨_, rfl, hw, hR, hsz⟩⟩
theorem open_it (h : DataW.trod enc Try.prog w 0 sp held fuel 34 cs = some x) : ∃ y, itR.rd w.heap.size w cs y := by
  obtain ⟨xs, n, _, _, hl, hx, hf⟩ := DataW.trod_struct Try.underlying34 h
  rw [cells_it] at hl
  have hx : xs.length = 2 := hx
  obtain ⟨a, b, c, d, rfl⟩ := len2 hl
  obtain ⟨y0, h0, _⟩ := some_of (show DataW.trod enc Try.prog w 0 sp held n 32 (([a, b, c, d].drop 0).take (Try.prog.cellsOf 32)) = xs[0]? from hf 0 _ rfl) (by omega)
  obtain ⟨y1, h1, _⟩ := some_of (show DataW.trod enc Try.prog w 0 sp held n 30 (([a, b, c, d].drop 1).take (Try.prog.cellsOf 30)) = xs[1]? from hf 1 _ rfl) (by omega)
  simp only [cells_u64, cells_ob, List.drop_zero, List.drop_succ_cons, List.take_succ_cons, List.take_zero] at h0 h1
  obtain ⟨id, ha, _, hw⟩ := DataW.trod_int Try.underlying32 h0
  obtain ⟨y, hy⟩ := open_ob h1
  obtain ⟨v, hv, h4, h5, h6⟩ := obR_iff.1 hy
  simp only [List.cons.injEq, and_true] at ha hv
  obtain ⟨rfl, rfl, rfl⟩ := hv
  subst ha
  exact ⟨⟨id, y⟩, itR_iff.2 ⟨_, rfl, hw, hy⟩⟩
end
end Go.Proofs.Ytlcpfnhindfkfaa
