/-
  hits.Sort: the hits in the order of hits.Cmp (the kit's contract of slices.SortFunc).
-/
import Derived.Test.YtlcpfnhindfkfaaGreatCmp
import Derived.Test.YtlcpfnhindfkfaaGreatHoist2
import Derived.Test.YtlcpfnhindfkfaaGreatShelf
import Derived.Lib.SliceRun
import Derived.Sort.LotA
namespace Go.WW
open Go Go.RowKit Go.Sort Go.Proofs
/-- A hit. -/
structure Ht where
  id : Int
  ds : Int
instance : Inhabited Ht := ⟨⟨0, 0⟩⟩
def hitR : Rd Ht := Rd.iso (Rd.pair (Rd.int .u64) (Rd.int .i64)) (fun x => (x.id, x.ds))
def encH (x : Ht) : List Value := [.int .u64 x.id, .int .i64 x.ds]
def okH (x : Ht) : Prop := (Lit.int .u64 x.id).wf = true ∧ (Lit.int .i64 x.ds).wf = true
theorem hitR_iff {b : Nat} {w : World} {cs : List Value} {x : Ht} : hitR.rd b w cs x ↔ cs = encH x ∧ okH x := by
  constructor
  · rintro ⟨c1, c2, rfl, ⟨rfl, h1⟩, ⟨rfl, h2⟩⟩
    exact ⟨rfl, h1, h2⟩
  · rintro ⟨rfl, h1, h2⟩
    exact ⟨[_], [_], rfl, ⟨rfl, h1⟩, ⟨rfl, h2⟩⟩
def cfH (x y : Ht) : Int := if cmpI x.ds y.ds = 0 then cmpI x.id y.id else cmpI x.ds y.ds
theorem ltH_iff (x y : Ht) : ltOf cfH x y = true ↔ x.ds < y.ds ∨ (x.ds = y.ds ∧ x.id < y.id) := by
  unfold ltOf cfH cmpI
  simp only [decide_eq_true_eq]
  repeat' split
  all_goals omega
theorem ltH_false (x y : Ht) : ltOf cfH x y = false ↔ y.ds < x.ds ∨ (x.ds = y.ds ∧ y.id ≤ x.id) := by
  rw [← Bool.not_eq_true, ltH_iff]
  omega
theorem swoH : SWO (ltOf cfH) where
  irrefl x := by rw [ltH_false]; omega
  trans x y z h1 h2 := by rw [ltH_iff] at *; omega
  ntrans x y z h1 h2 := by rw [ltH_false] at *; omega
theorem eqH (x y : Ht) (h1 : ltOf cfH x y = false) (h2 : ltOf cfH y x = false) : x = y := by
  rw [ltH_false] at h1 h2
  obtain ⟨a, b⟩ := x
  obtain ⟨c, d⟩ := y
  simp only [Ht.mk.injEq] at *
  omega
/-- The hits, nearest first, then by number. -/
def sortH (l : List Ht) : List Ht := l.mergeSort (fun x y => !ltOf cfH y x)
section
variable {α : Type} [Inhabited α]
theorem flatK_toList (enc : α → List Value) (k : Nat) (hk0 : 0 < k) (hk : ∀ x, (enc x).length = k) (d : Array α) : (flatK enc k d).toList = (d.toList.map enc).flatten := by
  have hl : ((d.toList.map enc).flatten).length = d.size * k := by rw [flatten_len (n := k) (by simpa using fun x _ => hk x)]; simp
  apply List.ext_getElem?
  intro t
  by_cases ht : t < d.size * k
  · have hq : t / k < d.size := Nat.div_lt_of_lt_mul (by rw [Nat.mul_comm]; exact ht)
    have hm := Nat.mod_lt t hk0
    have h1 := get_flatK enc k d t ht
    rw [Array.getElem?_toList, getElem?_pos (flatK enc k d) t (by simpa using ht), ← getElem!_pos (flatK enc k d) t (by simpa using ht), h1]
    have h2 := flatten_at (n := k) (cs := d.toList.map enc) (i := t / k) (j := t % k) (c := enc d[t / k]!) (u := (enc d[t / k]!)[t % k]!) (by simpa using fun x _ => hk x) (by simp [hq]) (by rw [getElem!_pos (enc d[t / k]!) (t % k) (by rw [hk]; exact hm), getElem?_pos (enc d[t / k]!) (t % k) (by rw [hk]; exact hm)])
    rw [← h2]
    congr 1
    rw [Nat.mul_comm]
    exact Nat.div_add_mod t k
  · rw [List.getElem?_eq_none (by simp; omega), List.getElem?_eq_none (by omega)]
/-- A row of one's own is what the sort asks for. -/
theorem OwnRow.holds {R : Rd α} {e b n0 : Nat} {w : World} {l : List α} {g n cap : Nat} (enc : α → List Value) (hk0 : 0 < R.sz) (hR : ∀ b w cs x, R.rd b w cs x → cs = enc x) (hk : ∀ x, (enc x).length = R.sz) (h : OwnRow R e b n0 w (.slice (some ⟨g, 0, none⟩) n cap) l) : HoldsK enc R.sz w g 0 l.toArray := by
  intro t ht
  have ht' : t < l.length * R.sz := by simpa using ht
  have hn : l ≠ [] := by rintro rfl; simp at ht'
  obtain ⟨g', cap', hv, h1, h2, h3, h4, h5, h6⟩ := h.at hn
  injection hv with hv hv2 hv3
  injection hv with hv
  injection hv with hv
  subst hv
  have hq : t / R.sz < l.length := Nat.div_lt_of_lt_mul (by rw [Nat.mul_comm]; exact ht')
  have hm := Nat.mod_lt t hk0
  obtain ⟨cs, hcs, hc⟩ := h6 (t / R.sz) hq
  have := hR _ _ _ _ hcs
  subst this
  have h7 := hc (t % R.sz) _ (List.getElem?_eq_getElem (by rw [hk]; exact hm))
  rw [show t / R.sz * R.sz + t % R.sz = t by rw [Nat.mul_comm]; exact Nat.div_add_mod t R.sz] at h7
  rw [Nat.zero_add]
  refine ⟨?_, h5 t⟩
  rw [h7, get_flatK enc R.sz l.toArray t (by simpa using ht')]
  rw [getElem!_pos l.toArray (t / R.sz) (by simpa using hq)]
  simp only [List.getElem_toArray, id_eq]
  rw [getElem!_pos]
theorem heap_sortK {enc : α → List Value} {k : Nat} {w : World} {g n : Nat} {os : Array Obj} {cur : Array Value} {e : TypeId} {fr : Nat × Nat} (d : Array α) (hb : w.heap[g]? = some (.cells cur e fr)) :
    (sortWorldK enc k w g 0 n d os).heap[g]? = some (.cells (putCells id 0 (flatK enc k d) cur) e fr) := by
  have hg : g < w.heap.size := (Array.getElem?_eq_some_iff.1 hb).1
  unfold sortWorldK
  rw [heap_grow_old _ _ (by rw [size_putRowK]; exact hg)]
  simp [putRowK, putRow, mapBlock, Sort.ahead, Array.getElem?_modify, hb, onCells]
theorem grownBy_sortK {enc : α → List Value} {k : Nat} {w : World} {g n : Nat} {os : Array Obj} (d : Array α) : w.grownBy (sortWorldK enc k w g 0 n d os) (some g) := by
  refine ⟨rfl, rfl, rfl, size_sortWorldK_c enc k w g 0 n d os, fun j hj hne => ?_⟩
  unfold sortWorldK
  rw [heap_grow_old _ _ (by rw [size_putRowK]; exact hj)]
  have : g ≠ j := fun e => hne (by rw [e])
  simp [putRowK, putRow, mapBlock, Sort.ahead, Array.getElem?_modify, this]
/-- Behind the sort the same slice owns the sorted list. -/
theorem OwnRow.sorted {R : Rd α} {e n0 : Nat} {w : World} {l : List α} {g c n : Nat} {os : Array Obj} {d : Array α} (enc : α → List Value) (ok : α → Prop) (hk0 : 0 < R.sz) (hR : ∀ b w cs x, R.rd b w cs x ↔ cs = enc x ∧ ok x) (hk : ∀ x, (enc x).length = R.sz) (h : OwnRow R e 0 n0 w (.slice (some ⟨g, 0, none⟩) l.length c) l) (hp : d.toList.Perm l) :
    OwnRow R e 0 n0 (sortWorldK enc R.sz w g 0 n d os) (.slice (some ⟨g, 0, none⟩) l.length c) d.toList := by
  obtain ⟨cs, ho, hl, hr⟩ := h
  have hlen := hp.length_eq
  have hlens := OwnRow.lens hl hr
  have hfl := flatK_toList enc R.sz hk0 hk d
  refine ⟨d.toList.map enc, ?_, by simp, fun i x c' h1 h2 => ?_⟩
  · rcases ho.2 with ⟨h1, _⟩ | ⟨g', cap, cur, h1, h2, h3, h4, h5, h6, h7⟩
    · cases h1
    · injection h1 with h1 h1b h1c
      injection h1 with h1
      injection h1 with h1
      subst h1
      subst h1c
      refine ⟨?_, .inr ⟨g, c, _, by rw [hlen], h2, heap_sortK d h3, by rw [hlen]; exact h4, h5, by simpa [putCells] using h6, ?_⟩⟩
      · rw [flatten_len (n := R.sz) (by simpa using fun x _ => hk x)]
        simp
      · rw [← hfl]
        apply List.ext_getElem?
        intro j
        have hsz : (flatK enc R.sz d).size = d.toList.length * R.sz := by simp
        by_cases hj : j < d.toList.length * R.sz
        · have hcl : cur.size = c * R.sz := by simpa using h6
          have hjc : j < cur.size := by
            rw [hcl]
            exact Nat.lt_of_lt_of_le hj (Nat.mul_le_mul_right _ (by rw [hlen]; exact h4))
          rw [List.getElem?_take_of_lt hj, Array.getElem?_toList, Array.getElem?_toList]
          have hj2 : j < (flatK enc R.sz d).size := by rw [hsz]; exact hj
          rw [getElem?_pos (flatK enc R.sz d) j hj2]
          simp only [putCells, Array.getElem?_mapIdx, getElem?_pos cur j hjc, Option.map_some, Nat.zero_le, Nat.zero_add, true_and, hj2, if_true, Nat.sub_zero, id_eq]
          rw [getElem!_pos (flatK enc R.sz d) j hj2]
        · rw [List.getElem?_take_eq_none (by omega), List.getElem?_eq_none (by simp at hj ⊢; omega)]
  · rw [List.getElem?_map] at h2
    rw [h1] at h2
    simp at h2
    subst h2
    refine (hR _ _ _ _).2 ⟨rfl, ?_⟩
    have hx : x ∈ l := hp.mem_iff.1 (List.mem_of_getElem? h1)
    obtain ⟨i2, hi2⟩ := List.getElem?_of_mem hx
    have hil : i2 < cs.length := by rw [hl]; exact (List.getElem?_eq_some_iff.1 hi2).1
    exact ((hR _ _ _ _).1 (hr i2 x _ hi2 (List.getElem?_eq_getElem hil))).2
end
end Go.WW
namespace Go.Proofs.YtlcpfnhindfkfaaGreat
open Go Go.RowKit Go.WW Go.Sort
abbrev nilS : Value := .slice none 0 0
theorem info_hit : (Tryz.prog.info? 51).map (fun i => (i.zero, i.size, i.bytes)) = some (some (.agg #[.int .u64 0, .int .i64 0]), 2, 16) := by kernel_rfl
set_option maxRecDepth 100000 in
set_option maxHeartbeats 1000000 in
theorem len64_0 (w : World) : Calls Tryz.prog 133 #[.int .u64 0] w fun r w' => r = .returned (.int .i64 0) ∧ w' = w := by
  go_enter Tryz.func133, Tryz.ntmps133
  go_wp2
  go_ret
  refine ⟨?_, rfl⟩
  kernel_rfl
set_option maxHeartbeats 1000000 in
theorem len_0 (w : World) : Calls Tryz.prog 110 #[.int .u64 0] w fun r w' => r = .returned (.int .i64 0) ∧ w' = w := by
  go_enter Tryz.func110, Tryz.ntmps110
  go_wp2_with fail
  refine (len64_0 w).mono ?_
  rintro er w1 ⟨rfl, rfl⟩
  go_wp2_with fail
  go_ret
  exact ⟨rfl, rfl⟩
set_option maxHeartbeats 1000000 in
theorem ins_0 (w : World) (c : Value) : Calls Tryz.prog 124 #[nilS, .int .i64 0, .int .i64 0, c] w fun r w' => r = .returned (.tuple #[]) ∧ w' = w := by
  go_enter Tryz.func124, Tryz.ntmps124
  go_wp2_with fail
  go_loop [8, 9] (fun v _ => v = .int .i64 1) (fun _ _ => 0)
  case atStart => rfl
  case round =>
    subst hrel
    go_wp2_with fail
    refine bodyPost_end (results_none rfl _ _ _) rfl ?_
    exact ⟨rfl, rfl⟩
set_option maxHeartbeats 1000000 in
theorem pdq_0 (w : World) (c : Value) : Calls Tryz.prog 109 #[nilS, .int .i64 0, .int .i64 0, .int .i64 0, c] w fun r w' => r = .returned (.tuple #[]) ∧ w' = w := by
  go_enter Tryz.func109, Tryz.ntmps109
  go_wp2_with fail
  go_loop [1, 2, 3, 10, 11, 12, 13, 14] (fun a b l _ _ _ _ _ => a = .int .i64 0 ∧ b = .int .i64 0 ∧ l = .int .i64 0) (fun _ _ _ _ _ _ _ _ => 0)
  case atStart => exact ⟨rfl, rfl, rfl⟩
  case round =>
    obtain ⟨rfl, rfl, rfl⟩ := hrel
    go_wp2_with fail
    refine (ins_0 w c).mono ?_
    rintro er w1 ⟨rfl, rfl⟩
    go_wp2_with fail
    refine bodyPost_ret (results_none rfl _ _ _) rfl ?_
    exact ⟨rfl, rfl⟩
set_option maxHeartbeats 1000000 in
theorem sort_0 (w : World) (c : Value) : Calls Tryz.prog 80 #[nilS, c] w fun r w' => r = .returned (.tuple #[]) ∧ w' = w := by
  go_enter Tryz.func80, Tryz.ntmps80
  go_wp2_with fail
  refine (len_0 w).mono ?_
  rintro er w1 ⟨rfl, rfl⟩
  go_wp2_with fail
  refine (pdq_0 w1 c).mono ?_
  rintro er w2 ⟨rfl, rfl⟩
  go_wp2_with fail
  refine bodyPost_end (results_none rfl _ _ _) rfl ?_
  exact ⟨rfl, rfl⟩
set_option maxHeartbeats 1000000 in
theorem hclone_0 (w : World) : Calls Tryz.prog 79 #[nilS] w fun r w' => r = .returned nilS ∧ w' = w := by
  have hq := fun w : World => Go.Lib.run_eql_slice_nil (P := Tryz.prog) w 43 51 none 0 0 0 0 Tryz.underlying43
  go_enter Tryz.func79, Tryz.ntmps79
  go_wp2_with fail
  go_ret
  exact ⟨rfl, rfl⟩
set_option maxHeartbeats 1000000 in
theorem hsort_0 (w : World) : Calls Tryz.prog 48 #[nilS] w fun r w' => r = .returned nilS ∧ w' = w := by
  go_enter Tryz.func48, Tryz.ntmps48
  go_wp2_with fail
  refine (hclone_0 w).mono ?_
  rintro er w1 ⟨rfl, rfl⟩
  go_wp2_with fail
  refine (sort_0 w1 _).mono ?_
  rintro er w2 ⟨rfl, rfl⟩
  go_wp2_with fail
  go_ret
  exact ⟨rfl, rfl⟩
set_option maxHeartbeats 1000000 in
theorem hcmp_any (x y : Ht) (w : World) : Calls Tryz.prog 81 #[.agg (encH x).toArray, .agg (encH y).toArray] w fun e w' => e = .returned (.int .i64 (cfH x y)) ∧ ∃ q os', w' = grow (w.drewN q) os' := by
  show Calls Tryz.prog 81 #[.agg #[.int .u64 x.id, .int .i64 x.ds], .agg #[.int .u64 y.id, .int .i64 y.ds]] w _
  obtain ⟨V, hv⟩ : ∃ V, V = cfH x y := ⟨_, rfl⟩
  rw [← hv]
  have HV := Lib.hid (show V = if cmpI x.ds y.ds = 0 then cmpI x.id y.id else cmpI x.ds y.ds from hv); clear hv
  go_enter Tryz.func81, Tryz.ntmps81
  go_wp2_with fail
  refine wp_region_hoist [true, true, true, true, false, true, true, true, true, false, false, false, false] 1 (fun w' => ∃ n, w' = World.drewN _ n) (by kernel_rfl) (by kernel_rfl) ⟨1, rfl⟩ ?_
  simp only [pickR, pickE, List.take, List.drop, wpLate]
  repeat (go_big_quiet_step (fail))
  refine wpQuiet_nil ?_
  go_wp2_with fail
  refine (cmpi_any _ x.ds y.ds).mono ?_
  rintro er w1 ⟨rfl, rfl⟩
  go_wp2_with fail
  apply only_mk; refine And.intro ⟨1, rfl⟩ ?_
  go_wp2_with fail
  refine (cmpu_any _ x.id y.id).mono ?_
  rintro er w1 ⟨rfl, rfl⟩
  generalize cmpI x.ds y.ds = c1 at *
  generalize cmpI x.id y.id = c2 at *
  go_wp2_with fail
  have hi := IRow.new ((w.alloc (.cells #[.int .u64 x.id, .int .i64 x.ds] 51)).alloc (.cells #[.int .u64 y.id, .int .i64 y.ds] 51)) [.int .i64 c1, .int .i64 c2] 3
  rw [World.size_alloc, World.size_alloc] at hi
  refine (or_any _ _ c1 c2 ?_).mono ?_
  · exact hi.kept rfl
  rintro er w1 ⟨rfl, rfl⟩
  rw [← HV.out]
  go_wp2
  simp only [only, Exit.then]
  go_wp2
  go_ret
  exact ⟨rfl, 1, _, by rw [alloc_eq_grow, alloc_eq_grow, alloc_eq_grow, grow_grow, grow_grow]; rfl⟩
theorem cmpLaysH (blk size : Nat) (w : World) : CmpLays Tryz.prog 81 #[] encH 2 cfH blk 0 size w := fun _ _ _ _ x y => hcmp_any x y _
theorem isAggH (w : World) : (isAgg 51).run Tryz.prog w = .ok true w := by kernel_rfl
theorem sizeOfH (w : World) : (Go.sizeOf 51).run Tryz.prog w = .ok 2 w := by kernel_rfl
set_option maxRecDepth 100000 in
set_option maxHeartbeats 1000000 in
theorem hclone_any (b : Nat) (v : Value) (l : List Ht) (w : World) (rv : RdRow hitR 51 b w v l) (hl : l.length ≤ 1048576) :
    Calls Tryz.prog 79 #[v] w fun e w' => ∃ v', e = .returned v' ∧ (v' = nilS → v = nilS) ∧ OwnRow hitR 51 0 w.heap.size w' v' l ∧ Below w.heap.size w w' := by
  have rv0 := rv.lift (Nat.le_refl _)
  obtain ⟨A, c, rfl, h1, h2, hA, h3⟩ := rv
  cases A with
  | none =>
    have hl0 : l = [] := by
      cases l with
      | nil => rfl
      | cons x r => obtain ⟨g, o, h, _⟩ := h3 (by simp); cases h
    subst hl0
    have hc := hA rfl
    subst hc
    refine (hclone_0 w).mono ?_
    rintro er w1 ⟨rfl, rfl⟩
    exact ⟨_, rfl, fun _ => rfl, OwnRow.nil .., Below.refl _ _⟩
  | some ad =>
    clear h3 hA
    have hq := fun w : World => Go.Lib.run_eql_slice_nil (P := Tryz.prog) w 43 51 (some ad) l.length c 0 0 Tryz.underlying43
    have hl8 : (([] : List Ht).length + l.length) * 16 ≤ 140737488355328 := by simp; omega
    have rv1 := rv0.below ((Below.refl w.heap.size w).alloc (Nat.le_refl _) (.cells #[] 51))
    have hO := OwnRow.fresh hitR 51 w.heap.size w
    have HH := Lib.hid (And.intro rv1 hO)
    clear rv0 rv1 hO
    go_enter Tryz.func79, Tryz.ntmps79
    go_wp2_with (at_builtin; refine wp_cat (R := hitR) rfl (.tmp 5) (.tmp 6) 43 (.agg #[.int .u64 0, .int .i64 0]) 16 rfl Tryz.underlying43 info_hit rfl (by decide) (by decide) _ _ [] l rfl rfl HH.out.1 HH.out.2 (by simp) (fun h => by cases h) (Nat.le_refl _) hl8 ?_; intro v1 w1 hO1 hG1 _ hnil)
    go_ret
    refine ⟨_, rfl, fun e => ?_, hO1, ((Below.refl _ w).alloc (Nat.le_refl _) _).grown hG1 (by simp) (fun k hk => by cases hk; exact Nat.le_refl _)⟩
    have := (hnil.1 e).1
    cases this
set_option maxRecDepth 100000 in
set_option maxHeartbeats 2000000 in
theorem hsort_any (b : Nat) (v : Value) (l : List Ht) (w : World) (rv : RdRow hitR 51 b w v l) (hl : l.length ≤ 1048576) :
    Calls Tryz.prog 48 #[v] w fun e w' => ∃ v', e = .returned v' ∧ OwnRow hitR 51 0 w.heap.size w' v' (sortH l) ∧ Below w.heap.size w w' := by
  by_cases hv0 : v = nilS
  · subst hv0
    have hl0 : l = [] := by
      obtain ⟨A, c, hv, _⟩ := rv
      injection hv with _ h _
      exact List.eq_nil_of_length_eq_zero h.symm
    subst hl0
    refine (hsort_0 w).mono ?_
    rintro er w1 ⟨rfl, rfl⟩
    refine ⟨_, rfl, ?_, Below.refl _ _⟩
    rw [show sortH [] = [] by simp [sortH]]
    exact OwnRow.nil ..
  go_enter Tryz.func48, Tryz.ntmps48
  go_wp2_with fail
  refine (hclone_any b v l w rv hl).mono ?_
  rintro er w1 ⟨v1, rfl, hn, hO, hB⟩
  obtain ⟨A, c, hv⟩ := hO.slice
  subst hv
  cases A with
  | none =>
    exfalso
    obtain ⟨cs, ho, hcl, hr⟩ := hO
    rcases ho.2 with ⟨h1, h2⟩ | ⟨g', cap, cur, h1, _⟩
    · exact hv0 (hn h1)
    · cases h1
  | some ad =>
    obtain ⟨g, rfl, hg, hgl⟩ : ∃ g, ad = ⟨g, 0, none⟩ ∧ w.heap.size ≤ g ∧ g < w1.heap.size := by
      obtain ⟨cs, ho, hcl, hr⟩ := hO
      rcases ho.2 with ⟨h1, h2⟩ | ⟨g', cap, cur, h1, h2, h3, _⟩
      · cases h1
      · injection h1 with h1 _ _
        injection h1 with h1
        exact ⟨g', h1, h2, (Array.getElem?_eq_some_iff.1 h3).1⟩
    have hH := hO.holds encH (by decide) (fun b w cs x h => (hitR_iff.1 h).1) (fun _ => rfl)
    have eg : ∀ args w, (callFunc 81 args).run Tryz.prog w = .ok (.enter 81 args) w := enters_of Tryz.func81 (by kernel_rfl) rfl
    have hcon := AnyQ.slices_SortFunc Tryz.sortHit 2 isAggH sizeOfH encH (fun _ => rfl) (fun x v hv => by simp [encH] at hv; rcases hv with rfl | rfl <;> rfl) cfH swoH 81 #[] g 0 c l.toArray w1 eg (cmpLaysH g l.toArray.size w1) hH hgl (by simp; omega)
    change Calls Tryz.prog 80 _ _ _ at hcon
    rw [List.size_toArray] at hcon
    have HH := Lib.hid (And.intro hO hB); clear hO hB hH
    go_wp2_with fail
    refine hcon.mono ?_
    rintro er w2 ⟨rfl, d', n, os, hp, hs, hw⟩
    have hpp : d'.toList.Perm l := by
      have h1 := hp.2.2
      have h2 : d'.size = l.length := by simpa using hp.1
      rw [Array.extract_eq_self_of_le (by omega), Array.extract_eq_self_of_le (by simp)] at h1
      simpa using h1
    have hu := sorted_unique_holds (lt := ltOf cfH) swoH eqH l.toArray d' (by simpa using hp) (by simpa using hs)
    have hO2 := HH.out.1.sorted (n := n) (os := os) (d := d') encH okH (by decide) (fun b w cs x => hitR_iff) (fun _ => rfl) hpp
    have hG := grownBy_sortK (enc := encH) (k := 2) (w := w1) (g := g) (n := n) (os := os) d'
    have hsz : hitR.sz = 2 := rfl
    rw [hsz] at hO2
    rw [← hw] at hO2 hG
    have hb2 := HH.out.2.grown hG HH.out.2.size (fun k hk => by cases hk; exact hg)
    have hd : d'.toList = sortH l := by rw [hu]; rfl
    rw [hd] at hO2
    have HR := Lib.hid (And.intro hO2 hb2); clear hO2 hb2 hw hG hd hu hpp
    go_wp2_with fail
    go_ret
    exact ⟨_, rfl, HR.out.1, HR.out.2⟩
end Go.Proofs.YtlcpfnhindfkfaaGreat
