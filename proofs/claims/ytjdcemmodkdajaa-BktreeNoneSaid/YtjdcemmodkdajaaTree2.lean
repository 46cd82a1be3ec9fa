/-
  The BK-tree in memory: what stores make of it.
-/
import Derived.Test.YtjdcemmodkdajaaTree
namespace Go.Proofs.Ytjdcemmodkdajaa
open Go Go.RowKit Go.WW
theorem zip_setr {α β : Type} : ∀ {l : List α} {k : List β} {p : Nat} {x : α} {v : β}, l[p]? = some x → (l.zip k).set p (x, v) = l.zip (k.set p v)
  | [], k, p, x, v, h => by simp at h
  | a :: l, [], p, x, v, h => by simp
  | a :: l, b :: k, 0, x, v, h => by simp at h; subst h; rfl
  | a :: l, b :: k, p + 1, x, v, h => by
    simp only [List.zip_cons_cons, List.set_cons_succ]
    rw [zip_setr (by simpa using h)]
theorem zip_setl {α β : Type} : ∀ {l : List α} {k : List β} {p : Nat} {x : α} {v : β}, k[p]? = some v → (l.zip k).set p (x, v) = (l.set p x).zip k
  | [], k, p, x, v, h => by simp
  | a :: l, [], p, x, v, h => by simp at h
  | a :: l, b :: k, 0, x, v, h => by simp at h; subst h; rfl
  | a :: l, b :: k, p + 1, x, v, h => by
    simp only [List.zip_cons_cons, List.set_cons_succ]
    rw [zip_setl (by simpa using h)]
section
variable {own : Nat → Prop} {w w1 : World} {t mb : Nat} {mtv lv : Value} {kv : List Value} {l : List Nd} {kl : Nat → List Nat} {gone : Int} {f : Int → Option Int}
theorem grown_other {w w1 : World} {row : Option Nat} {g T : Nat} {c : Array Value} {fr : Nat × Nat} (hg : w.grownBy w1 row) (h : w.heap[g]? = some (.cells c T fr)) (hr : ∀ k, row = some k → (∃ d, w.heap[k]? = some (.cells d 3 (0, 0))) ∨ ∃ d, w.heap[k]? = some (.cells d 90 (0, 0))) (h1 : T ≠ 3) (h2 : T ≠ 90) : w1.heap[g]? = w.heap[g]? := by
  refine hg.block g (Array.getElem?_eq_some_iff.1 h).1 (fun e => ?_)
  rcases hr g e.symm with ⟨d, hd⟩ | ⟨d, hd⟩
  · exact blk_ne h hd h1 rfl
  · exact blk_ne h hd h2 rfl
theorem nat_append (a b : List Nat) : nats (a ++ b) = nats a ++ nats b := List.map_append
theorem nat_len (a : List Nat) : (nats a).length = a.length := List.length_map ..
/-- The cells of a node. -/
theorem nodes_blk (hN : OwnRow ndR 90 0 0 w lv (l.zip kv)) (hkl : kv.length = l.length) (hne : l ≠ []) : ∃ lb cap, lv = .slice (some ⟨lb, 0, none⟩) l.length cap ∧ lb < w.heap.size ∧ l.length ≤ cap ∧ cap ≤ 9223372036854775807 ∧ (∀ j, w.frozen? ⟨lb, j, none⟩ = false) ∧
    ∀ i (hi : i < l.length), ∃ v ki, kv[i]? = some ki ∧ ki.oneCell' = true ∧ itR.rd 0 w [.int .u64 l[i].it.id, .int .i64 l[i].it.ob.tag, v, .string l[i].it.ob.str] l[i].it ∧ (Lit.int .i64 l[i].par).wf = true ∧ (Lit.int .i64 l[i].edge).wf = true ∧
      w.cell? ⟨lb, i * 8, none⟩ = some (.int .u64 l[i].it.id) ∧ w.cell? ⟨lb, i * 8 + 1, none⟩ = some (.int .i64 l[i].it.ob.tag) ∧ w.cell? ⟨lb, i * 8 + 2, none⟩ = some v ∧ w.cell? ⟨lb, i * 8 + 3, none⟩ = some (.string l[i].it.ob.str) ∧
      w.cell? ⟨lb, i * 8 + 4, none⟩ = some (.bool l[i].gone) ∧ w.cell? ⟨lb, i * 8 + 5, none⟩ = some (.int .i64 l[i].par) ∧ w.cell? ⟨lb, i * 8 + 6, none⟩ = some (.int .i64 l[i].edge) ∧ w.cell? ⟨lb, i * 8 + 7, none⟩ = some ki := by
  have hzl : (l.zip kv).length = l.length := by rw [List.length_zip, hkl, Nat.min_self]
  obtain ⟨g, cap, hlv, _, hg, hc, hm, hf, hat⟩ := hN.at (fun e => hne (List.eq_nil_of_length_eq_zero (by rw [← hzl, e]; rfl)))
  rw [hzl] at hlv hc
  refine ⟨g, cap, hlv, hg, hc, hm, hf, fun i hi => ?_⟩
  obtain ⟨cs, hr, hj⟩ := hat i (by omega)
  have hik : i < kv.length := by rw [hkl]; exact hi
  have hz : (l.zip kv)[i]'(by omega) = (l[i], kv[i]) := by simp
  rw [hz] at hr
  obtain ⟨v, rfl, h1, h2, h3, h4⟩ := ndR_iff.1 hr
  refine ⟨v, kv[i], List.getElem?_eq_getElem hik, h4, h1, h2, h3, hj 0 _ rfl, hj 1 _ rfl, hj 2 _ rfl, hj 3 _ rfl, hj 4 _ rfl, hj 5 _ rfl, hj 6 _ rfl, hj 7 _ rfl⟩
theorem KT.blk (h : KT own w t mtv lv mb kv l kl gone f) (hne : l ≠ []) : ∃ lb cap, lv = .slice (some ⟨lb, 0, none⟩) l.length cap ∧ lb < w.heap.size ∧ l.length ≤ cap ∧ cap ≤ 9223372036854775807 ∧ (∀ j, w.frozen? ⟨lb, j, none⟩ = false) ∧
    ∀ i (hi : i < l.length), ∃ v ki, kv[i]? = some ki ∧ ki.oneCell' = true ∧ itR.rd 0 w [.int .u64 l[i].it.id, .int .i64 l[i].it.ob.tag, v, .string l[i].it.ob.str] l[i].it ∧ (Lit.int .i64 l[i].par).wf = true ∧ (Lit.int .i64 l[i].edge).wf = true ∧
      w.cell? ⟨lb, i * 8, none⟩ = some (.int .u64 l[i].it.id) ∧ w.cell? ⟨lb, i * 8 + 1, none⟩ = some (.int .i64 l[i].it.ob.tag) ∧ w.cell? ⟨lb, i * 8 + 2, none⟩ = some v ∧ w.cell? ⟨lb, i * 8 + 3, none⟩ = some (.string l[i].it.ob.str) ∧
      w.cell? ⟨lb, i * 8 + 4, none⟩ = some (.bool l[i].gone) ∧ w.cell? ⟨lb, i * 8 + 5, none⟩ = some (.int .i64 l[i].par) ∧ w.cell? ⟨lb, i * 8 + 6, none⟩ = some (.int .i64 l[i].edge) ∧ w.cell? ⟨lb, i * 8 + 7, none⟩ = some ki := nodes_blk h.nodes h.klen hne
theorem KT.rowb (h : KT own w t mtv lv mb kv l kl gone f) : ∃ c, w.heap[t]? = some (.cells c 81 (0, 0)) := ⟨_, h.row⟩
theorem KT.kidb (h : KT own w t mtv lv mb kv l kl gone f) {v : Value} {i g : Nat} (hv : kv[i]? = some v) (hg : v.ownBlock = some g) : ∃ d, w.heap[g]? = some (.cells d 3 (0, 0)) := (h.kids i v hv).blk hg
theorem KT.nodb (h : KT own w t mtv lv mb kv l kl gone f) {g : Nat} (hg : lv.ownBlock = some g) : ∃ d, w.heap[g]? = some (.cells d 90 (0, 0)) := h.nodes.blk hg
theorem kp_of_grown {row : Option Nat} {T : Nat} (hg : w.grownBy w1 row) (hr : ∀ k, row = some k → ∃ d, w.heap[k]? = some (.cells d T (0, 0))) (hT : T ∉ Fz) : Kp Fz 0 w w1 :=
  (Kp.refl Fz 0 w).grown hg (fun k hk => by obtain ⟨d, hd⟩ := hr k hk; exact .inr (not_sta hd (Nat.zero_le _) hT))
theorem KT.setMap (h : KT own w t mtv lv mb kv l kl gone f) {f' : Int → Option Int} (hm : MapU Try.prog 33 3 w1 mb f') (hg : w.grownBy w1 (some mb)) : KT own w1 t mtv lv mb kv l kl gone f' := by
  obtain ⟨es, c, hmb⟩ := h.map.isMap
  have hk : Kp Fz 0 w w1 := (Kp.refl Fz 0 w).grown hg (fun k hk => by cases hk; exact .inr (not_sta_map hmb (Nat.zero_le _)))
  have hne : ∀ {g T : Nat} {c : Array Value} {fr : Nat × Nat}, w.heap[g]? = some (.cells c T fr) → w1.heap[g]? = w.heap[g]? := fun {g T c fr} hh => hg.block g (Array.getElem?_eq_some_iff.1 hh).1 (fun e => by cases e; exact blk_ne_map hh hmb rfl)
  exact { h with
    row := h.row.kept (hne h.row)
    nodes := h.nodes.keep (hk.mono (by decide)) (fun k hk' => by obtain ⟨d, hd⟩ := h.nodb hk'; exact hne hd)
    kids := fun i v hv => (h.kids i v hv).keep (hk.mono (by simp [Rd.int])) (fun k hk' => by obtain ⟨d, hd⟩ := h.kidb hv hk'; exact hne hd)
    map := hm }
/-- A cell of the tree's own block is written. -/
theorem KT.setRow (h : KT own w t mtv lv mb kv l kl gone f) {j : Nat} {u : Value} {gone' : Int} (hj : [mtv, lv, .map (some mb), .int .i64 gone].set j u = [mtv, lv, .map (some mb), .int .i64 gone']) : KT own (w.setCell ⟨t, j, none⟩ u) t mtv lv mb kv l kl gone' f := by
  have hk : Kp Fz 0 w (w.setCell ⟨t, j, none⟩ u) := kp_of_grown (gb_setCell w ⟨t, j, none⟩ u) (fun k hk => by cases hk; exact h.rowb) (by decide)
  have hne : ∀ {g : Nat}, g ≠ t → (w.setCell ⟨t, j, none⟩ u).heap[g]? = w.heap[g]? := fun {g} hn => Below.heap_setCell _ _ _ _ hn
  exact { h with
    row := by have := h.row.set j u; rw [hj] at this; exact this
    nodes := h.nodes.keep (hk.mono (by decide)) (fun k hk' => by obtain ⟨d, hd⟩ := h.nodb hk'; exact hne (blk_ne hd h.row (by decide)))
    kids := fun i v hv => (h.kids i v hv).keep (hk.mono (by simp [Rd.int])) (fun k hk' => by obtain ⟨d, hd⟩ := h.kidb hv hk'; exact hne (blk_ne hd h.row (by decide)))
    map := h.map.kept (hne (by obtain ⟨es, c, hmb⟩ := h.map.isMap; exact Ne.symm (blk_ne_map h.row hmb))) }
/-- A kid more. -/
theorem KT.pushKid {lb cap p k : Nat} {u v1 : Value} (h : KT own w t mtv (.slice (some ⟨lb, 0, none⟩) l.length cap) mb kv l kl gone f) (hu : kv[p]? = some u)
    (ho : OwnRow (Rd.int .i64) 3 0 0 w1 v1 (nats (kl p) ++ [(k : Int)])) (hg : w.grownBy w1 u.ownBlock) (hb : v1.ownBlock = u.ownBlock ∨ ∃ b, v1.ownBlock = some b ∧ w.heap.size ≤ b) :
    KT (More own w) (w1.setCell ⟨lb, p * 8 + 7, none⟩ v1) t mtv (.slice (some ⟨lb, 0, none⟩) l.length cap) mb (kv.set p v1) l (fun i => if i = p then kl p ++ [k] else kl i) gone f := by
  have hp : p < kv.length := (List.getElem?_eq_some_iff.1 hu).1
  have hpl : p < l.length := by rw [← h.klen]; exact hp
  have hzl : (l.zip kv).length = l.length := by rw [List.length_zip, h.klen, Nat.min_self]
  obtain ⟨dl, hlb⟩ := h.nodb (g := lb) rfl
  have hrow : ∀ k, u.ownBlock = some k → ∃ d, w.heap[k]? = some (.cells d 3 (0, 0)) := fun k hk => h.kidb hu hk
  have hk1 : Kp Fz 0 w w1 := kp_of_grown hg hrow (by decide)
  have hne1 : ∀ {g T : Nat} {c : Array Value} {fr : Nat × Nat}, w.heap[g]? = some (.cells c T fr) → T ≠ 3 → w1.heap[g]? = w.heap[g]? := fun {g T c fr} hh hT => hg.block g (Array.getElem?_eq_some_iff.1 hh).1 (fun e => by
    obtain ⟨d, hd⟩ := hrow g e.symm
    exact blk_ne hh hd hT rfl)
  have hlb1 : w1.heap[lb]? = some (.cells dl 90 (0, 0)) := (hne1 hlb (by decide)).trans hlb
  have hk2 : Kp Fz 0 w1 (w1.setCell ⟨lb, p * 8 + 7, none⟩ v1) := kp_of_grown (gb_setCell w1 ⟨lb, p * 8 + 7, none⟩ v1) (fun k hk => by cases hk; exact ⟨dl, hlb1⟩) (by decide)
  have hne2 : ∀ {g : Nat}, g ≠ lb → (w1.setCell ⟨lb, p * 8 + 7, none⟩ v1).heap[g]? = w1.heap[g]? := fun {g} hn => Below.heap_setCell _ _ _ _ hn
  have hn1 := h.nodes.keep (hk1.mono (by decide)) (fun k hk' => by obtain ⟨d, hd⟩ := h.nodb hk'; exact hne1 hd (by decide))
  have hone : v1.oneCell' = true := by obtain ⟨A, c, rfl⟩ := ho.slice; rfl
  have hset := hn1.set p 7 v1 (l[p], v1) (by omega) (by decide) (hk2.mono (by decide)) (fun cs hcs => by
    have e : (l.zip kv)[p] = (l[p], kv[p]) := by simp
    rw [e] at hcs
    obtain ⟨v, rfl, a1, a2, a3, a4⟩ := ndR_iff.1 hcs
    exact ndR_iff.2 ⟨v, rfl, a1, a2, a3, hone⟩)
  have hzip : (l.zip kv).set p (l[p], v1) = l.zip (kv.set p v1) := zip_setr (List.getElem?_eq_getElem hpl)
  rw [hzip] at hset
  have hkb : ∀ {i g : Nat} {v : Value}, (kv.set p v1)[i]? = some v → v.ownBlock = some g → (i ≠ p ∧ kv[i]? = some v) ∨ (i = p ∧ v = v1) := fun {i g v} hv hgv => by
    by_cases e : i = p
    · subst e
      rw [List.getElem?_set_self hp] at hv
      cases hv
      exact .inr ⟨rfl, rfl⟩
    · rw [List.getElem?_set_ne (Ne.symm e)] at hv
      exact .inl ⟨e, hv⟩
  have hv1 : ∀ g, v1.ownBlock = some g → (u.ownBlock = some g) ∨ w.heap.size ≤ g := fun g hgv => by
    rcases hb with hb | ⟨b, hb, hsz⟩
    · exact .inl (hb ▸ hgv)
    · rw [hb] at hgv; cases hgv; exact .inr hsz
  refine ⟨?_, hset, by simpa using h.klen, ?_, ?_, ?_, .inl h.ot, .inl h.om, fun g hg => .inl (h.ol g hg), ?_⟩
  · exact (h.row.kept (hne1 h.row (by decide))).kept (hne2 (blk_ne ((hne1 h.row (by decide)).trans h.row) hlb1 (by decide)))
  · intro i v hv
    by_cases e : i = p
    · subst e
      rw [List.getElem?_set_self hp] at hv
      cases hv
      have : OwnRow (Rd.int .i64) 3 0 0 (w1.setCell ⟨lb, i * 8 + 7, none⟩ v1) v1 (nats (kl i) ++ [(k : Int)]) := ho.keep (hk2.mono (by simp [Rd.int])) (fun g hg' => by obtain ⟨d, hd⟩ := ho.blk hg'; exact hne2 (blk_ne hd hlb1 (by decide)))
      simpa [nat_append, nats] using this
    · rw [List.getElem?_set_ne (Ne.symm e)] at hv
      simp only [e, if_false]
      have h1 := (h.kids i v hv).keep (w' := w1) (hk1.mono (by simp [Rd.int])) (fun g hg' => by
        obtain ⟨d, hd⟩ := h.kidb hv hg'
        exact hg.block g (Array.getElem?_eq_some_iff.1 hd).1 (fun e' => e (h.disj i p v u g hv hu hg' e'.symm)))
      exact h1.keep (hk2.mono (by simp [Rd.int])) (fun g hg' => by obtain ⟨d, hd⟩ := h1.blk hg'; exact hne2 (blk_ne hd hlb1 (by decide)))
  · intro i j a b g ha hb' hga hgb
    rcases hkb ha hga with ⟨e1, ha'⟩ | ⟨e1, rfl⟩ <;> rcases hkb hb' hgb with ⟨e2, hb''⟩ | ⟨e2, rfl⟩
    · exact h.disj i j a b g ha' hb'' hga hgb
    · rcases hv1 g hgb with hx | hx
      · exact absurd (h.disj i p a u g ha' hu hga hx) e1
      · have := ((h.kids i a ha').lt g hga).2; omega
    · rcases hv1 g hga with hx | hx
      · exact absurd (h.disj j p b u g hb'' hu hgb hx) e2
      · have := ((h.kids j b hb'').lt g hgb).2; omega
    · omega
  · obtain ⟨es, c, hmb⟩ := h.map.isMap
    have hm1 : w1.heap[mb]? = w.heap[mb]? := hg.block mb h.map.lt (fun e => by obtain ⟨d, hd⟩ := hrow mb e.symm; exact blk_ne_map hd hmb rfl)
    exact (h.map.kept hm1).kept (hne2 (Ne.symm (blk_ne_map hlb1 (hm1.trans hmb))))
  · intro v hv g hg'
    obtain ⟨i, hi⟩ := List.getElem?_of_mem hv
    rcases hkb hi hg' with ⟨_, hx⟩ | ⟨_, rfl⟩
    · exact .inl (h.ok v (List.mem_of_getElem? hx) g hg')
    · rcases hv1 g hg' with hx | hx
      · exact .inl (h.ok u (List.mem_of_getElem? hu) g hx)
      · exact .inr hx
/-- A node more. -/
theorem KT.pushNode {v1 : Value} {nd : Nd} (h : KT own w t mtv lv mb kv l kl gone f)
    (ho : OwnRow ndR 90 0 0 w1 v1 (l.zip kv ++ [(nd, .slice none 0 0)])) (hg : w.grownBy w1 lv.ownBlock) (hb : v1.ownBlock = lv.ownBlock ∨ ∃ b, v1.ownBlock = some b ∧ w.heap.size ≤ b) (hk0 : kl l.length = []) :
    KT (More own w) (w1.setCell ⟨t, 1, none⟩ v1) t mtv v1 mb (kv ++ [.slice none 0 0]) (l ++ [nd]) kl gone f := by
  have hrow : ∀ k, lv.ownBlock = some k → ∃ d, w.heap[k]? = some (.cells d 90 (0, 0)) := fun k hk => h.nodb hk
  have hk1 : Kp Fz 0 w w1 := kp_of_grown hg hrow (by decide)
  have hne1 : ∀ {g T : Nat} {c : Array Value} {fr : Nat × Nat}, w.heap[g]? = some (.cells c T fr) → T ≠ 90 → w1.heap[g]? = w.heap[g]? := fun {g T c fr} hh hT => hg.block g (Array.getElem?_eq_some_iff.1 hh).1 (fun e => by
    obtain ⟨d, hd⟩ := hrow g e.symm
    exact blk_ne hh hd hT rfl)
  have ht1 : w1.heap[t]? = w.heap[t]? := hne1 h.row (by decide)
  have hk2 : Kp Fz 0 w1 (w1.setCell ⟨t, 1, none⟩ v1) := kp_of_grown (gb_setCell w1 ⟨t, 1, none⟩ v1) (fun k hk => by cases hk; exact ⟨_, ht1.trans h.row⟩) (by decide)
  have hne2 : ∀ {g : Nat}, g ≠ t → (w1.setCell ⟨t, 1, none⟩ v1).heap[g]? = w1.heap[g]? := fun {g} hn => Below.heap_setCell _ _ _ _ hn
  have hv1 : ∀ g, v1.ownBlock = some g → (lv.ownBlock = some g) ∨ w.heap.size ≤ g := fun g hgv => by
    rcases hb with hb | ⟨b, hb, hsz⟩
    · exact .inl (hb ▸ hgv)
    · rw [hb] at hgv; cases hgv; exact .inr hsz
  have hkb : ∀ {i g : Nat} {v : Value}, (kv ++ [Value.slice none 0 0])[i]? = some v → v.ownBlock = some g → kv[i]? = some v := fun {i g v} hv hgv => by
    rcases Nat.lt_or_ge i kv.length with hi | hi
    · rwa [List.getElem?_append_left hi] at hv
    · rw [List.getElem?_append_right hi] at hv
      have : i - kv.length = 0 := by
        have := (List.getElem?_eq_some_iff.1 hv).1
        simp at this
        omega
      rw [this] at hv
      simp at hv
      subst hv
      cases hgv
  refine ⟨(h.row.kept ht1).set 1 v1, ?_, by simp [h.klen], ?_, ?_, ?_, .inl h.ot, .inl h.om, ?_, ?_⟩
  · have e : (l ++ [nd]).zip (kv ++ [Value.slice none 0 0]) = l.zip kv ++ [(nd, .slice none 0 0)] := by rw [List.zip_append h.klen.symm]; rfl
    rw [e]
    exact ho.keep (hk2.mono (by decide)) (fun g hg' => by obtain ⟨d, hd⟩ := ho.blk hg'; exact hne2 (blk_ne hd (ht1.trans h.row) (by decide)))
  · intro i v hv
    rcases Nat.lt_or_ge i kv.length with hi | hi
    · rw [List.getElem?_append_left hi] at hv
      have h1 := (h.kids i v hv).keep (w' := w1) (hk1.mono (by simp [Rd.int])) (fun g hg' => by
        obtain ⟨d, hd⟩ := h.kidb hv hg'
        exact hne1 hd (by decide))
      exact h1.keep (hk2.mono (by simp [Rd.int])) (fun g hg' => by obtain ⟨d, hd⟩ := h1.blk hg'; exact hne2 (blk_ne hd (ht1.trans h.row) (by decide)))
    · rw [List.getElem?_append_right hi] at hv
      have h0 : i - kv.length = 0 := by
        have := (List.getElem?_eq_some_iff.1 hv).1
        simp at this
        omega
      rw [h0] at hv
      simp at hv
      subst hv
      have : i = l.length := by have := h.klen; omega
      subst this
      rw [hk0]
      exact OwnRow.nil ..
  · intro i j a b g ha hb' hga hgb
    exact h.disj i j a b g (hkb ha hga) (hkb hb' hgb) hga hgb
  · obtain ⟨es, c, hmb⟩ := h.map.isMap
    have hm1 : w1.heap[mb]? = w.heap[mb]? := hg.block mb h.map.lt (fun e => by obtain ⟨d, hd⟩ := hrow mb e.symm; exact blk_ne_map hd hmb rfl)
    exact (h.map.kept hm1).kept (hne2 (Ne.symm (blk_ne_map h.row hmb)))
  · intro g hg'
    rcases hv1 g hg' with hx | hx
    · exact .inl (h.ol g hx)
    · exact .inr hx
  · intro v hv g hg'
    obtain ⟨i, hi⟩ := List.getElem?_of_mem hv
    exact .inl (h.ok v (List.mem_of_getElem? (hkb hi hg')) g hg')
/-- A node is gone, or not. -/
theorem KT.setGone {lb cap p : Nat} {x : Bool} (h : KT own w t mtv (.slice (some ⟨lb, 0, none⟩) l.length cap) mb kv l kl gone f) (hp : p < l.length) :
    KT own (w.setCell ⟨lb, p * 8 + 4, none⟩ (.bool x)) t mtv (.slice (some ⟨lb, 0, none⟩) l.length cap) mb kv (l.set p { l[p] with gone := x }) kl gone f := by
  obtain ⟨dl, hlb⟩ := h.nodb (g := lb) rfl
  have hzl : (l.zip kv).length = l.length := by rw [List.length_zip, h.klen, Nat.min_self]
  have hpk : p < kv.length := by rw [h.klen]; exact hp
  have hk2 : Kp Fz 0 w (w.setCell ⟨lb, p * 8 + 4, none⟩ (.bool x)) := kp_of_grown (gb_setCell w ⟨lb, p * 8 + 4, none⟩ (.bool x)) (fun k hk => by cases hk; exact ⟨dl, hlb⟩) (by decide)
  have hne2 : ∀ {g : Nat}, g ≠ lb → (w.setCell ⟨lb, p * 8 + 4, none⟩ (.bool x)).heap[g]? = w.heap[g]? := fun {g} hn => Below.heap_setCell _ _ _ _ hn
  have hset := h.nodes.set p 4 (.bool x) ({ l[p] with gone := x }, kv[p]) (by omega) (by decide) (hk2.mono (by decide)) (fun cs hcs => by
    have e : (l.zip kv)[p] = (l[p], kv[p]) := by simp
    rw [e] at hcs
    obtain ⟨v, rfl, a1, a2, a3, a4⟩ := ndR_iff.1 hcs
    exact ndR_iff.2 ⟨v, rfl, a1, a2, a3, a4⟩)
  rw [zip_setl (List.getElem?_eq_getElem hpk)] at hset
  obtain ⟨es, c, hmb⟩ := h.map.isMap
  exact { h with
    row := h.row.kept (hne2 (blk_ne h.row hlb (by decide)))
    nodes := hset
    klen := by simpa using h.klen
    kids := fun i v hv => (h.kids i v hv).keep (hk2.mono (by simp [Rd.int])) (fun k hk' => by obtain ⟨d, hd⟩ := h.kidb hv hk'; exact hne2 (blk_ne hd hlb (by decide)))
    map := h.map.kept (hne2 (Ne.symm (blk_ne_map hlb hmb))) }
end
end Go.Proofs.Ytjdcemmodkdajaa
