/-
  The BK-tree in memory.
-/
import Derived.Test.YtjdcemmodkdajaaClone
namespace Go.WW
open Go Go.RowKit
/-- What a call keeps: all but the blocks of own (and new ones). -/
structure Fr (own : Nat → Prop) (w w' : World) : Prop where
  os : w'.os = w.os
  tape : w'.tape = w.tape
  output : w'.output = w.output
  size : w.heap.size ≤ w'.heap.size
  block : ∀ g, g < w.heap.size → ¬ own g → w'.heap[g]? = w.heap[g]?
section
variable {own own' : Nat → Prop} {w w1 w' : World}
theorem Fr.refl (own : Nat → Prop) (w : World) : Fr own w w := ⟨rfl, rfl, rfl, Nat.le_refl _, fun _ _ _ => rfl⟩
theorem Fr.trans (h : Fr own w w1) (k : Fr own' w1 w') (ho : ∀ g, own' g → own g ∨ w.heap.size ≤ g) : Fr own w w' :=
  ⟨k.os.trans h.os, k.tape.trans h.tape, k.output.trans h.output, Nat.le_trans h.size k.size, fun g hg hn => (k.block g (Nat.lt_of_lt_of_le hg h.size) (fun e => by
    rcases ho g e with e | e
    · exact hn e
    · omega)).trans (h.block g hg hn)⟩
theorem Fr.below (h : Fr own w w1) {B : Nat} (k : Below B w1 w') (hB : w.heap.size ≤ B) : Fr own w w' :=
  ⟨k.os.trans h.os, k.tape.trans h.tape, k.output.trans h.output, Nat.le_trans h.size k.size, fun g hg hn => (k.block g (Nat.lt_of_lt_of_le hg hB)).trans (h.block g hg hn)⟩
theorem Fr.of_below (h : Below w.heap.size w w') : Fr own w w' := (Fr.refl own w).below h (Nat.le_refl _)
theorem Fr.grown {row : Option Nat} (h : Fr own w w1) (k : w1.grownBy w' row) (hr : ∀ g, row = some g → own g ∨ w.heap.size ≤ g) : Fr own w w' :=
  ⟨k.os.trans h.os, k.tape.trans h.tape, k.output.trans h.output, Nat.le_trans h.size k.size, fun g hg hn => (k.block g (Nat.lt_of_lt_of_le hg h.size) (fun e => by
    rcases hr g e.symm with e | e
    · exact hn e
    · omega)).trans (h.block g hg hn)⟩
theorem Fr.alloc (h : Fr own w w1) (o : Obj) : Fr own w (w1.alloc o) := h.grown (World.grownBy_alloc w1 o none) (fun g hg => by cases hg)
theorem Fr.drew (h : Fr own w w1) : Fr own w w1.drew := ⟨h.os, h.tape, h.output, h.size, h.block⟩
theorem Fr.setCell (h : Fr own w w1) {p : Addr} (u : Value) (hp : own p.block ∨ w.heap.size ≤ p.block) : Fr own w (w1.setCell p u) := h.grown (gb_setCell w1 p u) (fun g hg => by cases hg; exact hp)
theorem Fr.mono (h : Fr own w w') (ho : ∀ g, own g → own' g) : Fr own' w w' := ⟨h.os, h.tape, h.output, h.size, fun g hg hn => h.block g hg (fun e => hn (ho g e))⟩
theorem Fr.kp {ts : List Nat} {b : Nat} (h : Fr own w w') (ho : ∀ g, own g → ¬ Sta ts b w g) : Kp ts b w w' := ⟨h.size, fun g hg hs => h.block g hg (fun e => ho g e hs)⟩
theorem Fr.below' (h : Fr own w w') (ho : ∀ g, own g → w.heap.size ≤ g) : Below w.heap.size w w' := ⟨h.os, h.tape, h.output, h.size, fun g hg => h.block g hg (fun e => by have := ho g e; omega)⟩
end
theorem OwnRow.blk {α : Type} {R : Rd α} {e b n0 : Nat} {w : World} {v : Value} {l : List α} (h : OwnRow R e b n0 w v l) {g : Nat} (hg : v.ownBlock = some g) : ∃ cur, w.heap[g]? = some (.cells cur e (0, 0)) := by
  obtain ⟨cs, ho, _⟩ := h
  rcases ho.2 with ⟨rfl, _⟩ | ⟨g', cap, cur, rfl, _, hh, _⟩
  · cases hg
  · have : g' = g := by simpa [Value.ownBlock] using hg
    subst this
    exact ⟨cur, hh⟩
theorem OwnRow.heap {α : Type} {R : Rd α} {e b n0 : Nat} {w w' : World} {v : Value} {l : List α} (h : OwnRow R e b n0 w v l) (hh : w'.heap = w.heap) : OwnRow R e b n0 w' v l := h.keep (Kp.heap hh) (fun _ _ => by rw [hh])
theorem blk_ne {w : World} {a b T U : Nat} {c d : Array Value} {f g : Nat × Nat} (ha : w.heap[a]? = some (.cells c T f)) (hb : w.heap[b]? = some (.cells d U g)) (h : T ≠ U) : a ≠ b := by
  rintro rfl
  rw [ha] at hb
  injection hb with hb
  injection hb with _ hb _
  exact h hb
theorem blk_ne_map {w : World} {a b T c : Nat} {es : Array MapEntry} {d : Array Value} {f : Nat × Nat} (ha : w.heap[a]? = some (.cells d T f)) (hb : w.heap[b]? = some (.map es c)) : a ≠ b := by
  rintro rfl
  rw [ha] at hb
  injection hb with hb
  cases hb
def Rd.val : Rd Value := ⟨1, [], fun _ _ cs x => cs = [x] ∧ x.oneCell' = true, fun _ _ _ _ h => by rw [h.1]; rfl, fun _ _ _ _ _ _ h => h, fun _ _ _ _ _ _ h => h, fun _ _ _ _ h u hu => by rw [h.1] at hu; simp at hu; subst hu; exact h.2⟩
theorem flatten_set {n j : Nat} {u : Value} : ∀ {cs : List (List Value)} {i : Nat}, (∀ c ∈ cs, c.length = n) → (hi : i < cs.length) → j < n → cs.flatten.set (i * n + j) u = (cs.set i (cs[i].set j u)).flatten
  | [], i, _, hi, _ => by simp at hi
  | d :: r, 0, h, _, hj => by
    have hd := h d List.mem_cons_self
    simp only [List.flatten_cons, List.set_cons_zero, List.getElem_cons_zero, Nat.zero_mul, Nat.zero_add]
    rw [List.set_append, if_pos (by omega)]
  | d :: r, k + 1, h, hi, hj => by
    have hd := h d List.mem_cons_self
    simp only [List.flatten_cons, List.set_cons_succ, List.getElem_cons_succ]
    rw [List.set_append, if_neg (by rw [hd, Nat.succ_mul]; omega), hd, show (k + 1) * n + j - n = k * n + j from by rw [Nat.succ_mul]; omega]
    congr 1
    exact flatten_set (fun c hc => h c (List.mem_cons_of_mem _ hc)) (by simpa using hi) hj
/-- One element of an own row is written anew, cell by cell. -/
theorem OwnRow.set {α : Type} {R : Rd α} {e b n0 g n c : Nat} {w : World} {l : List α} (h : OwnRow R e b n0 w (.slice (some ⟨g, 0, none⟩) n c) l) (i j : Nat) (u : Value) (y : α) (hi : i < l.length) (hj : j < R.sz)
    (hk : Kp R.ts b w (w.setCell ⟨g, i * R.sz + j, none⟩ u)) (hy : ∀ cs, R.rd b w cs l[i] → R.rd b w (cs.set j u) y) : OwnRow R e b n0 (w.setCell ⟨g, i * R.sz + j, none⟩ u) (.slice (some ⟨g, 0, none⟩) n c) (l.set i y) := by
  obtain ⟨cs, ho, hl, hr⟩ := h
  have hlen := OwnRow.lens hl hr
  have hn : n = l.length := by
    rcases ho.2 with ⟨h1, h2⟩ | ⟨g', cap, cur, h1, _⟩
    · cases h1
    · injection h1
  subst hn
  have hic : i < cs.length := by omega
  have hst := (ho.stored (i * R.sz + j) u).1
  refine ⟨cs.set i (cs[i].set j u), ?_, by simp [hl], ?_⟩
  · have := flatten_set (j := j) (u := u) hlen hic hj
    rw [← this]
    simpa using hst
  · intro k x d hx hd
    by_cases e : k = i
    · subst e
      rw [List.getElem?_set_self (by omega)] at hx hd
      cases hx
      cases hd
      exact R.keep _ _ _ _ _ hk (hy _ (hr k _ _ (List.getElem?_eq_getElem hi) (List.getElem?_eq_getElem hic)))
    · rw [List.getElem?_set_ne (Ne.symm e)] at hx hd
      exact R.keep _ _ _ _ _ hk (hr k x d hx hd)
end Go.WW
namespace Go.Proofs.Ytjdcemmodkdajaa
open Go Go.RowKit Go.WW
structure Nd where
  it : It
  gone : Bool
  par : Int
  edge : Int
def bkR : Rd Nd := Rd.iso (Rd.pair itR (Rd.pair Rd.bool (Rd.pair (Rd.int .i64) (Rd.int .i64)))) (fun x => (x.it, x.gone, x.par, x.edge))
def ndR : Rd (Nd × Value) := Rd.pair bkR Rd.val
theorem bkR_iff {b : Nat} {w : World} {cs : List Value} {x : Nd} : bkR.rd b w cs x ↔ ∃ v, cs = [.int .u64 x.it.id, .int .i64 x.it.ob.tag, v, .string x.it.ob.str, .bool x.gone, .int .i64 x.par, .int .i64 x.edge] ∧ itR.rd b w [.int .u64 x.it.id, .int .i64 x.it.ob.tag, v, .string x.it.ob.str] x.it ∧ (Lit.int .i64 x.par).wf = true ∧ (Lit.int .i64 x.edge).wf = true := by
  constructor
  · rintro ⟨c1, c2, rfl, h1, c3, c4, rfl, rfl, c5, c6, rfl, ⟨rfl, hp⟩, rfl, he⟩
    obtain ⟨v, rfl, hw, h2⟩ := itR_iff.1 h1
    exact ⟨v, rfl, h1, hp, he⟩
  · rintro ⟨v, rfl, h1, hp, he⟩
    exact ⟨[_, _, _, _], [_, _, _], rfl, h1, [_], [_, _], rfl, rfl, [_], [_], rfl, ⟨rfl, hp⟩, rfl, he⟩
theorem ndR_iff {b : Nat} {w : World} {cs : List Value} {x : Nd × Value} : ndR.rd b w cs x ↔ ∃ v, cs = [.int .u64 x.1.it.id, .int .i64 x.1.it.ob.tag, v, .string x.1.it.ob.str, .bool x.1.gone, .int .i64 x.1.par, .int .i64 x.1.edge, x.2] ∧ itR.rd b w [.int .u64 x.1.it.id, .int .i64 x.1.it.ob.tag, v, .string x.1.it.ob.str] x.1.it ∧ (Lit.int .i64 x.1.par).wf = true ∧ (Lit.int .i64 x.1.edge).wf = true ∧ x.2.oneCell' = true := by
  constructor
  · rintro ⟨c1, c2, rfl, h1, rfl, h2⟩
    obtain ⟨v, rfl, hi, hp, he⟩ := bkR_iff.1 h1
    exact ⟨v, rfl, hi, hp, he, h2⟩
  · rintro ⟨v, rfl, h1, hp, he, h2⟩
    exact ⟨[_, _, _, _, _, _, _], [_], rfl, bkR_iff.2 ⟨v, rfl, h1, hp, he⟩, rfl, h2⟩
/-- The kids of node i, by the parents alone. -/
def kidsFrom (k : Nat) : List Nd → Nat → List Nat
  | [], _ => []
  | n :: r, i => if n.par = (i : Int) then k :: kidsFrom (k + 1) r i else kidsFrom (k + 1) r i
def kidsOf (l : List Nd) (i : Nat) : List Nat := kidsFrom 0 l i
theorem kidsFrom_snoc (n : Nd) (i : Nat) : ∀ (l : List Nd) (k : Nat), kidsFrom k (l ++ [n]) i = kidsFrom k l i ++ if n.par = (i : Int) then [k + l.length] else []
  | [], k => by simp [kidsFrom]
  | m :: r, k => by
    simp only [List.cons_append, kidsFrom, kidsFrom_snoc n i r (k + 1), List.length_cons]
    split <;> simp [Nat.add_comm, Nat.add_left_comm]
theorem kidsOf_snoc (n : Nd) (l : List Nd) (i : Nat) : kidsOf (l ++ [n]) i = kidsOf l i ++ if n.par = (i : Int) then [l.length] else [] := by
  unfold kidsOf
  rw [kidsFrom_snoc]
  simp
theorem kidsFrom_mem {i k : Nat} : ∀ {l : List Nd} {m : Nat}, k ∈ kidsFrom m l i → m ≤ k ∧ k < m + l.length ∧ (l[k - m]?.map Nd.par) = some (i : Int)
  | [], m, h => by simp [kidsFrom] at h
  | n :: r, m, h => by
    simp only [kidsFrom] at h
    split at h
    · rename_i hp
      rcases List.mem_cons.1 h with rfl | h
      · simp [hp]
      · have := kidsFrom_mem h
        refine ⟨by omega, by simp only [List.length_cons]; omega, ?_⟩
        rw [show k - m = (k - (m + 1)) + 1 from by omega, List.getElem?_cons_succ]
        exact this.2.2
    · have := kidsFrom_mem h
      refine ⟨by omega, by simp only [List.length_cons]; omega, ?_⟩
      rw [show k - m = (k - (m + 1)) + 1 from by omega, List.getElem?_cons_succ]
      exact this.2.2
theorem kidsOf_mem {l : List Nd} {i k : Nat} (h : k ∈ kidsOf l i) : k < l.length ∧ (l[k]?.map Nd.par) = some (i : Int) := by
  have := kidsFrom_mem h
  simpa using this.2
/-- Parents stand ahead of kids. -/
def Up (l : List Nd) : Prop := ∀ (k : Nat) (n : Nd), l[k]? = some n → n.par < (k : Int)
theorem kidsOf_new {l : List Nd} (h : Up l) {i : Nat} (hi : l.length ≤ i) : kidsOf l i = [] := by
  rw [List.eq_nil_iff_forall_not_mem]
  intro k hk
  obtain ⟨h1, h2⟩ := kidsOf_mem hk
  rw [List.getElem?_eq_getElem h1] at h2
  have := h k _ (List.getElem?_eq_getElem h1)
  simp at h2
  omega
theorem kidsOf_up {l : List Nd} (h : Up l) {i k : Nat} (hk : k ∈ kidsOf l i) : i < k := by
  obtain ⟨h1, h2⟩ := kidsOf_mem hk
  rw [List.getElem?_eq_getElem h1] at h2
  have := h k _ (List.getElem?_eq_getElem h1)
  simp at h2
  omega
def nats (l : List Nat) : List Int := l.map Int.ofNat
/-- A tree in memory: its block t, its nodes lv, its map mb, its rows of kids kv. -/
structure KT (own : Nat → Prop) (w : World) (t : Nat) (mtv lv : Value) (mb : Nat) (kv : List Value) (l : List Nd) (kl : Nat → List Nat) (gone : Int) (f : Int → Option Int) : Prop where
  row : IRow 81 w t [mtv, lv, .map (some mb), .int .i64 gone]
  nodes : OwnRow ndR 90 0 0 w lv (l.zip kv)
  klen : kv.length = l.length
  kids : ∀ (i : Nat) (v : Value), kv[i]? = some v → OwnRow (Rd.int .i64) 3 0 0 w v (nats (kl i))
  disj : ∀ (i j : Nat) (u v : Value) (g : Nat), kv[i]? = some u → kv[j]? = some v → u.ownBlock = some g → v.ownBlock = some g → i = j
  map : MapU Try.prog 33 3 w mb f
  ot : own t
  om : own mb
  ol : ∀ g, lv.ownBlock = some g → own g
  ok : ∀ v ∈ kv, ∀ g, v.ownBlock = some g → own g
def Fz : List Nat := [21, 38, 77]
/-- A block of a frozen type. -/
def Frz (w : World) (g : Nat) : Prop := ∃ c e f, w.heap[g]? = some (.cells c e f) ∧ e ∈ Fz
def nf (own : Nat → Prop) (w : World) (g : Nat) : Prop := own g ∧ ¬ Frz w g
theorem not_frz {w : World} {g T : Nat} {c : Array Value} {f : Nat × Nat} (h : w.heap[g]? = some (.cells c T f)) (hT : T ∉ Fz) : ¬ Frz w g := by
  rintro ⟨c', e, f', h1, h2⟩
  rw [h] at h1
  injection h1 with h1
  injection h1 with _ h3 _
  subst h3
  exact hT h2
theorem not_frz_map {w : World} {g c : Nat} {es : Array MapEntry} (h : w.heap[g]? = some (.map es c)) : ¬ Frz w g := by
  rintro ⟨c', e, f', h1, h2⟩
  rw [h] at h1
  injection h1 with h1
  cases h1
theorem nf.sta {own : Nat → Prop} {w : World} {b g : Nat} {ts : List Nat} (h : nf own w g) (hb : ∀ g, own g → b ≤ g) (hts : ∀ e ∈ ts, e ∈ Fz := by decide) : ¬ Sta ts b w g := by
  intro hs
  revert hs
  refine fun hs => (?_ : ¬ Sta Fz b w g) (hs.mono hts)
  rintro (h1 | h1)
  · have := hb g h.1; omega
  · exact h.2 h1
abbrev More (own : Nat → Prop) (w : World) : Nat → Prop := fun g => own g ∨ w.heap.size ≤ g
/-- What a tree's call keeps, call by call. -/
theorem Fr.nf_trans {own : Nat → Prop} {w w1 w' : World} (h : Fr (nf own w) w w1) (k : Fr (nf (More own w) w1) w1 w') : Fr (nf own w) w w' :=
  h.trans k (fun g hg => by
    rcases Nat.lt_or_ge g w.heap.size with hl | hl
    · refine .inl ⟨?_, fun hf => hg.2 ?_⟩
      · rcases hg.1 with h1 | h1
        · exact h1
        · omega
      · obtain ⟨c, e, f, h1, h2⟩ := hf
        exact ⟨c, e, f, (h.block g hl (fun hn => hn.2 ⟨c, e, f, h1, h2⟩)).trans h1, h2⟩
    · exact .inr hl)
theorem KT.keep {own : Nat → Prop} {w w' : World} {t mb : Nat} {mtv lv : Value} {kv : List Value} {l : List Nd} {kl : Nat → List Nat} {gone : Int} {f : Int → Option Int} (h : KT own w t mtv lv mb kv l kl gone f)
    (hk : Kp Fz 0 w w') (ho : ∀ g, g < w.heap.size → own g → w'.heap[g]? = w.heap[g]?) : KT own w' t mtv lv mb kv l kl gone f where
  row := h.row.kept (ho _ h.row.lt h.ot)
  nodes := h.nodes.keep (hk.mono (by decide)) (fun k hk' => ho k (h.nodes.lt k hk').2 (h.ol k hk'))
  klen := h.klen
  kids i v hv := (h.kids i v hv).keep (hk.mono (by simp [Rd.int])) (fun k hk' => ho k ((h.kids i v hv).lt k hk').2 (h.ok v (List.mem_of_getElem? hv) k hk'))
  disj := h.disj
  map := h.map.kept (ho _ h.map.lt h.om)
  ot := h.ot
  om := h.om
  ol := h.ol
  ok := h.ok
theorem KT.grow {own own' : Nat → Prop} {w : World} {t mb : Nat} {mtv lv : Value} {kv : List Value} {l : List Nd} {kl : Nat → List Nat} {gone : Int} {f : Int → Option Int} (h : KT own w t mtv lv mb kv l kl gone f) (ho : ∀ g, own g → own' g) : KT own' w t mtv lv mb kv l kl gone f :=
  { h with ot := ho _ h.ot, om := ho _ h.om, ol := fun g hg => ho _ (h.ol g hg), ok := fun v hv g hg => ho _ (h.ok v hv g hg) }
end Go.Proofs.Ytjdcemmodkdajaa
