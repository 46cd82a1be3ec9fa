/-
  Frames: what a call keeps but for its own blocks; own rows' cells written anew.
-/
import Derived.Test.YtlcpfnhindfkfaaClone
namespace Go.WW
open Go Go.RowKit
/-- What a call keeps: all but the blocks of own (and new ones). -/
structure Fr (own : Nat → Prop) (w w' : World) : Prop where
  os : w'.os = w.os
  tape : w'.tape = w.tape
  output : w'.output = w.output
  size : w.heap.size ≤ w'.heap.size
  block : ∀ g, g < w.heap.size → ¬ own g → w'.heap[g]? = w.heap[g]?
section
variable {own own' : Nat → Prop} {w w1 w' : World}
theorem Fr.refl (own : Nat → Prop) (w : World) : Fr own w w := ⟨rfl, rfl, rfl, Nat.le_refl _, fun _ _ _ => rfl⟩
theorem Fr.trans (h : Fr own w w1) (k : Fr own' w1 w') (ho : ∀ g, own' g → own g ∨ w.heap.size ≤ g) : Fr own w w' :=
  ⟨k.os.trans h.os, k.tape.trans h.tape, k.output.trans h.output, Nat.le_trans h.size k.size, fun g hg hn => (k.block g (Nat.lt_of_lt_of_le hg h.size) (fun e => by
    rcases ho g e with e | e
    · exact hn e
    · omega)).trans (h.block g hg hn)⟩
theorem Fr.below (h : Fr own w w1) {B : Nat} (k : Below B w1 w') (hB : w.heap.size ≤ B) : Fr own w w' :=
  ⟨k.os.trans h.os, k.tape.trans h.tape, k.output.trans h.output, Nat.le_trans h.size k.size, fun g hg hn => (k.block g (Nat.lt_of_lt_of_le hg hB)).trans (h.block g hg hn)⟩
theorem Fr.of_below (h : Below w.heap.size w w') : Fr own w w' := (Fr.refl own w).below h (Nat.le_refl _)
theorem Fr.grown {row : Option Nat} (h : Fr own w w1) (k : w1.grownBy w' row) (hr : ∀ g, row = some g → own g ∨ w.heap.size ≤ g) : Fr own w w' :=
  ⟨k.os.trans h.os, k.tape.trans h.tape, k.output.trans h.output, Nat.le_trans h.size k.size, fun g hg hn => (k.block g (Nat.lt_of_lt_of_le hg h.size) (fun e => by
    rcases hr g e.symm with e | e
    · exact hn e
    · omega)).trans (h.block g hg hn)⟩
theorem Fr.alloc (h : Fr own w w1) (o : Obj) : Fr own w (w1.alloc o) := h.grown (World.grownBy_alloc w1 o none) (fun g hg => by cases hg)
theorem Fr.drew (h : Fr own w w1) : Fr own w w1.drew := ⟨h.os, h.tape, h.output, h.size, h.block⟩
theorem Fr.setCell (h : Fr own w w1) {p : Addr} (u : Value) (hp : own p.block ∨ w.heap.size ≤ p.block) : Fr own w (w1.setCell p u) := h.grown (gb_setCell w1 p u) (fun g hg => by cases hg; exact hp)
theorem Fr.mono (h : Fr own w w') (ho : ∀ g, own g → own' g) : Fr own' w w' := ⟨h.os, h.tape, h.output, h.size, fun g hg hn => h.block g hg (fun e => hn (ho g e))⟩
theorem Fr.kp {ts : List Nat} {b : Nat} (h : Fr own w w') (ho : ∀ g, own g → ¬ Sta ts b w g) : Kp ts b w w' := ⟨h.size, fun g hg hs => h.block g hg (fun e => ho g e hs)⟩
theorem Fr.below' (h : Fr own w w') (ho : ∀ g, own g → w.heap.size ≤ g) : Below w.heap.size w w' := ⟨h.os, h.tape, h.output, h.size, fun g hg => h.block g hg (fun e => by have := ho g e; omega)⟩
end
theorem OwnRow.blk {α : Type} {R : Rd α} {e b n0 : Nat} {w : World} {v : Value} {l : List α} (h : OwnRow R e b n0 w v l) {g : Nat} (hg : v.ownBlock = some g) : ∃ cur, w.heap[g]? = some (.cells cur e (0, 0)) := by
  obtain ⟨cs, ho, _⟩ := h
  rcases ho.2 with ⟨rfl, _⟩ | ⟨g', cap, cur, rfl, _, hh, _⟩
  · cases hg
  · have : g' = g := by simpa [Value.ownBlock] using hg
    subst this
    exact ⟨cur, hh⟩
theorem OwnRow.heap {α : Type} {R : Rd α} {e b n0 : Nat} {w w' : World} {v : Value} {l : List α} (h : OwnRow R e b n0 w v l) (hh : w'.heap = w.heap) : OwnRow R e b n0 w' v l := h.keep (Kp.heap hh) (fun _ _ => by rw [hh])
theorem blk_ne {w : World} {a b T U : Nat} {c d : Array Value} {f g : Nat × Nat} (ha : w.heap[a]? = some (.cells c T f)) (hb : w.heap[b]? = some (.cells d U g)) (h : T ≠ U) : a ≠ b := by
  rintro rfl
  rw [ha] at hb
  injection hb with hb
  injection hb with _ hb _
  exact h hb
theorem blk_ne_map {w : World} {a b T c : Nat} {es : Array MapEntry} {d : Array Value} {f : Nat × Nat} (ha : w.heap[a]? = some (.cells d T f)) (hb : w.heap[b]? = some (.map es c)) : a ≠ b := by
  rintro rfl
  rw [ha] at hb
  injection hb with hb
  cases hb
def Rd.val : Rd Value := ⟨1, [], fun _ _ cs x => cs = [x] ∧ x.oneCell' = true, fun _ _ _ _ h => by rw [h.1]; rfl, fun _ _ _ _ _ _ h => h, fun _ _ _ _ _ _ h => h, fun _ _ _ _ h u hu => by rw [h.1] at hu; simp at hu; subst hu; exact h.2⟩
theorem flatten_set {n j : Nat} {u : Value} : ∀ {cs : List (List Value)} {i : Nat}, (∀ c ∈ cs, c.length = n) → (hi : i < cs.length) → j < n → cs.flatten.set (i * n + j) u = (cs.set i (cs[i].set j u)).flatten
  | [], i, _, hi, _ => by simp at hi
  | d :: r, 0, h, _, hj => by
    have hd := h d List.mem_cons_self
    simp only [List.flatten_cons, List.set_cons_zero, List.getElem_cons_zero, Nat.zero_mul, Nat.zero_add]
    rw [List.set_append, if_pos (by omega)]
  | d :: r, k + 1, h, hi, hj => by
    have hd := h d List.mem_cons_self
    simp only [List.flatten_cons, List.set_cons_succ, List.getElem_cons_succ]
    rw [List.set_append, if_neg (by rw [hd, Nat.succ_mul]; omega), hd, show (k + 1) * n + j - n = k * n + j from by rw [Nat.succ_mul]; omega]
    congr 1
    exact flatten_set (fun c hc => h c (List.mem_cons_of_mem _ hc)) (by simpa using hi) hj
/-- One element of an own row is written anew, cell by cell. -/
theorem OwnRow.set {α : Type} {R : Rd α} {e b n0 g n c : Nat} {w : World} {l : List α} (h : OwnRow R e b n0 w (.slice (some ⟨g, 0, none⟩) n c) l) (i j : Nat) (u : Value) (y : α) (hi : i < l.length) (hj : j < R.sz)
    (hk : Kp R.ts b w (w.setCell ⟨g, i * R.sz + j, none⟩ u)) (hy : ∀ cs, R.rd b w cs l[i] → R.rd b w (cs.set j u) y) : OwnRow R e b n0 (w.setCell ⟨g, i * R.sz + j, none⟩ u) (.slice (some ⟨g, 0, none⟩) n c) (l.set i y) := by
  obtain ⟨cs, ho, hl, hr⟩ := h
  have hlen := OwnRow.lens hl hr
  have hn : n = l.length := by
    rcases ho.2 with ⟨h1, h2⟩ | ⟨g', cap, cur, h1, _⟩
    · cases h1
    · injection h1
  subst hn
  have hic : i < cs.length := by omega
  have hst := (ho.stored (i * R.sz + j) u).1
  refine ⟨cs.set i (cs[i].set j u), ?_, by simp [hl], ?_⟩
  · have := flatten_set (j := j) (u := u) hlen hic hj
    rw [← this]
    simpa using hst
  · intro k x d hx hd
    by_cases e : k = i
    · subst e
      rw [List.getElem?_set_self (by omega)] at hx hd
      cases hx
      cases hd
      exact R.keep _ _ _ _ _ hk (hy _ (hr k _ _ (List.getElem?_eq_getElem hi) (List.getElem?_eq_getElem hic)))
    · rw [List.getElem?_set_ne (Ne.symm e)] at hx hd
      exact R.keep _ _ _ _ _ hk (hr k x d hx hd)
theorem OwnRow.one {α : Type} {R : Rd α} {e b n0 : Nat} {w : World} {cs : List Value} {x : α} (hr : R.rd b w cs x) (hs : n0 ≤ w.heap.size) : OwnRow R e b n0 (w.alloc (.cells cs.toArray e)) (.slice (some ⟨w.heap.size, 0, none⟩) 1 1) [x] := by
  have hl := R.len _ _ _ _ hr
  refine ⟨[cs], ?_, rfl, fun i y c h1 h2 => ?_⟩
  · have := World.ownsRow_lit (base := n0) (e := e) (size := R.sz) w cs.toArray 1 hs (by decide) (by simp [hl])
    simpa using this
  · have hk : Kp R.ts b w (w.alloc (.cells cs.toArray e)) := (Kp.refl R.ts b w).grown (World.grownBy_alloc w _ none) (by simp)
    cases i with
    | zero => simp at h1 h2; subst h1 h2; exact R.keep _ _ _ _ _ hk hr
    | succ i => simp at h1
theorem Fr.toB {own : Nat → Prop} {w w' : World} {b : Nat} (h : Fr own w w') (ho : ∀ g, own g → b ≤ g) (hb : b ≤ w.heap.size) : Below b w w' := ⟨h.os, h.tape, h.output, h.size, fun g hg => h.block g (Nat.lt_of_lt_of_le hg hb) (fun e => by have := ho g e; omega)⟩
theorem OwnRow.many {α : Type} {R : Rd α} {e b n0 : Nat} {w : World} {css : List (List Value)} {xs : List α} (hl : css.length = xs.length) (hr : ∀ (i : Nat) (x : α) (c : List Value), xs[i]? = some x → css[i]? = some c → R.rd b w c x) (hs : n0 ≤ w.heap.size) (hm : xs.length ≤ maxLen) :
    OwnRow R e b n0 (w.alloc (.cells css.flatten.toArray e)) (.slice (some ⟨w.heap.size, 0, none⟩) xs.length xs.length) xs := by
  have hlen := OwnRow.lens hl hr
  have hfl := flatten_len hlen
  refine ⟨css, ?_, hl, fun i y c h1 h2 => ?_⟩
  · have := World.ownsRow_lit (base := n0) (e := e) (size := R.sz) w css.flatten.toArray xs.length hs hm (by simp [hfl, hl])
    simpa using this
  · have hk : Kp R.ts b w (w.alloc (.cells css.flatten.toArray e)) := (Kp.refl R.ts b w).grown (World.grownBy_alloc w _ none) (by simp)
    exact R.keep _ _ _ _ _ hk (hr i y c h1 h2)
end Go.WW
