/-
  Words for walks: what a call keeps (Kp, TK), values that are read (Rd, RdRow), rows of one's own whose elements are read (OwnRow).
-/
import Derived.WalkKit
import Derived.WalkSpells
import Derived.WalkLawsBesides
import Derived.Lib.Hide
import Derived.Deep.AppendLies
import Derived.Laws.OwnMore
import Derived.Laws.AppendOwnNone
import Derived.Deep.Onto
import Derived.KernelRfl
namespace Go.WW
open Go Go.RowKit

/-- A block that a call leaves as it is: an elder one than b, or one of a type of ts. -/
def Sta (ts : List Nat) (b : Nat) (w : World) (g : Nat) : Prop := g < b ∨ ∃ c e f, w.heap[g]? = some (.cells c e f) ∧ e ∈ ts
def Kp (ts : List Nat) (b : Nat) (w w' : World) : Prop := w.heap.size ≤ w'.heap.size ∧ ∀ g, g < w.heap.size → Sta ts b w g → w'.heap[g]? = w.heap[g]?
theorem Sta.mono {ts ts' : List Nat} {b : Nat} {w : World} {g : Nat} (h : Sta ts b w g) (hs : ∀ e ∈ ts, e ∈ ts') : Sta ts' b w g := by
  rcases h with h | ⟨c, e, f, h1, h2⟩
  · exact .inl h
  · exact .inr ⟨c, e, f, h1, hs e h2⟩
theorem Kp.mono {ts ts' : List Nat} {b : Nat} {w w' : World} (h : Kp ts' b w w') (hs : ∀ e ∈ ts, e ∈ ts') : Kp ts b w w' := ⟨h.1, fun g hg hst => h.2 g hg (hst.mono hs)⟩
theorem Kp.refl (ts : List Nat) (b : Nat) (w : World) : Kp ts b w w := ⟨Nat.le_refl _, fun _ _ _ => rfl⟩
theorem Kp.sta {ts : List Nat} {b : Nat} {w w' : World} (h : Kp ts b w w') {g : Nat} (hg : g < w.heap.size) (hs : Sta ts b w g) : Sta ts b w' g := by
  have := h.2 g hg hs
  rcases hs with hs | ⟨c, e, f, h1, h2⟩
  · exact .inl hs
  · exact .inr ⟨c, e, f, by rw [this]; exact h1, h2⟩
theorem Kp.trans {ts : List Nat} {b : Nat} {w w1 w2 : World} (h : Kp ts b w w1) (k : Kp ts b w1 w2) : Kp ts b w w2 :=
  ⟨Nat.le_trans h.1 k.1, fun g hg hs => (k.2 g (Nat.lt_of_lt_of_le hg h.1) (h.sta hg hs)).trans (h.2 g hg hs)⟩
theorem Kp.heap {ts : List Nat} {b : Nat} {w w' : World} (h : w'.heap = w.heap) : Kp ts b w w' := ⟨by rw [h]; exact Nat.le_refl _, fun _ _ _ => by rw [h]⟩
theorem Kp.grown {ts : List Nat} {b : Nat} {w0 w w' : World} {row : Option Nat} (h : Kp ts b w0 w) (hg : w.grownBy w' row) (hr : ∀ k, row = some k → w0.heap.size ≤ k ∨ ¬ Sta ts b w0 k) : Kp ts b w0 w' :=
  ⟨Nat.le_trans h.1 hg.size, fun g hl hs => (hg.block g (Nat.lt_of_lt_of_le hl h.1) (fun e => by
    rcases hr g e.symm with h1 | h1
    · omega
    · exact h1 hs)).trans (h.2 g hl hs)⟩
theorem not_sta {ts : List Nat} {b : Nat} {w : World} {g : Nat} {c : Array Value} {e : Nat} {f : Nat × Nat} (h : w.heap[g]? = some (.cells c e f)) (hb : b ≤ g) (he : e ∉ ts) : ¬ Sta ts b w g := by
  rintro (h1 | ⟨c', e', f', h1, h2⟩)
  · omega
  · rw [h] at h1
    injection h1 with h1
    injection h1 with _ h3 _
    subst h3
    exact he h2
theorem not_sta_map {ts : List Nat} {b : Nat} {w : World} {g : Nat} {es : Array MapEntry} {k : Nat} (h : w.heap[g]? = some (.map es k)) (hb : b ≤ g) : ¬ Sta ts b w g := by
  rintro (h1 | ⟨c', e', f', h1, h2⟩)
  · omega
  · rw [h] at h1
    cases h1

/-- What a call of this program keeps. -/
structure TK (ts : List Nat) (b : Nat) (w w' : World) : Prop where
  os : w'.os = w.os
  tape : w'.tape = w.tape
  output : w'.output = w.output
  kp : Kp ts b w w'
variable {ts : List Nat} {b : Nat}
theorem TK.refl (ts : List Nat) (b : Nat) (w : World) : TK ts b w w := ⟨rfl, rfl, rfl, Kp.refl ..⟩
theorem TK.trans {w w1 w2 : World} (h : TK ts b w w1) (k : TK ts b w1 w2) : TK ts b w w2 := ⟨k.os.trans h.os, k.tape.trans h.tape, k.output.trans h.output, h.kp.trans k.kp⟩
theorem TK.size {w w' : World} (h : TK ts b w w') : w.heap.size ≤ w'.heap.size := h.kp.1
theorem TK.grown {w0 w w' : World} {row : Option Nat} (h : TK ts b w0 w) (hg : w.grownBy w' row) (hr : ∀ k, row = some k → w0.heap.size ≤ k ∨ ¬ Sta ts b w0 k) : TK ts b w0 w' :=
  ⟨hg.os.trans h.os, hg.tape.trans h.tape, hg.output.trans h.output, h.kp.grown hg hr⟩
theorem TK.alloc {w0 w : World} (h : TK ts b w0 w) (o : Obj) : TK ts b w0 (w.alloc o) := h.grown (World.grownBy_alloc w o none) (by simp)
theorem TK.drew {w0 w : World} (h : TK ts b w0 w) : TK ts b w0 w.drew := ⟨h.os, h.tape, h.output, h.kp.trans (Kp.heap rfl)⟩
theorem TK.drewN {w0 w : World} (h : TK ts b w0 w) (n : Nat) : TK ts b w0 (w.drewN n) := ⟨h.os, h.tape, h.output, h.kp.trans (Kp.heap rfl)⟩
theorem gb_setCell (w : World) (p : Addr) (u : Value) : w.grownBy (w.setCell p u) (some p.block) :=
  ⟨rfl, rfl, rfl, by simp [World.setCell], fun i _ hi => Below.heap_setCell w p u i (fun e => hi (by rw [e]))⟩
theorem TK.setCell {w0 w : World} (h : TK ts b w0 w) {p : Addr} (hp : w0.heap.size ≤ p.block ∨ ¬ Sta ts b w0 p.block) (u : Value) : TK ts b w0 (w.setCell p u) :=
  h.grown (gb_setCell w p u) (fun k hk => by cases hk; exact hp)
theorem TK.of_below {w w' : World} (h : Below w.heap.size w w') : TK ts b w w' := ⟨h.os, h.tape, h.output, h.size, fun g hg _ => h.block g hg⟩
theorem TK.below {w w' : World} (h : TK ts b w w') (hb : b ≤ w.heap.size) : Below b w w' := ⟨h.os, h.tape, h.output, h.size, fun g hg => h.kp.2 g (Nat.lt_of_lt_of_le hg hb) (.inl hg)⟩
theorem TK.of_grown {w w' : World} {row : Option Nat} (hg : w.grownBy w' row) (hr : ∀ k, row = some k → ¬ Sta ts b w k) : TK ts b w w' := (TK.refl ts b w).grown hg (fun k hk => .inr (hr k hk))

def slen : Value → Nat | .slice _ m _ => m | _ => 0
/-- How values are read: so many cells; which say this of that. -/
structure Rd (α : Type) where
  sz : Nat
  ts : List Nat
  rd : Nat → World → List Value → α → Prop
  len : ∀ b w cs x, rd b w cs x → cs.length = sz
  keep : ∀ b w w' cs x, Kp ts b w w' → rd b w cs x → rd b w' cs x
  lift : ∀ b b' w cs x, w.heap.size ≤ b' → rd b w cs x → rd b' w cs x
  one : ∀ b w cs x, rd b w cs x → ∀ u ∈ cs, u.oneCell' = true
def Rd.int (k : IntKind) : Rd Int := ⟨1, [], fun _ _ cs x => cs = [.int k x] ∧ (Lit.int k x).wf = true, fun _ _ _ _ h => by rw [h.1]; rfl, fun _ _ _ _ _ _ h => h, fun _ _ _ _ _ _ h => h, fun _ _ _ _ h u hu => by rw [h.1] at hu; simp at hu; subst hu; rfl⟩
def Rd.bool : Rd Bool := ⟨1, [], fun _ _ cs x => cs = [.bool x], fun _ _ _ _ h => by rw [h]; rfl, fun _ _ _ _ _ _ h => h, fun _ _ _ _ _ _ h => h, fun _ _ _ _ h u hu => by rw [h] at hu; simp at hu; subst hu; rfl⟩
def Rd.str : Rd ByteArray := ⟨1, [], fun _ _ cs x => cs = [.string x] ∧ x.size ≤ maxLen, fun _ _ _ _ h => by rw [h.1]; rfl, fun _ _ _ _ _ _ h => h, fun _ _ _ _ _ _ h => h, fun _ _ _ _ h u hu => by rw [h.1] at hu; simp at hu; subst hu; rfl⟩
def Rd.pair {α β : Type} (R : Rd α) (S : Rd β) : Rd (α × β) where
  sz := R.sz + S.sz
  ts := R.ts ++ S.ts
  rd b w cs x := ∃ c1 c2, cs = c1 ++ c2 ∧ R.rd b w c1 x.1 ∧ S.rd b w c2 x.2
  len b w cs x := by rintro ⟨c1, c2, rfl, h1, h2⟩; rw [List.length_append, R.len _ _ _ _ h1, S.len _ _ _ _ h2]
  keep b w w' cs x hk := by
    rintro ⟨c1, c2, rfl, h1, h2⟩
    exact ⟨c1, c2, rfl, R.keep _ _ _ _ _ (hk.mono fun e he => List.mem_append_left _ he) h1, S.keep _ _ _ _ _ (hk.mono fun e he => List.mem_append_right _ he) h2⟩
  lift b b' w cs x hb := by
    rintro ⟨c1, c2, rfl, h1, h2⟩
    exact ⟨c1, c2, rfl, R.lift _ _ _ _ _ hb h1, S.lift _ _ _ _ _ hb h2⟩
  one b w cs x := by
    rintro ⟨c1, c2, rfl, h1, h2⟩ u hu
    rcases List.mem_append.1 hu with hu | hu
    · exact R.one _ _ _ _ h1 u hu
    · exact S.one _ _ _ _ h2 u hu
def Rd.iso {α β : Type} (R : Rd α) (f : β → α) : Rd β := ⟨R.sz, R.ts, fun b w cs x => R.rd b w cs (f x), fun _ _ _ _ h => R.len _ _ _ _ h, fun _ _ _ _ _ hk h => R.keep _ _ _ _ _ hk h, fun _ _ _ _ _ hb h => R.lift _ _ _ _ _ hb h, fun _ _ _ _ h => R.one _ _ _ _ h⟩
/-- A slice that is read: nil, empty and other ones alike. -/
def RdRow {α : Type} (R : Rd α) (e : Nat) (b : Nat) (w : World) (v : Value) (l : List α) : Prop :=
  ∃ A c, v = .slice A l.length c ∧ l.length ≤ c ∧ c ≤ maxLen ∧ (A = none → c = 0) ∧ (l ≠ [] → ∃ g o, A = some ⟨g, o, none⟩ ∧ g < w.heap.size ∧ Sta (e :: R.ts) b w g ∧
    ∀ i x, l[i]? = some x → ∃ cs, R.rd b w cs x ∧ ∀ j u, cs[j]? = some u → w.cell? ⟨g, o + i * R.sz + j, none⟩ = some u)
theorem cell_same {w w' : World} {p : Addr} (h : w'.heap[p.block]? = w.heap[p.block]?) : w'.cell? p = w.cell? p := World.cell?_of_block h
theorem frozen_same {w w' : World} {p : Addr} (h : w'.heap[p.block]? = w.heap[p.block]?) : w'.frozen? p = w.frozen? p := World.frozen?_of_block h
theorem RdRow.keep {α : Type} {R : Rd α} {e b : Nat} {w w' : World} {v : Value} {l : List α} (h : RdRow R e b w v l) (hk : Kp (e :: R.ts) b w w') : RdRow R e b w' v l := by
  obtain ⟨A, c, rfl, h1, h2, hA, h3⟩ := h
  refine ⟨A, c, rfl, h1, h2, hA, fun hn => ?_⟩
  obtain ⟨g, o, rfl, hg, hs, hc⟩ := h3 hn
  refine ⟨g, o, rfl, Nat.lt_of_lt_of_le hg hk.1, hk.sta hg hs, fun i x hi => ?_⟩
  obtain ⟨cs, hr, hj⟩ := hc i x hi
  exact ⟨cs, R.keep _ _ _ _ _ (hk.mono fun e he => List.mem_cons_of_mem _ he) hr, fun j u hu => (cell_same (hk.2 g hg hs)).trans (hj j u hu)⟩
theorem RdRow.lift {α : Type} {R : Rd α} {e b b' : Nat} {w : World} {v : Value} {l : List α} (h : RdRow R e b w v l) (hb : w.heap.size ≤ b') : RdRow R e b' w v l := by
  obtain ⟨A, c, rfl, h1, h2, hA, h3⟩ := h
  refine ⟨A, c, rfl, h1, h2, hA, fun hn => ?_⟩
  obtain ⟨g, o, rfl, hg, hs, hc⟩ := h3 hn
  refine ⟨g, o, rfl, hg, .inl (Nat.lt_of_lt_of_le hg hb), fun i x hi => ?_⟩
  obtain ⟨cs, hr, hj⟩ := hc i x hi
  exact ⟨cs, R.lift _ _ _ _ _ hb hr, hj⟩
/-- Rows of scalars lean on no base. -/
theorem RdRow.lift' {k : IntKind} {e b b' : Nat} {w : World} {v : Value} {l : List Int} (h : RdRow (Rd.int k) e b w v l) (hb : b ≤ b') : RdRow (Rd.int k) e b' w v l := by
  obtain ⟨A, c, rfl, h1, h2, hA, h3⟩ := h
  refine ⟨A, c, rfl, h1, h2, hA, fun hn => ?_⟩
  obtain ⟨g, o, rfl, hg, hs, hc⟩ := h3 hn
  refine ⟨g, o, rfl, hg, ?_, hc⟩
  rcases hs with hs | hs
  · exact .inl (Nat.lt_of_lt_of_le hs hb)
  · exact .inr hs
theorem RdRow.nil {α : Type} (R : Rd α) (e b : Nat) (w : World) : RdRow R e b w (.slice none 0 0) [] := ⟨none, 0, rfl, Nat.le_refl _, Nat.zero_le _, fun _ => rfl, fun h => absurd rfl h⟩
def Rd.slice {α : Type} (R : Rd α) (e : Nat) : Rd (List α) where
  sz := 1
  ts := e :: R.ts
  rd b w cs l := ∃ v, cs = [v] ∧ RdRow R e b w v l
  len b w cs x := by rintro ⟨v, rfl, _⟩; rfl
  keep b w w' cs x hk := by rintro ⟨v, rfl, h⟩; exact ⟨v, rfl, h.keep hk⟩
  lift b b' w cs x hb := by rintro ⟨v, rfl, h⟩; exact ⟨v, rfl, h.lift hb⟩
  one b w cs x := by
    rintro ⟨v, rfl, A, c, rfl, _⟩ u hu
    simp at hu
    subst hu
    rfl
theorem RdRow.len {α : Type} {R : Rd α} {e b : Nat} {w : World} {v : Value} {l : List α} (h : RdRow R e b w v l) : l.length ≤ 9223372036854775807 := by
  obtain ⟨A, c, rfl, h1, h2, hA, h3⟩ := h
  unfold maxLen at h2
  omega
/-- The slice's value, and an element's cells. -/
theorem RdRow.at {α : Type} {R : Rd α} {e b : Nat} {w : World} {v : Value} {l : List α} (h : RdRow R e b w v l) : ∃ A c, v = .slice A l.length c ∧ l.length ≤ c ∧ c ≤ maxLen ∧ (A = none → c = 0) ∧ ∀ i (hi : i < l.length), ∃ g o cs, A = some ⟨g, o, none⟩ ∧ g < w.heap.size ∧ R.rd b w cs l[i] ∧ ∀ j u, cs[j]? = some u → w.cell? ⟨g, o + i * R.sz + j, none⟩ = some u := by
  obtain ⟨A, c, rfl, h1, h2, hA, h3⟩ := h
  refine ⟨A, c, rfl, h1, h2, hA, fun i hi => ?_⟩
  obtain ⟨g, o, rfl, hg, hs, hc⟩ := h3 (fun e => by rw [e] at hi; simp at hi)
  obtain ⟨cs, hr, hj⟩ := hc i l[i] (List.getElem?_eq_getElem hi)
  exact ⟨g, o, cs, rfl, hg, hr, hj⟩
theorem RdRow.ints {k : IntKind} {e b : Nat} {w : World} {v : Value} {l : List Int} (h : RdRow (Rd.int k) e b w v l) (hn : l ≠ []) : ∃ g o c, v = .slice (some ⟨g, o, none⟩) l.length c ∧ l.length ≤ c ∧ c ≤ 9223372036854775807 ∧ g < w.heap.size ∧ ∀ i (hi : i < l.length), w.cell? ⟨g, o + i, none⟩ = some (.int k l[i]) ∧ (Lit.int k l[i]).wf = true := by
  obtain ⟨A, c, rfl, h1, h2, hA, h3⟩ := h
  obtain ⟨g, o, rfl, hg, hs, hc⟩ := h3 hn
  refine ⟨g, o, c, rfl, h1, by unfold maxLen at h2; omega, hg, fun i hi => ?_⟩
  obtain ⟨cs, ⟨rfl, hwf⟩, hj⟩ := hc i l[i] (List.getElem?_eq_getElem hi)
  have := hj 0 _ rfl
  exact ⟨by simpa [Rd.int] using this, hwf⟩
theorem RdRow.intAt {k : IntKind} {e b n c : Nat} {A : Option Addr} {w : World} {l : List Int} (h : RdRow (Rd.int k) e b w (.slice A n c) l) (i : Nat) (hi : i < l.length) : ∃ g o, A = some ⟨g, o, none⟩ ∧ g < w.heap.size ∧ w.cell? ⟨g, o + i, none⟩ = some (.int k (l.getD i 0)) := by
  obtain ⟨g, o, c', hv, _, _, hg, hc⟩ := h.ints (by intro e; rw [e] at hi; cases hi)
  injection hv with h1 h2 h3
  exact ⟨g, o, h1, hg, by rw [(hc i hi).1, List.getD_eq_getElem?_getD, List.getElem?_eq_getElem hi]; rfl⟩

/-- A row of one's own whose elements are read: n0: how many blocks lay ahead of it. -/
def OwnRow {α : Type} (R : Rd α) (e b n0 : Nat) (w : World) (v : Value) (l : List α) : Prop :=
  ∃ cs : List (List Value), w.ownsRow n0 e R.sz v l.length cs.flatten ∧ cs.length = l.length ∧ ∀ (i : Nat) (x : α) (c : List Value), l[i]? = some x → cs[i]? = some c → R.rd b w c x
theorem OwnRow.nil {α : Type} (R : Rd α) (e b n0 : Nat) (w : World) : OwnRow R e b n0 w (.slice none 0 0) [] := ⟨[], ⟨by simp, .inl ⟨rfl, rfl⟩⟩, rfl, fun i x c h => by simp at h⟩
theorem flatten_len {n : Nat} : ∀ {cs : List (List Value)}, (∀ c ∈ cs, c.length = n) → cs.flatten.length = cs.length * n
  | [], _ => by simp
  | c :: r, h => by
    rw [List.flatten_cons, List.length_append, List.length_cons, h c List.mem_cons_self, flatten_len (fun c hc => h c (List.mem_cons_of_mem _ hc)), Nat.succ_mul]
    omega
theorem flatten_at {n : Nat} : ∀ {cs : List (List Value)} {i j : Nat} {c : List Value} {u : Value}, (∀ c ∈ cs, c.length = n) → cs[i]? = some c → c[j]? = some u → cs.flatten[i * n + j]? = some u
  | [], i, j, c, u, _, h, _ => by simp at h
  | d :: r, 0, j, c, u, h, h1, h2 => by
    simp at h1
    subst h1
    rw [List.flatten_cons, Nat.zero_mul, Nat.zero_add, List.getElem?_append_left (List.getElem?_eq_some_iff.1 h2).1]
    exact h2
  | d :: r, i + 1, j, c, u, h, h1, h2 => by
    have hd := h d List.mem_cons_self
    rw [List.flatten_cons, List.getElem?_append_right (by rw [hd, Nat.succ_mul]; omega), hd, show (i + 1) * n + j - n = i * n + j from by rw [Nat.succ_mul]; omega]
    exact flatten_at (fun c hc => h c (List.mem_cons_of_mem _ hc)) (by simpa using h1) h2
theorem OwnRow.lens {α : Type} {R : Rd α} {b : Nat} {w : World} {l : List α} {cs : List (List Value)} (hl : cs.length = l.length) (h : ∀ (i : Nat) (x : α) (c : List Value), l[i]? = some x → cs[i]? = some c → R.rd b w c x) : ∀ c ∈ cs, c.length = R.sz := by
  intro c hc
  obtain ⟨i, hi⟩ := List.getElem?_of_mem hc
  have hlt : i < l.length := by rw [← hl]; exact (List.getElem?_eq_some_iff.1 hi).1
  exact R.len _ _ _ _ (h i l[i] c (List.getElem?_eq_getElem hlt) hi)
/-- Finished, it is read. -/
theorem OwnRow.read {α : Type} {R : Rd α} {e b n0 : Nat} {w : World} {v : Value} {l : List α} (h : OwnRow R e b n0 w v l) : RdRow R e b w v l := by
  obtain ⟨cs, ho, hl, hr⟩ := h
  have hlen := OwnRow.lens hl hr
  rcases ho.2 with ⟨rfl, h0⟩ | ⟨g, cap, cur, rfl, hb, hh, h1, h2, h3, h4⟩
  · have : l = [] := List.eq_nil_of_length_eq_zero h0
    subst this
    exact RdRow.nil ..
  · refine ⟨_, cap, rfl, h1, h2, fun hn => (by cases hn), fun hn => ⟨g, 0, rfl, (Array.getElem?_eq_some_iff.1 hh).1, .inr ⟨_, _, _, hh, List.mem_cons_self⟩, fun i x hi => ?_⟩⟩
    have hil : i < cs.length := by rw [hl]; exact (List.getElem?_eq_some_iff.1 hi).1
    refine ⟨cs[i], hr i x _ hi (List.getElem?_eq_getElem hil), fun j u hu => ?_⟩
    have := ho.cells (g := g) rfl (i * R.sz + j) u (flatten_at hlen (List.getElem?_eq_getElem hil) hu)
    rw [Nat.zero_add]
    have ha : (⟨g, 0, none⟩ : Addr).add (i * R.sz + j) = ⟨g, i * R.sz + j, none⟩ := by unfold Addr.add; split <;> simp_all
    rwa [ha] at this
/-- Whatever else turns: its own block and what its elements lead to stand. -/
theorem OwnRow.keep {α : Type} {R : Rd α} {e b n0 : Nat} {w w' : World} {v : Value} {l : List α} (h : OwnRow R e b n0 w v l) (hk : Kp R.ts b w w') (hv : ∀ k, v.ownBlock = some k → w'.heap[k]? = w.heap[k]?) : OwnRow R e b n0 w' v l := by
  obtain ⟨cs, ho, hl, hr⟩ := h
  refine ⟨cs, ⟨ho.1, ?_⟩, hl, fun i x c h1 h2 => R.keep _ _ _ _ _ hk (hr i x c h1 h2)⟩
  rcases ho.2 with h0 | ⟨g, cap, cur, rfl, hb, hh, h1, h2, h3, h4⟩
  · exact .inl h0
  · exact .inr ⟨g, cap, cur, rfl, hb, by rw [hv g rfl]; exact hh, h1, h2, h3, h4⟩
theorem OwnRow.lift {α : Type} {R : Rd α} {e b b' n0 : Nat} {w : World} {v : Value} {l : List α} (h : OwnRow R e b n0 w v l) (hb : w.heap.size ≤ b') : OwnRow R e b' n0 w v l := by
  obtain ⟨cs, ho, hl, hr⟩ := h
  exact ⟨cs, ho, hl, fun i x c h1 h2 => R.lift _ _ _ _ _ hb (hr i x c h1 h2)⟩
theorem Kp.of_below {ts : List Nat} {b b' : Nat} {w w' : World} (h : Below b' w w') (_hb : b ≤ b') (hts : ∀ g, g < w.heap.size → Sta ts b w g → g < b') : Kp ts b w w' := ⟨h.size, fun g hg hs => h.block g (hts g hg hs)⟩
theorem Kp.below {ts : List Nat} {b : Nat} {w w' : World} (h : Below b w w') (hts : w.heap.size ≤ b) : Kp ts b w w' := ⟨h.size, fun g hg _ => h.block g (Nat.lt_of_lt_of_le hg hts)⟩
theorem OwnRow.lt {α : Type} {R : Rd α} {e b n0 : Nat} {w : World} {v : Value} {l : List α} (h : OwnRow R e b n0 w v l) : ∀ k, v.ownBlock = some k → n0 ≤ k ∧ k < w.heap.size := by
  obtain ⟨cs, ho, _⟩ := h
  exact ho.lt
theorem OwnRow.grown {α : Type} {R : Rd α} {e b n0 : Nat} {w w' : World} {v : Value} {l : List α} {row : Option Nat} (h : OwnRow R e b n0 w v l) (hg : w.grownBy w' row) (hr : ∀ k, row = some k → ¬ Sta R.ts b w k) (hv : v.ownBlock = none ∨ v.ownBlock ≠ row) : OwnRow R e b n0 w' v l :=
  h.keep ((Kp.refl R.ts b w).grown hg (fun k hk => .inr (hr k hk))) (fun k hk => hg.block k (h.lt k hk).2 (fun e => by
    rcases hv with hv | hv
    · rw [hv] at hk; cases hk
    · exact hv (hk.trans e)))
theorem OwnRow.alloc {α : Type} {R : Rd α} {e b n0 : Nat} {w : World} {v : Value} {l : List α} (h : OwnRow R e b n0 w v l) (o : Obj) : OwnRow R e b n0 (w.alloc o) v l :=
  h.grown (World.grownBy_alloc w o none) (by simp) (by cases v.ownBlock <;> simp)
theorem OwnRow.slice {α : Type} {R : Rd α} {e b n0 : Nat} {w : World} {v : Value} {l : List α} (h : OwnRow R e b n0 w v l) : ∃ A c, v = .slice A l.length c := by
  obtain ⟨A, c, rfl, _⟩ := h.read
  exact ⟨A, c, rfl⟩
theorem OwnRow.below {α : Type} {R : Rd α} {e b n0 : Nat} {w w' : World} {v : Value} {l : List α} (h : OwnRow R e b n0 w v l) (hb : Below w.heap.size w w') : OwnRow R e b n0 w' v l :=
  h.keep ⟨hb.size, fun g hg _ => hb.block g hg⟩ (fun k hk => hb.block k (h.lt k hk).2)
theorem RdRow.below {α : Type} {R : Rd α} {e b : Nat} {w w' : World} {v : Value} {l : List α} (h : RdRow R e b w v l) (hb : Below w.heap.size w w') : RdRow R e b w' v l :=
  h.keep ⟨hb.size, fun g hg _ => hb.block g hg⟩
theorem bl_drewN (w : World) (n : Nat) : Below w.heap.size w (w.drewN n) := ⟨rfl, rfl, rfl, Nat.le_refl _, fun _ _ => rfl⟩
theorem gb_drewN (w : World) (n : Nat) (row : Option Nat) : w.grownBy (w.drewN n) row := ⟨rfl, rfl, rfl, Nat.le_refl _, fun _ _ _ => rfl⟩
theorem bl_push {B : Nat} {w0 w w' : World} {v : Value} (h : Below B w0 w) (hg : w.grownBy w' v.ownBlock) (hB : B ≤ w.heap.size) (hv : ∀ k, v.ownBlock = some k → B ≤ k) : Below B w0 w' := h.grown hg hB hv
theorem OwnRow.at {α : Type} {R : Rd α} {e b n0 : Nat} {w : World} {v : Value} {l : List α} (h : OwnRow R e b n0 w v l) (hn : l ≠ []) : ∃ g cap, v = .slice (some ⟨g, 0, none⟩) l.length cap ∧ n0 ≤ g ∧ g < w.heap.size ∧ l.length ≤ cap ∧ cap ≤ 9223372036854775807 ∧ (∀ j, w.frozen? ⟨g, j, none⟩ = false) ∧ ∀ i (hi : i < l.length), ∃ cs, R.rd b w cs l[i] ∧ ∀ j u, cs[j]? = some u → w.cell? ⟨g, i * R.sz + j, none⟩ = some u := by
  obtain ⟨cs, ho, hl, hr⟩ := h
  have hlen := OwnRow.lens hl hr
  rcases ho.2 with ⟨_, h0⟩ | ⟨g, cap, cur, rfl, hb, hh, h1, h2, h3, h4⟩
  · exact absurd (List.eq_nil_of_length_eq_zero h0) hn
  · refine ⟨g, cap, rfl, hb, (Array.getElem?_eq_some_iff.1 hh).1, h1, by unfold maxLen at h2; omega, fun j => by unfold World.frozen?; simp [hh], fun i hi => ?_⟩
    have hil : i < cs.length := by rw [hl]; exact hi
    refine ⟨cs[i], hr i _ _ (List.getElem?_eq_getElem hi) (List.getElem?_eq_getElem hil), fun j u hu => ?_⟩
    have := ho.cells (g := g) rfl (i * R.sz + j) u (flatten_at hlen (List.getElem?_eq_getElem hil) hu)
    have ha : (⟨g, 0, none⟩ : Addr).add (i * R.sz + j) = ⟨g, i * R.sz + j, none⟩ := by unfold Addr.add; split <;> simp_all
    rwa [ha] at this
section
variable {P : Program} {ops : Array Oper} {rest : List Oper} {o : Oper} {a : Act} {Q : Exit → Act → World → Prop}
/-- 'append(v, x)': behind 'at_builtin'; x's cells lie in the block that was laid last. -/
theorem wp_push {α : Type} {R : Rd α} {e b n0 : Nat} {W : World} (hgd : o.guard = none) (s x : Operand) (t : TypeId) (z : Value) (bytes : Nat)
    (ho : o.op = .call { callee := .builtin .append, args := #[s, x], argTypes := #[t, t] })
    (ht : P.underlying t = some (.slice e)) (hinfo : (P.info? e).map (fun i => (i.zero, i.size, i.bytes)) = some (some z, R.sz, bytes)) (hz : z.cells.size = R.sz) (hsz : 0 < R.sz) (hb0 : 0 < bytes)
    (v : Value) (l : List α) (y : α) (cs : Array Value) (fr : Nat × Nat) (hs : a.eval s = v) (hx : a.eval x = .slice (some ⟨W.heap.size, 0, none⟩) 1 1) (hy : R.rd b W cs.toList y)
    (HO : OwnRow R e b n0 W v l) (hn0 : n0 ≤ W.heap.size) (hne : e ∉ R.ts) (hbn : b ≤ n0) (hl : (l.length + 1) * bytes ≤ 140737488355328)
    (h : ∀ v1 w1, OwnRow R e b n0 w1 v1 (l ++ [y]) → W.grownBy w1 v.ownBlock → (v1.ownBlock = v.ownBlock ∨ ∃ b, v1.ownBlock = some b ∧ W.heap.size ≤ b) → W.heap.size < w1.heap.size → wpList P ops Q rest (a.put o.dst v1) w1) :
    wpList P ops Q (o :: rest) a (W.alloc (.cells cs e fr)) := by
  obtain ⟨i0, hi, hzz⟩ := Option.map_eq_some_iff.1 hinfo
  simp only [Prod.mk.injEq] at hzz
  obtain ⟨hz0, hz1, hz2⟩ := hzz
  have hlen : l.length + 1 ≤ 140737488355328 := Nat.le_trans (Nat.le_mul_of_pos_right _ hb0) hl
  have hcl := R.len _ _ _ _ hy
  have hgrow0 := World.grownBy_alloc W (.cells cs e fr) none
  obtain ⟨css, ho1, hl', hr'⟩ := HO
  have ho' := ho1.alloc (.cells cs e fr)
  refine wpList_append_own_at (W.alloc (.cells cs e fr)) hgd s x t ho n0 e i0 z R.sz bytes ht hi hz0 hz1 hz2 hz hsz v l.length css.flatten hs ho' ⟨W.heap.size, 0, none⟩ 1 1 cs.toList hx (by simpa using hcl)
    (World.news_of_block (cs := cs) (t := e) (fr := fr) (heap_alloc_new W _)) (fun u hu => R.one _ _ _ _ hy u (by simpa using hu)) (by simp only [maxLen]; omega) hl (by simp; omega) ?_
  intro v1 w1 hown hg _ hat
  have hg' : W.grownBy w1 v.ownBlock := World.grownBy.trans (World.grownBy_alloc W _ _) hg
  have hk : Kp R.ts b W w1 := (Kp.refl R.ts b W).grown hg' (fun k hk => .inr (by
    rcases ho1.2 with ⟨rfl, _⟩ | ⟨g, cap, cur, rfl, hbb, hh, _⟩
    · simp [Value.ownBlock] at hk
    · have : g = k := by simpa [Value.ownBlock] using hk
      subst this
      exact not_sta hh (Nat.le_trans hbn hbb) hne))
  refine h v1 w1 ⟨css ++ [cs.toList], ?_, by simp [hl'], fun i x' c h1 h2 => ?_⟩ hg' ?_ ?_
  · rw [List.flatten_append, List.length_append]
    simpa using hown
  · rcases Nat.lt_or_ge i l.length with hi' | hi'
    · rw [List.getElem?_append_left hi'] at h1
      rw [List.getElem?_append_left (by rw [hl']; exact hi')] at h2
      exact R.keep _ W _ _ _ hk (hr' i x' c h1 h2)
    · rw [List.getElem?_append_right hi'] at h1
      rw [List.getElem?_append_right (by rw [hl']; exact hi')] at h2
      rw [hl'] at h2
      have h0 : i - l.length = 0 := by
        have := (List.getElem?_eq_some_iff.1 h1).1
        simp at this
        omega
      rw [h0] at h1 h2
      simp at h1 h2
      subst h1 h2
      exact R.keep _ W _ _ _ hk hy
  · rcases hat with hat | hat
    · exact .inl hat
    · exact .inr ⟨_, hat, by simp⟩
  · have := hg.size
    simp at this
    omega
/-- The cells of all elements. -/
theorem RdRow.news {α : Type} {R : Rd α} {e b : Nat} {w : World} {v : Value} {m : List α} (h : RdRow R e b w v m) : ∃ A c, v = .slice A m.length c ∧ (A = none → c = 0) ∧ m.length ≤ c ∧ ∃ css : List (List Value), css.length = m.length ∧ (∀ (i : Nat) (x : α) (c : List Value), m[i]? = some x → css[i]? = some c → R.rd b w c x) ∧ ∀ ad, A = some ad → ∀ j u, css.flatten[j]? = some u → w.cell? (ad.add j) = some u := by
  obtain ⟨A, c, rfl, h1, h2, hA, h3⟩ := h
  refine ⟨A, c, rfl, hA, h1, ?_⟩
  by_cases hn : m = []
  · subst hn
    exact ⟨[], rfl, fun i x c h => by simp at h, fun ad _ j u h => by simp at h⟩
  · obtain ⟨g, o, rfl, hg, hs, hc⟩ := h3 hn
    have hex : ∀ k, k ≤ m.length → ∃ css : List (List Value), css.length = k ∧ ∀ (i : Nat) (x : α) (c : List Value), m[i]? = some x → css[i]? = some c → R.rd b w c x ∧ ∀ j u, c[j]? = some u → w.cell? ⟨g, o + i * R.sz + j, none⟩ = some u := by
      intro k
      induction k with
      | zero => intro _; exact ⟨[], rfl, fun i x c _ h => by simp at h⟩
      | succ k ih =>
        intro hk
        obtain ⟨css, hl, hr⟩ := ih (by omega)
        obtain ⟨cs, hcs, hj⟩ := hc k m[k] (List.getElem?_eq_getElem (by omega))
        refine ⟨css ++ [cs], by simp [hl], fun i x c hi hci => ?_⟩
        rcases Nat.lt_or_ge i k with h | h
        · rw [List.getElem?_append_left (by omega)] at hci
          exact hr i x c hi hci
        · rw [List.getElem?_append_right (by omega)] at hci
          have h0 : i - css.length = 0 := by
            have := (List.getElem?_eq_some_iff.1 hci).1
            simp at this
            omega
          have hik : i = k := by omega
          subst hik
          rw [h0] at hci
          simp at hci
          subst hci
          rw [List.getElem?_eq_getElem (by omega)] at hi
          simp at hi
          subst hi
          exact ⟨hcs, hj⟩
    obtain ⟨css, hl, hr⟩ := hex m.length (Nat.le_refl _)
    refine ⟨css, hl, fun i x c h h' => (hr i x c h h').1, fun ad had j u hu => ?_⟩
    injection had with had
    subst had
    have hlen : ∀ c ∈ css, c.length = R.sz := OwnRow.lens hl (fun i x c h h' => (hr i x c h h').1)
    have hfl := flatten_len hlen
    have hju := (List.getElem?_eq_some_iff.1 hu).1
    have hsz : 0 < R.sz := by
      rcases Nat.eq_zero_or_pos R.sz with h0 | h0
      · rw [hfl, h0] at hju; simp at hju
      · exact h0
    have hq : j / R.sz < css.length := Nat.div_lt_of_lt_mul (by rw [hfl, Nat.mul_comm] at hju; exact hju)
    have hdm := Nat.div_add_mod j R.sz
    have hmod := Nat.mod_lt j hsz
    have hcl := hlen css[j / R.sz] (List.getElem_mem ..)
    have h5 := (hr (j / R.sz) m[j / R.sz] css[j / R.sz] (List.getElem?_eq_getElem (by omega)) (List.getElem?_eq_getElem hq)).2 (j % R.sz) (css[j / R.sz][j % R.sz]'(by omega)) (List.getElem?_eq_getElem (by omega))
    have h6 := flatten_at hlen (List.getElem?_eq_getElem hq) (List.getElem?_eq_getElem (l := css[j / R.sz]) (i := j % R.sz) (by omega))
    have e : j / R.sz * R.sz + j % R.sz = j := by rw [Nat.mul_comm]; exact hdm
    rw [e, hu] at h6
    injection h6 with h6
    subst h6
    rw [show o + j / R.sz * R.sz + j % R.sz = o + j from by omega] at h5
    have ha : (⟨g, o, none⟩ : Addr).add j = ⟨g, o + j, none⟩ := by unfold Addr.add; split <;> simp_all
    rw [ha]
    exact h5
/-- 'append(v, ys...)'. -/
theorem wp_cat {α : Type} {R : Rd α} {e b n0 : Nat} {W : World} (hgd : o.guard = none) (s x : Operand) (t : TypeId) (z : Value) (bytes : Nat)
    (ho : o.op = .call { callee := .builtin .append, args := #[s, x], argTypes := #[t, t] })
    (ht : P.underlying t = some (.slice e)) (hinfo : (P.info? e).map (fun i => (i.zero, i.size, i.bytes)) = some (some z, R.sz, bytes)) (hz : z.cells.size = R.sz) (hsz : 0 < R.sz) (hb0 : 0 < bytes)
    (v y : Value) (l m : List α) (hs : a.eval s = v) (hx : a.eval x = y) (HM : RdRow R e b W y m)
    (HO : OwnRow R e b n0 W v l) (hn0 : n0 ≤ W.heap.size) (hne : e ∉ R.ts) (hbn : b ≤ n0) (hl : (l.length + m.length) * bytes ≤ 140737488355328)
    (h : ∀ v1 w1, OwnRow R e b n0 w1 v1 (l ++ m) → W.grownBy w1 v.ownBlock → (v1.ownBlock = v.ownBlock ∨ v1.ownBlock = some W.heap.size) → (v1 = .slice none 0 0 ↔ v = .slice none 0 0 ∧ m = []) → wpList P ops Q rest (a.put o.dst v1) w1) :
    wpList P ops Q (o :: rest) a W := by
  obtain ⟨i0, hi, hzz⟩ := Option.map_eq_some_iff.1 hinfo
  simp only [Prod.mk.injEq] at hzz
  obtain ⟨hz0, hz1, hz2⟩ := hzz
  have hlen : l.length + m.length ≤ 140737488355328 := Nat.le_trans (Nat.le_mul_of_pos_right _ hb0) hl
  obtain ⟨A, c, rfl, hA, hmc, css, hcl, hcr, hcells⟩ := HM.news
  have HO2 := HO
  obtain ⟨cl, ho1, hl', hr'⟩ := HO
  have hk : ∀ w1, W.grownBy w1 v.ownBlock → Kp R.ts b W w1 := fun w1 hg' => (Kp.refl R.ts b W).grown hg' (fun k hk => .inr (by
    rcases ho1.2 with ⟨rfl, _⟩ | ⟨g, cap, cur, rfl, hbb, hh, _⟩
    · simp [Value.ownBlock] at hk
    · have : g = k := by simpa [Value.ownBlock] using hk
      subst this
      exact not_sta hh (Nat.le_trans hbn hbb) hne))
  cases A with
  | none =>
    have hc0 := hA rfl
    subst hc0
    have hm0 : m = [] := List.eq_nil_of_length_eq_zero (by omega)
    subst hm0
    refine wpList_append_own_none hgd s x t ho n0 e i0 R.sz ht hi v l.length cl.flatten hs ho1 hx ?_
    exact h v W (by rw [List.append_nil]; exact HO2) ⟨rfl, rfl, rfl, Nat.le_refl _, fun _ _ _ => rfl⟩ (.inl rfl) ⟨fun e => ⟨e, rfl⟩, fun e => e.1⟩
  | some ad =>
    have hlens := OwnRow.lens hcl hcr
    refine wpList_append_own_at W hgd s x t ho n0 e i0 z R.sz bytes ht hi hz0 hz1 hz2 hz hsz v l.length cl.flatten hs ho1 ad m.length c css.flatten hx (by rw [flatten_len hlens, hcl])
      (hcells ad rfl) (fun u hu => by
        obtain ⟨c', hc', hu'⟩ := List.mem_flatten.1 hu
        obtain ⟨i, hi⟩ := List.getElem?_of_mem hc'
        have hlt : i < m.length := by rw [← hcl]; exact (List.getElem?_eq_some_iff.1 hi).1
        exact R.one _ _ _ _ (hcr i m[i] c' (List.getElem?_eq_getElem hlt) hi) u hu') (by simp only [maxLen]; omega) hl hn0 ?_
    intro v1 w1 hown hg hnil hat
    refine h v1 w1 ⟨cl ++ css, ?_, by simp [hl', hcl], fun i x' c' h1 h2 => ?_⟩ hg hat ?_
    · rw [List.flatten_append, List.length_append]; exact hown
    · rcases Nat.lt_or_ge i l.length with hi' | hi'
      · rw [List.getElem?_append_left hi'] at h1
        rw [List.getElem?_append_left (by rw [hl']; exact hi')] at h2
        exact R.keep _ W _ _ _ (hk w1 hg) (hr' i x' c' h1 h2)
      · rw [List.getElem?_append_right hi'] at h1
        rw [List.getElem?_append_right (by rw [hl']; exact hi'), hl'] at h2
        exact R.keep _ W _ _ _ (hk w1 hg) (hcr _ x' c' h1 h2)
    · rw [hnil]
      exact ⟨fun e => ⟨e.1, List.eq_nil_of_length_eq_zero e.2⟩, fun e => ⟨e.1, by rw [e.2]; rfl⟩⟩
end
end Go.WW
