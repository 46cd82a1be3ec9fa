/-
  The law BktreeNodes: what holds from act to act.
-/
import Derived.Test.YtjdcemmodkdajaaLives
import Derived.Test.YtjdcemmodkdajaaRSame
import Derived.Test.YtjdcemmodkdajaaRDep
import Derived.Test.YtjdcemmodkdajaaRRight
import Derived.Deep.CutBlock
namespace Go.Proofs.Ytjdcemmodkdajaa
open Go Go.RowKit Go.WW
theorem bk_lift0 (b : Nat) {w : World} {v : Value} {l : List Nd} (h : RdRow bkR 77 0 w v l) : RdRow bkR 77 b w v l := by
  obtain ⟨A, c, rfl, h1, h2, hA, h3⟩ := h
  refine ⟨A, c, rfl, h1, h2, hA, fun hn => ?_⟩
  obtain ⟨g, o, rfl, hg, hs, hc⟩ := h3 hn
  refine ⟨g, o, rfl, hg, ?_, fun i x hi => ?_⟩
  · rcases hs with hs | hs
    · omega
    · exact .inr hs
  · obtain ⟨cs, hr, hj⟩ := hc i x hi
    obtain ⟨v, rfl, h4, h5, h6⟩ := bkR_iff.1 hr
    obtain ⟨v', hv', h7, h8⟩ := itR_iff.1 h4
    simp only [List.cons.injEq, and_true, true_and] at hv'
    subst hv'
    exact ⟨_, bkR_iff.2 ⟨v, rfl, itR_iff.2 ⟨v, rfl, h7, obR_lift0 b h8⟩, h5, h6⟩, hj⟩
/-- All that a tree has lies in the heap already. -/
theorem Tr.tight {own : Nat → Prop} {w : World} {t mt : Nat} {m gone : Int} {l : List Nd} {f : Int → Option Int} (h : Tr own w t mt m l gone f) : Tr (fun g => own g ∧ g < w.heap.size) w t mt m l gone f := by
  obtain ⟨lv, mb, kv, hK⟩ := h.mem
  obtain ⟨c, hM⟩ := h.met
  exact { h with
    mem := ⟨lv, mb, kv, { hK with
      ot := ⟨hK.ot, hK.row.lt⟩
      om := ⟨hK.om, hK.map.lt⟩
      ol := fun g hg => ⟨hK.ol g hg, (hK.nodes.lt g hg).2⟩
      ok := fun v hv g hg => ⟨hK.ok v hv g hg, by obtain ⟨i, hi⟩ := List.getElem?_of_mem hv; exact ((hK.kids i v hi).lt g hg).2⟩ }⟩
    om := ⟨h.om, hM.lt⟩ }
/-- What holds from act to act. -/
structure St (m s : Int) (va : Value) (t mt : Nat) (w0 w : World) (L : List Nd) (I : List It) (f : Int → Option Int) (n : Nat) : Prop where
  tr : Tr (fun g => w0.heap.size + 1 ≤ g) w t mt m L (gcnt L) f
  rt : Rt m L
  half : 2 * gcnt L ≤ L.length
  perm : (I.map It.id).Perm (ids L)
  len : L.length ≤ n
  below : Below w0.heap.size w0 w
  box : IRow 24 w w0.heap.size [.int .i64 m, .int .i64 s, va]
section
variable {m s : Int} {va : Value} {t mt : Nat} {w0 w w1 w2 : World} {L : List Nd} {I : List It} {f : Int → Option Int} {n : Nat}
theorem St.ilen (h : St m s va t mt w0 w L I f n) : I.length + gcnt L = L.length := by
  have h1 := h.perm.length_eq
  have h2 := live_len L
  unfold ids at h1
  simp only [List.length_map] at h1
  omega
theorem St.sub (h : St m s va t mt w0 w L I f n) : (L.length : Int) - (I.length : Int) = (gcnt L : Int) := by have := h.ilen; omega
theorem St.has (h : St m s va t mt w0 w L I f n) (y : Int) : (f y).isSome = decide (y ∈ I.map It.id) := by
  rw [h.tr.ti.ids y]
  exact decide_eq_decide.2 h.perm.symm.mem_iff
theorem St.next (h : St m s va t mt w0 w L I f n) (hb : Below w.heap.size w w1) : St m s va t mt w0 w1 L I f n :=
  { h with tr := h.tr.below hb, below := h.below.trans (hb.mono h.below.size), box := h.box.kept (hb.block _ h.box.lt) }
theorem St.more (h : St m s va t mt w0 w L I f n) {k : Nat} (hk : n ≤ k) : St m s va t mt w0 w L I f k := { h with len := Nat.le_trans h.len hk }
/-- A block more lies ahead of a tree's call: the call leaves it. -/
theorem St.ahead (h : St m s va t mt w0 w L I f n) (o : Obj) : Tr (fun g => w0.heap.size + 1 ≤ g ∧ g < w.heap.size) (w.alloc o) t mt m L (gcnt L) f := h.tr.tight.below ((Below.refl _ w).alloc (Nat.le_refl _) o)
abbrev ahd (w0 w : World) : Nat → Prop := fun g => w0.heap.size + 1 ≤ g ∧ g < w.heap.size
variable {o : Obj} {L' : List Nd} {I' : List It} {f' : Int → Option Int} {n' : Nat}
theorem ahd_kp (hF : Fr (nf (ahd w0 w) (w.alloc o)) (w.alloc o) w2) : Kp Fz w0.heap.size (w.alloc o) w2 := hF.kp (ts := Fz) (b := w0.heap.size) (fun g hg => hg.sta (fun g hg => by have := hg.1; omega))
theorem ahd_toB (h : St m s va t mt w0 w L I f n) (hF : Fr (nf (ahd w0 w) (w.alloc o)) (w.alloc o) w2) : Below w0.heap.size w w2 :=
  (((Below.refl _ w).alloc h.below.size o)).trans (hF.toB (fun g hg => by have := hg.1.1; omega) (by have := h.below.size; simp; omega))
theorem ahd_act (hF : Fr (nf (ahd w0 w) (w.alloc o)) (w.alloc o) w2) : w2.heap[w.heap.size]? = some o := by
  rw [hF.block w.heap.size (by simp) (fun hg => by have := hg.1.2; omega)]
  exact heap_alloc_new w o
theorem St.after (h : St m s va t mt w0 w L I f n) (hF : Fr (nf (ahd w0 w) (w.alloc o)) (w.alloc o) w2) (hT : Tr (More (ahd w0 w) (w.alloc o)) w2 t mt m L' (gcnt L') f') (rt : Rt m L') (half : 2 * gcnt L' ≤ L'.length) (perm : (I'.map It.id).Perm (ids L')) (len : L'.length ≤ n') :
    St m s va t mt w0 w2 L' I' f' n' where
  tr := hT.grow (fun g hg => by
    have := h.box.lt
    rcases hg with hg | hg
    · exact hg.1
    · simp at hg; omega)
  rt := rt
  half := half
  perm := perm
  len := len
  below := h.below.trans (ahd_toB h hF)
  box := h.box.kept ((hF.block _ (by have := h.box.lt; simp; omega) (fun hg => by have := hg.1.1; omega)).trans (Below.heap_alloc w o _ h.box.lt))
end
end Go.Proofs.Ytjdcemmodkdajaa
