/-
  laesa: the table in memory.
-/
import Derived.Test.YtbjmlahnojfekaaGreatFr
namespace Go.Proofs.YtbjmlahnojfekaaGreat
open Go Go.RowKit Go.WW
structure Lw where
  it : It
  row : List Int
abbrev rowR : Rd (List Int) := Rd.slice intR 3
def lrR : Rd Lw := Rd.iso (Rd.pair itR rowR) (fun x => (x.it, x.row))
theorem lrR_iff {b : Nat} {w : World} {cs : List Value} {x : Lw} : lrR.rd b w cs x ↔ ∃ v vr, cs = [.int .u64 x.it.id, .int .i64 x.it.ob.tag, v, .string x.it.ob.str, vr] ∧ itR.rd b w [.int .u64 x.it.id, .int .i64 x.it.ob.tag, v, .string x.it.ob.str] x.it ∧ RdRow intR 3 b w vr x.row := by
  constructor
  · rintro ⟨c1, c2, rfl, h1, vr, rfl, h2⟩
    obtain ⟨v, rfl, hw, h3⟩ := itR_iff.1 h1
    exact ⟨v, vr, rfl, h1, h2⟩
  · rintro ⟨v, vr, rfl, h1, h2⟩
    exact ⟨[_, _, _, _], [_], rfl, h1, vr, rfl, h2⟩
def FzL : List Nat := [21, 34, 3]
/-- A block of a frozen type. -/
def FrzL (w : World) (g : Nat) : Prop := ∃ c e f, w.heap[g]? = some (.cells c e f) ∧ e ∈ FzL
def nfL (own : Nat → Prop) (w : World) (g : Nat) : Prop := own g ∧ ¬ FrzL w g
theorem not_frzL {w : World} {g T : Nat} {c : Array Value} {f : Nat × Nat} (h : w.heap[g]? = some (.cells c T f)) (hT : T ∉ FzL) : ¬ FrzL w g := by
  rintro ⟨c', e, f', h1, h2⟩
  rw [h] at h1
  injection h1 with h1
  injection h1 with _ h3 _
  subst h3
  exact hT h2
theorem nfL.sta {own : Nat → Prop} {w : World} {b g : Nat} {ts : List Nat} (h : nfL own w g) (hb : ∀ g, own g → b ≤ g) (hts : ∀ e ∈ ts, e ∈ FzL := by decide) : ¬ Sta ts b w g := by
  intro hs
  revert hs
  refine fun hs => (?_ : ¬ Sta FzL b w g) (hs.mono hts)
  rintro (h1 | h1)
  · have := hb g h.1; omega
  · exact h.2 h1
abbrev MoreL (own : Nat → Prop) (w : World) : Nat → Prop := fun g => own g ∨ w.heap.size ≤ g
theorem Fr.nfL_trans {own : Nat → Prop} {w w1 w' : World} (h : Fr (nfL own w) w w1) (k : Fr (nfL (MoreL own w) w1) w1 w') : Fr (nfL own w) w w' :=
  h.trans k (fun g hg => by
    rcases Nat.lt_or_ge g w.heap.size with hl | hl
    · refine .inl ⟨?_, fun hf => hg.2 ?_⟩
      · rcases hg.1 with h1 | h1
        · exact h1
        · omega
      · obtain ⟨c, e, f, h1, h2⟩ := hf
        exact ⟨c, e, f, (h.block g hl (fun hn => hn.2 ⟨c, e, f, h1, h2⟩)).trans h1, h2⟩
    · exact .inr hl)
/-- A table in memory: its block t, its meter mt. -/
structure LT (own : Nat → Prop) (w : World) (t mt : Nat) (m most calls : Int) (piv : List Ob) (rows : List Lw) : Prop where
  mem : ∃ vp vr, IRow 88 w t [.pointer (some ⟨mt, 0, none⟩), .int .i64 most, vp, vr] ∧ OwnRow obR 30 0 0 w vp piv ∧ OwnRow lrR 101 0 0 w vr rows ∧ (∀ g, vp.ownBlock = some g → own g) ∧ ∀ g, vr.ownBlock = some g → own g
  met : IRow 86 w mt [.int .i64 m, .int .i64 calls]
  ot : own t
  om : own mt
  sp : ∀ x ∈ piv, Short x
  sr : ∀ r ∈ rows, Short r.it.ob
section
variable {own own' : Nat → Prop} {w w' : World} {t mt : Nat} {m most calls calls' : Int} {piv : List Ob} {rows : List Lw}
theorem LT.keep (h : LT own w t mt m most calls piv rows) (hk : Kp FzL 0 w w') (ho : ∀ g, g < w.heap.size → own g → w'.heap[g]? = w.heap[g]?) : LT own w' t mt m most calls piv rows := by
  obtain ⟨vp, vr, h1, h2, h3, h4, h5⟩ := h.mem
  exact { h with
    mem := ⟨vp, vr, h1.kept (ho _ h1.lt h.ot), h2.keep (hk.mono (by decide)) (fun k hk' => ho k (h2.lt k hk').2 (h4 k hk')), h3.keep (hk.mono (by decide)) (fun k hk' => ho k (h3.lt k hk').2 (h5 k hk')), h4, h5⟩
    met := h.met.kept (ho _ h.met.lt h.om) }
theorem LT.below (h : LT own w t mt m most calls piv rows) (hb : Below w.heap.size w w') : LT own w' t mt m most calls piv rows := h.keep (TK.of_below hb).kp (fun g hg _ => hb.block g hg)
theorem LT.grow (h : LT own w t mt m most calls piv rows) (ho : ∀ g, own g → own' g) : LT own' w t mt m most calls piv rows := by
  obtain ⟨vp, vr, h1, h2, h3, h4, h5⟩ := h.mem
  exact { h with mem := ⟨vp, vr, h1, h2, h3, fun g hg => ho _ (h4 g hg), fun g hg => ho _ (h5 g hg)⟩, ot := ho _ h.ot, om := ho _ h.om }
/-- The meter alone has turned. -/
theorem LT.metered (h : LT own w t mt m most calls piv rows) (hF : Fr (fun g => g = mt) w w') (hm : IRow 86 w' mt [.int .i64 m, .int .i64 calls']) : LT own w' t mt m most calls' piv rows := by
  obtain ⟨vp, vr, h1, h2, h3, h4, h5⟩ := h.mem
  have hk : Kp FzL 0 w w' := hF.kp (fun g hg => by subst hg; exact not_sta h.met (Nat.zero_le _) (by decide))
  have hne : ∀ {g T : Nat} {c : Array Value} {fr : Nat × Nat}, w.heap[g]? = some (.cells c T fr) → T ≠ 86 → w'.heap[g]? = w.heap[g]? := fun {g T c fr} hh hT => hF.block g (Array.getElem?_eq_some_iff.1 hh).1 (fun e => by subst e; exact blk_ne hh h.met hT rfl)
  exact { h with
    mem := ⟨vp, vr, h1.kept (hne h1 (by decide)), h2.keep (hk.mono (by decide)) (fun k hk' => by obtain ⟨d, hd⟩ := h2.blk hk'; exact hne hd (by decide)), h3.keep (hk.mono (by decide)) (fun k hk' => by obtain ⟨d, hd⟩ := h3.blk hk'; exact hne hd (by decide)), h4, h5⟩
    met := hm }
end
theorem LT.tight {own : Nat → Prop} {w : World} {t mt : Nat} {m most calls : Int} {piv : List Ob} {rows : List Lw} (h : LT own w t mt m most calls piv rows) : LT (fun g => own g ∧ g < w.heap.size) w t mt m most calls piv rows := by
  obtain ⟨vp, vr, h1, h2, h3, h4, h5⟩ := h.mem
  exact { h with mem := ⟨vp, vr, h1, h2, h3, fun g hg => ⟨h4 g hg, (h2.lt g hg).2⟩, fun g hg => ⟨h5 g hg, (h3.lt g hg).2⟩⟩, ot := ⟨h.ot, h1.lt⟩, om := ⟨h.om, h.met.lt⟩ }
set_option maxHeartbeats 1000000 in
theorem mnew_any (w : World) (m : Int) : Calls Tryz.prog 9 #[.int .i64 m] w fun r w' => r = .returned (.pointer (some ⟨w.heap.size, 0, none⟩)) ∧ w' = w.alloc (.cells #[.int .i64 m, .int .i64 0] 86) := by
  go_enter Tryz.func9, Tryz.ntmps9
  go_wp2
  go_ret
  exact ⟨rfl, rfl⟩
set_option maxHeartbeats 1000000 in
theorem lnew_any (w : World) (mt : Nat) (m c most : Int) (hM : IRow 86 w mt [.int .i64 m, .int .i64 c]) : Calls Tryz.prog 10 #[.pointer (some ⟨mt, 0, none⟩), .int .i64 most] w fun r w' => ∃ t, r = .returned (.pointer (some ⟨t, 0, none⟩)) ∧ Below w.heap.size w w' ∧
    LT (fun g => g = mt ∨ w.heap.size ≤ g) w' t mt m most c [] [] := by
  go_enter Tryz.func10, Tryz.ntmps10
  go_wp2
  go_ret
  have hB : Below w.heap.size w (w.alloc (.cells #[.pointer (some ⟨mt, 0, none⟩), .int .i64 most, .slice none 0 0, .slice none 0 0] 88)) := (Below.refl _ w).alloc (Nat.le_refl _) _
  refine ⟨w.heap.size, rfl, hB, ⟨_, _, IRow.new w [.pointer (some ⟨mt, 0, none⟩), .int .i64 most, .slice none 0 0, .slice none 0 0] _, OwnRow.nil .., OwnRow.nil .., (fun g hg => by cases hg), (fun g hg => by cases hg)⟩, hM.kept (hB.block mt hM.lt), .inr (Nat.le_refl _), .inl rfl, (fun x hx => by cases hx), (fun x hx => by cases hx)⟩
set_option maxHeartbeats 1000000 in
theorem calls_any (w : World) (mt : Nat) (m c : Int) (hM : IRow 86 w mt [.int .i64 m, .int .i64 c]) : Calls Tryz.prog 37 #[.pointer (some ⟨mt, 0, none⟩)] w fun r w' => r = .returned (.int .i64 c) ∧ w' = w := by
  have c1 := hM.cell 1
  go_enter Tryz.func37, Tryz.ntmps37
  go_wp2
  go_ret
  exact ⟨rfl, rfl⟩
end Go.Proofs.YtbjmlahnojfekaaGreat
