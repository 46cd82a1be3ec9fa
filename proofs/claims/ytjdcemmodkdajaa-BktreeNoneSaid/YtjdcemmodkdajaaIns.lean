/-
  bktree: has, Insert.
-/
import Derived.Test.YtjdcemmodkdajaaPut
namespace Go.Proofs.Ytjdcemmodkdajaa
open Go Go.RowKit Go.WW
theorem zero_int (w : World) : (zeroValue 3).run Try.prog w = .ok (.int .i64 0) w := by kernel_rfl
set_option maxRecDepth 100000 in
set_option maxHeartbeats 1000000 in
theorem has_any {own : Nat → Prop} {w : World} {t mb : Nat} {mtv lv : Value} {kv : List Value} {l : List Nd} {kl : Nat → List Nat} {gone : Int} {f : Int → Option Int} (h : KT own w t mtv lv mb kv l kl gone f) (id : Int) (hid : W64 id) :
    Calls Try.prog 31 #[.pointer (some ⟨t, 0, none⟩), .int .u64 id] w fun r w' => r = .returned (.bool (f id).isSome) ∧ w' = w := by
  have c0 := h.row.cell
  obtain ⟨v, hrun, _, _⟩ := h.map.look_ok (t := 78) Try.underlying33 Try.underlying3 Try.underlying78 (zero_int w) hid
  clear h
  go_enter Try.func31, Try.ntmps31
  go_wp2
  go_ret
  exact ⟨rfl, rfl⟩
/-- The map has what lives. -/
structure TI (l : List Nd) (f : Int → Option Int) : Prop where
  at_ : ∀ y v, f y = some v → ∃ (k : Nat) (n : Nd), v = (k : Int) ∧ l[k]? = some n ∧ n.it.id = y ∧ n.gone = false
  has : ∀ (k : Nat) (n : Nd), l[k]? = some n → n.gone = false → f n.it.id = some (k : Int)
theorem TI.dom {l : List Nd} {f : Int → Option Int} (h : TI l f) : ∀ y, f y ≠ none → y ∈ l.map (fun n => n.it.id) := by
  intro y hy
  cases hf : f y with
  | none => exact absurd hf hy
  | some v =>
    obtain ⟨k, n, _, h1, h2, _⟩ := h.at_ y v hf
    exact List.mem_map.2 ⟨n, List.mem_of_getElem? h1, h2⟩
theorem TI.nil : TI [] (fun _ => none) := ⟨fun y v h => (by cases h), fun k n h => (by simp at h)⟩
theorem TI.snoc {l : List Nd} {f : Int → Option Int} (h : TI l f) {x : It} {p e : Int} (hx : f x.id = none) : TI (l ++ [⟨x, false, p, e⟩]) (upd f x.id (some l.length)) := by
  constructor
  · intro y v hv
    unfold upd at hv
    split at hv
    · rename_i he
      cases hv
      exact ⟨l.length, ⟨x, false, p, e⟩, rfl, by simp, he.symm, rfl⟩
    · obtain ⟨k, n, h0, h1, h2, h3⟩ := h.at_ y v hv
      exact ⟨k, n, h0, by rw [List.getElem?_append_left (List.getElem?_eq_some_iff.1 h1).1]; exact h1, h2, h3⟩
  · intro k n hk hg
    rcases Nat.lt_or_ge k l.length with hl | hl
    · rw [List.getElem?_append_left hl] at hk
      have := h.has k n hk hg
      unfold upd
      rw [if_neg (fun e => by rw [e, hx] at this; cases this)]
      exact this
    · rw [List.getElem?_append_right hl] at hk
      have h0 : k - l.length = 0 := by
        have := (List.getElem?_eq_some_iff.1 hk).1
        simp at this
        omega
      rw [h0] at hk
      simp at hk
      subst hk
      unfold upd
      rw [if_pos rfl]
      congr 1
      omega
theorem putP_lt {m : Int} {l : List Nd} {x : Ob} : ∀ (n i : Nat), i < l.length → (putP m l x n i).1 < (l.length : Int)
  | 0, i, h => by simp only [putP]; omega
  | n + 1, i, h => by
    rw [putP_succ]
    split
    · show (i : Int) < _; omega
    · rename_i hk
      rcases kidN_mem l i (distO m x (obAt l i)) with h1 | ⟨k, h1, h2⟩
      · omega
      · rw [h2]
        exact putP_lt n _ (by simpa using (kidsOf_mem h1).1)
theorem putN_snoc (m : Int) (l : List Nd) (x : It) : ∃ p e, putN m l x = l ++ [⟨x, false, p, e⟩] ∧ p < (l.length : Int) := by
  by_cases h : l = []
  · subst h
    exact ⟨-1, 0, rfl, by simp⟩
  · exact ⟨_, _, putN_ne h, putP_lt _ _ (List.length_pos_iff.2 h)⟩
theorem putN_len (m : Int) (l : List Nd) (x : It) : (putN m l x).length = l.length + 1 := by
  obtain ⟨p, e, h, _⟩ := putN_snoc m l x
  rw [h]
  simp
/-- A whole tree, its meter with it. -/
structure Tr (own : Nat → Prop) (w : World) (t mt : Nat) (m : Int) (l : List Nd) (gone : Int) (f : Int → Option Int) : Prop where
  mem : ∃ lv mb kv, KT own w t (.pointer (some ⟨mt, 0, none⟩)) lv mb kv l (kidsOf l) gone f
  met : ∃ c, IRow 83 w mt [.int .i64 m, .int .i64 c]
  om : own mt
  up : Up l
  sh : ∀ n ∈ l, Short n.it.ob
  ti : TI l f
theorem Tr.keep {own : Nat → Prop} {w w' : World} {t mt : Nat} {m gone : Int} {l : List Nd} {f : Int → Option Int} (h : Tr own w t mt m l gone f) (hk : Kp Fz 0 w w') (ho : ∀ g, g < w.heap.size → own g → w'.heap[g]? = w.heap[g]?) : Tr own w' t mt m l gone f := by
  obtain ⟨lv, mb, kv, hK⟩ := h.mem
  obtain ⟨c, hM⟩ := h.met
  exact { h with mem := ⟨lv, mb, kv, hK.keep hk ho⟩, met := ⟨c, hM.kept (ho _ hM.lt h.om)⟩ }
theorem Tr.below {own : Nat → Prop} {w w' : World} {t mt : Nat} {m gone : Int} {l : List Nd} {f : Int → Option Int} (h : Tr own w t mt m l gone f) (hb : Below w.heap.size w w') : Tr own w' t mt m l gone f :=
  h.keep (TK.of_below hb).kp (fun g hg _ => hb.block g hg)
theorem Tr.grow {own own' : Nat → Prop} {w : World} {t mt : Nat} {m gone : Int} {l : List Nd} {f : Int → Option Int} (h : Tr own w t mt m l gone f) (ho : ∀ g, own g → own' g) : Tr own' w t mt m l gone f := by
  obtain ⟨lv, mb, kv, hK⟩ := h.mem
  exact { h with mem := ⟨lv, mb, kv, hK.grow ho⟩, om := ho _ h.om }
theorem put_tr {own : Nat → Prop} {w : World} {t mt : Nat} {m gone : Int} {l : List Nd} {f : Int → Option Int} (b : Nat) (h : Tr own w t mt m l gone f) (hb : ∀ g, own g → b ≤ g) (x : It) (cx : List Value) (hx : itR.rd b w cx x) (sx : Short x.ob) (hn : l.length ≤ 1048575) (hf : f x.id = none) :
    Calls Try.prog 32 #[.pointer (some ⟨t, 0, none⟩), .agg cx.toArray] w fun r w' => r = .returned (.tuple #[]) ∧ Fr (nf own w) w w' ∧ Tr (More own w) w' t mt m (putN m l x) gone (upd f x.id (some l.length)) := by
  obtain ⟨lv, mb, kv, hK⟩ := h.mem
  obtain ⟨c, hM⟩ := h.met
  refine (put_any b m c hK h.up hb hM h.om h.sh x cx hx sx hn h.ti.dom).mono ?_
  rintro r w' ⟨rfl, hF, c', lv', kv', hM', hK'⟩
  obtain ⟨p, e, hp, hpl⟩ := putN_snoc m l x
  refine ⟨rfl, hF, ⟨lv', mb, kv', hK'⟩, ⟨c', hM'⟩, .inl h.om, ?_, ?_, ?_⟩
  · rw [hp]; exact h.up.snoc hpl
  · rw [hp]
    intro n hn
    rcases List.mem_append.1 hn with hn | hn
    · exact h.sh n hn
    · simp at hn; subst hn; exact sx
  · rw [hp]; exact h.ti.snoc hf
set_option maxRecDepth 100000 in
set_option maxHeartbeats 1000000 in
theorem insert_any {own : Nat → Prop} {w : World} {t mt : Nat} {m gone : Int} {l : List Nd} {f : Int → Option Int} (b : Nat) (h : Tr own w t mt m l gone f) (hb : ∀ g, own g → b ≤ g) (x : It) (cx : List Value) (dv : Value) (hx : itR.rd b w cx x) (sx : Short x.ob) (hn : l.length ≤ 1048575) :
    Calls Try.prog 9 #[.pointer (some ⟨t, 0, none⟩), .agg cx.toArray, dv] w fun r w' => r = .returned (.int .i64 (if (f x.id).isSome then 4 else 0)) ∧ Fr (nf own w) w w' ∧
      Tr (More own w) w' t mt m (if (f x.id).isSome then l else putN m l x) gone (if (f x.id).isSome then f else upd f x.id (some l.length)) := by
  obtain ⟨vx, rfl, hid, hxo⟩ := itR_iff.1 hx
  have hb1 : Below w.heap.size w (w.alloc (.cells #[.int .u64 x.id, .int .i64 x.ob.tag, vx, .string x.ob.str] 38)) := (Below.refl _ w).alloc (Nat.le_refl _) _
  have HH := Lib.hid (And.intro h (And.intro hx hb1))
  clear h hx hb1 hxo
  cases hf : f x.id with
  | some v =>
    go_enter Try.func9, Try.ntmps9
    go_wp2_with fail
    obtain ⟨lv, mb, kv, hK⟩ := HH.out.1.mem
    refine (has_any (hK.alloc _) x.id hid).mono ?_
    rintro er w1 ⟨rfl, rfl⟩
    have e : (f x.id).isSome = true := by rw [hf]; rfl
    rw [e]
    go_wp2_with fail
    go_ret
    refine ⟨rfl, Fr.of_below HH.out.2.2, ?_⟩
    exact (HH.out.1.below HH.out.2.2).grow (fun g hg => .inl hg)
  | none =>
    go_enter Try.func9, Try.ntmps9
    go_wp2_with fail
    obtain ⟨lv, mb, kv, hK⟩ := HH.out.1.mem
    refine (has_any (hK.alloc _) x.id hid).mono ?_
    rintro er w1 ⟨rfl, rfl⟩
    have e : (f x.id).isSome = false := by rw [hf]; rfl
    rw [e]
    go_wp2_with fail
    refine (put_tr b (HH.out.1.below HH.out.2.2) hb x _ (itR_below HH.out.2.1 HH.out.2.2) sx hn hf).mono ?_
    rintro er w2 ⟨rfl, hF, hT⟩
    go_wp2_with fail
    go_ret
    refine ⟨rfl, Fr.nf_trans (Fr.of_below HH.out.2.2) (hF.mono (fun g hg => ⟨.inl hg.1, hg.2⟩)), hT.grow (fun g hg => ?_)⟩
    rcases hg with hg | hg
    · exact .inl hg
    · exact .inr (by simp at hg; omega)
end Go.Proofs.Ytjdcemmodkdajaa
