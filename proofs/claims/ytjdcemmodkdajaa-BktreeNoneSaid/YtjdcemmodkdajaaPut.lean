/-
  bktree: put.
-/
import Derived.Test.YtjdcemmodkdajaaHang
import Derived.WalkMore
namespace Go.Proofs.Ytjdcemmodkdajaa
open Go Go.RowKit Go.WW
def obAt (l : List Nd) (i : Nat) : Ob := (l[i]?.map (fun n => n.it.ob)).getD ⟨0, [], ⟨#[]⟩⟩
/-- Where a thing is to hang. -/
def putP (m : Int) (l : List Nd) (x : Ob) : Nat → Nat → Int × Int
  | 0, i => (i, 0)
  | n + 1, i => if kidN l i (distO m x (obAt l i)) < 0 then ((i : Int), distO m x (obAt l i)) else putP m l x n (kidN l i (distO m x (obAt l i))).toNat
theorem putP_succ (m : Int) (l : List Nd) (x : Ob) (n i : Nat) : putP m l x (n + 1) i = if kidN l i (distO m x (obAt l i)) < 0 then ((i : Int), distO m x (obAt l i)) else putP m l x n (kidN l i (distO m x (obAt l i))).toNat := rfl
def putN (m : Int) (l : List Nd) (x : It) : List Nd :=
  match l with
  | [] => [⟨x, false, -1, 0⟩]
  | a :: r => (a :: r) ++ [⟨x, false, (putP m (a :: r) x.ob (a :: r).length 0).1, (putP m (a :: r) x.ob (a :: r).length 0).2⟩]
theorem putN_ne {m : Int} {l : List Nd} {x : It} (h : l ≠ []) : putN m l x = l ++ [⟨x, false, (putP m l x.ob l.length 0).1, (putP m l x.ob l.length 0).2⟩] := by
  cases l with
  | nil => exact absurd rfl h
  | cons a r => rfl
theorem kidIn_mem (edge : Nat → Int) (e : Int) : ∀ ks : List Nat, kidIn edge e ks = -1 ∨ ∃ k : Nat, k ∈ ks ∧ kidIn edge e ks = k
  | [] => .inl rfl
  | k :: r => by
    unfold kidIn
    split
    · exact .inr ⟨k, List.mem_cons_self, rfl⟩
    · rcases kidIn_mem edge e r with h | ⟨j, hj, h⟩
      · exact .inl h
      · exact .inr ⟨j, List.mem_cons_of_mem _ hj, h⟩
theorem kidN_mem (l : List Nd) (i : Nat) (e : Int) : kidN l i e = -1 ∨ ∃ k : Nat, k ∈ kidsOf l i ∧ kidN l i e = k := kidIn_mem _ _ _
theorem ll_len (s : ByteArray) : (LL s).length = s.size := by simp
theorem distO_bd {b b' : Nat} {w w' : World} {cx cy : List Value} {m : Int} {x y : Ob} (hx : obR.rd b w cx x) (hy : obR.rd b' w' cy y) (sx : Short x) (sy : Short y) : 0 ≤ distO m x y ∧ distO m x y ≤ 9007199254740992 := by
  obtain ⟨vx, _, _, rx, _⟩ := obR_iff.1 hx
  obtain ⟨vy, _, _, ry, _⟩ := obR_iff.1 hy
  have hx := RdRow_i32 rx
  have hy := RdRow_i32 ry
  obtain ⟨sx1, sx2⟩ := sx
  obtain ⟨sy1, sy2⟩ := sy
  unfold distO
  split
  · have := l1N_bd hx hy (max x.vec.length y.vec.length)
    have h2 : max x.vec.length y.vec.length ≤ 1048576 := by omega
    unfold l1D
    omega
  · split
    · have := hmN_bd (LL x.str) (LL y.str) (max (LL x.str).length (LL y.str).length)
      have h1 := ll_len x.str
      have h2 := ll_len y.str
      unfold hmD
      omega
    · split
      · have := lr_le (LL x.str).reverse (LL y.str).reverse
        have h1 := ll_len x.str
        have h2 := ll_len y.str
        rw [List.length_reverse, List.length_reverse] at this
        unfold lvD
        omega
      · omega
theorem bd_wf {d : Int} (h : 0 ≤ d ∧ d ≤ 9007199254740992) : (Lit.int .i64 d).wf = true := by
  have h2 : (IntKind.i64).min = -9223372036854775808 := by decide
  have h3 : (IntKind.i64).max = 9223372036854775807 := by decide
  simp only [Lit.wf, h2, h3, Bool.and_eq_true, decide_eq_true_eq]
  omega
theorem obR_lift0 (b : Nat) {w : World} {cs : List Value} {x : Ob} (h : obR.rd 0 w cs x) : obR.rd b w cs x := by
  obtain ⟨v, rfl, h1, h2, h3⟩ := obR_iff.1 h
  exact obR_iff.2 ⟨v, rfl, h1, h2.lift' (Nat.zero_le _), h3⟩
/-- Meters' writes and new blocks leave a tree as it is. -/
theorem KT.other {own : Nat → Prop} {w w' : World} {t mb : Nat} {mtv lv : Value} {kv : List Value} {l : List Nd} {kl : Nat → List Nat} {gone : Int} {f : Int → Option Int} (h : KT own w t mtv lv mb kv l kl gone f) {row : Option Nat} {T : Nat}
    (hg : w.grownBy w' row) (hr : ∀ k, row = some k → ∃ d fr, w.heap[k]? = some (.cells d T fr)) (hT : T ∉ [21, 38, 77, 3, 90, 81]) : KT own w' t mtv lv mb kv l kl gone f := by
  have hk : Kp Fz 0 w w' := (Kp.refl Fz 0 w).grown hg (fun k hk => by obtain ⟨d, fr, hd⟩ := hr k hk; exact .inr (not_sta hd (Nat.zero_le _) (fun e => hT (by simp only [Fz, List.mem_cons, List.not_mem_nil, or_false] at e ⊢; rcases e with e | e | e <;> simp [e]))))
  have hne : ∀ {g U : Nat} {c : Array Value} {fr : Nat × Nat}, w.heap[g]? = some (.cells c U fr) → U ∈ [21, 38, 77, 3, 90, 81] → w'.heap[g]? = w.heap[g]? := fun {g U c fr} hh hU => hg.block g (Array.getElem?_eq_some_iff.1 hh).1 (fun e => by
    obtain ⟨d, fr', hd⟩ := hr g e.symm
    exact blk_ne hh hd (fun e => hT (e ▸ hU)) rfl)
  exact { h with
    row := h.row.kept (hne h.row (by decide))
    nodes := h.nodes.keep (hk.mono (by decide)) (fun k hk' => by obtain ⟨d, hd⟩ := h.nodb hk'; exact hne hd (by decide))
    kids := fun i v hv => (h.kids i v hv).keep (hk.mono (by simp [Rd.int])) (fun k hk' => by obtain ⟨d, hd⟩ := h.kidb hv hk'; exact hne hd (by decide))
    map := h.map.kept (hg.block mb h.map.lt (fun e => by
      obtain ⟨es, c, hmb⟩ := h.map.isMap
      obtain ⟨d, fr, hd⟩ := hr mb e.symm
      exact blk_ne_map hd hmb rfl)) }
theorem KT.drop {own : Nat → Prop} {w : World} {t mb mt T : Nat} {mtv lv : Value} {kv : List Value} {l : List Nd} {kl : Nat → List Nat} {gone : Int} {f : Int → Option Int} {xs : List Value} (h : KT own w t mtv lv mb kv l kl gone f) (hm : IRow T w mt xs)
    (hT : T ∉ [21, 3, 90, 81]) : KT (fun g => own g ∧ g ≠ mt) w t mtv lv mb kv l kl gone f := by
  have hne : ∀ {g U : Nat} {c : Array Value} {fr : Nat × Nat}, w.heap[g]? = some (.cells c U fr) → U ∈ [21, 3, 90, 81] → g ≠ mt := fun {g U c fr} hh hU => blk_ne hh hm (fun e => hT (e ▸ hU))
  exact { h with
    ot := ⟨h.ot, hne h.row (by decide)⟩
    om := ⟨h.om, by obtain ⟨es, c, hmb⟩ := h.map.isMap; exact Ne.symm (blk_ne_map hm hmb)⟩
    ol := fun g hg => ⟨h.ol g hg, by obtain ⟨d, hd⟩ := h.nodb hg; exact hne hd (by decide)⟩
    ok := fun v hv g hg => ⟨h.ok v hv g hg, by obtain ⟨i, hi⟩ := List.getElem?_of_mem hv; obtain ⟨d, hd⟩ := h.kidb hi hg; exact hne hd (by decide)⟩ }
set_option maxRecDepth 100000 in
set_option maxHeartbeats 4000000 in
theorem put_any {own : Nat → Prop} {w : World} {t mb mt : Nat} {lv : Value} {kv : List Value} {l : List Nd} {gone : Int} {f : Int → Option Int} (b : Nat) (m c : Int) (h : KT own w t (.pointer (some ⟨mt, 0, none⟩)) lv mb kv l (kidsOf l) gone f) (up : Up l) (hb : ∀ g, own g → b ≤ g)
    (hmt : IRow 83 w mt [.int .i64 m, .int .i64 c]) (hom : own mt) (hsh : ∀ n ∈ l, Short n.it.ob)
    (x : It) (cx : List Value) (hx : itR.rd b w cx x) (sx : Short x.ob) (hn : l.length ≤ 1048575) (hd : ∀ y, f y ≠ none → y ∈ l.map (fun n => n.it.id)) :
    Calls Try.prog 32 #[.pointer (some ⟨t, 0, none⟩), .agg cx.toArray] w fun r w' => r = .returned (.tuple #[]) ∧ Fr (nf own w) w w' ∧
      ∃ c' lv' kv', IRow 83 w' mt [.int .i64 m, .int .i64 c'] ∧ KT (More own w) w' t (.pointer (some ⟨mt, 0, none⟩)) lv' mb kv' (putN m l x) (kidsOf (putN m l x)) gone (upd f x.id (some l.length)) := by
  obtain ⟨vx, rfl, hid, hxo⟩ := itR_iff.1 hx
  obtain ⟨Al, cl, hlv⟩ := h.slice
  subst hlv
  have hmtb : ∀ k, some mt = some k → ∃ d fr, w.heap[k]? = some (.cells d 83 fr) := fun k hk => by cases hk; exact ⟨_, _, hmt⟩
  cases l with
  | nil =>
    have c0 := h.row.cell
    have hlt := h.row.lt
    have hmlt := hmt.lt
    have hI := IRow.new w [.int .u64 x.id, .int .i64 x.ob.tag, vx, .string x.ob.str] 38
    have hx1 : itR.rd b (w.alloc (.cells #[.int .u64 x.id, .int .i64 x.ob.tag, vx, .string x.ob.str] 38)) [.int .u64 x.id, .int .i64 x.ob.tag, vx, .string x.ob.str] x := itR_below hx ((Below.refl _ w).alloc (Nat.le_refl _) _)
    have c5 := hI.cell
    have HH := Lib.hid (And.intro hx1 (And.intro h (And.intro hI hxo)))
    clear hx1 h hI hxo
    go_enter Try.func32, Try.ntmps32
    go_wp2_with fail
    go_step3
    go_wp2_with fail
    refine (hang_any b ((HH.out.2.1.alloc _).drop (hmt.alloc _) (by decide)) up (fun g hg => hb g hg.1) x _ HH.out.1 sx (-1) 0 (.inl rfl) rfl hn hd).mono ?_
    rintro er w1 ⟨rfl, hF, lv', kv', hK⟩
    go_wp2_with fail
    rw [Exit.noGoto_ret]
    refine bodyPost_ret (results_none rfl _ _ _) rfl ?_
    have hw1 : Below w.heap.size w (w.alloc (.cells #[.int .u64 x.id, .int .i64 x.ob.tag, vx, .string x.ob.str] 38)) := (Below.refl _ w).alloc (Nat.le_refl _) _
    exact ⟨rfl, Fr.nf_trans (Fr.of_below hw1) (hF.mono (fun g hg => ⟨.inl hg.1.1, hg.2⟩)), c, lv', kv', (hmt.alloc _).kept (hF.block mt (by simp; omega) (fun hg => hg.1.2 rfl)), hK.grow (fun g hg => by
      rcases hg with hg | hg
      · exact .inl hg.1
      · exact .inr (by simp at hg; omega))⟩
  | cons a r =>
    have c0 := h.row.cell
    have hlt := h.row.lt
    have hmlt := hmt.lt
    have hne : a :: r ≠ [] := by simp
    have hln : 0 < (a :: r).length := by simp
    generalize a :: r = l at *
    have HH := Lib.hid (And.intro hx (And.intro h (And.intro hxo (And.intro hb (And.intro hd (And.intro hsh hmtb))))))
    clear hx h hxo hb hd hsh hmtb
    have hz : ((l.length : Int) == 0) = false := by simp; omega
    go_enter Try.func32, Try.ntmps32
    go_wp2_with fail
    go_step3
    go_wp2_with fail
    go_step3
    go_wp2_with fail
    go_loopw [4, 5, 6] (fun vi _ _ wr => ∃ (i n : Nat) (c' : Int), vi = .int .i64 i ∧ i < l.length ∧ l.length ≤ n + i ∧ putP m l x.ob n i = putP m l x.ob l.length 0 ∧ IRow 83 wr mt [.int .i64 m, .int .i64 c'] ∧
      KT own wr t (.pointer (some ⟨mt, 0, none⟩)) (.slice Al l.length cl) mb kv l (kidsOf l) gone f ∧ Fr (nf own w) w wr ∧ IRow 38 wr w.heap.size [.int .u64 x.id, .int .i64 x.ob.tag, vx, .string x.ob.str]) (fun vi _ _ _ => l.length - (intOf vi).toNat)
    case atStart =>
      refine ⟨0, l.length, c, rfl, hln, by omega, rfl, hmt.alloc _, HH.out.2.1.alloc _, (Fr.refl _ w).alloc _, IRow.new ..⟩
    case round =>
      obtain ⟨i, n, c', rfl, hi, hni, hpp, hM, hK, hF, hI⟩ := hrel
      have c1 := hK.row.cell
      have c2 := hI.cell
      have c3 := hM.cell
      obtain ⟨lb, cap, hlv, hlb, hc1, hc2, hfr, hat⟩ := hK.blk hne
      injection hlv with e1 _ e2
      subst e1 e2
      obtain ⟨vi, ki, hki, hone, hit, _, _, d0, d1, d2, d3, d4, d5, d6, d7⟩ := hat i hi
      obtain ⟨_, hvi, hwi, hob⟩ := itR_iff.1 hit
      simp only [List.cons.injEq, and_true, true_and] at hvi
      subst hvi
      have hi' : (i : Int) < l.length := by omega
      have HR := Lib.hid (And.intro hpp (And.intro hM (And.intro hK (And.intro hF (And.intro hI hob)))))
      clear hpp hM hK hF hI hob hit hat hki hone hwi
      go_wp2_with fail
      refine wp_region_hoist [true, true, true, true, true, true, true, true, true, true, true, true, true, true, true, true, false, false] 0 (fun w' => ∃ n, w' = World.drewN wr n) (by kernel_rfl) (by kernel_rfl) ⟨1, rfl⟩ ?_
      simp only [pickR, pickE, List.take, List.drop, wpLate]
      repeat (go_big_quiet_step (fail))
      refine wpQuiet_nil ?_
      go_wp2_with fail
      have hx2 := obR_lift0 b HR.out.2.2.2.2.2
      have hx1 := obR.keep _ _ _ _ _ (HR.out.2.2.2.1.kp (ts := obR.ts) (b := b) (fun g hg => hg.sta HH.out.2.2.2.1)) HH.out.2.2.1
      refine (meter_any b mt m c' x.ob l[i].it.ob _ _ wr.drew (HH.out.2.2.2.1 mt hom) (HR.out.2.1.kept rfl) (obR_below hx1 (bl_drewN wr 1)) (obR_below hx2 (bl_drewN wr 1)) sx (HH.out.2.2.2.2.2.1 _ (List.getElem_mem ..))).mono ?_
      rintro er w2 ⟨rfl, hg2, cc2, hM2⟩
      have hK2 := (HR.out.2.2.1.heap (w' := wr.drew) rfl).other hg2 (fun k hk => by cases hk; exact ⟨_, _, HR.out.2.1⟩) (by decide)
      have hF2 : Fr (nf own w) w w2 := HR.out.2.2.2.1.drew.grown hg2 (fun g hg => by
        cases hg
        exact .inl ⟨hom, not_frz hmt (by decide)⟩)
      have hI2 : IRow 38 w2 w.heap.size [.int .u64 x.id, .int .i64 x.ob.tag, vx, .string x.ob.str] := HR.out.2.2.2.2.1.kept (hg2.block _ HR.out.2.2.2.2.1.lt (fun e => by cases e; omega))
      have hob2 : obAt l i = l[i].it.ob := by unfold obAt; rw [List.getElem?_eq_getElem hi]; rfl
      have hpp := HR.out.1
      have c4 := hK2.row.cell
      have c5 := hI2.cell
      clear c1 c2 c3 d0 d1 d2 d3 d4 d5 d6 d7 hfr
      obtain ⟨n, rfl⟩ : ∃ n', n = n' + 1 := ⟨n - 1, by omega⟩
      rw [putP_succ] at hpp
      rw [hob2] at hpp
      have hdw := bd_wf (distO_bd (m := m) hx1 hx2 sx (HH.out.2.2.2.2.2.1 _ (List.getElem_mem ..)))
      clear hx1 hx2 HR
      generalize distO m x.ob l[i].it.ob = d at *
      have HS := Lib.hid (And.intro hpp (And.intro hK2 (And.intro hF2 (And.intro hI2 (And.intro hM2 hob2)))))
      clear hpp hK2 hF2 hI2 hM2 hob2 hg2
      go_wp2_with fail
      apply only_mk
      go_wp2_with fail
      refine (kid_any HS.out.2.1 i hi (by omega) d).mono ?_
      rintro er w3 ⟨rfl, rfl⟩
      by_cases hk : kidN l i d < 0
      · have hge : decide (0 ≤ kidN l i d) = false := by simp; omega
        obtain ⟨hpp, hK2, hF2, hI2, hM2, hob2⟩ := HS.out
        rw [if_pos hk] at hpp
        have hx3 := itR.keep _ _ _ _ _ (hF2.kp (ts := itR.ts) (b := b) (fun g hg => hg.sta HH.out.2.2.2.1)) HH.out.1
        have hiw : (Lit.int .i64 (i : Int)).wf = true := len_wf (by omega)
        have HT := Lib.hid (And.intro hpp (And.intro hK2 (And.intro hF2 (And.intro hM2 hx3))))
        clear hpp hK2 hF2 hI2 hM2 hob2 hx3 HS
        go_wp2_with fail
        refine (hang_any b (HT.out.2.1.drop HT.out.2.2.2.1 (by decide)) up (fun g hg => HH.out.2.2.2.1 g hg.1) x _ HT.out.2.2.2.2 sx i d (.inr ⟨i, rfl, hi⟩) hdw hn HH.out.2.2.2.2.1).mono ?_
        rintro er w4 ⟨rfl, hF4, lv', kv', hK4⟩
        go_wp2_with fail
        try rw [Exit.noGoto_ret]
        refine bodyPost_ret (results_none rfl _ _ _) rfl ?_
        obtain ⟨hpp, hK2, hF2, hM2, hx3⟩ := HT.out
        have hpn : putN m l x = l ++ [⟨x, false, (i : Int), d⟩] := by rw [putN_ne hne, ← hpp]
        refine ⟨rfl, Fr.nf_trans hF2 (hF4.mono (fun g hg => ⟨.inl hg.1.1, hg.2⟩)), cc2, lv', kv', hM2.kept (hF4.block mt hM2.lt (fun hg => hg.1.2 rfl)), ?_⟩
        rw [hpn]
        exact hK4.grow (fun g hg => by
          rcases hg with hg | hg
          · exact .inl hg.1
          · exact .inr (Nat.le_trans hF2.size hg))
      · have hge : decide (0 ≤ kidN l i d) = true := by simp; omega
        obtain ⟨k, hkm, hkk⟩ : ∃ k : Nat, k ∈ kidsOf l i ∧ kidN l i d = k := by
          rcases kidN_mem l i d with h | h
          · omega
          · exact h
        have hki := kidsOf_up up hkm
        have hkl := (kidsOf_mem hkm).1
        go_wp2_with fail
        obtain ⟨hpp, hK2, hF2, hI2, hM2, hob2⟩ := HS.out
        rw [if_neg (by omega), hkk] at hpp
        go_round
        case rel => exact ⟨k, n, cc2, rfl, hkl, by omega, by simpa using hpp, hM2, hK2, hF2, hI2⟩
        case measure => simp [intOf]; omega
end Go.Proofs.Ytjdcemmodkdajaa
