/-
  ref23: Cut.
-/
import Derived.Test.YtjdcemmodkdajaaLess
namespace Go.Proofs.Ytjdcemmodkdajaa
open Go Go.RowKit Go.WW
def mk1 (id : Int) (n : Nd) : Nd := if n.it.id = id then { n with gone := true } else n
theorem markN_snoc (l : List Nd) (n : Nd) (id : Int) : markN (l ++ [n]) id = markN l id ++ [mk1 id n] := by simp [markN, mk1]
theorem gcnt_snoc (l : List Nd) (n : Nd) : gcnt (l ++ [n]) = gcnt l + if n.gone then 1 else 0 := by
  unfold gcnt
  rw [List.filter_append, List.length_append]
  cases h : n.gone <;> simp [h]
theorem fold_mem (m : Int) : ∀ (xs : List It) (acc : List Nd) (n : Nd), n ∈ xs.foldl (putN m) acc → n ∈ acc ∨ n.it ∈ xs
  | [], acc, n, h => .inl h
  | x :: r, acc, n, h => by
    rcases fold_mem m r _ n h with h | h
    · obtain ⟨p, e, hp, _⟩ := putN_snoc m acc x
      rw [hp] at h
      rcases List.mem_append.1 h with h | h
      · exact .inl h
      · simp at h; subst h; exact .inr List.mem_cons_self
    · exact .inr (List.mem_cons_of_mem _ h)
theorem fold_short {m : Int} {xs : List It} {acc : List Nd} (h : ∀ x ∈ xs, Short x.ob) (h2 : ∀ n ∈ acc, Short n.it.ob) : ∀ n ∈ xs.foldl (putN m) acc, Short n.it.ob := by
  intro n hn
  rcases fold_mem m xs acc n hn with h1 | h1
  · exact h2 n h1
  · exact h _ h1
theorem live_mem {l : List Nd} {x : It} (h : x ∈ live l) : ∃ n ∈ l, n.it = x := by
  unfold live at h
  obtain ⟨n, hn, rfl⟩ := List.mem_map.1 h
  exact ⟨n, (List.mem_filter.1 hn).1, rfl⟩
def half (l : List Nd) (id : Int) (k : Nat) : List Nd := markN (l.take k) id ++ l.drop k
theorem half_len (l : List Nd) (id : Int) (k : Nat) : (half l id k).length = l.length := by unfold half; rw [List.length_append, markN_len, List.length_take, List.length_drop]; omega
theorem half_set {l : List Nd} {id : Int} {k : Nat} (h : k < l.length) : (half l id k).set k (mk1 id l[k]) = half l id (k + 1) := by
  have htake : l.take (k + 1) = l.take k ++ [l[k]] := by rw [List.take_add_one, List.getElem?_eq_getElem h]; rfl
  unfold half
  rw [htake, markN_snoc, List.set_append, if_neg (by rw [markN_len, List.length_take]; omega), markN_len, List.length_take, show k - min k l.length = 0 from by omega, List.drop_eq_getElem_cons h, List.set_cons_zero, List.append_assoc]
  rfl
theorem half_at {l : List Nd} {id : Int} {k : Nat} (h : k < l.length) (h' : k < (half l id k).length) : (half l id k)[k] = l[k] := by
  have : (half l id k)[k]? = some l[k] := by
    unfold half
    rw [List.getElem?_append_right (by rw [markN_len, List.length_take]; omega), markN_len, List.length_take, show k - min k l.length = 0 from by omega, List.getElem?_drop, Nat.add_zero, List.getElem?_eq_getElem h]
  rw [List.getElem?_eq_getElem h'] at this
  injection this
theorem half_same {l : List Nd} {id : Int} {k : Nat} (h : k < l.length) (hn : l[k].it.id ≠ id) : half l id (k + 1) = half l id k := by
  rw [← half_set h]
  have h' : k < (half l id k).length := by rw [half_len]; exact h
  have : mk1 id l[k] = (half l id k)[k] := by rw [half_at h h']; unfold mk1; rw [if_neg hn]
  rw [this, List.set_getElem_self]
theorem bo_at {b n0 n c : Nat} {A : Option Addr} {w : World} {l : List Nd} (hv : OwnRow bkR 77 b n0 w (.slice A n c) l) (i : Nat) (hi : i < l.length) : ∃ g v, A = some ⟨g, 0, none⟩ ∧ n0 ≤ g ∧ g < w.heap.size ∧ (∀ j, w.frozen? ⟨g, j, none⟩ = false) ∧ itR.rd b w [.int .u64 l[i].it.id, .int .i64 l[i].it.ob.tag, v, .string l[i].it.ob.str] l[i].it ∧ (Lit.int .i64 l[i].par).wf = true ∧ (Lit.int .i64 l[i].edge).wf = true ∧
    w.cell? ⟨g, i * 7, none⟩ = some (.int .u64 l[i].it.id) ∧ w.cell? ⟨g, i * 7 + 1, none⟩ = some (.int .i64 l[i].it.ob.tag) ∧ w.cell? ⟨g, i * 7 + 2, none⟩ = some v ∧ w.cell? ⟨g, i * 7 + 3, none⟩ = some (.string l[i].it.ob.str) ∧
    w.cell? ⟨g, i * 7 + 4, none⟩ = some (.bool l[i].gone) ∧ w.cell? ⟨g, i * 7 + 5, none⟩ = some (.int .i64 l[i].par) ∧ w.cell? ⟨g, i * 7 + 6, none⟩ = some (.int .i64 l[i].edge) := by
  obtain ⟨g, cap, hv', h1, h2, _, _, hfr, hat⟩ := hv.at (by rintro rfl; simp at hi)
  injection hv' with e1 e2 e3
  subst e1
  obtain ⟨cs, hr, hc⟩ := hat i hi
  obtain ⟨v, rfl, h5, h3, h4⟩ := bkR_iff.1 hr
  exact ⟨g, v, rfl, h1, h2, hfr, h5, h3, h4, hc 0 _ rfl, hc 1 _ rfl, hc 2 _ rfl, hc 3 _ rfl, hc 4 _ rfl, hc 5 _ rfl, hc 6 _ rfl⟩
set_option maxRecDepth 100000 in
set_option maxHeartbeats 4000000 in
theorem rcut_any (b : Nat) (m : Int) (v : Value) (l : List Nd) (id : Int) (w : World) (hbw : b ≤ w.heap.size) (hv : RdRow bkR 77 b w v l) (hsh : ∀ n ∈ l, Short n.it.ob) (hn : l.length ≤ 1048575) :
    Calls Try.prog 14 #[.int .i64 m, v, .int .u64 id] w fun r w' => ∃ v', r = .returned v' ∧ RdRow bkR 77 b w' v' (cutN m l id) ∧ Below w.heap.size w w' := by
  obtain ⟨A, c, rfl, hlc, hcm, _⟩ := hv.at
  have hl8 : (([] : List Nd).length + l.length) * 80 ≤ 140737488355328 := by simp; omega
  have HH := Lib.hid (And.intro hv (And.intro hsh hl8)); clear hv hsh hl8
  go_enter Try.func14, Try.ntmps14
  go_wp2_with (
    at_builtin
    refine wp_cat (R := bkR) (n0 := w.heap.size) rfl (.const (.slice none 0 0)) (.tmp 12) 31 _ 80 rfl Try.underlying31 info_bk rfl (by decide) (by decide) (.slice none 0 0) (.slice A l.length c) [] l rfl rfl HH.out.1 (OwnRow.nil _ _ _ _ _) (Nat.le_refl _) (by decide) hbw HH.out.2.2 ?_
    intro v1 w1 hO1 hG1 hb1 _
    have hB1 : Below w.heap.size w w1 := (Below.refl _ w).grown hG1 (Nat.le_refl _) (fun k hk => by cases hk)
    obtain ⟨A1, c1, hv1⟩ := hO1.slice
    rw [List.nil_append] at hv1
    subst hv1
    have H1 := Lib.hid (And.intro hO1 hB1)
    clear hO1 hB1 hb1 hG1
    skip)
  go_loopw [8, 9] (fun vg vi wr => ∃ k : Nat, k ≤ l.length ∧ vi = .int .i64 k ∧ vg = .int .i64 (gcnt (markN (l.take k) id)) ∧ OwnRow bkR 77 b w.heap.size wr (.slice A1 l.length c1) (half l id k) ∧ Below w.heap.size w wr) (fun _ vi _ => l.length - (intOf vi).toNat)
  case atStart => exact ⟨0, Nat.zero_le _, rfl, rfl, by simpa [half, markN] using H1.out.1, H1.out.2⟩
  case round =>
    obtain ⟨k, hk, rfl, rfl, hO, hB⟩ := hrel
    by_cases hlt : k < l.length
    · have hlt' : (k : Int) < l.length := by omega
      have htake : l.take (k + 1) = l.take k ++ [l[k]] := by rw [List.take_add_one, List.getElem?_eq_getElem hlt]; rfl
      have hhl : k < (half l id k).length := by rw [half_len]; exact hlt
      have hha := half_at (id := id) hlt hhl
      have hg := gcnt_snoc (markN (l.take k) id) (mk1 id l[k])
      rw [← markN_snoc, ← htake] at hg
      have hgl : gcnt (markN (l.take k) id) ≤ 1048576 := Nat.le_trans (gcnt_le _) (by rw [markN_len, List.length_take]; omega)
      obtain ⟨g, vx, hA, hng, hgs, hfr, hit, hpw, hew, d0, _, _, _, d4, _, _⟩ := bo_at hO k hhl
      subst hA
      rw [hha] at hit hpw hew d0 d4
      have hfr4 := hfr (k * 7 + 4)
      generalize gcnt (markN (l.take k) id) = G at *
      by_cases hid : l[k].it.id = id
      · have hidb : (l[k].it.id == id) = true := by simpa using hid
        have hm1 : (mk1 id l[k]).gone = true := by unfold mk1; rw [if_pos hid]
        rw [hm1, if_pos rfl] at hg
        have HR := Lib.hid (And.intro hO (And.intro hB (And.intro hg (And.intro hha (And.intro hng htake)))))
        clear hO hB hg hha htake hit
        go_wp2_with fail
        obtain ⟨hO, hB, hg, hha, hng, htake⟩ := HR.out
        refine ⟨⟨k + 1, by omega, by go_num, by rw [hg]; rfl, ?_, hB.setCell (p := ⟨g, k * 7 + 4, none⟩) hng _⟩, ?_⟩
        · have hns : ¬ Sta bkR.ts b wr g := by
            obtain ⟨d, hd⟩ := hO.blk (g := g) rfl
            exact not_sta hd (by omega) (by decide)
          have := hO.set k 4 (.bool true) (mk1 id l[k]) hhl (by decide) ((Kp.refl _ _ _).grown (gb_setCell wr ⟨g, k * 7 + 4, none⟩ _) (fun q hq => by cases hq; exact .inr hns)) (fun cs hcs => by
            rw [hha] at hcs
            obtain ⟨v, rfl, h1, h2, h3⟩ := bkR_iff.1 hcs
            unfold mk1
            rw [if_pos hid]
            exact bkR_iff.2 ⟨v, rfl, h1, h2, h3⟩)
          rw [half_set hlt] at this
          exact this
        · simp [intOf]; omega
      · have hidb : (l[k].it.id == id) = false := by simpa using hid
        have hm1 : mk1 id l[k] = l[k] := by unfold mk1; rw [if_neg hid]
        rw [hm1] at hg
        rw [← half_same hlt hid] at hO
        cases hgn : l[k].gone with
        | true =>
          rw [hgn] at d4 hg
          have HR := Lib.hid (And.intro hO (And.intro hB hg))
          clear hO hB hg hha htake hit
          go_wp2_with fail
          refine ⟨⟨k + 1, by omega, by go_num, by rw [HR.out.2.2]; rfl, HR.out.1, HR.out.2.1⟩, ?_⟩
          simp [intOf]; omega
        | false =>
          rw [hgn] at d4 hg
          have HR := Lib.hid (And.intro hO (And.intro hB hg))
          clear hO hB hg hha htake hit
          go_wp2_with fail
          refine ⟨⟨k + 1, by omega, by go_num, by rw [HR.out.2.2]; rfl, HR.out.1, HR.out.2.1⟩, ?_⟩
          simp [intOf]; omega
    · obtain rfl : k = l.length := by omega
      have hhf : half l id l.length = markN l id := by unfold half; simp
      rw [hhf] at hO
      rw [List.take_length]
      have hgl : gcnt (markN l id) ≤ 1048576 := Nat.le_trans (gcnt_le _) (by rw [markN_len]; omega)
      have hcut : cutN m l id = if 2 * gcnt (markN l id) > l.length then anewN m (markN l id) else markN l id := rfl
      have hml : (markN l id).length = l.length := markN_len l id
      have hms : ∀ n ∈ markN l id, Short n.it.ob := short_mark HH.out.2.1 id
      have Hcut := Lib.hid hcut; clear hcut
      generalize hG : gcnt (markN l id) = G at *
      by_cases hle : G + G ≤ l.length
      · have hle' : (G : Int) + G ≤ l.length := by omega
        have HR := Lib.hid (And.intro hO hB); clear hO hB
        go_wp2_with fail
        go_ret
        refine ⟨_, rfl, ?_, HR.out.2⟩
        rw [Hcut.out, if_neg (by omega)]
        exact HR.out.1.read
      · have hle' : decide ((G : Int) + G ≤ l.length) = false := by simp; omega
        have HR := Lib.hid (And.intro hO (And.intro hB (And.intro hml hms))); clear hO hB hml hms
        generalize markN l id = L at *
        go_wp2_with fail
        go_loopw [10, 11] (fun vf vi w3 => ∃ k : Nat, k ≤ l.length ∧ vi = .int .i64 k ∧ RdRow bkR 77 b w3 vf ((live (L.take k)).foldl (putN m) []) ∧ Below wr.heap.size wr w3) (fun _ vi _ => l.length - (intOf vi).toNat)
        case atStart => exact ⟨0, Nat.zero_le _, rfl, RdRow.nil .., Below.refl _ _⟩
        case round =>
          obtain ⟨k, hk, rfl, hF, hB3⟩ := hrel
          by_cases hlt : k < l.length
          · have hlt' : (k : Int) < l.length := by omega
            have hkl : k < L.length := by rw [HR.out.2.2.1]; exact hlt
            obtain ⟨g, vx, hA, hng, hgs, _, hit, _, _, d0, d1, d2, d3, d4, _, _⟩ := bo_at (HR.out.1.below hB3) k hkl
            subst hA
            obtain ⟨_, hvx, hwi, hob⟩ := itR_iff.1 hit
            simp only [List.cons.injEq, and_true, true_and] at hvx
            subst hvx
            obtain ⟨Av, nv, cv, hv'⟩ : ∃ A n c, vx = .slice A n c := by obtain ⟨v', hv2, _, hr, _⟩ := obR_iff.1 hob; simp only [List.cons.injEq, and_true, true_and] at hv2; subst hv2; obtain ⟨A, c, e, _⟩ := hr.at; exact ⟨A, _, c, e⟩
            subst hv'
            have hlv := live_take L k L[k] (List.getElem?_eq_getElem hkl)
            cases hgn : L[k].gone with
            | true =>
              rw [hgn] at d4 hlv
              simp only [if_true, List.append_nil] at hlv
              rw [← hlv] at hF
              have HF := Lib.hid (And.intro hF hB3); clear hF hB3 hlv hit hob
              go_wp2_with fail
              refine ⟨⟨k + 1, by omega, by go_num, HF.out.1, HF.out.2⟩, ?_⟩
              simp [intOf]; omega
            | false =>
              rw [hgn] at d4 hlv
              simp only [Bool.false_eq_true, if_false] at hlv
              have hfl : ((live (L.take k)).foldl (putN m) []).length ≤ 1048575 := by
                have := live_len (L.take k)
                rw [List.length_take] at this
                rw [fold_len]; simp; omega
              have hfs : ∀ n ∈ (live (L.take k)).foldl (putN m) [], Short n.it.ob := fold_short (fun x hx => by
                obtain ⟨n, hn, rfl⟩ := live_mem hx
                exact HR.out.2.2.2 n (List.mem_of_mem_take hn)) (by simp)
              have hup := (Rt.fold (m := m) (xs := live (L.take k)) (Rt.nil m)).up
              have hsx := HR.out.2.2.2 L[k] (List.getElem_mem ..)
              have hbs := hB3.size
              have hbw3 : b ≤ wr.heap.size := Nat.le_trans hbw (Nat.le_trans HR.out.2.1.size hbs)
              obtain ⟨vfA, vfn, vfc, hvf⟩ : ∃ A n c, u10 = .slice A n c := by obtain ⟨A, c, e, _⟩ := hF.at; exact ⟨A, _, c, e⟩
              subst hvf
              have HF := Lib.hid (And.intro hF (And.intro hB3 (And.intro hlv (And.intro hit (And.intro hfl (And.intro hfs (And.intro hup hsx)))))))
              clear hF hB3 hlv hit hob hfl hfs hup hsx
              go_wp2_with fail
              refine (rput_any b m _ _ L[k].it _ wr hbw3 HF.out.1 HF.out.2.2.2.2.2.2.1 HF.out.2.2.2.2.2.1 HF.out.2.2.2.1 HF.out.2.2.2.2.2.2.2 HF.out.2.2.2.2.1).mono ?_
              rintro er w4 ⟨v4, rfl, hR4, hb4⟩
              go_wp2_with fail
              refine ⟨⟨k + 1, by omega, by go_num, ?_, HF.out.2.1.trans (hb4.mono hbs)⟩, ?_⟩
              · rw [HF.out.2.2.1, List.foldl_append]
                exact hR4
              · simp [intOf]; omega
          · obtain rfl : k = l.length := by omega
            go_wp2_with fail
            go_ret
            refine ⟨_, rfl, ?_, HR.out.2.1.trans (hB3.mono HR.out.2.1.size)⟩
            rw [Hcut.out, if_pos (by omega)]
            have hk : L.take l.length = L := by rw [← HR.out.2.2.1, List.take_length]
            rw [hk] at hF
            exact hF
end Go.Proofs.Ytjdcemmodkdajaa
