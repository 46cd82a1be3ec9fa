/-
  ref15: Put, Cut; ref21: Bulk.
-/
import Derived.Test.YtjdcemmodkdajaaPure
namespace Go.Proofs.Ytjdcemmodkdajaa
open Go Go.RowKit Go.WW
theorem it_at {b n c : Nat} {A : Option Addr} {w : World} {l : List It} (hv : RdRow itR 38 b w (.slice A n c) l) (i : Nat) (hi : i < l.length) : ∃ g o Av nv cv, A = some ⟨g, o, none⟩ ∧ g < w.heap.size ∧ itR.rd b w [.int .u64 l[i].id, .int .i64 l[i].ob.tag, .slice Av nv cv, .string l[i].ob.str] l[i] ∧
    w.cell? ⟨g, o + i * 4, none⟩ = some (.int .u64 l[i].id) ∧ w.cell? ⟨g, o + i * 4 + 1, none⟩ = some (.int .i64 l[i].ob.tag) ∧ w.cell? ⟨g, o + i * 4 + 2, none⟩ = some (.slice Av nv cv) ∧ w.cell? ⟨g, o + i * 4 + 3, none⟩ = some (.string l[i].ob.str) := by
  obtain ⟨A', c', hv', _, _, _, hat⟩ := hv.at
  injection hv' with e1 e2 e3
  subst e1
  obtain ⟨g, o, cs, hA, hg, hr, hc⟩ := hat i hi
  obtain ⟨v, rfl, h1, h2⟩ := itR_iff.1 hr
  obtain ⟨Av, nv, cv, rfl⟩ : ∃ A n c, v = .slice A n c := by obtain ⟨v', hv2, _, hr, _⟩ := obR_iff.1 h2; simp only [List.cons.injEq, and_true, true_and] at hv2; subst hv2; obtain ⟨A, c, e, _⟩ := hr.at; exact ⟨A, _, c, e⟩
  exact ⟨g, o, Av, nv, cv, hA, hg, hr, hc 0 _ rfl, hc 1 _ rfl, hc 2 _ rfl, hc 3 _ rfl⟩
theorem info_it : (Try.prog.info? 38).map (fun i => (i.zero, i.size, i.bytes)) = some (some (.agg #[.int .u64 0, .int .i64 0, .slice none 0 0, .string ⟨#[]⟩]), itR.sz, 56) := by kernel_rfl
/-- What is put: an error's number, the new row. -/
def PutI (l : List It) (x : It) (e : Int) (l' : List It) : Prop := (x.id ∈ l.map It.id ∧ e = 4 ∧ l' = l) ∨ (x.id ∉ l.map It.id ∧ e = 0 ∧ (l'.map It.id).Perm (x.id :: l.map It.id))
def got (d : Bool) (x : It) : List Int := if d then [x.id] else []
set_option maxRecDepth 100000 in
set_option maxHeartbeats 4000000 in
theorem rp_any (b : Nat) (v : Value) (l : List It) (x : It) (cx : List Value) (w : World) (hbw : b ≤ w.heap.size) (hv : RdRow itR 38 b w v l) (hx : itR.rd b w cx x) (hn : l.length ≤ 1048575) :
    Calls Try.prog 10 #[v, .agg cx.toArray] w fun r w' => ∃ v' e l', r = .returned (.tuple #[v', .int .i64 e]) ∧ RdRow itR 38 b w' v' l' ∧ Below w.heap.size w w' ∧ PutI l x e l' := by
  obtain ⟨vx, rfl, hwx, hxo⟩ := itR_iff.1 hx
  obtain ⟨Ax, nx, cx', hv'⟩ : ∃ A n c, vx = .slice A n c := by obtain ⟨v', hv2, _, hr, _⟩ := obR_iff.1 hxo; simp only [List.cons.injEq, and_true, true_and] at hv2; subst hv2; obtain ⟨A, c, e, _⟩ := hr.at; exact ⟨A, _, c, e⟩
  subst hv'
  obtain ⟨A, c, rfl, hlc, hcm, _⟩ := hv.at
  obtain ⟨W, hW⟩ : ∃ W, W = w.alloc (.cells #[.int .u64 x.id, .int .i64 x.ob.tag, .slice Ax nx cx', .string x.ob.str] 38) := ⟨_, rfl⟩
  have hBW : Below w.heap.size w W := by rw [hW]; exact (Below.refl _ w).alloc (Nat.le_refl _) _
  have hI : IRow 38 W w.heap.size [.int .u64 x.id, .int .i64 x.ob.tag, .slice Ax nx cx', .string x.ob.str] := by rw [hW]; exact IRow.new w _ _
  have hsz : w.heap.size + 1 ≤ W.heap.size := by rw [hW]; simp
  have HH := Lib.hid (And.intro hv (And.intro hx (And.intro hBW (And.intro hI hsz)))); clear hv hx hBW hI hsz hxo
  go_enter Try.func10, Try.ntmps10
  go_wp2_with fail
  rw [← hW]
  clear hW
  go_loopw [6, 7, 8] (fun vo vd vk wr => ∃ (k : Nat) (d : Bool) (o : List It), vk = .int .i64 k ∧ k ≤ l.length ∧ vd = .bool d ∧ OwnRow itR 38 b (w.heap.size + 1) wr vo o ∧ (o.map It.id).Perm (got d x ++ (l.take k).map It.id) ∧ x.id ∉ (l.take k).map It.id ∧ Below (w.heap.size + 1) W wr) (fun _ _ vk _ => l.length - (intOf vk).toNat)
  case atStart => exact ⟨0, false, [], rfl, Nat.zero_le _, rfl, OwnRow.nil .., by simp [got], by simp, Below.refl _ _⟩
  case round =>
    obtain ⟨k, d, o, rfl, hk, rfl, hO, hP, hN, hB⟩ := hrel
    have hBw : Below w.heap.size w wr := HH.out.2.2.1.trans (hB.mono (by omega))
    have hIr := HH.out.2.2.2.1.kept (hB.block _ (by omega))
    have ci := hIr.cell
    have hol : o.length ≤ l.length + 1 := by
      have := hP.length_eq
      simp only [List.length_map, List.length_append, List.length_take, got] at this
      split at this <;> simp at this <;> omega
    obtain ⟨Ao, no, co, hvo⟩ : ∃ A n c, u6 = .slice A n c := by obtain ⟨A, c, e⟩ := hO.slice; exact ⟨A, _, c, e⟩
    subst hvo
    by_cases hlt : k < l.length
    · have hlt' : (k : Int) < l.length := by omega
      obtain ⟨g, oo, Av, nv, cv, hA, hg, hit, d0, d1, d2, d3⟩ := it_at (HH.out.1.below hBw) k hlt
      subst hA
      have htake : (l.take (k + 1)).map It.id = (l.take k).map It.id ++ [l[k].id] := by rw [List.take_add_one, List.getElem?_eq_getElem hlt, List.map_append]; rfl
      by_cases he : l[k].id = x.id
      · have heb : (l[k].id == x.id) = true := by simpa using he
        have hmem : x.id ∈ l.map It.id := by rw [← he]; exact List.mem_map.2 ⟨_, List.getElem_mem .., rfl⟩
        have HR := Lib.hid (And.intro hBw hmem); clear hBw hmem hO hP hN hB hIr hit htake
        go_wp2_with fail
        go_quiet (fail)
        go_wp2_with fail
        go_ret2
        exact ⟨_, _, _, rfl, (HH.out.1.below HR.out.1).below (bl_drewN wr _), HR.out.1.trans ((bl_drewN wr _).mono HR.out.1.size), .inl ⟨HR.out.2, rfl, rfl⟩⟩
      · have heb : (l[k].id == x.id) = false := by simpa using he
        have hN2 : x.id ∉ (l.take (k + 1)).map It.id := by rw [htake]; simp only [List.mem_append, not_or]; exact ⟨hN, by simpa using Ne.symm he⟩
        have h8 : (o.length + 1) * 56 ≤ 140737488355328 := by omega
        have hbs : w.heap.size + 1 ≤ wr.heap.size := Nat.le_trans HH.out.2.2.2.2 hB.size
        have hxr := itR_below HH.out.2.1 hBw
        cases d with
        | true =>
          have HR := Lib.hid (And.intro hO (And.intro hit (And.intro hP (And.intro hN2 (And.intro hB (And.intro h8 htake))))))
          clear hO hit hP hN hN2 hB h8 htake hBw hIr hxr
          go_wp2_with fail
          go_quiet (fail)
          go_wp2_with fail
          go_quiet (fail)
          go_wp2_with (
            at_builtin
            go_loud (refine wp_push (R := itR) (n0 := w.heap.size + 1) rfl (.tmp 40) (.tmp 45) 32 _ 56 rfl Try.underlying32 info_it rfl (by decide) (by decide) (.slice Ao no co) o l[k] #[.int .u64 l[k].id, .int .i64 l[k].ob.tag, .slice Av nv cv, .string l[k].ob.str] (0, 0) rfl rfl (itR.keep _ _ _ _ _ (Kp.heap rfl) HR.out.2.1) (HR.out.1.heap rfl) hbs (by decide) (by omega) HR.out.2.2.2.2.2.1 ?_)
            intro v5 w5 hO5 hG5 hb5 _)
          refine ⟨⟨k + 1, true, _, by go_num, by omega, rfl, hO5, ?_, HR.out.2.2.2.1, ?_⟩, by simp [intOf]; omega⟩
          · rw [List.map_append, HR.out.2.2.2.2.2.2, ← List.append_assoc]
            exact HR.out.2.2.1.append_right _
          · exact HR.out.2.2.2.2.1.grown ⟨hG5.os, hG5.tape, hG5.output, hG5.size, hG5.block⟩ hbs (fun g hg => (HR.out.1.lt g hg).1)
        | false =>
          by_cases hlt2 : x.id < l[k].id
          · have hltb : decide (x.id < l[k].id) = true := by simpa using hlt2
            have HR := Lib.hid (And.intro hO (And.intro hit (And.intro hP (And.intro hN2 (And.intro hB (And.intro h8 (And.intro htake hxr)))))))
            clear hO hit hP hN hN2 hB h8 htake hBw hIr hxr
            go_wp2_with fail
            go_quiet (fail)
            go_wp2_with fail
            go_quiet (fail)
            go_wp2_with (
              at_builtin
              first
              | (
                refine wp_push (R := itR) (n0 := w.heap.size + 1) rfl (.tmp 36) (.tmp 38) 32 _ 56 rfl Try.underlying32 info_it rfl (by decide) (by decide) (.slice Ao no co) o x #[.int .u64 x.id, .int .i64 x.ob.tag, .slice Ax nx cx', .string x.ob.str] (0, 0) rfl rfl (itR.keep _ _ _ _ _ (Kp.heap rfl) HR.out.2.2.2.2.2.2.2) (HR.out.1.heap rfl) hbs (by decide) (by omega) HR.out.2.2.2.2.2.1 ?_
                intro v5 w5 hO5 hG5 hb5 _
                obtain ⟨A5, c5, hv5⟩ := hO5.slice
                generalize hn5 : (o ++ [x]).length = n5 at hv5
                subst hv5
                have hB5 : Below (w.heap.size + 1) W w5 := HR.out.2.2.2.2.1.grown ⟨hG5.os, hG5.tape, hG5.output, hG5.size, hG5.block⟩ hbs (fun g hg => (HR.out.1.lt g hg).1)
                obtain ⟨g5, oo5, Av5, nv5, cv5, hA5, hg5, hit5, b0, b1, b2, b3⟩ := it_at (HH.out.1.below (HH.out.2.2.1.trans (hB5.mono (by omega)))) k hlt
                injection hA5 with hA5
                injection hA5 with e1 e2 _
                subst e1 e2
                have h85 : ((o ++ [x]).length + 1) * 56 ≤ 140737488355328 := by rw [List.length_append]; simp; omega
                have hbs5 : w.heap.size + 1 ≤ w5.heap.size := Nat.le_trans HH.out.2.2.2.2 hB5.size
                have H5 := Lib.hid (And.intro hO5 (And.intro hB5 (And.intro hit5 (And.intro h85 hn5))))
                clear hO5 hG5 hb5 hB5 hit5 h85 hn5
                skip)
              | (
                refine wp_push (R := itR) (n0 := w.heap.size + 1) rfl (.tmp 40) (.tmp 45) 32 _ 56 rfl Try.underlying32 info_it rfl (by decide) (by decide) (.slice A5 n5 c5) (o ++ [x]) l[k] #[.int .u64 l[k].id, .int .i64 l[k].ob.tag, .slice Av5 nv5 cv5, .string l[k].ob.str] (0, 0) rfl rfl H5.out.2.2.1 H5.out.1 hbs5 (by decide) (by omega) H5.out.2.2.2.1 ?_
                intro v6 w6 hO6 hG6 hb6 _))
            refine ⟨⟨k + 1, true, _, by go_num, by omega, rfl, hO6, ?_, HR.out.2.2.2.1, ?_⟩, by simp [intOf]; omega⟩
            · rw [List.map_append, List.map_append, HR.out.2.2.2.2.2.2.1, ← List.append_assoc]
              refine List.Perm.append_right _ ?_
              exact (HR.out.2.2.1.append_right [x.id]).trans List.perm_append_comm
            · exact H5.out.2.1.grown hG6 hbs5 (fun g hg => (H5.out.1.lt g hg).1)
          · have hltb : decide (x.id < l[k].id) = false := by simpa using hlt2
            have HR := Lib.hid (And.intro hO (And.intro hit (And.intro hP (And.intro hN2 (And.intro hB (And.intro h8 htake))))))
            clear hO hit hP hN hN2 hB h8 htake hBw hIr hxr
            go_wp2_with fail
            go_quiet (fail)
            go_wp2_with fail
            go_quiet (fail)
            go_wp2_with (
              at_builtin
              go_loud (refine wp_push (R := itR) (n0 := w.heap.size + 1) rfl (.tmp 40) (.tmp 45) 32 _ 56 rfl Try.underlying32 info_it rfl (by decide) (by decide) (.slice Ao no co) o l[k] #[.int .u64 l[k].id, .int .i64 l[k].ob.tag, .slice Av nv cv, .string l[k].ob.str] (0, 0) rfl rfl (itR.keep _ _ _ _ _ (Kp.heap rfl) HR.out.2.1) (HR.out.1.heap rfl) hbs (by decide) (by omega) HR.out.2.2.2.2.2.1 ?_)
              intro v5 w5 hO5 hG5 hb5 _)
            refine ⟨⟨k + 1, false, _, by go_num, by omega, rfl, hO5, ?_, HR.out.2.2.2.1, ?_⟩, by simp [intOf]; omega⟩
            · rw [List.map_append, HR.out.2.2.2.2.2.2, ← List.append_assoc]
              exact HR.out.2.2.1.append_right _
            · exact HR.out.2.2.2.2.1.grown ⟨hG5.os, hG5.tape, hG5.output, hG5.size, hG5.block⟩ hbs (fun g hg => (HR.out.1.lt g hg).1)
    · obtain rfl : k = l.length := by omega
      rw [List.take_length] at hP hN
      have h8 : (o.length + 1) * 56 ≤ 140737488355328 := by omega
      have hbs : w.heap.size + 1 ≤ wr.heap.size := Nat.le_trans HH.out.2.2.2.2 hB.size
      have hxr := itR_below HH.out.2.1 hBw
      have HR := Lib.hid (And.intro hO (And.intro hP (And.intro hN (And.intro hB (And.intro h8 (And.intro hxr hBw))))))
      clear hO hP hN hB h8 hBw hIr hxr
      cases d with
      | true =>
        go_wp2_with fail
        go_ret2
        exact ⟨_, _, o, rfl, HR.out.1.read, HR.out.2.2.2.2.2.2, .inr ⟨HR.out.2.2.1, rfl, HR.out.2.1⟩⟩
      | false =>
        go_wp2_with (
          at_builtin
          go_loud (refine wp_push (R := itR) (n0 := w.heap.size + 1) rfl (.tmp 49) (.tmp 51) 32 _ 56 rfl Try.underlying32 info_it rfl (by decide) (by decide) (.slice Ao no co) o x #[.int .u64 x.id, .int .i64 x.ob.tag, .slice Ax nx cx', .string x.ob.str] (0, 0) rfl rfl HR.out.2.2.2.2.2.1 HR.out.1 hbs (by decide) (by omega) HR.out.2.2.2.2.1 ?_)
          intro v5 w5 hO5 hG5 hb5 _)
        go_ret2
        refine ⟨_, _, o ++ [x], rfl, hO5.read, HR.out.2.2.2.2.2.2.grown hG5 (by omega) (fun g hg => by have := (HR.out.1.lt g hg).1; omega), .inr ⟨HR.out.2.2.1, rfl, ?_⟩⟩
        rw [List.map_append]
        exact (HR.out.2.1.append_right [x.id]).trans List.perm_append_comm
set_option maxRecDepth 100000 in
set_option maxHeartbeats 4000000 in
theorem rc_any (b : Nat) (v : Value) (l : List It) (id : Int) (w : World) (hbw : b ≤ w.heap.size) (hv : RdRow itR 38 b w v l) (hn : l.length ≤ 1048575) :
    Calls Try.prog 13 #[v, .int .u64 id] w fun r w' => ∃ v' e l', r = .returned (.tuple #[v', .int .i64 e]) ∧ RdRow itR 38 b w' v' l' ∧ Below w.heap.size w w' ∧ ((id ∉ l.map It.id ∧ e = 5 ∧ l' = l) ∨ (id ∈ l.map It.id ∧ e = 0 ∧ l' = l.filter (fun x => decide (x.id ≠ id)))) := by
  obtain ⟨A, c, rfl, hlc, hcm, _⟩ := hv.at
  have HH := Lib.hid hv; clear hv
  go_enter Try.func13, Try.ntmps13
  go_wp2_with fail
  go_loopw [6, 7] (fun vo vk wr => ∃ k : Nat, vk = .int .i64 k ∧ k ≤ l.length ∧ OwnRow itR 38 b w.heap.size wr vo ((l.take k).filter (fun x => decide (x.id ≠ id))) ∧ Below w.heap.size w wr) (fun _ vk _ => l.length - (intOf vk).toNat)
  case atStart => exact ⟨0, rfl, Nat.zero_le _, OwnRow.nil .., Below.refl _ _⟩
  case round =>
    obtain ⟨k, rfl, hk, hO, hB⟩ := hrel
    have hol : ((l.take k).filter (fun x => decide (x.id ≠ id))).length ≤ k := Nat.le_trans (List.length_filter_le ..) (by rw [List.length_take]; omega)
    obtain ⟨Ao, co, hvo⟩ := hO.slice
    subst hvo
    by_cases hlt : k < l.length
    · have hlt' : (k : Int) < l.length := by omega
      obtain ⟨g, oo, Av, nv, cv, hA, hg, hit, d0, d1, d2, d3⟩ := it_at (HH.out.below hB) k hlt
      subst hA
      have htake : l.take (k + 1) = l.take k ++ [l[k]] := by rw [List.take_add_one, List.getElem?_eq_getElem hlt]; rfl
      have hf : (l.take (k + 1)).filter (fun x => decide (x.id ≠ id)) = (l.take k).filter (fun x => decide (x.id ≠ id)) ++ if l[k].id = id then [] else [l[k]] := by
        rw [htake, List.filter_append]
        congr 1
        by_cases he : l[k].id = id <;> simp [he]
      generalize (l.take k).filter (fun x => decide (x.id ≠ id)) = o at *
      by_cases he : l[k].id = id
      · have heb : (l[k].id == id) = true := by simpa using he
        rw [if_pos he, List.append_nil] at hf
        have HR := Lib.hid (And.intro hO (And.intro hB hf)); clear hO hB hit htake hf
        go_wp2_with fail
        refine ⟨⟨k + 1, by go_num, by omega, by rw [HR.out.2.2]; exact HR.out.1, HR.out.2.1⟩, ?_⟩
        simp [intOf]; omega
      · have heb : (l[k].id == id) = false := by simpa using he
        rw [if_neg he] at hf
        have h8 : (o.length + 1) * 56 ≤ 140737488355328 := by omega
        have hbs := hB.size
        have HR := Lib.hid (And.intro hO (And.intro hB (And.intro hit (And.intro hf h8)))); clear hO hB hit htake hf h8
        go_wp2_with (
          at_builtin
          go_loud (refine wp_push (R := itR) (n0 := w.heap.size) rfl (.tmp 21) (.tmp 26) 32 _ 56 rfl Try.underlying32 info_it rfl (by decide) (by decide) (.slice Ao o.length co) o l[k] #[.int .u64 l[k].id, .int .i64 l[k].ob.tag, .slice Av nv cv, .string l[k].ob.str] (0, 0) rfl rfl HR.out.2.2.1 HR.out.1 hbs (by decide) (by omega) HR.out.2.2.2.2 ?_)
          intro v5 w5 hO5 hG5 hb5 _)
        rw [← HR.out.2.2.2.1] at hO5
        refine ⟨⟨k + 1, by go_num, by omega, hO5, HR.out.2.1.grown hG5 hbs (fun g hg => (HR.out.1.lt g hg).1)⟩, ?_⟩
        simp [intOf]; omega
    · obtain rfl : k = l.length := by omega
      rw [List.take_length] at hO hol
      rw [List.take_length]
      have hiff : (l.filter (fun x => decide (x.id ≠ id))).length = l.length ↔ id ∉ l.map It.id := by
        rw [List.length_filter_eq_length_iff]
        constructor
        · intro h hm
          obtain ⟨x, hx, rfl⟩ := List.mem_map.1 hm
          simpa using h x hx
        · intro h x hx
          simp only [decide_eq_true_eq]
          rintro rfl
          exact h (List.mem_map.2 ⟨x, hx, rfl⟩)
      generalize hF : l.filter (fun x => decide (x.id ≠ id)) = o at *
      by_cases he : o.length = l.length
      · have heb : ((o.length : Int) == (l.length : Int)) = true := by rw [he]; simp
        have HR := Lib.hid (And.intro hO (And.intro hB (hiff.1 he))); clear hO hB hiff he hF
        go_wp2_with fail
        go_ret2
        exact ⟨_, _, l, rfl, HH.out.below HR.out.2.1, HR.out.2.1, .inl ⟨HR.out.2.2, rfl, rfl⟩⟩
      · have heb : ((o.length : Int) == (l.length : Int)) = false := by simp; omega
        have hin : id ∈ l.map It.id := by
          by_cases h : id ∈ l.map It.id
          · exact h
          · exact absurd (hiff.2 h) he
        have HR := Lib.hid (And.intro hO (And.intro hB (And.intro hin hF))); clear hO hB hiff he hin hF
        go_wp2_with fail
        go_ret2
        exact ⟨_, _, o, rfl, HR.out.1.read, HR.out.2.1, .inr ⟨HR.out.2.2.1, rfl, HR.out.2.2.2.symm⟩⟩
set_option maxRecDepth 100000 in
set_option maxHeartbeats 4000000 in
theorem rb_any (b : Nat) (v vx : Value) (l xs : List It) (w : World) (hbw : b ≤ w.heap.size) (hv : RdRow itR 38 b w v l) (hx : RdRow itR 38 b w vx xs) (hn : l.length + xs.length ≤ 1048575) :
    Calls Try.prog 16 #[v, vx] w fun r w' => ∃ v' e l', r = .returned (.tuple #[v', .int .i64 e]) ∧ RdRow itR 38 b w' v' l' ∧ Below w.heap.size w w' ∧
      ((freshL (l.map It.id) (xs.map It.id) = false ∧ e = 4 ∧ l' = l) ∨ (freshL (l.map It.id) (xs.map It.id) = true ∧ e = 0 ∧ (l'.map It.id).Perm (l.map It.id ++ xs.map It.id))) := by
  obtain ⟨A, c, rfl, hlc, hcm, _⟩ := hv.at
  obtain ⟨Ax, cx, rfl, hlcx, hcmx, _⟩ := hx.at
  have HH := Lib.hid (And.intro hv hx); clear hv hx
  go_enter Try.func16, Try.ntmps16
  go_wp2_with fail
  go_loopw [6, 7, 8, 9] (fun vo vk _ _ wr => ∃ (k : Nat) (o : List It), vk = .int .i64 k ∧ k ≤ xs.length ∧ RdRow itR 38 b wr vo o ∧ freshL (l.map It.id) (xs.map It.id) = freshL (o.map It.id) ((xs.drop k).map It.id) ∧ (o.map It.id).Perm (l.map It.id ++ (xs.take k).map It.id) ∧ Below w.heap.size w wr) (fun _ vk _ _ _ => xs.length - (intOf vk).toNat)
  case atStart => exact ⟨0, l, rfl, Nat.zero_le _, HH.out.1, rfl, by simp, Below.refl _ _⟩
  case round =>
    obtain ⟨k, o, rfl, hk, hO, hF, hP, hB⟩ := hrel
    obtain ⟨Ao, co, hvo, _⟩ := hO.at
    subst hvo
    have hol : o.length = l.length + k := by
      have := hP.length_eq
      simp only [List.length_map, List.length_append, List.length_take] at this
      omega
    by_cases hlt : k < xs.length
    · have hlt' : (k : Int) < xs.length := by omega
      obtain ⟨g, oo, Av, nv, cv, hA, hg, hit, d0, d1, d2, d3⟩ := it_at (HH.out.2.below hB) k hlt
      subst hA
      have htake : (xs.take (k + 1)).map It.id = (xs.take k).map It.id ++ [xs[k].id] := by rw [List.take_add_one, List.getElem?_eq_getElem hlt, List.map_append]; rfl
      have hdrop : (xs.drop k).map It.id = xs[k].id :: (xs.drop (k + 1)).map It.id := by rw [List.drop_eq_getElem_cons hlt]; rfl
      rw [hdrop, freshL_cons] at hF
      have hbs := hB.size
      have hon : o.length ≤ 1048575 := by omega
      have hbr : b ≤ wr.heap.size := Nat.le_trans hbw hbs
      have HR := Lib.hid (And.intro hO (And.intro hF (And.intro hP (And.intro hB (And.intro hit (And.intro htake hol))))))
      clear hO hF hP hB hit htake hdrop hol
      go_wp2_with fail
      refine (rp_any b _ o xs[k] _ wr hbr HR.out.1 HR.out.2.2.2.2.1 hon).mono ?_
      rintro er w1 ⟨v1, e, o1, rfl, hO1, hB1, hpi⟩
      have hB2 := HR.out.2.2.2.1.trans (hB1.mono hbs)
      rcases hpi with ⟨hin, rfl, rfl⟩ | ⟨hni, rfl, hperm⟩
      · have hfl : freshL (l.map It.id) (xs.map It.id) = false := by rw [HR.out.2.1]; simp [hin]
        have HQ := Lib.hid (And.intro hB2 (And.intro hfl hO1)); clear hB2 hfl hO1 hin
        go_wp2_with fail
        go_ret2
        exact ⟨_, _, l, rfl, HH.out.1.below HQ.out.1, HQ.out.1, .inl ⟨HQ.out.2.1, rfl, rfl⟩⟩
      · have hfl : freshL (l.map It.id) (xs.map It.id) = freshL (o1.map It.id) ((xs.drop (k + 1)).map It.id) := by
          rw [HR.out.2.1, decide_eq_false hni]
          simp only [Bool.not_false, Bool.true_and]
          exact freshL_congr (fun y => hperm.mem_iff.symm)
        have hp2 : (o1.map It.id).Perm (l.map It.id ++ (xs.take (k + 1)).map It.id) := by
          rw [HR.out.2.2.2.2.2.1, ← List.append_assoc]
          exact hperm.trans ((HR.out.2.2.1.cons _).trans (List.perm_append_singleton _ _).symm)
        have HQ := Lib.hid (And.intro hB2 (And.intro hfl (And.intro hO1 hp2))); clear hB2 hfl hO1 hp2 hni hperm
        go_wp2_with fail
        refine ⟨⟨k + 1, o1, by go_num, by omega, HQ.out.2.2.1, HQ.out.2.1, HQ.out.2.2.2, HQ.out.1⟩, ?_⟩
        simp [intOf]; omega
    · obtain rfl : k = xs.length := by omega
      rw [List.take_length] at hP
      rw [List.drop_length] at hF
      have HR := Lib.hid (And.intro hO (And.intro hF (And.intro hP hB))); clear hO hF hP hB
      go_wp2_with fail
      go_ret2
      exact ⟨_, _, o, rfl, HR.out.1, HR.out.2.2.2, .inr ⟨HR.out.2.1, rfl, HR.out.2.2.1⟩⟩
end Go.Proofs.Ytjdcemmodkdajaa
