/-
  The law's guard: ref05.Right, law21.Right (without the map that R15 brings).
-/
import Derived.Test.YtlcpfnhindfkfaaVbulk
import Derived.Test.YtlcpfnhindfkfaaHoist2
namespace Go.Proofs.Ytlcpfnhindfkfaa
open Go Go.RowKit Go.WW
theorem it_at {b n c : Nat} {A : Option Addr} {w : World} {l : List It} (hv : RdRow itR 34 b w (.slice A n c) l) (i : Nat) (hi : i < l.length) : ∃ g o Av nv cv, A = some ⟨g, o, none⟩ ∧ g < w.heap.size ∧ itR.rd b w [.int .u64 l[i].id, .int .i64 l[i].ob.tag, .slice Av nv cv, .string l[i].ob.str] l[i] ∧
    w.cell? ⟨g, o + i * 4, none⟩ = some (.int .u64 l[i].id) ∧ w.cell? ⟨g, o + i * 4 + 1, none⟩ = some (.int .i64 l[i].ob.tag) ∧ w.cell? ⟨g, o + i * 4 + 2, none⟩ = some (.slice Av nv cv) ∧ w.cell? ⟨g, o + i * 4 + 3, none⟩ = some (.string l[i].ob.str) := by
  obtain ⟨A', c', hv', _, _, _, hat⟩ := hv.at
  injection hv' with e1 e2 e3
  subst e1
  obtain ⟨g, o, cs, hA, hg, hr, hc⟩ := hat i hi
  obtain ⟨v, rfl, h1, h2⟩ := itR_iff.1 hr
  obtain ⟨Av, nv, cv, rfl⟩ : ∃ A n c, v = .slice A n c := by obtain ⟨v', hv2, _, hr, _⟩ := obR_iff.1 h2; simp only [List.cons.injEq, and_true, true_and] at hv2; subst hv2; obtain ⟨A, c, e, _⟩ := hr.at; exact ⟨A, _, c, e⟩
  exact ⟨g, o, Av, nv, cv, hA, hg, hr, hc 0 _ rfl, hc 1 _ rfl, hc 2 _ rfl, hc 3 _ rfl⟩
/-- A Bool is handed back; true tells that. -/
def Says (e : Ending) (Q : Prop) : Prop := ∃ r, e = .returned (.bool r) ∧ (r = true → Q)
theorem Says.no {e : Ending} {Q : Prop} (h : e = .returned (.bool false)) : Says e Q := ⟨false, h, fun h => (by cases h)⟩
theorem Says.of {e : Ending} {Q : Prop} {r : Bool} (h : e = .returned (.bool r)) (hq : Q) : Says e Q := ⟨r, h, fun _ => hq⟩
set_option maxRecDepth 100000 in
set_option maxHeartbeats 4000000 in
theorem oright_any (b : Nat) (x : Ob) (cx : List Value) (m s : Int) (w : World) (hx : obR.rd b w cx x) :
    Calls Try.prog 15 #[.agg cx.toArray, .int .i64 m, .int .i64 s] w fun e w' => Says e (Short x) ∧ Below w.heap.size w w' := by
  obtain ⟨vx, rfl, _, rx, _⟩ := obR_iff.1 hx
  obtain ⟨Ax, cx, rfl, _⟩ := rx.at
  have hB : ∀ o, Below w.heap.size w (w.alloc o) := fun o => (Below.refl _ w).alloc (Nat.le_refl _) o
  have HB := Lib.hid hB; clear hB rx hx
  obtain ⟨n, hn⟩ : ∃ n, x.vec.length = n := ⟨_, rfl⟩
  obtain ⟨z, hz⟩ : ∃ z, x.str.size = z := ⟨_, rfl⟩
  have hS : RowKit.Hid (n ≤ 65536 ∧ z ≤ 65536 → Short x) := Lib.hid (fun h => ⟨by omega, by omega⟩)
  have Hz := Lib.hid hz
  rw [hn]
  by_cases s0 : s < 0
  · go_enter Try.func15, Try.ntmps15
    go_wp2_with fail
    go_ret
    exact ⟨.no rfl, HB.out _⟩
  · have s0' : decide (s < 0) = false := by simpa using s0
    by_cases s1 : 65536 < s
    · have s1' : decide (65536 < s) = true := by simpa using s1
      go_enter Try.func15, Try.ntmps15
      go_wp2_with fail
      go_ret
      exact ⟨.no rfl, HB.out _⟩
    · have s1' : decide (65536 < s) = false := by simpa using s1
      go_enter Try.func15, Try.ntmps15
      by_cases m1 : m = 1
      · have m1' : (m == 1) = true := by simpa using m1
        by_cases t1 : x.tag = 1
        · have t1' : (x.tag == 1) = true := by simpa using t1
          by_cases n1 : (n : Int) = s
          · have n1' : ((n : Int) == s) = true := by simpa using n1
            by_cases z1 : z = 0
            · go_wp2_with fail
              go_ret
              exact ⟨.of rfl (hS.out ⟨by omega, by omega⟩), HB.out _⟩
            · have z1' : ((z : Int) == 0) = false := by simp; omega
              go_wp2_with fail
              go_ret
              exact ⟨.no (by simp), HB.out _⟩
          · have n1' : ((n : Int) == s) = false := by simpa using n1
            go_wp2_with fail
            go_ret
            exact ⟨.no rfl, HB.out _⟩
        · have t1' : (x.tag == 1) = false := by simpa using t1
          go_wp2_with fail
          go_ret
          exact ⟨.no rfl, HB.out _⟩
      · have m1' : (m == 1) = false := by simpa using m1
        by_cases m2 : m = 2
        · have m2' : (m == 2) = true := by simpa using m2
          by_cases t1 : x.tag = 2
          · have t1' : (x.tag == 2) = true := by simpa using t1
            by_cases n1 : (z : Int) = s
            · have n1' : ((z : Int) == s) = true := by simpa using n1
              by_cases z1 : n = 0
              · go_wp2_with fail
                go_ret
                exact ⟨.of rfl (hS.out ⟨by omega, by omega⟩), HB.out _⟩
              · have z1' : ((n : Int) == 0) = false := by simp; omega
                go_wp2_with fail
                go_ret
                exact ⟨.no (by simp), HB.out _⟩
            · have n1' : ((z : Int) == s) = false := by simpa using n1
              go_wp2_with fail
              go_ret
              exact ⟨.no rfl, HB.out _⟩
          · have t1' : (x.tag == 2) = false := by simpa using t1
            go_wp2_with fail
            go_ret
            exact ⟨.no rfl, HB.out _⟩
        · have m2' : (m == 2) = false := by simpa using m2
          by_cases m3 : m = 3
          · have m3' : (m == 3) = true := by simpa using m3
            by_cases t1 : x.tag = 2
            · have t1' : (x.tag == 2) = true := by simpa using t1
              by_cases n1 : (z : Int) ≤ s
              · have n1' : decide ((z : Int) ≤ s) = true := by simpa using n1
                by_cases z1 : n = 0
                · go_wp2_with fail
                  go_ret
                  exact ⟨.of rfl (hS.out ⟨by omega, by omega⟩), HB.out _⟩
                · have z1' : ((n : Int) == 0) = false := by simp; omega
                  go_wp2_with fail
                  go_ret
                  exact ⟨.no (by simp), HB.out _⟩
              · have n1' : decide ((z : Int) ≤ s) = false := by simpa using n1
                go_wp2_with fail
                go_ret
                exact ⟨.no rfl, HB.out _⟩
            · have t1' : (x.tag == 2) = false := by simpa using t1
              go_wp2_with fail
              go_ret
              exact ⟨.no rfl, HB.out _⟩
          · have m3' : (m == 3) = false := by simpa using m3
            go_wp2_with fail
            go_ret
            exact ⟨.no rfl, HB.out _⟩
structure Ac where
  kind : Int
  item : It
  items : List It
  n : Int
  draws : Value
/-- A slice, whatever it holds. -/
def Rd.sl : Rd Value := ⟨1, [], fun _ _ cs x => cs = [x] ∧ ∃ A n c, x = .slice A n c ∧ n ≤ 9223372036854775807, fun _ _ _ _ h => by rw [h.1]; rfl, fun _ _ _ _ _ _ h => h, fun _ _ _ _ _ _ h => h, fun _ _ _ _ h u hu => by obtain ⟨rfl, A, n, c, rfl, _⟩ := h; simp at hu; subst hu; rfl⟩
abbrev itsR : Rd (List It) := Rd.slice itR 34
def acR : Rd Ac := Rd.iso (Rd.pair (Rd.int .i64) (Rd.pair itR (Rd.pair itsR (Rd.pair (Rd.int .i64) Rd.sl)))) (fun a => (a.kind, a.item, a.items, a.n, a.draws))
theorem acR_iff {b : Nat} {w : World} {cs : List Value} {a : Ac} : acR.rd b w cs a ↔ ∃ v vs Ad nd cd, cs = [.int .i64 a.kind, .int .u64 a.item.id, .int .i64 a.item.ob.tag, v, .string a.item.ob.str, vs, .int .i64 a.n, .slice Ad nd cd] ∧ (Lit.int .i64 a.kind).wf = true ∧ itR.rd b w [.int .u64 a.item.id, .int .i64 a.item.ob.tag, v, .string a.item.ob.str] a.item ∧ RdRow itR 34 b w vs a.items ∧ (Lit.int .i64 a.n).wf = true ∧ a.draws = .slice Ad nd cd ∧ nd ≤ 9223372036854775807 := by
  constructor
  · rintro ⟨c1, c2, rfl, ⟨rfl, hk⟩, c3, c4, rfl, h1, c5, c6, rfl, ⟨vs, rfl, hvs⟩, c7, c8, rfl, ⟨rfl, hn⟩, rfl, Ad, nd, cd, hd, hnd⟩
    obtain ⟨v, rfl, hw, h2⟩ := itR_iff.1 h1
    exact ⟨v, vs, Ad, nd, cd, by rw [← hd]; rfl, hk, h1, hvs, hn, hd, hnd⟩
  · rintro ⟨v, vs, Ad, nd, cd, rfl, hk, h1, hvs, hn, hd, hnd⟩
    exact ⟨[_], _, rfl, ⟨rfl, hk⟩, [_, _, _, _], _, rfl, h1, [_], _, rfl, ⟨vs, rfl, hvs⟩, [_], [_], rfl, ⟨rfl, hn⟩, by rw [← hd], Ad, nd, cd, hd, hnd⟩
theorem ac_at {b n c : Nat} {A : Option Addr} {w : World} {l : List Ac} (hv : RdRow acR 36 b w (.slice A n c) l) (i : Nat) (hi : i < l.length) : ∃ g o Av nv cv As cs Ad nd cd, A = some ⟨g, o, none⟩ ∧ g < w.heap.size ∧ itR.rd b w [.int .u64 l[i].item.id, .int .i64 l[i].item.ob.tag, .slice Av nv cv, .string l[i].item.ob.str] l[i].item ∧ RdRow itR 34 b w (.slice As l[i].items.length cs) l[i].items ∧ nd ≤ 9223372036854775807 ∧
    w.cell? ⟨g, o + i * 8, none⟩ = some (.int .i64 l[i].kind) ∧ w.cell? ⟨g, o + i * 8 + 1, none⟩ = some (.int .u64 l[i].item.id) ∧ w.cell? ⟨g, o + i * 8 + 2, none⟩ = some (.int .i64 l[i].item.ob.tag) ∧ w.cell? ⟨g, o + i * 8 + 3, none⟩ = some (.slice Av nv cv) ∧ w.cell? ⟨g, o + i * 8 + 4, none⟩ = some (.string l[i].item.ob.str) ∧
    w.cell? ⟨g, o + i * 8 + 5, none⟩ = some (.slice As l[i].items.length cs) ∧ w.cell? ⟨g, o + i * 8 + 6, none⟩ = some (.int .i64 l[i].n) ∧ w.cell? ⟨g, o + i * 8 + 7, none⟩ = some (.slice Ad nd cd) := by
  obtain ⟨A', c', hv', _, _, _, hat⟩ := hv.at
  injection hv' with e1 e2 e3
  subst e1
  obtain ⟨g, o, cs, hA, hg, hr, hc⟩ := hat i hi
  obtain ⟨v, vs, Ad, nd, cd, rfl, h1, h2, h3, h4, h5, h6⟩ := acR_iff.1 hr
  obtain ⟨_, hv2, _, h7⟩ := itR_iff.1 h2
  simp only [List.cons.injEq, and_true, true_and] at hv2
  subst hv2
  obtain ⟨Av, nv, cv, rfl⟩ : ∃ A n c, v = .slice A n c := by obtain ⟨v', hv2, _, hr, _⟩ := obR_iff.1 h7; simp only [List.cons.injEq, and_true, true_and] at hv2; subst hv2; obtain ⟨A, c, e, _⟩ := hr.at; exact ⟨A, _, c, e⟩
  obtain ⟨As, cs, rfl, _⟩ := h3.at
  exact ⟨g, o, Av, nv, cv, As, cs, Ad, nd, cd, hA, hg, h2, h3, h6, hc 0 _ rfl, hc 1 _ rfl, hc 2 _ rfl, hc 3 _ rfl, hc 4 _ rfl, hc 5 _ rfl, hc 6 _ rfl, hc 7 _ rfl⟩
def OKa (a : Ac) : Prop := a.items.length ≤ 59 ∧ Short a.item.ob ∧ ∀ x ∈ a.items, Short x.ob
set_option maxRecDepth 100000 in
set_option maxHeartbeats 8000000 in
theorem aright_any (b : Nat) (m s : Int) (v : Value) (l : List Ac) (w : World) (hbw : b ≤ w.heap.size) (hv : RdRow acR 36 b w v l) (hsm : ∀ a ∈ l, a.items.length ≤ 1048576) :
    Calls Try.prog 4 #[.int .i64 m, .int .i64 s, v] w fun e w' => Says e (l.length ≤ 120 ∧ ∀ a ∈ l, OKa a) ∧ Below w.heap.size w w' := by
  obtain ⟨A, c, rfl, hlc, hcm, _⟩ := hv.at
  have HH := Lib.hid (And.intro hv hsm); clear hv hsm
  by_cases n1 : 120 < l.length
  · have n1' : decide ((120 : Int) < (l.length : Int)) = true := by simp; omega
    go_enter Try.func4, Try.ntmps4
    go_wp2_with fail
    go_ret
    exact ⟨.no rfl, Below.refl _ _⟩
  · have n1' : decide ((120 : Int) < (l.length : Int)) = false := by simp; omega
    by_cases s1 : 40 < s
    · have s1' : decide (40 < s) = true := by simpa using s1
      go_enter Try.func4, Try.ntmps4
      go_wp2_with fail
      go_ret
      exact ⟨.no rfl, Below.refl _ _⟩
    · have s1' : decide (40 < s) = false := by simpa using s1
      have hl120 : l.length ≤ 120 := by omega
      go_enter Try.func4, Try.ntmps4
      go_wp2_with fail
      clear n1 n1' s1 s1'
      go_loopw [7, 8, 9] (fun vi _ _ wr => ∃ i : Nat, vi = .int .i64 i ∧ i ≤ l.length ∧ (∀ a ∈ l.take i, OKa a) ∧ Below w.heap.size w wr) (fun vi _ _ _ => l.length - (intOf vi).toNat)
      case atStart => exact ⟨0, rfl, Nat.zero_le _, by simp, Below.refl _ _⟩
      case round =>
        obtain ⟨i, rfl, hi, hK, hB⟩ := hrel
        by_cases hlt : i < l.length
        · have hlt' : (i : Int) < l.length := by omega
          obtain ⟨g, o, Av, nv, cv, As, cs, Ad, nd, cd, hA, hg, hit, hits, hnd, d0, d1, d2, d3, d4, d5, d6, d7⟩ := ac_at (HH.out.1.below hB) i hlt
          subst hA
          have htake : l.take (i + 1) = l.take i ++ [l[i]] := by rw [List.take_add_one, List.getElem?_eq_getElem hlt]; rfl
          have h8 : (([l[i].item] : List It).length + l[i].items.length) * 56 ≤ 140737488355328 := by have := HH.out.2 l[i] (List.getElem_mem ..); simp; omega
          have hbs := hB.size
          obtain ⟨C0, hC0⟩ : ∃ C0 : World → Prop, C0 = fun w' => Below wr.heap.size wr w' := ⟨_, rfl⟩
          have hcl : ∀ (z : CW C0) (p : Addr) (u : Value), p.block < wr.heap.size → wr.cell? p = some u → z.w.cell? p = some u := by
            rintro ⟨w', hw⟩ p u hp hu
            subst hC0
            exact (cell_same (hw.block p.block hp)).trans hu
          have : Nonempty (CW C0) := by subst hC0; exact ⟨⟨wr, Below.refl _ _⟩⟩
          have a1 : ∀ z : CW C0, z.w.cell? ⟨g, o + i * 8 + 1, none⟩ = some _ := fun z => hcl z _ _ hg d1
          have a2 : ∀ z : CW C0, z.w.cell? ⟨g, o + i * 8 + 2, none⟩ = some _ := fun z => hcl z _ _ hg d2
          have a3 : ∀ z : CW C0, z.w.cell? ⟨g, o + i * 8 + 3, none⟩ = some _ := fun z => hcl z _ _ hg d3
          have a4 : ∀ z : CW C0, z.w.cell? ⟨g, o + i * 8 + 4, none⟩ = some _ := fun z => hcl z _ _ hg d4
          have a5 : ∀ z : CW C0, z.w.cell? ⟨g, o + i * 8 + 5, none⟩ = some _ := fun z => hcl z _ _ hg d5
          have HR := Lib.hid (And.intro hK (And.intro hB (And.intro hit (And.intro hits (And.intro htake (And.intro h8 hC0))))))
          clear hK hB hit hits htake h8 hC0 hcl
          go_wp2_with fail
          refine wp_region_sched [([true, true, true, true, true, false, true, true, true, true, true, false, false], 5), (List.replicate 13 false, 11), (List.replicate 13 false, 12)] (List.replicate 13 false) (fun w' => ∃ z : CW C0, w' = z.w) (by kernel_rfl) (by kernel_rfl) ?_ ?_
          · have h0 : C0 wr.drew := by rw [HR.out.2.2.2.2.2.2]; exact bl_drewN wr 1
            exact ⟨⟨_, h0⟩, rfl⟩
          simp only [List.replicate]
          simp only [wpSch, pickR, pickN]
          repeat (go_big_quiet_step (fail))
          refine wpQuiet_nil ?_
          go_wp2_with fail
          apply only_mk
          refine And.intro ?_ ?_
          · have h0 : C0 (wr.drew.alloc (.cells #[.int .u64 l[i].item.id, .int .i64 l[i].item.ob.tag, .slice Av nv cv, .string l[i].item.ob.str] 34)) := by rw [HR.out.2.2.2.2.2.2]; exact (bl_drewN wr 1).alloc (Nat.le_refl _) _
            exact ⟨⟨_, h0⟩, rfl⟩
          refine wpQuiet_nil ?_
          have hO0 : OwnRow itR 34 b wr.heap.size (wr.drew.alloc (.cells #[.int .u64 l[i].item.id, .int .i64 l[i].item.ob.tag, .slice Av nv cv, .string l[i].item.ob.str] 34)) (.slice (some ⟨wr.heap.size, 0, none⟩) 1 1) [l[i].item] :=
            OwnRow.one (w := wr.drew) (cs := [.int .u64 l[i].item.id, .int .i64 l[i].item.ob.tag, .slice Av nv cv, .string l[i].item.ob.str]) (itR_below HR.out.2.2.1 (bl_drewN wr 1)) (Nat.le_refl _)
          have hB0 : Below wr.heap.size wr (wr.drew.alloc (.cells #[.int .u64 l[i].item.id, .int .i64 l[i].item.ob.tag, .slice Av nv cv, .string l[i].item.ob.str] 34)) := (bl_drewN wr 1).alloc (Nat.le_refl _) _
          have hI0 := HR.out.2.2.2.1.below hB0
          have H0 := Lib.hid (And.intro hO0 (And.intro hB0 hI0)); clear hO0 hB0 hI0
          go_wp2_with (
            at_builtin
            go_loud (refine wp_cat (R := itR) (n0 := wr.heap.size) rfl (.tmp 28) (.tmp 33) 25 _ 56 rfl Try.underlying25 info_it rfl (by decide) (by decide) (.slice (some ⟨wr.heap.size, 0, none⟩) 1 1) (.slice As l[i].items.length cs) [l[i].item] l[i].items rfl rfl H0.out.2.2 H0.out.1 H0.out.2.1.size (by decide) (by omega) HR.out.2.2.2.2.2.1 ?_)
            intro v5 w5 hO5 hG5 hb5 _)
          have hB5 : Below wr.heap.size wr w5 := H0.out.2.1.grown hG5 H0.out.2.1.size (fun g hg => by simp [Value.ownBlock] at hg; omega)
          obtain ⟨A5, c5, hv5⟩ := hO5.slice
          obtain ⟨all, hall⟩ : ∃ all, all = [l[i].item] ++ l[i].items := ⟨_, rfl⟩
          rw [← hall] at hO5 hv5
          have hR5 := hO5.read
          subst hv5
          obtain ⟨N, hN⟩ : ∃ N, all.length = N := ⟨_, rfl⟩
          rw [hN] at hR5 ⊢
          have e7 := (cell_same (p := ⟨g, o + i * 8 + 7, none⟩) (hB5.block g hg)).trans d7
          have hBw5 := HR.out.2.1.trans (hB5.mono hbs)
          have H5 := Lib.hid (And.intro hR5 (And.intro hB5 (And.intro hall (And.intro hN hBw5))))
          clear hR5 hO5 hG5 hb5 hB5 hall hN hBw5 d0 d1 d2 d3 d4 d5 d6 d7 a1 a2 a3 a4 a5
          refine And.intro ?_ ?_
          · have h0 : C0 w5 := by rw [HR.out.2.2.2.2.2.2]; exact H5.out.2.1
            exact ⟨⟨_, h0⟩, rfl⟩
          refine wpQuiet_nil ?_
          go_wp2_with fail
          apply only_mk
          refine And.intro ?_ ?_
          · have h0 : C0 w5 := by rw [HR.out.2.2.2.2.2.2]; exact H5.out.2.1
            exact ⟨⟨_, h0⟩, rfl⟩
          refine wpQuiet_nil ?_
          have hNb : N ≤ 1048577 := by
            have h1 := HH.out.2 l[i] (List.getElem_mem ..)
            rw [← H5.out.2.2.2.1, H5.out.2.2.1]; simp; omega
          by_cases n6 : 60 < N
          · have n6' : decide ((60 : Int) < (N : Int)) = true := by simp; omega
            go_wp2_with fail
            go_ret
            exact ⟨.no rfl, H5.out.2.2.2.2⟩
          · have n6' : decide ((60 : Int) < (N : Int)) = false := by simp; omega
            by_cases n7 : 100 < nd
            · have n7' : decide ((100 : Int) < (nd : Int)) = true := by simp; omega
              go_wp2_with fail
              go_ret
              exact ⟨.no rfl, H5.out.2.2.2.2⟩
            · have n7' : decide ((100 : Int) < (nd : Int)) = false := by simp; omega
              go_wp2_with fail
              clear n7' n7 n6' e7
              have hs5 := H5.out.2.1.size
              go_loopw [9] (fun vk w6 => ∃ k : Nat, vk = .int .i64 k ∧ k ≤ N ∧ (∀ x ∈ all.take k, Short x.ob) ∧ Below w5.heap.size w5 w6) (fun vk _ => N - (intOf vk).toNat)
              case atStart => exact ⟨0, rfl, Nat.zero_le _, by simp, Below.refl _ _⟩
              case round =>
                obtain ⟨k, rfl, hk, hKK, hB6⟩ := hrel
                by_cases hkl : k < N
                · have hkl' : (k : Int) < N := by omega
                  have hka : k < all.length := by rw [H5.out.2.2.2.1]; exact hkl
                  obtain ⟨g', o', Ax, nx, cx, hA', hg', hix, b0, b1, b2, b3⟩ := it_at (H5.out.1.below hB6) k hka
                  subst hA'
                  obtain ⟨_, hvx, _, hxo⟩ := itR_iff.1 hix
                  simp only [List.cons.injEq, and_true, true_and] at hvx
                  subst hvx
                  have htk : all.take (k + 1) = all.take k ++ [all[k]] := by rw [List.take_add_one, List.getElem?_eq_getElem hka]; rfl
                  have H6 := Lib.hid (And.intro hKK (And.intro hB6 (And.intro hxo htk))); clear hKK hB6 hxo htk hix
                  go_wp2_with fail
                  refine (oright_any b _ _ m s _ H6.out.2.2.1).mono ?_
                  rintro er w7 ⟨⟨r, rfl, hr⟩, hb7⟩
                  have H7 := Lib.hid (And.intro hr hb7); clear hr hb7
                  cases r with
                  | true =>
                    go_wp2_with fail
                    refine ⟨⟨k + 1, by go_num, by omega, ?_, H6.out.2.1.trans (H7.out.2.mono H6.out.2.1.size)⟩, ?_⟩
                    · rw [H6.out.2.2.2]
                      intro x hx
                      rcases List.mem_append.1 hx with hx | hx
                      · exact H6.out.1 x hx
                      · simp at hx; subst hx; exact H7.out.1 (by trivial)
                    · simp [intOf]; omega
                  | false =>
                    go_wp2_with fail
                    go_ret
                    exact ⟨.no rfl, H5.out.2.2.2.2.trans ((H6.out.2.1.trans (H7.out.2.mono H6.out.2.1.size)).mono H5.out.2.2.2.2.size)⟩
                · have hkN : k = N := by omega
                  subst hkN
                  have H6 := Lib.hid (And.intro hKK hB6); clear hKK hB6
                  go_wp2_with fail
                  refine ⟨⟨i + 1, by go_num, by omega, ?_, H5.out.2.2.2.2.trans (H6.out.2.mono H5.out.2.2.2.2.size)⟩, ?_⟩
                  · obtain ⟨_, _, hall, hN, _⟩ := H5.out
                    have hsh := H6.out.1
                    rw [← hN, List.take_length, hall] at hsh
                    rw [HR.out.2.2.2.2.1]
                    intro a ha
                    rcases List.mem_append.1 ha with ha | ha
                    · exact HR.out.1 a ha
                    · simp at ha
                      subst ha
                      refine ⟨?_, hsh _ (by simp), fun x hx => hsh x (by simp [hx])⟩
                      rw [hall] at hN
                      simp at hN
                      omega
                  · simp [intOf]; omega
        · obtain rfl : i = l.length := by omega
          rw [List.take_length] at hK
          have HR := Lib.hid (And.intro hK hB); clear hK hB
          go_wp2_with fail
          go_ret
          exact ⟨.of rfl ⟨hl120, HR.out.1⟩, HR.out.2⟩
end Go.Proofs.Ytlcpfnhindfkfaa
