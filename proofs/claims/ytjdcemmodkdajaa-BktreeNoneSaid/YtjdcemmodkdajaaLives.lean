/-
  The law's own example: lives.
-/
import Derived.Test.YtjdcemmodkdajaaGuard
namespace Go.WW
open Go Go.RowKit
theorem Fr.toB {own : Nat → Prop} {w w' : World} {b : Nat} (h : Fr own w w') (ho : ∀ g, own g → b ≤ g) (hb : b ≤ w.heap.size) : Below b w w' := ⟨h.os, h.tape, h.output, h.size, fun g hg => h.block g (Nat.lt_of_lt_of_le hg hb) (fun e => by have := ho g e; omega)⟩
end Go.WW
namespace Go.Proofs.Ytjdcemmodkdajaa
open Go Go.RowKit Go.WW
theorem OwnRow.many {α : Type} {R : Rd α} {e b n0 : Nat} {w : World} {css : List (List Value)} {xs : List α} (hl : css.length = xs.length) (hr : ∀ (i : Nat) (x : α) (c : List Value), xs[i]? = some x → css[i]? = some c → R.rd b w c x) (hs : n0 ≤ w.heap.size) (hm : xs.length ≤ maxLen) :
    OwnRow R e b n0 (w.alloc (.cells css.flatten.toArray e)) (.slice (some ⟨w.heap.size, 0, none⟩) xs.length xs.length) xs := by
  have hlen := OwnRow.lens hl hr
  have hfl := flatten_len hlen
  refine ⟨css, ?_, hl, fun i y c h1 h2 => ?_⟩
  · have := World.ownsRow_lit (base := n0) (e := e) (size := R.sz) w css.flatten.toArray xs.length hs hm (by simp [hfl, hl])
    simpa using this
  · have hk : Kp R.ts b w (w.alloc (.cells css.flatten.toArray e)) := (Kp.refl R.ts b w).grown (World.grownBy_alloc w _ none) (by simp)
    exact R.keep _ _ _ _ _ hk (hr i y c h1 h2)
def lo (id : Int) (s : ByteArray) : It := ⟨id, ⟨2, [], s⟩⟩
abbrev bcat : ByteArray := ⟨#[99, 97, 116]⟩
abbrev bcut : ByteArray := ⟨#[99, 117, 116]⟩
abbrev bhat : ByteArray := ⟨#[104, 97, 116]⟩
theorem d21 : distO 3 (lo 2 bcut).ob (lo 1 bcat).ob = 1 := by
  have : lr [116, 117, 99] [116, 97, 99] = 1 := by simp [lr_cons, lr_nil, lr_nil_r]
  show ((lr [116, 117, 99] [116, 97, 99] : Nat) : Int) = 1
  rw [this]; rfl
theorem d31 : distO 3 (lo 3 bhat).ob (lo 1 bcat).ob = 1 := by
  have : lr [116, 97, 104] [116, 97, 99] = 1 := by simp [lr_cons, lr_nil, lr_nil_r]
  show ((lr [116, 97, 104] [116, 97, 99] : Nat) : Int) = 1
  rw [this]; rfl
theorem d32 : distO 3 (lo 3 bhat).ob (lo 2 bcut).ob = 2 := by
  have : lr [116, 97, 104] [116, 117, 99] = 2 := by simp [lr_cons, lr_nil, lr_nil_r]
  show ((lr [116, 97, 104] [116, 117, 99] : Nat) : Int) = 2
  rw [this]; rfl
def livesL : List Nd := [⟨lo 1 bcat, false, -1, 0⟩, ⟨lo 2 bcut, false, 0, 1⟩, ⟨lo 3 bhat, false, 1, 2⟩]
theorem lives_list : [lo 1 bcat, lo 2 bcut, lo 3 bhat].foldl (putN 3) [] = livesL := by
  have h1 : putN 3 [] (lo 1 bcat) = [⟨lo 1 bcat, false, -1, 0⟩] := rfl
  have p2 : putP 3 [⟨lo 1 bcat, false, -1, 0⟩] (lo 2 bcut).ob 1 0 = (0, 1) := by
    rw [putP_succ]
    have : obAt [⟨lo 1 bcat, false, -1, 0⟩] 0 = (lo 1 bcat).ob := rfl
    rw [this, d21, if_pos (by decide)]
    rfl
  have h2 : putN 3 [⟨lo 1 bcat, false, -1, 0⟩] (lo 2 bcut) = [⟨lo 1 bcat, false, -1, 0⟩, ⟨lo 2 bcut, false, 0, 1⟩] := by
    rw [putN_ne (by simp)]
    show _ ++ [(⟨lo 2 bcut, false, (putP 3 [⟨lo 1 bcat, false, -1, 0⟩] (lo 2 bcut).ob 1 0).1, (putP 3 [⟨lo 1 bcat, false, -1, 0⟩] (lo 2 bcut).ob 1 0).2⟩ : Nd)] = _
    rw [p2]; rfl
  have p3 : putP 3 [⟨lo 1 bcat, false, -1, 0⟩, ⟨lo 2 bcut, false, 0, 1⟩] (lo 3 bhat).ob 2 0 = (1, 2) := by
    rw [putP_succ]
    have : obAt [⟨lo 1 bcat, false, -1, 0⟩, ⟨lo 2 bcut, false, 0, 1⟩] 0 = (lo 1 bcat).ob := rfl
    rw [this, d31]
    have hk : kidN [⟨lo 1 bcat, false, -1, 0⟩, ⟨lo 2 bcut, false, 0, 1⟩] 0 1 = 1 := by decide
    rw [hk, if_neg (by decide)]
    show putP 3 _ _ 1 1 = _
    rw [putP_succ]
    have : obAt [⟨lo 1 bcat, false, -1, 0⟩, ⟨lo 2 bcut, false, 0, 1⟩] 1 = (lo 2 bcut).ob := rfl
    rw [this, d32, if_pos (by decide)]
    rfl
  show putN 3 (putN 3 (putN 3 [] (lo 1 bcat)) (lo 2 bcut)) (lo 3 bhat) = _
  rw [h1, h2, putN_ne (by simp)]
  show _ ++ [(⟨lo 3 bhat, false, (putP 3 [⟨lo 1 bcat, false, -1, 0⟩, ⟨lo 2 bcut, false, 0, 1⟩] (lo 3 bhat).ob 2 0).1, (putP 3 [⟨lo 1 bcat, false, -1, 0⟩, ⟨lo 2 bcut, false, 0, 1⟩] (lo 3 bhat).ob 2 0).2⟩ : Nd)] = _
  rw [p3]; rfl
theorem lives_dep : depN livesL = 3 := by decide
set_option maxHeartbeats 1000000 in
theorem lv1_any (w : World) (id : Int) (s : ByteArray) : Calls Try.prog 30 #[.int .u64 id, .string s] w fun r w' => r = .returned (.agg #[.int .u64 id, .int .i64 2, nilS, .string s]) ∧ Below w.heap.size w w' := by
  go_enter Try.func30, Try.ntmps30
  go_wp2_with fail
  have hi := IRow.new w [.int .u64 id, .int .i64 2, nilS, .string s] 38
  refine bodyPost_ret (results_cell_row rfl _ _ w.heap.size 38 _ (0, 0) _ rfl hi Try.underlying38 rfl (by kernel_rfl)) rfl ?_
  exact ⟨rfl, (Below.refl _ w).alloc (Nat.le_refl _) _⟩
theorem lo_rd (b : Nat) (w : World) (id : Int) (s : ByteArray) (hw : (Lit.int .u64 id).wf = true) (hs : s.size ≤ maxLen) : itR.rd b w [.int .u64 id, .int .i64 2, nilS, .string s] (lo id s) := itR_iff.2 ⟨_, rfl, hw, obR_iff.2 ⟨_, rfl, rfl, RdRow.nil .., hs⟩⟩
theorem fld_img (A : Option Addr) (n c : Nat) (w : World) : (Instr.field 58 (.agg #[.slice A n c, nilS, nilS, .int .i64 0, nilS, nilS]) 0).run Try.prog w = .ok (.slice A n c) w := by kernel_rfl
set_option maxRecDepth 100000 in
set_option maxHeartbeats 4000000 in
theorem lives_any (w : World) : Calls Try.prog 6 #[] w fun e w' => e = .returned (.bool true) ∧ Below w.heap.size w w' := by
  go_enter Try.func6, Try.ntmps6
  go_wp2_with fail
  refine (mnew_any w 3).mono ?_
  rintro er w1 ⟨rfl, rfl⟩
  have hM := IRow.new w [.int .i64 3, .int .i64 0] 83
  have hB1 : Below w.heap.size w (w.alloc (.cells #[.int .i64 3, .int .i64 0] 83)) := (Below.refl _ w).alloc (Nat.le_refl _) _
  generalize w.alloc (.cells #[.int .i64 3, .int .i64 0] 83) = w1 at *
  have H1 := Lib.hid (And.intro hM hB1); clear hM hB1
  go_wp2_with fail
  refine (new_any w1 _ 3 0 H1.out.1).mono ?_
  rintro er w2 ⟨t, rfl, hB2, hT2⟩
  have hB2' := H1.out.2.trans (hB2.mono H1.out.2.size)
  have H2 := Lib.hid (And.intro hB2' hT2); clear hB2 hB2' hT2
  go_wp2_with fail
  refine (lv1_any w2 1 bcat).mono ?_
  rintro er w3 ⟨rfl, hB3⟩
  have H3 := Lib.hid hB3; clear hB3
  go_wp2_with fail
  refine (lv1_any w3 2 bcut).mono ?_
  rintro er w4 ⟨rfl, hB4⟩
  have H4 := Lib.hid hB4; clear hB4
  go_wp2_with fail
  refine (lv1_any w4 3 bhat).mono ?_
  rintro er w5 ⟨rfl, hB5⟩
  have H5 := Lib.hid hB5; clear hB5
  go_wp2_with fail
  have hB5w : Below w.heap.size w w5 := H2.out.1.trans ((((H3.out.trans (H4.out.mono H3.out.size)).trans (H5.out.mono (H3.out.trans (H4.out.mono H3.out.size)).size))).mono H2.out.1.size)
  have hO := OwnRow.many (R := itR) (e := 38) (b := w.heap.size) (n0 := w5.heap.size) (w := w5) (css := [[.int .u64 1, .int .i64 2, nilS, .string bcat], [.int .u64 2, .int .i64 2, nilS, .string bcut], [.int .u64 3, .int .i64 2, nilS, .string bhat]]) (xs := [lo 1 bcat, lo 2 bcut, lo 3 bhat]) rfl (fun i x c hx hc => by
    match i with
    | 0 => simp at hx hc; subst hx hc; exact lo_rd _ _ _ _ rfl (by decide)
    | 1 => simp at hx hc; subst hx hc; exact lo_rd _ _ _ _ rfl (by decide)
    | 2 => simp at hx hc; subst hx hc; exact lo_rd _ _ _ _ rfl (by decide)
    | n + 3 => simp at hx) (Nat.le_refl _) (by decide)
  have hA : Below w5.heap.size w5 (w5.alloc (.cells #[.int .u64 1, .int .i64 2, nilS, .string bcat, .int .u64 2, .int .i64 2, nilS, .string bcut, .int .u64 3, .int .i64 2, nilS, .string bhat] 38)) := (Below.refl _ _).alloc (Nat.le_refl _) _
  have hR : RdRow itR 38 w.heap.size (w5.alloc (.cells #[.int .u64 1, .int .i64 2, nilS, .string bcat, .int .u64 2, .int .i64 2, nilS, .string bcut, .int .u64 3, .int .i64 2, nilS, .string bhat] 38)) (.slice (some ⟨w5.heap.size, 0, none⟩) 3 3) [lo 1 bcat, lo 2 bcut, lo 3 bhat] := hO.read
  have hT6 := (((H2.out.2.below H3.out).below H4.out).below H5.out).below hA
  have hB6 := hB5w.trans (hA.mono hB5w.size)
  generalize (w5.alloc (.cells #[.int .u64 1, .int .i64 2, nilS, .string bcat, .int .u64 2, .int .i64 2, nilS, .string bcut, .int .u64 3, .int .i64 2, nilS, .string bhat] 38)) = w6 at *
  have hown : ∀ g, (g = w.heap.size ∨ w1.heap.size ≤ g) → w.heap.size ≤ g := fun g hg => by
    have := H1.out.2.size
    rcases hg with hg | hg <;> omega
  refine (bulk_any w.heap.size hT6 hown hB6.size _ (.pointer none) [lo 1 bcat, lo 2 bcut, lo 3 bhat] hR (fun x hx => by
    simp at hx
    rcases hx with rfl | rfl | rfl <;> exact ⟨by decide, by decide⟩) (by decide)).mono ?_
  rintro er w7 ⟨rfl, hF7, f7, hT7⟩
  have hfr : freshB (fun _ => none) [] ([lo 1 bcat, lo 2 bcut, lo 3 bhat].map It.id) = true := by decide
  rw [hfr] at hT7 ⊢
  simp only [if_true, lives_list] at hT7 ⊢
  have hB7 : Below w.heap.size w w7 := hB6.trans (hF7.toB (fun g hg => hown g hg.1) hB6.size)
  have H7 := Lib.hid (And.intro hB7 hT7); clear hB7 hT7 hF7 hT6 hR hO hA hB6 hB5w hfr hown
  go_wp2_with fail
  refine (image_any H7.out.2 (by decide)).mono ?_
  rintro er w8 ⟨vb, rfl, hRb, hB8⟩
  obtain ⟨A8, c8, rfl, _⟩ := hRb.at
  obtain ⟨g, o, vx, hA, hg, _, _, _, _, _, _, _, _, d5, d6⟩ := bk_at hRb 2 (by decide)
  subst hA
  have d5' : w8.cell? ⟨g, o + 19, none⟩ = some (.int .i64 1) := d5
  have d6' : w8.cell? ⟨g, o + 20, none⟩ = some (.int .i64 2) := d6
  have hT8 := H7.out.2.below hB8
  have H8 := Lib.hid (And.intro hB8 hT8); clear hRb hB8 hT8 d5 d6
  have hl3 : livesL.length = 3 := rfl
  rw [hl3]
  have hfd := fun w => fld_img (some ⟨g, o, none⟩) 3 c8 w
  go_wp2_with fail
  refine (depth_any H8.out.2 (by decide)).mono ?_
  rintro er w9 ⟨rfl, hB9⟩
  rw [lives_dep]
  have H9 := Lib.hid hB9; clear hB9
  go_wp2_with fail
  go_ret
  exact ⟨rfl, H7.out.1.trans ((H8.out.1.trans (H9.out.mono H8.out.1.size)).mono H7.out.1.size)⟩
end Go.Proofs.Ytjdcemmodkdajaa
