/-
  ref23: kid.
-/
import Derived.Test.YtjdcemmodkdajaaDep
namespace Go.Proofs.Ytjdcemmodkdajaa
open Go Go.RowKit Go.WW
theorem bk_at {b : Nat} {w : World} {A : Option Addr} {n c : Nat} {l : List Nd} (hv : RdRow bkR 77 b w (.slice A n c) l) (i : Nat) (hi : i < l.length) : ∃ g o v, A = some ⟨g, o, none⟩ ∧ g < w.heap.size ∧ itR.rd b w [.int .u64 l[i].it.id, .int .i64 l[i].it.ob.tag, v, .string l[i].it.ob.str] l[i].it ∧ (Lit.int .i64 l[i].par).wf = true ∧ (Lit.int .i64 l[i].edge).wf = true ∧
    w.cell? ⟨g, o + i * 7, none⟩ = some (.int .u64 l[i].it.id) ∧ w.cell? ⟨g, o + i * 7 + 1, none⟩ = some (.int .i64 l[i].it.ob.tag) ∧ w.cell? ⟨g, o + i * 7 + 2, none⟩ = some v ∧ w.cell? ⟨g, o + i * 7 + 3, none⟩ = some (.string l[i].it.ob.str) ∧
    w.cell? ⟨g, o + i * 7 + 4, none⟩ = some (.bool l[i].gone) ∧ w.cell? ⟨g, o + i * 7 + 5, none⟩ = some (.int .i64 l[i].par) ∧ w.cell? ⟨g, o + i * 7 + 6, none⟩ = some (.int .i64 l[i].edge) := by
  obtain ⟨A', c', hv', _, _, _, hat⟩ := hv.at
  injection hv' with e1 e2 e3
  subst e1
  obtain ⟨g, o, cs, hA, hg, hr, hc⟩ := hat i hi
  obtain ⟨v, rfl, h1, h2, h3⟩ := bkR_iff.1 hr
  exact ⟨g, o, v, hA, hg, h1, h2, h3, hc 0 _ rfl, hc 1 _ rfl, hc 2 _ rfl, hc 3 _ rfl, hc 4 _ rfl, hc 5 _ rfl, hc 6 _ rfl⟩
theorem edgeAt_eq {l : List Nd} {k : Nat} (h : k < l.length) : edgeAt l k = l[k].edge := by simp [edgeAt, List.getElem?_eq_getElem h]
set_option maxRecDepth 100000 in
set_option maxHeartbeats 2000000 in
theorem rkid_any (b : Nat) (v : Value) (l : List Nd) (w : World) (hv : RdRow bkR 77 b w v l) (up : Up l) (hn : l.length ≤ 1048576) (i : Nat) (e : Int) :
    Calls Try.prog 34 #[v, .int .i64 i, .int .i64 e] w fun r w' => r = .returned (.int .i64 (kidN l i e)) ∧ w' = w := by
  obtain ⟨A, c, rfl, hlc, hcm, _⟩ := hv.at
  have Hv := Lib.hid (And.intro hv up); clear hv up
  go_enter Try.func34, Try.ntmps34
  go_wp2
  go_loop [7] (fun j => ∃ k : Nat, k ≤ l.length ∧ j = .int .i64 k ∧ kidN l i e = kidIn (edgeAt l) e (kidsFrom k (l.drop k) i)) (fun j => l.length - (intOf j).toNat)
  case atStart => exact ⟨0, Nat.zero_le _, rfl, rfl⟩
  case round =>
    obtain ⟨k, hk, rfl, hrel⟩ := hrel
    have H := Lib.hid hrel; clear hrel
    by_cases hlt : k < l.length
    · obtain ⟨g, o, vx, hA, hg, _, _, _, d0, d1, d2, d3, d4, d5, d6⟩ := bk_at Hv.out.1 k hlt
      subst hA
      have hd : RowKit.Hid (l.drop k = l[k] :: l.drop (k+1)) := Lib.hid (List.drop_eq_getElem_cons hlt)
      have hee := Lib.hid (edgeAt_eq hlt)
      have hupk := Lib.hid (Hv.out.2 k l[k] (List.getElem?_eq_getElem hlt))
      have hlt' : (k : Int) < l.length := by omega
      by_cases hp : l[k].par = (i : Int)
      · have hpb : (l[k].par == (i : Int)) = true := by simpa using hp
        by_cases he : l[k].edge = e
        · have heb : (l[k].edge == e) = true := by simpa using he
          have hk0 : (0 : Int) < k := by have := hupk.out; omega
          go_wp2
          go_ret
          refine ⟨?_, rfl⟩
          rw [H.out, hd.out, kidsFrom, if_pos hp, kidIn, hee.out, if_pos he]
          rfl
        · have heb : (l[k].edge == e) = false := by simpa using he
          go_wp2
          go_round
          case rel => exact ⟨k+1, by omega, by go_num, by rw [H.out, hd.out, kidsFrom, if_pos hp, kidIn, hee.out, if_neg he]⟩
          case measure => simp [intOf]; omega
      · have hpb : (l[k].par == (i : Int)) = false := by simpa using hp
        go_wp2
        go_round
        case rel => exact ⟨k+1, by omega, by go_num, by rw [H.out, hd.out, kidsFrom, if_neg hp]⟩
        case measure => simp [intOf]; omega
    · go_wp2
      go_ret
      have : k = l.length := by omega
      subst this
      refine ⟨?_, rfl⟩
      rw [H.out]; simp [kidsFrom, kidIn]
end Go.Proofs.Ytjdcemmodkdajaa
