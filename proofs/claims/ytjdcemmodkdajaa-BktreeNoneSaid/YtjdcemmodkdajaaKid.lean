/-
  bktree: kid, hang.
-/
import Derived.Test.YtjdcemmodkdajaaTree2
namespace Go.Proofs.Ytjdcemmodkdajaa
open Go Go.RowKit Go.WW
def edgeAt (l : List Nd) (k : Nat) : Int := (l[k]?.map Nd.edge).getD 0
def kidIn (edge : Nat → Int) (e : Int) : List Nat → Int
  | [] => -1
  | k :: r => if edge k = e then k else kidIn edge e r
def kidN (l : List Nd) (i : Nat) (e : Int) : Int := kidIn (edgeAt l) e (kidsOf l i)
theorem kidsFrom_len {i : Nat} : ∀ {l : List Nd} {m : Nat}, (kidsFrom m l i).length ≤ l.length
  | [], m => Nat.zero_le _
  | n :: r, m => by
    simp only [kidsFrom]
    have := kidsFrom_len (i := i) (l := r) (m := m + 1)
    split <;> simp only [List.length_cons] <;> omega
set_option maxRecDepth 100000 in
set_option maxHeartbeats 1000000 in
theorem kid_any {own : Nat → Prop} {w : World} {t mb : Nat} {mtv lv : Value} {kv : List Value} {l : List Nd} {gone : Int} {f : Int → Option Int} (h : KT own w t mtv lv mb kv l (kidsOf l) gone f) (i : Nat) (hi : i < l.length) (hn : l.length ≤ 1048576) (e : Int) :
    Calls Try.prog 52 #[.pointer (some ⟨t, 0, none⟩), .int .i64 i, .int .i64 e] w fun r w' => r = .returned (.int .i64 (kidN l i e)) ∧ w' = w := by
  have hi' : (i : Int) < l.length := by omega
  obtain ⟨lb, cap, hlv, hlb, hc1, hc2, hfr, hat⟩ := h.blk (by rintro rfl; simp at hi)
  have c1 := h.row.cell 1
  simp only [List.getElem?_cons_zero, List.getElem?_cons_succ] at c1
  obtain ⟨v, ki, hki, hone, _, _, _, _, _, _, _, _, _, _, c2⟩ := hat i hi
  have hkr := (h.kids i ki hki).read
  have hkd : ∀ k ∈ kidsOf l i, k < l.length := fun k hk => (kidsOf_mem hk).1
  have h4 : ∀ k, k < l.length → w.cell? ⟨lb, k * 8 + 6, none⟩ = some (.int .i64 (edgeAt l k)) := by
    intro k hk
    obtain ⟨v, ki, _, _, _, _, _, _, _, _, _, _, _, c6, _⟩ := hat k hk
    simp [c6, edgeAt, List.getElem?_eq_getElem hk]
  have hks : (kidsOf l i).length ≤ 1048576 := Nat.le_trans kidsFrom_len hn
  have hnl : (nats (kidsOf l i)).length = (kidsOf l i).length := nat_len _
  obtain ⟨A, c, hkv⟩ := (h.kids i ki hki).slice
  subst hkv
  have hka : ∀ k (hk : k < (kidsOf l i).length), ∃ g o, A = some ⟨g, o, none⟩ ∧ w.cell? ⟨g, o + k, none⟩ = some (.int .i64 ((kidsOf l i)[k] : Nat)) := by
    intro k hk
    obtain ⟨g, o, h1, _, h2⟩ := hkr.intAt k (by omega)
    refine ⟨g, o, h1, ?_⟩
    rw [h2]
    congr 2
    simp [nats, List.getD_eq_getElem?_getD, List.getElem?_eq_getElem hk]
  rw [hnl] at c2
  unfold kidN
  generalize hE : edgeAt l = edge at *
  generalize hK : kidsOf l i = ks at *
  subst hlv
  have Hs := Lib.hid (And.intro hat (And.intro hkr (And.intro h4 (And.intro hkd hka))))
  have HH := Lib.hid (And.intro hE (And.intro hK h))
  clear hat hkr h4 hkd hka hE hK h hnl hki
  go_enter Try.func52, Try.ntmps52
  go_wp2
  go_loop [8, 18] (fun _ j => ∃ k : Nat, k ≤ ks.length ∧ j = .int .i64 k ∧ kidIn edge e ks = kidIn edge e (ks.drop k)) (fun _ j => ks.length - (intOf j).toNat)
  case atStart => exact ⟨0, Nat.zero_le _, rfl, rfl⟩
  case round =>
    obtain ⟨k, hk, rfl, hrel⟩ := hrel
    have H := Lib.hid hrel; clear hrel
    by_cases hlt : k < ks.length
    · obtain ⟨_, _, h4, hkd, hka⟩ := Hs.out
      obtain ⟨g, o, hA, hkk⟩ := hka k hlt
      have hkn := hkd (ks[k]) (List.getElem_mem ..)
      have h4k := h4 (ks[k]) hkn
      clear h4 hkd hka
      subst hA
      have hkn' : ((ks[k] : Nat) : Int) < l.length := by omega
      have hd : RowKit.Hid (ks.drop k = ks[k] :: ks.drop (k+1)) := Lib.hid (List.drop_eq_getElem_cons hlt)
      by_cases he : edge ks[k] = e
      · have hb : (edge ks[k] == e) = true := by simpa using he
        go_wp2
        go_ret
        refine ⟨?_, rfl⟩
        rw [H.out, hd.out, kidIn, if_pos he]
        rfl
      · have hb : (edge ks[k] == e) = false := by simpa using he
        go_wp2
        go_round
        case rel => exact ⟨k+1, by omega, by go_num, by rw [H.out, hd.out, kidIn, if_neg he]⟩
        case measure => simp [intOf]; omega
    · go_wp2
      go_ret
      have : k = ks.length := by omega
      subst this
      refine ⟨?_, rfl⟩
      rw [H.out]; simp [kidIn]
end Go.Proofs.Ytjdcemmodkdajaa
