/-
  lev: Trim, first, next, Dist compute how many edits there are (lvD).
-/
import Derived.Test.YtlcpfnhindfkfaaBase
import Derived.Test.YtlcpfnhindfkfaaHoist
import Derived.Deep.DeepCutAuto
import Derived.Deep.CutBlock
import Derived.Lib.Strings
import Derived.Lib.IndexBytes
import Derived.Test.YtlcpfnhindfkfaaIRow
import Derived.Test.YtlcpfnhindfkfaaLevP
import Derived.Test.YtlcpfnhindfkfaaRows
namespace Go.Proofs.Ytlcpfnhindfkfaa
open Go Go.RowKit Go.WW
abbrev LL (s : ByteArray) : List UInt8 := s.data.toList
theorem ret_ix {k : IntKind} {a b : Int} (h : a = b) : Ending.returned (.int k a) = .returned (.int k b) := by rw [h]
set_option maxHeartbeats 400000 in
theorem first_any (n : Nat) (w : World) (hn : n ≤ 1048576) : Calls Try.prog 57 #[.int .i64 n] w fun e w' =>
    e = .returned (.slice (some ⟨w.heap.size, 0, none⟩) (n + 1) (n + 1)) ∧ IRow 3 w' w.heap.size (ints ((List.range (n + 1)).map fun (k : Nat) => (k : Int))) ∧ Below w.heap.size w w' := by
  have hmk := run_make_row' (P := Try.prog) 26 3 (.int .i64 0) 8 Try.underlying26 (by kernel_rfl) rfl .i64 .i64 (n + 1) (by omega) (by omega)
  simp only [Int.natCast_add, Int.cast_ofNat_Int] at hmk
  go_enter Try.func57, Try.ntmps57
  go_wp2
  go_loopw [4, 10] (fun _ j wr => ∃ k : Nat, k ≤ n + 1 ∧ j = .int .i64 k ∧ IRow 3 wr w.heap.size (ints (((List.range k).map fun (k : Nat) => (k : Int)) ++ List.replicate (n + 1 - k) 0)) ∧ Below w.heap.size w wr) (fun _ j _ => n + 1 - (intOf j).toNat)
  case atStart => exact ⟨0, Nat.zero_le _, rfl, by have := IRow.made w (.int .i64 0) (n + 1) 3; simpa [ints] using this, (Below.refl _ _).alloc (Nat.le_refl _) _⟩
  case round =>
    obtain ⟨k, hk, rfl, HR, HB⟩ := hrel
    by_cases hlt : k < n + 1
    · have hc : wr.cell? ⟨w.heap.size, k, none⟩ = some (.int .i64 0) := by
        rw [HR.cell, ints_at, List.getElem?_append_right (by simp)]
        simp [show 0 < n + 1 - k by omega]
      have hf := HR.frozen k
      have hlt' : (k : Int) < n + 1 := by omega
      have H1 := Lib.hid HR; clear HR
      go_wp2
      go_roundw
      case rel =>
        refine ⟨k + 1, by omega, by go_num, ?_, HB.setCell (Nat.le_refl _) _⟩
        have h2 := H1.out.set k (.int .i64 k)
        rw [ints_set] at h2
        have h3 : (((List.range k).map fun (k : Nat) => (k : Int)) ++ List.replicate (n + 1 - k) 0).set k (k : Int) = ((List.range (k + 1)).map fun (k : Nat) => (k : Int)) ++ List.replicate (n + 1 - (k + 1)) 0 := by
          rw [List.set_append_right _ _ (by simp), List.range_succ, List.map_append]
          simp only [List.length_map, List.length_range, Nat.sub_self, List.map_cons, List.map_nil, List.append_assoc]
          rw [show n + 1 - k = (n + 1 - (k + 1)) + 1 from by omega, List.replicate_succ]
          rfl
        rw [h3] at h2
        exact h2
      case measure => simp [intOf]; omega
    · obtain rfl : k = n + 1 := by omega
      have H1 := Lib.hid HR; clear HR
      go_wp2
      go_ret
      refine ⟨rfl, ?_, HB⟩
      have h2 := H1.out
      simpa using h2
def Trimmed (a b : ByteArray) (e : Ending) : Prop := ∃ a' b' : ByteArray, ∃ p q : List UInt8, e = .returned (.tuple #[.string a', .string b']) ∧ LL a = p ++ LL a' ++ q ∧ LL b = p ++ LL b' ++ q ∧ a'.size ≤ a.size ∧ b'.size ≤ b.size
theorem LL_len (s : ByteArray) : (LL s).length = s.size := rfl
theorem LL_from (s : ByteArray) (k : Nat) : LL (s.extract k s.size) = (LL s).drop k := Lib.extract_to_end s k
theorem LL_to (s : ByteArray) (k : Nat) : LL (s.extract 0 k) = (LL s).take k := by have := Lib.extract_data s 0 k; rw [List.drop_zero, Nat.sub_zero] at this; exact this
theorem take_eq_succ {l m : List UInt8} {k : Nat} (h : l.take k = m.take k) (h1 : k < l.length) (h2 : k < m.length) (he : l[k] = m[k]) : l.take (k + 1) = m.take (k + 1) := by
  rw [List.take_succ_eq_append_getElem h1, List.take_succ_eq_append_getElem h2, h, he]
theorem drop_eq_succ {l m : List UInt8} {k : Nat} (h : l.drop (l.length - k) = m.drop (m.length - k)) (h1 : k < l.length) (h2 : k < m.length) (he : l[l.length - 1 - k] = m[m.length - 1 - k]) : l.drop (l.length - (k + 1)) = m.drop (m.length - (k + 1)) := by
  have e1 : l.length - (k + 1) = l.length - 1 - k := by omega
  have e2 : m.length - (k + 1) = m.length - 1 - k := by omega
  rw [e1, e2, List.drop_eq_getElem_cons (i := l.length - 1 - k) (by omega), List.drop_eq_getElem_cons (i := m.length - 1 - k) (by omega), he]
  have e3 : l.length - 1 - k + 1 = l.length - k := by omega
  have e4 : m.length - 1 - k + 1 = m.length - k := by omega
  rw [e3, e4, h]
theorem toNat_eq {x y : UInt8} (h : ((x.toNat : Int) == (y.toNat : Int)) = true) : x = y := by
  have : x.toNat = y.toNat := by have h1 : (x.toNat : Int) = y.toNat := by simpa using h
                                 omega
  exact UInt8.toNat_inj.1 this
set_option maxHeartbeats 1000000 in
theorem trim_any (a b : ByteArray) (w : World) (ha : a.size ≤ 1048576) (hb : b.size ≤ 1048576) : Calls Try.prog 56 #[.string a, .string b] w fun e w' => Trimmed a b e ∧ ∃ n, w' = w.drewN n := by
  go_enter Try.func56, Try.ntmps56
  go_upto_block 0 with (fail)
  go_cut [6] (fun j wr => ∃ k : Nat, k ≤ a.size ∧ k ≤ b.size ∧ j = .int .i64 k ∧ Hid ((LL a).take k = (LL b).take k) ∧ ∃ n, wr = w.drewN n)
  case first =>
    go_wp2
    go_loopw [6] (fun j wr => ∃ k : Nat, k ≤ a.size ∧ k ≤ b.size ∧ j = .int .i64 k ∧ Hid ((LL a).take k = (LL b).take k) ∧ ∃ n, wr = w.drewN n) (fun j _ => a.size - (intOf j).toNat)
    case atStart => exact ⟨0, Nat.zero_le _, Nat.zero_le _, rfl, rfl, 0, rfl⟩
    case round =>
      obtain ⟨k, hka, hkb, rfl, H1, n, rfl⟩ := hrel
      by_cases hlt : k < a.size ∧ k < b.size
      · obtain ⟨hl1, hl2⟩ := hlt
        have hd : decide ((k : Int) < if b.size < a.size then (b.size : Int) else (a.size : Int)) = true := by simp; split <;> omega
        go_wp2
        go_quiet (fail)
        go_wp2
        · go_roundw
          case rel => exact ⟨k + 1, by omega, by omega, by go_num, take_eq_succ H1.out (by simpa using hl1) (by simpa using hl2) (toNat_eq (by assumption)), _, rfl⟩
          case measure => simp [intOf]; omega
        all_goals
          go_meet
          exact ⟨k, hka, hkb, rfl, H1, _, rfl⟩
      · have hd : decide ((k : Int) < if b.size < a.size then (b.size : Int) else (a.size : Int)) = false := by simp; split <;> omega
        go_wp2
        go_quiet (fail)
        go_wp2
        all_goals
          go_meet
          exact ⟨k, hka, hkb, rfl, H1, _, rfl⟩
  case rest =>
    obtain ⟨k, hka, hkb, rfl, H1, n, rfl⟩ := hcut
    have hka' : (k : Int) ≤ a.size := by omega
    have hkb' : (k : Int) ≤ b.size := by omega
    go_wp2
    go_quiet (fail)
    go_upto_block 2 with (fail)
    have ea : LL a = (LL a).take k ++ LL (a.extract k a.size) := by rw [LL_from, List.take_append_drop]
    have eb : LL b = (LL a).take k ++ LL (b.extract k b.size) := by rw [H1.out, LL_from, List.take_append_drop]
    have za : (a.extract k a.size).size ≤ a.size := by rw [← LL_len, LL_from, List.length_drop, LL_len]; omega
    have zb : (b.extract k b.size).size ≤ b.size := by rw [← LL_len, LL_from, List.length_drop, LL_len]; omega
    clear hka' hkb'
    generalize a.extract k a.size = a2 at *
    generalize b.extract k b.size = b2 at *
    generalize (LL a).take k = p at ea eb
    have Ea := Lib.hid ea; clear ea
    have Eb := Lib.hid eb; clear eb
    clear H1
    go_cut [6] (fun j wr => ∃ k : Nat, k ≤ a2.size ∧ k ≤ b2.size ∧ j = .int .i64 k ∧ Hid ((LL a2).drop ((LL a2).length - k) = (LL b2).drop ((LL b2).length - k)) ∧ ∃ n, wr = w.drewN n)
    case first =>
      go_wp2
      go_loopw [6] (fun j wr => ∃ k : Nat, k ≤ a2.size ∧ k ≤ b2.size ∧ j = .int .i64 k ∧ Hid ((LL a2).drop ((LL a2).length - k) = (LL b2).drop ((LL b2).length - k)) ∧ ∃ n, wr = w.drewN n) (fun j _ => a2.size - (intOf j).toNat)
      case atStart => exact ⟨0, Nat.zero_le _, Nat.zero_le _, rfl, by show List.drop _ _ = List.drop _ _; rw [Nat.sub_zero, Nat.sub_zero, List.drop_length, List.drop_length], _, World.drewN_drewN ..⟩
      case round =>
        obtain ⟨k2, hka2, hkb2, rfl, H1, n2, rfl⟩ := hrel
        by_cases hlt : k2 < a2.size ∧ k2 < b2.size
        · obtain ⟨hl1, hl2⟩ := hlt
          have hd : decide ((k2 : Int) < if b2.size < a2.size then (b2.size : Int) else (a2.size : Int)) = true := by simp; split <;> omega
          have i1 : 0 ≤ (a2.size : Int) - 1 - k2 := by omega
          have i2 : 0 ≤ (b2.size : Int) - 1 - k2 := by omega
          have i3 : (a2.size : Int) - 1 - k2 < a2.size := by omega
          have i5 : (k2 : Int) ≤ (a2.size : Int) - 1 := by omega
          have i6 : (k2 : Int) ≤ (b2.size : Int) - 1 := by omega
          have i4 : (b2.size : Int) - 1 - k2 < b2.size := by omega
          go_wp2
          have j1 : IntKind.i64.wrap ((a2.size : Int) - 1) = a2.size - 1 := IntWalk.i64_in _ (by omega)
          have j2 : IntKind.i64.wrap ((b2.size : Int) - 1) = b2.size - 1 := IntWalk.i64_in _ (by omega)
          have j3 : IntKind.i64.wrap ((a2.size : Int) - 1 - k2) = a2.size - 1 - k2 := IntWalk.i64_in _ (by omega)
          have j4 : IntKind.i64.wrap ((b2.size : Int) - 1 - k2) = b2.size - 1 - k2 := IntWalk.i64_in _ (by omega)
          have j5 : ((a2.size : Int) - 1 - k2).toNat = a2.size - 1 - k2 := by omega
          have j6 : ((b2.size : Int) - 1 - k2).toNat = b2.size - 1 - k2 := by omega
          go_quiet (fail)
          clear j1 j2 j3 j4
          go_wp2
          · exact ⟨⟨k2 + 1, by omega, by omega, by go_num, drop_eq_succ H1.out (by rw [LL_len]; omega) (by rw [LL_len]; omega) (toNat_eq (by assumption)), _, rfl⟩, by simp [intOf]; omega⟩
          all_goals
            go_meet
            exact ⟨k2, hka2, hkb2, rfl, H1, _, rfl⟩
        · have hd : decide ((k2 : Int) < if b2.size < a2.size then (b2.size : Int) else (a2.size : Int)) = false := by simp; split <;> omega
          go_wp2
          go_quiet (fail)
          go_wp2
          all_goals
            go_meet
            exact ⟨k2, hka2, hkb2, rfl, H1, _, rfl⟩
    case rest =>
      obtain ⟨k2, hka2, hkb2, rfl, H1, n2, rfl⟩ := hcut
      have hka' : (k2 : Int) ≤ a2.size := by omega
      have hkb' : (k2 : Int) ≤ b2.size := by omega
      go_wp2
      go_quiet (fail)
      go_wp2
      go_ret2
      refine ⟨⟨_, _, p, (LL a2).drop ((LL a2).length - k2), rfl, ?_, ?_, ?_, ?_⟩, _, World.drewN_drewN ..⟩
      · rw [Ea.out, LL_to, List.append_assoc, ← LL_len, List.take_append_drop]
      · rw [Eb.out, LL_to, List.append_assoc, H1.out, ← LL_len, List.take_append_drop]
      · rw [← LL_len, LL_to, List.length_take, LL_len]; omega
      · rw [← LL_len, LL_to, List.length_take, LL_len]; omega
end Go.Proofs.Ytlcpfnhindfkfaa
