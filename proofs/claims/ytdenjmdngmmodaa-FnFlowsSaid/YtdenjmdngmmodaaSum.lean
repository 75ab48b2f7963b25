/- The sums over bytes: both ways. -/
import Derived.Test.YtdenjmdngmmodaaFr
namespace Go.Proofs.Ytdenjmdngmmodaa
open Go.RowKit
set_option linter.unusedVariables false
set_option linter.unusedSimpArgs false
set_option maxRecDepth 20000
set_option maxHeartbeats 1000000

/-- The sum of words of two bytes; true: the next byte is the upper half. -/
def ws : Bool → List UInt8 → Nat
  | _, [] => 0
  | true, b :: t => b.toNat * 256 + ws false t
  | false, b :: t => b.toNat + ws true t
theorem ws_append (m : List UInt8) : ∀ (l : List UInt8) (p : Bool), ws p (l ++ m) = ws p l + ws (if l.length % 2 = 0 then p else !p) m
  | [], p => by simp [ws]
  | b :: t, true => by
    rw [List.cons_append, ws, ws, ws_append m t false, List.length_cons]
    have : (if t.length % 2 = 0 then false else !false) = (if (t.length + 1) % 2 = 0 then true else !true) := by
      by_cases h : t.length % 2 = 0
      · rw [if_pos h, if_neg (by omega)]; rfl
      · rw [if_neg h, if_pos (by omega)]; rfl
    rw [this]; omega
  | b :: t, false => by
    rw [List.cons_append, ws, ws, ws_append m t true, List.length_cons]
    have : (if t.length % 2 = 0 then true else !true) = (if (t.length + 1) % 2 = 0 then false else !false) := by
      by_cases h : t.length % 2 = 0
      · rw [if_pos h, if_neg (by omega)]; rfl
      · rw [if_neg h, if_pos (by omega)]; rfl
    rw [this]; omega
theorem ws_snoc (l : List UInt8) (b : UInt8) : ws true (l ++ [b]) = ws true l + (if l.length % 2 = 0 then b.toNat * 256 else b.toNat) := by
  rw [ws_append]
  by_cases h : l.length % 2 = 0
  · rw [if_pos h, if_pos h]; rfl
  · rw [if_neg h, if_neg h]; rfl
theorem ws_le : ∀ (l : List UInt8) (p : Bool), ws p l ≤ 65280 * l.length
  | [], p => by cases p <;> simp [ws]
  | b :: t, true => by have := ws_le t false; have := b.toNat_lt; rw [ws, List.length_cons]; omega
  | b :: t, false => by have := ws_le t true; have := b.toNat_lt; rw [ws, List.length_cons]; omega
/-- What is left when what stands over 65535 is added again and again. -/
def f16 (n : Nat) : Nat := if n = 0 then 0 else (n - 1) % 65535 + 1
theorem f16_step (n : Nat) (h : 65536 ≤ n) : f16 (n % 65536 + n / 65536) = f16 n := by unfold f16; rw [if_neg (by omega), if_neg (by omega)]; omega
theorem f16_small (n : Nat) (h : n < 65536) : f16 n = n := by unfold f16; split <;> omega
theorem f16_le (n : Nat) : f16 n ≤ 65535 := by unfold f16; split <;> omega

theorem sum16_ok (A : Option Addr) (c : Nat) (bs : List UInt8) (hl : bs.length ≤ 1000000) (w : World) (hr : Rd w A (bs.map bV)) :
    Calls Try.prog 117 #[.slice A bs.length c] w fun e w' => e = .returned (.int .i64 ((65535 - f16 (ws true bs) : Nat) : Int)) ∧ w = w' := by
  go_enter Try.func117, Try.ntmps117
  go_wp2
  go_loop [3, 8] (fun n i => ∃ k : Nat, k ≤ bs.length ∧ i = .int .i64 k ∧ n = .int .i64 (ws true (bs.take k))) (fun _ i => bs.length - (intOf i).toNat)
  case atStart => exact ⟨0, Nat.zero_le _, rfl, rfl⟩
  case round =>
    obtain ⟨k, hk, rfl, rfl⟩ := hrel
    have hb0 : (ws true (bs.take k) : Int) ≤ 65280000000 := by have := ws_le (bs.take k) true; rw [List.length_take] at this; omega
    by_cases hlt : k < bs.length
    · obtain ⟨ad, rfl, hc⟩ := hr.at_ (k := k) (by simpa using hlt)
      have hc' : w.cell? (ad.add k) = some (.int .u8 (bs[k].toNat : Int)) := by rw [hc]; simp [bV]
      have hs : ws true (bs.take (k + 1)) = ws true (bs.take k) + (if k % 2 = 0 then bs[k].toNat * 256 else bs[k].toNat) := by rw [List.take_succ_eq_append_getElem hlt, ws_snoc, List.length_take, Nat.min_eq_left hk]
      have hu := bs[k].toNat_lt
      have hu1 : (bs[k].toNat : Int) ≤ 255 := by omega
      have hu0 : (0 : Int) ≤ (bs[k].toNat : Int) := by omega
      have HR := Lib.hid hr
      have h3 : (k : Int) < bs.length := by omega
      have hk6 : (k : Int) ≤ 1000000 := by omega
      clear hr hc hu
      by_cases hp : k % 2 = 0
      · rw [if_pos hp] at hs
        have HS := Lib.hid hs
        have t1 : (k : Int).tmod 2 = 0 := by rw [Int.tmod_eq_emod_of_nonneg (by omega)]; omega
        have t2 : (k : Int) % 2 = 0 := by omega
        clear hs hp
        go_wp2
        go_round
        case rel => exact ⟨k + 1, by omega, by go_num, by rw [HS.out]; go_num⟩
        case measure => simp [intOf]; omega
      · rw [if_neg hp] at hs
        have HS := Lib.hid hs
        have t1 : (k : Int).tmod 2 = 1 := by rw [Int.tmod_eq_emod_of_nonneg (by omega)]; omega
        have t2 : (k : Int) % 2 = 1 := by omega
        clear hs hp
        go_wp2
        go_round
        case rel => exact ⟨k + 1, by omega, by go_num, by rw [HS.out]; go_num⟩
        case measure => simp [intOf]; omega
    · obtain rfl : k = bs.length := by omega
      rw [List.take_length] at hb0 ⊢
      go_wp2
      generalize hT : ws true bs = T at *
      have hr' := Lib.hid hr
      have HT := Lib.hid hT
      clear hT
      clear hr hlt hk
      go_loop [3] (fun n => ∃ m : Nat, n = .int .i64 m ∧ m ≤ 65280000000 ∧ f16 m = f16 T) (fun n => (intOf n).toNat)
      case atStart => exact ⟨T, rfl, by omega, rfl⟩
      case round =>
        obtain ⟨m, rfl, hm, hf⟩ := hrel
        have HF := Lib.hid hf
        clear hf
        by_cases hb : 65536 ≤ m
        · have hb' : (65536 : Int) ≤ m := by omega
          have t1 : (m : Int).tmod 65536 = ((m % 65536 : Nat) : Int) := by rw [Int.tmod_eq_emod_of_nonneg (by omega)]; omega
          have t2 : (m : Int) % 65536 = ((m % 65536 : Nat) : Int) := by omega
          have t3 : (m : Int).tdiv 65536 = ((m / 65536 : Nat) : Int) := by rw [Int.tdiv_eq_ediv_of_nonneg (by omega)]; omega
          have t4 : (m : Int) / 65536 = ((m / 65536 : Nat) : Int) := by omega
          have hst := Lib.hid (f16_step m hb)
          have hlt2 : m % 65536 + m / 65536 < m := by omega
          generalize m % 65536 = q at *
          generalize m / 65536 = r at *
          go_wp2
          go_round
          case rel => exact ⟨q + r, by go_num, by omega, by rw [hst.out]; exact HF.out⟩
          case measure => simp [intOf]; omega
        · have hb' : decide ((65536 : Int) ≤ m) = false := by simp; omega
          have hm2 : (m : Int) ≤ 65535 := by omega
          go_wp2
          go_ret
          have := HF.out
          rw [f16_small m (by omega)] at this
          exact ⟨by rw [HT.out, ← this]; show Ending.returned (Value.int IntKind.i64 (65535 - (m : Int))) = _; congr 2; omega, rfl⟩

theorem l01Sum16_ok (bs : List UInt8) (hl : bs.length ≤ 1000000) (w : World) :
    Calls Try.prog 118 #[.string (bstr bs)] w fun e w' => e = .returned (.int .i64 ((65535 - f16 (ws true bs) : Nat) : Int)) ∧ w = w' := by
  have hsz : (bstr bs).size = bs.length := bstr_size bs
  go_enter Try.func118, Try.ntmps118
  go_wp2
  go_loop [3, 4] (fun n i => ∃ k : Nat, k ≤ bs.length ∧ i = .int .i64 k ∧ n = .int .i64 (ws true (bs.take k))) (fun _ i => bs.length - (intOf i).toNat)
  case atStart => exact ⟨0, Nat.zero_le _, rfl, rfl⟩
  case round =>
    obtain ⟨k, hk, rfl, rfl⟩ := hrel
    have hb0 : (ws true (bs.take k) : Int) ≤ 65280000000 := by have := ws_le (bs.take k) true; rw [List.length_take] at this; omega
    by_cases hlt : k < bs.length
    · have hs : ws true (bs.take (k + 1)) = ws true (bs.take k) + (if k % 2 = 0 then bs[k].toNat * 256 else bs[k].toNat) := by rw [List.take_succ_eq_append_getElem hlt, ws_snoc, List.length_take, Nat.min_eq_left hk]
      have hu := bs[k].toNat_lt
      have hu1 : (bs[k].toNat : Int) ≤ 255 := by omega
      have hu0 : (0 : Int) ≤ (bs[k].toNat : Int) := by omega
      have h3 : (k : Int) < bs.length := by omega
      have hk6 : (k : Int) ≤ 1000000 := by omega
      have hg : (bstr bs)[k]'(by rw [hsz]; exact hlt) = bs[k] := by simp [bstr, ByteArray.getElem_eq_getElem_data]
      clear hu
      by_cases hp : k % 2 = 0
      · rw [if_pos hp] at hs
        have HS := Lib.hid hs
        have t1 : (k : Int).tmod 2 = 0 := by rw [Int.tmod_eq_emod_of_nonneg (by omega)]; omega
        have t2 : (k : Int) % 2 = 0 := by omega
        clear hs hp
        go_wp2
        go_round
        case rel => exact ⟨k + 1, by omega, by go_num, by rw [HS.out]; go_num⟩
        case measure => simp [intOf]; omega
      · rw [if_neg hp] at hs
        have HS := Lib.hid hs
        have t1 : (k : Int).tmod 2 = 1 := by rw [Int.tmod_eq_emod_of_nonneg (by omega)]; omega
        have t2 : (k : Int) % 2 = 1 := by omega
        clear hs hp
        go_wp2
        go_round
        case rel => exact ⟨k + 1, by omega, by go_num, by rw [HS.out]; go_num⟩
        case measure => simp [intOf]; omega
    · obtain rfl : k = bs.length := by omega
      rw [List.take_length] at hb0 ⊢
      go_wp2
      generalize hT : ws true bs = T at *
      have HT := Lib.hid hT
      clear hT
      clear hlt hk
      go_loop [3] (fun n => ∃ m : Nat, n = .int .i64 m ∧ m ≤ 65280000000 ∧ f16 m = f16 T) (fun n => (intOf n).toNat)
      case atStart => exact ⟨T, rfl, by omega, rfl⟩
      case round =>
        obtain ⟨m, rfl, hm, hf⟩ := hrel
        have HF := Lib.hid hf
        clear hf
        by_cases hb : 65536 ≤ m
        · have hb' : (65536 : Int) ≤ m := by omega
          have t1 : (m : Int).tmod 65536 = ((m % 65536 : Nat) : Int) := by rw [Int.tmod_eq_emod_of_nonneg (by omega)]; omega
          have t2 : (m : Int) % 65536 = ((m % 65536 : Nat) : Int) := by omega
          have t3 : (m : Int).tdiv 65536 = ((m / 65536 : Nat) : Int) := by rw [Int.tdiv_eq_ediv_of_nonneg (by omega)]; omega
          have t4 : (m : Int) / 65536 = ((m / 65536 : Nat) : Int) := by omega
          have hst := Lib.hid (f16_step m hb)
          have hlt2 : m % 65536 + m / 65536 < m := by omega
          generalize m % 65536 = q at *
          generalize m / 65536 = r at *
          go_wp2
          go_round
          case rel => exact ⟨q + r, by go_num, by omega, by rw [hst.out]; exact HF.out⟩
          case measure => simp [intOf]; omega
        · have hb' : decide ((65536 : Int) ≤ m) = false := by simp; omega
          have hm2 : (m : Int) ≤ 65535 := by omega
          go_wp2
          go_ret
          have := HF.out
          rw [f16_small m (by omega)] at this
          exact ⟨by rw [HT.out, ← this]; show Ending.returned (Value.int IntKind.i64 (65535 - (m : Int))) = _; congr 2; omega, rfl⟩
end Go.Proofs.Ytdenjmdngmmodaa
