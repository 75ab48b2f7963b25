/- Names: numbers as bytes and back (impl's), the text of an address and of a mac (spec's). -/
import Derived.Test.YtmjddgdcokbmeaaDoorNf
namespace Go.Proofs.YtmjddgdcokbmeaaDoor
open Go.RowKit
set_option linter.unusedVariables false
set_option linter.unusedSimpArgs false
set_option maxRecDepth 200000
set_option maxHeartbeats 4000000

theorem NumberBytes_ok (n : Nat) (hn : n < 16777216) (w : World) : Calls Tryd.prog 24 #[.int .i64 n, .int .i64 3] w fun e w' => ∃ b, e = .returned (.tuple #[.slice (some ⟨b, 0, none⟩) 3 3, .int .i64 0]) ∧ Rd w' (some ⟨b, 0, none⟩) ((beN n 3).map bV) ∧ LeB w w' := by
  have hnI : (n : Int) < 16777216 := by omega
  have h0 : decide (0 < (n : Int) / 16777216) = false := by simp; omega
  have h1 : decide ((n : Int) < 0) = false := by simp
  have HN := Lib.hid hn
  clear hn hnI
  go_enter Tryd.func24, Tryd.ntmps24
  go_wp2_with fail
  refine (within_t 3 1 6 (by decide) (by decide) _).mono ?_
  rintro e w1 ⟨rfl, rfl⟩
  go_wp2_with fail
  refine (be_ok n 3 w (by have := HN.out; omega) (by omega)).mono ?_
  rintro e w1 ⟨rfl, hb, hB1⟩
  have H1 := Lib.hid (And.intro hb hB1)
  clear hb hB1
  go_wp2_with fail
  refine bodyPost_ret (v := .tuple #[.slice (some ⟨w.heap.size, 0, none⟩) 3 3, .int .i64 0]) (by simp [results, go_sem]) rfl ⟨_, rfl, ?_, H1.out.2⟩
  have := Rd.block H1.out.1 0
  simpa using this
theorem NumberOf_ok (n : Nat) (hn : n < 16777216) (A : Option Addr) (c : Nat) (hc : 3 ≤ c) (w : World) (hr : Rd w A ((beN n 3).map bV)) : Calls Tryd.prog 25 #[.slice A 3 c, .int .i64 0].pop w fun e w' => e = .returned (.tuple #[.int .i64 n, .int .i64 0]) ∧ w = w' := by
  have hnum := num_ok A c (beN n 3) (by rw [beN_len]; omega) w hr
  rw [beN_len, numL_beN, Nat.mod_eq_of_lt (by simpa using hn)] at hnum
  have H := Lib.hid hnum
  clear hnum hr hn
  show Calls Tryd.prog 25 #[.slice A 3 c] w _
  go_enter Tryd.func25, Tryd.ntmps25
  go_wp2_with fail
  refine (within_t 3 1 6 (by decide) (by decide) _).mono ?_
  rintro e w1 ⟨rfl, rfl⟩
  go_wp2_with fail
  refine H.out.mono ?_
  rintro e w1 ⟨rfl, rfl⟩
  go_wp2_with fail
  go_ret2
  exact ⟨rfl, rfl⟩

theorem sIn_t (a lo hi : Int) (h0 : lo ≤ a) (h1 : a ≤ hi) (w : World) : Calls Tryd.prog 77 #[.int .i64 a, .int .i64 lo, .int .i64 hi] w fun e w' => e = .returned (.bool true) ∧ w = w' := by
  go_enter Tryd.func77, Tryd.ntmps77
  go_wp2
  go_ret
  simp
theorem sIp_t (n : Nat) (hn : n < 4294967296) (w : World) : Calls Tryd.prog 55 #[.int .i64 n] w fun e w' => e = .returned (.bool true) ∧ w = w' := by
  go_enter Tryd.func55, Tryd.ntmps55
  go_wp2_with fail
  refine (sIn_t n 0 4294967295 (by omega) (by omega) _).mono ?_
  rintro e w1 ⟨rfl, rfl⟩
  go_wp2_with fail
  go_ret
  exact ⟨rfl, rfl⟩
theorem join4 (d0 d1 d2 d3 : ByteArray) : joinS 46 [d0, d1, d2, d3] = d0 ++ ⟨#[46]⟩ ++ d1 ++ ⟨#[46]⟩ ++ d2 ++ ⟨#[46]⟩ ++ d3 := by
  apply ByteArray.ext
  apply Array.toList_inj.1
  unfold joinS
  rw [bstr_data]
  simp [joinC, ByteArray.data_append]
theorem l01Address_ok (n : Nat) (hn : n < 4294967296) (w : World) : Calls Tryd.prog 56 #[.int .i64 n] w fun e w' => e = .returned (.string (adText n)) ∧ LeB w w' := by
  have hnI : (n : Int) < 4294967296 := by omega
  obtain ⟨t, ht⟩ : ∃ t, adText n = t := ⟨_, rfl⟩
  rw [ht]
  have a0 : (n : Int) / 16777216 = ((n / 16777216 % 256 : Nat) : Int) := by omega
  have a1 : bits .and .i64 ((n : Int) / 65536) 255 = ((n / 65536 % 256 : Nat) : Int) := oct n 65536
  have a2 : bits .and .i64 ((n : Int) / 256) 255 = ((n / 256 % 256 : Nat) : Int) := oct n 256
  have a3 : bits .and .i64 (n : Int) 255 = ((n % 256 : Nat) : Int) := by rw [and_255]; push_cast; rfl
  have z0 := dec_len 2 (n / 16777216 % 256) (by omega)
  have z1 := dec_len 2 (n / 65536 % 256) (by omega)
  have z2 := dec_len 2 (n / 256 % 256) (by omega)
  have z3 := dec_len 2 (n % 256) (by omega)
  have l0 : n / 16777216 % 256 ≤ 255 := by omega
  have l1 : n / 65536 % 256 ≤ 255 := by omega
  have l2 : n / 256 % 256 ≤ 255 := by omega
  have l3 : n % 256 ≤ 255 := by omega
  have htt2 : digS (n / 16777216 % 256) ++ ⟨#[46]⟩ ++ digS (n / 65536 % 256) ++ ⟨#[46]⟩ ++ digS (n / 256 % 256) ++ ⟨#[46]⟩ ++ digS (n % 256) = t := by
    rw [← ht]
    exact (join4 _ _ _ _).symm
  generalize n / 16777216 % 256 = x0 at *
  generalize n / 65536 % 256 = x1 at *
  generalize n / 256 % 256 = x2 at *
  generalize n % 256 = x3 at *
  have y0 : (digS x0).size ≤ 3 := by rw [digS, bstr_size]; exact z0
  have y1 : (digS x1).size ≤ 3 := by rw [digS, bstr_size]; exact z1
  have y2 : (digS x2).size ≤ 3 := by rw [digS, bstr_size]; exact z2
  have y3 : (digS x3).size ≤ 3 := by rw [digS, bstr_size]; exact z3
  have hc := fun (x : Nat) (h : x ≤ 255) => l00Digits_ok x (by omega)
  have k0 := hc x0 l0
  have k1 := hc x1 l1
  have k2 := hc x2 l2
  have k3 := hc x3 l3
  generalize digS x0 = d0 at *
  generalize digS x1 = d1 at *
  generalize digS x2 = d2 at *
  generalize digS x3 = d3 at *
  have HK := Lib.hid (And.intro k0 (And.intro k1 (And.intro k2 (And.intro k3 htt2))))
  have q0 : (d0.size : Int) ≤ 8388608 := by omega
  have q1 : (d1.size : Int) ≤ 8388608 := by omega
  have q2 : (d2.size : Int) ≤ 8388608 := by omega
  have q3 : (d3.size : Int) ≤ 8388608 := by omega
  clear z0 z1 z2 z3 htt2 hc k0 k1 k2 k3 ht l0 l1 l2 l3 hn
  go_enter Tryd.func56, Tryd.ntmps56
  go_wp2_with fail
  refine (HK.out.1 _).mono ?_
  rintro e w1 ⟨rfl, hB1⟩
  have H1 := Lib.hid hB1
  clear hB1
  go_wp2_with fail
  refine (HK.out.2.1 _).mono ?_
  rintro e w2 ⟨rfl, hB1⟩
  have H2 := Lib.hid (LeB.tr H1.out hB1)
  clear hB1
  go_wp2_with fail
  refine (HK.out.2.2.1 _).mono ?_
  rintro e w3 ⟨rfl, hB1⟩
  have H3 := Lib.hid (LeB.tr H2.out hB1)
  clear hB1
  go_wp2_with fail
  refine (HK.out.2.2.2.1 _).mono ?_
  rintro e w4 ⟨rfl, hB1⟩
  have H4 := Lib.hid (LeB.tr H3.out hB1)
  clear hB1
  go_wp2_with fail
  go_ret
  exact ⟨by rw [← HK.out.2.2.2.2]; rfl, H4.out⟩
theorem sAddressText_ok (n : Nat) (hn : n < 4294967296) (w : World) : Calls Tryd.prog 18 #[.int .i64 n] w fun e w' => e = .returned (.tuple #[.string (adText n), .int .i64 0]) ∧ LeB w w' := by
  have H := Lib.hid (And.intro (l01Address_ok n hn w) hn)
  obtain ⟨t, ht⟩ : ∃ t, adText n = t := ⟨_, rfl⟩
  rw [ht] at H ⊢
  clear ht hn
  go_enter Tryd.func18, Tryd.ntmps18
  go_wp2_with fail
  refine (sIp_t n H.out.2 _).mono ?_
  rintro e w1 ⟨rfl, rfl⟩
  go_wp2_with fail
  refine H.out.1.mono ?_
  rintro e w1 ⟨rfl, hB1⟩
  have H1 := Lib.hid hB1
  clear hB1
  go_wp2_with fail
  go_ret2
  exact ⟨rfl, H1.out⟩
end Go.Proofs.YtmjddgdcokbmeaaDoor
