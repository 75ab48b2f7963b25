/- Names: a number's and an address's text read (impl's), as called; spec's text of an address. -/
import Derived.Test.YtmjddgdcokbmeaaDoorNa
namespace Go.Proofs.YtmjddgdcokbmeaaDoor
open Go.RowKit
set_option linter.unusedVariables false
set_option linter.unusedSimpArgs false
set_option maxRecDepth 200000
set_option maxHeartbeats 4000000

theorem within_t (a lo hi : Int) (h0 : lo ≤ a) (h1 : a ≤ hi) (w : World) : Calls Tryd.prog 42 #[.int .i64 a, .int .i64 lo, .int .i64 hi] w fun e w' => e = .returned (.bool true) ∧ w = w' := by
  go_enter Tryd.func42, Tryd.ntmps42
  go_wp2
  go_ret
  simp
theorem number_ok (n : Nat) (hn : n ≤ 1000000) (w : World) (hw : StdW w) : Calls Tryd.prog 113 #[.string (digS n)] w fun e w' => e = .returned (.tuple #[.int .i64 n, .bool true]) ∧ LeB w w' := by
  have hsz : (digS n).size ≤ 18 := by rw [digS, bstr_size]; exact dec_len 17 n (by omega)
  obtain ⟨s, hs⟩ : ∃ s, digS n = s := ⟨_, rfl⟩
  have h1 := atoi_ok n (by omega)
  have h2 := trim_ok n
  have h3 := hw.dig n hn
  rw [hs] at h1 h2 h3 hsz ⊢
  have hszI : (s.size : Int) ≤ 18 := by omega
  have H := Lib.hid (And.intro h1 (And.intro h2 h3))
  clear h1 h2 h3 hw hs
  go_enter Tryd.func113, Tryd.ntmps113
  go_wp2_with fail
  refine (H.out.1 _).mono ?_
  rintro e w1 ⟨rfl, hB1⟩
  have H1 := Lib.hid hB1
  clear hB1
  go_wp2_with fail
  refine (H.out.2.1 _).mono ?_
  rintro e w1' ⟨rfl, rfl⟩
  go_wp2_with fail
  refine (H.out.2.2 _ H1.out).mono ?_
  rintro e w2 ⟨rfl, hB2⟩
  have H2 := Lib.hid (LeB.tr H1.out hB2)
  clear hB2
  go_wp2_with fail
  refine bodyPost_ret (v := .tuple #[.int .i64 n, .bool true]) (by simp [results, go_sem]) rfl ⟨rfl, H2.out⟩
theorem numberIn_ok (n : Nat) (lo hi : Int) (hn : n ≤ 1000000) (h0 : lo ≤ n) (h1 : (n : Int) ≤ hi) (w : World) (hw : StdW w) : Calls Tryd.prog 93 #[.string (digS n), .int .i64 lo, .int .i64 hi] w fun e w' => e = .returned (.tuple #[.int .i64 n, .bool true]) ∧ LeB w w' := by
  have H := Lib.hid (And.intro (number_ok n hn w hw) (And.intro h0 h1))
  clear hw h0 h1
  go_enter Tryd.func93, Tryd.ntmps93
  go_wp2_with fail
  refine H.out.1.mono ?_
  rintro e w1 ⟨rfl, hB1⟩
  have H1 := Lib.hid hB1
  clear hB1
  go_wp2_with fail
  refine (within_t n lo hi H.out.2.1 H.out.2.2 _).mono ?_
  rintro e w1' ⟨rfl, rfl⟩
  go_wp2_with fail
  refine bodyPost_ret (v := .tuple #[.int .i64 n, .bool true]) (by simp [results, go_sem]) rfl ⟨rfl, H1.out⟩

def octs (n : Nat) : List Nat := [n / 16777216 % 256, n / 65536 % 256, n / 256 % 256, n % 256]
theorem adParts_map (n : Nat) : adParts n = (octs n).map digS := rfl
theorem octs_lt (n : Nat) : ∀ x ∈ octs n, x ≤ 255 := by
  intro x hx
  simp only [octs, List.mem_cons, List.not_mem_nil, or_false] at hx
  omega
theorem nodot (l : List Nat) (c : UInt8) (hc : c.toNat < 48 ∨ 57 < c.toNat) : ∀ s ∈ l.map digS, c ∉ s.data.toList := by
  intro s hs
  obtain ⟨k, _, rfl⟩ := List.mem_map.1 hs
  rw [digS, bstr_data]
  exact dec_nodot k c hc
/-- What numbers are, each less than 256, one behind the other. -/
def octN (l : List Nat) : Nat := l.foldl (fun a x => a * 256 + x) 0
theorem octN_snoc (l : List Nat) (x : Nat) : octN (l ++ [x]) = octN l * 256 + x := by simp [octN]
theorem octN_octs (n : Nat) (hn : n < 4294967296) : octN (octs n) = n := by
  simp only [octN, octs, List.foldl_cons, List.foldl_nil]
  omega
theorem octN_lt (l : List Nat) (h : ∀ x ∈ l, x ≤ 255) (hl : l.length ≤ 4) : octN l < 4294967296 := by
  match l, hl with
  | [], _ => simp [octN]
  | [a], _ => have := h a (by simp); simp [octN]; omega
  | [a, b], _ => have := h a (by simp); have := h b (by simp); simp [octN]; omega
  | [a, b, c], _ => have := h a (by simp); have := h b (by simp); have := h c (by simp); simp [octN]; omega
  | [a, b, c, d], _ => have := h a (by simp); have := h b (by simp); have := h c (by simp); have := h d (by simp); simp [octN]; omega

theorem readAddress_ok (n : Nat) (hn : n < 4294967296) (w : World) (hw : StdW w) : Calls Tryd.prog 57 #[.string (adText n)] w fun e w' => e = .returned (.tuple #[.int .i64 n, .bool true]) ∧ LeB w w' := by
  have hsp := split_ok 46 (adParts n) (by simp [adParts]) (nodot (octs n) 46 (by decide)) (adText n) rfl (by have := adText_size n; unfold adText; omega) w hw
  obtain ⟨t, ht⟩ : ∃ t, adText n = t := ⟨_, rfl⟩
  rw [ht] at hsp ⊢
  have hl : (adParts n).length = 4 := rfl
  rw [hl] at hsp
  have H := Lib.hid (And.intro hsp (And.intro hw hn))
  clear hsp hw hn hl ht
  go_enter Tryd.func57, Tryd.ntmps57
  go_wp2_with fail
  refine H.out.1.mono ?_
  rintro e w1 ⟨b, rfl, hr, hge, hB1⟩
  have H1 := Lib.hid (And.intro hr hB1)
  clear hr hge hB1
  go_wp2_with fail
  go_loopw [5, 17] (fun a i wr => ∃ k : Nat, k ≤ 4 ∧ i = .int .i64 k ∧ a = .int .i64 (octN ((octs n).take k) : Nat) ∧ LeB w1 wr) (fun _ i _ => 4 - (intOf i).toNat)
  case atStart => exact ⟨0, by omega, rfl, rfl, Below.refl _ _⟩
  case round =>
    obtain ⟨k, hk, rfl, rfl, hB⟩ := hrel
    have HR := Lib.hid hB
    clear hB
    have hbd := octN_lt ((octs n).take k) (fun x hx => octs_lt n x (List.mem_of_mem_take hx)) (by rw [List.length_take]; omega)
    by_cases hlt : k < 4
    · have hltI : (k : Int) < 4 := by omega
      have hlo : k < (octs n).length := hlt
      have hc := (H1.out.1.below HR.out (Nat.le_refl _)) k (.string (digS (octs n)[k])) (by rw [adParts_map]; simp [hlo])
      obtain ⟨ad, e1, hc⟩ := hc
      cases e1
      rw [Addr.add_lit, Nat.zero_add] at hc
      have hx := octs_lt n (octs n)[k] (List.getElem_mem hlo)
      have hs := octN_snoc ((octs n).take k) (octs n)[k]
      rw [← List.take_succ_eq_append_getElem hlo] at hs
      have hw2 := H.out.2.1.below (LeB.tr H1.out.2 HR.out)
      have hcall := fun (x : Nat) (hx : x ≤ 255) => numberIn_ok x 0 255 (by omega) (by omega) (by omega) wr hw2
      obtain ⟨x, hxx⟩ : ∃ x, (octs n)[k] = x := ⟨_, rfl⟩
      rw [hxx] at hc hx hs
      obtain ⟨acc, hacc⟩ : ∃ a, octN ((octs n).take k) = a := ⟨_, rfl⟩
      rw [hacc] at hs hbd ⊢
      have hxI : (x : Int) ≤ 255 := by omega
      have hbI : (acc : Int) < 4294967296 := by omega
      have HS := Lib.hid hs
      have HC := Lib.hid (hcall x hx)
      clear hs hcall hw2 hacc hlo hxx
      go_wp2_with fail
      refine HC.out.mono ?_
      rintro e w2 ⟨rfl, hB2⟩
      have H2 := Lib.hid (LeB.tr HR.out hB2)
      clear hB2 hc
      go_wp2_with fail
      go_roundw
      case rel => exact ⟨k + 1, by omega, by go_num, by rw [HS.out]; push_cast; rfl, H2.out⟩
      case measure => simp [intOf]; omega
    · obtain rfl : k = 4 := by omega
      have he : octN ((octs n).take 4) = n := octN_octs n H.out.2.2
      rw [he]
      clear he hbd
      go_wp2_with fail
      refine bodyPost_ret (v := .tuple #[.int .i64 n, .bool true]) (by simp [results, go_sem]) rfl ⟨rfl, LeB.tr H1.out.2 HR.out⟩
theorem readAddress_not (ss : List ByteArray) (hne : ss ≠ []) (hnd : ∀ s ∈ ss, (46 : UInt8) ∉ s.data.toList) (hl : ss.length ≠ 4) (hl2 : ss.length ≤ 1000) (t : ByteArray) (ht : joinS 46 ss = t) (hs : t.size < 4294967281) (w : World) (hw : StdW w) :
    Calls Tryd.prog 57 #[.string t] w fun e w' => e = .returned (.tuple #[.int .i64 0, .bool false]) ∧ LeB w w' := by
  have H := Lib.hid (split_ok 46 ss hne hnd t ht hs w hw)
  have hlI : ((ss.length : Int) == 4) = false := beq_eq_false_iff_ne.2 (by omega)
  have hlJ : ((ss.length : Int) != 4) = true := bne_iff_ne.2 (by omega)
  clear hw ht hnd hne hs
  go_enter Tryd.func57, Tryd.ntmps57
  go_wp2_with fail
  refine H.out.mono ?_
  rintro e w1 ⟨b, rfl, hr, hge, hB1⟩
  have H1 := Lib.hid hB1
  clear hr hge hB1
  go_wp2_with fail
  refine bodyPost_ret (v := .tuple #[.int .i64 0, .bool false]) (by simp [results, go_sem]) rfl ⟨rfl, H1.out⟩
theorem ReadAddress_ok (n : Nat) (hn : n < 4294967296) (w : World) (hw : StdW w) : Calls Tryd.prog 19 #[.string (adText n)] w fun e w' => e = .returned (.tuple #[.int .i64 n, .int .i64 0]) ∧ LeB w w' := by
  have hsz := adText_size n
  have H := Lib.hid (readAddress_ok n hn w hw)
  obtain ⟨t, ht⟩ : ∃ t, adText n = t := ⟨_, rfl⟩
  have hsI : (t.size : Int) ≤ 15 := by rw [← ht]; unfold adText; omega
  rw [ht] at H ⊢
  clear hw hsz ht
  go_enter Tryd.func19, Tryd.ntmps19
  go_wp2_with fail
  refine H.out.mono ?_
  rintro e w1 ⟨rfl, hB1⟩
  have H1 := Lib.hid hB1
  clear hB1
  go_wp2_with fail
  refine bodyPost_ret (v := .tuple #[.int .i64 n, .int .i64 0]) (by simp [results, go_sem]) rfl ⟨rfl, H1.out⟩
theorem ReadAddress_not (ss : List ByteArray) (hne : ss ≠ []) (hnd : ∀ s ∈ ss, (46 : UInt8) ∉ s.data.toList) (hl : ss.length ≠ 4) (hl2 : ss.length ≤ 1000) (t : ByteArray) (ht : joinS 46 ss = t) (hs : t.size ≤ 65536) (w : World) (hw : StdW w) :
    Calls Tryd.prog 19 #[.string t] w fun e w' => e = .returned (.tuple #[.int .i64 0, .int .i64 3]) ∧ LeB w w' := by
  have H := Lib.hid (readAddress_not ss hne hnd hl hl2 t ht (by omega) w hw)
  have hsI : (t.size : Int) ≤ 65536 := by omega
  clear hw ht hnd hne hl
  go_enter Tryd.func19, Tryd.ntmps19
  go_wp2_with fail
  refine H.out.mono ?_
  rintro e w1 ⟨rfl, hB1⟩
  have H1 := Lib.hid hB1
  clear hB1
  go_wp2_with fail
  refine bodyPost_ret (v := .tuple #[.int .i64 0, .int .i64 3]) (by simp [results, go_sem]) rfl ⟨rfl, H1.out⟩
theorem isAddress_t (n : Nat) (hn : n < 4294967296) (w : World) : Calls Tryd.prog 41 #[.int .i64 n] w fun e w' => e = .returned (.bool true) ∧ w = w' := by
  go_enter Tryd.func41, Tryd.ntmps41
  go_wp2_with fail
  refine (within_t n 0 4294967295 (by omega) (by omega) _).mono ?_
  rintro e w1 ⟨rfl, rfl⟩
  go_wp2_with fail
  go_ret
  exact ⟨rfl, rfl⟩
theorem AddressText_ok (n : Nat) (hn : n < 4294967296) (w : World) (hw : StdW w) : Calls Tryd.prog 17 #[.int .i64 n] w fun e w' => e = .returned (.tuple #[.string (adText n), .int .i64 0]) ∧ LeB w w' := by
  have H := Lib.hid (And.intro (addressText_ok n hn w hw) hn)
  obtain ⟨t, ht⟩ : ∃ t, adText n = t := ⟨_, rfl⟩
  rw [ht] at H ⊢
  clear hw ht hn
  go_enter Tryd.func17, Tryd.ntmps17
  go_wp2_with fail
  refine (isAddress_t n H.out.2 _).mono ?_
  rintro e w1 ⟨rfl, rfl⟩
  go_wp2_with fail
  refine H.out.1.mono ?_
  rintro e w1 ⟨rfl, hB1⟩
  have H1 := Lib.hid hB1
  clear hB1
  go_wp2_with fail
  refine bodyPost_ret (v := .tuple #[.string t, .int .i64 0]) (by simp [results, go_sem]) rfl ⟨rfl, H1.out⟩
end Go.Proofs.YtmjddgdcokbmeaaDoor
