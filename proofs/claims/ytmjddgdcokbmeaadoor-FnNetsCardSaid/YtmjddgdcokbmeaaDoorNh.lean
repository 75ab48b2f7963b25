/- Names: the text of a mac (spec's). -/
import Derived.Test.YtmjddgdcokbmeaaDoorNg
namespace Go.Proofs.YtmjddgdcokbmeaaDoor
open Go.RowKit
set_option linter.unusedVariables false
set_option linter.unusedSimpArgs false
set_option maxRecDepth 200000
set_option maxHeartbeats 4000000

theorem and_15 (x : Nat) : bits .and .u8 (x : Int) 15 = ((x % 16 : Nat) : Int) := by
  show IntKind.u8.wrap ((BitVec.ofInt 8 x &&& BitVec.ofInt 8 ((15 : Nat) : Int)).toNat : Int) = _
  rw [BitVec.toNat_and, BitVec.toNat_ofInt, BitVec.toNat_ofInt, show ((((15 : Nat) : Int) % ((2 ^ 8 : Nat) : Int)).toNat) = 2 ^ 4 - 1 from rfl, Nat.and_two_pow_sub_one_eq_mod, IntKind.wrap_u8]
  omega
/-- The text of the first macs bytes. -/
def mcL (l : List UInt8) : List UInt8 := joinC 58 (l.map hex1)
theorem mcL_one (l : List UInt8) (b : UInt8) (hl : l ≠ []) : mcL l ++ 58 :: hex1 b = mcL (l ++ [b]) := by
  unfold mcL
  rw [List.map_append, List.map_singleton]
  exact joinC_more 58 (l.map hex1) (hex1 b) (by simpa using hl)
theorem mcL_len (l : List UInt8) : (mcL l).length ≤ 3 * l.length := by
  unfold mcL
  induction l with
  | nil => simp [joinC]
  | cons a r ih =>
    cases r with
    | nil => simp [joinC, hex1]
    | cons b r =>
      simp only [List.map_cons, joinC, List.length_append, List.length_cons] at ih ⊢
      simp only [hex1, List.length_cons, List.length_nil]
      simp only [hex1] at ih
      omega
theorem l01MacText_ok (l : List UInt8) (hl : l.length = 6) (w : World) : Calls Tryd.prog 61 #[.string (bstr l)] w fun e w' => e = .returned (.string (mcText l)) ∧ LeB w w' := by
  obtain ⟨mac, hmac⟩ : ∃ m, bstr l = m := ⟨_, rfl⟩
  have hms : mac.size = 6 := by rw [← hmac, bstr_size]; exact hl
  have hget : ∀ (k : Nat) (h : k < mac.size) (h2 : k < l.length), mac[k]'h = l[k]'h2 := fun k h h2 => by
    have e1 : mac.data.toList = l := by rw [← hmac]; exact bstr_data _
    have e2 : mac.data.toList[k]? = some (mac[k]'h) := by
      rw [List.getElem?_eq_getElem (by simpa using h)]
      rfl
    rw [e1, List.getElem?_eq_getElem h2] at e2
    exact (Option.some.inj e2).symm
  have hfin : mcText l = bstr (mcL l) := by
    apply ByteArray.ext
    apply Array.toList_inj.1
    rw [mc_data, bstr_data]
    rfl
  rw [hmac, hfin]
  have hmI : (mac.size : Int) = 6 := by omega
  have HE := Lib.hid (And.intro hget (And.intro hl hms))
  clear hget hl hmac hms hfin
  go_enter Tryd.func61, Tryd.ntmps61
  go_wp2
  generalize hW : w.alloc _ = W
  have hown : OwnY w.heap.size (.slice (some ⟨w.heap.size, 0, none⟩) 0 0) [] W := by rw [← hW]; exact OwnY.start w
  have hB : LeB w W := by rw [← hW]; exact (Below.refl _ _).alloc (Nat.le_refl _) _
  clear hW
  go_loopw [3, 4] (fun v i wr => ∃ k : Nat, k ≤ 6 ∧ i = .int .i64 k ∧ OwnY w.heap.size v (mcL (l.take k)) wr ∧ LeB w wr) (fun _ i _ => 6 - (intOf i).toNat)
  case atStart => exact ⟨0, by omega, rfl, by simpa [mcL, joinC] using hown, hB⟩
  case round =>
    obtain ⟨k, hk, rfl, hown, hB⟩ := hrel
    have HO := Lib.hid (And.intro hown hB)
    clear hown hB
    by_cases hlt : k < 6
    · have hltI : (k : Int) < 6 := by omega
      have hkl : k < l.length := by have := HE.out.2.1; omega
      have hks : k < mac.size := by have := HE.out.2.2; omega
      have hx := HE.out.1 k hks hkl
      have htk := List.take_succ_eq_append_getElem hkl
      have hb := (l[k]).toNat_lt
      obtain ⟨b, hbb⟩ : ∃ b, l[k] = b := ⟨_, rfl⟩
      rw [hbb] at hx htk hb
      have hbI : (b.toNat : Int) ≤ 255 := by omega
      have h1 : ((b.toNat : Int) / 16) = ((b.toNat / 16 : Nat) : Int) := by push_cast; rfl
      have h2 := and_15 b.toNat
      have l1 : b.toNat / 16 < 16 := by omega
      have l2 : b.toNat % 16 < 16 := by omega
      have x1 := hexB_at ⟨b.toNat / 16, l1⟩
      have x2 := hexB_at ⟨b.toNat % 16, l2⟩
      have hxx : hex1 b = [hexL[b.toNat / 16]!, hexL[b.toNat % 16]!] := rfl
      simp only at x1 x2
      generalize b.toNat / 16 = y1 at h1 l1 x1 hxx
      generalize b.toNat % 16 = y2 at h2 l2 x2 hxx
      rw [← x1, ← x2] at hxx
      have HX := Lib.hid hxx
      have HT := Lib.hid htk
      have l1I : (y1 : Int) < 16 := by omega
      have l2I : (y2 : Int) < 16 := by omega
      unfold hexB at HX x1 x2
      clear hxx x1 x2 htk hbb hkl
      have hlen := mcL_len (l.take k)
      rw [List.length_take] at hlen
      have HLN := Lib.hid hlen
      clear hlen
      by_cases h0 : k = 0
      · have hn0 : ¬ (0 : Int) < k := by omega
        have hd0 : decide ((0 : Int) < k) = false := decide_eq_false hn0
        have hd1 : decide (0 < k) = false := by simp; omega
        have htk0 : mcL (l.take (k + 1)) = mcL (l.take k) ++ hex1 b := by
          rw [HT.out, h0]
          simp [mcL, joinC]
        have H0 := Lib.hid htk0
        clear h0 hn0 htk0
        go_wp2_with fail
        refine wp_region_lex 12 (by kernel_rfl) (by kernel_rfl) (JB wr) LeB (twoφ 11 (hex1 b)) twoφ_st JB.mono ?_ ?_
        · exact (Below.refl _ _).drew
        simp only [List.take_succ_cons, List.take_zero, List.drop_succ_cons, List.drop_zero, pairs, List.zipIdx_cons, List.zipIdx_nil, List.map_cons, List.map_nil, Nat.zero_add, Nat.reduceAdd]
        (repeat (refine lex_pure rfl rfl (fun K hK => ?_); go_simp; refine hK _ ?_; clear hK K; try simp (disch := omega) only [IntWalk.i64_in, IntWalk.u8_in, Int.add_sub_cancel, Int.tmod_eq_emod_of_nonneg, Int.tdiv_eq_ediv_of_nonneg]))
        generalize (⟨#[48, 49, 50, 51, 52, 53, 54, 55, 56, 57, 97, 98, 99, 100, 101, 102]⟩ : ByteArray)[y1]'(l1) = d1 at HX ⊢
        generalize (⟨#[48, 49, 50, 51, 52, 53, 54, 55, 56, 57, 97, 98, 99, 100, 101, 102]⟩ : ByteArray)[y2]'(l2) = d2 at HX ⊢
        refine lex_eff' (sp := TwoR (hex1 b)) rfl rfl (by intro _ _ _ _ h; exact h) (fun m W hJ hF => ?_) (fun v x hh => ?_) rfl
        · have hb : LeB W (W.alloc (.cells #[.int .u8 (d1.toNat : Int), .int .u8 (d2.toNat : Int)] 5)) := (Below.refl _ _).alloc (Nat.le_refl _) _
          exact gives_value (by go_simp; rfl) ⟨hJ.step hb, hb, _, rfl, by rw [HX.out]; simpa [bV] using Rd.block (heap_alloc_new W (.cells #[.int .u8 (d1.toNat : Int), .int .u8 (d2.toNat : Int)] 5)) 0⟩
        obtain ⟨_, _, -, ⟨gb, rfl, -⟩, -⟩ := hh
        refine lex_nil (fun m W hJ hF => ?_)
        obtain ⟨gb', e1, hrd⟩ := hF 11 rfl _ _ _ rfl rfl
        cases e1
        have HL := Lib.hid (And.intro (LeB.tr HO.out.2 hJ) (And.intro (own_belowY HO.out.1 hJ) hrd))
        clear hF hJ hrd
        go_wp2_with (at_builtin; (obtain ⟨v', w2, hr, ho, hb⟩ := push_y HL.out.1 HL.out.2.1 (by have := HLN.out; omega) _ 2 (hex1 b) HL.out.2.2 (by simp [hex1]); refine wpList_append_run rfl _ _ _ _ rfl rfl rfl hr ?_); clear hr)
        go_roundw
        case rel => exact ⟨k + 1, by omega, by go_num, by rw [H0.out]; exact ho, hb⟩
        case measure => simp [intOf]; omega
      · have hn0 : (0 : Int) < k := by omega
        have hn1 : 0 < k := by omega
        have htk0 : mcL (l.take (k + 1)) = (mcL (l.take k) ++ [58]) ++ hex1 b := by
          rw [HT.out, ← mcL_one _ _ (by intro e; have h3 := congrArg List.length e; rw [List.length_take, List.length_nil] at h3; have := HE.out.2.1; omega)]
          simp
        have H0 := Lib.hid htk0
        clear h0 htk0
        have hlb : LeB wr (wr.alloc (.cells #[.int .u8 58] 5)) := (Below.refl _ _).alloc (Nat.le_refl _) _
        have hpush := push_y (LeB.tr HO.out.2 hlb) (own_belowY HO.out.1 hlb) (by have := HLN.out; omega) (some ⟨wr.heap.size, 0, none⟩) 1 [58] (by simpa [bV] using Rd.block (heap_alloc_new wr (.cells #[.int .u8 58] 5)) 0) (by simp)
        have HP := Lib.hid hpush
        clear hlb hpush
        go_wp2_with (at_builtin; (obtain ⟨v1, wr1, hr, ho, hb⟩ := HP.out; refine wpList_append_run rfl _ _ _ _ rfl rfl rfl hr ?_); clear hr)
        have HQ := Lib.hid (And.intro ho hb)
        clear ho hb
        go_wp2_with fail
        refine wp_region_lex 12 (by kernel_rfl) (by kernel_rfl) (JB wr1) LeB (twoφ 11 (hex1 b)) twoφ_st JB.mono ?_ ?_
        · exact (Below.refl _ _).drew
        simp only [List.take_succ_cons, List.take_zero, List.drop_succ_cons, List.drop_zero, pairs, List.zipIdx_cons, List.zipIdx_nil, List.map_cons, List.map_nil, Nat.zero_add, Nat.reduceAdd]
        (repeat (refine lex_pure rfl rfl (fun K hK => ?_); go_simp; refine hK _ ?_; clear hK K; try simp (disch := omega) only [IntWalk.i64_in, IntWalk.u8_in, Int.add_sub_cancel, Int.tmod_eq_emod_of_nonneg, Int.tdiv_eq_ediv_of_nonneg]))
        generalize (⟨#[48, 49, 50, 51, 52, 53, 54, 55, 56, 57, 97, 98, 99, 100, 101, 102]⟩ : ByteArray)[y1]'(l1) = d1 at HX ⊢
        generalize (⟨#[48, 49, 50, 51, 52, 53, 54, 55, 56, 57, 97, 98, 99, 100, 101, 102]⟩ : ByteArray)[y2]'(l2) = d2 at HX ⊢
        refine lex_eff' (sp := TwoR (hex1 b)) rfl rfl (by intro _ _ _ _ h; exact h) (fun m W hJ hF => ?_) (fun v x hh => ?_) rfl
        · have hb : LeB W (W.alloc (.cells #[.int .u8 (d1.toNat : Int), .int .u8 (d2.toNat : Int)] 5)) := (Below.refl _ _).alloc (Nat.le_refl _) _
          exact gives_value (by go_simp; rfl) ⟨hJ.step hb, hb, _, rfl, by rw [HX.out]; simpa [bV] using Rd.block (heap_alloc_new W (.cells #[.int .u8 (d1.toNat : Int), .int .u8 (d2.toNat : Int)] 5)) 0⟩
        obtain ⟨_, _, -, ⟨gb, rfl, -⟩, -⟩ := hh
        refine lex_nil (fun m W hJ hF => ?_)
        obtain ⟨gb', e1, hrd⟩ := hF 11 rfl _ _ _ rfl rfl
        cases e1
        have HL := Lib.hid (And.intro (LeB.tr HQ.out.2 hJ) (And.intro (own_belowY HQ.out.1 hJ) hrd))
        clear hF hJ hrd
        go_wp2_with (at_builtin; (obtain ⟨v', w2, hr, ho, hb⟩ := push_y HL.out.1 HL.out.2.1 (by have := HLN.out; simp; omega) _ 2 (hex1 b) HL.out.2.2 (by simp [hex1]); refine wpList_append_run rfl _ _ _ _ rfl rfl rfl hr ?_); clear hr)
        go_roundw
        case rel => exact ⟨k + 1, by omega, by go_num, by rw [H0.out]; exact ho, hb⟩
        case measure => simp [intOf]; omega
    · obtain rfl : k = 6 := by omega
      have hown := HO.out.1
      rw [List.take_of_length_le (by have := HE.out.2.1; omega)] at hown
      obtain ⟨A, c, rfl, hc, hrd, -⟩ := own_slice hown
      have hcv := bytes_str A _ c (mcL l) rfl wr hrd
      have HR := Lib.hid HO.out.2
      clear hown hc hrd HO hk
      go_wp2_with fail
      go_ret
      exact ⟨rfl, HR.out⟩
theorem sMac_t (m : ByteArray) (hm : m.size = 6) (w : World) : Calls Tryd.prog 60 #[.string m] w fun e w' => e = .returned (.bool true) ∧ w = w' := by
  have h : (m.size : Int) = 6 := by omega
  clear hm
  go_enter Tryd.func60, Tryd.ntmps60
  go_wp2
  go_ret
  exact ⟨rfl, rfl⟩
theorem sMacText_ok (l : List UInt8) (hl : l.length = 6) (w : World) : Calls Tryd.prog 22 #[.string (bstr l)] w fun e w' => e = .returned (.tuple #[.string (mcText l), .int .i64 0]) ∧ LeB w w' := by
  have hs : (bstr l).size = 6 := by rw [bstr_size]; exact hl
  have H := Lib.hid (And.intro (l01MacText_ok l hl) (sMac_t (bstr l) hs))
  obtain ⟨m, hm⟩ : ∃ m, bstr l = m := ⟨_, rfl⟩
  rw [hm] at hs H ⊢
  have hsI : (m.size : Int) ≤ 6 := by omega
  clear hs hm hl
  go_enter Tryd.func22, Tryd.ntmps22
  go_wp2_with fail
  refine (H.out.2 _).mono ?_
  rintro e w1 ⟨rfl, rfl⟩
  go_wp2_with fail
  refine (H.out.1 _).mono ?_
  rintro e w1 ⟨rfl, hB1⟩
  have H1 := Lib.hid hB1
  clear hB1
  go_wp2_with fail
  go_ret2
  exact ⟨rfl, H1.out⟩
end Go.Proofs.YtmjddgdcokbmeaaDoor
