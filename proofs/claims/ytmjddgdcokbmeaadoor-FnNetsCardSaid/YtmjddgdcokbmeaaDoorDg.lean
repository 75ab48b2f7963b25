/- A number's digits (l00Digits), as a list of bytes. -/
import Derived.Test.YtmjddgdcokbmeaaDoorLexB
import Derived.Lib.ItoaNum
namespace Go.Proofs.YtmjddgdcokbmeaaDoor
open Go.RowKit
set_option linter.unusedVariables false
set_option linter.unusedSimpArgs false
set_option maxRecDepth 20000
set_option maxHeartbeats 1000000

def digS (n : Nat) : ByteArray := bstr (Lib.decDigits n)
theorem dig_lt {n : Nat} (h : n < 10) : digS n = bstr [UInt8.ofNat (48 + n)] := by unfold digS; rw [Lib.decDigits, dif_pos h]
theorem dig_ge {n : Nat} (h : ¬ n < 10) : digS n = digS (n / 10) ++ bstr [UInt8.ofNat (48 + n % 10)] := by
  unfold digS
  rw [bstr_append]
  conv => lhs; rw [Lib.decDigits, dif_neg h]
theorem dig_size_le : ∀ n : Nat, (digS n).size ≤ n + 1 := by
  intro n
  induction n using Nat.strongRecOn with
  | _ n ih =>
    by_cases h : n < 10
    · rw [dig_lt h, bstr_size]; simp
    · rw [dig_ge h, ByteArray.size_append, bstr_size]
      have := ih (n / 10) (by omega)
      simp
      omega
def digφ (r : ByteArray) (y : Nat) : Nat → Option Spec
  | 2 => some fun _ v _ => v = .string r
  | 7 => some fun _ v w => ∃ b : Nat, v = .slice (some ⟨b, 0, none⟩) 1 1 ∧ w.heap[b]? = some (.cells #[.int .u8 (48 + y)] 5 (0, 0))
  | _ => none
theorem digφ_st {r : ByteArray} {y : Nat} : ∀ j sp x v w w', digφ r y j = some sp → LeB w w' → sp x v w → sp x v w' := by
  intro j sp x v w w' hj hL h
  unfold digφ at hj
  split at hj
  · cases hj; exact h
  · cases hj
    obtain ⟨b, h1, h2⟩ := h
    exact ⟨b, h1, (hL.block _ (Array.getElem?_eq_some_iff.1 h2).1).trans h2⟩
  · cases hj
theorem l00Digits_ok (n : Nat) : n ≤ 4294967296 → ∀ w, Calls Tryd.prog 92 #[.int .i64 n] w fun e w' => e = .returned (.string (digS n)) ∧ LeB w w' := by
  induction n using Nat.strongRecOn with
  | _ n ih =>
    intro hn w
    have hnI : (n : Int) ≤ 4294967296 := by omega
    have c1 : ((n : Int) == -9223372036854775808) = false := beq_eq_false_iff_ne.2 (by omega)
    have c2 : decide ((n : Int) < 0) = false := by simp
    by_cases h : n < 10
    · have hI : (n : Int) < 10 := by omega
      have e := dig_lt h
      have HE := Lib.hid e
      clear e ih
      go_enter Tryd.func92, Tryd.ntmps92
      go_wp2_with fail
      rw [run_conv_nums _ 22 9 5 Tryd.underlying22 Tryd.underlying5 Tryd.underlying9 _ 1 _ [48 + (n : Int)] rfl (by have := Rd.block (heap_alloc_new w (.cells #[Value.int .u8 (48 + (n : Int))] 5)) 0; simpa using this)]
      go_wp2
      go_ret
      exact ⟨by rw [HE.out]; rfl, (Below.refl _ _).alloc (Nat.le_refl _) _⟩
    · have hI : decide ((n : Int) < 10) = false := by simp; omega
      have hcall := ih (n / 10) (by omega) (by omega)
      have HC := Lib.hid (And.intro hcall (dig_ge h))
      have e1 : (n : Int).tdiv 10 = ((n / 10 : Nat) : Int) := by rw [Int.tdiv_eq_ediv_of_nonneg (by omega)]; push_cast; rfl
      clear hcall ih
      go_enter Tryd.func92, Tryd.ntmps92
      go_wp2_with fail
      have m1 : (n : Int).tmod 10 = ((n % 10 : Nat) : Int) := by rw [Int.tmod_eq_emod_of_nonneg (by omega)]; push_cast; rfl
      have m2 : n % 10 < 10 := Nat.mod_lt _ (by omega)
      have m3 : n / 10 < n := by omega
      have hz := dig_size_le (n / 10)
      generalize n % 10 = y at *
      generalize n / 10 = q at *
      obtain ⟨r, hr⟩ : ∃ r, digS q = r := ⟨_, rfl⟩
      rw [hr] at hz HC
      have hk : strN [48 + (y : Int)] = bstr [UInt8.ofNat (48 + y)] := by
        unfold strN
        simp only [List.map_cons, List.map_nil]
        rw [show (48 + (y : Int)).toNat = 48 + y from by omega]
      have hks := bstr_size [UInt8.ofNat (48 + y)]
      simp only [List.length_cons, List.length_nil] at hks
      obtain ⟨k, hkk⟩ : ∃ x, bstr [UInt8.ofNat (48 + y)] = x := ⟨_, rfl⟩
      rw [hkk] at hk hks HC
      have HZ := Lib.hid (And.intro hr (And.intro hz (And.intro hk hks)))
      clear hr hz hkk hk hks
      refine wp_region_lex 10 (by kernel_rfl) (by kernel_rfl) (JB w) LeB (digφ r y) digφ_st JB.mono ?_ ?_
      · exact (Below.refl _ _).drew
      simp only [List.take_succ_cons, List.take_zero, List.drop_succ_cons, List.drop_zero, pairs, List.zipIdx_cons, List.zipIdx_nil, List.map_cons, List.map_nil, Nat.zero_add, Nat.reduceAdd]
      (repeat (refine lex_pure rfl rfl (fun K hK => ?_); go_simp; refine hK _ ?_; clear hK K; try simp (disch := omega) only [IntWalk.i64_in, IntWalk.u8_in, Int.add_sub_cancel, Int.tmod_eq_emod_of_nonneg, Int.tdiv_eq_ediv_of_nonneg]))
      refine lex_eff' (sp := fun _ v _ => v = .string r) rfl rfl (by intro _ _ _ _ h; exact h) (fun m W hJ hF => ?_) (fun v x hh => ?_) rfl
      · refine gives_call Tryd.call92 ((HC.out.1 W).mono ?_)
        rintro e w' ⟨rfl, h4⟩
        exact ⟨_, rfl, hJ.step h4, h4, rfl⟩
      obtain ⟨_, _, -, rfl, -⟩ := hh
      (repeat (refine lex_pure rfl rfl (fun K hK => ?_); go_simp; refine hK _ ?_; clear hK K; try simp (disch := omega) only [IntWalk.i64_in, IntWalk.u8_in, Int.add_sub_cancel, Int.tmod_eq_emod_of_nonneg, Int.tdiv_eq_ediv_of_nonneg]))
      refine lex_eff' (sp := fun _ v w => ∃ b : Nat, v = .slice (some ⟨b, 0, none⟩) 1 1 ∧ w.heap[b]? = some (.cells #[.int .u8 (48 + y)] 5 (0, 0))) rfl rfl (by intro _ _ _ _ h; exact h) (fun m W hJ hF => ?_) (fun v x hh => ?_) rfl
      · have hb : LeB W (W.alloc (.cells #[.int .u8 (48 + y)] 5)) := (Below.refl _ _).alloc (Nat.le_refl _) _
        exact gives_value (by go_simp) ⟨hJ.step hb, hb, _, rfl, heap_alloc_new _ _⟩
      obtain ⟨_, _, -, ⟨b, rfl, -⟩, -⟩ := hh
      refine lex_load rfl rfl (.string (strN [48 + (y : Int)])) (fun m W hJ hF => by
        obtain ⟨b', e1, h2⟩ := hF 7 (by kernel_rfl) _ _ _ rfl rfl
        cases e1
        have hc := run_conv_nums W 22 9 5 Tryd.underlying22 Tryd.underlying5 Tryd.underlying9 (some ⟨b, 0, none⟩) 1 1 [48 + (y : Int)] rfl (by have := Rd.block h2 0; simpa using this)
        go_simp) ?_
      rw [HZ.out.2.2.1]
      have hzk := HZ.out.2.1
      have hks := HZ.out.2.2.2
      refine lex_sadd rfl rfl rfl rfl rfl (by omega) ?_
      clear hks hzk
      (repeat (refine lex_pure rfl rfl (fun K hK => ?_); go_simp; refine hK _ ?_; clear hK K; try simp (disch := omega) only [IntWalk.i64_in, IntWalk.u8_in, Int.add_sub_cancel, Int.tmod_eq_emod_of_nonneg, Int.tdiv_eq_ediv_of_nonneg]))
      refine lex_nil (fun m W hJ hF => ?_)
      have H2 := Lib.hid hJ
      clear hF hJ
      go_wp2_with fail
      go_ret
      exact ⟨by rw [HC.out.2]; rfl, H2.out⟩
/-- What a number's text is, behind whatever has been laid since. -/
def DigAt (f : FuncId) (w : World) : Prop := ∀ (n : Nat), n ≤ 1000000 → ∀ W, LeB w W → Calls Tryd.prog f #[.int .i64 n] W fun e w' => e = .returned (.string (digS n)) ∧ LeB W w'
theorem dig_size (n : Nat) (h : n ≤ 1000000) : (digS n).size ≤ 1000001 := by have := dig_size_le n; omega

theorem DigAt.below {f : FuncId} {w w' : World} (h : DigAt f w) (hb : LeB w w') : DigAt f w' := fun n hn W hW => h n hn W (LeB.tr hb hW)
end Go.Proofs.YtmjddgdcokbmeaaDoor
