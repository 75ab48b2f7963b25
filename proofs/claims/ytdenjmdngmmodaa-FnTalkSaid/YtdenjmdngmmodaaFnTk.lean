/- The law of talks. -/
import Derived.Test.YtdenjmdngmmodaaTk1
namespace Go.Proofs.Ytdenjmdngmmodaa
open Go.RowKit
set_option linter.unusedVariables false
set_option linter.unusedSimpArgs false
set_option maxRecDepth 200000
set_option maxHeartbeats 4000000

def BytesSp (m : Nat) : Spec := fun _ v w => ∃ (A : Option Addr) (c : Nat) (ns : List UInt8), v = .slice A ns.length c ∧ ns.length ≤ m ∧ Rd w A (ns.map bV)
theorem BytesSp.below {m : Nat} {x : Array Value} {v : Value} {w w' : World} (h : BytesSp m x v w) (hL : LeB w w') : BytesSp m x v w' := by
  obtain ⟨A, c, ns, h1, h2, h3⟩ := h
  exact ⟨A, c, ns, h1, h2, h3.below hL (Nat.le_refl _)⟩
def StrSp (m : Nat) : Spec := fun _ v _ => ∃ s : ByteArray, v = .string s ∧ s.size ≤ m
def NatSp (m : Nat) : Spec := fun _ v _ => ∃ r : Nat, v = .int .i64 r ∧ r < m
def talkφ : Nat → Option Spec
  | 1 => some (BytesSp 90)
  | 2 => some (StrSp 90)
  | 4 => some (NatSp 200)
  | 5 => some (BytesSp 200)
  | 6 => some (StrSp 200)
  | _ => none
theorem talkφ_st : ∀ j sp x v w w', talkφ j = some sp → LeB w w' → sp x v w → sp x v w' := by
  intro j sp x v w w' hj hL h
  unfold talkφ at hj
  split at hj <;> first | (cases hj; exact h.below hL) | (cases hj; exact h) | cases hj

theorem FnTalk_ok (A : Option Addr) (c : Nat) (bs : List UInt8) (A2 : Option Addr) (c2 : Nat) (bs2 : List UInt8) (hc : bs.length ≤ c) (hc2 : bs2.length ≤ c2) (w : World) (hr : Rd w A (bs.map bV)) (hr2 : Rd w A2 (bs2.map bV)) :
    Calls Try.prog 5 #[.slice A bs.length c, .slice A2 bs2.length c2] w fun e w' => e = .returned (.bool true) ∧ Below w.heap.size w w' := by
  by_cases h1 : 1048576 < bs.length
  · have g1 : (1048576 : Int) < bs.length := by omega
    go_enter Try.func5, Try.ntmps5
    go_wp2
    go_ret
    exact ⟨rfl, Below.refl _ _⟩
  have g1 : decide ((1048576 : Int) < bs.length) = false := by simp; omega
  by_cases h2 : 1048576 < bs2.length
  · have g2 : (1048576 : Int) < bs2.length := by omega
    go_enter Try.func5, Try.ntmps5
    go_wp2
    go_ret
    exact ⟨rfl, Below.refl _ _⟩
  have g2 : decide ((1048576 : Int) < bs2.length) = false := by simp; omega
  go_enter Try.func5, Try.ntmps5
  go_wp2_with fail
  refine (BytesOf_ok A c bs (by omega) 60 (by omega) w hr).mono ?_
  rintro e w1 ⟨v, ns, rfl, hns, hown, hB1⟩
  obtain ⟨At, ct, rfl, hct, hrt, -⟩ := own_slice hown
  have hcv := bytes_str At _ ct ns rfl w1 hrt
  clear hown
  obtain ⟨text, htx⟩ : ∃ t, bstr ns = t := ⟨_, rfl⟩
  have hts : text.size ≤ 60 := by rw [← htx, bstr_size]; exact hns
  rw [htx] at hcv
  have HC := Lib.hid (And.intro hns (And.intro hts hB1))
  clear htx hrt hns hts hB1
  go_wp2_with fail
  clear hcv
  rename_i K4 h4
  have H4 := Lib.hid h4
  clear h4
  refine wp_region_lex 7 (by kernel_rfl) (by kernel_rfl) (JB w1) LeB talkφ talkφ_st JB.mono ?_ ?_
  · exact (Below.refl _ _).drew
  simp only [List.take_succ_cons, List.take_zero, List.drop_succ_cons, List.drop_zero, pairs, List.zipIdx_cons, List.zipIdx_nil, List.map_cons, List.map_nil, Nat.zero_add, Nat.reduceAdd]
  (repeat (refine lex_pure rfl rfl (fun K hK => ?_); go_simp; refine hK _ ?_; clear hK K; try simp (disch := omega) only [IntWalk.i64_in, IntWalk.u8_in, Int.add_sub_cancel, Int.tmod_eq_emod_of_nonneg, Int.tdiv_eq_ediv_of_nonneg]))
  refine lex_eff' (sp := BytesSp 90) rfl rfl (by intro _ _ _ _ h; exact h) (fun m W hJ hF => ?_) (fun v x hh => ?_) rfl
  · refine gives_call Try.call22 ((BytesOf_ok A2 c2 bs2 (by omega) 90 (by omega) W (hr2.below (LeB.tr HC.out.2.2 hJ) (Nat.le_refl _))).mono ?_)
    rintro e w' ⟨v, ns2, rfl, h2, h3, h4⟩
    obtain ⟨A3, c3, rfl, -, h5, -⟩ := own_slice h3
    exact ⟨_, rfl, hJ.step h4, h4, A3, c3, ns2, rfl, h2, h5⟩
  obtain ⟨_, _, -, ⟨A3, c3, ns2, rfl, hn2, -⟩, -⟩ := hh
  (repeat (refine lex_pure rfl rfl (fun K hK => ?_); go_simp; refine hK _ ?_; clear hK K; try simp (disch := omega) only [IntWalk.i64_in, IntWalk.u8_in, Int.add_sub_cancel, Int.tmod_eq_emod_of_nonneg, Int.tdiv_eq_ediv_of_nonneg]))
  refine lex_eff' (sp := StrSp 90) rfl rfl (by intro _ _ _ _ h; exact h) (fun m W hJ hF => ?_) (fun v x hh => ?_) rfl
  · obtain ⟨A4, c4, ns4, e4, -, h4⟩ := hF 1 (by kernel_rfl) _ _ _ (by simp [upd]; exact ⟨rfl, rfl⟩) rfl
    injection e4 with e41 e42 e43
    subst e41 e43
    refine gives_value (v := .string (bstr ns4)) (w' := W) ?_ ⟨hJ, LeB.of (Below.refl _ _), bstr ns4, rfl, by rw [bstr_size]; omega⟩
    go_simp
    rw [bytes_str A3 ns4.length c3 ns4 rfl W h4]
    rfl
  obtain ⟨_, _, -, ⟨s1, rfl, hs1⟩, -⟩ := hh
  (repeat (refine lex_pure rfl rfl (fun K hK => ?_); go_simp; refine hK _ ?_; clear hK K; try simp (disch := omega) only [IntWalk.i64_in, IntWalk.u8_in, Int.add_sub_cancel, Int.tmod_eq_emod_of_nonneg, Int.tdiv_eq_ediv_of_nonneg]))
  refine lex_eff' (sp := NatSp 200) rfl rfl (by intro _ _ _ _ h; exact h) (fun m W hJ hF => ?_) (fun v x hh => ?_) rfl
  · refine gives_call Try.call17 ((at_ok2 A2 c2 bs2 (by omega) hc2 0 200 (by omega) (by omega) W (hr2.below (LeB.tr HC.out.2.2 hJ) (Nat.le_refl _))).mono ?_)
    rintro e w' ⟨r, rfl, h2, h4⟩
    exact ⟨_, rfl, hJ.step h4, h4, r, rfl, by omega⟩
  obtain ⟨_, _, -, ⟨rr, rfl, hrr⟩, -⟩ := hh
  refine lex_eff' (sp := BytesSp 200) rfl rfl (by intro _ _ _ _ h; exact h) (fun m W hJ hF => ?_) (fun v x hh => ?_) rfl
  · refine gives_value (v := .slice (some ⟨W.heap.size, 0, none⟩) rr rr) (w' := W.alloc (.cells (List.replicate rr (Value.int .u8 0)).toArray 5)) ?_ ⟨hJ.step ((Below.refl _ _).alloc (Nat.le_refl _) _), (Below.refl _ _).alloc (Nat.le_refl _) _, some ⟨W.heap.size, 0, none⟩, rr, List.replicate rr 0, by simp, by simp; omega, ?_⟩
    · go_simp
      rw [make_bytes rr (by omega) W]
      rfl
    · have h := Rd.block (heap_alloc_new W (.cells (List.replicate rr (Value.int .u8 0)).toArray 5)) 0
      simpa [bV] using h
  obtain ⟨_, _, -, ⟨A5, c5, ns5, rfl, hn5, -⟩, -⟩ := hh
  (repeat (refine lex_pure rfl rfl (fun K hK => ?_); go_simp; refine hK _ ?_; clear hK K; try simp (disch := omega) only [IntWalk.i64_in, IntWalk.u8_in, Int.add_sub_cancel, Int.tmod_eq_emod_of_nonneg, Int.tdiv_eq_ediv_of_nonneg]))
  refine lex_eff' (sp := StrSp 200) rfl rfl (by intro _ _ _ _ h; exact h) (fun m W hJ hF => ?_) (fun v x hh => ?_) rfl
  · obtain ⟨A4, c4, ns4, e4, -, h4⟩ := hF 5 (by kernel_rfl) _ _ _ (by simp [upd]; exact ⟨rfl, rfl⟩) rfl
    injection e4 with e41 e42 e43
    subst e41 e43
    refine gives_value (v := .string (bstr ns4)) (w' := W) ?_ ⟨hJ, LeB.of (Below.refl _ _), bstr ns4, rfl, by rw [bstr_size]; omega⟩
    go_simp
    rw [bytes_str A5 ns4.length c5 ns4 rfl W h4]
    rfl
  obtain ⟨_, _, -, ⟨s2, rfl, hs2⟩, -⟩ := hh
  refine lex_nil (fun m W hJ hF => ?_)
  have hsz : s1.size + s2.size ≤ 290 := by omega
  have hszI : (s1.size : Int) + s2.size ≤ 290 := by omega
  have HW := Lib.hid (LeB.tr HC.out.2.2 hJ)
  clear hF hJ
  go_wp2_with fail
  refine H4.out _ _ ?_
  exact talkB A c bs A2 c2 bs2 (by omega) (by omega) hc hc2 w W hr hr2 text (s1 ++ s2) HC.out.2.1 (by rw [ByteArray.size_append]; omega) HW.out
end Go.Proofs.Ytdenjmdngmmodaa
