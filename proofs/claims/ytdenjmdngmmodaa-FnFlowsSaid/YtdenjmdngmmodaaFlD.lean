/- Flows drawn: one flow. -/
import Derived.Test.YtdenjmdngmmodaaFlP
import Derived.Test.YtdenjmdngmmodaaDrawB
import Derived.Deep.Cut
namespace Go.Proofs.Ytdenjmdngmmodaa
open Go.RowKit
set_option linter.unusedVariables false
set_option linter.unusedSimpArgs false
set_option maxRecDepth 200000
set_option maxHeartbeats 1000000

theorem port_ok (g : Nat) (N : Int) (w : World) (hs : Src w g N) (hN : N ≤ 100000000) :
    Calls Try.prog 132 #[.pointer (some ⟨g, 0, none⟩)] w (SrcRet w g (N + 3) fun v => ∃ n : Nat, v = .int .i64 n ∧ n < 65536) := by
  have hlt := hs.lt
  go_enter Try.func132, Try.ntmps132
  go_wp2_with fail
  refine (next_ok g N 6 _ (src_alloc hs _) hN (by omega)).mono ?_
  rintro e w1 ⟨v, rfl, ⟨x, rfl, hx0, hx1⟩, hs1, hg1⟩
  obtain ⟨k, rfl⟩ := Int.eq_ofNat_of_zero_le hx0
  have hk : k < 6 := by omega
  have hc := row_cell hg1 hlt k hk
  have hk1 : (k : Int) < 6 := by omega
  obtain ⟨n, hn, hn6⟩ : ∃ n : Nat, (#[.int .i64 80, .int .i64 443, .int .i64 53, .int .i64 22, .int .i64 0, .int .i64 65535] : Array Value)[k]'hk = .int .i64 n ∧ n < 65536 := by
    have : k = 0 ∨ k = 1 ∨ k = 2 ∨ k = 3 ∨ k = 4 ∨ k = 5 := by omega
    rcases this with rfl | rfl | rfl | rfl | rfl | rfl
    · exact ⟨80, rfl, by omega⟩
    · exact ⟨443, rfl, by omega⟩
    · exact ⟨53, rfl, by omega⟩
    · exact ⟨22, rfl, by omega⟩
    · exact ⟨0, rfl, by omega⟩
    · exact ⟨65535, rfl, by omega⟩
  rw [hn] at hc
  have HN := Lib.hid hn6
  clear hx1 hn hn6
  go_wp2
  go_ret
  exact ⟨_, rfl, ⟨n, rfl, HN.out⟩, hs1, World.grownBy.trans (World.grownBy_alloc _ _ _) hg1⟩
def flφ (g : Nat) : Nat → Option Spec
  | 0 => some (RowG g 3 [.int .i64 6, .int .i64 17, .int .i64 1])
  | 2 => some fun _ v _ => ∃ k : Nat, v = .int .i64 k ∧ k < 3
  | 6 => some fun _ v _ => ∃ s : ByteArray, v = .string s ∧ s.size = 6
  | 8 => some fun _ v _ => ∃ n : Nat, v = .int .i64 n ∧ 167772162 ≤ n ∧ n ≤ 167772164
  | 10 => some fun _ v _ => ∃ k : Nat, v = .int .i64 k ∧ k < 2
  | 13 => some fun _ v _ => ∃ n : Nat, v = .int .i64 n ∧ n < 4294967296 ∧ (n < 167772162 ∨ 167772164 < n)
  | 15 => some fun _ v _ => ∃ n : Nat, v = .int .i64 n ∧ n < 65536
  | 17 => some fun _ v _ => ∃ k : Nat, v = .int .i64 k ∧ k < 3
  | _ => none
theorem flφ_st {g : Nat} : ∀ j sp x v w w', flφ g j = some sp → LeGs g w w' → sp x v w → sp x v w' := by
  intro j sp x v w w' hj hL h
  unfold flφ at hj
  split at hj <;> first | (cases hj; exact RowG.st hL h) | (cases hj; exact h) | cases hj
/-- A drawn flow. -/
def FlV (v : Value) : Prop := ∃ f : Fl, v = .agg f.cells ∧ FlOK f ∧ f.sip ≠ f.dip
theorem flow_ok (g : Nat) (N : Int) (w : World) (hs : Src w g N) (hN : N ≤ 10000000) :
    Calls Try.prog 94 #[.pointer (some ⟨g, 0, none⟩)] w (SrcRet w g (N + 1200) FlV) := by
  have hgl := hs.lt
  have HK := Lib.hid (And.intro hs hgl)
  clear hs hgl
  go_enter Try.func94, Try.ntmps94
  go_wp2_with fail
  generalize hw0 : World.alloc w (.cells #[.int .i64 0, .string ⟨#[]⟩, .int .i64 0, .int .i64 0, .int .i64 0, .int .i64 0, .int .i64 0, .int .i64 0, .int .i64 0] 73) = wa
  have hblk : wa.heap[World.heap w |>.size]? = some (.cells #[.int .i64 0, .string ⟨#[]⟩, .int .i64 0, .int .i64 0, .int .i64 0, .int .i64 0, .int .i64 0, .int .i64 0, .int .i64 0] 73 (0, 0)) := by rw [← hw0]; exact heap_alloc_new _ _
  have hlt : (World.heap w).size < wa.heap.size := (Array.getElem?_eq_some_iff.1 hblk).1
  have hB0 : Below (World.heap w).size w wa := by rw [← hw0]; exact (Below.refl _ _).alloc (Nat.le_refl _) _
  clear hw0
  have HA := Lib.hid (And.intro hblk (And.intro hlt hB0))
  have hs1 := HK.out.1.below hB0 HK.out.2
  clear hblk hlt hB0
  refine wp_region_lex 19 (by kernel_rfl) (by kernel_rfl) (JG wa g N 19) (LeGs g) (flφ g) flφ_st JG.mono (JG.start hs1) ?_
  simp only [List.take_succ_cons, List.take_zero, List.drop_succ_cons, List.drop_zero, pairs, List.zipIdx_cons, List.zipIdx_nil, List.map_cons, List.map_nil, Nat.zero_add, Nat.reduceAdd]
  refine lex_eff' (sp := RowG g 3 [.int .i64 6, .int .i64 17, .int .i64 1]) rfl rfl (by intro _ _ _ _ h; exact h) (fun m W hJ hF => ?_) (fun v x hh => ?_) rfl
  · have hb : Below W.heap.size W (W.alloc (.cells #[.int .i64 6, .int .i64 17, .int .i64 1] 3)) := (Below.refl _ _).alloc (Nat.le_refl _) _
    refine gives_value (v := .slice (some ⟨W.heap.size, 0, none⟩) 3 3) (w' := W.alloc (.cells #[.int .i64 6, .int .i64 17, .int .i64 1] 3)) (by go_simp) ⟨hJ.below hb, grownBy_of_below hb _, W.heap.size, rfl, by have := hJ.2.lt; omega, ?_⟩
    have h := Rd.block (heap_alloc_new W (.cells #[.int .i64 6, .int .i64 17, .int .i64 1] 3)) 0
    simpa using h
  obtain ⟨_, _, -, ⟨bb, rfl, -, -⟩, -⟩ := hh
  (repeat (refine lex_pure rfl rfl (fun K hK => ?_); go_simp; refine hK _ ?_; clear hK K; try simp (disch := omega) only [IntWalk.i64_in, IntWalk.u8_in, Int.add_sub_cancel, Int.tmod_eq_emod_of_nonneg, Int.tdiv_eq_ediv_of_nonneg]))
  refine lex_eff' (sp := fun _ v _ => ∃ k : Nat, v = .int .i64 k ∧ k < 3) rfl rfl (by intro _ _ _ _ h; exact h) (fun m W hJ hF => ?_) (fun v x hh => ?_) rfl
  · refine gives_call Try.call109 ((next_ok g _ 3 W hJ.2 (by omega) (by omega)).mono ?_)
    rintro e w' ⟨v, rfl, ⟨x, rfl, hx0, hx1⟩, hs4, hg4⟩
    obtain ⟨k, rfl⟩ := Int.eq_ofNat_of_zero_le hx0
    exact ⟨_, rfl, hJ.step hg4 hs4 (by omega), hg4, k, rfl, by omega⟩
  obtain ⟨_, _, -, ⟨k, rfl, hk⟩, -⟩ := hh
  have hkI : (k : Int) < 3 := by omega
  obtain ⟨p, hp, hpl⟩ : ∃ p : Nat, ([.int .i64 6, .int .i64 17, .int .i64 1] : List Value)[k]? = some (.int .i64 p) ∧ p < 256 := by
    have : k = 0 ∨ k = 1 ∨ k = 2 := by omega
    rcases this with rfl | rfl | rfl
    · exact ⟨6, rfl, by omega⟩
    · exact ⟨17, rfl, by omega⟩
    · exact ⟨1, rfl, by omega⟩
  have HP := Lib.hid (And.intro hp hpl)
  clear hp hpl
  (repeat (refine lex_pure rfl rfl (fun K hK => ?_); go_simp; refine hK _ ?_; clear hK K; try simp (disch := omega) only [IntWalk.i64_in, IntWalk.u8_in, Int.add_sub_cancel, Int.tmod_eq_emod_of_nonneg, Int.tdiv_eq_ediv_of_nonneg]))
  refine lex_load rfl rfl (.int .i64 p) (fun m W hJ hF => ?_) ?_
  · obtain ⟨b', hb', -, hrd⟩ := hF 0 (by kernel_rfl) _ _ _ (by simp [upd]; exact ⟨rfl, rfl⟩) rfl
    cases hb'
    obtain ⟨ad, e1, hc⟩ := hrd k _ HP.out.1
    cases e1
    rw [Addr.add_lit, Nat.zero_add] at hc
    go_simp
  (repeat (refine lex_pure rfl rfl (fun K hK => ?_); go_simp; refine hK _ ?_; clear hK K; try simp (disch := omega) only [IntWalk.i64_in, IntWalk.u8_in, Int.add_sub_cancel, Int.tmod_eq_emod_of_nonneg, Int.tdiv_eq_ediv_of_nonneg]))
  refine lex_eff' (sp := fun _ v _ => ∃ s : ByteArray, v = .string s ∧ s.size = 6) rfl rfl (by intro _ _ _ _ h; exact h) (fun m W hJ hF => ?_) (fun v x hh => ?_) rfl
  · refine gives_call Try.call74 ((mac_ok g _ W hJ.2 (by omega)).mono ?_)
    rintro e w' ⟨v, rfl, ⟨s, hs, rfl⟩, hs4, hg4⟩
    exact ⟨_, rfl, hJ.step hg4 hs4 (by omega), hg4, s, rfl, hs.size⟩
  obtain ⟨_, _, -, ⟨mac, rfl, hmac⟩, -⟩ := hh
  (repeat (refine lex_pure rfl rfl (fun K hK => ?_); go_simp; refine hK _ ?_; clear hK K; try simp (disch := omega) only [IntWalk.i64_in, IntWalk.u8_in, Int.add_sub_cancel, Int.tmod_eq_emod_of_nonneg, Int.tdiv_eq_ediv_of_nonneg]))
  refine lex_eff' (sp := fun _ v _ => ∃ n : Nat, v = .int .i64 n ∧ 167772162 ≤ n ∧ n ≤ 167772164) rfl rfl (by intro _ _ _ _ h; exact h) (fun m W hJ hF => ?_) (fun v x hh => ?_) rfl
  · refine gives_call Try.call75 ((lan_ok g _ W hJ.2 (by omega)).mono ?_)
    rintro e w' ⟨v, rfl, ⟨n, rfl, h0, h1⟩, hs4, hg4⟩
    obtain ⟨n, rfl⟩ := Int.eq_ofNat_of_zero_le (show 0 ≤ n by omega)
    exact ⟨_, rfl, hJ.step hg4 hs4 (by omega), hg4, n, rfl, by omega, by omega⟩
  obtain ⟨_, _, -, ⟨sip, rfl, hsip⟩, -⟩ := hh
  (repeat (refine lex_pure rfl rfl (fun K hK => ?_); go_simp; refine hK _ ?_; clear hK K; try simp (disch := omega) only [IntWalk.i64_in, IntWalk.u8_in, Int.add_sub_cancel, Int.tmod_eq_emod_of_nonneg, Int.tdiv_eq_ediv_of_nonneg]))
  refine lex_eff' (sp := fun _ v _ => ∃ k : Nat, v = .int .i64 k ∧ k < 2) rfl rfl (by intro _ _ _ _ h; exact h) (fun m W hJ hF => ?_) (fun v x hh => ?_) rfl
  · refine gives_call Try.call109 ((next_ok g _ 2 W hJ.2 (by omega) (by omega)).mono ?_)
    rintro e w' ⟨v, rfl, ⟨x, rfl, hx0, hx1⟩, hs4, hg4⟩
    obtain ⟨k, rfl⟩ := Int.eq_ofNat_of_zero_le hx0
    exact ⟨_, rfl, hJ.step hg4 hs4 (by omega), hg4, k, rfl, by omega⟩
  obtain ⟨_, _, -, ⟨k2, rfl, hk2⟩, -⟩ := hh
  have hk2I : (k2 : Int) < 2 := by omega
  (repeat (refine lex_pure rfl rfl (fun K hK => ?_); go_simp; refine hK _ ?_; clear hK K; try simp (disch := omega) only [IntWalk.i64_in, IntWalk.u8_in, Int.add_sub_cancel, Int.tmod_eq_emod_of_nonneg, Int.tdiv_eq_ediv_of_nonneg]))
  refine lex_eff' (sp := fun _ v _ => ∃ n : Nat, v = .int .i64 n ∧ n < 4294967296 ∧ (n < 167772162 ∨ 167772164 < n)) rfl rfl (by intro _ _ _ _ h; exact h) (fun m W hJ hF => ?_) (fun v x hh => ?_) rfl
  · refine gives_call Try.call76 ((wan_ok g _ W hJ.2 (by omega)).mono ?_)
    rintro e w' ⟨v, rfl, ⟨n, rfl, hn⟩, hs4, hg4⟩
    have h2 : 0 ≤ n ∧ n < 4294967296 ∧ (n < 167772162 ∨ 167772164 < n) := by simp at hn; omega
    obtain ⟨n, rfl⟩ := Int.eq_ofNat_of_zero_le h2.1
    exact ⟨_, rfl, hJ.step hg4 hs4 (by omega), hg4, n, rfl, by omega, by omega⟩
  obtain ⟨_, _, -, ⟨dip, rfl, hdip⟩, -⟩ := hh
  (repeat (refine lex_pure rfl rfl (fun K hK => ?_); go_simp; refine hK _ ?_; clear hK K; try simp (disch := omega) only [IntWalk.i64_in, IntWalk.u8_in, Int.add_sub_cancel, Int.tmod_eq_emod_of_nonneg, Int.tdiv_eq_ediv_of_nonneg]))
  refine lex_eff' (sp := fun _ v _ => ∃ n : Nat, v = .int .i64 n ∧ n < 65536) rfl rfl (by intro _ _ _ _ h; exact h) (fun m W hJ hF => ?_) (fun v x hh => ?_) rfl
  · refine gives_call Try.call132 ((port_ok g _ W hJ.2 (by omega)).mono ?_)
    rintro e w' ⟨v, rfl, ⟨n, rfl, hn⟩, hs4, hg4⟩
    exact ⟨_, rfl, hJ.step hg4 hs4 (by omega), hg4, n, rfl, hn⟩
  obtain ⟨_, _, -, ⟨dport, rfl, hdp⟩, -⟩ := hh
  (repeat (refine lex_pure rfl rfl (fun K hK => ?_); go_simp; refine hK _ ?_; clear hK K; try simp (disch := omega) only [IntWalk.i64_in, IntWalk.u8_in, Int.add_sub_cancel, Int.tmod_eq_emod_of_nonneg, Int.tdiv_eq_ediv_of_nonneg]))
  refine lex_eff' (sp := fun _ v _ => ∃ k : Nat, v = .int .i64 k ∧ k < 3) rfl rfl (by intro _ _ _ _ h; exact h) (fun m W hJ hF => ?_) (fun v x hh => ?_) rfl
  · refine gives_call Try.call109 ((next_ok g _ 3 W hJ.2 (by omega) (by omega)).mono ?_)
    rintro e w' ⟨v, rfl, ⟨x, rfl, hx0, hx1⟩, hs4, hg4⟩
    obtain ⟨k, rfl⟩ := Int.eq_ofNat_of_zero_le hx0
    exact ⟨_, rfl, hJ.step hg4 hs4 (by omega), hg4, k, rfl, by omega⟩
  obtain ⟨_, _, -, ⟨k3, rfl, hk3⟩, -⟩ := hh
  have hk3I : (k3 : Int) < 3 := by omega
  (repeat (refine lex_pure rfl rfl (fun K hK => ?_); go_simp; refine hK _ ?_; clear hK K; try simp (disch := omega) only [IntWalk.i64_in, IntWalk.u8_in, Int.add_sub_cancel, Int.tmod_eq_emod_of_nonneg, Int.tdiv_eq_ediv_of_nonneg]))
  refine lex_nil (fun m W hJ hF => ?_)
  have hfo : FlOK ⟨p, mac, sip, 1000 + k2, dip, dport, 1, 0, k3⟩ := ⟨HP.out.2, hmac, by show sip < _; omega, by show 1000 + k2 < _; omega, by show dip < _; omega, hdp, Nat.le_refl _, by show 1 ≤ 3; omega, by show 0 ≤ _; omega, by show k3 ≤ _; omega⟩
  have hne : sip ≠ dip := by omega
  have hrs := (hJ.1.block _ HA.out.2.1 (by intro e; injection e with e; have := HK.out.2; omega)).trans HA.out.1
  have HZ := Lib.hid (And.intro hrs (And.intro hfo (And.intro hne (And.intro hJ.1 hJ.2))))
  clear hF hJ hfo hne hrs hmac hsip hdip hdp hk hkI hk2 hk2I hk3 hk3I hs1
  go_wp2_with (refine wpList_store_row rfl _ _ 73 rfl w.heap.size 73 _ _ rfl rfl HZ.out.1 rfl infoFl rfl ?_)
  refine bodyPost_ret (ret_cell rfl rfl (setRow_heap _ _ _ _ _ _ HZ.out.1) Try.underlying73 rfl infoFl) rfl ?_
  exact ⟨_, rfl, ⟨⟨p, mac, sip, 1000 + k2, dip, dport, 1, 0, k3⟩, rfl, HZ.out.2.1, HZ.out.2.2.1⟩, (src_setRow HZ.out.2.2.2.2 HK.out.2 _).more (by omega), grown_setRow (grown_trans (grownBy_of_below HA.out.2.2 _) HZ.out.2.2.2.1) (Nat.le_refl _) _⟩
end Go.Proofs.Ytdenjmdngmmodaa
