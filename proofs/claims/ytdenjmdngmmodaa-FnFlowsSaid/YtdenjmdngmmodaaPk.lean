/- Packets, drawn. -/
import Derived.Test.YtdenjmdngmmodaaArpB
namespace Go.Proofs.Ytdenjmdngmmodaa
open Go.RowKit
set_option linter.unusedVariables false
set_option linter.unusedSimpArgs false
set_option maxRecDepth 20000
set_option maxHeartbeats 1000000

theorem infoPk : (Try.prog.info? 39).map (·.size) = some 6 := by kernel_rfl
structure PacketOK (s d p t i : Nat) (b : ByteArray) : Prop where
  src : s < 4294967296
  dst : d < 4294967296
  proto : p < 256
  ttl : t < 256
  id : i < 65536
  body : b.size ≤ 380
abbrev pkV (s d p t i : Nat) (b : ByteArray) : Value := .agg #[.int .i64 s, .int .i64 d, .int .i64 p, .int .i64 t, .int .i64 i, .string b]
def PacketV (v : Value) : Prop := ∃ (s d p t i : Nat) (b : ByteArray), PacketOK s d p t i b ∧ b.size ≤ 4 ∧ v = .agg #[.int .i64 s, .int .i64 d, .int .i64 p, .int .i64 t, .int .i64 i, .string b]
def packetφ (g : Nat) : Nat → Option Spec
  | 1 => some (fun _ v _ => ∃ n : Int, v = .int .i64 n ∧ 167772162 ≤ n ∧ n ≤ 167772164)
  | 3 => some (fun _ v _ => ∃ n : Int, v = .int .i64 n ∧ n ∈ [16843009, 84215045, 84215303, 151587081])
  | 4 => some (RowSp g #[.int .i64 6, .int .i64 17, .int .i64 1, .int .i64 99] 3)
  | 6 => some fun _ v _ => InN 4 v
  | 10 => some fun _ v _ => InN 99 v
  | 12 => some (RowSp g #[.string ⟨#[]⟩, .string ⟨#[97]⟩, .string ⟨#[98, 111, 100, 121]⟩] 9)
  | 13 => some fun _ v _ => ∃ s ∈ [bstr [], bstr [97], bstr [98, 111, 100, 121]], v = .string s
  | _ => none
theorem packet_ok (g : Nat) (N : Int) (w : World) (hs : Src w g N) (hN : N ≤ 1000000) :
    Calls Try.prog 62 #[.pointer (some ⟨g, 0, none⟩)] w (SrcRet w g (N + 45) PacketV) := by
  have hlt0 := hs.lt
  go_enter Try.func62, Try.ntmps62
  go_wp2
  generalize hw0 : World.alloc w (.cells #[.int .i64 0, .int .i64 0, .int .i64 0, .int .i64 0, .int .i64 0, .string ⟨#[]⟩] 39) = w0
  have hblk : w0.heap[World.heap w |>.size]? = some (.cells #[.int .i64 0, .int .i64 0, .int .i64 0, .int .i64 0, .int .i64 0, .string ⟨#[]⟩] 39 (0, 0)) := by rw [← hw0]; exact heap_alloc_new _ _
  have hlt : (World.heap w).size < w0.heap.size := (Array.getElem?_eq_some_iff.1 hblk).1
  have hB0 : Below (World.heap w).size w w0 := by rw [← hw0]; exact (Below.refl _ _).alloc (Nat.le_refl _) _
  clear hw0
  have hs0 := hs.below hB0 hlt0
  refine wp_region_lex 15 (by kernel_rfl) (by kernel_rfl) (JSrc g N w0 15) (LeG g) (packetφ g) ?_ JSrc.mono ?_ ?_
  · intro j sp x v W W' hj hL h
    unfold packetφ at hj
    split at hj <;> first | (cases hj; exact h) | (cases hj; exact h.st hL) | cases hj
  · exact ⟨Nat.le_refl _, N, by omega, src_drew hs0, ⟨rfl, rfl, rfl, Nat.le_refl _, fun _ _ _ => rfl⟩⟩
  simp only [List.take_succ_cons, List.take_zero, List.drop_succ_cons, List.drop_zero, pairs, List.zipIdx_cons, List.zipIdx_nil, List.map_cons, List.map_nil, Nat.zero_add, Nat.reduceAdd]
  (repeat (refine lex_pure rfl rfl (fun K hK => ?_); go_simp; refine hK _ ?_; clear hK K; try simp (disch := omega) only [IntWalk.i64_in, IntWalk.u8_in, Int.add_sub_cancel, Int.tmod_eq_emod_of_nonneg, Int.tdiv_eq_ediv_of_nonneg]))
  refine lex_eff' rfl rfl (fun _ _ _ _ h => h) (fun m W hJ hF => ?_) (fun v x hh => ?_) rfl
  · obtain ⟨hm, M, hM, hs1, hg1⟩ := hJ
    refine gives_call Try.call75 ((lan_ok g M W hs1 (by omega)).mono ?_)
    rintro e w' ⟨v, rfl, hv, hs2, hg2⟩; exact ⟨v, rfl, JSrc.call hm hM hs2 hg2 hg1, hg2, hv⟩
  obtain ⟨_, _, -, ⟨a, rfl, ha0, ha1⟩, -⟩ := hh
  (repeat (refine lex_pure rfl rfl (fun K hK => ?_); go_simp; refine hK _ ?_; clear hK K; try simp (disch := omega) only [IntWalk.i64_in, IntWalk.u8_in, Int.add_sub_cancel, Int.tmod_eq_emod_of_nonneg, Int.tdiv_eq_ediv_of_nonneg]))
  refine lex_eff' rfl rfl (fun _ _ _ _ h => h) (fun m W hJ hF => ?_) (fun v x hh => ?_) rfl
  · obtain ⟨hm, M, hM, hs1, hg1⟩ := hJ
    refine gives_call Try.call76 ((wan_ok g M W hs1 (by omega)).mono ?_)
    rintro e w' ⟨v, rfl, hv, hs2, hg2⟩; exact ⟨v, rfl, JSrc.call hm hM hs2 hg2 hg1, hg2, hv⟩
  obtain ⟨_, _, -, ⟨d, rfl, hd⟩, -⟩ := hh
  (repeat (refine lex_pure rfl rfl (fun K hK => ?_); go_simp; refine hK _ ?_; clear hK K; try simp (disch := omega) only [IntWalk.i64_in, IntWalk.u8_in, Int.add_sub_cancel, Int.tmod_eq_emod_of_nonneg, Int.tdiv_eq_ediv_of_nonneg]))
  refine lex_eff' rfl rfl (fun _ _ _ _ h => h) (fun m W hJ hF => gives_value (by go_simp) ⟨hJ.alloc _, World.grownBy_alloc _ _ _, _, rfl, by have := hJ.2.choose_spec.2.1.lt; omega, heap_alloc_new _ _⟩) (fun v3 x hh => ?_) rfl
  obtain ⟨_, _, -, ⟨b3, rfl, hb3, -⟩, -⟩ := hh
  (repeat (refine lex_pure rfl rfl (fun K hK => ?_); go_simp; refine hK _ ?_; clear hK K; try simp (disch := omega) only [IntWalk.i64_in, IntWalk.u8_in, Int.add_sub_cancel, Int.tmod_eq_emod_of_nonneg, Int.tdiv_eq_ediv_of_nonneg]))
  refine lex_eff' rfl rfl (fun _ _ _ _ h => h) (fun m W hJ hF => ?_) (fun v x hh => ?_) rfl
  · obtain ⟨hm, M, hM, hs1, hg1⟩ := hJ
    refine gives_call Try.call109 ((next_ok g M 4 W hs1 (by omega) (by omega)).mono ?_)
    rintro e w' ⟨v, rfl, hv, hs2, hg2⟩; exact ⟨v, rfl, JSrc.call hm hM hs2 hg2 hg1, hg2, hv⟩
  obtain ⟨_, _, -, ⟨y, rfl, hy0, hy1⟩, -⟩ := hh
  obtain ⟨k, rfl⟩ := Int.eq_ofNat_of_zero_le hy0
  have hk : (k : Int) < 4 := by omega
  have hk2 : k < 4 := by omega
  clear hy1
  (repeat (refine lex_pure rfl rfl (fun K hK => ?_); go_simp; refine hK _ ?_; clear hK K; try simp (disch := omega) only [IntWalk.i64_in, IntWalk.u8_in, Int.add_sub_cancel, Int.tmod_eq_emod_of_nonneg, Int.tdiv_eq_ediv_of_nonneg]))
  refine lex_load rfl rfl (.int .i64 ([6, 17, 1, 99].getD k 0)) (fun m W hJ hF => ?_) ?_
  · have h1 := RowSp.cell (hF 4 (by kernel_rfl) _ _ _ rfl rfl) k hk2
    have h2 : #[Value.int .i64 6, Value.int .i64 17, Value.int .i64 1, Value.int .i64 99][k] = .int .i64 ([6, 17, 1, 99].getD k 0) := by
      have : k = 0 ∨ k = 1 ∨ k = 2 ∨ k = 3 := by omega
      rcases this with rfl | rfl | rfl | rfl <;> rfl
    rw [h2] at h1
    go_simp
  have hn : (0 : Int) ≤ [6, 17, 1, 99].getD k 0 ∧ ([6, 17, 1, 99].getD k 0 : Int) ≤ 99 := by
    have : k = 0 ∨ k = 1 ∨ k = 2 ∨ k = 3 := by omega
    rcases this with rfl | rfl | rfl | rfl <;> exact ⟨by decide, by decide⟩
  generalize ([6, 17, 1, 99].getD k 0 : Int) = n at *
  have Hn := Lib.hid hn
  clear hn
  (repeat (refine lex_pure rfl rfl (fun K hK => ?_); go_simp; refine hK _ ?_; clear hK K; try simp (disch := omega) only [IntWalk.i64_in, IntWalk.u8_in, Int.add_sub_cancel, Int.tmod_eq_emod_of_nonneg, Int.tdiv_eq_ediv_of_nonneg]))
  refine lex_eff' rfl rfl (fun _ _ _ _ h => h) (fun m W hJ hF => ?_) (fun v x hh => ?_) rfl
  · obtain ⟨hm, M, hM, hs1, hg1⟩ := hJ
    refine gives_call Try.call109 ((next_ok g M 99 W hs1 (by omega) (by omega)).mono ?_)
    rintro e w' ⟨v, rfl, hv, hs2, hg2⟩; exact ⟨v, rfl, JSrc.call hm hM hs2 hg2 hg1, hg2, hv⟩
  obtain ⟨_, _, -, ⟨i, rfl, hi0, hi1⟩, -⟩ := hh
  have hi2 : i ≤ 98 := by omega
  clear hi1
  (repeat (refine lex_pure rfl rfl (fun K hK => ?_); go_simp; refine hK _ ?_; clear hK K; try simp (disch := omega) only [IntWalk.i64_in, IntWalk.u8_in, Int.add_sub_cancel, Int.tmod_eq_emod_of_nonneg, Int.tdiv_eq_ediv_of_nonneg]))
  refine lex_eff' rfl rfl (fun _ _ _ _ h => h) (fun m W hJ hF => gives_value (by go_simp) ⟨hJ.alloc _, World.grownBy_alloc _ _ _, _, rfl, by have := hJ.2.choose_spec.2.1.lt; omega, heap_alloc_new _ _⟩) (fun v3 x hh => ?_) rfl
  obtain ⟨_, _, -, ⟨b5, rfl, hb5, -⟩, -⟩ := hh
  (repeat (refine lex_pure rfl rfl (fun K hK => ?_); go_simp; refine hK _ ?_; clear hK K; try simp (disch := omega) only [IntWalk.i64_in, IntWalk.u8_in, Int.add_sub_cancel, Int.tmod_eq_emod_of_nonneg, Int.tdiv_eq_ediv_of_nonneg]))
  refine lex_eff' rfl rfl (fun _ _ _ _ h => h) (fun m W hJ hF => ?_) (fun v6 x hh => ?_) rfl
  · obtain ⟨hm, M, hM, hs1, hg1⟩ := hJ
    obtain ⟨-, hr⟩ := RowSp.rd (hF 12 (by kernel_rfl) _ _ _ rfl rfl)
    refine gives_call Try.call110 ((pick_ok g M W hs1 (by omega) _ _ [bstr [], bstr [97], bstr [98, 111, 100, 121]] (by simp) (by simp) (fun ad e => by cases e; exact hb5) hr).mono ?_)
    rintro e w' ⟨v, rfl, hv, hs2, hg2⟩; exact ⟨v, rfl, JSrc.call hm hM hs2 hg2 hg1, hg2, hv⟩
  obtain ⟨_, _, -, ⟨t, ht, rfl⟩, -⟩ := hh
  (repeat (refine lex_pure rfl rfl (fun K hK => ?_); go_simp; refine hK _ ?_; clear hK K; try simp (disch := omega) only [IntWalk.i64_in, IntWalk.u8_in, Int.add_sub_cancel, Int.tmod_eq_emod_of_nonneg, Int.tdiv_eq_ediv_of_nonneg]))
  refine lex_nil ?_
  intro m W hJ hF
  obtain ⟨hm, M, hM, hs1, hg1⟩ := hJ
  clear hF
  have hb := (hg1.block _ hlt (by simp; omega)).trans hblk
  have hG : w.grownBy W (some g) := grown_trans (grownBy_of_below hB0 _) hg1
  have Hb := Lib.hid hb
  clear hblk hb hg1
  go_wp2_with (refine wpList_store_row rfl _ _ 39 rfl w.heap.size 39 _ _ rfl rfl Hb.out rfl infoPk rfl ?_)
  refine bodyPost_ret (ret_cell rfl rfl (setRow_heap _ _ _ _ _ _ Hb.out) Try.underlying39 rfl infoPk) rfl ?_
  have hd0 : 0 ≤ d ∧ d < 4294967296 := by simp at hd; omega
  have ht0 : t.size ≤ 4 := by simp at ht; rcases ht with rfl | rfl | rfl <;> simp [bstr_size]
  refine ⟨_, rfl, ⟨a.toNat, d.toNat, n.toNat, 64, i.toNat, t, ⟨by omega, by omega, by have := Hn.out; omega, by omega, by omega, by omega⟩, ht0, ?_⟩, (hs1.keep fun k hk => setRow_other _ _ _ _ (by omega)).more (by omega), ?_⟩
  · rw [Int.toNat_of_nonneg (by omega), Int.toNat_of_nonneg (by omega), Int.toNat_of_nonneg (by have := Hn.out; omega), Int.toNat_of_nonneg (by omega)]
    rfl
  · exact grown_setRow hG (Nat.le_refl _) _
end Go.Proofs.Ytdenjmdngmmodaa
