/- Frames: the two ways to their bytes. -/
import Derived.Test.YtdenjmdngmmodaaWire
namespace Go.Proofs.Ytdenjmdngmmodaa
open Go.RowKit
set_option linter.unusedVariables false
set_option linter.unusedSimpArgs false
set_option maxRecDepth 20000
set_option maxHeartbeats 1000000

theorem macOK_ok (s : ByteArray) (w : World) : Calls Try.prog 51 #[.string s] w fun e w' => e = .returned (.bool ((s.size : Int) == 6)) ∧ w = w' := by
  go_enter Try.func51, Try.ntmps51
  go_wp2
  go_ret
  exact ⟨rfl, rfl⟩
theorem l01Mac_ok (s : ByteArray) (w : World) : Calls Try.prog 113 #[.string s] w fun e w' => e = .returned (.bool ((s.size : Int) == 6)) ∧ w = w' := by
  go_enter Try.func113, Try.ntmps113
  go_wp2
  go_ret
  exact ⟨rfl, rfl⟩
theorem mac_true {s : ByteArray} (h : s.size = 6) : ((s.size : Int) == 6) = true := by rw [h]; rfl

theorem beN_get (n : Nat) : ∀ (size j : Nat) (h : j < size), (beN n size)[j]'(by rw [beN_len]; exact h) = UInt8.ofNat (n / 256 ^ (size - 1 - j) % 256)
  | size + 1, 0, _ => by simp [beN]
  | size + 1, j + 1, h => by
    simp only [beN, List.getElem_cons_succ]
    rw [beN_get n size j (by omega), show size + 1 - 1 - (j + 1) = size - 1 - j by omega]

theorem l01Number_ok (n size : Nat) (w : World) (hn : n < 9223372036854775808) (hs : size ≤ 8) :
    Calls Try.prog 114 #[.int .i64 n, .int .i64 size] w fun e w' => e = .returned (.string (bstr (beN n size))) ∧ Below w.heap.size w w' := by
  go_enter Try.func114, Try.ntmps114
  go_wp2
  generalize hW : w.alloc _ = W
  have hown : W.ownsRow w.heap.size 5 1 (.slice (some ⟨w.heap.size, 0, none⟩) 0 0) ([] : List UInt8).length (([] : List UInt8).map bV) := by rw [← hW]; exact World.ownsRow_lit w #[] 0 (Nat.le_refl _) (by simp [maxLen]) (by simp)
  have hB : Below w.heap.size w W := by rw [← hW]; exact (Below.refl _ _).alloc (Nat.le_refl _) _
  clear hW
  go_loopw [5, 6] (fun v i wr => ∃ j : Nat, j ≤ size ∧ i = .int .i64 ((size : Int) - 1 - j) ∧ wr.ownsRow w.heap.size 5 1 v ((beN n size).take j).length (((beN n size).take j).map bV) ∧ Below w.heap.size w wr) (fun _ i _ => (intOf i + 1).toNat)
  case atStart => exact ⟨0, Nat.zero_le _, by simp, hown, hB⟩
  case round =>
    obtain ⟨j, hj, rfl, hown, hB⟩ := hrel
    by_cases hlt : j < size
    · obtain ⟨i, hi⟩ : ∃ i : Nat, (size : Int) - 1 - j = i := ⟨size - 1 - j, by omega⟩
      have hi2 : i = size - 1 - j := by omega
      have hi7 : i ≤ 7 := by omega
      rw [hi]
      have hi0 : (0 : Int) ≤ i := by omega
      have hu := shr_byte n i
      have hsn : (beN n size).take (j + 1) = (beN n size).take j ++ [UInt8.ofNat (n / 256 ^ i % 256)] := by
        rw [List.take_succ_eq_append_getElem (by rw [beN_len]; exact hlt), beN_get n size j hlt, hi2]
      have hl : ((beN n size).take j).length ≤ 8 := by rw [List.length_take, beN_len]; omega
      have hrun : ∀ X, X = Value.int .u8 ((UInt8.ofNat (n / 256 ^ i % 256)).toNat : Int) → ∃ v' w', (Builtin.append_ #[22, 22] 22 #[u5, .slice (some ⟨wr.heap.size, 0, none⟩) 1 1]).run Try.prog (wr.alloc (.cells #[X] 5)) = .ok v' w' ∧
          w'.ownsRow w.heap.size 5 1 v' ((beN n size).take (j + 1)).length (((beN n size).take (j + 1)).map bV) ∧ Below w.heap.size w w' := by
        rintro X rfl
        have h1 := append_bytes (wr.alloc (.cells #[bV (UInt8.ofNat (n / 256 ^ i % 256))] 5)) w.heap.size u5 ((beN n size).take j) (hown.alloc _) (some ⟨wr.heap.size, 0, none⟩) 1 [UInt8.ofNat (n / 256 ^ i % 256)]
          (by simpa using Rd.block (heap_alloc_new wr (.cells #[bV (UInt8.ofNat (n / 256 ^ i % 256))] 5)) 0) (by simp; omega) (by simp; have := hB.size; omega)
        obtain ⟨v', w', h2, h3, h4⟩ := h1
        rw [← hsn] at h3
        exact ⟨v', w', h2, h3, (hB.alloc hB.size _).grown h4 (by simp; have := hB.size; omega) (fun g hg => (hown.lt g hg).1)⟩
      have HR := Lib.hid hrun
      have Hi := Lib.hid (And.intro hi (And.intro hi2 hu))
      have HO := Lib.hid hown
      clear hrun hi hi2 hown hsn hu
      go_wp2_with (at_builtin; (obtain ⟨v', w2, hr, ho, hb⟩ := HR.out _ (by rw [← Hi.out.2.2]); refine wpList_append_run rfl _ _ _ _ rfl rfl rfl hr ?_); clear hr)
      go_roundw
      case rel =>
        refine ⟨j + 1, by omega, ?_, ho, hb⟩
        rw [show (i : Int) - 1 = (size : Int) - 1 - ((j + 1 : Nat) : Int) from by have := Hi.out.1; omega]
      case measure => simp [intOf]
    · obtain rfl : j = size := by omega
      rw [List.take_of_length_le (by rw [beN_len]; exact Nat.le_refl _)] at hown
      obtain ⟨A, c, rfl, hc, hr, -⟩ := own_slice hown
      have hcv := bytes_str A _ c (beN n j) rfl wr hr
      rw [beN_len] at hcv
      go_wp2
      rw [beN_len, hcv]
      go_wp2
      go_ret
      exact ⟨rfl, hB⟩

structure FrameOK (d s : ByteArray) (k : Nat) (b : ByteArray) : Prop where
  dst : d.size = 6
  src : s.size = 6
  kind : k = 2048 ∨ k = 2054
  body : b.size ≤ 400
theorem l02Frame_true (d s : ByteArray) (k : Nat) (b : ByteArray) (h : FrameOK d s k b) (w : World) :
    Calls Try.prog 53 #[.agg #[.string d, .string s, .int .i64 k, .string b]] w fun e w' => e = .returned (.bool true) ∧ Below w.heap.size w w' := by
  have h1 := mac_true h.dst
  have h2 := mac_true h.src
  have h3 : (b.size : Int) ≤ 400 := by have := h.body; omega
  have hk := h.kind
  clear h
  rcases hk with rfl | rfl
  all_goals
    go_enter Try.func53, Try.ntmps53
    go_wp2_with fail
    refine (l01Mac_ok d _).mono ?_
    rintro e w1 ⟨rfl, rfl⟩
    rw [h1]
    go_wp2_with fail
    refine (l01Mac_ok s _).mono ?_
    rintro e w1 ⟨rfl, rfl⟩
    rw [h2]
    go_wp2
    go_ret
    exact ⟨rfl, (Below.refl _ _).alloc (Nat.le_refl _) _⟩

def l02FrameBytesφ (k : Nat) : Nat → Option Spec
  | 7 => some fun _ v _ => v = .string (bstr (beN k 2))
  | _ => none
theorem l02FrameBytes_ok (d s : ByteArray) (k : Nat) (b : ByteArray) (hk : k < 65536) (hl : d.size + s.size + b.size ≤ 1000000) (w : World) :
    Calls Try.prog 54 #[.agg #[.string d, .string s, .int .i64 k, .string b]] w fun e w' => e = .returned (.string (bstr (frameB d s k b))) ∧ Below w.heap.size w w' := by
  go_enter Try.func54, Try.ntmps54
  go_wp2
  generalize hw0 : w.alloc (.cells #[.string d, .string s, .int .i64 k, .string b] 24) = w0
  have hblk : w0.heap[w.heap.size]? = some (.cells #[.string d, .string s, .int .i64 k, .string b] 24 (0, 0)) := by rw [← hw0]; exact heap_alloc_new _ _
  have hlt : w.heap.size < w0.heap.size := (Array.getElem?_eq_some_iff.1 hblk).1
  have hB0 : Below w.heap.size w w0 := by rw [← hw0]; exact (Below.refl _ _).alloc (Nat.le_refl _) _
  have hcell : ∀ W, Below w0.heap.size w0 W → ∀ j, W.cell? ⟨w.heap.size, j, none⟩ = #[Value.string d, .string s, .int .i64 k, .string b][j]? := fun W hW j => (hW.cell hlt).trans (blk_cell hblk j)
  clear hw0 hblk
  have hz : (bstr (beN k 2)).size = 2 := by rw [bstr_size, beN_len]
  refine wp_region_lex 13 (by kernel_rfl) (by kernel_rfl) (JB w0) LeB (l02FrameBytesφ k) ?_ JB.mono ?_ ?_
  · intro j sp x v W W' hj hL h
    unfold l02FrameBytesφ at hj
    split at hj <;> first | (cases hj; exact h) | cases hj
  · exact (Below.refl _ _).drew
  simp only [List.take_succ_cons, List.take_zero, List.drop_succ_cons, List.drop_zero, pairs, List.zipIdx_cons, List.zipIdx_nil, List.map_cons, List.map_nil, Nat.zero_add, Nat.reduceAdd]
  (repeat (first | (refine lex_pure rfl rfl (fun K hK => ?_); go_simp; refine hK _ ?_; clear hK K; try simp (disch := omega) only [IntWalk.i64_in, IntWalk.u8_in, Int.add_sub_cancel, Int.tmod_eq_emod_of_nonneg, Int.tdiv_eq_ediv_of_nonneg]) | (refine lex_load rfl rfl _ (fun m W hJ hF => (by have cc := hcell W hJ; go_simp; rfl)) ?_; try simp (disch := omega) only [IntWalk.i64_in, IntWalk.u8_in, Int.add_sub_cancel, Int.tmod_eq_emod_of_nonneg, Int.tdiv_eq_ediv_of_nonneg]) | (refine lex_sadd rfl rfl rfl rfl rfl (by first | omega | (simp only [ByteArray.size_append]; omega)) ?_; go_simp)))
  refine lex_eff' (sp := fun _ v _ => v = .string (bstr (beN k 2))) rfl rfl (by intro _ _ _ _ h; exact h) (fun m W hJ hF => ?_) (fun v x hh => ?_) rfl
  · refine gives_call Try.call114 ((l01Number_ok k 2 W (by omega) (by omega)).mono ?_)
    rintro e w' ⟨rfl, h2⟩
    exact ⟨_, rfl, hJ.step h2, h2, rfl⟩
  obtain ⟨_, _, -, rfl, -⟩ := hh
  (repeat (first | (refine lex_pure rfl rfl (fun K hK => ?_); go_simp; refine hK _ ?_; clear hK K; try simp (disch := omega) only [IntWalk.i64_in, IntWalk.u8_in, Int.add_sub_cancel, Int.tmod_eq_emod_of_nonneg, Int.tdiv_eq_ediv_of_nonneg]) | (refine lex_load rfl rfl _ (fun m W hJ hF => (by have cc := hcell W hJ; go_simp; rfl)) ?_; try simp (disch := omega) only [IntWalk.i64_in, IntWalk.u8_in, Int.add_sub_cancel, Int.tmod_eq_emod_of_nonneg, Int.tdiv_eq_ediv_of_nonneg]) | (refine lex_sadd rfl rfl rfl rfl rfl (by first | omega | (simp only [ByteArray.size_append]; omega)) ?_; go_simp)))
  refine lex_nil (fun m W hJ hF => ?_)
  have hB := Below.trans hB0 (Below.mono hJ hB0.size)
  clear hF hJ hcell
  have hfin : d ++ s ++ bstr (beN k 2) ++ b = bstr (frameB d s k b) := by
    rw [frameB, sb_append]
    conv => lhs; rw [← bstr_sb d, ← bstr_sb s, ← bstr_sb b]
    simp only [bstr_append, List.append_assoc]
  have HF := Lib.hid hfin
  clear hfin
  go_wp2
  go_ret
  exact ⟨by rw [← HF.out]; rfl, hB⟩

theorem sFrameBytes_ok (d s : ByteArray) (k : Nat) (b : ByteArray) (h : FrameOK d s k b) (w : World) :
    Calls Try.prog 11 #[.agg #[.string d, .string s, .int .i64 k, .string b]] w fun e w' => ∃ v, e = .returned (.tuple #[v, .int .i64 0]) ∧ BsSp (frameB d s k b) #[] v w' ∧ Below w.heap.size w w' := by
  have hk : k < 65536 := by have := h.kind; omega
  have hl : d.size + s.size + b.size ≤ 1000000 := by have := h.dst; have := h.src; have := h.body; omega
  go_enter Try.func11, Try.ntmps11
  go_wp2_with fail
  generalize hw0 : World.alloc w (.cells #[.string d, .string s, .int .i64 k, .string b] 24) = w0
  have hblk : w0.heap[World.heap w |>.size]? = some (.cells #[.string d, .string s, .int .i64 k, .string b] 24 (0, 0)) := by rw [← hw0]; exact heap_alloc_new _ _
  have hlt : (World.heap w).size < w0.heap.size := (Array.getElem?_eq_some_iff.1 hblk).1
  have hB0 : Below (World.heap w).size w w0 := by rw [← hw0]; exact (Below.refl _ _).alloc (Nat.le_refl _) _
  clear hw0
  refine (l02Frame_true d s k b h _).mono ?_
  rintro e w1 ⟨rfl, hB1⟩
  have hblk1 := (hB1.block _ hlt).trans hblk
  have hB := Below.trans hB0 (hB1.mono hB0.size)
  have c0 := blk_cell hblk1 0
  have c1 := blk_cell hblk1 1
  have c2 := blk_cell hblk1 2
  have c3 := blk_cell hblk1 3
  have HK := Lib.hid (And.intro hblk hblk1)
  clear hblk hblk1
  simp at c0 c1 c2 c3
  go_wp2_with fail
  refine (l02FrameBytes_ok d s k b hk hl _).mono ?_
  rintro e w2 ⟨rfl, hB2⟩
  have hB' := Below.trans hB (hB2.mono hB.size)
  obtain ⟨v, w3, h1, h2, h3⟩ := conv_sb w2 (bstr (frameB d s k b))
  have hB'' := Below.trans hB' (h3.mono hB'.size)
  have H2 := Lib.hid h2
  clear h2 c0 c1 c2 c3
  go_wp2
  go_ret2
  exact ⟨_, rfl, by have := H2.out; rwa [sb_bstr] at this, hB''⟩

theorem iFrameBytes_ok (d s : ByteArray) (k : Nat) (b : ByteArray) (h : FrameOK d s k b) (w : World) :
    Calls Try.prog 10 #[.agg #[.string d, .string s, .int .i64 k, .string b]] w fun e w' => ∃ v, e = .returned (.tuple #[v, .int .i64 0]) ∧ w'.ownsRow w.heap.size 5 1 v (frameB d s k b).length ((frameB d s k b).map bV) ∧ Below w.heap.size w w' := by
  have hk : k < 65536 := by have := h.kind; omega
  have hl : d.size + s.size + b.size ≤ 1000000 := by have := h.dst; have := h.src; have := h.body; omega
  have h1 := mac_true h.dst
  have h2 := mac_true h.src
  have h3 : (b.size : Int) ≤ 400 := by have := h.body; omega
  have hk2 := h.kind
  clear h
  rcases hk2 with rfl | rfl
  all_goals
    go_enter Try.func10, Try.ntmps10
    go_wp2_with fail
    refine (macOK_ok d _).mono ?_
    rintro e w1 ⟨rfl, rfl⟩
    rw [h1]
    go_wp2_with fail
    refine (macOK_ok s _).mono ?_
    rintro e w1 ⟨rfl, rfl⟩
    rw [h2]
    go_wp2_with fail
    refine (frameBytes_ok d s _ b hk hl _).mono ?_
    rintro e w1 ⟨v, rfl, hown, hB⟩
    have hB1 : Below w.heap.size w w1 := Below.trans ((Below.refl _ _).alloc (Nat.le_refl _) _) (hB.mono (by simp))
    have hown1 := own_base hown (B' := w.heap.size) (by simp)
    have HO := Lib.hid hown1
    clear hown hown1 hB
    go_wp2
    go_ret2
    exact ⟨_, rfl, HO.out, hB1⟩
end Go.Proofs.Ytdenjmdngmmodaa
