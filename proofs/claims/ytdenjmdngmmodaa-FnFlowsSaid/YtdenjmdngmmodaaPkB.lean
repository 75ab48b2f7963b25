/- Packets: right ones, and the first way to their bytes. -/
import Derived.Test.YtdenjmdngmmodaaCopy
namespace Go.Proofs.Ytdenjmdngmmodaa
open Go.RowKit
set_option linter.unusedVariables false
set_option linter.unusedSimpArgs false
set_option maxRecDepth 20000
set_option maxHeartbeats 1000000

theorem isPort_ok (n : Nat) (h : n < 65536) (w : World) : Calls Try.prog 99 #[.int .i64 n] w fun e w' => e = .returned (.bool true) ∧ w = w' := by
  go_enter Try.func99, Try.ntmps99
  go_wp2_with fail
  refine (within_ok _ _ _ _).mono ?_
  rintro e w1 ⟨rfl, rfl⟩
  rw [show decide ((0 : Int) ≤ n ∧ (n : Int) ≤ 65535) = true from by simp; omega]
  go_wp2
  go_ret
  exact ⟨rfl, rfl⟩
theorem packetOK_true (s d p t i : Nat) (b : ByteArray) (h : PacketOK s d p t i b) (w : World) :
    Calls Try.prog 63 #[.agg #[.int .i64 s, .int .i64 d, .int .i64 p, .int .i64 t, .int .i64 i, .string b]] w fun e w' => e = .returned (.bool true) ∧ Below w.heap.size w w' := by
  have h3 : decide ((0 : Int) ≤ p ∧ (p : Int) ≤ 255) = true := by have := h.proto; simp; omega
  have h4 : decide ((0 : Int) ≤ t ∧ (t : Int) ≤ 255) = true := by have := h.ttl; simp; omega
  have hb : (b.size : Int) ≤ 380 := by have := h.body; omega
  have HK := Lib.hid (And.intro h (And.intro h3 h4))
  clear h h3 h4
  go_enter Try.func63, Try.ntmps63
  go_wp2_with fail
  refine (isAddress_ok s HK.out.1.src _).mono ?_
  rintro e w1 ⟨rfl, rfl⟩
  go_wp2_with fail
  refine (isAddress_ok d HK.out.1.dst _).mono ?_
  rintro e w1 ⟨rfl, rfl⟩
  go_wp2_with fail
  refine (within_ok _ _ _ _).mono ?_
  rintro e w1 ⟨rfl, rfl⟩
  rw [HK.out.2.1]
  go_wp2_with fail
  refine (within_ok _ _ _ _).mono ?_
  rintro e w1 ⟨rfl, rfl⟩
  rw [HK.out.2.2]
  go_wp2_with fail
  refine (isPort_ok i HK.out.1.id _).mono ?_
  rintro e w1 ⟨rfl, rfl⟩
  go_wp2
  go_ret
  exact ⟨rfl, (Below.refl _ _).alloc (Nat.le_refl _) _⟩
theorem l02Packet_true (s d p t i : Nat) (b : ByteArray) (h : PacketOK s d p t i b) (w : World) :
    Calls Try.prog 65 #[.agg #[.int .i64 s, .int .i64 d, .int .i64 p, .int .i64 t, .int .i64 i, .string b]] w fun e w' => e = .returned (.bool true) ∧ Below w.heap.size w w' := by
  have h3 : decide ((0 : Int) ≤ p ∧ (p : Int) ≤ 255) = true := by have := h.proto; simp; omega
  have h4 : decide ((0 : Int) ≤ t ∧ (t : Int) ≤ 255) = true := by have := h.ttl; simp; omega
  have h5 : decide ((0 : Int) ≤ i ∧ (i : Int) ≤ 65535) = true := by have := h.id; simp; omega
  have hb : (b.size : Int) ≤ 380 := by have := h.body; omega
  have HK := Lib.hid (And.intro h (And.intro h3 (And.intro h4 h5)))
  clear h h3 h4 h5
  go_enter Try.func65, Try.ntmps65
  go_wp2_with fail
  refine (l01Ip_ok s HK.out.1.src _).mono ?_
  rintro e w1 ⟨rfl, rfl⟩
  go_wp2_with fail
  refine (l01Ip_ok d HK.out.1.dst _).mono ?_
  rintro e w1 ⟨rfl, rfl⟩
  go_wp2_with fail
  refine (l01In_ok _ _ _ _).mono ?_
  rintro e w1 ⟨rfl, rfl⟩
  rw [HK.out.2.1]
  go_wp2_with fail
  refine (l01In_ok _ _ _ _).mono ?_
  rintro e w1 ⟨rfl, rfl⟩
  rw [HK.out.2.2.1]
  go_wp2_with fail
  refine (l01In_ok _ _ _ _).mono ?_
  rintro e w1 ⟨rfl, rfl⟩
  rw [HK.out.2.2.2]
  go_wp2
  go_ret
  exact ⟨rfl, (Below.refl _ _).alloc (Nat.le_refl _) _⟩

/-- The head with nothing in the sum's place; the head's two parts; the sum; the bytes. -/
def headB (s d p t i L : Nat) : List UInt8 := [69, 0] ++ (beN L 2 ++ (beN i 2 ++ ([0, 0, UInt8.ofNat t, UInt8.ofNat p, 0, 0] ++ (beN s 4 ++ beN d 4))))
def csum (s d p t i L : Nat) : Nat := 65535 - f16 (ws true (headB s d p t i L))
def pkA (p t i L : Nat) : List UInt8 := [69, 0] ++ (beN L 2 ++ (beN i 2 ++ [0, 0, UInt8.ofNat t, UInt8.ofNat p]))
def pkR (s d : Nat) : List UInt8 := beN s 4 ++ beN d 4
def pkH (s d p t i L : Nat) : List UInt8 := pkA p t i L ++ (beN (csum s d p t i L) 2 ++ pkR s d)
def packetB (s d p t i : Nat) (b : ByteArray) : List UInt8 := pkH s d p t i (20 + b.size) ++ sb b
theorem headB_len (s d p t i L : Nat) : (headB s d p t i L).length = 20 := by simp [headB, beN_len]
theorem pkA_len (p t i L : Nat) : (pkA p t i L).length = 10 := by simp [pkA, beN_len]
theorem pkR_len (s d : Nat) : (pkR s d).length = 8 := by simp [pkR, beN_len]
theorem pkH_len (s d p t i L : Nat) : (pkH s d p t i L).length = 20 := by simp [pkH, pkA_len, pkR_len, beN_len]
theorem headB_eq (s d p t i L : Nat) : headB s d p t i L = pkA p t i L ++ ([0, 0] ++ pkR s d) := by simp [headB, pkA, pkR]
theorem beN_two (n : Nat) : ∃ x y, beN n 2 = [x, y] := ⟨_, _, rfl⟩
theorem set_head (s d p t i L : Nat) (x y : UInt8) : (((headB s d p t i L).set 10 x).set 11 y) = pkA p t i L ++ ([x, y] ++ pkR s d) := by
  rw [headB_eq, List.set_append_right _ _ (by rw [pkA_len]; omega), List.set_append_right _ _ (by rw [pkA_len]; omega), pkA_len]
  rfl

def packetBytesφ (base2 : Nat) (s d p t i L : Nat) : Nat → Option Spec
  | 0 => some (ArgRow 5)
  | 5 => some (BsSp (beN (L) 2))
  | 8 => some (BsSp (beN (i) 2))
  | 15 => some (ArgRow 5)
  | 18 => some (BsSp (beN (s) 4))
  | 21 => some (BsSp (beN (d) 4))
  | 22 => some (ArgRow 22)
  | 23 => some (OwnSp base2 (headB s d p t i L))
  | _ => none

def packetSumφ (n : Nat) : Nat → Option Spec
  | 3 => some (fun _ v _ => v = .int .i64 n)
  | 4 => some (BsSp (beN n 2))
  | _ => none
theorem packetBytes_ok (s d p t i : Nat) (b : ByteArray) (h : PacketOK s d p t i b) (w : World) :
    Calls Try.prog 64 #[.agg #[.int .i64 s, .int .i64 d, .int .i64 p, .int .i64 t, .int .i64 i, .string b]] w fun e w' => ∃ v, e = .returned v ∧ w'.ownsRow w.heap.size 5 1 v (packetB s d p t i b).length ((packetB s d p t i b).map bV) ∧ Below w.heap.size w w' := by
  have hb : (b.size : Int) ≤ 380 := by have := h.body; omega
  have ht : (t : Int) ≤ 255 := by have := h.ttl; omega
  have hp : (p : Int) ≤ 255 := by have := h.proto; omega
  have hsb : s < 4294967296 := h.src
  have hdb : d < 4294967296 := h.dst
  have hib : i < 65536 := h.id
  clear h
  have hE : List.map bV [0, 0, UInt8.ofNat t, UInt8.ofNat p, 0, 0] = [.int .u8 0, .int .u8 0, .int .u8 t, .int .u8 p, .int .u8 0, .int .u8 0] := by
    have h1 : t % 256 = t := by omega
    have h2 : p % 256 = p := by omega
    simp [bV, h1, h2]
  have HE := Lib.hid hE
  clear hE
  obtain ⟨L, hL⟩ : ∃ L : Nat, L = 20 + b.size := ⟨_, rfl⟩
  have hLi : (20 : Int) + b.size = L := by omega
  have hL4 : L ≤ 400 := by omega
  have HL := Lib.hid hL
  clear hL
  go_enter Try.func64, Try.ntmps64
  go_wp2
  generalize hw0 : World.alloc w (.cells #[.int .i64 s, .int .i64 d, .int .i64 p, .int .i64 t, .int .i64 i, .string b] 39) = w0
  have hblk : w0.heap[World.heap w |>.size]? = some (.cells #[.int .i64 s, .int .i64 d, .int .i64 p, .int .i64 t, .int .i64 i, .string b] 39 (0, 0)) := by rw [← hw0]; exact heap_alloc_new _ _
  have hlt : (World.heap w).size < w0.heap.size := (Array.getElem?_eq_some_iff.1 hblk).1
  have hB0 : Below (World.heap w).size w w0 := by rw [← hw0]; exact (Below.refl _ _).alloc (Nat.le_refl _) _
  clear hw0
  have hcell : ∀ W, Below w0.heap.size w0 W → ∀ j, W.cell? ⟨w.heap.size, j, none⟩ = #[Value.int .i64 s, .int .i64 d, .int .i64 p, .int .i64 t, .int .i64 i, .string b][j]? := fun W hW j => (hW.cell hlt).trans (blk_cell hblk j)
  refine wp_region_lex 24 (by kernel_rfl) (by kernel_rfl) (JB w0) LeB (packetBytesφ w.heap.size s d p t i L) ?_ JB.mono ?_ ?_
  · intro j sp x v W W' hj hL h
    unfold packetBytesφ at hj
    split at hj <;> first | (cases hj; first | exact h | exact BsSp.st hL h | exact ArgRow.st hL h | exact OwnSp.st hL h | exact AllocSp.st hL h) | cases hj
  · exact (Below.refl _ _).drew
  simp only [List.take_succ_cons, List.take_zero, List.drop_succ_cons, List.drop_zero, pairs, List.zipIdx_cons, List.zipIdx_nil, List.map_cons, List.map_nil, Nat.zero_add, Nat.reduceAdd]
  (repeat (first | (refine lex_pure rfl rfl (fun K hK => ?_); go_simp; refine hK _ ?_; clear hK K; try simp (disch := omega) only [IntWalk.i64_in, IntWalk.u8_in, Int.add_sub_cancel, Int.tmod_eq_emod_of_nonneg, Int.tdiv_eq_ediv_of_nonneg]) | (refine lex_load rfl rfl _ (fun m W hJ hF => (by have cc := hcell W hJ; go_simp; rfl)) ?_; try simp (disch := omega) only [IntWalk.i64_in, IntWalk.u8_in, Int.add_sub_cancel, Int.tmod_eq_emod_of_nonneg, Int.tdiv_eq_ediv_of_nonneg]) | (refine lex_sadd rfl rfl rfl rfl rfl (by first | omega | (simp only [ByteArray.size_append]; omega)) ?_; go_simp)))
  refine lexB_row #[.int .u8 69, .int .u8 0] rfl rfl (by simp [argsOf, Op.operands, Act.put, Act.eval]) LeB.of (fun W => by go_simp) (fun b0 => ?_)
  (repeat (first | (refine lex_pure rfl rfl (fun K hK => ?_); go_simp; refine hK _ ?_; clear hK K; try simp (disch := omega) only [IntWalk.i64_in, IntWalk.u8_in, Int.add_sub_cancel, Int.tmod_eq_emod_of_nonneg, Int.tdiv_eq_ediv_of_nonneg]) | (refine lex_load rfl rfl _ (fun m W hJ hF => (by have cc := hcell W hJ; go_simp; rfl)) ?_; try simp (disch := omega) only [IntWalk.i64_in, IntWalk.u8_in, Int.add_sub_cancel, Int.tmod_eq_emod_of_nonneg, Int.tdiv_eq_ediv_of_nonneg]) | (refine lex_sadd rfl rfl rfl rfl rfl (by first | omega | (simp only [ByteArray.size_append]; omega)) ?_; go_simp)))
  refine lex_eff' (sp := BsSp (beN (L) 2)) rfl rfl (by intro _ _ _ _ h; exact h) (fun m W hJ hF => ?_) (fun v x hh => ?_) rfl
  · refine gives_call Try.call112 ((be_ok (L) 2 W (by omega) (by omega)).mono ?_)
    rintro e w' ⟨rfl, h1, h2⟩
    exact ⟨_, rfl, hJ.step h2, LeB.of h2, _, _, by rw [beN_len], by rw [beN_len]; exact Nat.le_refl _, by simpa using Rd.block h1 0⟩
  obtain ⟨_, _, -, ⟨A5, c5, rfl, hc5, -⟩, -⟩ := hh
  (repeat (first | (refine lex_pure rfl rfl (fun K hK => ?_); go_simp; refine hK _ ?_; clear hK K; try simp (disch := omega) only [IntWalk.i64_in, IntWalk.u8_in, Int.add_sub_cancel, Int.tmod_eq_emod_of_nonneg, Int.tdiv_eq_ediv_of_nonneg]) | (refine lex_load rfl rfl _ (fun m W hJ hF => (by have cc := hcell W hJ; go_simp; rfl)) ?_; try simp (disch := omega) only [IntWalk.i64_in, IntWalk.u8_in, Int.add_sub_cancel, Int.tmod_eq_emod_of_nonneg, Int.tdiv_eq_ediv_of_nonneg]) | (refine lex_sadd rfl rfl rfl rfl rfl (by first | omega | (simp only [ByteArray.size_append]; omega)) ?_; go_simp)))
  refine lex_eff' (sp := BsSp (beN (i) 2)) rfl rfl (by intro _ _ _ _ h; exact h) (fun m W hJ hF => ?_) (fun v x hh => ?_) rfl
  · refine gives_call Try.call112 ((be_ok (i) 2 W (by omega) (by omega)).mono ?_)
    rintro e w' ⟨rfl, h1, h2⟩
    exact ⟨_, rfl, hJ.step h2, LeB.of h2, _, _, by rw [beN_len], by rw [beN_len]; exact Nat.le_refl _, by simpa using Rd.block h1 0⟩
  obtain ⟨_, _, -, ⟨A8, c8, rfl, hc8, -⟩, -⟩ := hh
  (repeat (first | (refine lex_pure rfl rfl (fun K hK => ?_); go_simp; refine hK _ ?_; clear hK K; try simp (disch := omega) only [IntWalk.i64_in, IntWalk.u8_in, Int.add_sub_cancel, Int.tmod_eq_emod_of_nonneg, Int.tdiv_eq_ediv_of_nonneg]) | (refine lex_load rfl rfl _ (fun m W hJ hF => (by have cc := hcell W hJ; go_simp; rfl)) ?_; try simp (disch := omega) only [IntWalk.i64_in, IntWalk.u8_in, Int.add_sub_cancel, Int.tmod_eq_emod_of_nonneg, Int.tdiv_eq_ediv_of_nonneg]) | (refine lex_sadd rfl rfl rfl rfl rfl (by first | omega | (simp only [ByteArray.size_append]; omega)) ?_; go_simp)))
  refine lexB_row #[.int .u8 0, .int .u8 0, .int .u8 t, .int .u8 p, .int .u8 0, .int .u8 0] rfl rfl (by simp [argsOf, Op.operands, Act.put, Act.eval]) LeB.of (fun W => by go_simp) (fun b15 => ?_)
  (repeat (first | (refine lex_pure rfl rfl (fun K hK => ?_); go_simp; refine hK _ ?_; clear hK K; try simp (disch := omega) only [IntWalk.i64_in, IntWalk.u8_in, Int.add_sub_cancel, Int.tmod_eq_emod_of_nonneg, Int.tdiv_eq_ediv_of_nonneg]) | (refine lex_load rfl rfl _ (fun m W hJ hF => (by have cc := hcell W hJ; go_simp; rfl)) ?_; try simp (disch := omega) only [IntWalk.i64_in, IntWalk.u8_in, Int.add_sub_cancel, Int.tmod_eq_emod_of_nonneg, Int.tdiv_eq_ediv_of_nonneg]) | (refine lex_sadd rfl rfl rfl rfl rfl (by first | omega | (simp only [ByteArray.size_append]; omega)) ?_; go_simp)))
  refine lex_eff' (sp := BsSp (beN (s) 4)) rfl rfl (by intro _ _ _ _ h; exact h) (fun m W hJ hF => ?_) (fun v x hh => ?_) rfl
  · refine gives_call Try.call112 ((be_ok (s) 4 W (by omega) (by omega)).mono ?_)
    rintro e w' ⟨rfl, h1, h2⟩
    exact ⟨_, rfl, hJ.step h2, LeB.of h2, _, _, by rw [beN_len], by rw [beN_len]; exact Nat.le_refl _, by simpa using Rd.block h1 0⟩
  obtain ⟨_, _, -, ⟨A18, c18, rfl, hc18, -⟩, -⟩ := hh
  (repeat (first | (refine lex_pure rfl rfl (fun K hK => ?_); go_simp; refine hK _ ?_; clear hK K; try simp (disch := omega) only [IntWalk.i64_in, IntWalk.u8_in, Int.add_sub_cancel, Int.tmod_eq_emod_of_nonneg, Int.tdiv_eq_ediv_of_nonneg]) | (refine lex_load rfl rfl _ (fun m W hJ hF => (by have cc := hcell W hJ; go_simp; rfl)) ?_; try simp (disch := omega) only [IntWalk.i64_in, IntWalk.u8_in, Int.add_sub_cancel, Int.tmod_eq_emod_of_nonneg, Int.tdiv_eq_ediv_of_nonneg]) | (refine lex_sadd rfl rfl rfl rfl rfl (by first | omega | (simp only [ByteArray.size_append]; omega)) ?_; go_simp)))
  refine lex_eff' (sp := BsSp (beN (d) 4)) rfl rfl (by intro _ _ _ _ h; exact h) (fun m W hJ hF => ?_) (fun v x hh => ?_) rfl
  · refine gives_call Try.call112 ((be_ok (d) 4 W (by omega) (by omega)).mono ?_)
    rintro e w' ⟨rfl, h1, h2⟩
    exact ⟨_, rfl, hJ.step h2, LeB.of h2, _, _, by rw [beN_len], by rw [beN_len]; exact Nat.le_refl _, by simpa using Rd.block h1 0⟩
  obtain ⟨_, _, -, ⟨A21, c21, rfl, hc21, -⟩, -⟩ := hh
  (repeat (first | (refine lex_pure rfl rfl (fun K hK => ?_); go_simp; refine hK _ ?_; clear hK K; try simp (disch := omega) only [IntWalk.i64_in, IntWalk.u8_in, Int.add_sub_cancel, Int.tmod_eq_emod_of_nonneg, Int.tdiv_eq_ediv_of_nonneg]) | (refine lex_load rfl rfl _ (fun m W hJ hF => (by have cc := hcell W hJ; go_simp; rfl)) ?_; try simp (disch := omega) only [IntWalk.i64_in, IntWalk.u8_in, Int.add_sub_cancel, Int.tmod_eq_emod_of_nonneg, Int.tdiv_eq_ediv_of_nonneg]) | (refine lex_sadd rfl rfl rfl rfl rfl (by first | omega | (simp only [ByteArray.size_append]; omega)) ?_; go_simp)))
  refine lexB_row #[.slice (some ⟨b0, 0, none⟩) 2 2, .slice A5 (beN L 2).length c5, .slice A8 (beN i 2).length c8, .slice (some ⟨b15, 0, none⟩) 6 6, .slice A18 (beN s 4).length c18, .slice A21 (beN d 4).length c21] rfl rfl (by simp [argsOf, Op.operands, Act.put, Act.eval]) LeB.of (fun W => by go_simp) (fun b22 => ?_)
  (repeat (first | (refine lex_pure rfl rfl (fun K hK => ?_); go_simp; refine hK _ ?_; clear hK K; try simp (disch := omega) only [IntWalk.i64_in, IntWalk.u8_in, Int.add_sub_cancel, Int.tmod_eq_emod_of_nonneg, Int.tdiv_eq_ediv_of_nonneg]) | (refine lex_load rfl rfl _ (fun m W hJ hF => (by have cc := hcell W hJ; go_simp; rfl)) ?_; try simp (disch := omega) only [IntWalk.i64_in, IntWalk.u8_in, Int.add_sub_cancel, Int.tmod_eq_emod_of_nonneg, Int.tdiv_eq_ediv_of_nonneg]) | (refine lex_sadd rfl rfl rfl rfl rfl (by first | omega | (simp only [ByteArray.size_append]; omega)) ?_; go_simp)))
  refine lex_eff' (sp := OwnSp w.heap.size (headB s d p t i L)) rfl rfl (by intro _ _ _ _ h; exact h) (fun m W hJ hF => ?_) (fun v x hh => ?_) rfl
  · have rr := ArgRow.rd (hF 22 (by kernel_rfl) _ _ _ rfl rfl)
    have r0 : Rd W (some ⟨b0, 0, none⟩) (List.map bV ([69, 0])) := ArgRow.rd (hF 0 (by kernel_rfl) _ _ _ rfl rfl)
    have r5 := BsSp.rd (hF 5 (by kernel_rfl) _ _ _ rfl rfl)
    have r8 := BsSp.rd (hF 8 (by kernel_rfl) _ _ _ rfl rfl)
    have r15 : Rd W (some ⟨b15, 0, none⟩) (List.map bV ([0, 0, UInt8.ofNat t, UInt8.ofNat p, 0, 0])) := by rw [HE.out]; exact ArgRow.rd (hF 15 (by kernel_rfl) _ _ _ rfl rfl)
    have r18 := BsSp.rd (hF 18 (by kernel_rfl) _ _ _ rfl rfl)
    have r21 := BsSp.rd (hF 21 (by kernel_rfl) _ _ _ rfl rfl)
    have hpc : pcs [⟨some ⟨b0, 0, none⟩, 2, [69, 0]⟩, ⟨A5, c5, beN L 2⟩, ⟨A8, c8, beN i 2⟩, ⟨some ⟨b15, 0, none⟩, 6, [0, 0, UInt8.ofNat t, UInt8.ofNat p, 0, 0]⟩, ⟨A18, c18, beN s 4⟩, ⟨A21, c21, beN d 4⟩] = headB s d p t i L := by simp [pcs, headB]
    refine gives_call Try.call111 ((concat_ok _ 6 [⟨some ⟨b0, 0, none⟩, 2, [69, 0]⟩, ⟨A5, c5, beN L 2⟩, ⟨A8, c8, beN i 2⟩, ⟨some ⟨b15, 0, none⟩, 6, [0, 0, UInt8.ofNat t, UInt8.ofNat p, 0, 0]⟩, ⟨A18, c18, beN s 4⟩, ⟨A21, c21, beN d 4⟩] W rr (by intro p hp; simp only [List.mem_cons, List.not_mem_nil, or_false] at hp; rcases hp with rfl | rfl | rfl | rfl | rfl | rfl <;> assumption) (by simp) (by simp [pcs, sb_len, beN_len, sb_append] <;> omega)).mono ?_)
    rintro e w' ⟨v, rfl, h1, h2⟩
    rw [hpc] at h1
    exact ⟨v, rfl, hJ.step h2, LeB.of h2, own_base h1 (Nat.le_trans hB0.size hJ.size)⟩
  obtain ⟨_, _, -, -, -⟩ := hh
  (repeat (first | (refine lex_pure rfl rfl (fun K hK => ?_); go_simp; refine hK _ ?_; clear hK K; try simp (disch := omega) only [IntWalk.i64_in, IntWalk.u8_in, Int.add_sub_cancel, Int.tmod_eq_emod_of_nonneg, Int.tdiv_eq_ediv_of_nonneg]) | (refine lex_load rfl rfl _ (fun m W hJ hF => (by have cc := hcell W hJ; go_simp; rfl)) ?_; try simp (disch := omega) only [IntWalk.i64_in, IntWalk.u8_in, Int.add_sub_cancel, Int.tmod_eq_emod_of_nonneg, Int.tdiv_eq_ediv_of_nonneg]) | (refine lex_sadd rfl rfl rfl rfl rfl (by first | omega | (simp only [ByteArray.size_append]; omega)) ?_; go_simp)))
  refine lex_nil (fun m W hJ hF => ?_)
  have hown := hF 23 rfl _ _ _ rfl rfl
  have hB := Below.trans hB0 (Below.mono hJ hB0.size)
  have hblk1 := (hJ.block _ hlt).trans hblk
  clear hF hJ hcell
  obtain ⟨hlen, hcase⟩ := hown
  rw [headB_len] at hcase
  rcases hcase with ⟨-, h0⟩ | ⟨g, cap, cur, rfl, hbase, hheap, hnc, hcm, hsz, htake⟩
  · exact absurd h0 (by omega)
  have h10 : ¬ cap = 10 := by omega
  have hc1 : (10 : Int) ≤ cap := by omega
  have hc2 : (20 : Int) ≤ cap := by omega
  have c5 := blk_cell hblk1 5
  simp at c5
  have hlb : g < W.heap.size := (Array.getElem?_eq_some_iff.1 hheap).1
  have HH := Lib.hid (And.intro hheap (And.intro htake (And.intro hlen hsz)))
  have HC := Lib.hid (And.intro hblk (And.intro hblk1 c5))
  have HG := Lib.hid (And.intro hbase (And.intro hcm hnc))
  clear hheap htake hlen hblk hblk1 hsz c5 hcm hnc
  go_wp2_with fail
  have hcs : csum s d p t i L ≤ 65535 := Nat.sub_le _ _
  refine wp_region_lex 5 (by kernel_rfl) (by kernel_rfl) (JB W) LeB (packetSumφ (csum s d p t i L)) ?_ JB.mono ?_ ?_
  · intro j sp x v W W' hj hL h
    unfold packetSumφ at hj
    split at hj <;> first | (cases hj; first | exact h | exact BsSp.st hL h) | cases hj
  · exact (Below.refl _ _).drew
  simp only [List.take_succ_cons, List.take_zero, List.drop_succ_cons, List.drop_zero, pairs, List.zipIdx_cons, List.zipIdx_nil, List.map_cons, List.map_nil, Nat.zero_add, Nat.reduceAdd]
  (repeat (refine lex_pure rfl rfl (fun K hK => ?_); go_simp; refine hK _ ?_; clear hK K; try simp (disch := omega) only [IntWalk.i64_in, IntWalk.u8_in, Int.add_sub_cancel, Int.tmod_eq_emod_of_nonneg, Int.tdiv_eq_ediv_of_nonneg]))
  refine lex_eff' (sp := fun _ v _ => v = .int .i64 (csum s d p t i L)) rfl rfl (by intro _ _ _ _ h; exact h) (fun m W hJ hF => ?_) (fun v x hh => ?_) rfl
  · have hr' := rd_take ((hJ.block g hlb).trans HH.out.1) HH.out.2.1
    refine gives_call Try.call117 ((headB_len s d p t i L ▸ sum16_ok (some ⟨g, 0, none⟩) cap (headB s d p t i L) (by rw [headB_len]; omega) _ hr').mono ?_)
    rintro e w' ⟨rfl, rfl⟩
    exact ⟨_, rfl, hJ, LeB.of (Below.refl _ _), rfl⟩
  obtain ⟨_, _, -, rfl, -⟩ := hh
  (repeat (refine lex_pure rfl rfl (fun K hK => ?_); go_simp; refine hK _ ?_; clear hK K; try simp (disch := omega) only [IntWalk.i64_in, IntWalk.u8_in, Int.add_sub_cancel, Int.tmod_eq_emod_of_nonneg, Int.tdiv_eq_ediv_of_nonneg]))
  refine lex_eff' (sp := BsSp (beN (csum s d p t i L) 2)) rfl rfl (by intro _ _ _ _ h; exact h) (fun m W hJ hF => ?_) (fun v x hh => ?_) rfl
  · refine gives_call Try.call112 ((be_ok (csum s d p t i L) 2 _ (by omega) (by omega)).mono ?_)
    rintro e w' ⟨rfl, h1, h2⟩
    exact ⟨_, rfl, hJ.step h2, LeB.of h2, _, _, by rw [beN_len], by rw [beN_len]; exact Nat.le_refl _, by simpa using Rd.block h1 0⟩
  obtain ⟨_, _, -, ⟨A4, c4, rfl, hc4, -⟩, -⟩ := hh
  (repeat (refine lex_pure rfl rfl (fun K hK => ?_); go_simp; refine hK _ ?_; clear hK K; try simp (disch := omega) only [IntWalk.i64_in, IntWalk.u8_in, Int.add_sub_cancel, Int.tmod_eq_emod_of_nonneg, Int.tdiv_eq_ediv_of_nonneg]))
  refine lex_nil (fun m W2 hJ2 hF => ?_)
  have hrA := BsSp.rd (hF 4 rfl _ _ _ rfl rfl)
  have hheap2 := (hJ2.block g hlb).trans HH.out.1
  have hne : w.heap.size ≠ g := fun e => by
    have h1 := HC.out.2.1
    rw [e, HH.out.1] at h1
    injection h1 with h1
    injection h1 with h1 h2
    revert h2
    decide
  have hc5' : W2.cell? ⟨w.heap.size, 5, none⟩ = some (.string b) := (hJ2.cell (World.block_lt_of_cell? W _ HC.out.2.2)).trans HC.out.2.2
  have hrun := copy_row W2 g cur 10 10 (cap - 10) A4 c4 (beN (csum s d p t i L) 2) hheap2 (by rw [beN_len, HH.out.2.2.2]; have := HG.out; omega) (by rw [beN_len]; omega) (by intro e; have := congrArg List.length e; rw [beN_len] at this; cases this) hrA
  have hheap3 := setCells_heap ((beN (csum s d p t i L) 2).map bV) 10 W2 cur hheap2
  have hB3 : Below w.heap.size w (W2.setCells g 10 ((beN (csum s d p t i L) 2).map bV)) := setCells_below g HG.out.1 _ _ (Below.trans hB (Below.mono hJ2 hB.size))
  have hc5 : (W2.setCells g 10 ((beN (csum s d p t i L) 2).map bV)).cell? ⟨w.heap.size, 5, none⟩ = some (.string b) := by
    rw [World.cell?_setCells_out _ _ _ _ _ (fun e _ => absurd e hne)]; exact hc5'
  generalize hW3 : W2.setCells g 10 ((beN (csum s d p t i L) 2).map bV) = W3 at *
  have hown : W3.ownsRow w.heap.size 5 1 (.slice (some ⟨g, 0, none⟩) (pkH s d p t i L).length cap) (pkH s d p t i L).length ((pkH s d p t i L).map bV) := by
    rw [pkH_len]
    refine ⟨by simp [pkH_len], .inr ⟨g, cap, _, rfl, HG.out.1, hheap3, HG.out.2.2, HG.out.2.1, by rw [setL_size]; exact HH.out.2.2.2, ?_⟩⟩
    obtain ⟨x, y, exy⟩ := beN_two (csum s d p t i L)
    rw [pkH, exy, ← set_head, List.map_set, List.map_set, ← HH.out.2.1]
    simp [setL, List.take_set]
  obtain ⟨v', W4, hrun4, hown4, hg4⟩ := append_str W3 w.heap.size _ (pkH s d p t i L) hown b (by rw [pkH_len]; omega) hB3.size
  have hB4 : Below w.heap.size w W4 := hB3.grown hg4 hB3.size (fun k e => (hown.lt k e).1)
  have HW := Lib.hid hown4
  have HR4 := Lib.hid hrun4
  have HR3 := Lib.hid hrun
  clear hown4 hrun4 hown hrun hF hJ2 hheap2 hheap3 hrA hc5' hW3 hB3 hB
  go_wp2_with fail
  rw [HR3.out]
  go_wp2_with (at_builtin; (refine wpList_append_run rfl _ _ _ _ rfl rfl rfl (by have := HR4.out; rwa [pkH_len] at this) ?_))
  go_ret
  refine ⟨_, rfl, ?_, hB4⟩
  have := HW.out
  rw [HL.out] at this
  exact this
end Go.Proofs.Ytdenjmdngmmodaa
