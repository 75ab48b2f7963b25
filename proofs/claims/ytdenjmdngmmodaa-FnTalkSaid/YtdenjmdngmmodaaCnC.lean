/- Connections: the model, and how one opens. -/
import Derived.Test.YtdenjmdngmmodaaCnB
namespace Go.Proofs.Ytdenjmdngmmodaa
open Go.RowKit
set_option linter.unusedVariables false
set_option linter.unusedSimpArgs false
set_option maxRecDepth 20000
set_option maxHeartbeats 600000

structure Cn where
  mac : ByteArray
  ip : Nat
  port : Nat
  dst : Nat
  st : Nat
  una : Nat
  nxt : Nat
  want : Nat
  inn : ByteArray
  out : ByteArray
  fin : Bool
@[reducible] def Cn.cells (c : Cn) : Array Value := #[.string c.mac, .int .i64 c.ip, .int .i64 c.port, .int .i64 c.dst, .int .i64 c.st, .int .i64 c.una, .int .i64 c.nxt, .int .i64 c.want, .string c.inn, .string c.out, .bool c.fin]
structure Sg where
  src : Nat
  dst : Nat
  seq : Nat
  ack : Nat
  flags : Nat
  space : Nat
  data : ByteArray
@[reducible] def Sg.cells (g : Sg) : Array Value := #[.int .i64 g.src, .int .i64 g.dst, .int .i64 g.seq, .int .i64 g.ack, .int .i64 g.flags, .int .i64 g.space, .string g.data]
theorem infoCn : (Try.prog.info? 48).map (·.size) = some 11 := by kernel_rfl
theorem infoSg : (Try.prog.info? 55).map (·.size) = some 7 := by kernel_rfl

def onw (a n : Nat) : Nat := (a + n) % 4294967296
theorem onward_ok (a n : Nat) (ha : a < 4294967296) (hn : n ≤ 1000000) (w : World) : Calls Try.prog 119 #[.int .i64 a, .int .i64 n] w fun e w' => e = .returned (.int .i64 (onw a n)) ∧ w = w' := by
  have t1 : ((a : Int) + n).tmod 4294967296 = (onw a n : Int) := by rw [Int.tmod_eq_emod_of_nonneg (by omega)]; unfold onw; omega
  have t2 : ((a : Int) + n) % 4294967296 = (onw a n : Int) := by unfold onw; omega
  have a1 : (a : Int) < 4294967296 := by omega
  have b1 : (n : Int) ≤ 1000000 := by omega
  go_enter Try.func119, Try.ntmps119
  go_wp2
  go_ret
  exact ⟨rfl, rfl⟩
theorem tell_ok (c : Cn) (g : Nat) (seq flags : Nat) (data : ByteArray) (w : World) (hb : w.heap[g]? = some (.cells c.cells 48 (0, 0))) :
    Calls Try.prog 120 #[.pointer (some ⟨g, 0, none⟩), .int .i64 seq, .int .i64 flags, .string data] w fun e w' => e = .returned (.agg (Sg.cells ⟨80, c.port, seq, c.want, flags, 1000, data⟩)) ∧ Below w.heap.size w w' := by
  have c2 := blk_cell hb 2
  have c7 := blk_cell hb 7
  simp at c2 c7
  go_enter Try.func120, Try.ntmps120
  go_wp2
  have hg := (Array.getElem?_eq_some_iff.1 hb).1
  generalize hw0 : World.alloc w (.cells #[.int .i64 0, .int .i64 0, .int .i64 0, .int .i64 0, .int .i64 0, .int .i64 0, .string ⟨#[]⟩] 55) = w0
  have hblk : w0.heap[World.heap w |>.size]? = some (.cells #[.int .i64 0, .int .i64 0, .int .i64 0, .int .i64 0, .int .i64 0, .int .i64 0, .string ⟨#[]⟩] 55 (0, 0)) := by rw [← hw0]; exact heap_alloc_new _ _
  have hlt : (World.heap w).size < w0.heap.size := (Array.getElem?_eq_some_iff.1 hblk).1
  have hB0 : Below (World.heap w).size w w0 := by rw [← hw0]; exact (Below.refl _ _).alloc (Nat.le_refl _) _
  clear hw0
  have hcell : ∀ W, Below w0.heap.size w0 W → W.cell? ⟨g, 2, none⟩ = some (.int .i64 c.port) ∧ W.cell? ⟨g, 7, none⟩ = some (.int .i64 c.want) := fun W hW => by
    have h := (Below.trans hB0 (Below.mono hW hB0.size)).block g hg
    have h1 := blk_cell (h.trans hb) 2
    have h2 := blk_cell (h.trans hb) 7
    simp at h1 h2
    exact ⟨h1, h2⟩
  have HB := Lib.hid hb
  clear hb c2 c7
  refine wp_region_lex 12 (by kernel_rfl) (by kernel_rfl) (JB w0) LeB (fun _ => none) ?_ JB.mono ?_ ?_
  · intro j sp x v W W' hj hL h
    cases hj
  · exact (Below.refl _ _).drew
  simp only [List.take_succ_cons, List.take_zero, List.drop_succ_cons, List.drop_zero, pairs, List.zipIdx_cons, List.zipIdx_nil, List.map_cons, List.map_nil, Nat.zero_add, Nat.reduceAdd]
  (repeat (first | (refine lex_pure rfl rfl (fun K hK => ?_); go_simp; refine hK _ ?_; clear hK K; try simp (disch := omega) only [IntWalk.i64_in, IntWalk.u8_in, Int.add_sub_cancel, Int.tmod_eq_emod_of_nonneg, Int.tdiv_eq_ediv_of_nonneg]) | (refine lex_load rfl rfl _ (fun m W hJ hF => (by have cc := hcell W hJ; go_simp; rfl)) ?_; try simp (disch := omega) only [IntWalk.i64_in, IntWalk.u8_in, Int.add_sub_cancel, Int.tmod_eq_emod_of_nonneg, Int.tdiv_eq_ediv_of_nonneg]) | (refine lex_sadd rfl rfl rfl rfl rfl (by first | omega | (simp only [ByteArray.size_append]; omega)) ?_; go_simp)))
  refine lex_nil (fun m W hJ hF => ?_)
  have hres := (hJ.block _ hlt).trans hblk
  have hB := Below.trans hB0 (Below.mono hJ hB0.size)
  clear hF hcell hJ hblk
  have Hb := Lib.hid hres
  clear hres
  go_wp2_with (refine wpList_store_row rfl _ _ 55 rfl w.heap.size 55 _ _ rfl rfl Hb.out rfl infoSg rfl ?_)
  refine bodyPost_ret (ret_cell rfl rfl (setRow_heap _ _ _ _ _ _ Hb.out) Try.underlying55 rfl infoSg) rfl ?_
  exact ⟨rfl, below_setRow hB (Nat.le_refl _) _⟩

theorem opened_ok (c : Cn) (g : Nat) (w : World) (hb : w.heap[g]? = some (.cells c.cells 48 (0, 0))) :
    Calls Try.prog 73 #[.pointer (some ⟨g, 0, none⟩)] w fun e w' => ∃ b, e = .returned (.slice (some ⟨b, 0, none⟩) 1 1) ∧ w.heap.size ≤ b ∧ w'.heap[b]? = some (.cells (Sg.cells ⟨80, c.port, c.una, c.want, 18, 1000, ⟨#[]⟩⟩) 55 (0, 0)) ∧ Below w.heap.size w w' := by
  have c5 := blk_cell hb 5
  simp at c5
  go_enter Try.func73, Try.ntmps73
  go_wp2_with fail
  refine (tell_ok c g c.una 18 ⟨#[]⟩ w hb).mono ?_
  rintro e w1 ⟨rfl, hB⟩
  go_wp2
  go_ret
  refine ⟨w1.heap.size, ?_, hB.size, ?_, hB.alloc hB.size _⟩
  · rfl
  · exact heap_alloc_new _ _

def newCn (mac : ByteArray) (ip dst : Nat) (g : Sg) (isn : Nat) : Cn := ⟨mac, ip, g.src, dst, 1, isn, onw isn 1, onw g.seq 1, ⟨#[]⟩, ⟨#[]⟩, false⟩
def newConnφ (isn seq : Nat) : Nat → Option Spec
  | 7 => some fun _ v _ => v = .int .i64 (onw isn 1)
  | 10 => some fun _ v _ => v = .int .i64 (onw seq 1)
  | _ => none
theorem newConn_ok (mac : ByteArray) (ip dst : Nat) (g : Sg) (isn : Nat) (hi : isn < 4294967296) (hs : g.seq < 4294967296) (w : World) :
    Calls Try.prog 72 #[.string mac, .int .i64 ip, .int .i64 dst, .agg g.cells, .int .i64 isn] w fun e w' => e = .returned (.agg (newCn mac ip dst g isn).cells) ∧ Below w.heap.size w w' := by
  go_enter Try.func72, Try.ntmps72
  go_wp2
  have HSZ1 : (w.alloc (.cells #[.int .i64 g.src, .int .i64 g.dst, .int .i64 g.seq, .int .i64 g.ack, .int .i64 g.flags, .int .i64 g.space, .string g.data] 55)).heap.size = w.heap.size + 1 := by simp
  have hblk : (w.alloc (.cells #[.int .i64 g.src, .int .i64 g.dst, .int .i64 g.seq, .int .i64 g.ack, .int .i64 g.flags, .int .i64 g.space, .string g.data] 55)).heap[w.heap.size]? = some (.cells #[.int .i64 g.src, .int .i64 g.dst, .int .i64 g.seq, .int .i64 g.ack, .int .i64 g.flags, .int .i64 g.space, .string g.data] 55 (0, 0)) := heap_alloc_new _ _
  have hB0 : Below w.heap.size w (w.alloc (.cells #[.int .i64 g.src, .int .i64 g.dst, .int .i64 g.seq, .int .i64 g.ack, .int .i64 g.flags, .int .i64 g.space, .string g.data] 55)) := (Below.refl _ _).alloc (Nat.le_refl _) _
  generalize w.alloc (.cells #[.int .i64 g.src, .int .i64 g.dst, .int .i64 g.seq, .int .i64 g.ack, .int .i64 g.flags, .int .i64 g.space, .string g.data] 55) = w0 at HSZ1 hblk hB0 ⊢
  have hlt : w.heap.size < w0.heap.size := by omega
  have hsz : w0.heap.size = w.heap.size + 1 := HSZ1
  rw [← hsz]
  clear hsz HSZ1
  have hblk0 := hblk
  have hlt0 := hlt
  have hB00 := hB0
  clear hblk hlt hB0
  generalize hw0 : World.alloc w0 (.cells #[.string ⟨#[]⟩, .int .i64 0, .int .i64 0, .int .i64 0, .int .i64 0, .int .i64 0, .int .i64 0, .int .i64 0, .string ⟨#[]⟩, .string ⟨#[]⟩, .bool false] 48) = w1
  have hblk : w1.heap[World.heap w0 |>.size]? = some (.cells #[.string ⟨#[]⟩, .int .i64 0, .int .i64 0, .int .i64 0, .int .i64 0, .int .i64 0, .int .i64 0, .int .i64 0, .string ⟨#[]⟩, .string ⟨#[]⟩, .bool false] 48 (0, 0)) := by rw [← hw0]; exact heap_alloc_new _ _
  have hlt : (World.heap w0).size < w1.heap.size := (Array.getElem?_eq_some_iff.1 hblk).1
  have hB0 : Below (World.heap w0).size w0 w1 := by rw [← hw0]; exact (Below.refl _ _).alloc (Nat.le_refl _) _
  clear hw0
  have hcell : ∀ W, Below w1.heap.size w1 W → W.cell? ⟨w.heap.size, 0, none⟩ = some (.int .i64 g.src) ∧ W.cell? ⟨w.heap.size, 2, none⟩ = some (.int .i64 g.seq) := fun W hW => by
    have h := ((Below.trans hB0 (Below.mono hW hB0.size)).block _ hlt0).trans hblk0
    have h1 := blk_cell h 0
    have h2 := blk_cell h 2
    simp at h1 h2
    exact ⟨h1, h2⟩
  clear hblk0
  refine wp_region_lex 12 (by kernel_rfl) (by kernel_rfl) (JB w1) LeB (newConnφ isn g.seq) ?_ JB.mono ?_ ?_
  · intro j sp x v W W' hj hL h
    unfold newConnφ at hj
    split at hj <;> first | (cases hj; exact h) | cases hj
  · exact (Below.refl _ _).drew
  simp only [List.take_succ_cons, List.take_zero, List.drop_succ_cons, List.drop_zero, pairs, List.zipIdx_cons, List.zipIdx_nil, List.map_cons, List.map_nil, Nat.zero_add, Nat.reduceAdd]
  (repeat (first | (refine lex_pure rfl rfl (fun K hK => ?_); go_simp; refine hK _ ?_; clear hK K; try simp (disch := omega) only [IntWalk.i64_in, IntWalk.u8_in, Int.add_sub_cancel, Int.tmod_eq_emod_of_nonneg, Int.tdiv_eq_ediv_of_nonneg]) | (refine lex_load rfl rfl _ (fun m W hJ hF => (by have cc := hcell W hJ; go_simp; rfl)) ?_; try simp (disch := omega) only [IntWalk.i64_in, IntWalk.u8_in, Int.add_sub_cancel, Int.tmod_eq_emod_of_nonneg, Int.tdiv_eq_ediv_of_nonneg]) | (refine lex_sadd rfl rfl rfl rfl rfl (by first | omega | (simp only [ByteArray.size_append]; omega)) ?_; go_simp)))
  refine lex_eff' (sp := fun _ v _ => v = .int .i64 (onw isn 1)) rfl rfl (by intro _ _ _ _ h; exact h) (fun m W hJ hF => ?_) (fun v x hh => ?_) rfl
  · refine gives_call Try.call119 ((onward_ok isn 1 hi (by omega) W).mono ?_)
    rintro e w' ⟨rfl, rfl⟩
    exact ⟨_, rfl, hJ, LeB.of (Below.refl _ _), rfl⟩
  obtain ⟨_, _, -, rfl, -⟩ := hh
  (repeat (first | (refine lex_pure rfl rfl (fun K hK => ?_); go_simp; refine hK _ ?_; clear hK K; try simp (disch := omega) only [IntWalk.i64_in, IntWalk.u8_in, Int.add_sub_cancel, Int.tmod_eq_emod_of_nonneg, Int.tdiv_eq_ediv_of_nonneg]) | (refine lex_load rfl rfl _ (fun m W hJ hF => (by have cc := hcell W hJ; go_simp; rfl)) ?_; try simp (disch := omega) only [IntWalk.i64_in, IntWalk.u8_in, Int.add_sub_cancel, Int.tmod_eq_emod_of_nonneg, Int.tdiv_eq_ediv_of_nonneg]) | (refine lex_sadd rfl rfl rfl rfl rfl (by first | omega | (simp only [ByteArray.size_append]; omega)) ?_; go_simp)))
  refine lex_eff' (sp := fun _ v _ => v = .int .i64 (onw g.seq 1)) rfl rfl (by intro _ _ _ _ h; exact h) (fun m W hJ hF => ?_) (fun v x hh => ?_) rfl
  · refine gives_call Try.call119 ((onward_ok g.seq 1 hs (by omega) W).mono ?_)
    rintro e w' ⟨rfl, rfl⟩
    exact ⟨_, rfl, hJ, LeB.of (Below.refl _ _), rfl⟩
  obtain ⟨_, _, -, rfl, -⟩ := hh
  (repeat (first | (refine lex_pure rfl rfl (fun K hK => ?_); go_simp; refine hK _ ?_; clear hK K; try simp (disch := omega) only [IntWalk.i64_in, IntWalk.u8_in, Int.add_sub_cancel, Int.tmod_eq_emod_of_nonneg, Int.tdiv_eq_ediv_of_nonneg]) | (refine lex_load rfl rfl _ (fun m W hJ hF => (by have cc := hcell W hJ; go_simp; rfl)) ?_; try simp (disch := omega) only [IntWalk.i64_in, IntWalk.u8_in, Int.add_sub_cancel, Int.tmod_eq_emod_of_nonneg, Int.tdiv_eq_ediv_of_nonneg]) | (refine lex_sadd rfl rfl rfl rfl rfl (by first | omega | (simp only [ByteArray.size_append]; omega)) ?_; go_simp)))
  refine lex_nil (fun m W hJ hF => ?_)
  have hres := (hJ.block _ hlt).trans hblk
  have hB := Below.trans hB00 (Below.mono (Below.trans hB0 (Below.mono hJ hB0.size)) hB00.size)
  clear hF hcell hJ hblk
  have Hb := Lib.hid hres
  clear hres
  go_wp2_with (refine wpList_store_row rfl _ _ 48 rfl w0.heap.size 48 _ _ rfl rfl Hb.out rfl infoCn rfl ?_)
  refine bodyPost_ret (ret_cell rfl rfl (setRow_heap _ _ _ _ _ _ Hb.out) Try.underlying48 rfl infoCn) rfl ?_
  exact ⟨rfl, below_setRow hB hB00.size _⟩
end Go.Proofs.Ytdenjmdngmmodaa
