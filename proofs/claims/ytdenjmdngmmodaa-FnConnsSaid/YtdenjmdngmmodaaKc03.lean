/- Packets, drawn. | Copying into a row of one's own, and a string's bytes put behind it. | Packets: right ones, and the first way to their bytes. | Packets: the second way to their bytes, and both calls. | Packets read. | Packets: what is read of what was written, and of what was turned. -/
import Derived.Test.YtdenjmdngmmodaaKc02
import Derived.Test.YtdenjmdngmmodaaKc01
import Derived.Laws.IdiomCopy
import Derived.Lib.AppendStr
namespace Go.Proofs.Ytdenjmdngmmodaa
open Go.RowKit
set_option linter.unusedVariables false
set_option linter.unusedSimpArgs false
set_option maxRecDepth 20000
set_option maxHeartbeats 1000000

theorem infoPk : (Try.prog.info? 39).map (·.size) = some 6 := by kernel_rfl
structure PacketOK (s d p t i : Nat) (b : ByteArray) : Prop where
  src : s < 4294967296
  dst : d < 4294967296
  proto : p < 256
  ttl : t < 256
  id : i < 65536
  body : b.size ≤ 380
abbrev pkV (s d p t i : Nat) (b : ByteArray) : Value := .agg #[.int .i64 s, .int .i64 d, .int .i64 p, .int .i64 t, .int .i64 i, .string b]
def PacketV (v : Value) : Prop := ∃ (s d p t i : Nat) (b : ByteArray), PacketOK s d p t i b ∧ b.size ≤ 4 ∧ v = .agg #[.int .i64 s, .int .i64 d, .int .i64 p, .int .i64 t, .int .i64 i, .string b]
def packetφ (g : Nat) : Nat → Option Spec
  | 1 => some (fun _ v _ => ∃ n : Int, v = .int .i64 n ∧ 167772162 ≤ n ∧ n ≤ 167772164)
  | 3 => some (fun _ v _ => ∃ n : Int, v = .int .i64 n ∧ n ∈ [16843009, 84215045, 84215303, 151587081])
  | 4 => some (RowSp g #[.int .i64 6, .int .i64 17, .int .i64 1, .int .i64 99] 3)
  | 6 => some fun _ v _ => InN 4 v
  | 10 => some fun _ v _ => InN 99 v
  | 12 => some (RowSp g #[.string ⟨#[]⟩, .string ⟨#[97]⟩, .string ⟨#[98, 111, 100, 121]⟩] 9)
  | 13 => some fun _ v _ => ∃ s ∈ [bstr [], bstr [97], bstr [98, 111, 100, 121]], v = .string s
  | _ => none
theorem packet_ok (g : Nat) (N : Int) (w : World) (hs : Src w g N) (hN : N ≤ 1000000) :
    Calls Try.prog 62 #[.pointer (some ⟨g, 0, none⟩)] w (SrcRet w g (N + 45) PacketV) := by
  have hlt0 := hs.lt
  go_enter Try.func62, Try.ntmps62
  go_wp2
  generalize hw0 : World.alloc w (.cells #[.int .i64 0, .int .i64 0, .int .i64 0, .int .i64 0, .int .i64 0, .string ⟨#[]⟩] 39) = w0
  have hblk : w0.heap[World.heap w |>.size]? = some (.cells #[.int .i64 0, .int .i64 0, .int .i64 0, .int .i64 0, .int .i64 0, .string ⟨#[]⟩] 39 (0, 0)) := by rw [← hw0]; exact heap_alloc_new _ _
  have hlt : (World.heap w).size < w0.heap.size := (Array.getElem?_eq_some_iff.1 hblk).1
  have hB0 : Below (World.heap w).size w w0 := by rw [← hw0]; exact (Below.refl _ _).alloc (Nat.le_refl _) _
  clear hw0
  have hs0 := hs.below hB0 hlt0
  refine wp_region_lex 15 (by kernel_rfl) (by kernel_rfl) (JSrc g N w0 15) (LeG g) (packetφ g) ?_ JSrc.mono ?_ ?_
  · intro j sp x v W W' hj hL h
    unfold packetφ at hj
    split at hj <;> first | (cases hj; exact h) | (cases hj; exact h.st hL) | cases hj
  · exact ⟨Nat.le_refl _, N, by omega, src_drew hs0, ⟨rfl, rfl, rfl, Nat.le_refl _, fun _ _ _ => rfl⟩⟩
  simp only [List.take_succ_cons, List.take_zero, List.drop_succ_cons, List.drop_zero, pairs, List.zipIdx_cons, List.zipIdx_nil, List.map_cons, List.map_nil, Nat.zero_add, Nat.reduceAdd]
  (repeat (refine lex_pure rfl rfl (fun K hK => ?_); go_simp; refine hK _ ?_; clear hK K; try simp (disch := omega) only [IntWalk.i64_in, IntWalk.u8_in, Int.add_sub_cancel, Int.tmod_eq_emod_of_nonneg, Int.tdiv_eq_ediv_of_nonneg]))
  refine lex_eff' rfl rfl (fun _ _ _ _ h => h) (fun m W hJ hF => ?_) (fun v x hh => ?_) rfl
  · obtain ⟨hm, M, hM, hs1, hg1⟩ := hJ
    refine gives_call Try.call75 ((lan_ok g M W hs1 (by omega)).mono ?_)
    rintro e w' ⟨v, rfl, hv, hs2, hg2⟩; exact ⟨v, rfl, JSrc.call hm hM hs2 hg2 hg1, hg2, hv⟩
  obtain ⟨_, _, -, ⟨a, rfl, ha0, ha1⟩, -⟩ := hh
  (repeat (refine lex_pure rfl rfl (fun K hK => ?_); go_simp; refine hK _ ?_; clear hK K; try simp (disch := omega) only [IntWalk.i64_in, IntWalk.u8_in, Int.add_sub_cancel, Int.tmod_eq_emod_of_nonneg, Int.tdiv_eq_ediv_of_nonneg]))
  refine lex_eff' rfl rfl (fun _ _ _ _ h => h) (fun m W hJ hF => ?_) (fun v x hh => ?_) rfl
  · obtain ⟨hm, M, hM, hs1, hg1⟩ := hJ
    refine gives_call Try.call76 ((wan_ok g M W hs1 (by omega)).mono ?_)
    rintro e w' ⟨v, rfl, hv, hs2, hg2⟩; exact ⟨v, rfl, JSrc.call hm hM hs2 hg2 hg1, hg2, hv⟩
  obtain ⟨_, _, -, ⟨d, rfl, hd⟩, -⟩ := hh
  (repeat (refine lex_pure rfl rfl (fun K hK => ?_); go_simp; refine hK _ ?_; clear hK K; try simp (disch := omega) only [IntWalk.i64_in, IntWalk.u8_in, Int.add_sub_cancel, Int.tmod_eq_emod_of_nonneg, Int.tdiv_eq_ediv_of_nonneg]))
  refine lex_eff' rfl rfl (fun _ _ _ _ h => h) (fun m W hJ hF => gives_value (by go_simp) ⟨hJ.alloc _, World.grownBy_alloc _ _ _, _, rfl, by have := hJ.2.choose_spec.2.1.lt; omega, heap_alloc_new _ _⟩) (fun v3 x hh => ?_) rfl
  obtain ⟨_, _, -, ⟨b3, rfl, hb3, -⟩, -⟩ := hh
  (repeat (refine lex_pure rfl rfl (fun K hK => ?_); go_simp; refine hK _ ?_; clear hK K; try simp (disch := omega) only [IntWalk.i64_in, IntWalk.u8_in, Int.add_sub_cancel, Int.tmod_eq_emod_of_nonneg, Int.tdiv_eq_ediv_of_nonneg]))
  refine lex_eff' rfl rfl (fun _ _ _ _ h => h) (fun m W hJ hF => ?_) (fun v x hh => ?_) rfl
  · obtain ⟨hm, M, hM, hs1, hg1⟩ := hJ
    refine gives_call Try.call109 ((next_ok g M 4 W hs1 (by omega) (by omega)).mono ?_)
    rintro e w' ⟨v, rfl, hv, hs2, hg2⟩; exact ⟨v, rfl, JSrc.call hm hM hs2 hg2 hg1, hg2, hv⟩
  obtain ⟨_, _, -, ⟨y, rfl, hy0, hy1⟩, -⟩ := hh
  obtain ⟨k, rfl⟩ := Int.eq_ofNat_of_zero_le hy0
  have hk : (k : Int) < 4 := by omega
  have hk2 : k < 4 := by omega
  clear hy1
  (repeat (refine lex_pure rfl rfl (fun K hK => ?_); go_simp; refine hK _ ?_; clear hK K; try simp (disch := omega) only [IntWalk.i64_in, IntWalk.u8_in, Int.add_sub_cancel, Int.tmod_eq_emod_of_nonneg, Int.tdiv_eq_ediv_of_nonneg]))
  refine lex_load rfl rfl (.int .i64 ([6, 17, 1, 99].getD k 0)) (fun m W hJ hF => ?_) ?_
  · have h1 := RowSp.cell (hF 4 (by kernel_rfl) _ _ _ rfl rfl) k hk2
    have h2 : #[Value.int .i64 6, Value.int .i64 17, Value.int .i64 1, Value.int .i64 99][k] = .int .i64 ([6, 17, 1, 99].getD k 0) := by
      have : k = 0 ∨ k = 1 ∨ k = 2 ∨ k = 3 := by omega
      rcases this with rfl | rfl | rfl | rfl <;> rfl
    rw [h2] at h1
    go_simp
  have hn : (0 : Int) ≤ [6, 17, 1, 99].getD k 0 ∧ ([6, 17, 1, 99].getD k 0 : Int) ≤ 99 := by
    have : k = 0 ∨ k = 1 ∨ k = 2 ∨ k = 3 := by omega
    rcases this with rfl | rfl | rfl | rfl <;> exact ⟨by decide, by decide⟩
  generalize ([6, 17, 1, 99].getD k 0 : Int) = n at *
  have Hn := Lib.hid hn
  clear hn
  (repeat (refine lex_pure rfl rfl (fun K hK => ?_); go_simp; refine hK _ ?_; clear hK K; try simp (disch := omega) only [IntWalk.i64_in, IntWalk.u8_in, Int.add_sub_cancel, Int.tmod_eq_emod_of_nonneg, Int.tdiv_eq_ediv_of_nonneg]))
  refine lex_eff' rfl rfl (fun _ _ _ _ h => h) (fun m W hJ hF => ?_) (fun v x hh => ?_) rfl
  · obtain ⟨hm, M, hM, hs1, hg1⟩ := hJ
    refine gives_call Try.call109 ((next_ok g M 99 W hs1 (by omega) (by omega)).mono ?_)
    rintro e w' ⟨v, rfl, hv, hs2, hg2⟩; exact ⟨v, rfl, JSrc.call hm hM hs2 hg2 hg1, hg2, hv⟩
  obtain ⟨_, _, -, ⟨i, rfl, hi0, hi1⟩, -⟩ := hh
  have hi2 : i ≤ 98 := by omega
  clear hi1
  (repeat (refine lex_pure rfl rfl (fun K hK => ?_); go_simp; refine hK _ ?_; clear hK K; try simp (disch := omega) only [IntWalk.i64_in, IntWalk.u8_in, Int.add_sub_cancel, Int.tmod_eq_emod_of_nonneg, Int.tdiv_eq_ediv_of_nonneg]))
  refine lex_eff' rfl rfl (fun _ _ _ _ h => h) (fun m W hJ hF => gives_value (by go_simp) ⟨hJ.alloc _, World.grownBy_alloc _ _ _, _, rfl, by have := hJ.2.choose_spec.2.1.lt; omega, heap_alloc_new _ _⟩) (fun v3 x hh => ?_) rfl
  obtain ⟨_, _, -, ⟨b5, rfl, hb5, -⟩, -⟩ := hh
  (repeat (refine lex_pure rfl rfl (fun K hK => ?_); go_simp; refine hK _ ?_; clear hK K; try simp (disch := omega) only [IntWalk.i64_in, IntWalk.u8_in, Int.add_sub_cancel, Int.tmod_eq_emod_of_nonneg, Int.tdiv_eq_ediv_of_nonneg]))
  refine lex_eff' rfl rfl (fun _ _ _ _ h => h) (fun m W hJ hF => ?_) (fun v6 x hh => ?_) rfl
  · obtain ⟨hm, M, hM, hs1, hg1⟩ := hJ
    obtain ⟨-, hr⟩ := RowSp.rd (hF 12 (by kernel_rfl) _ _ _ rfl rfl)
    refine gives_call Try.call110 ((pick_ok g M W hs1 (by omega) _ _ [bstr [], bstr [97], bstr [98, 111, 100, 121]] (by simp) (by simp) (fun ad e => by cases e; exact hb5) hr).mono ?_)
    rintro e w' ⟨v, rfl, hv, hs2, hg2⟩; exact ⟨v, rfl, JSrc.call hm hM hs2 hg2 hg1, hg2, hv⟩
  obtain ⟨_, _, -, ⟨t, ht, rfl⟩, -⟩ := hh
  (repeat (refine lex_pure rfl rfl (fun K hK => ?_); go_simp; refine hK _ ?_; clear hK K; try simp (disch := omega) only [IntWalk.i64_in, IntWalk.u8_in, Int.add_sub_cancel, Int.tmod_eq_emod_of_nonneg, Int.tdiv_eq_ediv_of_nonneg]))
  refine lex_nil ?_
  intro m W hJ hF
  obtain ⟨hm, M, hM, hs1, hg1⟩ := hJ
  clear hF
  have hb := (hg1.block _ hlt (by simp; omega)).trans hblk
  have hG : w.grownBy W (some g) := grown_trans (grownBy_of_below hB0 _) hg1
  have Hb := Lib.hid hb
  clear hblk hb hg1
  go_wp2_with (refine wpList_store_row rfl _ _ 39 rfl w.heap.size 39 _ _ rfl rfl Hb.out rfl infoPk rfl ?_)
  refine bodyPost_ret (ret_cell rfl rfl (setRow_heap _ _ _ _ _ _ Hb.out) Try.underlying39 rfl infoPk) rfl ?_
  have hd0 : 0 ≤ d ∧ d < 4294967296 := by simp at hd; omega
  have ht0 : t.size ≤ 4 := by simp at ht; rcases ht with rfl | rfl | rfl <;> simp [bstr_size]
  refine ⟨_, rfl, ⟨a.toNat, d.toNat, n.toNat, 64, i.toNat, t, ⟨by omega, by omega, by have := Hn.out; omega, by omega, by omega, by omega⟩, ht0, ?_⟩, (hs1.keep fun k hk => setRow_other _ _ _ _ (by omega)).more (by omega), ?_⟩
  · rw [Int.toNat_of_nonneg (by omega), Int.toNat_of_nonneg (by omega), Int.toNat_of_nonneg (by have := Hn.out; omega), Int.toNat_of_nonneg (by omega)]
    rfl
  · exact grown_setRow hG (Nat.le_refl _) _
end Go.Proofs.Ytdenjmdngmmodaa
namespace Go.Proofs.Ytdenjmdngmmodaa
open Go.RowKit
set_option linter.unusedVariables false
set_option linter.unusedSimpArgs false
set_option maxRecDepth 20000

theorem append_str (w : World) (base : Nat) (v : Value) (bs : List UInt8) (hown : w.ownsRow base 5 1 v bs.length (bs.map bV)) (s : ByteArray) (hl : bs.length + s.size ≤ 1000000) (hbase : base ≤ w.heap.size) :
    ∃ v' w', (Builtin.append_ #[22, 9] 22 #[v, .string s]).run Try.prog w = .ok v' w' ∧ w'.ownsRow base 5 1 v' (bs ++ sb s).length ((bs ++ sb s).map bV) ∧ w.grownBy w' v.ownBlock := by
  obtain ⟨i, hi⟩ : ∃ i, Try.prog.info? 5 = some i := Option.isSome_iff_exists.1 (by kernel_rfl)
  have hz := info_u8
  rw [hi] at hz
  simp only [Option.map_some, Option.some.injEq, Prod.mk.injEq] at hz
  obtain ⟨v', w', h1, h2, h3, -⟩ := Lib.run_append_own_string (P := Try.prog) w base 22 9 22 5 i Try.underlying22 Try.underlying9 hi hz.1 hz.2.1 hz.2.2 v bs.length (bs.map bV) hown s (by simp [maxLen]; omega) (by omega) hbase
  refine ⟨v', w', h1, ?_, h3⟩
  rw [List.length_append, sb_len, List.map_append]
  exact h2

/-- The cells behind a copy. -/
def setL (cur : Array Value) : Nat → List Value → Array Value
  | _, [] => cur
  | o, v :: r => setL (cur.setIfInBounds o v) (o + 1) r
theorem setL_size (vs : List Value) : ∀ (cur : Array Value) (o : Nat), (setL cur o vs).size = cur.size := by
  induction vs with
  | nil => intro cur o; rfl
  | cons v r ih => intro cur o; rw [setL, ih]; simp
theorem setCells_heap {g : Nat} {E : TypeId} {fr : Nat × Nat} : ∀ (vs : List Value) (o : Nat) (w : World) (cur : Array Value), w.heap[g]? = some (.cells cur E fr) → (w.setCells g o vs).heap[g]? = some (.cells (setL cur o vs) E fr)
  | [], _, _, _, h => h
  | v :: r, o, w, cur, h => setCells_heap r (o + 1) _ _ (blk_set h o v)
theorem setCells_below {B : Nat} {a : World} (b : Nat) (hb : B ≤ b) : ∀ (vs : List Value) (o : Nat) {w : World}, Below B a w → Below B a (w.setCells b o vs)
  | [], _, _, h => h
  | v :: r, o, _, h => setCells_below b hb r (o + 1) (h.setCell (p := ⟨b, o, none⟩) hb v)
theorem copy_row (w : World) (g : Nat) (cur : Array Value) (o dl dc : Nat) (A : Option Addr) (c : Nat) (bs : List UInt8) (hb : w.heap[g]? = some (.cells cur 5 (0, 0))) (ho : o + bs.length ≤ cur.size) (hdl : bs.length ≤ dl) (hne : bs ≠ []) (hr : Rd w A (bs.map bV)) :
    (Builtin.copy_ #[22, 22] 3 #[.slice (some ⟨g, o, none⟩) dl dc, .slice A bs.length c]).run Try.prog w = .ok (.int .i64 (bs.length : Int)) (w.setCells g o (bs.map bV)) := by
  obtain ⟨ad, rfl, -⟩ := hr.at_ (k := 0) (by cases bs with | nil => exact absurd rfl hne | cons b t => simp)
  have h := run_copy_cells (P := Try.prog) w 22 22 3 5 g o dl dc ad bs.length c (bs.map bV) Try.underlying22 (by kernel_rfl) (by rw [List.length_map]; exact (Nat.min_eq_left hdl).symm)
    (fun j u hj => by obtain ⟨ad', e, h⟩ := hr j u hj; cases e; exact h)
    (fun j hj => by rw [blk_cell hb, List.length_map] at *; simp; omega) (fun j hj => blk_free hb _) (fun u hu => by obtain ⟨x, -, rfl⟩ := List.mem_map.1 hu; rfl)
  rw [List.length_map] at h
  exact h
/-- The operation copy, by an equation on its run. -/
theorem wpList_copy_eq {P : Program} {ops : Array Oper} {rest : List Oper} {o : Oper} {a : Act} {Q : Exit → Act → World → Prop} {w w' : World} (hgd : o.guard = none) (d s : Operand) (t t' : TypeId)
    (ho : o.op = .call { callee := .builtin .copy, args := #[d, s], argTypes := #[t, t'] }) {v u v' : Value} (hd : a.eval d = v) (hs : a.eval s = u)
    (hr : (Builtin.copy_ #[t, t'] o.type #[v, u]).run P w = .ok v' w') (h : wpList P ops Q rest (a.put o.dst v') w') : wpList P ops Q (o :: rest) a w :=
  wpList_plain hgd fun K hK => by
    unfold Oper.wp execOp
    simp only [ho, resolve, invoke, builtin, Sem.run_bind, Sem.run_pure, Result.andThen_ok, List.map_toArray, List.map_cons, List.map_nil, hd, hs, hr]
    exact hK _ _ h
theorem rd_take {w : World} {g : Nat} {cur : Array Value} {E : TypeId} {n : Nat} {vs : List Value} (hb : w.heap[g]? = some (.cells cur E (0, 0))) (ht : cur.toList.take n = vs) : Rd w (some ⟨g, 0, none⟩) vs := by
  have h : Rd w (some ⟨g, 0, none⟩) cur.toList := by simpa using Rd.block hb 0
  have h2 := h.cut (k := 0) (n := n) (A' := some ⟨g, 0, none⟩) (fun ad e => by cases e; rfl)
  rw [List.drop_zero, ht] at h2
  exact h2
end Go.Proofs.Ytdenjmdngmmodaa
namespace Go.Proofs.Ytdenjmdngmmodaa
open Go.RowKit
set_option linter.unusedVariables false
set_option linter.unusedSimpArgs false
set_option maxRecDepth 20000
set_option maxHeartbeats 1000000

theorem isPort_ok (n : Nat) (h : n < 65536) (w : World) : Calls Try.prog 99 #[.int .i64 n] w fun e w' => e = .returned (.bool true) ∧ w = w' := by
  go_enter Try.func99, Try.ntmps99
  go_wp2_with fail
  refine (within_ok _ _ _ _).mono ?_
  rintro e w1 ⟨rfl, rfl⟩
  rw [show decide ((0 : Int) ≤ n ∧ (n : Int) ≤ 65535) = true from by simp; omega]
  go_wp2
  go_ret
  exact ⟨rfl, rfl⟩
theorem packetOK_true (s d p t i : Nat) (b : ByteArray) (h : PacketOK s d p t i b) (w : World) :
    Calls Try.prog 63 #[.agg #[.int .i64 s, .int .i64 d, .int .i64 p, .int .i64 t, .int .i64 i, .string b]] w fun e w' => e = .returned (.bool true) ∧ Below w.heap.size w w' := by
  have h3 : decide ((0 : Int) ≤ p ∧ (p : Int) ≤ 255) = true := by have := h.proto; simp; omega
  have h4 : decide ((0 : Int) ≤ t ∧ (t : Int) ≤ 255) = true := by have := h.ttl; simp; omega
  have hb : (b.size : Int) ≤ 380 := by have := h.body; omega
  have HK := Lib.hid (And.intro h (And.intro h3 h4))
  clear h h3 h4
  go_enter Try.func63, Try.ntmps63
  go_wp2_with fail
  refine (isAddress_ok s HK.out.1.src _).mono ?_
  rintro e w1 ⟨rfl, rfl⟩
  go_wp2_with fail
  refine (isAddress_ok d HK.out.1.dst _).mono ?_
  rintro e w1 ⟨rfl, rfl⟩
  go_wp2_with fail
  refine (within_ok _ _ _ _).mono ?_
  rintro e w1 ⟨rfl, rfl⟩
  rw [HK.out.2.1]
  go_wp2_with fail
  refine (within_ok _ _ _ _).mono ?_
  rintro e w1 ⟨rfl, rfl⟩
  rw [HK.out.2.2]
  go_wp2_with fail
  refine (isPort_ok i HK.out.1.id _).mono ?_
  rintro e w1 ⟨rfl, rfl⟩
  go_wp2
  go_ret
  exact ⟨rfl, (Below.refl _ _).alloc (Nat.le_refl _) _⟩
theorem l02Packet_true (s d p t i : Nat) (b : ByteArray) (h : PacketOK s d p t i b) (w : World) :
    Calls Try.prog 65 #[.agg #[.int .i64 s, .int .i64 d, .int .i64 p, .int .i64 t, .int .i64 i, .string b]] w fun e w' => e = .returned (.bool true) ∧ Below w.heap.size w w' := by
  have h3 : decide ((0 : Int) ≤ p ∧ (p : Int) ≤ 255) = true := by have := h.proto; simp; omega
  have h4 : decide ((0 : Int) ≤ t ∧ (t : Int) ≤ 255) = true := by have := h.ttl; simp; omega
  have h5 : decide ((0 : Int) ≤ i ∧ (i : Int) ≤ 65535) = true := by have := h.id; simp; omega
  have hb : (b.size : Int) ≤ 380 := by have := h.body; omega
  have HK := Lib.hid (And.intro h (And.intro h3 (And.intro h4 h5)))
  clear h h3 h4 h5
  go_enter Try.func65, Try.ntmps65
  go_wp2_with fail
  refine (l01Ip_ok s HK.out.1.src _).mono ?_
  rintro e w1 ⟨rfl, rfl⟩
  go_wp2_with fail
  refine (l01Ip_ok d HK.out.1.dst _).mono ?_
  rintro e w1 ⟨rfl, rfl⟩
  go_wp2_with fail
  refine (l01In_ok _ _ _ _).mono ?_
  rintro e w1 ⟨rfl, rfl⟩
  rw [HK.out.2.1]
  go_wp2_with fail
  refine (l01In_ok _ _ _ _).mono ?_
  rintro e w1 ⟨rfl, rfl⟩
  rw [HK.out.2.2.1]
  go_wp2_with fail
  refine (l01In_ok _ _ _ _).mono ?_
  rintro e w1 ⟨rfl, rfl⟩
  rw [HK.out.2.2.2]
  go_wp2
  go_ret
  exact ⟨rfl, (Below.refl _ _).alloc (Nat.le_refl _) _⟩

/-- The head with nothing in the sum's place; the head's two parts; the sum; the bytes. -/
def headB (s d p t i L : Nat) : List UInt8 := [69, 0] ++ (beN L 2 ++ (beN i 2 ++ ([0, 0, UInt8.ofNat t, UInt8.ofNat p, 0, 0] ++ (beN s 4 ++ beN d 4))))
def csum (s d p t i L : Nat) : Nat := 65535 - f16 (ws true (headB s d p t i L))
def pkA (p t i L : Nat) : List UInt8 := [69, 0] ++ (beN L 2 ++ (beN i 2 ++ [0, 0, UInt8.ofNat t, UInt8.ofNat p]))
def pkR (s d : Nat) : List UInt8 := beN s 4 ++ beN d 4
def pkH (s d p t i L : Nat) : List UInt8 := pkA p t i L ++ (beN (csum s d p t i L) 2 ++ pkR s d)
def packetB (s d p t i : Nat) (b : ByteArray) : List UInt8 := pkH s d p t i (20 + b.size) ++ sb b
theorem headB_len (s d p t i L : Nat) : (headB s d p t i L).length = 20 := by simp [headB, beN_len]
theorem pkA_len (p t i L : Nat) : (pkA p t i L).length = 10 := by simp [pkA, beN_len]
theorem pkR_len (s d : Nat) : (pkR s d).length = 8 := by simp [pkR, beN_len]
theorem pkH_len (s d p t i L : Nat) : (pkH s d p t i L).length = 20 := by simp [pkH, pkA_len, pkR_len, beN_len]
theorem headB_eq (s d p t i L : Nat) : headB s d p t i L = pkA p t i L ++ ([0, 0] ++ pkR s d) := by simp [headB, pkA, pkR]
theorem beN_two (n : Nat) : ∃ x y, beN n 2 = [x, y] := ⟨_, _, rfl⟩
theorem set_head (s d p t i L : Nat) (x y : UInt8) : (((headB s d p t i L).set 10 x).set 11 y) = pkA p t i L ++ ([x, y] ++ pkR s d) := by
  rw [headB_eq, List.set_append_right _ _ (by rw [pkA_len]; omega), List.set_append_right _ _ (by rw [pkA_len]; omega), pkA_len]
  rfl

def packetBytesφ (base2 : Nat) (s d p t i L : Nat) : Nat → Option Spec
  | 0 => some (ArgRow 5)
  | 5 => some (BsSp (beN (L) 2))
  | 8 => some (BsSp (beN (i) 2))
  | 15 => some (ArgRow 5)
  | 18 => some (BsSp (beN (s) 4))
  | 21 => some (BsSp (beN (d) 4))
  | 22 => some (ArgRow 22)
  | 23 => some (OwnSp base2 (headB s d p t i L))
  | _ => none

def packetSumφ (n : Nat) : Nat → Option Spec
  | 3 => some (fun _ v _ => v = .int .i64 n)
  | 4 => some (BsSp (beN n 2))
  | _ => none
theorem packetBytes_ok (s d p t i : Nat) (b : ByteArray) (h : PacketOK s d p t i b) (w : World) :
    Calls Try.prog 64 #[.agg #[.int .i64 s, .int .i64 d, .int .i64 p, .int .i64 t, .int .i64 i, .string b]] w fun e w' => ∃ v, e = .returned v ∧ w'.ownsRow w.heap.size 5 1 v (packetB s d p t i b).length ((packetB s d p t i b).map bV) ∧ Below w.heap.size w w' := by
  have hb : (b.size : Int) ≤ 380 := by have := h.body; omega
  have ht : (t : Int) ≤ 255 := by have := h.ttl; omega
  have hp : (p : Int) ≤ 255 := by have := h.proto; omega
  have hsb : s < 4294967296 := h.src
  have hdb : d < 4294967296 := h.dst
  have hib : i < 65536 := h.id
  clear h
  have hE : List.map bV [0, 0, UInt8.ofNat t, UInt8.ofNat p, 0, 0] = [.int .u8 0, .int .u8 0, .int .u8 t, .int .u8 p, .int .u8 0, .int .u8 0] := by
    have h1 : t % 256 = t := by omega
    have h2 : p % 256 = p := by omega
    simp [bV, h1, h2]
  have HE := Lib.hid hE
  clear hE
  obtain ⟨L, hL⟩ : ∃ L : Nat, L = 20 + b.size := ⟨_, rfl⟩
  have hLi : (20 : Int) + b.size = L := by omega
  have hL4 : L ≤ 400 := by omega
  have HL := Lib.hid hL
  clear hL
  go_enter Try.func64, Try.ntmps64
  go_wp2
  generalize hw0 : World.alloc w (.cells #[.int .i64 s, .int .i64 d, .int .i64 p, .int .i64 t, .int .i64 i, .string b] 39) = w0
  have hblk : w0.heap[World.heap w |>.size]? = some (.cells #[.int .i64 s, .int .i64 d, .int .i64 p, .int .i64 t, .int .i64 i, .string b] 39 (0, 0)) := by rw [← hw0]; exact heap_alloc_new _ _
  have hlt : (World.heap w).size < w0.heap.size := (Array.getElem?_eq_some_iff.1 hblk).1
  have hB0 : Below (World.heap w).size w w0 := by rw [← hw0]; exact (Below.refl _ _).alloc (Nat.le_refl _) _
  clear hw0
  have hcell : ∀ W, Below w0.heap.size w0 W → ∀ j, W.cell? ⟨w.heap.size, j, none⟩ = #[Value.int .i64 s, .int .i64 d, .int .i64 p, .int .i64 t, .int .i64 i, .string b][j]? := fun W hW j => (hW.cell hlt).trans (blk_cell hblk j)
  refine wp_region_lex 24 (by kernel_rfl) (by kernel_rfl) (JB w0) LeB (packetBytesφ w.heap.size s d p t i L) ?_ JB.mono ?_ ?_
  · intro j sp x v W W' hj hL h
    unfold packetBytesφ at hj
    split at hj <;> first | (cases hj; first | exact h | exact BsSp.st hL h | exact ArgRow.st hL h | exact OwnSp.st hL h | exact AllocSp.st hL h) | cases hj
  · exact (Below.refl _ _).drew
  simp only [List.take_succ_cons, List.take_zero, List.drop_succ_cons, List.drop_zero, pairs, List.zipIdx_cons, List.zipIdx_nil, List.map_cons, List.map_nil, Nat.zero_add, Nat.reduceAdd]
  (repeat (first | (refine lex_pure rfl rfl (fun K hK => ?_); go_simp; refine hK _ ?_; clear hK K; try simp (disch := omega) only [IntWalk.i64_in, IntWalk.u8_in, Int.add_sub_cancel, Int.tmod_eq_emod_of_nonneg, Int.tdiv_eq_ediv_of_nonneg]) | (refine lex_load rfl rfl _ (fun m W hJ hF => (by have cc := hcell W hJ; go_simp; rfl)) ?_; try simp (disch := omega) only [IntWalk.i64_in, IntWalk.u8_in, Int.add_sub_cancel, Int.tmod_eq_emod_of_nonneg, Int.tdiv_eq_ediv_of_nonneg]) | (refine lex_sadd rfl rfl rfl rfl rfl (by first | omega | (simp only [ByteArray.size_append]; omega)) ?_; go_simp)))
  refine lexB_row #[.int .u8 69, .int .u8 0] rfl rfl (by simp [argsOf, Op.operands, Act.put, Act.eval]) LeB.of (fun W => by go_simp) (fun b0 => ?_)
  (repeat (first | (refine lex_pure rfl rfl (fun K hK => ?_); go_simp; refine hK _ ?_; clear hK K; try simp (disch := omega) only [IntWalk.i64_in, IntWalk.u8_in, Int.add_sub_cancel, Int.tmod_eq_emod_of_nonneg, Int.tdiv_eq_ediv_of_nonneg]) | (refine lex_load rfl rfl _ (fun m W hJ hF => (by have cc := hcell W hJ; go_simp; rfl)) ?_; try simp (disch := omega) only [IntWalk.i64_in, IntWalk.u8_in, Int.add_sub_cancel, Int.tmod_eq_emod_of_nonneg, Int.tdiv_eq_ediv_of_nonneg]) | (refine lex_sadd rfl rfl rfl rfl rfl (by first | omega | (simp only [ByteArray.size_append]; omega)) ?_; go_simp)))
  refine lex_eff' (sp := BsSp (beN (L) 2)) rfl rfl (by intro _ _ _ _ h; exact h) (fun m W hJ hF => ?_) (fun v x hh => ?_) rfl
  · refine gives_call Try.call112 ((be_ok (L) 2 W (by omega) (by omega)).mono ?_)
    rintro e w' ⟨rfl, h1, h2⟩
    exact ⟨_, rfl, hJ.step h2, LeB.of h2, _, _, by rw [beN_len], by rw [beN_len]; exact Nat.le_refl _, by simpa using Rd.block h1 0⟩
  obtain ⟨_, _, -, ⟨A5, c5, rfl, hc5, -⟩, -⟩ := hh
  (repeat (first | (refine lex_pure rfl rfl (fun K hK => ?_); go_simp; refine hK _ ?_; clear hK K; try simp (disch := omega) only [IntWalk.i64_in, IntWalk.u8_in, Int.add_sub_cancel, Int.tmod_eq_emod_of_nonneg, Int.tdiv_eq_ediv_of_nonneg]) | (refine lex_load rfl rfl _ (fun m W hJ hF => (by have cc := hcell W hJ; go_simp; rfl)) ?_; try simp (disch := omega) only [IntWalk.i64_in, IntWalk.u8_in, Int.add_sub_cancel, Int.tmod_eq_emod_of_nonneg, Int.tdiv_eq_ediv_of_nonneg]) | (refine lex_sadd rfl rfl rfl rfl rfl (by first | omega | (simp only [ByteArray.size_append]; omega)) ?_; go_simp)))
  refine lex_eff' (sp := BsSp (beN (i) 2)) rfl rfl (by intro _ _ _ _ h; exact h) (fun m W hJ hF => ?_) (fun v x hh => ?_) rfl
  · refine gives_call Try.call112 ((be_ok (i) 2 W (by omega) (by omega)).mono ?_)
    rintro e w' ⟨rfl, h1, h2⟩
    exact ⟨_, rfl, hJ.step h2, LeB.of h2, _, _, by rw [beN_len], by rw [beN_len]; exact Nat.le_refl _, by simpa using Rd.block h1 0⟩
  obtain ⟨_, _, -, ⟨A8, c8, rfl, hc8, -⟩, -⟩ := hh
  (repeat (first | (refine lex_pure rfl rfl (fun K hK => ?_); go_simp; refine hK _ ?_; clear hK K; try simp (disch := omega) only [IntWalk.i64_in, IntWalk.u8_in, Int.add_sub_cancel, Int.tmod_eq_emod_of_nonneg, Int.tdiv_eq_ediv_of_nonneg]) | (refine lex_load rfl rfl _ (fun m W hJ hF => (by have cc := hcell W hJ; go_simp; rfl)) ?_; try simp (disch := omega) only [IntWalk.i64_in, IntWalk.u8_in, Int.add_sub_cancel, Int.tmod_eq_emod_of_nonneg, Int.tdiv_eq_ediv_of_nonneg]) | (refine lex_sadd rfl rfl rfl rfl rfl (by first | omega | (simp only [ByteArray.size_append]; omega)) ?_; go_simp)))
  refine lexB_row #[.int .u8 0, .int .u8 0, .int .u8 t, .int .u8 p, .int .u8 0, .int .u8 0] rfl rfl (by simp [argsOf, Op.operands, Act.put, Act.eval]) LeB.of (fun W => by go_simp) (fun b15 => ?_)
  (repeat (first | (refine lex_pure rfl rfl (fun K hK => ?_); go_simp; refine hK _ ?_; clear hK K; try simp (disch := omega) only [IntWalk.i64_in, IntWalk.u8_in, Int.add_sub_cancel, Int.tmod_eq_emod_of_nonneg, Int.tdiv_eq_ediv_of_nonneg]) | (refine lex_load rfl rfl _ (fun m W hJ hF => (by have cc := hcell W hJ; go_simp; rfl)) ?_; try simp (disch := omega) only [IntWalk.i64_in, IntWalk.u8_in, Int.add_sub_cancel, Int.tmod_eq_emod_of_nonneg, Int.tdiv_eq_ediv_of_nonneg]) | (refine lex_sadd rfl rfl rfl rfl rfl (by first | omega | (simp only [ByteArray.size_append]; omega)) ?_; go_simp)))
  refine lex_eff' (sp := BsSp (beN (s) 4)) rfl rfl (by intro _ _ _ _ h; exact h) (fun m W hJ hF => ?_) (fun v x hh => ?_) rfl
  · refine gives_call Try.call112 ((be_ok (s) 4 W (by omega) (by omega)).mono ?_)
    rintro e w' ⟨rfl, h1, h2⟩
    exact ⟨_, rfl, hJ.step h2, LeB.of h2, _, _, by rw [beN_len], by rw [beN_len]; exact Nat.le_refl _, by simpa using Rd.block h1 0⟩
  obtain ⟨_, _, -, ⟨A18, c18, rfl, hc18, -⟩, -⟩ := hh
  (repeat (first | (refine lex_pure rfl rfl (fun K hK => ?_); go_simp; refine hK _ ?_; clear hK K; try simp (disch := omega) only [IntWalk.i64_in, IntWalk.u8_in, Int.add_sub_cancel, Int.tmod_eq_emod_of_nonneg, Int.tdiv_eq_ediv_of_nonneg]) | (refine lex_load rfl rfl _ (fun m W hJ hF => (by have cc := hcell W hJ; go_simp; rfl)) ?_; try simp (disch := omega) only [IntWalk.i64_in, IntWalk.u8_in, Int.add_sub_cancel, Int.tmod_eq_emod_of_nonneg, Int.tdiv_eq_ediv_of_nonneg]) | (refine lex_sadd rfl rfl rfl rfl rfl (by first | omega | (simp only [ByteArray.size_append]; omega)) ?_; go_simp)))
  refine lex_eff' (sp := BsSp (beN (d) 4)) rfl rfl (by intro _ _ _ _ h; exact h) (fun m W hJ hF => ?_) (fun v x hh => ?_) rfl
  · refine gives_call Try.call112 ((be_ok (d) 4 W (by omega) (by omega)).mono ?_)
    rintro e w' ⟨rfl, h1, h2⟩
    exact ⟨_, rfl, hJ.step h2, LeB.of h2, _, _, by rw [beN_len], by rw [beN_len]; exact Nat.le_refl _, by simpa using Rd.block h1 0⟩
  obtain ⟨_, _, -, ⟨A21, c21, rfl, hc21, -⟩, -⟩ := hh
  (repeat (first | (refine lex_pure rfl rfl (fun K hK => ?_); go_simp; refine hK _ ?_; clear hK K; try simp (disch := omega) only [IntWalk.i64_in, IntWalk.u8_in, Int.add_sub_cancel, Int.tmod_eq_emod_of_nonneg, Int.tdiv_eq_ediv_of_nonneg]) | (refine lex_load rfl rfl _ (fun m W hJ hF => (by have cc := hcell W hJ; go_simp; rfl)) ?_; try simp (disch := omega) only [IntWalk.i64_in, IntWalk.u8_in, Int.add_sub_cancel, Int.tmod_eq_emod_of_nonneg, Int.tdiv_eq_ediv_of_nonneg]) | (refine lex_sadd rfl rfl rfl rfl rfl (by first | omega | (simp only [ByteArray.size_append]; omega)) ?_; go_simp)))
  refine lexB_row #[.slice (some ⟨b0, 0, none⟩) 2 2, .slice A5 (beN L 2).length c5, .slice A8 (beN i 2).length c8, .slice (some ⟨b15, 0, none⟩) 6 6, .slice A18 (beN s 4).length c18, .slice A21 (beN d 4).length c21] rfl rfl (by simp [argsOf, Op.operands, Act.put, Act.eval]) LeB.of (fun W => by go_simp) (fun b22 => ?_)
  (repeat (first | (refine lex_pure rfl rfl (fun K hK => ?_); go_simp; refine hK _ ?_; clear hK K; try simp (disch := omega) only [IntWalk.i64_in, IntWalk.u8_in, Int.add_sub_cancel, Int.tmod_eq_emod_of_nonneg, Int.tdiv_eq_ediv_of_nonneg]) | (refine lex_load rfl rfl _ (fun m W hJ hF => (by have cc := hcell W hJ; go_simp; rfl)) ?_; try simp (disch := omega) only [IntWalk.i64_in, IntWalk.u8_in, Int.add_sub_cancel, Int.tmod_eq_emod_of_nonneg, Int.tdiv_eq_ediv_of_nonneg]) | (refine lex_sadd rfl rfl rfl rfl rfl (by first | omega | (simp only [ByteArray.size_append]; omega)) ?_; go_simp)))
  refine lex_eff' (sp := OwnSp w.heap.size (headB s d p t i L)) rfl rfl (by intro _ _ _ _ h; exact h) (fun m W hJ hF => ?_) (fun v x hh => ?_) rfl
  · have rr := ArgRow.rd (hF 22 (by kernel_rfl) _ _ _ rfl rfl)
    have r0 : Rd W (some ⟨b0, 0, none⟩) (List.map bV ([69, 0])) := ArgRow.rd (hF 0 (by kernel_rfl) _ _ _ rfl rfl)
    have r5 := BsSp.rd (hF 5 (by kernel_rfl) _ _ _ rfl rfl)
    have r8 := BsSp.rd (hF 8 (by kernel_rfl) _ _ _ rfl rfl)
    have r15 : Rd W (some ⟨b15, 0, none⟩) (List.map bV ([0, 0, UInt8.ofNat t, UInt8.ofNat p, 0, 0])) := by rw [HE.out]; exact ArgRow.rd (hF 15 (by kernel_rfl) _ _ _ rfl rfl)
    have r18 := BsSp.rd (hF 18 (by kernel_rfl) _ _ _ rfl rfl)
    have r21 := BsSp.rd (hF 21 (by kernel_rfl) _ _ _ rfl rfl)
    have hpc : pcs [⟨some ⟨b0, 0, none⟩, 2, [69, 0]⟩, ⟨A5, c5, beN L 2⟩, ⟨A8, c8, beN i 2⟩, ⟨some ⟨b15, 0, none⟩, 6, [0, 0, UInt8.ofNat t, UInt8.ofNat p, 0, 0]⟩, ⟨A18, c18, beN s 4⟩, ⟨A21, c21, beN d 4⟩] = headB s d p t i L := by simp [pcs, headB]
    refine gives_call Try.call111 ((concat_ok _ 6 [⟨some ⟨b0, 0, none⟩, 2, [69, 0]⟩, ⟨A5, c5, beN L 2⟩, ⟨A8, c8, beN i 2⟩, ⟨some ⟨b15, 0, none⟩, 6, [0, 0, UInt8.ofNat t, UInt8.ofNat p, 0, 0]⟩, ⟨A18, c18, beN s 4⟩, ⟨A21, c21, beN d 4⟩] W rr (by intro p hp; simp only [List.mem_cons, List.not_mem_nil, or_false] at hp; rcases hp with rfl | rfl | rfl | rfl | rfl | rfl <;> assumption) (by simp) (by simp [pcs, sb_len, beN_len, sb_append] <;> omega)).mono ?_)
    rintro e w' ⟨v, rfl, h1, h2⟩
    rw [hpc] at h1
    exact ⟨v, rfl, hJ.step h2, LeB.of h2, own_base h1 (Nat.le_trans hB0.size hJ.size)⟩
  obtain ⟨_, _, -, -, -⟩ := hh
  (repeat (first | (refine lex_pure rfl rfl (fun K hK => ?_); go_simp; refine hK _ ?_; clear hK K; try simp (disch := omega) only [IntWalk.i64_in, IntWalk.u8_in, Int.add_sub_cancel, Int.tmod_eq_emod_of_nonneg, Int.tdiv_eq_ediv_of_nonneg]) | (refine lex_load rfl rfl _ (fun m W hJ hF => (by have cc := hcell W hJ; go_simp; rfl)) ?_; try simp (disch := omega) only [IntWalk.i64_in, IntWalk.u8_in, Int.add_sub_cancel, Int.tmod_eq_emod_of_nonneg, Int.tdiv_eq_ediv_of_nonneg]) | (refine lex_sadd rfl rfl rfl rfl rfl (by first | omega | (simp only [ByteArray.size_append]; omega)) ?_; go_simp)))
  refine lex_nil (fun m W hJ hF => ?_)
  have hown := hF 23 rfl _ _ _ rfl rfl
  have hB := Below.trans hB0 (Below.mono hJ hB0.size)
  have hblk1 := (hJ.block _ hlt).trans hblk
  clear hF hJ hcell
  obtain ⟨hlen, hcase⟩ := hown
  rw [headB_len] at hcase
  rcases hcase with ⟨-, h0⟩ | ⟨g, cap, cur, rfl, hbase, hheap, hnc, hcm, hsz, htake⟩
  · exact absurd h0 (by omega)
  have h10 : ¬ cap = 10 := by omega
  have hc1 : (10 : Int) ≤ cap := by omega
  have hc2 : (20 : Int) ≤ cap := by omega
  have c5 := blk_cell hblk1 5
  simp at c5
  have hlb : g < W.heap.size := (Array.getElem?_eq_some_iff.1 hheap).1
  have HH := Lib.hid (And.intro hheap (And.intro htake (And.intro hlen hsz)))
  have HC := Lib.hid (And.intro hblk (And.intro hblk1 c5))
  have HG := Lib.hid (And.intro hbase (And.intro hcm hnc))
  clear hheap htake hlen hblk hblk1 hsz c5 hcm hnc
  go_wp2_with fail
  have hcs : csum s d p t i L ≤ 65535 := Nat.sub_le _ _
  refine wp_region_lex 5 (by kernel_rfl) (by kernel_rfl) (JB W) LeB (packetSumφ (csum s d p t i L)) ?_ JB.mono ?_ ?_
  · intro j sp x v W W' hj hL h
    unfold packetSumφ at hj
    split at hj <;> first | (cases hj; first | exact h | exact BsSp.st hL h) | cases hj
  · exact (Below.refl _ _).drew
  simp only [List.take_succ_cons, List.take_zero, List.drop_succ_cons, List.drop_zero, pairs, List.zipIdx_cons, List.zipIdx_nil, List.map_cons, List.map_nil, Nat.zero_add, Nat.reduceAdd]
  (repeat (refine lex_pure rfl rfl (fun K hK => ?_); go_simp; refine hK _ ?_; clear hK K; try simp (disch := omega) only [IntWalk.i64_in, IntWalk.u8_in, Int.add_sub_cancel, Int.tmod_eq_emod_of_nonneg, Int.tdiv_eq_ediv_of_nonneg]))
  refine lex_eff' (sp := fun _ v _ => v = .int .i64 (csum s d p t i L)) rfl rfl (by intro _ _ _ _ h; exact h) (fun m W hJ hF => ?_) (fun v x hh => ?_) rfl
  · have hr' := rd_take ((hJ.block g hlb).trans HH.out.1) HH.out.2.1
    refine gives_call Try.call117 ((headB_len s d p t i L ▸ sum16_ok (some ⟨g, 0, none⟩) cap (headB s d p t i L) (by rw [headB_len]; omega) _ hr').mono ?_)
    rintro e w' ⟨rfl, rfl⟩
    exact ⟨_, rfl, hJ, LeB.of (Below.refl _ _), rfl⟩
  obtain ⟨_, _, -, rfl, -⟩ := hh
  (repeat (refine lex_pure rfl rfl (fun K hK => ?_); go_simp; refine hK _ ?_; clear hK K; try simp (disch := omega) only [IntWalk.i64_in, IntWalk.u8_in, Int.add_sub_cancel, Int.tmod_eq_emod_of_nonneg, Int.tdiv_eq_ediv_of_nonneg]))
  refine lex_eff' (sp := BsSp (beN (csum s d p t i L) 2)) rfl rfl (by intro _ _ _ _ h; exact h) (fun m W hJ hF => ?_) (fun v x hh => ?_) rfl
  · refine gives_call Try.call112 ((be_ok (csum s d p t i L) 2 _ (by omega) (by omega)).mono ?_)
    rintro e w' ⟨rfl, h1, h2⟩
    exact ⟨_, rfl, hJ.step h2, LeB.of h2, _, _, by rw [beN_len], by rw [beN_len]; exact Nat.le_refl _, by simpa using Rd.block h1 0⟩
  obtain ⟨_, _, -, ⟨A4, c4, rfl, hc4, -⟩, -⟩ := hh
  (repeat (refine lex_pure rfl rfl (fun K hK => ?_); go_simp; refine hK _ ?_; clear hK K; try simp (disch := omega) only [IntWalk.i64_in, IntWalk.u8_in, Int.add_sub_cancel, Int.tmod_eq_emod_of_nonneg, Int.tdiv_eq_ediv_of_nonneg]))
  refine lex_nil (fun m W2 hJ2 hF => ?_)
  have hrA := BsSp.rd (hF 4 rfl _ _ _ rfl rfl)
  have hheap2 := (hJ2.block g hlb).trans HH.out.1
  have hne : w.heap.size ≠ g := fun e => by
    have h1 := HC.out.2.1
    rw [e, HH.out.1] at h1
    injection h1 with h1
    injection h1 with h1 h2
    revert h2
    decide
  have hc5' : W2.cell? ⟨w.heap.size, 5, none⟩ = some (.string b) := (hJ2.cell (World.block_lt_of_cell? W _ HC.out.2.2)).trans HC.out.2.2
  have hrun := copy_row W2 g cur 10 10 (cap - 10) A4 c4 (beN (csum s d p t i L) 2) hheap2 (by rw [beN_len, HH.out.2.2.2]; have := HG.out; omega) (by rw [beN_len]; omega) (by intro e; have := congrArg List.length e; rw [beN_len] at this; cases this) hrA
  have hheap3 := setCells_heap ((beN (csum s d p t i L) 2).map bV) 10 W2 cur hheap2
  have hB3 : Below w.heap.size w (W2.setCells g 10 ((beN (csum s d p t i L) 2).map bV)) := setCells_below g HG.out.1 _ _ (Below.trans hB (Below.mono hJ2 hB.size))
  have hc5 : (W2.setCells g 10 ((beN (csum s d p t i L) 2).map bV)).cell? ⟨w.heap.size, 5, none⟩ = some (.string b) := by
    rw [World.cell?_setCells_out _ _ _ _ _ (fun e _ => absurd e hne)]; exact hc5'
  generalize hW3 : W2.setCells g 10 ((beN (csum s d p t i L) 2).map bV) = W3 at *
  have hown : W3.ownsRow w.heap.size 5 1 (.slice (some ⟨g, 0, none⟩) (pkH s d p t i L).length cap) (pkH s d p t i L).length ((pkH s d p t i L).map bV) := by
    rw [pkH_len]
    refine ⟨by simp [pkH_len], .inr ⟨g, cap, _, rfl, HG.out.1, hheap3, HG.out.2.2, HG.out.2.1, by rw [setL_size]; exact HH.out.2.2.2, ?_⟩⟩
    obtain ⟨x, y, exy⟩ := beN_two (csum s d p t i L)
    rw [pkH, exy, ← set_head, List.map_set, List.map_set, ← HH.out.2.1]
    simp [setL, List.take_set]
  obtain ⟨v', W4, hrun4, hown4, hg4⟩ := append_str W3 w.heap.size _ (pkH s d p t i L) hown b (by rw [pkH_len]; omega) hB3.size
  have hB4 : Below w.heap.size w W4 := hB3.grown hg4 hB3.size (fun k e => (hown.lt k e).1)
  have HW := Lib.hid hown4
  have HR4 := Lib.hid hrun4
  have HR3 := Lib.hid hrun
  clear hown4 hrun4 hown hrun hF hJ2 hheap2 hheap3 hrA hc5' hW3 hB3 hB
  go_wp2_with fail
  rw [HR3.out]
  go_wp2_with (at_builtin; (refine wpList_append_run rfl _ _ _ _ rfl rfl rfl (by have := HR4.out; rwa [pkH_len] at this) ?_))
  go_ret
  refine ⟨_, rfl, ?_, hB4⟩
  have := HW.out
  rw [HL.out] at this
  exact this
end Go.Proofs.Ytdenjmdngmmodaa
namespace Go.Proofs.Ytdenjmdngmmodaa
open Go.RowKit
set_option linter.unusedVariables false
set_option linter.unusedSimpArgs false
set_option maxRecDepth 20000
set_option maxHeartbeats 1000000

theorem pkA_str (p t i L : Nat) (hp : p < 256) (ht : t < 256) : (⟨#[69, 0]⟩ : ByteArray) ++ bstr (beN L 2) ++ bstr (beN i 2) ++ ⟨#[0, 0]⟩ ++ bstr (beN t 1) ++ bstr (beN p 1) = bstr (pkA p t i L) := by
  have e1 : (⟨#[69, 0]⟩ : ByteArray) = bstr [69, 0] := rfl
  have e2 : (⟨#[0, 0]⟩ : ByteArray) = bstr [0, 0] := rfl
  have e3 : beN t 1 = [UInt8.ofNat t] := by show [UInt8.ofNat (t / 256 ^ 0 % 256)] = _; rw [show t / 256 ^ 0 % 256 = t by omega]
  have e4 : beN p 1 = [UInt8.ofNat p] := by show [UInt8.ofNat (p / 256 ^ 0 % 256)] = _; rw [show p / 256 ^ 0 % 256 = p by omega]
  rw [e1, e2, e3, e4]
  simp only [bstr_append, List.append_assoc, pkA]
  rfl

def l02Pkφ1 (L i t p : Nat) : Nat → Option Spec
  | 4 => some (fun _ v _ => v = .string (bstr (beN (L) 2)))
  | 8 => some (fun _ v _ => v = .string (bstr (beN (i) 2)))
  | 13 => some (fun _ v _ => v = .string (bstr (beN (t) 1)))
  | 17 => some (fun _ v _ => v = .string (bstr (beN (p) 1)))
  | _ => none

def l02Pkφ2 (s d : Nat) : Nat → Option Spec
  | 2 => some (fun _ v _ => v = .string (bstr (beN (s) 4)))
  | 5 => some (fun _ v _ => v = .string (bstr (beN (d) 4)))
  | _ => none

def l02Pkφ3 (s d p t i L : Nat) : Nat → Option Spec
  | 5 => some (fun _ v _ => v = .int .i64 (csum s d p t i L))
  | 6 => some (fun _ v _ => v = .string (bstr (beN (csum s d p t i L) 2)))
  | _ => none

theorem l02PacketBytes_ok (s d p t i : Nat) (b : ByteArray) (h : PacketOK s d p t i b) (w : World) :
    Calls Try.prog 66 #[.agg #[.int .i64 s, .int .i64 d, .int .i64 p, .int .i64 t, .int .i64 i, .string b]] w fun e w' => e = .returned (.string (bstr (packetB s d p t i b))) ∧ Below w.heap.size w w' := by
  have hb : (b.size : Int) ≤ 380 := by have := h.body; omega
  have ht : t < 256 := h.ttl
  have hp : p < 256 := h.proto
  have hsb : s < 4294967296 := h.src
  have hdb : d < 4294967296 := h.dst
  have hib : i < 65536 := h.id
  clear h
  obtain ⟨L, hL⟩ : ∃ L : Nat, L = 20 + b.size := ⟨_, rfl⟩
  have hLi : (20 : Int) + b.size = L := by omega
  have hL4 : L ≤ 400 := by omega
  have HL := Lib.hid hL
  clear hL
  have hlit : (⟨#[69, 0]⟩ : ByteArray).size = 2 := rfl
  have hlit2 : (⟨#[0, 0]⟩ : ByteArray).size = 2 := rfl
  have hzA : (bstr (pkA p t i L)).size = 10 := by rw [bstr_size, pkA_len]
  have hzR : (bstr (pkR s d)).size = 8 := by rw [bstr_size, pkR_len]
  have hcs : csum s d p t i L ≤ 65535 := Nat.sub_le _ _
  have hsum : ∀ W, Calls Try.prog 118 #[.string (bstr (pkA p t i L) ++ ⟨#[0, 0]⟩ ++ bstr (pkR s d))] W fun e w' => e = .returned (.int .i64 (csum s d p t i L)) ∧ W = w' := fun W => by
    have e2 : (⟨#[0, 0]⟩ : ByteArray) = bstr [0, 0] := rfl
    have e3 : bstr (pkA p t i L) ++ ⟨#[0, 0]⟩ ++ bstr (pkR s d) = bstr (headB s d p t i L) := by rw [e2, bstr_append, bstr_append, headB_eq, List.append_assoc]
    rw [e3]
    exact l01Sum16_ok (headB s d p t i L) (by rw [headB_len]; omega) W
  go_enter Try.func66, Try.ntmps66
  go_wp2
  generalize hw0 : World.alloc w (.cells #[.int .i64 s, .int .i64 d, .int .i64 p, .int .i64 t, .int .i64 i, .string b] 39) = w0
  have hblk : w0.heap[World.heap w |>.size]? = some (.cells #[.int .i64 s, .int .i64 d, .int .i64 p, .int .i64 t, .int .i64 i, .string b] 39 (0, 0)) := by rw [← hw0]; exact heap_alloc_new _ _
  have hlt : (World.heap w).size < w0.heap.size := (Array.getElem?_eq_some_iff.1 hblk).1
  have hB0 : Below (World.heap w).size w w0 := by rw [← hw0]; exact (Below.refl _ _).alloc (Nat.le_refl _) _
  clear hw0
  have hcell : ∀ W, Below w0.heap.size w0 W → ∀ j, W.cell? ⟨w.heap.size, j, none⟩ = #[Value.int .i64 s, .int .i64 d, .int .i64 p, .int .i64 t, .int .i64 i, .string b][j]? := fun W hW j => (hW.cell hlt).trans (blk_cell hblk j)
  refine wp_region_lex 19 (by kernel_rfl) (by kernel_rfl) (JB w0) LeB (l02Pkφ1 L i t p) ?_ JB.mono ?_ ?_
  · intro j sp x v W W' hj hL h
    unfold l02Pkφ1 at hj
    split at hj <;> first | (cases hj; first | exact h | exact BsSp.st hL h | exact ArgRow.st hL h | exact OwnSp.st hL h | exact AllocSp.st hL h) | cases hj
  · exact (Below.refl _ _).drew
  simp only [List.take_succ_cons, List.take_zero, List.drop_succ_cons, List.drop_zero, pairs, List.zipIdx_cons, List.zipIdx_nil, List.map_cons, List.map_nil, Nat.zero_add, Nat.reduceAdd]
  (repeat (first | (refine lex_pure rfl rfl (fun K hK => ?_); go_simp; refine hK _ ?_; clear hK K; try simp (disch := omega) only [IntWalk.i64_in, IntWalk.u8_in, Int.add_sub_cancel, Int.tmod_eq_emod_of_nonneg, Int.tdiv_eq_ediv_of_nonneg]) | (refine lex_load rfl rfl _ (fun m W hJ hF => (by have cc := hcell W hJ; go_simp; rfl)) ?_; try simp (disch := omega) only [IntWalk.i64_in, IntWalk.u8_in, Int.add_sub_cancel, Int.tmod_eq_emod_of_nonneg, Int.tdiv_eq_ediv_of_nonneg]) | (refine lex_sadd rfl rfl rfl rfl rfl (by first | omega | (simp only [ByteArray.size_append]; omega)) ?_; go_simp)))
  refine lex_eff' (sp := fun _ v _ => v = .string (bstr (beN (L) 2))) rfl rfl (by intro _ _ _ _ h; exact h) (fun m W hJ hF => ?_) (fun v x hh => ?_) rfl
  · refine gives_call Try.call114 ((l01Number_ok (L) 2 W (by omega) (by omega)).mono ?_)
    rintro e w' ⟨rfl, h2⟩
    exact ⟨_, rfl, hJ.step h2, LeB.of h2, rfl⟩
  obtain ⟨_, _, -, rfl, -⟩ := hh
  have hz4 : (bstr (beN (L) 2)).size = 2 := by rw [bstr_size, beN_len]
  (repeat (first | (refine lex_pure rfl rfl (fun K hK => ?_); go_simp; refine hK _ ?_; clear hK K; try simp (disch := omega) only [IntWalk.i64_in, IntWalk.u8_in, Int.add_sub_cancel, Int.tmod_eq_emod_of_nonneg, Int.tdiv_eq_ediv_of_nonneg]) | (refine lex_load rfl rfl _ (fun m W hJ hF => (by have cc := hcell W hJ; go_simp; rfl)) ?_; try simp (disch := omega) only [IntWalk.i64_in, IntWalk.u8_in, Int.add_sub_cancel, Int.tmod_eq_emod_of_nonneg, Int.tdiv_eq_ediv_of_nonneg]) | (refine lex_sadd rfl rfl rfl rfl rfl (by first | omega | (simp only [ByteArray.size_append]; omega)) ?_; go_simp)))
  refine lex_eff' (sp := fun _ v _ => v = .string (bstr (beN (i) 2))) rfl rfl (by intro _ _ _ _ h; exact h) (fun m W hJ hF => ?_) (fun v x hh => ?_) rfl
  · refine gives_call Try.call114 ((l01Number_ok (i) 2 W (by omega) (by omega)).mono ?_)
    rintro e w' ⟨rfl, h2⟩
    exact ⟨_, rfl, hJ.step h2, LeB.of h2, rfl⟩
  obtain ⟨_, _, -, rfl, -⟩ := hh
  have hz8 : (bstr (beN (i) 2)).size = 2 := by rw [bstr_size, beN_len]
  (repeat (first | (refine lex_pure rfl rfl (fun K hK => ?_); go_simp; refine hK _ ?_; clear hK K; try simp (disch := omega) only [IntWalk.i64_in, IntWalk.u8_in, Int.add_sub_cancel, Int.tmod_eq_emod_of_nonneg, Int.tdiv_eq_ediv_of_nonneg]) | (refine lex_load rfl rfl _ (fun m W hJ hF => (by have cc := hcell W hJ; go_simp; rfl)) ?_; try simp (disch := omega) only [IntWalk.i64_in, IntWalk.u8_in, Int.add_sub_cancel, Int.tmod_eq_emod_of_nonneg, Int.tdiv_eq_ediv_of_nonneg]) | (refine lex_sadd rfl rfl rfl rfl rfl (by first | omega | (simp only [ByteArray.size_append]; omega)) ?_; go_simp)))
  refine lex_eff' (sp := fun _ v _ => v = .string (bstr (beN (t) 1))) rfl rfl (by intro _ _ _ _ h; exact h) (fun m W hJ hF => ?_) (fun v x hh => ?_) rfl
  · refine gives_call Try.call114 ((l01Number_ok (t) 1 W (by omega) (by omega)).mono ?_)
    rintro e w' ⟨rfl, h2⟩
    exact ⟨_, rfl, hJ.step h2, LeB.of h2, rfl⟩
  obtain ⟨_, _, -, rfl, -⟩ := hh
  have hz13 : (bstr (beN (t) 1)).size = 1 := by rw [bstr_size, beN_len]
  (repeat (first | (refine lex_pure rfl rfl (fun K hK => ?_); go_simp; refine hK _ ?_; clear hK K; try simp (disch := omega) only [IntWalk.i64_in, IntWalk.u8_in, Int.add_sub_cancel, Int.tmod_eq_emod_of_nonneg, Int.tdiv_eq_ediv_of_nonneg]) | (refine lex_load rfl rfl _ (fun m W hJ hF => (by have cc := hcell W hJ; go_simp; rfl)) ?_; try simp (disch := omega) only [IntWalk.i64_in, IntWalk.u8_in, Int.add_sub_cancel, Int.tmod_eq_emod_of_nonneg, Int.tdiv_eq_ediv_of_nonneg]) | (refine lex_sadd rfl rfl rfl rfl rfl (by first | omega | (simp only [ByteArray.size_append]; omega)) ?_; go_simp)))
  refine lex_eff' (sp := fun _ v _ => v = .string (bstr (beN (p) 1))) rfl rfl (by intro _ _ _ _ h; exact h) (fun m W hJ hF => ?_) (fun v x hh => ?_) rfl
  · refine gives_call Try.call114 ((l01Number_ok (p) 1 W (by omega) (by omega)).mono ?_)
    rintro e w' ⟨rfl, h2⟩
    exact ⟨_, rfl, hJ.step h2, LeB.of h2, rfl⟩
  obtain ⟨_, _, -, rfl, -⟩ := hh
  have hz17 : (bstr (beN (p) 1)).size = 1 := by rw [bstr_size, beN_len]
  (repeat (first | (refine lex_pure rfl rfl (fun K hK => ?_); go_simp; refine hK _ ?_; clear hK K; try simp (disch := omega) only [IntWalk.i64_in, IntWalk.u8_in, Int.add_sub_cancel, Int.tmod_eq_emod_of_nonneg, Int.tdiv_eq_ediv_of_nonneg]) | (refine lex_load rfl rfl _ (fun m W hJ hF => (by have cc := hcell W hJ; go_simp; rfl)) ?_; try simp (disch := omega) only [IntWalk.i64_in, IntWalk.u8_in, Int.add_sub_cancel, Int.tmod_eq_emod_of_nonneg, Int.tdiv_eq_ediv_of_nonneg]) | (refine lex_sadd rfl rfl rfl rfl rfl (by first | omega | (simp only [ByteArray.size_append]; omega)) ?_; go_simp)))
  refine lex_nil (fun m W1 hJ hF => ?_)
  have hblk' := (hJ.block _ hlt).trans hblk
  have hlt' := Nat.lt_of_lt_of_le hlt hJ.size
  have hB' : Below w.heap.size w W1 := Below.trans hB0 (Below.mono hJ hB0.size)
  clear hF hJ hcell hblk hlt hB0
  have hblk := hblk'
  have hlt := hlt'
  have hB0 := hB'
  clear hblk' hlt' hB'
  have hcell : ∀ W, Below W1.heap.size W1 W → ∀ j, W.cell? ⟨w.heap.size, j, none⟩ = #[Value.int .i64 s, .int .i64 d, .int .i64 p, .int .i64 t, .int .i64 i, .string b][j]? := fun W hW j => (hW.cell hlt).trans (blk_cell hblk j)
  go_wp2_with fail
  rw [pkA_str p t i L hp ht]
  refine wp_region_lex 7 (by kernel_rfl) (by kernel_rfl) (JB W1) LeB (l02Pkφ2 s d) ?_ JB.mono ?_ ?_
  · intro j sp x v W W' hj hL h
    unfold l02Pkφ2 at hj
    split at hj <;> first | (cases hj; first | exact h | exact BsSp.st hL h | exact ArgRow.st hL h | exact OwnSp.st hL h | exact AllocSp.st hL h) | cases hj
  · exact (Below.refl _ _).drew
  simp only [List.take_succ_cons, List.take_zero, List.drop_succ_cons, List.drop_zero, pairs, List.zipIdx_cons, List.zipIdx_nil, List.map_cons, List.map_nil, Nat.zero_add, Nat.reduceAdd]
  (repeat (first | (refine lex_pure rfl rfl (fun K hK => ?_); go_simp; refine hK _ ?_; clear hK K; try simp (disch := omega) only [IntWalk.i64_in, IntWalk.u8_in, Int.add_sub_cancel, Int.tmod_eq_emod_of_nonneg, Int.tdiv_eq_ediv_of_nonneg]) | (refine lex_load rfl rfl _ (fun m W hJ hF => (by have cc := hcell W hJ; go_simp; rfl)) ?_; try simp (disch := omega) only [IntWalk.i64_in, IntWalk.u8_in, Int.add_sub_cancel, Int.tmod_eq_emod_of_nonneg, Int.tdiv_eq_ediv_of_nonneg]) | (refine lex_sadd rfl rfl rfl rfl rfl (by first | omega | (simp only [ByteArray.size_append]; omega)) ?_; go_simp)))
  refine lex_eff' (sp := fun _ v _ => v = .string (bstr (beN (s) 4))) rfl rfl (by intro _ _ _ _ h; exact h) (fun m W hJ hF => ?_) (fun v x hh => ?_) rfl
  · refine gives_call Try.call114 ((l01Number_ok (s) 4 W (by omega) (by omega)).mono ?_)
    rintro e w' ⟨rfl, h2⟩
    exact ⟨_, rfl, hJ.step h2, LeB.of h2, rfl⟩
  obtain ⟨_, _, -, rfl, -⟩ := hh
  have hz2 : (bstr (beN (s) 4)).size = 4 := by rw [bstr_size, beN_len]
  (repeat (first | (refine lex_pure rfl rfl (fun K hK => ?_); go_simp; refine hK _ ?_; clear hK K; try simp (disch := omega) only [IntWalk.i64_in, IntWalk.u8_in, Int.add_sub_cancel, Int.tmod_eq_emod_of_nonneg, Int.tdiv_eq_ediv_of_nonneg]) | (refine lex_load rfl rfl _ (fun m W hJ hF => (by have cc := hcell W hJ; go_simp; rfl)) ?_; try simp (disch := omega) only [IntWalk.i64_in, IntWalk.u8_in, Int.add_sub_cancel, Int.tmod_eq_emod_of_nonneg, Int.tdiv_eq_ediv_of_nonneg]) | (refine lex_sadd rfl rfl rfl rfl rfl (by first | omega | (simp only [ByteArray.size_append]; omega)) ?_; go_simp)))
  refine lex_eff' (sp := fun _ v _ => v = .string (bstr (beN (d) 4))) rfl rfl (by intro _ _ _ _ h; exact h) (fun m W hJ hF => ?_) (fun v x hh => ?_) rfl
  · refine gives_call Try.call114 ((l01Number_ok (d) 4 W (by omega) (by omega)).mono ?_)
    rintro e w' ⟨rfl, h2⟩
    exact ⟨_, rfl, hJ.step h2, LeB.of h2, rfl⟩
  obtain ⟨_, _, -, rfl, -⟩ := hh
  have hz5 : (bstr (beN (d) 4)).size = 4 := by rw [bstr_size, beN_len]
  (repeat (first | (refine lex_pure rfl rfl (fun K hK => ?_); go_simp; refine hK _ ?_; clear hK K; try simp (disch := omega) only [IntWalk.i64_in, IntWalk.u8_in, Int.add_sub_cancel, Int.tmod_eq_emod_of_nonneg, Int.tdiv_eq_ediv_of_nonneg]) | (refine lex_load rfl rfl _ (fun m W hJ hF => (by have cc := hcell W hJ; go_simp; rfl)) ?_; try simp (disch := omega) only [IntWalk.i64_in, IntWalk.u8_in, Int.add_sub_cancel, Int.tmod_eq_emod_of_nonneg, Int.tdiv_eq_ediv_of_nonneg]) | (refine lex_sadd rfl rfl rfl rfl rfl (by first | omega | (simp only [ByteArray.size_append]; omega)) ?_; go_simp)))
  refine lex_nil (fun m W2 hJ hF => ?_)
  have hblk' := (hJ.block _ hlt).trans hblk
  have hlt' := Nat.lt_of_lt_of_le hlt hJ.size
  have hB' : Below w.heap.size w W2 := Below.trans hB0 (Below.mono hJ hB0.size)
  clear hF hJ hcell hblk hlt hB0
  have hblk := hblk'
  have hlt := hlt'
  have hB0 := hB'
  clear hblk' hlt' hB'
  have hcell : ∀ W, Below W2.heap.size W2 W → ∀ j, W.cell? ⟨w.heap.size, j, none⟩ = #[Value.int .i64 s, .int .i64 d, .int .i64 p, .int .i64 t, .int .i64 i, .string b][j]? := fun W hW j => (hW.cell hlt).trans (blk_cell hblk j)
  go_wp2_with fail
  rw [show bstr (beN s 4) ++ bstr (beN d 4) = bstr (pkR s d) from by rw [bstr_append]; rfl]
  refine wp_region_lex 13 (by kernel_rfl) (by kernel_rfl) (JB W2) LeB (l02Pkφ3 s d p t i L) ?_ JB.mono ?_ ?_
  · intro j sp x v W W' hj hL h
    unfold l02Pkφ3 at hj
    split at hj <;> first | (cases hj; first | exact h | exact BsSp.st hL h | exact ArgRow.st hL h | exact OwnSp.st hL h | exact AllocSp.st hL h) | cases hj
  · exact (Below.refl _ _).drew
  simp only [List.take_succ_cons, List.take_zero, List.drop_succ_cons, List.drop_zero, pairs, List.zipIdx_cons, List.zipIdx_nil, List.map_cons, List.map_nil, Nat.zero_add, Nat.reduceAdd]
  (repeat (first | (refine lex_pure rfl rfl (fun K hK => ?_); go_simp; refine hK _ ?_; clear hK K; try simp (disch := omega) only [IntWalk.i64_in, IntWalk.u8_in, Int.add_sub_cancel, Int.tmod_eq_emod_of_nonneg, Int.tdiv_eq_ediv_of_nonneg]) | (refine lex_load rfl rfl _ (fun m W hJ hF => (by have cc := hcell W hJ; go_simp; rfl)) ?_; try simp (disch := omega) only [IntWalk.i64_in, IntWalk.u8_in, Int.add_sub_cancel, Int.tmod_eq_emod_of_nonneg, Int.tdiv_eq_ediv_of_nonneg]) | (refine lex_sadd rfl rfl rfl rfl rfl (by first | omega | (simp only [ByteArray.size_append]; omega)) ?_; go_simp)))
  refine lex_eff' (sp := fun _ v _ => v = .int .i64 (csum s d p t i L)) rfl rfl (by intro _ _ _ _ h; exact h) (fun m W hJ hF => ?_) (fun v x hh => ?_) rfl
  · refine gives_call Try.call118 ((hsum W).mono ?_)
    rintro e w' ⟨rfl, rfl⟩
    exact ⟨_, rfl, hJ, LeB.of (Below.refl _ _), rfl⟩
  obtain ⟨_, _, -, rfl, -⟩ := hh
  (repeat (first | (refine lex_pure rfl rfl (fun K hK => ?_); go_simp; refine hK _ ?_; clear hK K; try simp (disch := omega) only [IntWalk.i64_in, IntWalk.u8_in, Int.add_sub_cancel, Int.tmod_eq_emod_of_nonneg, Int.tdiv_eq_ediv_of_nonneg]) | (refine lex_load rfl rfl _ (fun m W hJ hF => (by have cc := hcell W hJ; go_simp; rfl)) ?_; try simp (disch := omega) only [IntWalk.i64_in, IntWalk.u8_in, Int.add_sub_cancel, Int.tmod_eq_emod_of_nonneg, Int.tdiv_eq_ediv_of_nonneg]) | (refine lex_sadd rfl rfl rfl rfl rfl (by first | omega | (simp only [ByteArray.size_append]; omega)) ?_; go_simp)))
  refine lex_eff' (sp := fun _ v _ => v = .string (bstr (beN (csum s d p t i L) 2))) rfl rfl (by intro _ _ _ _ h; exact h) (fun m W hJ hF => ?_) (fun v x hh => ?_) rfl
  · refine gives_call Try.call114 ((l01Number_ok (csum s d p t i L) 2 W (by omega) (by omega)).mono ?_)
    rintro e w' ⟨rfl, h2⟩
    exact ⟨_, rfl, hJ.step h2, LeB.of h2, rfl⟩
  obtain ⟨_, _, -, rfl, -⟩ := hh
  have hz6 : (bstr (beN (csum s d p t i L) 2)).size = 2 := by rw [bstr_size, beN_len]
  (repeat (first | (refine lex_pure rfl rfl (fun K hK => ?_); go_simp; refine hK _ ?_; clear hK K; try simp (disch := omega) only [IntWalk.i64_in, IntWalk.u8_in, Int.add_sub_cancel, Int.tmod_eq_emod_of_nonneg, Int.tdiv_eq_ediv_of_nonneg]) | (refine lex_load rfl rfl _ (fun m W hJ hF => (by have cc := hcell W hJ; go_simp; rfl)) ?_; try simp (disch := omega) only [IntWalk.i64_in, IntWalk.u8_in, Int.add_sub_cancel, Int.tmod_eq_emod_of_nonneg, Int.tdiv_eq_ediv_of_nonneg]) | (refine lex_sadd rfl rfl rfl rfl rfl (by first | omega | (simp only [ByteArray.size_append]; omega)) ?_; go_simp)))
  refine lex_nil (fun m W3 hJ hF => ?_)
  have hblk' := (hJ.block _ hlt).trans hblk
  have hlt' := Nat.lt_of_lt_of_le hlt hJ.size
  have hB' : Below w.heap.size w W3 := Below.trans hB0 (Below.mono hJ hB0.size)
  clear hF hJ hcell hblk hlt hB0
  have hblk := hblk'
  have hlt := hlt'
  have hB0 := hB'
  clear hblk' hlt' hB'
  have hcell : ∀ W, Below W3.heap.size W3 W → ∀ j, W.cell? ⟨w.heap.size, j, none⟩ = #[Value.int .i64 s, .int .i64 d, .int .i64 p, .int .i64 t, .int .i64 i, .string b][j]? := fun W hW j => (hW.cell hlt).trans (blk_cell hblk j)
  have hfin : bstr (pkA p t i L) ++ bstr (beN (csum s d p t i L) 2) ++ bstr (pkR s d) ++ b = bstr (packetB s d p t i b) := by
    conv => lhs; rw [← bstr_sb b]
    rw [bstr_append, bstr_append, bstr_append, packetB, ← HL.out, pkH]
    simp only [List.append_assoc]
  have HF := Lib.hid hfin
  clear hfin hcell hblk
  go_wp2
  rw [HF.out]
  go_ret
  exact ⟨rfl, hB0⟩

theorem iPacketBytes_ok (s d p t i : Nat) (b : ByteArray) (h : PacketOK s d p t i b) (w : World) :
    Calls Try.prog 19 #[.agg #[.int .i64 s, .int .i64 d, .int .i64 p, .int .i64 t, .int .i64 i, .string b]] w fun e w' => ∃ v, e = .returned (.tuple #[v, .int .i64 0]) ∧ w'.ownsRow w.heap.size 5 1 v (packetB s d p t i b).length ((packetB s d p t i b).map bV) ∧ Below w.heap.size w w' := by
  have HK := Lib.hid h
  clear h
  go_enter Try.func19, Try.ntmps19
  go_wp2_with fail
  generalize hw0 : World.alloc w (.cells #[.int .i64 s, .int .i64 d, .int .i64 p, .int .i64 t, .int .i64 i, .string b] 39) = w0
  have hblk : w0.heap[World.heap w |>.size]? = some (.cells #[.int .i64 s, .int .i64 d, .int .i64 p, .int .i64 t, .int .i64 i, .string b] 39 (0, 0)) := by rw [← hw0]; exact heap_alloc_new _ _
  have hlt : (World.heap w).size < w0.heap.size := (Array.getElem?_eq_some_iff.1 hblk).1
  have hB0 : Below (World.heap w).size w w0 := by rw [← hw0]; exact (Below.refl _ _).alloc (Nat.le_refl _) _
  clear hw0
  refine (packetOK_true s d p t i b HK.out _).mono ?_
  rintro e w1 ⟨rfl, hB1⟩
  have hblk1 := (hB1.block _ hlt).trans hblk
  have hB := Below.trans hB0 (hB1.mono hB0.size)
  have c0 := blk_cell hblk1 0
  have c1 := blk_cell hblk1 1
  have c2 := blk_cell hblk1 2
  have c3 := blk_cell hblk1 3
  have c4 := blk_cell hblk1 4
  have c5 := blk_cell hblk1 5
  clear hblk hblk1
  simp at c0 c1 c2 c3 c4 c5
  go_wp2_with fail
  refine (packetBytes_ok s d p t i b HK.out _).mono ?_
  rintro e w2 ⟨v, rfl, hown, hB2⟩
  have hB' := Below.trans hB (hB2.mono hB.size)
  have hown1 := own_base hown (B' := w.heap.size) hB.size
  have HO := Lib.hid hown1
  clear hown hown1 hB2 c0 c1 c2 c3 c4 c5
  go_wp2
  go_ret2
  exact ⟨_, rfl, HO.out, hB'⟩

theorem sPacketBytes_ok (s d p t i : Nat) (b : ByteArray) (h : PacketOK s d p t i b) (w : World) :
    Calls Try.prog 20 #[.agg #[.int .i64 s, .int .i64 d, .int .i64 p, .int .i64 t, .int .i64 i, .string b]] w fun e w' => ∃ v, e = .returned (.tuple #[v, .int .i64 0]) ∧ BsSp (packetB s d p t i b) #[] v w' ∧ Below w.heap.size w w' := by
  have HK := Lib.hid h
  clear h
  go_enter Try.func20, Try.ntmps20
  go_wp2_with fail
  generalize hw0 : World.alloc w (.cells #[.int .i64 s, .int .i64 d, .int .i64 p, .int .i64 t, .int .i64 i, .string b] 39) = w0
  have hblk : w0.heap[World.heap w |>.size]? = some (.cells #[.int .i64 s, .int .i64 d, .int .i64 p, .int .i64 t, .int .i64 i, .string b] 39 (0, 0)) := by rw [← hw0]; exact heap_alloc_new _ _
  have hlt : (World.heap w).size < w0.heap.size := (Array.getElem?_eq_some_iff.1 hblk).1
  have hB0 : Below (World.heap w).size w w0 := by rw [← hw0]; exact (Below.refl _ _).alloc (Nat.le_refl _) _
  clear hw0
  refine (l02Packet_true s d p t i b HK.out _).mono ?_
  rintro e w1 ⟨rfl, hB1⟩
  have hblk1 := (hB1.block _ hlt).trans hblk
  have hB := Below.trans hB0 (hB1.mono hB0.size)
  have c0 := blk_cell hblk1 0
  have c1 := blk_cell hblk1 1
  have c2 := blk_cell hblk1 2
  have c3 := blk_cell hblk1 3
  have c4 := blk_cell hblk1 4
  have c5 := blk_cell hblk1 5
  clear hblk hblk1
  simp at c0 c1 c2 c3 c4 c5
  go_wp2_with fail
  refine (l02PacketBytes_ok s d p t i b HK.out _).mono ?_
  rintro e w2 ⟨rfl, hB2⟩
  have hB' := Below.trans hB (hB2.mono hB.size)
  obtain ⟨v, w3, h1, h2, h3⟩ := conv_sb w2 (bstr (packetB s d p t i b))
  have hB'' := Below.trans hB' (h3.mono hB'.size)
  have H2 := Lib.hid h2
  clear h2 c0 c1 c2 c3 c4 c5
  go_wp2
  go_ret2
  exact ⟨_, rfl, by have := H2.out; rwa [sb_bstr] at this, hB''⟩
end Go.Proofs.Ytdenjmdngmmodaa
namespace Go.Proofs.Ytdenjmdngmmodaa
open Go.RowKit
set_option linter.unusedVariables false
set_option linter.unusedSimpArgs false
set_option maxRecDepth 20000
set_option maxHeartbeats 2000000

structure Pk where
  s : Nat
  d : Nat
  p : Nat
  t : Nat
  i : Nat
  body : List UInt8
def Pk.v (f : Pk) : Value := .agg #[.int .i64 f.s, .int .i64 f.d, .int .i64 f.p, .int .i64 f.t, .int .i64 f.i, .string (bstr f.body)]
def Pk.zero : Pk := ⟨0, 0, 0, 0, 0, []⟩
def pkOf (bs : List UInt8) : Pk := ⟨numL ((bs.drop 12).take 4), numL ((bs.drop 16).take 4), (bs.getD 9 0).toNat, (bs.getD 8 0).toNat, numL ((bs.drop 4).take 2), (bs.drop 20).take (numL ((bs.drop 2).take 2) - 20)⟩
theorem ofInt_i64 (a : Nat) (h : a < 9223372036854775808) : BitVec.ofInt 64 (a : Int) = BitVec.ofNat 64 a := by simp
theorem and_16383 (n : Nat) (h : n < 9223372036854775808) : bits .and .i64 (n : Int) 16383 = ((n % 16384 : Nat) : Int) := by
  show IntKind.i64.wrap ((BitVec.ofInt 64 (n : Int) &&& BitVec.ofInt 64 ((16383 : Nat) : Int)).toNat : Int) = _
  rw [BitVec.toNat_and, ofInt_i64 n h, ofInt_i64 16383 (by omega), IntKind.wrap_i64, BitVec.toNat_ofNat, BitVec.toNat_ofNat, Nat.mod_eq_of_lt (by omega : n < 2 ^ 64), show 16383 % 2 ^ 64 = 2 ^ 14 - 1 from rfl, Nat.and_two_pow_sub_one_eq_mod]
  omega
/-- What readPacket answers. -/
def rdPk (bs : List UInt8) : Pk × Int :=
  if 20 ≤ bs.length ∧ bs.length ≤ 400 ∧ (bs.getD 0 0).toNat = 69 ∧ 20 ≤ numL ((bs.drop 2).take 2) ∧ numL ((bs.drop 2).take 2) ≤ bs.length then
    if f16 (ws true (bs.take 20)) = 65535 then
      if numL ((bs.drop 6).take 2) % 16384 = 0 then (pkOf bs, 0) else (.zero, 11)
    else (.zero, 8)
  else (.zero, 3)
def readPacketφ (bs : List UInt8) : Nat → Option Spec
  | 2 => some (fun _ v _ => v = .int .i64 (numL ((bs.drop 12).take 4)))
  | 5 => some (fun _ v _ => v = .int .i64 (numL ((bs.drop 16).take 4)))
  | 16 => some (fun _ v _ => v = .int .i64 (numL ((bs.drop 4).take 2)))
  | 20 => some (fun _ v _ => v = .int .i64 (numL ((bs.drop 2).take 2)))
  | _ => none

theorem readPacket_ok (A : Option Addr) (c : Nat) (bs : List UInt8) (hl : bs.length ≤ 1099511627776) (hc : bs.length ≤ c) (w : World) (hr : Rd w A (bs.map bV)) :
    Calls Try.prog 67 #[.slice A bs.length c] w fun e w' => e = .returned (.tuple #[(rdPk bs).1.v, .int .i64 (rdPk bs).2]) ∧ Below w.heap.size w w' := by
  by_cases hlen : 20 ≤ bs.length ∧ bs.length ≤ 400
  · have hd : decide ((20 : Int) ≤ bs.length ∧ (bs.length : Int) ≤ 400) = true := by simp; omega
    obtain ⟨ad, rfl, hk0⟩ := hr.at_ (k := 0) (by simp; omega)
    have hk0' : w.cell? (ad.add 0) = some (.int .u8 ((bs.getD 0 0).toNat : Int)) := by rw [hk0]; simp [bV, List.getD, show 0 < bs.length by omega]
    obtain ⟨ab, ao, sp⟩ := ad
    obtain rfl : sp = none := by simpa [Addr.add] using World.cell?_spot hk0
    have cell : ∀ k, k < 20 → w.cell? ⟨ab, ao + k, none⟩ = some (.int .u8 ((bs.getD k 0).toNat : Int)) := fun k hk => by
      obtain ⟨ad', e, h⟩ := hr.at_ (k := k) (by simp; omega)
      cases e
      rw [show (⟨ab, ao + k, none⟩ : Addr) = (⟨ab, ao, none⟩ : Addr).add k from by rw [Addr.add_lit], h]
      simp [bV, List.getD, show k < bs.length by omega]
    have HD := Lib.hid hd
    have Hl := Lib.hid (And.intro hlen (And.intro hl hc))
    have hlen20 : (20 : Int) ≤ bs.length := by omega
    have hcc : (20 : Int) ≤ c := by omega
    have n2 : ¬ c = 2 := by omega
    have n4 : ¬ c = 4 := by omega
    have n6 : ¬ c = 6 := by omega
    have n12 : ¬ c = 12 := by omega
    have n16 : ¬ c = 16 := by omega
    have k2 : (2 : Int) ≤ c := by omega
    have k4 : (4 : Int) ≤ c := by omega
    have k6 : (6 : Int) ≤ c := by omega
    have k8 : (8 : Int) ≤ c := by omega
    have k12 : (12 : Int) ≤ c := by omega
    have k16 : (16 : Int) ≤ c := by omega
    clear hlen hl hc hd hk0 hk0'
    go_enter Try.func67, Try.ntmps67
    go_wp2_with fail
    generalize hw0 : World.alloc w (.cells #[.int .i64 0, .int .i64 0, .int .i64 0, .int .i64 0, .int .i64 0, .string ⟨#[]⟩] 39) = w0
    have hblk : w0.heap[World.heap w |>.size]? = some (.cells #[.int .i64 0, .int .i64 0, .int .i64 0, .int .i64 0, .int .i64 0, .string ⟨#[]⟩] 39 (0, 0)) := by rw [← hw0]; exact heap_alloc_new _ _
    have hlt : (World.heap w).size < w0.heap.size := (Array.getElem?_eq_some_iff.1 hblk).1
    have hB0 : Below (World.heap w).size w w0 := by rw [← hw0]; exact (Below.refl _ _).alloc (Nat.le_refl _) _
    clear hw0
    refine (within_ok _ _ _ _).mono ?_
    rintro e w1 ⟨rfl, rfl⟩
    rw [HD.out]
    have hr0 := hr.below hB0 (Nat.le_refl _)
    have hrs : ∀ W, Below w0.heap.size w0 W → ∀ k n, 0 < k → k < 20 → Rd W (some ⟨ab, ao + k, none⟩) (((bs.drop k).take n).map bV) := fun W hW k n h0 h1 => by
      have h := (hr0.below hW (Nat.le_refl _)).sl Hl.out.2.2 k n h0
      rw [if_neg (by have := Hl.out; omega)] at h
      exact h
    have hdl : ∀ k n, k + n ≤ 20 → ((bs.drop k).take n).length = n := fun k n h => by have := Hl.out; rw [List.length_take, List.length_drop]; omega
    have c00 : w0.cell? ⟨ab, ao, none⟩ = some (.int .u8 ((bs.getD 0 0).toNat : Int)) := (hB0.cell (World.block_lt_of_cell? w _ (cell 0 (by omega)))).trans (cell 0 (by omega))
    have c08 : w0.cell? ⟨ab, ao + 8, none⟩ = some (.int .u8 ((bs.getD 8 0).toNat : Int)) := (hB0.cell (World.block_lt_of_cell? w _ (cell 8 (by omega)))).trans (cell 8 (by omega))
    have c09 : w0.cell? ⟨ab, ao + 9, none⟩ = some (.int .u8 ((bs.getD 9 0).toNat : Int)) := (hB0.cell (World.block_lt_of_cell? w _ (cell 9 (by omega)))).trans (cell 9 (by omega))
    have u8 := (bs.getD 8 0).toNat_lt
    have u9 := (bs.getD 9 0).toNat_lt
    clear cell
    have hbr : rdPk bs = if (bs.getD 0 0).toNat = 69 ∧ 20 ≤ numL ((bs.drop 2).take 2) ∧ numL ((bs.drop 2).take 2) ≤ bs.length then (if f16 (ws true (bs.take 20)) = 65535 then (if numL ((bs.drop 6).take 2) % 16384 = 0 then (pkOf bs, 0) else (.zero, 11)) else (.zero, 8)) else (.zero, 3) := by
      unfold rdPk; have h1 := Hl.out.1.1; have h2 := Hl.out.1.2; simp only [h1, h2, true_and]
    have hpk : pkOf bs = ⟨numL ((bs.drop 12).take 4), numL ((bs.drop 16).take 4), (bs.getD 9 0).toNat, (bs.getD 8 0).toNat, numL ((bs.drop 4).take 2), (bs.drop 20).take (numL ((bs.drop 2).take 2) - 20)⟩ := rfl
    have HPK := Lib.hid hpk
    clear hpk
    generalize (bs.getD 0 0).toNat = x0 at *
    generalize (bs.getD 8 0).toNat = x8 at *
    generalize (bs.getD 9 0).toNat = x9 at *
    by_cases h69 : x0 = 69
    · subst h69
      have HBR := Lib.hid hbr
      clear hbr
      go_wp2_with fail
      refine (hdl 2 2 (by omega) ▸ num_ok _ (c - 2) ((bs.drop 2).take 2) (by rw [hdl 2 2 (by omega)]; omega) w0 (hrs w0 (Below.refl _ _) 2 2 (by omega) (by omega))).mono ?_
      rintro e w1 ⟨rfl, rfl⟩
      go_wp2_with fail
      refine (within_ok _ _ _ _).mono ?_
      rintro e w1 ⟨rfl, rfl⟩
      generalize hN : numL ((bs.drop 2).take 2) = N at *
      by_cases hL : 20 ≤ N ∧ N ≤ bs.length
      · rw [show decide ((20 : Int) ≤ N ∧ (N : Int) ≤ bs.length) = true from by simp; omega]
        obtain ⟨hL1, hL2⟩ := hL
        go_wp2_with fail
        have h20 : (bs.take 20).length = 20 := by have := Hl.out; rw [List.length_take]; omega
        refine (h20 ▸ sum16_ok (some ⟨ab, ao, none⟩) c (bs.take 20) (by rw [h20]; omega) w0 (hr0.hd 20)).mono ?_
        rintro e w1 ⟨rfl, rfl⟩
        by_cases hs : f16 (ws true (bs.take 20)) = 65535
        · rw [hs]
          go_wp2_with fail
          refine (hdl 6 2 (by omega) ▸ num_ok _ (c - 6) ((bs.drop 6).take 2) (by rw [hdl 6 2 (by omega)]; omega) w0 (hrs w0 (Below.refl _ _) 6 2 (by omega) (by omega))).mono ?_
          rintro e w1 ⟨rfl, rfl⟩
          have hbits := and_16383 (numL ((bs.drop 6).take 2)) (by have := numL_lt ((bs.drop 6).take 2); rw [hdl 6 2 (by omega)] at this; omega)
          have hbr2 : rdPk bs = if numL ((bs.drop 6).take 2) % 16384 = 0 then (pkOf bs, 0) else (.zero, 11) := by rw [HBR.out, if_pos ⟨trivial, hL1, hL2⟩, if_pos hs]
          generalize hq6 : numL ((bs.drop 6).take 2) % 16384 = q6 at *
          by_cases hq : q6 = 0
          · subst hq
            have hfin : rdPk bs = (pkOf bs, 0) := hbr2
            have HF := Lib.hid hfin
            clear hfin hbr2 hq6
            go_wp2_with fail
            have hcell : ∀ W, Below w0.heap.size w0 W → W.cell? ⟨ab, ao + 9, none⟩ = some (.int .u8 (x9 : Int)) ∧ W.cell? ⟨ab, ao + 8, none⟩ = some (.int .u8 (x8 : Int)) ∧ (convert 22 9 (.slice (if c = 20 then some ⟨ab, ao, none⟩ else some ⟨ab, ao + 20, none⟩) (N - 20) (c - 20))).run Try.prog W = .ok (.string (bstr ((bs.drop 20).take (N - 20)))) W := fun W hW => by
              have hr' := hr0.below hW (Nat.le_refl _)
              exact ⟨(hW.cell (World.block_lt_of_cell? w0 _ c09)).trans c09, (hW.cell (World.block_lt_of_cell? w0 _ c08)).trans c08, bytes_str _ _ _ _ (by rw [List.length_take, List.length_drop]; omega) _ (hr'.sl Hl.out.2.2 20 _ (by omega))⟩
            have x8' : (x8 : Int) ≤ 255 := by omega
            have x9' : (x9 : Int) ≤ 255 := by omega
            have hN1 : (20 : Int) ≤ N := by omega
            have i8 : (8 : Int) < bs.length := by omega
            have i9 : (9 : Int) < bs.length := by omega
            have hN2 : (N : Int) ≤ bs.length := by omega
            have hN3 : (N : Int) ≤ c := by have := Hl.out.2.2; omega
            have HC := Lib.hid (And.intro c00 (And.intro c08 c09))
            clear c00 c08 c09 hs
            refine wp_region_lex 24 (by kernel_rfl) (by kernel_rfl) (JB w0) LeB (readPacketφ bs) ?_ JB.mono ?_ ?_
            · intro j sp x v W W' hj hL h
              unfold readPacketφ at hj
              split at hj <;> first | (cases hj; first | exact h | exact BsSp.st hL h | exact ArgRow.st hL h | exact OwnSp.st hL h | exact AllocSp.st hL h) | cases hj
            · exact (Below.refl _ _).drew
            simp only [List.take_succ_cons, List.take_zero, List.drop_succ_cons, List.drop_zero, pairs, List.zipIdx_cons, List.zipIdx_nil, List.map_cons, List.map_nil, Nat.zero_add, Nat.reduceAdd]
            (repeat (first | (refine lex_pure rfl rfl (fun K hK => ?_); go_simp; refine hK _ ?_; clear hK K; try simp (disch := omega) only [IntWalk.i64_in, IntWalk.u8_in, Int.add_sub_cancel, Int.tmod_eq_emod_of_nonneg, Int.tdiv_eq_ediv_of_nonneg]) | (refine lex_load rfl rfl _ (fun m W hJ hF => (by have cc := hcell W hJ; go_simp; rfl)) ?_; try simp (disch := omega) only [IntWalk.i64_in, IntWalk.u8_in, Int.add_sub_cancel, Int.tmod_eq_emod_of_nonneg, Int.tdiv_eq_ediv_of_nonneg]) | (refine lex_sadd rfl rfl rfl rfl rfl (by first | omega | (simp only [ByteArray.size_append]; omega)) ?_; go_simp)))
            refine lex_eff' (sp := fun _ v _ => v = .int .i64 (numL ((bs.drop 12).take 4))) rfl rfl (by intro _ _ _ _ h; exact h) (fun m W hJ hF => ?_) (fun v x hh => ?_) rfl
            · have hr' := (hr.below hB0 (Nat.le_refl _)).below hJ (Nat.le_refl _)
              have hn : ((bs.drop 12).take 4).length = 4 := by simp only [List.length_take, List.length_drop]; omega
              refine gives_call Try.call115 ((hn ▸ num_ok _ (c - 12) ((bs.drop 12).take 4) (by omega) W (hrs _ hJ 12 4 (by omega) (by omega))).mono ?_)
              rintro e w' ⟨rfl, rfl⟩
              exact ⟨_, rfl, hJ, LeB.of (Below.refl _ _), rfl⟩
            obtain ⟨_, _, -, rfl, -⟩ := hh
            (repeat (first | (refine lex_pure rfl rfl (fun K hK => ?_); go_simp; refine hK _ ?_; clear hK K; try simp (disch := omega) only [IntWalk.i64_in, IntWalk.u8_in, Int.add_sub_cancel, Int.tmod_eq_emod_of_nonneg, Int.tdiv_eq_ediv_of_nonneg]) | (refine lex_load rfl rfl _ (fun m W hJ hF => (by have cc := hcell W hJ; go_simp; rfl)) ?_; try simp (disch := omega) only [IntWalk.i64_in, IntWalk.u8_in, Int.add_sub_cancel, Int.tmod_eq_emod_of_nonneg, Int.tdiv_eq_ediv_of_nonneg]) | (refine lex_sadd rfl rfl rfl rfl rfl (by first | omega | (simp only [ByteArray.size_append]; omega)) ?_; go_simp)))
            refine lex_eff' (sp := fun _ v _ => v = .int .i64 (numL ((bs.drop 16).take 4))) rfl rfl (by intro _ _ _ _ h; exact h) (fun m W hJ hF => ?_) (fun v x hh => ?_) rfl
            · have hr' := (hr.below hB0 (Nat.le_refl _)).below hJ (Nat.le_refl _)
              have hn : ((bs.drop 16).take 4).length = 4 := by simp only [List.length_take, List.length_drop]; omega
              refine gives_call Try.call115 ((hn ▸ num_ok _ (c - 16) ((bs.drop 16).take 4) (by omega) W (hrs _ hJ 16 4 (by omega) (by omega))).mono ?_)
              rintro e w' ⟨rfl, rfl⟩
              exact ⟨_, rfl, hJ, LeB.of (Below.refl _ _), rfl⟩
            obtain ⟨_, _, -, rfl, -⟩ := hh
            (repeat (first | (refine lex_pure rfl rfl (fun K hK => ?_); go_simp; refine hK _ ?_; clear hK K; try simp (disch := omega) only [IntWalk.i64_in, IntWalk.u8_in, Int.add_sub_cancel, Int.tmod_eq_emod_of_nonneg, Int.tdiv_eq_ediv_of_nonneg]) | (refine lex_load rfl rfl _ (fun m W hJ hF => (by have cc := hcell W hJ; go_simp; rfl)) ?_; try simp (disch := omega) only [IntWalk.i64_in, IntWalk.u8_in, Int.add_sub_cancel, Int.tmod_eq_emod_of_nonneg, Int.tdiv_eq_ediv_of_nonneg]) | (refine lex_sadd rfl rfl rfl rfl rfl (by first | omega | (simp only [ByteArray.size_append]; omega)) ?_; go_simp)))
            refine lex_eff' (sp := fun _ v _ => v = .int .i64 (numL ((bs.drop 4).take 2))) rfl rfl (by intro _ _ _ _ h; exact h) (fun m W hJ hF => ?_) (fun v x hh => ?_) rfl
            · have hr' := (hr.below hB0 (Nat.le_refl _)).below hJ (Nat.le_refl _)
              have hn : ((bs.drop 4).take 2).length = 2 := by simp only [List.length_take, List.length_drop]; omega
              refine gives_call Try.call115 ((hn ▸ num_ok _ (c - 4) ((bs.drop 4).take 2) (by omega) W (hrs _ hJ 4 2 (by omega) (by omega))).mono ?_)
              rintro e w' ⟨rfl, rfl⟩
              exact ⟨_, rfl, hJ, LeB.of (Below.refl _ _), rfl⟩
            obtain ⟨_, _, -, rfl, -⟩ := hh
            (repeat (first | (refine lex_pure rfl rfl (fun K hK => ?_); go_simp; refine hK _ ?_; clear hK K; try simp (disch := omega) only [IntWalk.i64_in, IntWalk.u8_in, Int.add_sub_cancel, Int.tmod_eq_emod_of_nonneg, Int.tdiv_eq_ediv_of_nonneg]) | (refine lex_load rfl rfl _ (fun m W hJ hF => (by have cc := hcell W hJ; go_simp; rfl)) ?_; try simp (disch := omega) only [IntWalk.i64_in, IntWalk.u8_in, Int.add_sub_cancel, Int.tmod_eq_emod_of_nonneg, Int.tdiv_eq_ediv_of_nonneg]) | (refine lex_sadd rfl rfl rfl rfl rfl (by first | omega | (simp only [ByteArray.size_append]; omega)) ?_; go_simp)))
            refine lex_eff' (sp := fun _ v _ => v = .int .i64 (numL ((bs.drop 2).take 2))) rfl rfl (by intro _ _ _ _ h; exact h) (fun m W hJ hF => ?_) (fun v x hh => ?_) rfl
            · have hr' := (hr.below hB0 (Nat.le_refl _)).below hJ (Nat.le_refl _)
              have hn : ((bs.drop 2).take 2).length = 2 := by simp only [List.length_take, List.length_drop]; omega
              refine gives_call Try.call115 ((hn ▸ num_ok _ (c - 2) ((bs.drop 2).take 2) (by omega) W (hrs _ hJ 2 2 (by omega) (by omega))).mono ?_)
              rintro e w' ⟨rfl, rfl⟩
              exact ⟨_, rfl, hJ, LeB.of (Below.refl _ _), rfl⟩
            obtain ⟨_, _, -, rfl, -⟩ := hh
            (repeat (first | (refine lex_pure rfl rfl (fun K hK => ?_); go_simp; refine hK _ ?_; clear hK K; try simp (disch := omega) only [IntWalk.i64_in, IntWalk.u8_in, Int.add_sub_cancel, Int.tmod_eq_emod_of_nonneg, Int.tdiv_eq_ediv_of_nonneg]) | (refine lex_load rfl rfl _ (fun m W hJ hF => (by have cc := hcell W hJ; go_simp; rfl)) ?_; try simp (disch := omega) only [IntWalk.i64_in, IntWalk.u8_in, Int.add_sub_cancel, Int.tmod_eq_emod_of_nonneg, Int.tdiv_eq_ediv_of_nonneg]) | (refine lex_sadd rfl rfl rfl rfl rfl (by first | omega | (simp only [ByteArray.size_append]; omega)) ?_; go_simp)))
            refine lex_nil (fun m W hJ hF => ?_)
            have hres := (hJ.block _ hlt).trans hblk
            have hB := Below.trans hB0 (Below.mono hJ hB0.size)
            clear hF hcell hJ hblk hrs hdl
            generalize (if c = 20 then some _ else _) = A20
            have Hb := Lib.hid hres
            clear hres
            go_wp2_with (refine wpList_store_row rfl _ _ 39 rfl w.heap.size 39 _ _ rfl rfl Hb.out rfl infoPk rfl ?_)
            refine bodyPost_ret (ret_cell_tmp rfl rfl (setRow_heap _ _ _ _ _ _ Hb.out) Try.underlying39 rfl infoPk) rfl ?_
            exact ⟨by rw [HF.out, HPK.out]; rfl, below_setRow hB (Nat.le_refl _) _⟩
          · have hfin : rdPk bs = (.zero, 11) := by rw [hbr2, if_neg hq]
            have HF := Lib.hid hfin
            have g1 : ((q6 : Int) != 0) = true := by simp; omega
            have g2 : ((q6 : Int) == 0) = false := by simp; omega
            clear hfin hbr2 hq6 hq hrs hdl hs
            have Hb := Lib.hid hblk
            clear hblk
            go_wp2_with (refine wpList_store_row rfl _ _ 39 rfl w.heap.size 39 _ _ rfl rfl Hb.out rfl infoPk rfl ?_)
            refine bodyPost_ret (ret_cell_tmp rfl rfl (setRow_heap _ _ _ _ _ _ Hb.out) Try.underlying39 rfl infoPk) rfl ?_
            exact ⟨by rw [HF.out]; rfl, below_setRow hB0 (Nat.le_refl _) _⟩
        · have hfin : rdPk bs = (.zero, 8) := by rw [HBR.out, if_pos ⟨trivial, hL1, hL2⟩, if_neg hs]
          have HF := Lib.hid hfin
          have hle := f16_le (ws true (bs.take 20))
          generalize f16 (ws true (bs.take 20)) = F at *
          have g1 : (((65535 - F : Nat) : Int) != 0) = true := by simp; omega
          have g2 : (((65535 - F : Nat) : Int) == 0) = false := by simp; omega
          generalize 65535 - F = F' at *
          clear hfin hrs hdl hs hle
          have Hb := Lib.hid hblk
          clear hblk
          go_wp2_with (refine wpList_store_row rfl _ _ 39 rfl w.heap.size 39 _ _ rfl rfl Hb.out rfl infoPk rfl ?_)
          refine bodyPost_ret (ret_cell_tmp rfl rfl (setRow_heap _ _ _ _ _ _ Hb.out) Try.underlying39 rfl infoPk) rfl ?_
          exact ⟨by rw [HF.out]; rfl, below_setRow hB0 (Nat.le_refl _) _⟩
      · rw [show decide ((20 : Int) ≤ N ∧ (N : Int) ≤ bs.length) = false from by simp; omega]
        have hfin : rdPk bs = (.zero, 3) := by rw [HBR.out, if_neg (by intro h; exact hL h.2)]
        have HF := Lib.hid hfin
        clear hfin hrs hdl hL
        have Hb := Lib.hid hblk
        clear hblk
        go_wp2_with (refine wpList_store_row rfl _ _ 39 rfl w.heap.size 39 _ _ rfl rfl Hb.out rfl infoPk rfl ?_)
        refine bodyPost_ret (ret_cell_tmp rfl rfl (setRow_heap _ _ _ _ _ _ Hb.out) Try.underlying39 rfl infoPk) rfl ?_
        exact ⟨by rw [HF.out]; rfl, below_setRow hB0 (Nat.le_refl _) _⟩
    · have hfin : rdPk bs = (.zero, 3) := by rw [hbr, if_neg (by intro h; exact h69 h.1)]
      have HF := Lib.hid hfin
      have g1 : ((x0 : Int) != 69) = true := by simp; omega
      have g2 : ((x0 : Int) == 69) = false := by simp; omega
      clear hfin hbr hrs hdl h69
      have Hb := Lib.hid hblk
      clear hblk
      go_wp2_with (refine wpList_store_row rfl _ _ 39 rfl w.heap.size 39 _ _ rfl rfl Hb.out rfl infoPk rfl ?_)
      refine bodyPost_ret (ret_cell_tmp rfl rfl (setRow_heap _ _ _ _ _ _ Hb.out) Try.underlying39 rfl infoPk) rfl ?_
      exact ⟨by rw [HF.out]; rfl, below_setRow hB0 (Nat.le_refl _) _⟩
  · have hfin : rdPk bs = (.zero, 3) := by rw [rdPk, if_neg (by omega)]
    have HF := Lib.hid hfin
    have hd : decide ((20 : Int) ≤ bs.length ∧ (bs.length : Int) ≤ 400) = false := by simp; omega
    have HD := Lib.hid hd
    clear hfin hlen hd
    go_enter Try.func67, Try.ntmps67
    go_wp2_with fail
    refine (within_ok _ _ _ _).mono ?_
    rintro e w1 ⟨rfl, rfl⟩
    rw [HD.out]
    generalize hw0 : World.alloc w (.cells #[.int .i64 0, .int .i64 0, .int .i64 0, .int .i64 0, .int .i64 0, .string ⟨#[]⟩] 39) = w0
    have hblk : w0.heap[World.heap w |>.size]? = some (.cells #[.int .i64 0, .int .i64 0, .int .i64 0, .int .i64 0, .int .i64 0, .string ⟨#[]⟩] 39 (0, 0)) := by rw [← hw0]; exact heap_alloc_new _ _
    have hlt : (World.heap w).size < w0.heap.size := (Array.getElem?_eq_some_iff.1 hblk).1
    have hB0 : Below (World.heap w).size w w0 := by rw [← hw0]; exact (Below.refl _ _).alloc (Nat.le_refl _) _
    clear hw0
    have Hb := Lib.hid hblk
    clear hblk
    go_wp2_with (refine wpList_store_row rfl _ _ 39 rfl w.heap.size 39 _ _ rfl rfl Hb.out rfl infoPk rfl ?_)
    refine bodyPost_ret (ret_cell_tmp rfl rfl (setRow_heap _ _ _ _ _ _ Hb.out) Try.underlying39 rfl infoPk) rfl ?_
    exact ⟨by rw [HF.out]; rfl, below_setRow hB0 (Nat.le_refl _) _⟩

theorem ReadPacket_ok (A : Option Addr) (c : Nat) (bs : List UInt8) (hl : bs.length ≤ 65536) (hc : bs.length ≤ c) (w : World) (hr : Rd w A (bs.map bV)) :
    Calls Try.prog 21 #[.slice A bs.length c] w fun e w' => e = .returned (.tuple #[(rdPk bs).1.v, .int .i64 (rdPk bs).2]) ∧ Below w.heap.size w w' := by
  have hl2 : (bs.length : Int) ≤ 65536 := by omega
  go_enter Try.func21, Try.ntmps21
  go_wp2_with fail
  generalize hw0 : World.alloc w (.cells #[.int .i64 0, .int .i64 0, .int .i64 0, .int .i64 0, .int .i64 0, .string ⟨#[]⟩] 39) = w0
  have hblk : w0.heap[World.heap w |>.size]? = some (.cells #[.int .i64 0, .int .i64 0, .int .i64 0, .int .i64 0, .int .i64 0, .string ⟨#[]⟩] 39 (0, 0)) := by rw [← hw0]; exact heap_alloc_new _ _
  have hlt : (World.heap w).size < w0.heap.size := (Array.getElem?_eq_some_iff.1 hblk).1
  have hB0 : Below (World.heap w).size w w0 := by rw [← hw0]; exact (Below.refl _ _).alloc (Nat.le_refl _) _
  clear hw0
  refine (readPacket_ok A c bs (by omega) hc w0 (hr.below hB0 (Nat.le_refl _))).mono ?_
  rintro e w1 ⟨rfl, hB1⟩
  have hb1 := (hB1.block _ hlt).trans hblk
  have hB := Below.trans hB0 (hB1.mono hB0.size)
  have Hb := Lib.hid hb1
  clear hblk hb1
  go_wp2_with (refine wpList_store_row rfl _ _ 39 rfl w.heap.size 39 _ _ rfl rfl Hb.out rfl infoPk rfl ?_)
  refine bodyPost_ret (ret_cell_tmp rfl rfl (setRow_heap _ _ _ _ _ _ Hb.out) Try.underlying39 rfl infoPk) rfl ?_
  exact ⟨rfl, below_setRow hB (Nat.le_refl _) _⟩
end Go.Proofs.Ytdenjmdngmmodaa
namespace Go.Proofs.Ytdenjmdngmmodaa
open Go.RowKit
set_option linter.unusedVariables false
set_option linter.unusedSimpArgs false
set_option maxRecDepth 20000
set_option maxHeartbeats 1000000

theorem f16_full (T : Nat) (h : 0 < T) : f16 (T + (65535 - f16 T)) = 65535 := by
  unfold f16; rw [if_neg (by omega), if_neg (by omega)]; omega
theorem ws_beN (c : Nat) (h : c < 65536) : ws true (beN c 2) = c := by
  show (UInt8.ofNat (c / 256 ^ 1 % 256)).toNat * 256 + ((UInt8.ofNat (c / 256 ^ 0 % 256)).toNat + 0) = c
  simp only [UInt8.toNat_ofNat']
  omega
theorem ws_pkH (s d p t i L : Nat) : ws true (pkH s d p t i L) = ws true (headB s d p t i L) + csum s d p t i L := by
  have hc : csum s d p t i L < 65536 := Nat.lt_of_le_of_lt (Nat.sub_le _ _) (by omega)
  have a1 : ws true (headB s d p t i L) = ws true (pkA p t i L) + ws true (pkR s d) := by
    rw [headB_eq, ws_append, pkA_len]
    show _ + ws true ([0, 0] ++ pkR s d) = _
    rw [ws_append]
    show _ + (0 + ws true (pkR s d)) = _
    omega
  have a2 : ws true (pkH s d p t i L) = ws true (pkA p t i L) + (csum s d p t i L + ws true (pkR s d)) := by
    rw [pkH, ws_append, pkA_len]
    show _ + ws true (beN (csum s d p t i L) 2 ++ pkR s d) = _
    rw [ws_append, ws_beN _ hc, beN_len]
    rfl
  omega
theorem head_pos (s d p t i L : Nat) : 0 < ws true (headB s d p t i L) := by
  show 0 < (69 : UInt8).toNat * 256 + _
  have : (69 : UInt8).toNat = 69 := rfl
  omega
theorem pkH_full (s d p t i L : Nat) : f16 (ws true (pkH s d p t i L)) = 65535 := by rw [ws_pkH]; exact f16_full _ (head_pos s d p t i L)
theorem pkH_eq (s d p t i L : Nat) : pkH s d p t i L = [69, 0] ++ (beN L 2 ++ (beN i 2 ++ ([0, 0] ++ ([UInt8.ofNat t] ++ ([UInt8.ofNat p] ++ (beN (csum s d p t i L) 2 ++ (beN s 4 ++ beN d 4))))))) := by
  simp [pkH, pkA, pkR]
/-- A right packet is read back, whatever stands behind it. -/
theorem rdPk_back (s d p t i : Nat) (b : ByteArray) (h : PacketOK s d p t i b) (tl : List UInt8) (hl : 20 + b.size + tl.length ≤ 400) : rdPk (packetB s d p t i b ++ tl) = (⟨s, d, p, t, i, sb b⟩, 0) := by
  obtain ⟨h1, h2, h3, h4, h5, h6⟩ := h
  obtain ⟨L, hL⟩ : ∃ L : Nat, L = 20 + b.size := ⟨_, rfl⟩
  have hlen : (packetB s d p t i b ++ tl).length = 20 + b.size + tl.length := by rw [List.length_append, packetB, List.length_append, pkH_len, sb_len]
  have e0 : packetB s d p t i b ++ tl = pkH s d p t i L ++ (sb b ++ tl) := by rw [packetB, hL, List.append_assoc]
  generalize hbs : packetB s d p t i b ++ tl = bs at *
  have d0 : bs = [69, 0] ++ (beN L 2 ++ (beN i 2 ++ ([0, 0] ++ ([UInt8.ofNat t] ++ ([UInt8.ofNat p] ++ (beN (csum s d p t i L) 2 ++ (beN s 4 ++ (beN d 4 ++ (sb b ++ tl))))))))) := by rw [e0, pkH_eq]; simp only [List.append_assoc]
  have d2 : bs.drop 2 = beN L 2 ++ (beN i 2 ++ ([0, 0] ++ ([UInt8.ofNat t] ++ ([UInt8.ofNat p] ++ (beN (csum s d p t i L) 2 ++ (beN s 4 ++ (beN d 4 ++ (sb b ++ tl)))))))) := by rw [d0]; rfl
  have d4 : bs.drop 4 = beN i 2 ++ ([0, 0] ++ ([UInt8.ofNat t] ++ ([UInt8.ofNat p] ++ (beN (csum s d p t i L) 2 ++ (beN s 4 ++ (beN d 4 ++ (sb b ++ tl))))))) := by rw [show 4 = 2 + 2 from rfl, ← List.drop_drop, d2, drop_app (beN_len L 2)]
  have d6 : bs.drop 6 = [0, 0] ++ ([UInt8.ofNat t] ++ ([UInt8.ofNat p] ++ (beN (csum s d p t i L) 2 ++ (beN s 4 ++ (beN d 4 ++ (sb b ++ tl)))))) := by rw [show 6 = 4 + 2 from rfl, ← List.drop_drop, d4, drop_app (beN_len i 2)]
  have d8 : bs.drop 8 = [UInt8.ofNat t] ++ ([UInt8.ofNat p] ++ (beN (csum s d p t i L) 2 ++ (beN s 4 ++ (beN d 4 ++ (sb b ++ tl))))) := by rw [show 8 = 6 + 2 from rfl, ← List.drop_drop, d6]; rfl
  have d9 : bs.drop 9 = [UInt8.ofNat p] ++ (beN (csum s d p t i L) 2 ++ (beN s 4 ++ (beN d 4 ++ (sb b ++ tl)))) := by rw [show 9 = 8 + 1 from rfl, ← List.drop_drop, d8]; rfl
  have d10 : bs.drop 10 = beN (csum s d p t i L) 2 ++ (beN s 4 ++ (beN d 4 ++ (sb b ++ tl))) := by rw [show 10 = 9 + 1 from rfl, ← List.drop_drop, d9]; rfl
  have d12 : bs.drop 12 = beN s 4 ++ (beN d 4 ++ (sb b ++ tl)) := by rw [show 12 = 10 + 2 from rfl, ← List.drop_drop, d10, drop_app (beN_len _ 2)]
  have d16 : bs.drop 16 = beN d 4 ++ (sb b ++ tl) := by rw [show 16 = 12 + 4 from rfl, ← List.drop_drop, d12, drop_app (beN_len _ 4)]
  have d20 : bs.drop 20 = sb b ++ tl := by rw [show 20 = 16 + 4 from rfl, ← List.drop_drop, d16, drop_app (beN_len _ 4)]
  have t20 : bs.take 20 = pkH s d p t i L := by rw [e0, take_app (pkH_len s d p t i L)]
  have nL : numL ((bs.drop 2).take 2) = L := by rw [d2, take_app (beN_len L 2), numL_beN]; omega
  have n6 : numL ((bs.drop 6).take 2) = 0 := by rw [d6]; rfl
  have g0 : (bs.getD 0 0).toNat = 69 := by rw [d0]; rfl
  have g8 : (bs.getD 8 0).toNat = t := by
    have : bs.getD 8 0 = (bs.drop 8).getD 0 0 := by simp [List.getD, List.getElem?_drop]
    rw [this, d8]; show (UInt8.ofNat t).toNat = t; simp only [UInt8.toNat_ofNat']; omega
  have g9 : (bs.getD 9 0).toNat = p := by
    have : bs.getD 9 0 = (bs.drop 9).getD 0 0 := by simp [List.getD, List.getElem?_drop]
    rw [this, d9]; show (UInt8.ofNat p).toNat = p; simp only [UInt8.toNat_ofNat']; omega
  have hpk : pkOf bs = ⟨s, d, p, t, i, sb b⟩ := by
    unfold pkOf
    rw [d12, take_app (beN_len s 4), d16, take_app (beN_len d 4), g8, g9, d4, take_app (beN_len i 2), nL, d20, take_app (show (sb b).length = L - 20 by rw [sb_len]; omega), numL_beN, numL_beN, numL_beN]
    congr 1
    · omega
    · omega
    · omega
  rw [rdPk, nL, n6, t20, g0, pkH_full, if_pos ⟨by omega, by omega, rfl, by omega, by omega⟩, if_pos rfl, if_pos rfl, hpk]
/-- A head with one bit turned is none. -/
theorem xor_bit : ∀ x : Fin 256, ∀ k : Fin 8, (x.val ^^^ 2 ^ k.val = x.val + 2 ^ k.val ∨ (x.val ^^^ 2 ^ k.val) + 2 ^ k.val = x.val) ∧ x.val ^^^ 2 ^ k.val < 256 := by decide +kernel
def wt : Bool → Nat → Nat
  | true, 0 => 256
  | false, 0 => 1
  | true, j + 1 => wt false j
  | false, j + 1 => wt true j
theorem wt_or : ∀ (j : Nat) (p : Bool), wt p j = 256 ∨ wt p j = 1
  | 0, true => Or.inl rfl
  | 0, false => Or.inr rfl
  | j + 1, true => wt_or j false
  | j + 1, false => wt_or j true
theorem ws_set : ∀ (l : List UInt8) (p : Bool) (j : Nat) (h : j < l.length) (y : UInt8), ws p (l.set j y) + l[j].toNat * wt p j = ws p l + y.toNat * wt p j
  | b :: t, true, 0, _, y => by
    show y.toNat * 256 + ws false t + b.toNat * 256 = b.toNat * 256 + ws false t + y.toNat * 256
    omega
  | b :: t, false, 0, _, y => by
    show y.toNat + ws true t + b.toNat * 1 = b.toNat + ws true t + y.toNat * 1
    omega
  | b :: t, true, j + 1, h, y => by
    have := ws_set t false j (by simpa using h) y
    show b.toNat * 256 + ws false (t.set j y) + (t[j]'(by simpa using h)).toNat * wt false j = b.toNat * 256 + ws false t + y.toNat * wt false j
    omega
  | b :: t, false, j + 1, h, y => by
    have := ws_set t true j (by simpa using h) y
    show b.toNat + ws true (t.set j y) + (t[j]'(by simpa using h)).toNat * wt true j = b.toNat + ws true t + y.toNat * wt true j
    omega
theorem rdPk_turned (bs : List UInt8) (hl : 20 ≤ bs.length) (hfull : f16 (ws true (bs.take 20)) = 65535) (j : Nat) (hj : j < 20) (k : Nat) (hk : k < 8) (y : UInt8) (hy : y.toNat = (bs[j]'(by omega)).toNat ^^^ 2 ^ k) : (rdPk (bs.set j y)).2 ≠ 0 := by
  have ht : (bs.set j y).take 20 = (bs.take 20).set j y := by rw [List.take_set]
  have hs := ws_set (bs.take 20) true j (by rw [List.length_take]; omega) y
  have hx := (xor_bit ⟨(bs[j]'(by omega)).toNat, (bs[j]'(by omega)).toNat_lt⟩ ⟨k, hk⟩).1
  simp only at hx
  rw [← hy] at hx
  rw [List.getElem_take] at hs
  have hD : 1 ≤ 2 ^ k ∧ 2 ^ k ≤ 128 := ⟨Nat.one_le_two_pow, by have := Nat.pow_le_pow_right (show 1 ≤ 2 by omega) (show k ≤ 7 by omega); omega⟩
  have hne : f16 (ws true ((bs.set j y).take 20)) ≠ 65535 := by
    rw [ht]
    unfold f16 at hfull ⊢
    generalize ws true (bs.take 20) = T at *
    generalize ws true ((bs.take 20).set j y) = T' at *
    generalize 2 ^ k = D at *
    intro h
    rcases wt_or j true with hw | hw <;> rw [hw] at hs <;> split at hfull <;> split at h <;> omega
  unfold rdPk
  rw [if_neg hne]
  split <;> decide
theorem rdPk_cut (bs : List UInt8) (r : Nat) (hr : r < bs.length) (hL : numL ((bs.drop 2).take 2) = bs.length) : (rdPk (bs.take r)).2 ≠ 0 := by
  by_cases h : 20 ≤ r
  · have e : ((bs.take r).drop 2).take 2 = (bs.drop 2).take 2 := by rw [List.drop_take, List.take_take, Nat.min_eq_left (by omega)]
    unfold rdPk
    rw [e, hL, List.length_take, if_neg (by omega)]
    decide
  · unfold rdPk
    rw [List.length_take, if_neg (by omega)]
    decide
theorem packetB_num (s d p t i : Nat) (b : ByteArray) (hb : b.size ≤ 380) : numL (((packetB s d p t i b).drop 2).take 2) = (packetB s d p t i b).length := by
  have hl : (packetB s d p t i b).length = 20 + b.size := by simp [packetB, pkH_len, sb_len]
  have e : (packetB s d p t i b).drop 2 = beN (20 + b.size) 2 ++ (beN i 2 ++ ([0, 0] ++ ([UInt8.ofNat t] ++ ([UInt8.ofNat p] ++ (beN (csum s d p t i (20 + b.size)) 2 ++ (beN s 4 ++ beN d 4)))))) ++ sb b := by rw [packetB, pkH_eq]; rfl
  rw [e, hl, List.append_assoc, take_app (beN_len _ 2), numL_beN]
  omega
theorem packetB_full (s d p t i : Nat) (b : ByteArray) : f16 (ws true ((packetB s d p t i b).take 20)) = 65535 := by
  rw [packetB, take_app (pkH_len s d p t i _), pkH_full]
end Go.Proofs.Ytdenjmdngmmodaa
