/- Connections: opening. -/
import Derived.Test.YtdenjmdngmmodaaCnC
namespace Go.Proofs.Ytdenjmdngmmodaa
open Go.RowKit
set_option linter.unusedVariables false
set_option linter.unusedSimpArgs false
set_option maxRecDepth 20000
set_option maxHeartbeats 600000

theorem opens_ok (a b s k p : Nat) (d : ByteArray) (w : World) :
    Calls Try.prog 71 #[.agg #[.int .i64 a, .int .i64 b, .int .i64 s, .int .i64 k, .int .i64 2, .int .i64 p, .string d]] w fun e w' => e = .returned (.bool true) ∧ Below w.heap.size w w' := by
  have hb : bits .and .i64 2 23 = 2 := by decide +kernel
  go_enter Try.func71, Try.ntmps71
  go_wp2
  go_ret
  exact ⟨rfl, (Below.refl _ _).alloc (Nat.le_refl _) _⟩
/-- A row loaded within a region of open order. -/
theorem run_exec_load {P : Program} {o : Oper} {a : Act} {w : World} {T : TypeId} {x : Operand} {b : Nat} {cs : Array Value} {E : TypeId} {fr : Nat × Nat} {d : TypeDesc} (ho : o.op = .load T x) (hx : a.eval x = .pointer (some ⟨b, 0, none⟩)) (hb : w.heap[b]? = some (.cells cs E fr)) (hu : P.underlying T = some d) (hd : d.isRow = true) (hi : (P.info? T).map (·.size) = some cs.size) :
    (execOp a.eval o).run P w = .ok (.value (.agg cs)) w := by
  unfold execOp
  simp [ho, hx, run_load_row w b T E cs hb hu hd hi]
def OneSg (B : Nat) (g : Sg) (v : Value) (w : World) : Prop := ∃ b, v = .slice (some ⟨b, 0, none⟩) 1 1 ∧ B ≤ b ∧ w.heap[b]? = some (.cells g.cells 55 (0, 0))
theorem OneSg.below {B : Nat} {g : Sg} {v : Value} {w w' : World} (h : OneSg B g v w) (hb : LeB w w') : OneSg B g v w' := by
  obtain ⟨b, h1, h2, h3⟩ := h
  exact ⟨b, h1, h2, (hb.block b (Array.getElem?_eq_some_iff.1 h3).1).trans h3⟩
theorem OneSg.setRow {B : Nat} {g : Sg} {v : Value} {w : World} (h : OneSg B g v w) {k : Nat} (hk : k < B) (cs : Array Value) : OneSg B g v (w.setRow k cs) := by
  obtain ⟨b, h1, h2, h3⟩ := h
  exact ⟨b, h1, h2, (setRow_other w k b cs (by omega)).trans h3⟩
theorem OneSg.more {B B' : Nat} {g : Sg} {v : Value} {w : World} (h : OneSg B g v w) (hB : B' ≤ B) : OneSg B' g v w := by
  obtain ⟨b, h1, h2, h3⟩ := h
  exact ⟨b, h1, by omega, h3⟩
theorem ret_cell3 {P : Program} {fn : Func} {p u q T E : Nat} {tmps : Array Value} {w : World} {b : Nat} {cs : Array Value} {fr : Nat × Nat} {ds : TypeDesc} {x y : Value} (h : fn.results = #[.cell p T, .tmp u, .tmp q]) (hp : tmps.getD p undef = .pointer (some ⟨b, 0, none⟩)) (hx : tmps.getD u undef = x) (hy : tmps.getD q undef = y) (hb : w.heap[b]? = some (.cells cs E fr)) (hu : P.underlying T = some ds) (hd : ds.isRow = true) (hi : (P.info? T).map (·.size) = some cs.size) :
    (results fn tmps).run P w = .ok (.tuple #[.agg cs, x, y]) w := by
  have hp' : tmps[p]?.getD undef = .pointer (some ⟨b, 0, none⟩) := by rw [← Array.getD_eq_getD_getElem?]; exact hp
  have hx' : tmps[u]?.getD undef = x := by rw [← Array.getD_eq_getD_getElem?]; exact hx
  have hy' : tmps[q]?.getD undef = y := by rw [← Array.getD_eq_getD_getElem?]; exact hy
  simp only [results, h]
  simp [Sem.run_bind, Result.andThen, hp', hx', hy', asAddr, run_loadVar_blk hb hu hd hi]
def openφ (B : Nat) (g : Sg) : Nat → Option Spec
  | 1 => some fun _ v w => OneSg B g v w
  | _ => none
theorem ConnOpen_ok (mac : ByteArray) (ip dst : Nat) (a b s k p : Nat) (d : ByteArray) (isn : Nat) (hm : mac.size = 6) (hip : ip < 4294967296) (hds : dst < 4294967296) (hg : SegOK a b s k 2 p d) (hi : isn < 4294967296) (w : World) :
    Calls Try.prog 23 #[.string mac, .int .i64 ip, .int .i64 dst, .agg #[.int .i64 a, .int .i64 b, .int .i64 s, .int .i64 k, .int .i64 2, .int .i64 p, .string d], .int .i64 isn] w fun e w' => ∃ v, e = .returned (.tuple #[.agg (newCn mac ip dst ⟨a, b, s, k, 2, p, d⟩ isn).cells, v, .int .i64 0]) ∧
      OneSg w.heap.size ⟨80, a, isn, onw s 1, 18, 1000, ⟨#[]⟩⟩ v w' ∧ Below w.heap.size w w' := by
  have h1 := mac_true hm
  have hms : (mac.size : Int) ≤ 65536 := by omega
  have HK := Lib.hid (And.intro hg (And.intro hip (And.intro hds hi)))
  clear hg hip hds hi hm
  go_enter Try.func23, Try.ntmps23
  go_wp2_with fail
  generalize hw0 : World.alloc w (.cells #[.int .i64 a, .int .i64 b, .int .i64 s, .int .i64 k, .int .i64 2, .int .i64 p, .string d] 55) = wa
  have hblk : wa.heap[World.heap w |>.size]? = some (.cells #[.int .i64 a, .int .i64 b, .int .i64 s, .int .i64 k, .int .i64 2, .int .i64 p, .string d] 55 (0, 0)) := by rw [← hw0]; exact heap_alloc_new _ _
  have hlt : (World.heap w).size < wa.heap.size := (Array.getElem?_eq_some_iff.1 hblk).1
  have hB0 : Below (World.heap w).size w wa := by rw [← hw0]; exact (Below.refl _ _).alloc (Nat.le_refl _) _
  have hsz : (World.heap wa).size = (World.heap w).size + 1 := by rw [← hw0]; simp
  clear hw0
  rw [← hsz]
  have F1 := And.intro hblk (And.intro hlt hB0)
  clear hblk hlt hB0 hsz
  generalize hw0 : World.alloc wa (.cells #[.string ⟨#[]⟩, .int .i64 0, .int .i64 0, .int .i64 0, .int .i64 0, .int .i64 0, .int .i64 0, .int .i64 0, .string ⟨#[]⟩, .string ⟨#[]⟩, .bool false] 48) = wb
  have hblk : wb.heap[World.heap wa |>.size]? = some (.cells #[.string ⟨#[]⟩, .int .i64 0, .int .i64 0, .int .i64 0, .int .i64 0, .int .i64 0, .int .i64 0, .int .i64 0, .string ⟨#[]⟩, .string ⟨#[]⟩, .bool false] 48 (0, 0)) := by rw [← hw0]; exact heap_alloc_new _ _
  have hlt : (World.heap wa).size < wb.heap.size := (Array.getElem?_eq_some_iff.1 hblk).1
  have hB0 : Below (World.heap wa).size wa wb := by rw [← hw0]; exact (Below.refl _ _).alloc (Nat.le_refl _) _
  clear hw0
  have F2 := Lib.hid (And.intro hblk hlt)
  have L1 : LeB w wb := LeB.tr F1.2.2 hB0
  have hs1 := (hB0.block _ F1.2.1).trans F1.1
  have hl1 := Nat.lt_of_lt_of_le F1.2.1 hB0.size
  have hle := F1.2.2.size
  clear F1 hblk hlt hB0
  have c0 := blk_cell hs1 0
  have c1 := blk_cell hs1 1
  have c2 := blk_cell hs1 2
  have c3 := blk_cell hs1 3
  have c4 := blk_cell hs1 4
  have c5 := blk_cell hs1 5
  have c6 := blk_cell hs1 6
  simp at c0 c1 c2 c3 c4 c5 c6
  have F1 := Lib.hid (And.intro hs1 (And.intro hl1 (And.intro L1 hle)))
  clear hs1 hl1 L1 hle
  refine (macOK_ok mac _).mono ?_
  rintro e w1 ⟨rfl, rfl⟩
  rw [h1]
  go_wp2_with fail
  refine (isAddress_ok ip HK.out.2.1 _).mono ?_
  rintro e w1 ⟨rfl, rfl⟩
  go_wp2_with fail
  refine (isAddress_ok dst HK.out.2.2.1 _).mono ?_
  rintro e w1 ⟨rfl, rfl⟩
  go_wp2_with fail
  refine (segmentOK_true a b s k 2 p d HK.out.1 _).mono ?_
  rintro e w1 ⟨rfl, hB1⟩
  go_wp2_with fail
  refine (isAddress_ok isn HK.out.2.2.2 _).mono ?_
  rintro e w2 ⟨rfl, rfl⟩
  have hs1 := (hB1.block _ F1.out.2.1).trans F1.out.1
  clear c0 c1 c2 c3 c4 c5 c6
  have c0 := blk_cell hs1 0
  have c1 := blk_cell hs1 1
  have c2 := blk_cell hs1 2
  have c3 := blk_cell hs1 3
  have c4 := blk_cell hs1 4
  have c5 := blk_cell hs1 5
  have c6 := blk_cell hs1 6
  simp at c0 c1 c2 c3 c4 c5 c6
  go_wp2_with fail
  refine (opens_ok a b s k p d _).mono ?_
  rintro e w2 ⟨rfl, hB2⟩
  have hs2 := (hB2.block _ (Nat.lt_of_lt_of_le F1.out.2.1 hB1.size)).trans hs1
  clear c0 c1 c2 c3 c4 c5 c6 hs1
  have c0 := blk_cell hs2 0
  have c1 := blk_cell hs2 1
  have c2 := blk_cell hs2 2
  have c3 := blk_cell hs2 3
  have c4 := blk_cell hs2 4
  have c5 := blk_cell hs2 5
  have c6 := blk_cell hs2 6
  simp at c0 c1 c2 c3 c4 c5 c6
  have HS := Lib.hid hs2
  clear hs2
  go_wp2_with fail
  refine (newConn_ok mac ip dst ⟨a, b, s, k, 2, p, d⟩ isn HK.out.2.2.2 HK.out.1.seq _).mono ?_
  rintro e w3 ⟨rfl, hB3⟩
  have L3 : LeB wb w3 := LeB.tr hB1 (LeB.tr hB2 hB3)
  clear hB1 hB2 hB3 c0 c1 c2 c3 c4 c5 c6 HS
  go_wp2_with fail
  generalize hcc : newCn mac ip dst ⟨a, b, s, k, 2, p, d⟩ isn = cc
  generalize hw0 : World.alloc w3 (.cells cc.cells 48) = w4
  have hblk : w4.heap[World.heap w3 |>.size]? = some (.cells cc.cells 48 (0, 0)) := by rw [← hw0]; exact heap_alloc_new _ _
  have hlt : (World.heap w3).size < w4.heap.size := (Array.getElem?_eq_some_iff.1 hblk).1
  have hB0 : Below (World.heap w3).size w3 w4 := by rw [← hw0]; exact (Below.refl _ _).alloc (Nat.le_refl _) _
  clear hw0
  have hD := (LeB.tr L3 hB0).block _ F2.out.2
  have hD := hD.trans F2.out.1
  have hDl := Nat.lt_of_lt_of_le F2.out.2 (LeB.tr L3 hB0).size
  have L4 : LeB w w4 := LeB.tr F1.out.2.2.1 (LeB.tr L3 hB0)
  clear hB0 L3
  refine wp_region_lex 2 (by kernel_rfl) (by kernel_rfl) (JB w4) LeB (openφ w4.heap.size ⟨80, cc.port, cc.una, cc.want, 18, 1000, ⟨#[]⟩⟩) ?_ JB.mono ?_ ?_
  · intro j sp x v W W' hj hL h
    unfold openφ at hj
    split at hj <;> first | (cases hj; exact h.below hL) | cases hj
  · exact (Below.refl _ _).drew
  simp only [List.take_succ_cons, List.take_zero, List.drop_succ_cons, List.drop_zero, pairs, List.zipIdx_cons, List.zipIdx_nil, List.map_cons, List.map_nil, Nat.zero_add, Nat.reduceAdd]
  refine lex_load rfl rfl (.agg cc.cells) (fun m W hJ hF => run_exec_load rfl rfl ((hJ.block _ hlt).trans hblk) Try.underlying48 rfl infoCn) ?_
  refine lex_eff' (sp := fun _ v w => OneSg w4.heap.size ⟨80, cc.port, cc.una, cc.want, 18, 1000, ⟨#[]⟩⟩ v w) rfl rfl (by intro _ _ _ _ h; exact h) (fun m W hJ hF => ?_) (fun v x hh => ?_) rfl
  · refine gives_call Try.call73 ((opened_ok cc w3.heap.size W ((hJ.block _ hlt).trans hblk)).mono ?_)
    rintro e w' ⟨bb, rfl, h2, h3, h4⟩
    exact ⟨_, rfl, hJ.step h4, h4, bb, rfl, Nat.le_trans hJ.size h2, h3⟩
  refine lex_nil (fun m W hJ hF => ?_)
  have hv := hF 1 rfl _ _ _ (by simp [upd]; exact ⟨rfl, rfl⟩) rfl
  have hDW := (hJ.block _ hDl).trans hD
  have L5 : LeB w W := LeB.tr L4 hJ
  clear hF hh hJ hblk hlt hD
  have Hb := Lib.hid hDW
  have HV := Lib.hid hv
  clear hDW hv
  go_wp2_with (refine wpList_store_row rfl _ _ 48 rfl wa.heap.size 48 _ _ rfl rfl Hb.out rfl infoCn rfl ?_)
  subst hcc
  refine bodyPost_ret (ret_cell3 (x := v) (y := .int .i64 0) rfl rfl rfl rfl (setRow_heap _ _ _ _ _ _ Hb.out) Try.underlying48 rfl infoCn) rfl ?_
  exact ⟨v, rfl, (HV.out.setRow (k := wa.heap.size) (by omega) _).more L4.size, below_setRow L5 F1.out.2.2.2 _⟩
end Go.Proofs.Ytdenjmdngmmodaa
