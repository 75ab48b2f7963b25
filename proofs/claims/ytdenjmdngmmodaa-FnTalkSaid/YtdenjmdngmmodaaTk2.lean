/- A talk: the walk's third part: a text comes in. -/
import Derived.Test.YtdenjmdngmmodaaTk3
import Derived.Test.YtdenjmdngmmodaaTkS
namespace Go.Proofs.Ytdenjmdngmmodaa
open Go.RowKit
set_option linter.unusedVariables false
set_option linter.unusedSimpArgs false
set_option maxRecDepth 1000000
set_option maxHeartbeats 40000000

theorem grown_ownRow {a w : World} {g : Nat} (h : a.grownBy w (some g)) (cs : Array Value) : a.grownBy (w.setRow g cs) (some g) :=
  ⟨h.os, h.tape, h.output, by simpa [World.setRow] using h.size, fun k hk hne => (setRow_other w g k cs (fun e => hne (by rw [e]))).trans (h.block k hk hne)⟩
def TR (W : World) (bc at1 : Nat) (k0 k1 k3 : Cn) (nx i : Value) (wr : World) : Prop :=
  (i = .int .i64 0 ∧ nx = .int .i64 at1 ∧ wr.heap[bc]? = some (.cells k0.cells 48 (0, 0)) ∧ W.grownBy wr (some bc)) ∨ (i = .int .i64 1 ∧ nx = .int .i64 at1 ∧ wr.heap[bc]? = some (.cells k1.cells 48 (0, 0)) ∧ W.grownBy wr (some bc)) ∨
  (i = .int .i64 2 ∧ nx = .int .i64 at1 ∧ wr.heap[bc]? = some (.cells k1.cells 48 (0, 0)) ∧ W.grownBy wr (some bc)) ∨ (i = .int .i64 3 ∧ wr.heap[bc]? = some (.cells k3.cells 48 (0, 0)) ∧ W.grownBy wr (some bc))
theorem talkC {u0 u1 u2 u3 u10 u11 u15 u16 u17 u18 u19 u20 u21 u22 u23 u24 u25 u26 u27 u28 u29 u30 u31 u32 u33 u34 u35 u36 u37 u38 u39 u40 u41 u42 u43 u44 u45 u46 u47 u48 u49 u50 u51 u52 u53 u54 u55 u56 u57 u58 u59 u60 u61 u62 u63 u64 u65 u66 u67 u68 u69 u70 u71 u72 u73 u74 u75 u76 u77 u78 u79 u80 u81 u82 u83 u84 u85 u86 u87 u88 u89 u90 u91 u92 u93 u94 u95 u96 u97 u98 u99 u100 u101 u102 u103 u104 u105 u106 u107 u108 u109 u110 u111 u112 u113 u114 u115 u116 u117 u118 u119 u120 u121 u122 u123 u124 u125 u126 u127 u128 u129 u130 u131 u132 u133 u134 u135 u136 u137 u138 u139 u140 u141 u142 u143 u144 u145 u146 u147 u148 u149 u150 u151 u152 u153 u154 u155 u156 u157 u158 u159 u160 u161 u162 u163 u164 u165 u166 u167 u168 u169 u170 u171 u172 u173 u174 u175 u176 u177 u178 u179 u180 u181 u182 u183 u184 u185 u186 u187 u188 u189 u190 u191 u192 u193 u194 u195 u196 u197 u198 u199 u200 u201 u202 u203 u204 u205 u206 u207 u208 u209 u210 u211 u212 u213 u214 u215 u216 u217 u218 u219 u220 u221 u222 u223 u224 u225 u226 u227 u228 u229 u230 u231 u232 u233 u234 u235 u236 u237 u238 u239 u240 u241 u242 u243 u244 u245 u246 u247 u248 u249 u250 u251 u252 u253 u254 u255 u256 u257 u258 u259 u260 u261 u262 u263 u264 u265 u266 u267 u268 u269 u270 u271 u272 u273 u274 u275 u276 u277 u278 u279 u280 u281 u282 u283 u284 u285 u286 u287 u288 u289 u290 u291 u292 u293 u294 u295 u296 : Value} {x4 x7 : Value} (mac : ByteArray) (ip dst isn seq : Nat) (text reply : ByteArray) (hin : TkIn mac ip dst isn seq text reply) (w W : World) (bc bp half ack at1 : Nat) (hhalf : tkH text = half) (hack : onw isn 1 = ack) (hat1 : onw seq 1 = at1) (hW : LeB w W) (hbc : w.heap.size ≤ bc) (hne : bc ≠ bp)
    (hcn : W.heap[bc]? = some (.cells (tk0 mac ip dst isn seq).cells 48 (0, 0))) (hp : W.heap[bp]? = some (.cells #[.string (text.extract 0 half), .string (text.extract 0 half), .string (text.extract half text.size)] 9 (0, 0))) :
    Code.wp Try.prog (talkCode 11) (TalkPost w) { tmps := #[u0, u1, u2, u3, x4, .string text, .string reply, x7, .int .i64 seq, .pointer (some ⟨bc, 0, none⟩), u10, u11, .int .i64 ack, .int .i64 half, .slice (some ⟨bp, 0, none⟩) 3 3, u15, u16, u17, u18, u19, u20, u21, u22, u23, u24, u25, u26, u27, u28, u29, u30, u31, u32, u33, u34, u35, u36, u37, u38, u39, u40, u41, u42, u43, u44, u45, u46, u47, u48, u49, u50, u51, u52, u53, u54, u55, u56, u57, u58, u59, u60, u61, u62, u63, u64, u65, u66, u67, u68, u69, u70, u71, u72, u73, u74, u75, u76, u77, u78, u79, u80, u81, u82, u83, u84, u85, u86, u87, u88, u89, u90, u91, u92, u93, u94, u95, u96, u97, u98, u99, u100, u101, u102, u103, u104, u105, u106, u107, u108, u109, u110, u111, u112, u113, u114, u115, u116, u117, u118, u119, u120, u121, u122, u123, u124, u125, u126, u127, u128, u129, u130, u131, u132, u133, u134, u135, u136, u137, u138, u139, u140, u141, u142, u143, u144, u145, u146, u147, u148, u149, u150, u151, u152, u153, u154, u155, u156, u157, u158, u159, u160, u161, u162, u163, u164, u165, u166, u167, u168, u169, u170, u171, u172, u173, u174, u175, u176, u177, u178, u179, u180, u181, u182, u183, u184, u185, u186, u187, u188, u189, u190, u191, u192, u193, u194, u195, u196, u197, u198, u199, u200, u201, u202, u203, u204, u205, u206, u207, u208, u209, u210, u211, u212, u213, u214, u215, u216, u217, u218, u219, u220, u221, u222, u223, u224, u225, u226, u227, u228, u229, u230, u231, u232, u233, u234, u235, u236, u237, u238, u239, u240, u241, u242, u243, u244, u245, u246, u247, u248, u249, u250, u251, u252, u253, u254, u255, u256, u257, u258, u259, u260, u261, u262, u263, u264, u265, u266, u267, u268, u269, u270, u271, u272, u273, u274, u275, u276, u277, u278, u279, u280, u281, u282, u283, u284, u285, u286, u287, u288, u289, u290, u291, u292, u293, u294, u295, u296], defers := [] } W := by
  have hp2 := hp
  have ok0 := tk0_OK mac ip dst isn seq text hin.mac hin.ip hin.dst hin.isn hin.text
  have ok1 := tk1_OK mac ip dst isn seq text hin.mac hin.ip hin.dst hin.isn hin.text
  have s0 : (takeC (tk0 mac ip dst isn seq) ⟨1000, 80, at1, ack, 16, 0, text.extract 0 half⟩).1 = tk1 mac ip dst isn seq text := by
    rw [← hack, ← hat1, ← hhalf]; exact talk0 mac ip dst isn seq text hin.isn hin.text
  have s1 : (takeC (tk1 mac ip dst isn seq text) ⟨1000, 80, at1, ack, 16, 0, text.extract 0 half⟩).1 = tk1 mac ip dst isn seq text := by
    rw [← hack, ← hat1, ← hhalf]; exact talk1 mac ip dst isn seq text hin.isn hin.text
  obtain ⟨at2, hat2⟩ : ∃ t, onw at1 half = t := ⟨_, rfl⟩
  have s2 : (takeC (tk1 mac ip dst isn seq text) ⟨1000, 80, at2, ack, 16, 0, text.extract half text.size⟩).1 = tk3 mac ip dst isn seq text := by
    rw [← hat2, ← hack, ← hat1, ← hhalf]; exact talk2 mac ip dst isn seq text hin.isn hin.text
  obtain ⟨k3, hk3⟩ : ∃ x, tk3 mac ip dst isn seq text = x := ⟨_, rfl⟩
  obtain ⟨k0, hk0⟩ : ∃ x, tk0 mac ip dst isn seq = x := ⟨_, rfl⟩
  obtain ⟨k1, hk1⟩ : ∃ x, tk1 mac ip dst isn seq text = x := ⟨_, rfl⟩
  rw [hk0] at ok0 s0 hcn
  rw [hk1] at ok1 s0 s1 s2
  rw [hk3] at s2
  have hat1l : at1 < 4294967296 := by rw [← hat1]; exact onw_lt _ _
  have hackl : ack < 4294967296 := by rw [← hack]; exact onw_lt _ _
  have hat2l : at2 < 4294967296 := by rw [← hat2]; exact onw_lt _ _
  have hhl : half ≤ 60 := by rw [← hhalf]; unfold tkH; have := hin.text; omega
  have e1 : bits .and .i64 ((seq : Int) + 1) 4294967295 = (at1 : Int) := and_onw seq 1 at1 hin.seq (by omega) hat1
  have hseqI : (seq : Int) < 4294967296 := by have := hin.seq; omega
  have e3 := and_onw at1 half at2 hat1l (by omega) hat2
  have hat1I : (at1 : Int) < 4294967296 := by omega
  have hhI : (half : Int) ≤ 60 := by omega
  have sg0 : SegOK 1000 80 at1 ack 16 0 (text.extract 0 half) := ⟨by omega, by omega, hat1l, hackl, by omega, by omega, by rw [ByteArray.size_extract]; have := hin.text; omega⟩
  have sg2 : SegOK 1000 80 at2 ack 16 0 (text.extract half text.size) := ⟨by omega, by omega, hat2l, hackl, by omega, by omega, by rw [ByteArray.size_extract]; have := hin.text; omega⟩
  have HO := Lib.hid (And.intro ok0 (And.intro ok1 (And.intro s0 (And.intro s1 (And.intro s2 (And.intro sg0 (And.intro sg2 (And.intro hk3 hat2))))))))
  have HX := Lib.hid (And.intro hin (And.intro hp (And.intro (Array.getElem?_eq_some_iff.1 hp).1 (And.intro hne (And.intro hW (And.intro hbc (And.intro hhalf (And.intro hack hat1))))))))
  have hG0 : TR W bc at1 k0 k1 k3 (.int .i64 at1) (.int .i64 0) W := .inl ⟨rfl, rfl, hcn, World.grownBy.refl _ _⟩
  clear hp2 hk0 hk1 hk3 hat2 ok0 ok1 s0 s1 s2 sg0 sg2 hhalf hack hat1 hW hbc hne hcn hp hin hat1l hackl hat2l hhl
  conv => arg 2; whnf
  go_wp2_with fail
  rename_i KL hL
  have HL := Lib.hid hL
  clear hL
  go_loopw [16, 17] (fun nx i wr => TR W bc at1 k0 k1 k3 nx i wr) (fun _ i _ => (3 - intOf i).toNat)
  case atStart => exact hG0
  case round =>
    rcases hrel with ⟨rfl, rfl, h1, h2⟩ | ⟨rfl, rfl, h1, h2⟩ | ⟨rfl, rfl, h1, h2⟩ | ⟨rfl, h1, h2⟩
    · have HR := Lib.hid (And.intro h1 h2)
      clear h1 h2
      go_wp2_with fail
      rename_i K20 h20
      have H20 := Lib.hid h20
      clear h20
      have hcn := HR.out.1
      have hgp := (HR.out.2.block bp HX.out.2.2.1 (by intro e; cases e; exact HX.out.2.2.2.1 rfl)).trans HX.out.2.1
      have hbl : bc < wr.heap.size := (Array.getElem?_eq_some_iff.1 hcn).1
      have hbpl : bp < wr.heap.size := (Array.getElem?_eq_some_iff.1 hgp).1
      have hcell : ∀ W', Below wr.heap.size wr W' → W'.cell? ⟨bp, 0, none⟩ = some (.string (text.extract 0 half)) := fun W' hW' => blk_cell ((hW'.block bp hbpl).trans hgp) 0
      refine wp_region_lex 17 (by kernel_rfl) (by kernel_rfl) (JB wr) (LeS (Cn.cells k1)) (tkφ wr.heap.size (.agg (Cn.cells k1)) (Cn.cells k1)) tkφ_st JB.mono ?_ ?_
      · exact (Below.refl _ _).drew
      simp only [List.take_succ_cons, List.take_zero, List.drop_succ_cons, List.drop_zero, pairs, List.zipIdx_cons, List.zipIdx_nil, List.map_cons, List.map_nil, Nat.zero_add, Nat.reduceAdd]
      refine lex_load rfl rfl (.agg (Cn.cells k0)) (fun m W hJ hF => run_exec_load rfl rfl ((hJ.block _ hbl).trans hcn) Try.underlying48 rfl infoCn) ?_
      (repeat (refine lex_pure rfl rfl (fun K hK => ?_); go_simp; refine hK _ ?_; clear hK K; try simp (disch := omega) only [IntWalk.i64_in, IntWalk.u8_in, Int.add_sub_cancel, Int.tmod_eq_emod_of_nonneg, Int.tdiv_eq_ediv_of_nonneg]))
      refine lex_load rfl rfl (.string (text.extract 0 half)) (fun m W hJ hF => (by have cc := hcell W hJ; go_simp)) ?_
      (repeat (refine lex_pure rfl rfl (fun K hK => ?_); go_simp; refine hK _ ?_; clear hK K; try simp (disch := omega) only [IntWalk.i64_in, IntWalk.u8_in, Int.add_sub_cancel, Int.tmod_eq_emod_of_nonneg, Int.tdiv_eq_ediv_of_nonneg]))
      refine lex_eff' (sp := fun _ v _ => ∃ v2, v = .tuple #[.agg (Cn.cells k1), v2, .int .i64 0]) rfl rfl (by intro _ _ _ _ h; exact h) (fun m W hJ hF => ?_) (fun v x hh => ?_) rfl
      · refine gives_call Try.call27 ((ConnTake_ok k0 ⟨1000, 80, at1, ack, 16, 0, (text.extract 0 half)⟩ HO.out.1 HO.out.2.2.2.2.2.1 W).mono ?_)
        rintro e w' ⟨v2, rfl, -, h4⟩
        rw [HO.out.2.2.1]
        exact ⟨_, rfl, hJ.step h4, LeS.of h4, v2, rfl⟩
      obtain ⟨_, _, -, ⟨v2, rfl⟩, -⟩ := hh
      (repeat (refine lex_pure rfl rfl (fun K hK => ?_); go_simp; refine hK _ ?_; clear hK K; try simp (disch := omega) only [IntWalk.i64_in, IntWalk.u8_in, Int.add_sub_cancel, Int.tmod_eq_emod_of_nonneg, Int.tdiv_eq_ediv_of_nonneg]))
      refine lex_eff' (sp := PtrSp wr.heap.size (Cn.cells k1)) rfl rfl (by intro _ _ _ _ h; exact h) (fun m W hJ hF => ?_) (fun v x hh => ?_) rfl
      · have hb : Below W.heap.size W (W.alloc (.cells cnZero 48)) := (Below.refl _ _).alloc (Nat.le_refl _) _
        exact gives_value (v := .pointer (some ⟨W.heap.size, 0, none⟩)) (by go_simp; rfl) ⟨hJ.step hb, LeS.of hb, _, rfl, hJ.size, .inl (heap_alloc_new _ _)⟩
      obtain ⟨_, _, -, ⟨g, rfl, hgB, -⟩, -⟩ := hh
      refine lexS_store (g := g) (j := 13) rfl rfl rfl rfl rfl rfl rfl rfl (by kernel_rfl) rfl rfl (fun v14 => ?_)
      (repeat (refine lex_pure rfl rfl (fun K hK => ?_); go_simp; refine hK _ ?_; clear hK K; try simp (disch := omega) only [IntWalk.i64_in, IntWalk.u8_in, Int.add_sub_cancel, Int.tmod_eq_emod_of_nonneg, Int.tdiv_eq_ediv_of_nonneg]))
      refine lex_nil (fun m w5 hJ hF => ?_)
      obtain ⟨g', hg', h5⟩ := hF 14 rfl _ _ _ rfl rfl
      cases hg'
      have h6 := (hJ.block _ hbl).trans hcn
      have h7 := grown_trans HR.out.2 (grownBy_of_below hJ (some bc))
      clear hF hJ hcell hcn hgp hgB
      go_wp2_with fail
      have c0 := blk_cell h5 0
      have c1 := blk_cell h5 1
      have c2 := blk_cell h5 2
      have c3 := blk_cell h5 3
      have c4 := blk_cell h5 4
      have c5 := blk_cell h5 5
      have c6 := blk_cell h5 6
      have c7 := blk_cell h5 7
      have c8 := blk_cell h5 8
      have c9 := blk_cell h5 9
      have c10 := blk_cell h5 10
      simp at c0 c1 c2 c3 c4 c5 c6 c7 c8 c9 c10
      have HZ := Lib.hid (And.intro h6 h7)
      clear h5 h6 h7
      refine H20.out _ _ ?_
      go_wp2_with (refine wpList_store_row rfl _ _ 48 rfl bc 48 _ _ rfl rfl HZ.out.1 rfl infoCn rfl ?_)
      go_roundw
      case rel => exact .inr (.inl ⟨rfl, rfl, setRow_heap _ _ _ _ _ _ HZ.out.1, grown_ownRow HZ.out.2 _⟩)
      case measure => simp [intOf]
    · have HR := Lib.hid (And.intro h1 h2)
      clear h1 h2
      go_wp2_with fail
      rename_i K20 h20
      have H20 := Lib.hid h20
      clear h20
      have hcn := HR.out.1
      have hgp := (HR.out.2.block bp HX.out.2.2.1 (by intro e; cases e; exact HX.out.2.2.2.1 rfl)).trans HX.out.2.1
      have hbl : bc < wr.heap.size := (Array.getElem?_eq_some_iff.1 hcn).1
      have hbpl : bp < wr.heap.size := (Array.getElem?_eq_some_iff.1 hgp).1
      have hcell : ∀ W', Below wr.heap.size wr W' → W'.cell? ⟨bp, 1, none⟩ = some (.string (text.extract 0 half)) := fun W' hW' => blk_cell ((hW'.block bp hbpl).trans hgp) 1
      refine wp_region_lex 17 (by kernel_rfl) (by kernel_rfl) (JB wr) (LeS (Cn.cells k1)) (tkφ wr.heap.size (.agg (Cn.cells k1)) (Cn.cells k1)) tkφ_st JB.mono ?_ ?_
      · exact (Below.refl _ _).drew
      simp only [List.take_succ_cons, List.take_zero, List.drop_succ_cons, List.drop_zero, pairs, List.zipIdx_cons, List.zipIdx_nil, List.map_cons, List.map_nil, Nat.zero_add, Nat.reduceAdd]
      refine lex_load rfl rfl (.agg (Cn.cells k1)) (fun m W hJ hF => run_exec_load rfl rfl ((hJ.block _ hbl).trans hcn) Try.underlying48 rfl infoCn) ?_
      (repeat (refine lex_pure rfl rfl (fun K hK => ?_); go_simp; refine hK _ ?_; clear hK K; try simp (disch := omega) only [IntWalk.i64_in, IntWalk.u8_in, Int.add_sub_cancel, Int.tmod_eq_emod_of_nonneg, Int.tdiv_eq_ediv_of_nonneg]))
      refine lex_load rfl rfl (.string (text.extract 0 half)) (fun m W hJ hF => (by have cc := hcell W hJ; go_simp)) ?_
      (repeat (refine lex_pure rfl rfl (fun K hK => ?_); go_simp; refine hK _ ?_; clear hK K; try simp (disch := omega) only [IntWalk.i64_in, IntWalk.u8_in, Int.add_sub_cancel, Int.tmod_eq_emod_of_nonneg, Int.tdiv_eq_ediv_of_nonneg]))
      refine lex_eff' (sp := fun _ v _ => ∃ v2, v = .tuple #[.agg (Cn.cells k1), v2, .int .i64 0]) rfl rfl (by intro _ _ _ _ h; exact h) (fun m W hJ hF => ?_) (fun v x hh => ?_) rfl
      · refine gives_call Try.call27 ((ConnTake_ok k1 ⟨1000, 80, at1, ack, 16, 0, (text.extract 0 half)⟩ HO.out.2.1 HO.out.2.2.2.2.2.1 W).mono ?_)
        rintro e w' ⟨v2, rfl, -, h4⟩
        rw [HO.out.2.2.2.1]
        exact ⟨_, rfl, hJ.step h4, LeS.of h4, v2, rfl⟩
      obtain ⟨_, _, -, ⟨v2, rfl⟩, -⟩ := hh
      (repeat (refine lex_pure rfl rfl (fun K hK => ?_); go_simp; refine hK _ ?_; clear hK K; try simp (disch := omega) only [IntWalk.i64_in, IntWalk.u8_in, Int.add_sub_cancel, Int.tmod_eq_emod_of_nonneg, Int.tdiv_eq_ediv_of_nonneg]))
      refine lex_eff' (sp := PtrSp wr.heap.size (Cn.cells k1)) rfl rfl (by intro _ _ _ _ h; exact h) (fun m W hJ hF => ?_) (fun v x hh => ?_) rfl
      · have hb : Below W.heap.size W (W.alloc (.cells cnZero 48)) := (Below.refl _ _).alloc (Nat.le_refl _) _
        exact gives_value (v := .pointer (some ⟨W.heap.size, 0, none⟩)) (by go_simp; rfl) ⟨hJ.step hb, LeS.of hb, _, rfl, hJ.size, .inl (heap_alloc_new _ _)⟩
      obtain ⟨_, _, -, ⟨g, rfl, hgB, -⟩, -⟩ := hh
      refine lexS_store (g := g) (j := 13) rfl rfl rfl rfl rfl rfl rfl rfl (by kernel_rfl) rfl rfl (fun v14 => ?_)
      (repeat (refine lex_pure rfl rfl (fun K hK => ?_); go_simp; refine hK _ ?_; clear hK K; try simp (disch := omega) only [IntWalk.i64_in, IntWalk.u8_in, Int.add_sub_cancel, Int.tmod_eq_emod_of_nonneg, Int.tdiv_eq_ediv_of_nonneg]))
      refine lex_nil (fun m w5 hJ hF => ?_)
      obtain ⟨g', hg', h5⟩ := hF 14 rfl _ _ _ rfl rfl
      cases hg'
      have h6 := (hJ.block _ hbl).trans hcn
      have h7 := grown_trans HR.out.2 (grownBy_of_below hJ (some bc))
      clear hF hJ hcell hcn hgp hgB
      go_wp2_with fail
      have c0 := blk_cell h5 0
      have c1 := blk_cell h5 1
      have c2 := blk_cell h5 2
      have c3 := blk_cell h5 3
      have c4 := blk_cell h5 4
      have c5 := blk_cell h5 5
      have c6 := blk_cell h5 6
      have c7 := blk_cell h5 7
      have c8 := blk_cell h5 8
      have c9 := blk_cell h5 9
      have c10 := blk_cell h5 10
      simp at c0 c1 c2 c3 c4 c5 c6 c7 c8 c9 c10
      have HZ := Lib.hid (And.intro h6 h7)
      clear h5 h6 h7
      refine H20.out _ _ ?_
      go_wp2_with (refine wpList_store_row rfl _ _ 48 rfl bc 48 _ _ rfl rfl HZ.out.1 rfl infoCn rfl ?_)
      go_roundw
      case rel => exact .inr (.inr (.inl ⟨rfl, rfl, setRow_heap _ _ _ _ _ _ HZ.out.1, grown_ownRow HZ.out.2 _⟩))
      case measure => simp [intOf]
    · have HR := Lib.hid (And.intro h1 h2)
      clear h1 h2
      go_wp2_with fail
      rename_i K20 h20
      have H20 := Lib.hid h20
      clear h20
      have hcn := HR.out.1
      have hgp := (HR.out.2.block bp HX.out.2.2.1 (by intro e; cases e; exact HX.out.2.2.2.1 rfl)).trans HX.out.2.1
      have hbl : bc < wr.heap.size := (Array.getElem?_eq_some_iff.1 hcn).1
      have hbpl : bp < wr.heap.size := (Array.getElem?_eq_some_iff.1 hgp).1
      have hcell : ∀ W', Below wr.heap.size wr W' → W'.cell? ⟨bp, 2, none⟩ = some (.string (text.extract half text.size)) := fun W' hW' => blk_cell ((hW'.block bp hbpl).trans hgp) 2
      refine wp_region_lex 17 (by kernel_rfl) (by kernel_rfl) (JB wr) (LeS (Cn.cells k3)) (tkφ wr.heap.size (.agg (Cn.cells k3)) (Cn.cells k3)) tkφ_st JB.mono ?_ ?_
      · exact (Below.refl _ _).drew
      simp only [List.take_succ_cons, List.take_zero, List.drop_succ_cons, List.drop_zero, pairs, List.zipIdx_cons, List.zipIdx_nil, List.map_cons, List.map_nil, Nat.zero_add, Nat.reduceAdd]
      refine lex_load rfl rfl (.agg (Cn.cells k1)) (fun m W hJ hF => run_exec_load rfl rfl ((hJ.block _ hbl).trans hcn) Try.underlying48 rfl infoCn) ?_
      (repeat (refine lex_pure rfl rfl (fun K hK => ?_); go_simp; refine hK _ ?_; clear hK K; try simp (disch := omega) only [IntWalk.i64_in, IntWalk.u8_in, Int.add_sub_cancel, Int.tmod_eq_emod_of_nonneg, Int.tdiv_eq_ediv_of_nonneg]))
      refine lex_load rfl rfl (.string (text.extract half text.size)) (fun m W hJ hF => (by have cc := hcell W hJ; go_simp)) ?_
      (repeat (refine lex_pure rfl rfl (fun K hK => ?_); go_simp; refine hK _ ?_; clear hK K; try simp (disch := omega) only [IntWalk.i64_in, IntWalk.u8_in, Int.add_sub_cancel, Int.tmod_eq_emod_of_nonneg, Int.tdiv_eq_ediv_of_nonneg]))
      refine lex_eff' (sp := fun _ v _ => ∃ v2, v = .tuple #[.agg (Cn.cells k3), v2, .int .i64 0]) rfl rfl (by intro _ _ _ _ h; exact h) (fun m W hJ hF => ?_) (fun v x hh => ?_) rfl
      · refine gives_call Try.call27 ((ConnTake_ok k1 ⟨1000, 80, at2, ack, 16, 0, (text.extract half text.size)⟩ HO.out.2.1 HO.out.2.2.2.2.2.2.1 W).mono ?_)
        rintro e w' ⟨v2, rfl, -, h4⟩
        rw [HO.out.2.2.2.2.1]
        exact ⟨_, rfl, hJ.step h4, LeS.of h4, v2, rfl⟩
      obtain ⟨_, _, -, ⟨v2, rfl⟩, -⟩ := hh
      (repeat (refine lex_pure rfl rfl (fun K hK => ?_); go_simp; refine hK _ ?_; clear hK K; try simp (disch := omega) only [IntWalk.i64_in, IntWalk.u8_in, Int.add_sub_cancel, Int.tmod_eq_emod_of_nonneg, Int.tdiv_eq_ediv_of_nonneg]))
      refine lex_eff' (sp := PtrSp wr.heap.size (Cn.cells k3)) rfl rfl (by intro _ _ _ _ h; exact h) (fun m W hJ hF => ?_) (fun v x hh => ?_) rfl
      · have hb : Below W.heap.size W (W.alloc (.cells cnZero 48)) := (Below.refl _ _).alloc (Nat.le_refl _) _
        exact gives_value (v := .pointer (some ⟨W.heap.size, 0, none⟩)) (by go_simp; rfl) ⟨hJ.step hb, LeS.of hb, _, rfl, hJ.size, .inl (heap_alloc_new _ _)⟩
      obtain ⟨_, _, -, ⟨g, rfl, hgB, -⟩, -⟩ := hh
      refine lexS_store (g := g) (j := 13) rfl rfl rfl rfl rfl rfl rfl rfl (by kernel_rfl) rfl rfl (fun v14 => ?_)
      (repeat (refine lex_pure rfl rfl (fun K hK => ?_); go_simp; refine hK _ ?_; clear hK K; try simp (disch := omega) only [IntWalk.i64_in, IntWalk.u8_in, Int.add_sub_cancel, Int.tmod_eq_emod_of_nonneg, Int.tdiv_eq_ediv_of_nonneg]))
      refine lex_nil (fun m w5 hJ hF => ?_)
      obtain ⟨g', hg', h5⟩ := hF 14 rfl _ _ _ rfl rfl
      cases hg'
      have h6 := (hJ.block _ hbl).trans hcn
      have h7 := grown_trans HR.out.2 (grownBy_of_below hJ (some bc))
      clear hF hJ hcell hcn hgp hgB
      go_wp2_with fail
      have c0 := blk_cell h5 0
      have c1 := blk_cell h5 1
      have c2 := blk_cell h5 2
      have c3 := blk_cell h5 3
      have c4 := blk_cell h5 4
      have c5 := blk_cell h5 5
      have c6 := blk_cell h5 6
      have c7 := blk_cell h5 7
      have c8 := blk_cell h5 8
      have c9 := blk_cell h5 9
      have c10 := blk_cell h5 10
      simp at c0 c1 c2 c3 c4 c5 c6 c7 c8 c9 c10
      have HZ := Lib.hid (And.intro h6 h7)
      clear h5 h6 h7
      refine H20.out _ _ ?_
      go_wp2_with (refine wpList_store_row rfl _ _ 48 rfl bc 48 _ _ rfl rfl HZ.out.1 rfl infoCn rfl ?_)
      go_roundw
      case rel => exact .inr (.inr (.inr ⟨rfl, setRow_heap _ _ _ _ _ _ HZ.out.1, grown_ownRow HZ.out.2 _⟩))
      case measure => simp [intOf]
    · have HR := Lib.hid (And.intro h1 h2)
      clear h1 h2
      go_wp2_with fail
      refine HL.out _ _ ?_
      have hB := HR.out.2
      exact talkD mac ip dst isn seq text reply HX.out.1 w wr bc ack HX.out.2.2.2.2.2.2.2.1 (Below.grown HX.out.2.2.2.2.1 hB HX.out.2.2.2.2.1.size (fun k e => by cases e; exact HX.out.2.2.2.2.2.1)) HX.out.2.2.2.2.2.1 (by rw [HO.out.2.2.2.2.2.2.2.1]; exact HR.out.1)
end Go.Proofs.Ytdenjmdngmmodaa
