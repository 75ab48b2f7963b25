/- A talk: the walk's second part: how it opens. -/
import Derived.Test.YtdenjmdngmmodaaTk2
namespace Go.Proofs.Ytdenjmdngmmodaa
open Go.RowKit
set_option linter.unusedVariables false
set_option linter.unusedSimpArgs false
set_option maxRecDepth 1000000
set_option maxHeartbeats 4000000

theorem talkB {u2 u3 u7 u8 u9 u10 u11 u12 u13 u14 u15 u16 u17 u18 u19 u20 u21 u22 u23 u24 u25 u26 u27 u28 u29 u30 u31 u32 u33 u34 u35 u36 u37 u38 u39 u40 u41 u42 u43 u44 u45 u46 u47 u48 u49 u50 u51 u52 u53 u54 u55 u56 u57 u58 u59 u60 u61 u62 u63 u64 u65 u66 u67 u68 u69 u70 u71 u72 u73 u74 u75 u76 u77 u78 u79 u80 u81 u82 u83 u84 u85 u86 u87 u88 u89 u90 u91 u92 u93 u94 u95 u96 u97 u98 u99 u100 u101 u102 u103 u104 u105 u106 u107 u108 u109 u110 u111 u112 u113 u114 u115 u116 u117 u118 u119 u120 u121 u122 u123 u124 u125 u126 u127 u128 u129 u130 u131 u132 u133 u134 u135 u136 u137 u138 u139 u140 u141 u142 u143 u144 u145 u146 u147 u148 u149 u150 u151 u152 u153 u154 u155 u156 u157 u158 u159 u160 u161 u162 u163 u164 u165 u166 u167 u168 u169 u170 u171 u172 u173 u174 u175 u176 u177 u178 u179 u180 u181 u182 u183 u184 u185 u186 u187 u188 u189 u190 u191 u192 u193 u194 u195 u196 u197 u198 u199 u200 u201 u202 u203 u204 u205 u206 u207 u208 u209 u210 u211 u212 u213 u214 u215 u216 u217 u218 u219 u220 u221 u222 u223 u224 u225 u226 u227 u228 u229 u230 u231 u232 u233 u234 u235 u236 u237 u238 u239 u240 u241 u242 u243 u244 u245 u246 u247 u248 u249 u250 u251 u252 u253 u254 u255 u256 u257 u258 u259 u260 u261 u262 u263 u264 u265 u266 u267 u268 u269 u270 u271 u272 u273 u274 u275 u276 u277 u278 u279 u280 u281 u282 u283 u284 u285 u286 u287 u288 u289 u290 u291 u292 u293 u294 u295 u296 : Value} (A : Option Addr) (c : Nat) (bs : List UInt8) (A2 : Option Addr) (c2 : Nat) (bs2 : List UInt8) (hl : bs.length ≤ 1048576) (hl2 : bs2.length ≤ 1048576) (hc : bs.length ≤ c) (hc2 : bs2.length ≤ c2) (w W : World) (hr : Rd w A (bs.map bV)) (hr2 : Rd w A2 (bs2.map bV))
    (text reply : ByteArray) (ht : text.size ≤ 60) (hy : reply.size ≤ 290) (hW : LeB w W) :
    Code.wp Try.prog (talkCode 4) (TalkPost w) { tmps := #[.slice A bs.length c, .slice A2 bs2.length c2, u2, u3, .bool false, .string text, .string reply, u7, u8, u9, u10, u11, u12, u13, u14, u15, u16, u17, u18, u19, u20, u21, u22, u23, u24, u25, u26, u27, u28, u29, u30, u31, u32, u33, u34, u35, u36, u37, u38, u39, u40, u41, u42, u43, u44, u45, u46, u47, u48, u49, u50, u51, u52, u53, u54, u55, u56, u57, u58, u59, u60, u61, u62, u63, u64, u65, u66, u67, u68, u69, u70, u71, u72, u73, u74, u75, u76, u77, u78, u79, u80, u81, u82, u83, u84, u85, u86, u87, u88, u89, u90, u91, u92, u93, u94, u95, u96, u97, u98, u99, u100, u101, u102, u103, u104, u105, u106, u107, u108, u109, u110, u111, u112, u113, u114, u115, u116, u117, u118, u119, u120, u121, u122, u123, u124, u125, u126, u127, u128, u129, u130, u131, u132, u133, u134, u135, u136, u137, u138, u139, u140, u141, u142, u143, u144, u145, u146, u147, u148, u149, u150, u151, u152, u153, u154, u155, u156, u157, u158, u159, u160, u161, u162, u163, u164, u165, u166, u167, u168, u169, u170, u171, u172, u173, u174, u175, u176, u177, u178, u179, u180, u181, u182, u183, u184, u185, u186, u187, u188, u189, u190, u191, u192, u193, u194, u195, u196, u197, u198, u199, u200, u201, u202, u203, u204, u205, u206, u207, u208, u209, u210, u211, u212, u213, u214, u215, u216, u217, u218, u219, u220, u221, u222, u223, u224, u225, u226, u227, u228, u229, u230, u231, u232, u233, u234, u235, u236, u237, u238, u239, u240, u241, u242, u243, u244, u245, u246, u247, u248, u249, u250, u251, u252, u253, u254, u255, u256, u257, u258, u259, u260, u261, u262, u263, u264, u265, u266, u267, u268, u269, u270, u271, u272, u273, u274, u275, u276, u277, u278, u279, u280, u281, u282, u283, u284, u285, u286, u287, u288, u289, u290, u291, u292, u293, u294, u295, u296], defers := [] } W := by
  have HH := Lib.hid (And.intro hl (And.intro hl2 (And.intro hc (And.intro hc2 (And.intro hr (And.intro hr2 (And.intro ht (And.intro hy hW))))))))
  have hc2I : (bs2.length : Int) ≤ c2 := by omega
  have hcI : (bs.length : Int) ≤ c := by omega
  clear hl hl2 hc hc2 hr hr2 ht hy hW
  conv => arg 2; whnf
  go_wp2_with fail
  generalize hw0 : World.alloc W (.cells #[.int .i64 0, .int .i64 4294967295, .int .i64 100] 3) = wa
  have hblk : wa.heap[World.heap W |>.size]? = some (.cells #[.int .i64 0, .int .i64 4294967295, .int .i64 100] 3 (0, 0)) := by rw [← hw0]; exact heap_alloc_new _ _
  have hlt : (World.heap W).size < wa.heap.size := (Array.getElem?_eq_some_iff.1 hblk).1
  have hB0 : Below (World.heap W).size W wa := by rw [← hw0]; exact (Below.refl _ _).alloc (Nat.le_refl _) _
  clear hw0
  have La : LeB w wa := LeB.tr HH.out.2.2.2.2.2.2.2.2 hB0
  have X := Lib.hid (And.intro hblk (And.intro hlt La))
  clear hblk hlt hB0 La
  refine (at_ok2 A2 c2 bs2 (by have := HH.out; omega) HH.out.2.2.2.1 1 3 (by omega) (by omega) wa (HH.out.2.2.2.2.2.1.below X.out.2.2 (Nat.le_refl _))).mono ?_
  rintro e w1 ⟨r, rfl, hr3, hB1⟩
  have hr3' : r < 3 := by omega
  have hr3I : (r : Int) < 3 := by omega
  clear hr3
  obtain ⟨isn, hisn, hcell⟩ : ∃ isn : Nat, isn < 4294967296 ∧ w1.cell? ⟨W.heap.size, r, none⟩ = some (.int .i64 isn) := by
    have hb := (hB1.block _ X.out.2.1).trans X.out.1
    rcases r with _ | _ | _ | r
    · exact ⟨0, by omega, blk_cell hb 0⟩
    · exact ⟨4294967295, by omega, blk_cell hb 1⟩
    · exact ⟨100, by omega, blk_cell hb 2⟩
    · omega
  have L1 : LeB w w1 := LeB.tr X.out.2.2 hB1
  have HI := Lib.hid (And.intro hisn L1)
  clear X hB1 L1 hr3'
  have hisnI : (isn : Int) < 4294967296 := by omega
  clear hisn
  go_wp2_with fail
  clear hcell hr3I
  generalize hw0 : World.alloc w1 (.cells #[.int .i64 4294967292, .int .i64 7] 3) = wb
  have hblk : wb.heap[World.heap w1 |>.size]? = some (.cells #[.int .i64 4294967292, .int .i64 7] 3 (0, 0)) := by rw [← hw0]; exact heap_alloc_new _ _
  have hlt : (World.heap w1).size < wb.heap.size := (Array.getElem?_eq_some_iff.1 hblk).1
  have hB0 : Below (World.heap w1).size w1 wb := by rw [← hw0]; exact (Below.refl _ _).alloc (Nat.le_refl _) _
  clear hw0
  have La : LeB w wb := LeB.tr HI.out.2 hB0
  have X := Lib.hid (And.intro hblk (And.intro hlt La))
  clear hblk hlt hB0 La
  refine (at_ok2 A2 c2 bs2 (by have := HH.out; omega) HH.out.2.2.2.1 2 2 (by omega) (by omega) wb (HH.out.2.2.2.2.2.1.below X.out.2.2 (Nat.le_refl _))).mono ?_
  rintro e w2 ⟨r2, rfl, hr3, hB1⟩
  have hr3' : r2 < 2 := by omega
  have hr3I : (r2 : Int) < 2 := by omega
  clear hr3
  obtain ⟨seq, hseq, hcell⟩ : ∃ seq : Nat, seq < 4294967296 ∧ w2.cell? ⟨w1.heap.size, r2, none⟩ = some (.int .i64 seq) := by
    have hb := (hB1.block _ X.out.2.1).trans X.out.1
    rcases r2 with _ | _ | r2
    · exact ⟨4294967292, by omega, blk_cell hb 0⟩
    · exact ⟨7, by omega, blk_cell hb 1⟩
    · omega
  have L1 : LeB w w2 := LeB.tr X.out.2.2 hB1
  have HS := Lib.hid (And.intro hseq L1)
  clear X hB1 L1 hr3'
  have hseqI : (seq : Int) < 4294967296 := by omega
  clear hseq
  go_wp2_with fail
  clear hcell hr3I
  refine (MacOf_ok A c bs (by have := HH.out; omega) w2 (HH.out.2.2.2.2.1.below HS.out.2 (Nat.le_refl _))).mono ?_
  rintro e w3 ⟨mac, rfl, hm, hB3⟩
  have L3 : LeB w w3 := LeB.tr HS.out.2 hB3
  clear hB3
  have HM := Lib.hid (And.intro hm.size L3)
  clear hm L3
  go_wp2_with fail
  refine (LanOf_ok A c bs (by have := HH.out; omega) w3 (HH.out.2.2.2.2.1.below HM.out.2 (Nat.le_refl _))).mono ?_
  rintro e w4 ⟨ip, rfl, hip, hB4⟩
  have L4 : LeB w w4 := LeB.tr HM.out.2 hB4
  clear hB4
  have HP := Lib.hid (And.intro hip L4)
  clear hip L4
  go_wp2_with fail
  refine (WanOf_ok A c bs (by have := HH.out; omega) w4 (HH.out.2.2.2.2.1.below HP.out.2 (Nat.le_refl _))).mono ?_
  rintro e w5 ⟨dst, rfl, hds, hB5⟩
  have L5 : LeB w w5 := LeB.tr HP.out.2 hB5
  clear hB5
  have HD := Lib.hid (And.intro hds L5)
  clear hds L5
  go_wp2_with fail
  refine (ConnOpen_ok mac ip dst 1000 80 seq 0 0 ⟨#[]⟩ isn HM.out.1 HP.out.1 HD.out.1 ⟨by omega, by omega, HS.out.1, by omega, by omega, by omega, by show 0 ≤ 360; omega⟩ HI.out.1 w5).mono ?_
  rintro e w6 ⟨v, rfl, ⟨bb, rfl, hbb, hlist⟩, hB6⟩
  have L6 : LeB w w6 := LeB.tr HD.out.2 hB6
  clear hB6
  obtain ⟨at1, hat1⟩ : ∃ t, onw seq 1 = t := ⟨_, rfl⟩
  obtain ⟨ack, hack⟩ : ∃ t, onw isn 1 = t := ⟨_, rfl⟩
  obtain ⟨c0, hc0⟩ : ∃ t, newCn mac ip dst ⟨1000, 80, seq, 0, 2, 0, ⟨#[]⟩⟩ isn = t := ⟨_, rfl⟩
  rw [hat1] at hlist
  rw [hc0]
  have e1 := and_onw seq 1 at1 HS.out.1 (by omega) hat1
  have e2 := and_onw isn 1 ack HI.out.1 (by omega) hack
  have l2 : w6.cell? ⟨bb, 2, none⟩ = some (.int .i64 isn) := (blk_cell hlist 2).trans (Sg.g2 _)
  have l3 : w6.cell? ⟨bb, 3, none⟩ = some (.int .i64 at1) := (blk_cell hlist 3).trans (Sg.g3 _)
  have l4 : w6.cell? ⟨bb, 4, none⟩ = some (.int .i64 18) := (blk_cell hlist 4).trans (Sg.g4 _)
  have hbl : bb < w6.heap.size := (Array.getElem?_eq_some_iff.1 hlist).1
  have hat1I : (at1 : Int) < 4294967296 := by have := onw_lt seq 1; omega
  have hackI : (ack : Int) < 4294967296 := by have := onw_lt isn 1; omega
  simp only [Int.natCast_one] at e1 e2
  have HE := Lib.hid (And.intro hat1 (And.intro hack (And.intro hc0 (And.intro hlist (And.intro L6 hbb)))))
  clear hat1 hack hc0 hlist L6 hbb
  obtain ⟨half, hhalf⟩ : ∃ h, tkH text = h := ⟨_, rfl⟩
  have hhI : (text.size : Int) / 2 = half := by rw [← hhalf]; unfold tkH; omega
  have hh1 : (half : Int) ≤ text.size := by omega
  have hh2 : (text.size : Int) ≤ 60 := by have := HH.out; omega
  have HF := Lib.hid hhalf
  clear hhalf
  go_wp2_with fail
  generalize hw0 : World.alloc w6 (.cells c0.cells 48) = w7
  have hblk : w7.heap[World.heap w6 |>.size]? = some (.cells c0.cells 48 (0, 0)) := by rw [← hw0]; exact heap_alloc_new _ _
  have hlt : (World.heap w6).size < w7.heap.size := (Array.getElem?_eq_some_iff.1 hblk).1
  have hB0 : Below (World.heap w6).size w6 w7 := by rw [← hw0]; exact (Below.refl _ _).alloc (Nat.le_refl _) _
  clear hw0
  have X := Lib.hid (And.intro hblk (And.intro hlt (LeB.tr HE.out.2.2.2.2.1 hB0)))
  clear hblk hlt hB0 l2 l3 l4 hbl
  refine wp_region_lex 9 (by kernel_rfl) (by kernel_rfl) (JB w7) LeB (qphi []) qphi_st JB.mono ?_ ?_
  · exact (Below.refl _ _).drew
  simp only [List.take_succ_cons, List.take_zero, List.drop_succ_cons, List.drop_zero, pairs, List.zipIdx_cons, List.zipIdx_nil, List.map_cons, List.map_nil, Nat.zero_add, Nat.reduceAdd]
  (repeat (refine lex_pure rfl rfl (fun K hK => ?_); go_simp; refine hK _ ?_; clear hK K; try simp (disch := omega) only [IntWalk.i64_in, IntWalk.u8_in, Int.add_sub_cancel, Int.tmod_eq_emod_of_nonneg, Int.tdiv_eq_ediv_of_nonneg]))
  refine lex_nil (fun m W8 hJ hF => ?_)
  rename_i K12 h12
  have H12 := Lib.hid h12
  have H8 := Lib.hid hJ
  clear h12 hJ hF
  go_wp2_with fail
  refine H12.out _ _ ?_
  have hlp : W8.heap.size < (W8.alloc (.cells #[.string (text.extract 0 half), .string (text.extract 0 half), .string (text.extract half text.size)] 9)).heap.size := by simp
  have hp : (W8.alloc (.cells #[.string (text.extract 0 half), .string (text.extract 0 half), .string (text.extract half text.size)] 9)).heap[W8.heap.size]? = some (.cells #[.string (text.extract 0 half), .string (text.extract 0 half), .string (text.extract half text.size)] 9 (0, 0)) := heap_alloc_new _ _
  have hB9 : LeB W8 (W8.alloc (.cells #[.string (text.extract 0 half), .string (text.extract 0 half), .string (text.extract half text.size)] 9)) := (Below.refl _ _).alloc (Nat.le_refl _) _
  have hcn := ((LeB.tr H8.out hB9).block _ X.out.2.1).trans X.out.1
  exact talkC mac ip dst isn seq text reply ⟨HM.out.1, HP.out.1, HD.out.1, HI.out.1, HS.out.1, HH.out.2.2.2.2.2.2.1, HH.out.2.2.2.2.2.2.2.1⟩ w _ w6.heap.size W8.heap.size half ack at1 HF.out HE.out.2.1 HE.out.1 (LeB.tr X.out.2.2 (LeB.tr H8.out hB9)) HE.out.2.2.2.2.1.size
    (Nat.ne_of_lt (Nat.lt_of_lt_of_le X.out.2.1 H8.out.size)) (by rw [← HE.out.2.2.1] at hcn; exact hcn) hp
end Go.Proofs.Ytdenjmdngmmodaa
