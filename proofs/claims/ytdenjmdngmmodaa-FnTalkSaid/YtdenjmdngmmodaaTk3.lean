/- A talk: the walk's fourth part: an answer. -/
import Derived.Test.YtdenjmdngmmodaaTk4
namespace Go.Proofs.Ytdenjmdngmmodaa
open Go.RowKit
set_option linter.unusedVariables false
set_option linter.unusedSimpArgs false
set_option maxRecDepth 1000000
set_option maxHeartbeats 40000000

theorem talkD {u0 u1 u2 u3 u4 u7 u8 u10 u11 u13 u14 u15 u16 u17 u18 u19 u20 u21 u22 u23 u24 u25 u26 u27 u28 u29 u30 u31 u32 u33 u34 u35 u36 u37 u38 u39 u40 u41 u42 u43 u44 u45 u46 u47 u48 u49 u50 u51 u52 u53 u54 u55 u56 u57 u58 u59 u60 u61 u62 u63 u64 u65 u66 u67 u68 u69 u70 u71 u72 u73 u74 u75 u76 u77 u78 u79 u80 u81 u82 u83 u84 u85 u86 u87 u88 u89 u90 u91 u92 u93 u94 u95 u96 u97 u98 u99 u100 u101 u102 u103 u104 u105 u106 u107 u108 u109 u110 u111 u112 u113 u114 u115 u116 u117 u118 u119 u120 u121 u122 u123 u124 u125 u126 u127 u128 u129 u130 u131 u132 u133 u134 u135 u136 u137 u138 u139 u140 u141 u142 u143 u144 u145 u146 u147 u148 u149 u150 u151 u152 u153 u154 u155 u156 u157 u158 u159 u160 u161 u162 u163 u164 u165 u166 u167 u168 u169 u170 u171 u172 u173 u174 u175 u176 u177 u178 u179 u180 u181 u182 u183 u184 u185 u186 u187 u188 u189 u190 u191 u192 u193 u194 u195 u196 u197 u198 u199 u200 u201 u202 u203 u204 u205 u206 u207 u208 u209 u210 u211 u212 u213 u214 u215 u216 u217 u218 u219 u220 u221 u222 u223 u224 u225 u226 u227 u228 u229 u230 u231 u232 u233 u234 u235 u236 u237 u238 u239 u240 u241 u242 u243 u244 u245 u246 u247 u248 u249 u250 u251 u252 u253 u254 u255 u256 u257 u258 u259 u260 u261 u262 u263 u264 u265 u266 u267 u268 u269 u270 u271 u272 u273 u274 u275 u276 u277 u278 u279 u280 u281 u282 u283 u284 u285 u286 u287 u288 u289 u290 u291 u292 u293 u294 u295 u296 : Value} (mac : ByteArray) (ip dst isn seq : Nat) (text reply : ByteArray) (hin : TkIn mac ip dst isn seq text reply) (w W : World) (bc ack : Nat) (hack : onw isn 1 = ack) (hW : LeB w W) (hbc : w.heap.size ≤ bc)
    (hcn : W.heap[bc]? = some (.cells (tk3 mac ip dst isn seq text).cells 48 (0, 0))) :
    Code.wp Try.prog (talkCode 14) (TalkPost w) { tmps := #[u0, u1, u2, u3, u4, .string text, .string reply, u7, u8, .pointer (some ⟨bc, 0, none⟩), u10, u11, .int .i64 ack, u13, u14, u15, u16, u17, u18, u19, u20, u21, u22, u23, u24, u25, u26, u27, u28, u29, u30, u31, u32, u33, u34, u35, u36, u37, u38, u39, u40, u41, u42, u43, u44, u45, u46, u47, u48, u49, u50, u51, u52, u53, u54, u55, u56, u57, u58, u59, u60, u61, u62, u63, u64, u65, u66, u67, u68, u69, u70, u71, u72, u73, u74, u75, u76, u77, u78, u79, u80, u81, u82, u83, u84, u85, u86, u87, u88, u89, u90, u91, u92, u93, u94, u95, u96, u97, u98, u99, u100, u101, u102, u103, u104, u105, u106, u107, u108, u109, u110, u111, u112, u113, u114, u115, u116, u117, u118, u119, u120, u121, u122, u123, u124, u125, u126, u127, u128, u129, u130, u131, u132, u133, u134, u135, u136, u137, u138, u139, u140, u141, u142, u143, u144, u145, u146, u147, u148, u149, u150, u151, u152, u153, u154, u155, u156, u157, u158, u159, u160, u161, u162, u163, u164, u165, u166, u167, u168, u169, u170, u171, u172, u173, u174, u175, u176, u177, u178, u179, u180, u181, u182, u183, u184, u185, u186, u187, u188, u189, u190, u191, u192, u193, u194, u195, u196, u197, u198, u199, u200, u201, u202, u203, u204, u205, u206, u207, u208, u209, u210, u211, u212, u213, u214, u215, u216, u217, u218, u219, u220, u221, u222, u223, u224, u225, u226, u227, u228, u229, u230, u231, u232, u233, u234, u235, u236, u237, u238, u239, u240, u241, u242, u243, u244, u245, u246, u247, u248, u249, u250, u251, u252, u253, u254, u255, u256, u257, u258, u259, u260, u261, u262, u263, u264, u265, u266, u267, u268, u269, u270, u271, u272, u273, u274, u275, u276, u277, u278, u279, u280, u281, u282, u283, u284, u285, u286, u287, u288, u289, u290, u291, u292, u293, u294, u295, u296], defers := [] } W := by
  have ok3 := tk3_OK mac ip dst isn seq text hin.mac hin.ip hin.dst hin.isn hin.text
  have okS := tkSay_OK mac ip dst isn seq text hin.mac hin.ip hin.dst hin.isn hin.text reply hin.reply
  obtain ⟨wn, hwn⟩ : ∃ x, onw (onw (onw seq 1) (tkH text)) (text.size - tkH text) = x := ⟨_, rfl⟩
  obtain ⟨nx, hnx⟩ : ∃ x, onw ack (reply.size + 1) = x := ⟨_, rfl⟩
  have hk : tk3 mac ip dst isn seq text = ⟨mac, ip, 1000, dst, 2, ack, ack, wn, text, ⟨#[]⟩, false⟩ := by unfold tk3; rw [hack, hwn]
  have hkS : sayC ⟨mac, ip, 1000, dst, 2, ack, ack, wn, text, ⟨#[]⟩, false⟩ reply = ⟨mac, ip, 1000, dst, 3, ack, nx, wn, text, reply, true⟩ := by unfold sayC; dsimp only; rw [hnx]
  rw [hk] at ok3 okS hcn
  rw [hkS] at okS
  have hackl : ack < 4294967296 := by rw [← hack]; exact onw_lt _ _
  have hwnl : wn < 4294967296 := by rw [← hwn]; exact onw_lt _ _
  obtain ⟨L, hL⟩ : ∃ x, piecesC ⟨mac, ip, 1000, dst, 2, ack, ack, wn, text, ⟨#[]⟩, false⟩ ack reply = x := ⟨_, rfl⟩
  have hag : againC ⟨mac, ip, 1000, dst, 3, ack, nx, wn, text, reply, true⟩ = L := by
    rw [← hL, againC, if_neg (by show ¬ (3 = 1); omega), if_pos rfl]
    rfl
  have hch := pieces_chain ⟨mac, ip, 1000, dst, 2, ack, ack, wn, text, ⟨#[]⟩, false⟩ ack reply hackl (by have := hin.reply; omega)
  rw [hL] at hch
  have hrI : (reply.size : Int) ≤ 290 := by have := hin.reply; omega
  have HO := Lib.hid (And.intro ok3 (And.intro okS (And.intro hkS (And.intro hL (And.intro hag (And.intro hch (And.intro hackl (And.intro hwnl hnx))))))))
  have hbl := (Array.getElem?_eq_some_iff.1 hcn).1
  have c0 : W.cell? ⟨bc, 0, none⟩ = some (.string mac) := blk_cell hcn 0
  have c1 : W.cell? ⟨bc, 1, none⟩ = some (.int .i64 ip) := blk_cell hcn 1
  have c2 : W.cell? ⟨bc, 2, none⟩ = some (.int .i64 1000) := blk_cell hcn 2
  have c3 : W.cell? ⟨bc, 3, none⟩ = some (.int .i64 dst) := blk_cell hcn 3
  have c4 : W.cell? ⟨bc, 4, none⟩ = some (.int .i64 2) := blk_cell hcn 4
  have c5 : W.cell? ⟨bc, 5, none⟩ = some (.int .i64 ack) := blk_cell hcn 5
  have c6 : W.cell? ⟨bc, 6, none⟩ = some (.int .i64 ack) := blk_cell hcn 6
  have c7 : W.cell? ⟨bc, 7, none⟩ = some (.int .i64 wn) := blk_cell hcn 7
  have c8 : W.cell? ⟨bc, 8, none⟩ = some (.string text) := blk_cell hcn 8
  have c9 : W.cell? ⟨bc, 9, none⟩ = some (.string ⟨#[]⟩) := blk_cell hcn 9
  have c10 : W.cell? ⟨bc, 10, none⟩ = some (.bool false) := blk_cell hcn 10
  have HX := Lib.hid (And.intro hin (And.intro hW (And.intro hbc (And.intro hcn hbl))))
  clear ok3 okS hwn hnx hk hkS hackl hwnl hL hag hch hin hack hW hbc hcn hbl
  conv => arg 2; whnf
  go_wp2_with fail
  refine (ConnSay_ok ⟨mac, ip, 1000, dst, 2, ack, ack, wn, text, ⟨#[]⟩, false⟩ reply HO.out.1 rfl (by have := HX.out.1.reply; omega) W).mono ?_
  rintro e w1 ⟨v, rfl, hl, hB1⟩
  rw [HO.out.2.2.1]
  dsimp only at hl
  rw [HO.out.2.2.2.1] at hl
  have HL1 := Lib.hid (And.intro hl hB1)
  clear hl hB1 c0 c1 c2 c3 c4 c5 c6 c7 c8 c9 c10
  go_wp2_with fail
  generalize hw0 : World.alloc w1 (.cells (Cn.cells ⟨mac, ip, 1000, dst, 3, ack, nx, wn, text, reply, true⟩) 48) = w2
  have hblk : w2.heap[World.heap w1 |>.size]? = some (.cells (Cn.cells ⟨mac, ip, 1000, dst, 3, ack, nx, wn, text, reply, true⟩) 48 (0, 0)) := by rw [← hw0]; exact heap_alloc_new _ _
  have hlt : (World.heap w1).size < w2.heap.size := (Array.getElem?_eq_some_iff.1 hblk).1
  have hB0 : Below (World.heap w1).size w1 w2 := by rw [← hw0]; exact (Below.refl _ _).alloc (Nat.le_refl _) _
  clear hw0
  have HS := Lib.hid (And.intro hblk (And.intro hlt (And.intro hB0 (LeB.tr HL1.out.2 hB0))))
  clear hblk hlt hB0
  refine (ConnAgain_ok ⟨mac, ip, 1000, dst, 3, ack, nx, wn, text, reply, true⟩ HO.out.2.1 w2).mono ?_
  rintro e w3 ⟨v2, rfl, hl2, hB3⟩
  rw [HO.out.2.2.2.2.1] at hl2
  have hsd := (hB3.block _ HS.out.2.1).trans HS.out.1
  have HL2 := Lib.hid (And.intro hl2 (And.intro hB3 hsd))
  have c0 : w3.cell? ⟨w1.heap.size, 0, none⟩ = some (.string mac) := blk_cell hsd 0
  have c1 : w3.cell? ⟨w1.heap.size, 1, none⟩ = some (.int .i64 ip) := blk_cell hsd 1
  have c2 : w3.cell? ⟨w1.heap.size, 2, none⟩ = some (.int .i64 1000) := blk_cell hsd 2
  have c3 : w3.cell? ⟨w1.heap.size, 3, none⟩ = some (.int .i64 dst) := blk_cell hsd 3
  have c4 : w3.cell? ⟨w1.heap.size, 4, none⟩ = some (.int .i64 3) := blk_cell hsd 4
  have c5 : w3.cell? ⟨w1.heap.size, 5, none⟩ = some (.int .i64 ack) := blk_cell hsd 5
  have c6 : w3.cell? ⟨w1.heap.size, 6, none⟩ = some (.int .i64 nx) := blk_cell hsd 6
  have c7 : w3.cell? ⟨w1.heap.size, 7, none⟩ = some (.int .i64 wn) := blk_cell hsd 7
  have c8 : w3.cell? ⟨w1.heap.size, 8, none⟩ = some (.string text) := blk_cell hsd 8
  have c9 : w3.cell? ⟨w1.heap.size, 9, none⟩ = some (.string reply) := blk_cell hsd 9
  have c10 : w3.cell? ⟨w1.heap.size, 10, none⟩ = some (.bool true) := blk_cell hsd 10
  clear hl2 hB3 hsd
  go_wp2_with fail
  refine (ConnSay_busy ⟨mac, ip, 1000, dst, 3, ack, nx, wn, text, reply, true⟩ ⟨#[120]⟩ HO.out.2.1 rfl (by show 1 ≤ 300; omega) w3).mono ?_
  rintro e w4 ⟨v3, rfl, hB4⟩
  clear c0 c1 c2 c3 c4 c5 c6 c7 c8 c9 c10
  have HB4 := Lib.hid hB4
  clear hB4
  obtain ⟨A1, cc1, rfl, hcc1, hr1, hA1⟩ := HL1.out.1
  obtain ⟨A2, cc2, rfl, hcc2, hr2, hA2⟩ := HL2.out.1
  have hL1 : L.length ≠ 0 := by have := HO.out.2.2.2.2.2.1.one; omega
  have hL3 : (L.length : Int) ≤ 3 := by have := HO.out.2.2.2.2.2.1.three; omega
  have HR := Lib.hid (And.intro hcc1 (And.intro hr1 (And.intro hA1 (And.intro hcc2 (And.intro hr2 hA2)))))
  clear hcc1 hr1 hA1 hcc2 hr2 hA2
  go_wp2_with fail
  generalize hw0 : World.alloc w4 (.cells (Cn.cells ⟨mac, ip, 1000, dst, 3, ack, nx, wn, text, reply, true⟩) 48) = w5
  have hblk : w5.heap[World.heap w4 |>.size]? = some (.cells (Cn.cells ⟨mac, ip, 1000, dst, 3, ack, nx, wn, text, reply, true⟩) 48 (0, 0)) := by rw [← hw0]; exact heap_alloc_new _ _
  have hlt : (World.heap w4).size < w5.heap.size := (Array.getElem?_eq_some_iff.1 hblk).1
  have hB0 : Below (World.heap w4).size w4 w5 := by rw [← hw0]; exact (Below.refl _ _).alloc (Nat.le_refl _) _
  clear hw0
  have hB5 : LeB w4 w5 := hB0
  clear hblk hlt hB0
  have M3 : LeB w3 w5 := LeB.tr HB4.out hB5
  have M2 : LeB w2 w5 := LeB.tr HL2.out.2.1 M3
  have M1 : LeB w1 w5 := LeB.tr HS.out.2.2.1 M2
  have M0 : LeB W w5 := LeB.tr HL1.out.2 M1
  have q1 := HR.out.2.1.below M1 (Nat.le_refl _)
  have q2 := HR.out.2.2.2.2.1.below M3 (Nat.le_refl _)
  have hsd5 := (M2.block _ HS.out.2.1).trans HS.out.1
  have hcn5 := (M0.block _ HX.out.2.2.2.2).trans HX.out.2.2.2.1
  refine (sameSegments_ok L _ _ 0 0 w5 ⟨A1, cc1, rfl, HR.out.1, q1, fun ad e => ⟨Nat.zero_le _, Nat.lt_of_lt_of_le (HR.out.2.2.1 ad e).2 M1.size⟩⟩ ⟨A2, cc2, rfl, HR.out.2.2.2.1, q2, fun ad e => ⟨Nat.zero_le _, Nat.lt_of_lt_of_le (HR.out.2.2.2.2.2 ad e).2 M3.size⟩⟩ (by omega)).mono ?_
  rintro e w6 ⟨rfl, n6, hn6⟩
  have hb6 : ∀ k : Nat, w6.heap[k]? = w5.heap[k]? := fun k => by rw [hn6]; rfl
  have L6 : LeB w w6 := by rw [hn6]; exact below_drewN (LeB.tr HX.out.2.1 M0) _
  have HQ := Lib.hid (And.intro (q1.keep (w' := w6) fun ad e => hb6 _) (And.intro ((hb6 _).trans hsd5) (And.intro ((hb6 _).trans hcn5) L6)))
  clear M3 M2 M1 M0 q1 q2 hsd5 hcn5 hB5 hn6 hb6 L6
  go_wp2_with fail
  rename_i KL hLK
  have HLK := Lib.hid hLK
  clear hLK
  have hLc : (L.length : Int) ≤ cc1 := by have := HR.out.1; omega
  go_loop [29, 30, 31] (fun got pl i => ∃ (k p : Nat) (d : ByteArray), k ≤ L.length ∧ i = .int .i64 k ∧ got = .string d ∧ Hid (chD (L.take k) = d) ∧ d.size ≤ 200 * k ∧ pl = .int .i64 p ∧ Hid (chP ack (L.take k) = p) ∧ p < 4294967296) (fun _ _ i => L.length - (intOf i).toNat)
  case atStart => exact ⟨0, ack, ⟨#[]⟩, Nat.zero_le _, rfl, rfl, Lib.hid rfl, by show 0 ≤ 0; omega, rfl, Lib.hid rfl, HO.out.2.2.2.2.2.2.1⟩
  case round =>
    obtain ⟨k, p, d, hk, rfl, rfl, hd, hds, rfl, hp, hpl⟩ := hrel
    by_cases hlt : k < L.length
    · have hltI : (k : Int) < L.length := by omega
      obtain ⟨ad, rfl, q⟩ := SgAt.of HQ.out.1 k hlt
      have hs := (HO.out.2.2.2.2.2.1.seq k hlt)
      have hps := chP_succ ack L k hlt
      have hds2 := chD_succ L k hlt
      obtain ⟨g, hg⟩ : ∃ g, L[k] = g := ⟨_, rfl⟩
      rw [hg] at q hs hps hds2
      rw [hp.out] at hs hps
      rw [hd.out] at hds2
      have c2 := q.c2
      rw [hs.1] at c2
      have c6 := q.c6
      have hgd : (g.data.size : Int) ≤ 8388608 := by have := hs.2; omega
      have hdI : (d.size : Int) ≤ 8388608 := by have := HO.out.2.2.2.2.2.1.three; omega
      have hpI : (p : Int) < 4294967296 := by omega
      obtain ⟨p2, hp2⟩ : ∃ x, onw p g.data.size = x := ⟨_, rfl⟩
      have e1 := and_onw p g.data.size p2 hpl (by omega) hp2
      have hp2l : p2 < 4294967296 := by rw [← hp2]; exact onw_lt _ _
      have HT := Lib.hid (And.intro hs (And.intro (hps.trans hp2) hds2))
      clear hs hps hds2 hp2 hg q
      have h200 : decide ((200 : Int) < g.data.size) = false := by have := HT.out.1.2; simp; omega
      have HDS := Lib.hid (And.intro hds hk)
      clear hds hk
      go_wp2_with fail
      go_round
      case rel => exact ⟨k + 1, p2, d ++ g.data, by omega, by go_num, rfl, Lib.hid HT.out.2.2, by simp only [ByteArray.size_append]; have := HDS.out; have := HT.out.1; omega, rfl, Lib.hid HT.out.2.1, hp2l⟩
      case measure => simp [intOf]; omega
    · obtain rfl : k = L.length := by omega
      have hd2 := hd.out
      have hp2 := hp.out
      rw [List.take_length] at hd2 hp2
      have hch := HO.out.2.2.2.2.2.1
      have e1 : d = reply := hd2.symm.trans hch.got
      have e2 : onw ack reply.size = p := hch.place.symm.trans hp2
      subst e1
      have HE := Lib.hid e2
      clear hd2 hp2 hch e2 hd hp
      go_wp2_with fail
      refine HLK.out _ _ ?_
      exact talkE mac ip dst isn seq text d HX.out.1 w _ bc w1.heap.size ack wn p nx A1 cc1 L HO.out.2.2.2.2.2.2.1 HO.out.2.2.2.2.2.2.2.1 HE.out HO.out.2.2.2.2.2.2.2.2 HQ.out.2.2.2 HQ.out.2.2.1 HQ.out.2.1 HO.out.2.2.2.2.2.1 HR.out.1 HQ.out.1
end Go.Proofs.Ytdenjmdngmmodaa
