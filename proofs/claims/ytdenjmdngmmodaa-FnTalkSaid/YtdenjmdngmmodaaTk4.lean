/- A talk: the walk's last part: an end. -/
import Derived.Test.YtdenjmdngmmodaaTkD
namespace Go.Proofs.Ytdenjmdngmmodaa
open Go.RowKit
set_option linter.unusedVariables false
set_option linter.unusedSimpArgs false
set_option maxRecDepth 1000000
set_option maxHeartbeats 40000000

theorem talk_end2 (c : Cn) (g : Sg) (hs : c.st = 3) (hf : g.flags = 16) (h1 : bhd g.ack c.una = c.out.size + 1) (h2 : bhd c.nxt c.una = c.out.size + 1) : (takeC c g).1.st = 4 := by
  rw [takeC_gone c g _ (by omega) hf (acked_all c g.ack h1 h2 (by omega)) rfl]
theorem talkE {u0 u1 u2 u3 u4 u5 u7 u8 u10 u11 u13 u14 u15 u16 u17 u18 u19 u20 u23 u24 u25 u26 u27 u28 u31 u32 u33 u34 u35 u36 u37 u38 u39 u40 u41 u42 u43 u44 u45 u46 u47 u48 u49 u50 u51 u52 u53 u54 u55 u56 u57 u58 u59 u60 u61 u62 u63 u64 u65 u66 u67 u68 u69 u70 u71 u72 u73 u74 u75 u76 u77 u78 u79 u80 u81 u82 u83 u84 u85 u86 u87 u88 u89 u90 u91 u92 u93 u94 u95 u96 u97 u98 u99 u100 u101 u102 u103 u104 u105 u106 u107 u108 u109 u110 u111 u112 u113 u114 u115 u116 u117 u118 u119 u120 u121 u122 u123 u124 u125 u126 u127 u128 u129 u130 u131 u132 u133 u134 u135 u136 u137 u138 u139 u140 u141 u142 u143 u144 u145 u146 u147 u148 u149 u150 u151 u152 u153 u154 u155 u156 u157 u158 u159 u160 u161 u162 u163 u164 u165 u166 u167 u168 u169 u170 u171 u172 u173 u174 u175 u176 u177 u178 u179 u180 u181 u182 u183 u184 u185 u186 u187 u188 u189 u190 u191 u192 u193 u194 u195 u196 u197 u198 u199 u200 u201 u202 u203 u204 u205 u206 u207 u208 u209 u210 u211 u212 u213 u214 u215 u216 u217 u218 u219 u220 u221 u222 u223 u224 u225 u226 u227 u228 u229 u230 u231 u232 u233 u234 u235 u236 u237 u238 u239 u240 u241 u242 u243 u244 u245 u246 u247 u248 u249 u250 u251 u252 u253 u254 u255 u256 u257 u258 u259 u260 u261 u262 u263 u264 u265 u266 u267 u268 u269 u270 u271 u272 u273 u274 u275 u276 u277 u278 u279 u280 u281 u282 u283 u284 u285 u286 u287 u288 u289 u290 u291 u292 u293 u294 u295 u296 : Value} (mac : ByteArray) (ip dst isn seq : Nat) (text reply : ByteArray) (hin : TkIn mac ip dst isn seq text reply) (w W : World) (bc bs ack wn ee nx : Nat) (A : Option Addr) (cL : Nat) (L : List Sg) (hack : ack < 4294967296) (hwn : wn < 4294967296) (hee : onw ack reply.size = ee) (hnx : onw ack (reply.size + 1) = nx) (hW : LeB w W)
    (hcn : W.heap[bc]? = some (.cells (Cn.cells ⟨mac, ip, 1000, dst, 2, ack, ack, wn, text, ⟨#[]⟩, false⟩) 48 (0, 0))) (hsd : W.heap[bs]? = some (.cells (Cn.cells ⟨mac, ip, 1000, dst, 3, ack, nx, wn, text, reply, true⟩) 48 (0, 0)))
    (hL : Chain L ack reply) (hc : L.length ≤ cL) (hr : Rd W A (sgC L)) :
    Code.wp Try.prog (talkCode 22) (TalkPost w) { tmps := #[u0, u1, u2, u3, u4, u5, .string reply, u7, u8, .pointer (some ⟨bc, 0, none⟩), u10, u11, .int .i64 ack, u13, u14, u15, u16, u17, u18, u19, u20, .pointer (some ⟨bs, 0, none⟩), .slice A L.length cL, u23, u24, u25, u26, u27, u28, .string reply, .int .i64 ee, u31, u32, u33, u34, u35, u36, u37, u38, u39, u40, u41, u42, u43, u44, u45, u46, u47, u48, u49, u50, u51, u52, u53, u54, u55, u56, u57, u58, u59, u60, u61, u62, u63, u64, u65, u66, u67, u68, u69, u70, u71, u72, u73, u74, u75, u76, u77, u78, u79, u80, u81, u82, u83, u84, u85, u86, u87, u88, u89, u90, u91, u92, u93, u94, u95, u96, u97, u98, u99, u100, u101, u102, u103, u104, u105, u106, u107, u108, u109, u110, u111, u112, u113, u114, u115, u116, u117, u118, u119, u120, u121, u122, u123, u124, u125, u126, u127, u128, u129, u130, u131, u132, u133, u134, u135, u136, u137, u138, u139, u140, u141, u142, u143, u144, u145, u146, u147, u148, u149, u150, u151, u152, u153, u154, u155, u156, u157, u158, u159, u160, u161, u162, u163, u164, u165, u166, u167, u168, u169, u170, u171, u172, u173, u174, u175, u176, u177, u178, u179, u180, u181, u182, u183, u184, u185, u186, u187, u188, u189, u190, u191, u192, u193, u194, u195, u196, u197, u198, u199, u200, u201, u202, u203, u204, u205, u206, u207, u208, u209, u210, u211, u212, u213, u214, u215, u216, u217, u218, u219, u220, u221, u222, u223, u224, u225, u226, u227, u228, u229, u230, u231, u232, u233, u234, u235, u236, u237, u238, u239, u240, u241, u242, u243, u244, u245, u246, u247, u248, u249, u250, u251, u252, u253, u254, u255, u256, u257, u258, u259, u260, u261, u262, u263, u264, u265, u266, u267, u268, u269, u270, u271, u272, u273, u274, u275, u276, u277, u278, u279, u280, u281, u282, u283, u284, u285, u286, u287, u288, u289, u290, u291, u292, u293, u294, u295, u296], defers := [] } W := by
  obtain ⟨n, hn⟩ : ∃ n, L.length = n := ⟨_, rfl⟩
  have h1 := hL.one
  have h3 := hL.three
  have hlast := hL.last (by omega)
  obtain ⟨z, rfl⟩ : ∃ z, n = z + 1 := ⟨n - 1, by omega⟩
  obtain ⟨ad, rfl, q⟩ := SgAt.of hr z (by omega)
  obtain ⟨g, hg⟩ : ∃ g, L[z]'(by omega) = g := ⟨_, rfl⟩
  have hz : L.length - 1 = z := by omega
  have hfl : g.flags = 17 := by rw [← hg, ← hlast]; congr 1; simp only [hz]
  rw [hg] at q
  have q0 := q.c0
  have q1 := q.c1
  have q2 := q.c2
  have q3 := q.c3
  have q4 : W.cell? ⟨(ad.add (z * 7)).block, (ad.add (z * 7)).off + 4, none⟩ = some (.int .i64 17) := by rw [q.c4, hfl]; rfl
  have q5 := q.c5
  have q6 := q.c6
  have hzI : (z : Int) ≤ 2 := by omega
  have hzc : (z : Int) + 1 ≤ cL := by omega
  rw [hn]
  have eeI : (ee : Int) < 4294967296 := by have := onw_lt ack reply.size; omega
  have hackI : (ack : Int) < 4294967296 := by omega
  have een : ee < 4294967296 := by omega
  have e1 : bits .and .i64 ((ee : Int) + 1) 4294967295 = (nx : Int) := and_onw ee 1 nx een (by omega) (by rw [← hee, onw_onw]; exact hnx)
  obtain ⟨a5, ha5⟩ : ∃ x, onw ack 5 = x := ⟨_, rfl⟩
  have e2 : bits .and .i64 ((ack : Int) + 5) 4294967295 = (a5 : Int) := and_onw ack 5 a5 hack (by omega) ha5
  have e3 : bits .and .i64 17 1 = 1 := by decide +kernel
  have hb5 : bhd a5 ack = 5 := by rw [← ha5]; exact bhd_onw ack 5 hack (by omega)
  have ha5l : a5 < 4294967296 := by rw [← ha5]; exact onw_lt _ _
  have hnxl : nx < 4294967296 := by rw [← hnx]; exact onw_lt _ _
  have hbn : bhd nx ack = reply.size + 1 := by rw [← hnx]; exact bhd_onw ack _ hack (by have := hin.reply; omega)
  have okS : CnOK ⟨mac, ip, 1000, dst, 3, ack, nx, wn, text, reply, true⟩ := ⟨hin.mac, hin.ip, by show 1000 < 65536; omega, hin.dst, hack, hnxl, hwn, by show text.size ≤ 300; have := hin.text; omega, by show reply.size ≤ 300; have := hin.reply; omega, .inr (.inr (.inl ⟨rfl, rfl, hbn⟩))⟩
  have okG : SegOK 1000 80 wn nx 16 0 ⟨#[]⟩ := ⟨by omega, by omega, hwn, hnxl, by omega, by omega, by show 0 ≤ 360; omega⟩
  have hst := talk_end2 ⟨mac, ip, 1000, dst, 3, ack, nx, wn, text, reply, true⟩ ⟨1000, 80, wn, nx, 16, 0, ⟨#[]⟩⟩ rfl rfl hbn hbn
  obtain ⟨R, hR⟩ : ∃ x, takeC ⟨mac, ip, 1000, dst, 3, ack, nx, wn, text, reply, true⟩ ⟨1000, 80, wn, nx, 16, 0, ⟨#[]⟩⟩ = x := ⟨_, rfl⟩
  rw [hR] at hst
  have hbl1 := (Array.getElem?_eq_some_iff.1 hcn).1
  have hbl2 := (Array.getElem?_eq_some_iff.1 hsd).1
  have HX := Lib.hid (And.intro okS (And.intro okG (And.intro hR (And.intro hst (And.intro hcn (And.intro hbl1 (And.intro hsd (And.intro hbl2 (And.intro hW (And.intro hb5 (And.intro ha5l hack)))))))))))
  clear hL hlast h1 h3 hn hg hz hfl q hr hc hack hwn hee hnx hW hcn hsd hin een ha5 hb5 ha5l hnxl hbn okS okG hst hR hbl1 hbl2
  conv => arg 2; whnf
  go_upto_region 41 with (fail)
  clear q0 q1 q2 q3 q4 q5 q6
  generalize hw0 : World.alloc W (.cells #[.int .i64 g.src, .int .i64 g.dst, .int .i64 g.seq, .int .i64 g.ack, .int .i64 17, .int .i64 g.space, .string g.data] 55) = w1
  have hblk : w1.heap[World.heap W |>.size]? = some (.cells #[.int .i64 g.src, .int .i64 g.dst, .int .i64 g.seq, .int .i64 g.ack, .int .i64 17, .int .i64 g.space, .string g.data] 55 (0, 0)) := by rw [← hw0]; exact heap_alloc_new _ _
  have hlt : (World.heap W).size < w1.heap.size := (Array.getElem?_eq_some_iff.1 hblk).1
  have hB0 : Below (World.heap W).size W w1 := by rw [← hw0]; exact (Below.refl _ _).alloc (Nat.le_refl _) _
  clear hw0
  have hs1 := (hB0.block _ HX.out.2.2.2.2.2.2.2.1).trans HX.out.2.2.2.2.2.2.1
  have hc1 := (hB0.block _ HX.out.2.2.2.2.2.1).trans HX.out.2.2.2.2.1
  have H1 := Lib.hid (And.intro hblk (And.intro hlt (LeB.tr HX.out.2.2.2.2.2.2.2.2.1 hB0)))
  have c0 : w1.cell? ⟨bs, 0, none⟩ = some (.string mac) := blk_cell hs1 0
  have c1 : w1.cell? ⟨bs, 1, none⟩ = some (.int .i64 ip) := blk_cell hs1 1
  have c2 : w1.cell? ⟨bs, 2, none⟩ = some (.int .i64 1000) := blk_cell hs1 2
  have c3 : w1.cell? ⟨bs, 3, none⟩ = some (.int .i64 dst) := blk_cell hs1 3
  have c4 : w1.cell? ⟨bs, 4, none⟩ = some (.int .i64 3) := blk_cell hs1 4
  have c5 : w1.cell? ⟨bs, 5, none⟩ = some (.int .i64 ack) := blk_cell hs1 5
  have c6 : w1.cell? ⟨bs, 6, none⟩ = some (.int .i64 nx) := blk_cell hs1 6
  have c7 : w1.cell? ⟨bs, 7, none⟩ = some (.int .i64 wn) := blk_cell hs1 7
  have c8 : w1.cell? ⟨bs, 8, none⟩ = some (.string text) := blk_cell hs1 8
  have c9 : w1.cell? ⟨bs, 9, none⟩ = some (.string reply) := blk_cell hs1 9
  have c10 : w1.cell? ⟨bs, 10, none⟩ = some (.bool true) := blk_cell hs1 10
  have d7 : w1.cell? ⟨bc, 7, none⟩ = some (.int .i64 wn) := blk_cell hc1 7
  clear hblk hlt hB0 hs1 hc1
  go_wp2_with fail
  refine (ConnTake_ok ⟨mac, ip, 1000, dst, 3, ack, nx, wn, text, reply, true⟩ ⟨1000, 80, wn, nx, 16, 0, ⟨#[]⟩⟩ HX.out.1 HX.out.2.1 w1).mono ?_
  rintro e w2 ⟨v, rfl, -, hB2⟩
  rw [HX.out.2.2.1]
  obtain ⟨rc, rl⟩ := R
  have hrs : rc.st = 4 := HX.out.2.2.2.1
  dsimp only
  have H2 := Lib.hid (And.intro hB2 hrs)
  clear hB2 hrs c0 c1 c2 c3 c4 c5 c6 c7 c8 c9 c10 d7
  go_upto_region 42 with (fail)
  generalize hw0 : World.alloc w2 (.cells rc.cells 48) = w3
  have hblk : w3.heap[World.heap w2 |>.size]? = some (.cells rc.cells 48 (0, 0)) := by rw [← hw0]; exact heap_alloc_new _ _
  have hlt : (World.heap w2).size < w3.heap.size := (Array.getElem?_eq_some_iff.1 hblk).1
  have hB0 : Below (World.heap w2).size w2 w3 := by rw [← hw0]; exact (Below.refl _ _).alloc (Nat.le_refl _) _
  clear hw0
  have M0 : LeB w w3 := LeB.tr H1.out.2.2 (LeB.tr H2.out.1 hB0)
  have M1 : LeB w1 w3 := LeB.tr H2.out.1 hB0
  have b32 := (M1.block _ H1.out.2.1).trans H1.out.1
  have d4 : w3.cell? ⟨w2.heap.size, 4, none⟩ = some (.int .i64 4) := by rw [blk_cell hblk 4, Cn.g4, H2.out.2]; rfl
  have f4 : w3.cell? ⟨W.heap.size, 4, none⟩ = some (.int .i64 17) := blk_cell b32 4
  have H3 := Lib.hid M0
  clear hblk hlt hB0 M0 M1 b32
  go_wp2_with fail
  refine (SeqLess_ok ack a5 HX.out.2.2.2.2.2.2.2.2.2.2.2 HX.out.2.2.2.2.2.2.2.2.2.2.1 HX.out.2.2.2.2.2.2.2.2.2.1 w3).mono ?_
  rintro e w4 ⟨rfl, rfl⟩
  go_wp2_with fail
  refine bodyPost_ret (v := .bool true) (by simp [results, go_sem]) rfl ⟨rfl, H3.out⟩
end Go.Proofs.Ytdenjmdngmmodaa
