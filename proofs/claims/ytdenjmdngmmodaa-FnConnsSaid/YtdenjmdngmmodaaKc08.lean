/- A talk: the plain law. | A talk: the plain law, rest. | A talk: the walk's parts, their words. | A whole struct stored into a new block within a region of open order. | Connections: what is waited for, and what was taken in (plain law). -/
import Derived.Test.YtdenjmdngmmodaaKc07
import Derived.Deep.Cut
namespace Go.Proofs.Ytdenjmdngmmodaa
open Go.RowKit
set_option linter.unusedVariables false
set_option linter.unusedSimpArgs false
set_option maxRecDepth 20000
set_option maxHeartbeats 600000

theorem bhd_onw (a n : Nat) (ha : a < 4294967296) (hn : n < 4294967296) : bhd (onw a n) a = n := by unfold bhd onw; omega
theorem bhd_self (a : Nat) (ha : a < 4294967296) : bhd a a = 0 := by unfold bhd; omega
theorem onw_onw (a m n : Nat) : onw (onw a m) n = onw a (m + n) := by unfold onw; omega
theorem onw_zero (a : Nat) (ha : a < 4294967296) : onw a 0 = a := by unfold onw; omega
theorem acked_syn (c : Cn) (ack : Nat) (h1 : bhd ack c.una = 1) (h2 : bhd c.nxt c.una = 1) (hs : c.st = 1) : acked c ack = { c with una := ack, st := 2 } := by
  unfold acked
  rw [if_pos ⟨by omega, by omega⟩, if_pos hs]
theorem acked_same (c : Cn) (ack : Nat) (h : bhd ack c.una = 0) : acked c ack = c := by
  unfold acked
  rw [if_neg (by omega)]
theorem acked_all (c : Cn) (ack : Nat) (h1 : bhd ack c.una = c.out.size + 1) (h2 : bhd c.nxt c.una = c.out.size + 1) (hs : c.st ≠ 1) : acked c ack = { c with una := ack, out := ⟨#[]⟩, st := 4, fin := false } := by
  unfold acked
  rw [if_pos ⟨by omega, by omega⟩, if_neg hs, if_pos (by omega)]
theorem takeC_ack (c : Cn) (g : Sg) (ca : Cn) (hs : c.st ≠ 4) (hf : g.flags = 16) (ha : acked c g.ack = ca) : takeC c g = (if ca.st = 1 ∨ ca.st = 4 ∨ (g.data = ⟨#[]⟩ ∧ Nat.land g.flags 1 = 0) then (ca, [])
    else if g.seq = ca.want ∧ ca.inn.size + g.data.size ≤ 300 then
      ({ ca with inn := ca.inn ++ g.data, want := onw ca.want (g.data.size + Nat.land g.flags 1) }, [⟨80, ca.port, ca.nxt, onw ca.want (g.data.size + Nat.land g.flags 1), 16, 1000, ⟨#[]⟩⟩])
    else (ca, [⟨80, ca.port, ca.nxt, ca.want, 16, 1000, ⟨#[]⟩⟩])) := by
  rw [takeC, if_neg hs, if_neg (by rw [hf]; decide), if_neg (by rw [hf]; decide), if_neg (by rw [hf]; decide), ha]
theorem takeC_gone (c : Cn) (g : Sg) (ca : Cn) (hs : c.st ≠ 4) (hf : g.flags = 16) (ha : acked c g.ack = ca) (h1 : ca.st = 4) : (takeC c g).1 = ca := by
  rw [takeC_ack c g ca hs hf ha, if_pos (.inr (.inl h1))]
theorem takeC_none (c : Cn) (g : Sg) (ca : Cn) (hs : c.st ≠ 4) (hf : g.flags = 16) (ha : acked c g.ack = ca) (h1 : g.data = ⟨#[]⟩) : (takeC c g).1 = ca := by
  rw [takeC_ack c g ca hs hf ha, if_pos (.inr (.inr ⟨h1, by rw [hf]; rfl⟩))]
theorem takeC_in (c : Cn) (g : Sg) (ca : Cn) (hs : c.st ≠ 4) (hf : g.flags = 16) (ha : acked c g.ack = ca) (h1 : ca.st = 2) (h2 : g.data ≠ ⟨#[]⟩) (h3 : g.seq = ca.want) (h4 : ca.inn.size + g.data.size ≤ 300) : (takeC c g).1 = { ca with inn := ca.inn ++ g.data, want := onw ca.want g.data.size } := by
  rw [takeC_ack c g ca hs hf ha, if_neg (by rintro (h | h | h); omega; omega; exact h2 h.1), if_pos ⟨h3, h4⟩, hf, show Nat.land 16 1 = 0 from rfl, Nat.add_zero]
theorem takeC_out (c : Cn) (g : Sg) (ca : Cn) (hs : c.st ≠ 4) (hf : g.flags = 16) (ha : acked c g.ack = ca) (h1 : ca.st = 2) (h3 : g.seq ≠ ca.want) : (takeC c g).1 = ca := by
  rw [takeC_ack c g ca hs hf ha]
  split
  · rfl
  · rw [if_neg (fun h => h3 h.1)]

def tkH (text : ByteArray) : Nat := text.size / 2
def tkP0 (text : ByteArray) : ByteArray := text.extract 0 (tkH text)
def tkP1 (text : ByteArray) : ByteArray := text.extract (tkH text) text.size
def tk0 (mac : ByteArray) (ip dst isn seq : Nat) : Cn := ⟨mac, ip, 1000, dst, 1, isn, onw isn 1, onw seq 1, ⟨#[]⟩, ⟨#[]⟩, false⟩
def tk1 (mac : ByteArray) (ip dst isn seq : Nat) (text : ByteArray) : Cn := ⟨mac, ip, 1000, dst, 2, onw isn 1, onw isn 1, onw (onw seq 1) (tkH text), tkP0 text, ⟨#[]⟩, false⟩
def tk3 (mac : ByteArray) (ip dst isn seq : Nat) (text : ByteArray) : Cn := ⟨mac, ip, 1000, dst, 2, onw isn 1, onw isn 1, onw (onw (onw seq 1) (tkH text)) (text.size - tkH text), text, ⟨#[]⟩, false⟩
def tkS (isn sq : Nat) (d : ByteArray) : Sg := ⟨1000, 80, sq, onw isn 1, 16, 0, d⟩
theorem tkP0_size (text : ByteArray) : (tkP0 text).size = tkH text := by unfold tkP0 tkH; rw [ByteArray.size_extract]; omega
theorem tkP1_size (text : ByteArray) : (tkP1 text).size = text.size - tkH text := by unfold tkP1 tkH; rw [ByteArray.size_extract]; omega
theorem tkP_app (text : ByteArray) : tkP0 text ++ tkP1 text = text := by
  unfold tkP0 tkP1
  rw [ByteArray.extract_append_extract]
  rw [show min 0 (tkH text) = 0 by omega, show max (tkH text) text.size = text.size by unfold tkH; omega, ByteArray.extract_zero_size]
theorem empty_app (a : ByteArray) : (⟨#[]⟩ : ByteArray) ++ a = a := by
  apply ByteArray.ext
  rw [ByteArray.data_append]
  simp
theorem app_empty (a : ByteArray) : a ++ (⟨#[]⟩ : ByteArray) = a := by
  apply ByteArray.ext
  rw [ByteArray.data_append]
  simp
theorem talk0 (mac : ByteArray) (ip dst isn seq : Nat) (text : ByteArray) (hi : isn < 4294967296) (hx : text.size ≤ 60) : (takeC (tk0 mac ip dst isn seq) (tkS isn (onw seq 1) (tkP0 text))).1 = tk1 mac ip dst isn seq text := by
  have h1 := bhd_onw isn 1 hi (by omega)
  have ha := acked_syn (tk0 mac ip dst isn seq) (onw isn 1) h1 h1 rfl
  by_cases h0 : tkP0 text = ⟨#[]⟩
  · rw [takeC_none (tk0 mac ip dst isn seq) (tkS isn (onw seq 1) (tkP0 text)) _ (by show 1 ≠ 4; omega) rfl ha h0]
    have e : tkH text = 0 := by rw [← tkP0_size, h0]; rfl
    unfold tk1 tk0
    rw [e, onw_zero _ (onw_lt _ _), h0]
  · rw [takeC_in (tk0 mac ip dst isn seq) (tkS isn (onw seq 1) (tkP0 text)) _ (by show 1 ≠ 4; omega) rfl ha rfl h0 rfl (by show 0 + (tkP0 text).size ≤ 300; rw [tkP0_size]; unfold tkH; omega)]
    unfold tk1 tk0 tkS
    dsimp only
    rw [empty_app, tkP0_size]
theorem talk1 (mac : ByteArray) (ip dst isn seq : Nat) (text : ByteArray) (hi : isn < 4294967296) (hx : text.size ≤ 60) : (takeC (tk1 mac ip dst isn seq text) (tkS isn (onw seq 1) (tkP0 text))).1 = tk1 mac ip dst isn seq text := by
  have ha := acked_same (tk1 mac ip dst isn seq text) (onw isn 1) (bhd_self _ (onw_lt _ _))
  by_cases h0 : tkP0 text = ⟨#[]⟩
  · exact takeC_none (tk1 mac ip dst isn seq text) (tkS isn (onw seq 1) (tkP0 text)) _ (by show 2 ≠ 4; omega) rfl ha h0
  · refine takeC_out (tk1 mac ip dst isn seq text) (tkS isn (onw seq 1) (tkP0 text)) _ (by show 2 ≠ 4; omega) rfl ha rfl ?_
    have hp : tkH text ≠ 0 := fun e => h0 (str_eq0 (by rw [tkP0_size]; exact e))
    have hq : tkH text ≤ 60 := by unfold tkH; omega
    show onw seq 1 ≠ onw (onw seq 1) (tkH text)
    generalize tkH text = z at *
    unfold onw
    omega
theorem talk2 (mac : ByteArray) (ip dst isn seq : Nat) (text : ByteArray) (hi : isn < 4294967296) (hx : text.size ≤ 60) : (takeC (tk1 mac ip dst isn seq text) (tkS isn (onw (onw seq 1) (tkH text)) (tkP1 text))).1 = tk3 mac ip dst isn seq text := by
  have ha := acked_same (tk1 mac ip dst isn seq text) (onw isn 1) (bhd_self _ (onw_lt _ _))
  have happ := tkP_app text
  have hs1 := tkP1_size text
  by_cases h0 : tkP1 text = ⟨#[]⟩
  · rw [takeC_none (tk1 mac ip dst isn seq text) (tkS isn (onw (onw seq 1) (tkH text)) (tkP1 text)) _ (by show 2 ≠ 4; omega) rfl ha h0]
    have e : text.size - tkH text = 0 := by rw [← hs1, h0]; rfl
    rw [h0, app_empty] at happ
    unfold tk1 tk3
    rw [e, onw_zero _ (onw_lt _ _), happ]
  · rw [takeC_in (tk1 mac ip dst isn seq text) (tkS isn (onw (onw seq 1) (tkH text)) (tkP1 text)) _ (by show 2 ≠ 4; omega) rfl ha rfl h0 rfl (by show (tkP0 text).size + (tkP1 text).size ≤ 300; rw [tkP0_size, tkP1_size]; unfold tkH; omega)]
    unfold tk1 tk3 tkS
    dsimp only
    rw [happ, hs1]
theorem talk_end (mac : ByteArray) (ip dst isn seq : Nat) (text : ByteArray) (hi : isn < 4294967296) (hx : text.size ≤ 60) (reply : ByteArray) (hr : reply.size ≤ 290) (wn : Nat) : (takeC (sayC (tk3 mac ip dst isn seq text) reply) ⟨1000, 80, wn, onw (onw isn 1) (reply.size + 1), 16, 0, ⟨#[]⟩⟩).1.st = 4 := by
  have h1 := bhd_onw (onw isn 1) (reply.size + 1) (onw_lt _ _) (by omega)
  have ha := acked_all (sayC (tk3 mac ip dst isn seq text) reply) (onw (onw isn 1) (reply.size + 1)) h1 h1 (by show 3 ≠ 1; omega)
  rw [takeC_gone (sayC (tk3 mac ip dst isn seq text) reply) ⟨1000, 80, wn, onw (onw isn 1) (reply.size + 1), 16, 0, ⟨#[]⟩⟩ _ (by show 3 ≠ 4; omega) rfl ha rfl]
end Go.Proofs.Ytdenjmdngmmodaa
namespace Go.Proofs.Ytdenjmdngmmodaa
open Go.RowKit
set_option linter.unusedVariables false
set_option linter.unusedSimpArgs false
set_option maxRecDepth 20000
set_option maxHeartbeats 600000

theorem and_max (n : Nat) (h : n < 9223372036854775808) : bits .and .i64 (n : Int) 4294967295 = ((n % 4294967296 : Nat) : Int) := by
  show IntKind.i64.wrap ((BitVec.ofInt 64 (n : Int) &&& BitVec.ofInt 64 ((4294967295 : Nat) : Int)).toNat : Int) = _
  rw [BitVec.toNat_and, ofInt_i64 n h, ofInt_i64 4294967295 (by omega), IntKind.wrap_i64, BitVec.toNat_ofNat, BitVec.toNat_ofNat, Nat.mod_eq_of_lt (by omega : n < 2 ^ 64), show 4294967295 % 2 ^ 64 = 2 ^ 32 - 1 from rfl, Nat.and_two_pow_sub_one_eq_mod]
  omega
theorem and_onw (a n t : Nat) (ha : a < 4294967296) (hn : n ≤ 1000000) (ht : onw a n = t) : bits .and .i64 ((a : Int) + (n : Int)) 4294967295 = (t : Int) := by
  subst ht
  have h := and_max (a + n) (by omega)
  rw [Int.natCast_add] at h
  rw [h]
  rfl
theorem tk0_OK (mac : ByteArray) (ip dst isn seq : Nat) (text : ByteArray) (hm : mac.size = 6) (hip : ip < 4294967296) (hds : dst < 4294967296) (hi : isn < 4294967296) (hx : text.size ≤ 60) : CnOK (tk0 mac ip dst isn seq) := ⟨hm, hip, by show 1000 < 65536; omega, hds, hi, onw_lt _ _, onw_lt _ _, by show 0 ≤ 300; omega, by show 0 ≤ 300; omega, .inl ⟨rfl, rfl, rfl, rfl, bhd_onw isn 1 hi (by omega)⟩⟩
theorem tk1_OK (mac : ByteArray) (ip dst isn seq : Nat) (text : ByteArray) (hm : mac.size = 6) (hip : ip < 4294967296) (hds : dst < 4294967296) (hi : isn < 4294967296) (hx : text.size ≤ 60) : CnOK (tk1 mac ip dst isn seq text) := ⟨hm, hip, by show 1000 < 65536; omega, hds, onw_lt _ _, onw_lt _ _, onw_lt _ _, by show (tkP0 text).size ≤ 300; rw [tkP0_size]; unfold tkH; omega, by show 0 ≤ 300; omega, .inr (.inl ⟨rfl, rfl, rfl, bhd_self _ (onw_lt _ _)⟩)⟩
theorem tk3_OK (mac : ByteArray) (ip dst isn seq : Nat) (text : ByteArray) (hm : mac.size = 6) (hip : ip < 4294967296) (hds : dst < 4294967296) (hi : isn < 4294967296) (hx : text.size ≤ 60) : CnOK (tk3 mac ip dst isn seq text) := ⟨hm, hip, by show 1000 < 65536; omega, hds, onw_lt _ _, onw_lt _ _, onw_lt _ _, by show text.size ≤ 300; omega, by show 0 ≤ 300; omega, .inr (.inl ⟨rfl, rfl, rfl, bhd_self _ (onw_lt _ _)⟩)⟩
theorem tkSay_OK (mac : ByteArray) (ip dst isn seq : Nat) (text : ByteArray) (hm : mac.size = 6) (hip : ip < 4294967296) (hds : dst < 4294967296) (hi : isn < 4294967296) (hx : text.size ≤ 60) (reply : ByteArray) (hr : reply.size ≤ 290) : CnOK (sayC (tk3 mac ip dst isn seq text) reply) := ⟨hm, hip, by show 1000 < 65536; omega, hds, onw_lt _ _, onw_lt _ _, onw_lt _ _, by show text.size ≤ 300; omega, by show reply.size ≤ 300; omega, .inr (.inr (.inl ⟨rfl, rfl, bhd_onw (onw isn 1) (reply.size + 1) (onw_lt _ _) (by omega)⟩))⟩
theorem tkS_OK (isn sq : Nat) (d : ByteArray) (hs : sq < 4294967296) (hd : d.size ≤ 60) : SegOK (tkS isn sq d).src (tkS isn sq d).dst (tkS isn sq d).seq (tkS isn sq d).ack (tkS isn sq d).flags (tkS isn sq d).space (tkS isn sq d).data :=
  ⟨by show 1000 < 65536; omega, by show 80 < 65536; omega, hs, onw_lt _ _, by show 16 < 32; omega, by show 0 < 65536; omega, by show d.size ≤ 360; omega⟩

def chP (p : Nat) (L : List Sg) : Nat := L.foldl (fun q g => onw q g.data.size) p
def chD (L : List Sg) : ByteArray := L.foldl (fun s g => s ++ g.data) ⟨#[]⟩
theorem chP_succ (p : Nat) (L : List Sg) (k : Nat) (h : k < L.length) : chP p (L.take (k + 1)) = onw (chP p (L.take k)) L[k].data.size := by
  rw [List.take_succ_eq_append_getElem h, chP, List.foldl_append]; rfl
theorem chD_succ (L : List Sg) (k : Nat) (h : k < L.length) : chD (L.take (k + 1)) = chD (L.take k) ++ L[k].data := by
  rw [List.take_succ_eq_append_getElem h, chD, List.foldl_append]; rfl
structure Chain (L : List Sg) (p : Nat) (r : ByteArray) : Prop where
  seq : ∀ k (h : k < L.length), L[k].seq = chP p (L.take k) ∧ L[k].data.size ≤ 200
  got : chD L = r
  place : chP p L = onw p r.size
  one : 1 ≤ L.length
  three : L.length ≤ 3
  last : ∀ (h : L.length - 1 < L.length), L[L.length - 1].flags = 17
theorem pieces_chain (c : Cn) (p : Nat) (r : ByteArray) (hp : p < 4294967296) (hr : r.size ≤ 400) : Chain (piecesC c p r) p r := by
  unfold piecesC
  split
  · rename_i h0
    obtain rfl := str_eq0 h0
    exact ⟨fun k h => by obtain rfl : k = 0 := by simpa using h
                         exact ⟨rfl, by show 0 ≤ 200; omega⟩, rfl, rfl, by simp, by simp, fun h => rfl⟩
  split
  · rename_i h0 h2
    refine ⟨fun k h => ?_, ?_, ?_, by simp, by simp, fun h => rfl⟩
    · rcases k with _ | _ | k
      · exact ⟨rfl, h2⟩
      · exact ⟨rfl, by show 0 ≤ 200; omega⟩
      · simp at h; omega
    · show ((⟨#[]⟩ : ByteArray) ++ r) ++ (⟨#[]⟩ : ByteArray) = r
      rw [empty_app, app_empty]
    · show onw (onw p r.size) 0 = onw p r.size
      exact onw_zero _ (onw_lt _ _)
  · rename_i h0 h2
    have s1 : (r.extract 0 200).size = 200 := by rw [ByteArray.size_extract]; omega
    have s2 : (r.extract 200 r.size).size = r.size - 200 := by rw [ByteArray.size_extract]; omega
    refine ⟨fun k h => ?_, ?_, ?_, by simp, by simp, fun h => rfl⟩
    · rcases k with _ | _ | _ | k
      · exact ⟨rfl, by show (r.extract 0 200).size ≤ 200; omega⟩
      · exact ⟨by show onw p 200 = onw p (r.extract 0 200).size; rw [s1], by show (r.extract 200 r.size).size ≤ 200; omega⟩
      · exact ⟨by show onw (onw p 200) (r.size - 200) = onw (onw p (r.extract 0 200).size) (r.extract 200 r.size).size; rw [s1, s2], by show 0 ≤ 200; omega⟩
      · simp at h; omega
    · show (((⟨#[]⟩ : ByteArray) ++ r.extract 0 200) ++ r.extract 200 r.size) ++ (⟨#[]⟩ : ByteArray) = r
      rw [empty_app, app_empty, ByteArray.extract_append_extract, show min 0 200 = 0 by omega, show max 200 r.size = r.size by omega, ByteArray.extract_zero_size]
    · show onw (onw (onw p (r.extract 0 200).size) (r.extract 200 r.size).size) 0 = onw p r.size
      rw [s1, s2, onw_zero _ (onw_lt _ _), onw_onw, show 200 + (r.size - 200) = r.size by omega]

theorem SeqLess_ok (a b : Nat) (ha : a < 4294967296) (hb : b < 4294967296) (h : bhd b a = 5) (w : World) :
    Calls Try.prog 31 #[.int .i64 a, .int .i64 b] w fun e w' => e = .returned (.tuple #[.bool true, .int .i64 0]) ∧ w = w' := by
  have HK := Lib.hid (And.intro ha (And.intro hb h))
  clear ha hb h
  go_enter Try.func31, Try.ntmps31
  go_wp2_with fail
  refine (isAddress_ok a HK.out.1 _).mono ?_
  rintro e w1 ⟨rfl, rfl⟩
  go_wp2_with fail
  refine (isAddress_ok b HK.out.2.1 _).mono ?_
  rintro e w1 ⟨rfl, rfl⟩
  go_wp2_with fail
  refine (behind_is b a 5 HK.out.2.1 HK.out.1 HK.out.2.2 _).mono ?_
  rintro e w1 ⟨rfl, rfl⟩
  go_wp2_with fail
  refine (within_ok _ _ _ _).mono ?_
  rintro e w1 ⟨rfl, rfl⟩
  go_wp2_with fail
  go_ret2
  exact ⟨rfl, rfl⟩
end Go.Proofs.Ytdenjmdngmmodaa
namespace Go.Proofs.Ytdenjmdngmmodaa
open Go.RowKit
set_option linter.unusedVariables false
set_option linter.unusedSimpArgs false
set_option maxRecDepth 1000000
set_option maxHeartbeats 4000000

def seqDrop : Nat → Code → Code
  | 0, c => c
  | n + 1, .seq _ b => seqDrop n b
  | _, c => c
noncomputable def talkCode (n : Nat) : Code := seqDrop n (Try.f5.body.getD .skip)
def TalkPost (w : World) : Exit → Act → World → Prop := bodyPost Try.prog Try.f5 fun e w' => e = .returned (.bool true) ∧ Below w.heap.size w w'
structure TkIn (mac : ByteArray) (ip dst isn seq : Nat) (text reply : ByteArray) : Prop where
  mac : mac.size = 6
  ip : ip < 4294967296
  dst : dst < 4294967296
  isn : isn < 4294967296
  seq : seq < 4294967296
  text : text.size ≤ 60
  reply : reply.size ≤ 290
end Go.Proofs.Ytdenjmdngmmodaa
namespace Go.Proofs.Ytdenjmdngmmodaa
open Go.RowKit
set_option linter.unusedVariables false
set_option linter.unusedSimpArgs false
set_option maxRecDepth 20000
set_option maxHeartbeats 600000

def cnZero : Array Value := #[.string ⟨#[]⟩, .int .i64 0, .int .i64 0, .int .i64 0, .int .i64 0, .int .i64 0, .int .i64 0, .int .i64 0, .string ⟨#[]⟩, .string ⟨#[]⟩, .bool false]
/-- .. but that a new connection's block may have been filled. -/
def LeS (N : Array Value) (w w' : World) : Prop := w.heap.size ≤ w'.heap.size ∧ ∀ k, k < w.heap.size → w'.heap[k]? = w.heap[k]? ∨ (w.heap[k]? = some (.cells cnZero 48 (0, 0)) ∧ w'.heap[k]? = some (.cells N 48 (0, 0)))
theorem LeS.of {N : Array Value} {w w' : World} (h : LeB w w') : LeS N w w' := ⟨h.size, fun k hk => .inl (h.block k hk)⟩
def PtrSp (B : Nat) (N : Array Value) : Spec := fun _ v w => ∃ g, v = .pointer (some ⟨g, 0, none⟩) ∧ B ≤ g ∧ (w.heap[g]? = some (.cells cnZero 48 (0, 0)) ∨ w.heap[g]? = some (.cells N 48 (0, 0)))
def StoSp (N : Array Value) : Spec := fun x _ w => ∃ g, x = #[.pointer (some ⟨g, 0, none⟩), .agg N] ∧ w.heap[g]? = some (.cells N 48 (0, 0))
theorem LeS.fill {N : Array Value} {w w' : World} (h : LeS N w w') {g : Nat} (hg : w.heap[g]? = some (.cells N 48 (0, 0))) : w'.heap[g]? = some (.cells N 48 (0, 0)) := by
  rcases h.2 g (Array.getElem?_eq_some_iff.1 hg).1 with e | ⟨_, e⟩
  · exact e.trans hg
  · exact e
theorem PtrSp.st {B : Nat} {N : Array Value} {x : Array Value} {v : Value} {w w' : World} (hL : LeS N w w') (h : PtrSp B N x v w) : PtrSp B N x v w' := by
  obtain ⟨g, h1, h2, h3 | h3⟩ := h
  · refine ⟨g, h1, h2, ?_⟩
    rcases hL.2 g (Array.getElem?_eq_some_iff.1 h3).1 with e | ⟨_, e⟩
    · exact .inl (e.trans h3)
    · exact .inr e
  · exact ⟨g, h1, h2, .inr (hL.fill h3)⟩
theorem StoSp.st {N : Array Value} {x : Array Value} {v : Value} {w w' : World} (hL : LeS N w w') (h : StoSp N x v w) : StoSp N x v w' := by
  obtain ⟨g, h1, h2⟩ := h
  exact ⟨g, h1, hL.fill h2⟩
theorem gives_store {P : Program} {o : Oper} {a : Act} {w : World} {R : Value → World → Prop} (x y : Operand) (T : TypeId) (ho : o.op = .store T x y) (b : Nat) (E : TypeId) (cur cs : Array Value) (hx : a.eval x = .pointer (some ⟨b, 0, none⟩)) (hy : a.eval y = .agg cs)
    (hb : w.heap[b]? = some (.cells cur E (0, 0))) (hs : cur.size = cs.size) (hi : (P.info? T).map (·.size) = some cs.size) (h1 : cs.toList.all (·.oneCell') = true) (h : R undef (w.setRow b cs)) : gives P o a w R := by
  unfold gives execOp
  simp only [ho, Sem.run_bind, Sem.run_pure, Result.andThen_ok, hx, hy, run_store_row w b T E cur cs hb hs hi h1]
  exact h
section
variable {ops : Array Oper} {φ : Nat → Option Spec} {B : List Nat} {w0 : World} {N : Array Value}
theorem lexS_store {i j : Nat} {o : Oper} {r : List (Nat × Oper)} {fin : Act → Facts → Prop} {F : Facts} {a : Act} {x y : Operand} {g : Nat} {xj : Array Value} (hg : o.guard = none) (hφ : φ i = some (StoSp N))
    (ho : o.op = .store 48 x y) (hx : a.eval x = .pointer (some ⟨g, 0, none⟩)) (hy : a.eval y = .agg N) (hd : o.dst = none) (hN : N.size = 11) (hN1 : N.toList.all (·.oneCell') = true) (hj : ancB B i j = true) (hFj : F j = some (xj, .pointer (some ⟨g, 0, none⟩))) (hφj : φ j = some (PtrSp w0.heap.size N))
    (h2 : ∀ v, lexR Try.prog ops (JB w0) (LeS N) φ B r fin (upd F i (#[.pointer (some ⟨g, 0, none⟩), .agg N], v)) a) : lexR Try.prog ops (JB w0) (LeS N) φ B ((i, o) :: r) fin F a := by
  have hxa : argsOf a o = #[.pointer (some ⟨g, 0, none⟩), .agg N] := by unfold argsOf; rw [ho]; simp [Op.operands, hx, hy]
  refine lex_eff hg hφ (fun m W hJ hf => ?_) (fun v hP => ?_)
  · obtain ⟨g', e1, hB, h3⟩ := hf j hj _ _ _ hFj hφj
    cases e1
    have key : ∀ cur, W.heap[g]? = some (.cells cur 48 (0, 0)) → cur.size = 11 → (cur = cnZero ∨ cur = N) → gives Try.prog o a W (fun v w' => JB w0 m w' ∧ LeS N W w' ∧ StoSp N (argsOf a o) v w') := fun cur hc hs hcn => by
      refine gives_store x y 48 ho g 48 cur N hx hy hc (by rw [hs, hN]) (by rw [hN]; exact infoCn) hN1 ⟨below_setRow hJ hB N, ⟨by simp [World.setRow], fun k hk => ?_⟩, ?_⟩
      · by_cases hkg : k = g
        · subst hkg
          rcases hcn with rfl | rfl
          · exact .inr ⟨hc, setRow_heap _ _ _ _ _ _ hc⟩
          · exact .inl ((setRow_heap _ _ _ _ _ _ hc).trans hc.symm)
        · exact .inl (setRow_other W g k N hkg)
      · rw [hxa]
        exact ⟨g, rfl, setRow_heap _ _ _ _ _ _ hc⟩
    rcases h3 with h3 | h3
    · exact key _ h3 rfl (.inl rfl)
    · exact key _ h3 hN (.inr rfl)
  · rw [hxa]
    have e : a.put o.dst v = a := by rw [hd]; rfl
    rw [e]
    exact h2 v
end
def tkφ (B : Nat) (r : Value) (N : Array Value) : Nat → Option Spec
  | 8 => some fun _ v _ => ∃ v2, v = .tuple #[r, v2, .int .i64 0]
  | 13 => some (PtrSp B N)
  | 14 => some (StoSp N)
  | _ => none
theorem tkφ_st {B : Nat} {r : Value} {N : Array Value} : ∀ j sp x v w w', tkφ B r N j = some sp → LeS N w w' → sp x v w → sp x v w' := by
  intro j sp x v w w' hj hL h
  unfold tkφ at hj
  split at hj
  · cases hj; exact h
  · cases hj; exact PtrSp.st hL h
  · cases hj; exact StoSp.st hL h
  · cases hj
end Go.Proofs.Ytdenjmdngmmodaa
namespace Go.Proofs.Ytdenjmdngmmodaa
open Go.RowKit
set_option linter.unusedVariables false
set_option linter.unusedSimpArgs false
set_option maxRecDepth 20000
set_option maxHeartbeats 600000

theorem acked_want (c : Cn) (a : Nat) : (acked c a).want = c.want := by
  unfold acked
  split
  · split
    · rfl
    · split <;> rfl
  · rfl
theorem acked_inn (c : Cn) (a : Nat) : (acked c a).inn = c.inn := by
  unfold acked
  split
  · split
    · rfl
    · split <;> rfl
  · rfl
theorem land_one (f : Nat) : Nat.land f 1 ≤ 1 := Nat.and_le_right (n := f) (m := 1)
theorem takeC_want (c : Cn) (g : Sg) (hw : c.want < 4294967296) (hd : g.data.size ≤ 360) : bhd (takeC c g).1.want c.want ≤ g.data.size + 1 ∧ (0 < bhd (takeC c g).1.want c.want → (takeC c g).1.inn = c.inn ++ g.data) := by
  have h0 : bhd c.want c.want = 0 := bhd_self _ hw
  have hq := acked_want c g.ack
  have hi := acked_inn c g.ack
  obtain ⟨ca, hca⟩ : ∃ x, acked c g.ack = x := ⟨_, rfl⟩
  rw [hca] at hq hi
  have hz : ∀ x : Cn × List Sg, x.1.want = c.want → bhd x.1.want c.want ≤ g.data.size + 1 ∧ (0 < bhd x.1.want c.want → x.1.inn = c.inn ++ g.data) := fun x hx => by
    rw [hx, h0]
    exact ⟨by omega, fun h => by omega⟩
  unfold takeC
  rw [hca]
  clear hca
  split
  · exact hz _ rfl
  split
  · refine hz _ ?_
    dsimp only
    split <;> rfl
  split
  · exact hz _ rfl
  split
  · exact hz _ rfl
  split
  · exact hz _ hq
  split
  · dsimp only
    have hl := land_one g.flags
    rw [hq, bhd_onw c.want _ hw (by omega), hi]
    exact ⟨by omega, fun _ => rfl⟩
  · exact hz _ hq
end Go.Proofs.Ytdenjmdngmmodaa
