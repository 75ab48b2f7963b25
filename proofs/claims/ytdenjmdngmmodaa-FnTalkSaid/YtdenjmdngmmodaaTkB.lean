/- A talk: the plain law, rest. -/
import Derived.Test.YtdenjmdngmmodaaTk
namespace Go.Proofs.Ytdenjmdngmmodaa
open Go.RowKit
set_option linter.unusedVariables false
set_option linter.unusedSimpArgs false
set_option maxRecDepth 20000
set_option maxHeartbeats 600000

theorem and_max (n : Nat) (h : n < 9223372036854775808) : bits .and .i64 (n : Int) 4294967295 = ((n % 4294967296 : Nat) : Int) := by
  show IntKind.i64.wrap ((BitVec.ofInt 64 (n : Int) &&& BitVec.ofInt 64 ((4294967295 : Nat) : Int)).toNat : Int) = _
  rw [BitVec.toNat_and, ofInt_i64 n h, ofInt_i64 4294967295 (by omega), IntKind.wrap_i64, BitVec.toNat_ofNat, BitVec.toNat_ofNat, Nat.mod_eq_of_lt (by omega : n < 2 ^ 64), show 4294967295 % 2 ^ 64 = 2 ^ 32 - 1 from rfl, Nat.and_two_pow_sub_one_eq_mod]
  omega
theorem and_onw (a n t : Nat) (ha : a < 4294967296) (hn : n ≤ 1000000) (ht : onw a n = t) : bits .and .i64 ((a : Int) + (n : Int)) 4294967295 = (t : Int) := by
  subst ht
  have h := and_max (a + n) (by omega)
  rw [Int.natCast_add] at h
  rw [h]
  rfl
theorem tk0_OK (mac : ByteArray) (ip dst isn seq : Nat) (text : ByteArray) (hm : mac.size = 6) (hip : ip < 4294967296) (hds : dst < 4294967296) (hi : isn < 4294967296) (hx : text.size ≤ 60) : CnOK (tk0 mac ip dst isn seq) := ⟨hm, hip, by show 1000 < 65536; omega, hds, hi, onw_lt _ _, onw_lt _ _, by show 0 ≤ 300; omega, by show 0 ≤ 300; omega, .inl ⟨rfl, rfl, rfl, rfl, bhd_onw isn 1 hi (by omega)⟩⟩
theorem tk1_OK (mac : ByteArray) (ip dst isn seq : Nat) (text : ByteArray) (hm : mac.size = 6) (hip : ip < 4294967296) (hds : dst < 4294967296) (hi : isn < 4294967296) (hx : text.size ≤ 60) : CnOK (tk1 mac ip dst isn seq text) := ⟨hm, hip, by show 1000 < 65536; omega, hds, onw_lt _ _, onw_lt _ _, onw_lt _ _, by show (tkP0 text).size ≤ 300; rw [tkP0_size]; unfold tkH; omega, by show 0 ≤ 300; omega, .inr (.inl ⟨rfl, rfl, rfl, bhd_self _ (onw_lt _ _)⟩)⟩
theorem tk3_OK (mac : ByteArray) (ip dst isn seq : Nat) (text : ByteArray) (hm : mac.size = 6) (hip : ip < 4294967296) (hds : dst < 4294967296) (hi : isn < 4294967296) (hx : text.size ≤ 60) : CnOK (tk3 mac ip dst isn seq text) := ⟨hm, hip, by show 1000 < 65536; omega, hds, onw_lt _ _, onw_lt _ _, onw_lt _ _, by show text.size ≤ 300; omega, by show 0 ≤ 300; omega, .inr (.inl ⟨rfl, rfl, rfl, bhd_self _ (onw_lt _ _)⟩)⟩
theorem tkSay_OK (mac : ByteArray) (ip dst isn seq : Nat) (text : ByteArray) (hm : mac.size = 6) (hip : ip < 4294967296) (hds : dst < 4294967296) (hi : isn < 4294967296) (hx : text.size ≤ 60) (reply : ByteArray) (hr : reply.size ≤ 290) : CnOK (sayC (tk3 mac ip dst isn seq text) reply) := ⟨hm, hip, by show 1000 < 65536; omega, hds, onw_lt _ _, onw_lt _ _, onw_lt _ _, by show text.size ≤ 300; omega, by show reply.size ≤ 300; omega, .inr (.inr (.inl ⟨rfl, rfl, bhd_onw (onw isn 1) (reply.size + 1) (onw_lt _ _) (by omega)⟩))⟩
theorem tkS_OK (isn sq : Nat) (d : ByteArray) (hs : sq < 4294967296) (hd : d.size ≤ 60) : SegOK (tkS isn sq d).src (tkS isn sq d).dst (tkS isn sq d).seq (tkS isn sq d).ack (tkS isn sq d).flags (tkS isn sq d).space (tkS isn sq d).data :=
  ⟨by show 1000 < 65536; omega, by show 80 < 65536; omega, hs, onw_lt _ _, by show 16 < 32; omega, by show 0 < 65536; omega, by show d.size ≤ 360; omega⟩

def chP (p : Nat) (L : List Sg) : Nat := L.foldl (fun q g => onw q g.data.size) p
def chD (L : List Sg) : ByteArray := L.foldl (fun s g => s ++ g.data) ⟨#[]⟩
theorem chP_succ (p : Nat) (L : List Sg) (k : Nat) (h : k < L.length) : chP p (L.take (k + 1)) = onw (chP p (L.take k)) L[k].data.size := by
  rw [List.take_succ_eq_append_getElem h, chP, List.foldl_append]; rfl
theorem chD_succ (L : List Sg) (k : Nat) (h : k < L.length) : chD (L.take (k + 1)) = chD (L.take k) ++ L[k].data := by
  rw [List.take_succ_eq_append_getElem h, chD, List.foldl_append]; rfl
structure Chain (L : List Sg) (p : Nat) (r : ByteArray) : Prop where
  seq : ∀ k (h : k < L.length), L[k].seq = chP p (L.take k) ∧ L[k].data.size ≤ 200
  got : chD L = r
  place : chP p L = onw p r.size
  one : 1 ≤ L.length
  three : L.length ≤ 3
  last : ∀ (h : L.length - 1 < L.length), L[L.length - 1].flags = 17
theorem pieces_chain (c : Cn) (p : Nat) (r : ByteArray) (hp : p < 4294967296) (hr : r.size ≤ 400) : Chain (piecesC c p r) p r := by
  unfold piecesC
  split
  · rename_i h0
    obtain rfl := str_eq0 h0
    exact ⟨fun k h => by obtain rfl : k = 0 := by simpa using h
                         exact ⟨rfl, by show 0 ≤ 200; omega⟩, rfl, rfl, by simp, by simp, fun h => rfl⟩
  split
  · rename_i h0 h2
    refine ⟨fun k h => ?_, ?_, ?_, by simp, by simp, fun h => rfl⟩
    · rcases k with _ | _ | k
      · exact ⟨rfl, h2⟩
      · exact ⟨rfl, by show 0 ≤ 200; omega⟩
      · simp at h; omega
    · show ((⟨#[]⟩ : ByteArray) ++ r) ++ (⟨#[]⟩ : ByteArray) = r
      rw [empty_app, app_empty]
    · show onw (onw p r.size) 0 = onw p r.size
      exact onw_zero _ (onw_lt _ _)
  · rename_i h0 h2
    have s1 : (r.extract 0 200).size = 200 := by rw [ByteArray.size_extract]; omega
    have s2 : (r.extract 200 r.size).size = r.size - 200 := by rw [ByteArray.size_extract]; omega
    refine ⟨fun k h => ?_, ?_, ?_, by simp, by simp, fun h => rfl⟩
    · rcases k with _ | _ | _ | k
      · exact ⟨rfl, by show (r.extract 0 200).size ≤ 200; omega⟩
      · exact ⟨by show onw p 200 = onw p (r.extract 0 200).size; rw [s1], by show (r.extract 200 r.size).size ≤ 200; omega⟩
      · exact ⟨by show onw (onw p 200) (r.size - 200) = onw (onw p (r.extract 0 200).size) (r.extract 200 r.size).size; rw [s1, s2], by show 0 ≤ 200; omega⟩
      · simp at h; omega
    · show (((⟨#[]⟩ : ByteArray) ++ r.extract 0 200) ++ r.extract 200 r.size) ++ (⟨#[]⟩ : ByteArray) = r
      rw [empty_app, app_empty, ByteArray.extract_append_extract, show min 0 200 = 0 by omega, show max 200 r.size = r.size by omega, ByteArray.extract_zero_size]
    · show onw (onw (onw p (r.extract 0 200).size) (r.extract 200 r.size).size) 0 = onw p r.size
      rw [s1, s2, onw_zero _ (onw_lt _ _), onw_onw, show 200 + (r.size - 200) = r.size by omega]

theorem SeqLess_ok (a b : Nat) (ha : a < 4294967296) (hb : b < 4294967296) (h : bhd b a = 5) (w : World) :
    Calls Try.prog 31 #[.int .i64 a, .int .i64 b] w fun e w' => e = .returned (.tuple #[.bool true, .int .i64 0]) ∧ w = w' := by
  have HK := Lib.hid (And.intro ha (And.intro hb h))
  clear ha hb h
  go_enter Try.func31, Try.ntmps31
  go_wp2_with fail
  refine (isAddress_ok a HK.out.1 _).mono ?_
  rintro e w1 ⟨rfl, rfl⟩
  go_wp2_with fail
  refine (isAddress_ok b HK.out.2.1 _).mono ?_
  rintro e w1 ⟨rfl, rfl⟩
  go_wp2_with fail
  refine (behind_is b a 5 HK.out.2.1 HK.out.1 HK.out.2.2 _).mono ?_
  rintro e w1 ⟨rfl, rfl⟩
  go_wp2_with fail
  refine (within_ok _ _ _ _).mono ?_
  rintro e w1 ⟨rfl, rfl⟩
  go_wp2_with fail
  go_ret2
  exact ⟨rfl, rfl⟩
end Go.Proofs.Ytdenjmdngmmodaa
