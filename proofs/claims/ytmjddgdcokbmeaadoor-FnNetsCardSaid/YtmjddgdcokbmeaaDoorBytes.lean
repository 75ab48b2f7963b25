/- Numbers as bytes and back. -/
import Derived.Test.YtmjddgdcokbmeaaDoorBytA
namespace Go.Proofs.YtmjddgdcokbmeaaDoor
open Go.RowKit
set_option linter.unusedVariables false
set_option linter.unusedSimpArgs false
set_option maxRecDepth 20000
set_option maxHeartbeats 1000000

/-- The k low bytes of n, the higher ones first. -/
def beN (n : Nat) : Nat → List UInt8
  | 0 => []
  | k + 1 => UInt8.ofNat (n / 256 ^ k % 256) :: beN n k
theorem beN_len (n k : Nat) : (beN n k).length = k := by induction k with
  | zero => rfl
  | succ k ih => simp [beN, ih]
/-- The number of bytes. -/
def numL (bs : List UInt8) : Nat := bs.foldl (fun n c => n * 256 + c.toNat) 0
theorem foldl_num (bs : List UInt8) : ∀ a : Nat, bs.foldl (fun n c => n * 256 + c.toNat) a = a * 256 ^ bs.length + numL bs := by
  induction bs with
  | nil => intro a; simp [numL]
  | cons c t ih =>
    intro a
    simp only [List.foldl_cons, numL]
    rw [ih, ih]
    simp only [List.length_cons, Nat.pow_succ, Nat.zero_mul, Nat.zero_add]
    rw [Nat.add_mul, Nat.mul_assoc, Nat.mul_comm 256 (256 ^ t.length)]
    omega
theorem numL_cons (c : UInt8) (t : List UInt8) : numL (c :: t) = c.toNat * 256 ^ t.length + numL t := by
  show (c :: t).foldl _ 0 = _
  rw [List.foldl_cons, foldl_num]
  simp
theorem numL_append (s t : List UInt8) : numL (s ++ t) = numL s * 256 ^ t.length + numL t := by
  unfold numL
  rw [List.foldl_append, foldl_num]
  rfl
theorem numL_snoc (s : List UInt8) (c : UInt8) : numL (s ++ [c]) = numL s * 256 + c.toNat := by
  rw [numL_append]; simp [numL]
theorem numL_lt (bs : List UInt8) : numL bs < 256 ^ bs.length := by
  induction bs with
  | nil => simp [numL]
  | cons c t ih =>
    rw [numL_cons, List.length_cons, Nat.pow_succ]
    have := c.toNat_lt
    have h2 : c.toNat * 256 ^ t.length ≤ 255 * 256 ^ t.length := Nat.mul_le_mul_right _ (by omega)
    omega
theorem numL_beN (n : Nat) : ∀ k, numL (beN n k) = n % 256 ^ k
  | 0 => by simp [beN, numL, Nat.mod_one]
  | k + 1 => by
    rw [beN, numL_cons, beN_len, numL_beN n k]
    have h1 : (UInt8.ofNat (n / 256 ^ k % 256)).toNat = n / 256 ^ k % 256 := by simp
    rw [h1, Nat.pow_succ, Nat.mod_mul, Nat.mul_comm (256 ^ k)]
    omega

theorem shr_byte (n k : Nat) : (n : Int) / 2 ^ (8 * k) % 256 = ((UInt8.ofNat (n / 256 ^ k % 256)).toNat : Int) := by
  rw [show (256 : Nat) ^ k = 2 ^ (8 * k) by rw [Nat.pow_mul]]
  simp
theorem set_rep (m : Nat) (L : List Value) (z x : Value) : (List.replicate (m + 1) z ++ L).set m x = List.replicate m z ++ x :: L := by
  rw [List.replicate_succ', List.append_assoc, List.set_append_right _ _ (by simp)]
  simp

/-- be(n, size): a new row of these bytes. -/
theorem be_ok (n size : Nat) (w : World) (hn : n < 9223372036854775808) (hs : size ≤ 8) :
    Calls Tryd.prog 45 #[.int .i64 n, .int .i64 size] w fun e w' => e = .returned (.slice (some ⟨w.heap.size, 0, none⟩) size size) ∧ w'.heap[w.heap.size]? = some (.cells ((beN n size).map bV).toArray 5 (0, 0)) ∧ Below w.heap.size w w' := by
  have hmk := make_bytes size (by omega)
  go_enter Tryd.func45, Tryd.ntmps45
  go_wp2
  generalize hW : w.alloc _ = W
  have hb : W.heap[w.heap.size]? = some (.cells (List.replicate size (Value.int .u8 0)).toArray 5 (0, 0)) := by rw [← hW]; exact heap_alloc_new _ _
  have hB : Below w.heap.size w W := by rw [← hW]; exact (Below.refl _ _).alloc (Nat.le_refl _) _
  have HW := Lib.hid hW
  have Hb := Lib.hid hb
  clear hW hb hmk
  go_loopw [11] (fun i wr => ∃ k : Nat, k ≤ size ∧ i = .int .i64 k ∧ wr.heap[w.heap.size]? = some (.cells ((List.replicate (size - k) (Value.int .u8 0)) ++ (beN n k).map bV).toArray 5 (0, 0)) ∧ Below w.heap.size w wr) (fun i _ => size - (intOf i).toNat)
  case atStart => exact ⟨0, Nat.zero_le _, rfl, by simpa [beN] using Hb.out, hB⟩
  case round =>
    obtain ⟨k, hk, rfl, hb, hB⟩ := hrel
    have cell := blk_cell hb
    have free := blk_free hb
    have Hb := Lib.hid hb
    have HB := Lib.hid hB
    clear hb hB
    by_cases hlt : k < size
    · obtain ⟨m, hm⟩ : ∃ m, size = k + 1 + m := ⟨size - (k + 1), by omega⟩
      have c1 : wr.cell? ⟨w.heap.size, m, none⟩ = some (.int .u8 0) := by rw [cell, List.getElem?_toArray, List.getElem?_append_left (by rw [List.length_replicate]; omega), List.getElem?_replicate, if_pos (by omega)]
      have f1 := free m
      have e1 : ((size : Int) - 1 - k).toNat = m := by omega
      have Hm := Lib.hid hm
      have h1 : (0 : Int) ≤ (size : Int) - 1 - k := by omega
      have h2 : (size : Int) - 1 - k < size := by omega
      have h3 : (k : Int) < size := by omega
      clear cell free hm
      go_wp2
      go_roundw
      case rel =>
        refine ⟨k + 1, by omega, by go_num, ?_, HB.out.setCell (Nat.le_refl _) _⟩
        have := blk_set Hb.out m (.int .u8 ((UInt8.ofNat (n / 256 ^ k % 256)).toNat : Int))
        rw [shr_byte, this, List.setIfInBounds_toArray, show size - k = m + 1 by have := Hm.out; omega, show size - (k + 1) = m by have := Hm.out; omega, set_rep]
        rfl
      case measure => simp [intOf]; omega
    · obtain rfl : k = size := by omega
      clear cell free
      go_wp2
      go_ret
      exact ⟨rfl, by simpa using Hb.out, HB.out⟩

/-- num(b): the number of the bytes. -/
theorem num_ok (A : Option Addr) (c : Nat) (bs : List UInt8) (hl : bs.length ≤ 7) (w : World) (hr : Rd w A (bs.map bV)) :
    Calls Tryd.prog 64 #[.slice A bs.length c] w fun e w' => e = .returned (.int .i64 (numL bs)) ∧ w = w' := by
  go_enter Tryd.func64, Tryd.ntmps64
  go_wp2
  go_loop [3, 8] (fun n i => ∃ k : Nat, k ≤ bs.length ∧ i = .int .i64 k ∧ n = .int .i64 (numL (bs.take k))) (fun _ i => bs.length - (intOf i).toNat)
  case atStart => exact ⟨0, Nat.zero_le _, rfl, rfl⟩
  case round =>
    obtain ⟨k, hk, rfl, rfl⟩ := hrel
    have hb1 : numL (bs.take k) < 256 ^ 6 ∨ k = bs.length := by
      by_cases h : k = bs.length
      · exact .inr h
      · refine .inl (Nat.lt_of_lt_of_le (numL_lt _) (Nat.pow_le_pow_right (by omega) ?_))
        rw [List.length_take]; omega
    by_cases hlt : k < bs.length
    · obtain ⟨ad, rfl, hc⟩ := hr.at_ (k := k) (by simpa using hlt)
      have hc' : w.cell? (ad.add k) = some (.int .u8 (bs[k].toNat : Int)) := by rw [hc]; simp [bV]
      have hs : numL (bs.take (k + 1)) = numL (bs.take k) * 256 + bs[k].toNat := by rw [List.take_succ_eq_append_getElem hlt, numL_snoc]
      have hu := bs[k].toNat_lt
      have hu1 : (bs[k].toNat : Int) ≤ 255 := by omega
      have hu0 : (0 : Int) ≤ (bs[k].toNat : Int) := by omega
      have hb2 : (numL (bs.take k) : Int) ≤ 281474976710656 := by rcases hb1 with h | h <;> omega
      have HS := Lib.hid hs
      have HR := Lib.hid hr
      clear hs hr hb1 hc hu
      have h3 : (k : Int) < bs.length := by omega
      go_wp2
      go_round
      case rel => exact ⟨k + 1, by omega, by go_num, by rw [HS.out]; go_num⟩
      case measure => simp [intOf]; omega
    · obtain rfl : k = bs.length := by omega
      go_wp2
      go_ret
      exact ⟨rfl, rfl⟩

end Go.Proofs.YtmjddgdcokbmeaaDoor
