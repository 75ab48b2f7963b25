/- Packets: what is read of what was written, and of what was turned. -/
import Derived.Test.YtdenjmdngmmodaaPkD
import Derived.Test.YtdenjmdngmmodaaFnFr
namespace Go.Proofs.Ytdenjmdngmmodaa
open Go.RowKit
set_option linter.unusedVariables false
set_option linter.unusedSimpArgs false
set_option maxRecDepth 20000
set_option maxHeartbeats 1000000

theorem f16_full (T : Nat) (h : 0 < T) : f16 (T + (65535 - f16 T)) = 65535 := by
  unfold f16; rw [if_neg (by omega), if_neg (by omega)]; omega
theorem ws_beN (c : Nat) (h : c < 65536) : ws true (beN c 2) = c := by
  show (UInt8.ofNat (c / 256 ^ 1 % 256)).toNat * 256 + ((UInt8.ofNat (c / 256 ^ 0 % 256)).toNat + 0) = c
  simp only [UInt8.toNat_ofNat']
  omega
theorem ws_pkH (s d p t i L : Nat) : ws true (pkH s d p t i L) = ws true (headB s d p t i L) + csum s d p t i L := by
  have hc : csum s d p t i L < 65536 := Nat.lt_of_le_of_lt (Nat.sub_le _ _) (by omega)
  have a1 : ws true (headB s d p t i L) = ws true (pkA p t i L) + ws true (pkR s d) := by
    rw [headB_eq, ws_append, pkA_len]
    show _ + ws true ([0, 0] ++ pkR s d) = _
    rw [ws_append]
    show _ + (0 + ws true (pkR s d)) = _
    omega
  have a2 : ws true (pkH s d p t i L) = ws true (pkA p t i L) + (csum s d p t i L + ws true (pkR s d)) := by
    rw [pkH, ws_append, pkA_len]
    show _ + ws true (beN (csum s d p t i L) 2 ++ pkR s d) = _
    rw [ws_append, ws_beN _ hc, beN_len]
    rfl
  omega
theorem head_pos (s d p t i L : Nat) : 0 < ws true (headB s d p t i L) := by
  show 0 < (69 : UInt8).toNat * 256 + _
  have : (69 : UInt8).toNat = 69 := rfl
  omega
theorem pkH_full (s d p t i L : Nat) : f16 (ws true (pkH s d p t i L)) = 65535 := by rw [ws_pkH]; exact f16_full _ (head_pos s d p t i L)
theorem pkH_eq (s d p t i L : Nat) : pkH s d p t i L = [69, 0] ++ (beN L 2 ++ (beN i 2 ++ ([0, 0] ++ ([UInt8.ofNat t] ++ ([UInt8.ofNat p] ++ (beN (csum s d p t i L) 2 ++ (beN s 4 ++ beN d 4))))))) := by
  simp [pkH, pkA, pkR]
/-- A right packet is read back, whatever stands behind it. -/
theorem rdPk_back (s d p t i : Nat) (b : ByteArray) (h : PacketOK s d p t i b) (tl : List UInt8) (hl : 20 + b.size + tl.length ≤ 400) : rdPk (packetB s d p t i b ++ tl) = (⟨s, d, p, t, i, sb b⟩, 0) := by
  obtain ⟨h1, h2, h3, h4, h5, h6⟩ := h
  obtain ⟨L, hL⟩ : ∃ L : Nat, L = 20 + b.size := ⟨_, rfl⟩
  have hlen : (packetB s d p t i b ++ tl).length = 20 + b.size + tl.length := by rw [List.length_append, packetB, List.length_append, pkH_len, sb_len]
  have e0 : packetB s d p t i b ++ tl = pkH s d p t i L ++ (sb b ++ tl) := by rw [packetB, hL, List.append_assoc]
  generalize hbs : packetB s d p t i b ++ tl = bs at *
  have d0 : bs = [69, 0] ++ (beN L 2 ++ (beN i 2 ++ ([0, 0] ++ ([UInt8.ofNat t] ++ ([UInt8.ofNat p] ++ (beN (csum s d p t i L) 2 ++ (beN s 4 ++ (beN d 4 ++ (sb b ++ tl))))))))) := by rw [e0, pkH_eq]; simp only [List.append_assoc]
  have d2 : bs.drop 2 = beN L 2 ++ (beN i 2 ++ ([0, 0] ++ ([UInt8.ofNat t] ++ ([UInt8.ofNat p] ++ (beN (csum s d p t i L) 2 ++ (beN s 4 ++ (beN d 4 ++ (sb b ++ tl)))))))) := by rw [d0]; rfl
  have d4 : bs.drop 4 = beN i 2 ++ ([0, 0] ++ ([UInt8.ofNat t] ++ ([UInt8.ofNat p] ++ (beN (csum s d p t i L) 2 ++ (beN s 4 ++ (beN d 4 ++ (sb b ++ tl))))))) := by rw [show 4 = 2 + 2 from rfl, ← List.drop_drop, d2, drop_app (beN_len L 2)]
  have d6 : bs.drop 6 = [0, 0] ++ ([UInt8.ofNat t] ++ ([UInt8.ofNat p] ++ (beN (csum s d p t i L) 2 ++ (beN s 4 ++ (beN d 4 ++ (sb b ++ tl)))))) := by rw [show 6 = 4 + 2 from rfl, ← List.drop_drop, d4, drop_app (beN_len i 2)]
  have d8 : bs.drop 8 = [UInt8.ofNat t] ++ ([UInt8.ofNat p] ++ (beN (csum s d p t i L) 2 ++ (beN s 4 ++ (beN d 4 ++ (sb b ++ tl))))) := by rw [show 8 = 6 + 2 from rfl, ← List.drop_drop, d6]; rfl
  have d9 : bs.drop 9 = [UInt8.ofNat p] ++ (beN (csum s d p t i L) 2 ++ (beN s 4 ++ (beN d 4 ++ (sb b ++ tl)))) := by rw [show 9 = 8 + 1 from rfl, ← List.drop_drop, d8]; rfl
  have d10 : bs.drop 10 = beN (csum s d p t i L) 2 ++ (beN s 4 ++ (beN d 4 ++ (sb b ++ tl))) := by rw [show 10 = 9 + 1 from rfl, ← List.drop_drop, d9]; rfl
  have d12 : bs.drop 12 = beN s 4 ++ (beN d 4 ++ (sb b ++ tl)) := by rw [show 12 = 10 + 2 from rfl, ← List.drop_drop, d10, drop_app (beN_len _ 2)]
  have d16 : bs.drop 16 = beN d 4 ++ (sb b ++ tl) := by rw [show 16 = 12 + 4 from rfl, ← List.drop_drop, d12, drop_app (beN_len _ 4)]
  have d20 : bs.drop 20 = sb b ++ tl := by rw [show 20 = 16 + 4 from rfl, ← List.drop_drop, d16, drop_app (beN_len _ 4)]
  have t20 : bs.take 20 = pkH s d p t i L := by rw [e0, take_app (pkH_len s d p t i L)]
  have nL : numL ((bs.drop 2).take 2) = L := by rw [d2, take_app (beN_len L 2), numL_beN]; omega
  have n6 : numL ((bs.drop 6).take 2) = 0 := by rw [d6]; rfl
  have g0 : (bs.getD 0 0).toNat = 69 := by rw [d0]; rfl
  have g8 : (bs.getD 8 0).toNat = t := by
    have : bs.getD 8 0 = (bs.drop 8).getD 0 0 := by simp [List.getD, List.getElem?_drop]
    rw [this, d8]; show (UInt8.ofNat t).toNat = t; simp only [UInt8.toNat_ofNat']; omega
  have g9 : (bs.getD 9 0).toNat = p := by
    have : bs.getD 9 0 = (bs.drop 9).getD 0 0 := by simp [List.getD, List.getElem?_drop]
    rw [this, d9]; show (UInt8.ofNat p).toNat = p; simp only [UInt8.toNat_ofNat']; omega
  have hpk : pkOf bs = ⟨s, d, p, t, i, sb b⟩ := by
    unfold pkOf
    rw [d12, take_app (beN_len s 4), d16, take_app (beN_len d 4), g8, g9, d4, take_app (beN_len i 2), nL, d20, take_app (show (sb b).length = L - 20 by rw [sb_len]; omega), numL_beN, numL_beN, numL_beN]
    congr 1
    · omega
    · omega
    · omega
  rw [rdPk, nL, n6, t20, g0, pkH_full, if_pos ⟨by omega, by omega, rfl, by omega, by omega⟩, if_pos rfl, if_pos rfl, hpk]
/-- A head with one bit turned is none. -/
theorem xor_bit : ∀ x : Fin 256, ∀ k : Fin 8, (x.val ^^^ 2 ^ k.val = x.val + 2 ^ k.val ∨ (x.val ^^^ 2 ^ k.val) + 2 ^ k.val = x.val) ∧ x.val ^^^ 2 ^ k.val < 256 := by decide +kernel
def wt : Bool → Nat → Nat
  | true, 0 => 256
  | false, 0 => 1
  | true, j + 1 => wt false j
  | false, j + 1 => wt true j
theorem wt_or : ∀ (j : Nat) (p : Bool), wt p j = 256 ∨ wt p j = 1
  | 0, true => Or.inl rfl
  | 0, false => Or.inr rfl
  | j + 1, true => wt_or j false
  | j + 1, false => wt_or j true
theorem ws_set : ∀ (l : List UInt8) (p : Bool) (j : Nat) (h : j < l.length) (y : UInt8), ws p (l.set j y) + l[j].toNat * wt p j = ws p l + y.toNat * wt p j
  | b :: t, true, 0, _, y => by
    show y.toNat * 256 + ws false t + b.toNat * 256 = b.toNat * 256 + ws false t + y.toNat * 256
    omega
  | b :: t, false, 0, _, y => by
    show y.toNat + ws true t + b.toNat * 1 = b.toNat + ws true t + y.toNat * 1
    omega
  | b :: t, true, j + 1, h, y => by
    have := ws_set t false j (by simpa using h) y
    show b.toNat * 256 + ws false (t.set j y) + (t[j]'(by simpa using h)).toNat * wt false j = b.toNat * 256 + ws false t + y.toNat * wt false j
    omega
  | b :: t, false, j + 1, h, y => by
    have := ws_set t true j (by simpa using h) y
    show b.toNat + ws true (t.set j y) + (t[j]'(by simpa using h)).toNat * wt true j = b.toNat + ws true t + y.toNat * wt true j
    omega
theorem rdPk_turned (bs : List UInt8) (hl : 20 ≤ bs.length) (hfull : f16 (ws true (bs.take 20)) = 65535) (j : Nat) (hj : j < 20) (k : Nat) (hk : k < 8) (y : UInt8) (hy : y.toNat = (bs[j]'(by omega)).toNat ^^^ 2 ^ k) : (rdPk (bs.set j y)).2 ≠ 0 := by
  have ht : (bs.set j y).take 20 = (bs.take 20).set j y := by rw [List.take_set]
  have hs := ws_set (bs.take 20) true j (by rw [List.length_take]; omega) y
  have hx := (xor_bit ⟨(bs[j]'(by omega)).toNat, (bs[j]'(by omega)).toNat_lt⟩ ⟨k, hk⟩).1
  simp only at hx
  rw [← hy] at hx
  rw [List.getElem_take] at hs
  have hD : 1 ≤ 2 ^ k ∧ 2 ^ k ≤ 128 := ⟨Nat.one_le_two_pow, by have := Nat.pow_le_pow_right (show 1 ≤ 2 by omega) (show k ≤ 7 by omega); omega⟩
  have hne : f16 (ws true ((bs.set j y).take 20)) ≠ 65535 := by
    rw [ht]
    unfold f16 at hfull ⊢
    generalize ws true (bs.take 20) = T at *
    generalize ws true ((bs.take 20).set j y) = T' at *
    generalize 2 ^ k = D at *
    intro h
    rcases wt_or j true with hw | hw <;> rw [hw] at hs <;> split at hfull <;> split at h <;> omega
  unfold rdPk
  rw [if_neg hne]
  split <;> decide
theorem rdPk_cut (bs : List UInt8) (r : Nat) (hr : r < bs.length) (hL : numL ((bs.drop 2).take 2) = bs.length) : (rdPk (bs.take r)).2 ≠ 0 := by
  by_cases h : 20 ≤ r
  · have e : ((bs.take r).drop 2).take 2 = (bs.drop 2).take 2 := by rw [List.drop_take, List.take_take, Nat.min_eq_left (by omega)]
    unfold rdPk
    rw [e, hL, List.length_take, if_neg (by omega)]
    decide
  · unfold rdPk
    rw [List.length_take, if_neg (by omega)]
    decide
theorem packetB_num (s d p t i : Nat) (b : ByteArray) (hb : b.size ≤ 380) : numL (((packetB s d p t i b).drop 2).take 2) = (packetB s d p t i b).length := by
  have hl : (packetB s d p t i b).length = 20 + b.size := by simp [packetB, pkH_len, sb_len]
  have e : (packetB s d p t i b).drop 2 = beN (20 + b.size) 2 ++ (beN i 2 ++ ([0, 0] ++ ([UInt8.ofNat t] ++ ([UInt8.ofNat p] ++ (beN (csum s d p t i (20 + b.size)) 2 ++ (beN s 4 ++ beN d 4)))))) ++ sb b := by rw [packetB, pkH_eq]; rfl
  rw [e, hl, List.append_assoc, take_app (beN_len _ 2), numL_beN]
  omega
theorem packetB_full (s d p t i : Nat) (b : ByteArray) : f16 (ws true ((packetB s d p t i b).take 20)) = 65535 := by
  rw [packetB, take_app (pkH_len s d p t i _), pkH_full]
end Go.Proofs.Ytdenjmdngmmodaa
