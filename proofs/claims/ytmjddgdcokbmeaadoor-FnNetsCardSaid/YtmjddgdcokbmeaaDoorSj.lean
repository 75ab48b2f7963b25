/- Plain laws of texts: parts joined and cut again, digits read again. No condition. -/
import Derived.Test.YtmjddgdcokbmeaaDoorLib
import Derived.Lib.Split
import Derived.Lib.SplitLaws
import Derived.Lib.IndexBytes
import Derived.Lib.IndexLaws
import Derived.Lib.Join
import Derived.Lib.Atoi
import Derived.Lib.ItoaNum
namespace Go.Proofs.YtmjddgdcokbmeaaDoor
open Go.RowKit
set_option linter.unusedVariables false
set_option linter.unusedSimpArgs false

/-- Parts with a byte between. -/
def joinC (c : UInt8) : List (List UInt8) → List UInt8
  | [] => []
  | [p] => p
  | p :: q :: r => p ++ c :: joinC c (q :: r)
theorem join_eq (c : UInt8) (ps : List (List UInt8)) : Lib.join ps [c] = joinC c ps := by
  unfold Lib.join
  induction ps with
  | nil => simp [joinC, List.intercalate]
  | cons p r ih =>
    cases r with
    | nil => simp [joinC, List.intercalate]
    | cons q r =>
      have : [c].intercalate (p :: q :: r) = p ++ [c] ++ [c].intercalate (q :: r) := by simp [List.intercalate, List.intersperse, List.flatten]
      rw [this, ih]
      simp [joinC]
theorem indexByte_none' (c : UInt8) (p : List UInt8) (h : c ∉ p) : Lib.indexByte p c = -1 := by
  induction p with
  | nil => rfl
  | cons b l ih =>
    have hb : (b == c) = false := beq_eq_false_iff_ne.2 fun e => h (e ▸ List.mem_cons_self)
    unfold Lib.indexByte
    rw [hb, ih fun hm => h (List.mem_cons_of_mem _ hm)]
    rfl
theorem indexByte_at (c : UInt8) (p r : List UInt8) (h : c ∉ p) : Lib.indexByte (p ++ c :: r) c = p.length := by
  induction p with
  | nil => simp [Lib.indexByte]
  | cons b l ih =>
    have hb : (b == c) = false := beq_eq_false_iff_ne.2 fun e => h (e ▸ List.mem_cons_self)
    have := ih fun hm => h (List.mem_cons_of_mem _ hm)
    simp only [List.cons_append, Lib.indexByte, hb]
    rw [this]
    have e : ((l.length : Int) == -1) = false := beq_eq_false_iff_ne.2 (by omega)
    simp [e]
theorem splitK_join (c : UInt8) (ps : List (List UInt8)) (hne : ps ≠ []) (h : ∀ p ∈ ps, c ∉ p) : Lib.splitK [c] 0 (Lib.count (joinC c ps) [c]) (joinC c ps) = ps := by
  induction ps with
  | nil => exact absurd rfl hne
  | cons p r ih =>
    have hp := h p List.mem_cons_self
    cases r with
    | nil =>
      have : Lib.index p [c] = -1 := by rw [Lib.index_one]; exact indexByte_none' c p hp
      simp only [joinC]
      rw [Lib.count_miss this]
      rfl
    | cons q r =>
      have hi : Lib.index (p ++ c :: joinC c (q :: r)) [c] = p.length := by rw [Lib.index_one]; exact indexByte_at c p _ hp
      have e := ih (by simp) fun x hx => h x (List.mem_cons_of_mem _ hx)
      have hd : (p ++ c :: joinC c (q :: r)).drop (p.length + [c].length) = joinC c (q :: r) := by
        rw [List.length_singleton, show p ++ c :: joinC c (q :: r) = (p ++ [c]) ++ joinC c (q :: r) by simp, List.drop_left' (by simp)]
      simp only [joinC]
      rw [Lib.count_hit (by simp) hi, hd, Nat.add_comm, Lib.splitK, hi]
      have e2 : ((p.length : Int) == -1) = false := beq_eq_false_iff_ne.2 (by omega)
      rw [e2]
      simp only [Int.toNat_natCast, Nat.add_zero, Bool.false_eq_true, if_false]
      rw [hd, e, List.take_left' rfl]
theorem data_inj {l m : List ByteArray} (h : l.map (·.data.toList) = m.map (·.data.toList)) : l = m := by
  induction l generalizing m with
  | nil => cases m with
    | nil => rfl
    | cons b m => simp at h
  | cons a l ih => cases m with
    | nil => simp at h
    | cons b m =>
      simp only [List.map_cons, List.cons.injEq] at h
      rw [ih h.2, ByteArray.ext (Array.toList_inj.1 h.1)]
theorem bstr_data (l : List UInt8) : (bstr l).data.toList = l := by simp [bstr]
/-- Texts with a byte between. -/
def joinS (c : UInt8) (ss : List ByteArray) : ByteArray := bstr (joinC c (ss.map (·.data.toList)))
theorem splitB_join (c : UInt8) (ss : List ByteArray) (hne : ss ≠ []) (h : ∀ s ∈ ss, c ∉ s.data.toList) : Lib.splitB ⟨#[c]⟩ 0 (Lib.countB (joinS c ss) ⟨#[c]⟩) (joinS c ss) = ss := by
  refine data_inj ?_
  rw [Lib.splitB_data]
  have e : (joinS c ss).data.toList = joinC c (ss.map (·.data.toList)) := bstr_data _
  have e2 : Lib.countB (joinS c ss) ⟨#[c]⟩ = Lib.count (joinC c (ss.map (·.data.toList))) [c] := by unfold Lib.countB; rw [e]
  rw [e, e2]
  refine splitK_join c _ (by simpa using hne) fun p hp => ?_
  obtain ⟨s, hs, rfl⟩ := List.mem_map.1 hp
  exact h s hs
theorem countB_join (c : UInt8) (ss : List ByteArray) (hne : ss ≠ []) (h : ∀ s ∈ ss, c ∉ s.data.toList) : Lib.countB (joinS c ss) ⟨#[c]⟩ + 1 = ss.length := by
  have e := splitB_join c ss hne h
  have e1 : ∀ (n : Nat) (ps : List (List UInt8)), ps.length = n → ps ≠ [] → (∀ p ∈ ps, c ∉ p) → Lib.count (joinC c ps) [c] + 1 = n := by
    intro n
    induction n with
    | zero => intro ps hl hn; exact absurd (List.length_eq_zero_iff.1 hl) hn
    | succ n ih =>
      intro ps hl hn hp
      match ps, hl with
      | [p], hl =>
        have : Lib.index p [c] = -1 := by rw [Lib.index_one]; exact indexByte_none' c p (hp p (by simp))
        simp only [joinC]
        rw [Lib.count_miss this]
        simpa using hl
      | p :: q :: r, hl =>
        have hi : Lib.index (p ++ c :: joinC c (q :: r)) [c] = p.length := by rw [Lib.index_one]; exact indexByte_at c p _ (hp p (by simp))
        have hd : (p ++ c :: joinC c (q :: r)).drop (p.length + [c].length) = joinC c (q :: r) := by
          rw [List.length_singleton, show p ++ c :: joinC c (q :: r) = (p ++ [c]) ++ joinC c (q :: r) by simp, List.drop_left' (by simp)]
        simp only [joinC]
        rw [Lib.count_hit (by simp) hi, hd]
        have := ih (q :: r) (by simpa using hl) (by simp) fun x hx => hp x (by simp at hx ⊢; right; exact hx)
        omega
  have e2 : Lib.countB (joinS c ss) ⟨#[c]⟩ = Lib.count (joinC c (ss.map (·.data.toList))) [c] := by unfold Lib.countB joinS; rw [bstr_data]
  rw [e2]
  have := e1 ss.length (ss.map (·.data.toList)) (by simp) (by simpa using hne) fun p hp => by
    obtain ⟨s, hs, rfl⟩ := List.mem_map.1 hp
    exact h s hs
  exact this

/- Digits. -/
theorem dec_digit (n : Nat) : ∀ b ∈ Lib.decDigits n, 48 ≤ b.toNat ∧ b.toNat ≤ 57 := by
  induction n using Nat.strongRecOn with
  | _ n ih =>
    intro b hb
    rw [Lib.decDigits] at hb
    split at hb
    · rw [List.mem_singleton] at hb; subst hb
      simp only [UInt8.toNat_ofNat']; omega
    · rcases List.mem_append.1 hb with hb | hb
      · exact ih _ (by omega) b hb
      · rw [List.mem_singleton] at hb; subst hb
        simp only [UInt8.toNat_ofNat']; omega
theorem dec_ne (n : Nat) : Lib.decDigits n ≠ [] := by
  rw [Lib.decDigits]
  split <;> simp
theorem dec_len (k : Nat) : ∀ n : Nat, n < 10 ^ (k + 1) → (Lib.decDigits n).length ≤ k + 1 := by
  induction k with
  | zero => intro n hn; rw [Lib.decDigits, dif_pos (by simpa using hn)]; simp
  | succ k ih =>
    intro n hn
    rw [Lib.decDigits]
    split
    · simp
    · have := ih (n / 10) (by rw [Nat.pow_succ] at hn; omega)
      simp only [List.length_append, List.length_singleton]; omega
theorem decFrom_app (l m : List UInt8) : ∀ acc, Lib.decFrom acc (l ++ m) = (Lib.decFrom acc l).bind fun a => Lib.decFrom a m := by
  induction l with
  | nil => intro acc; rfl
  | cons b r ih =>
    intro acc
    simp only [List.cons_append, Lib.decFrom]
    cases Lib.digitVal b with
    | none => rfl
    | some d => exact ih _
theorem digitVal_of (d : Nat) (h : d < 10) : Lib.digitVal (UInt8.ofNat (48 + d)) = some d := by
  unfold Lib.digitVal
  have : (UInt8.ofNat (48 + d)).toNat = 48 + d := by simp only [UInt8.toNat_ofNat']; omega
  rw [this, if_pos (by omega)]
  congr 1
  omega
theorem decFrom_dec (n : Nat) : Lib.decFrom 0 (Lib.decDigits n) = some n := by
  induction n using Nat.strongRecOn with
  | _ n ih =>
    rw [Lib.decDigits]
    split
    · simp only [Lib.decFrom, digitVal_of n (by assumption)]
      simp
    · rw [decFrom_app, ih _ (by omega)]
      simp only [Option.bind_some, Lib.decFrom, digitVal_of (n % 10) (Nat.mod_lt _ (by omega))]
      congr 1
      omega
theorem atoi_dec (n : Nat) : Lib.atoi (Lib.decDigits n) = some (n : Int) := by
  have hn := dec_ne n
  have hd := dec_digit n
  have hf := decFrom_dec n
  obtain ⟨b, r, e⟩ := List.exists_cons_of_ne_nil hn
  rw [e] at hd hf ⊢
  have hb := hd b List.mem_cons_self
  have h1 : (b == 45) = false := beq_eq_false_iff_ne.2 fun h => by rw [h] at hb; revert hb; decide
  have h2 : (b == 43) = false := beq_eq_false_iff_ne.2 fun h => by rw [h] at hb; revert hb; decide
  unfold Lib.atoi
  simp only [h1, h2, Bool.false_eq_true, if_false]
  unfold Lib.decNat
  rw [hf]
  simp
theorem trim_dec (n : Nat) : Lib.trimPrefix (Lib.decDigits n) [45] = Lib.decDigits n := by
  have hn := dec_ne n
  have hd := dec_digit n
  obtain ⟨b, r, e⟩ := List.exists_cons_of_ne_nil hn
  rw [e] at hd ⊢
  have hb := hd b List.mem_cons_self
  have h1 : ((45 : UInt8) == b) = false := beq_eq_false_iff_ne.2 fun h => by rw [← h] at hb; revert hb; decide
  unfold Lib.trimPrefix Lib.hasPrefix
  simp [List.isPrefixOf, h1]
theorem dec_nodot (n : Nat) (c : UInt8) (hc : c.toNat < 48 ∨ 57 < c.toNat) : c ∉ Lib.decDigits n := fun h => by
  have := dec_digit n c h
  omega
end Go.Proofs.YtmjddgdcokbmeaaDoor
