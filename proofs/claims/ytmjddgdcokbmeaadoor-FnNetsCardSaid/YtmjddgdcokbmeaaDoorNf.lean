/- Names: a mac read (impl's ReadMac), as called. -/
import Derived.Test.YtmjddgdcokbmeaaDoorNe
namespace Go.Proofs.YtmjddgdcokbmeaaDoor
open Go.RowKit
set_option linter.unusedVariables false
set_option linter.unusedSimpArgs false
set_option maxRecDepth 200000
set_option maxHeartbeats 4000000

theorem replaceK_join (c : UInt8) (ps : List (List UInt8)) (hne : ps ≠ []) (h : ∀ p ∈ ps, c ∉ p) : Lib.replaceK [c] [] (Lib.count (joinC c ps) [c]) (joinC c ps) = ps.flatten := by
  induction ps with
  | nil => exact absurd rfl hne
  | cons p r ih =>
    have hp := h p List.mem_cons_self
    cases r with
    | nil =>
      have : Lib.index p [c] = -1 := by rw [Lib.index_one]; exact indexByte_none' c p hp
      simp only [joinC]
      rw [Lib.count_miss this]
      simp [Lib.replaceK]
    | cons q r =>
      have hi : Lib.index (p ++ c :: joinC c (q :: r)) [c] = p.length := by rw [Lib.index_one]; exact indexByte_at c p _ hp
      have e := ih (by simp) fun x hx => h x (List.mem_cons_of_mem _ hx)
      have hd : (p ++ c :: joinC c (q :: r)).drop (p.length + [c].length) = joinC c (q :: r) := by
        rw [List.length_singleton, show p ++ c :: joinC c (q :: r) = (p ++ [c]) ++ joinC c (q :: r) by simp, List.drop_left' (by simp)]
      simp only [joinC]
      rw [Lib.count_hit (by simp) hi, hd, Nat.add_comm, Lib.replaceK_hit [c] [] _ _ _ hi, hd, e, List.take_left' rfl]
      simp
theorem replaceAll_join (c : UInt8) (ps : List (List UInt8)) (hne : ps ≠ []) (h : ∀ p ∈ ps, c ∉ p) : Lib.replaceAll (joinC c ps) [c] [] = ps.flatten := by
  unfold Lib.replaceAll Lib.replace Lib.replaceNum
  rw [if_neg (by simp), if_pos (.inl (by decide))]
  exact replaceK_join c ps hne h
theorem hexL_no (x : Nat) (h : x < 16) : hexL[x]! ≠ 58 := by
  have : ∀ x : Fin 16, hexL[x.val]! ≠ 58 := by decide
  exact this ⟨x, h⟩
theorem hex1_no (b : UInt8) : (58 : UInt8) ∉ hex1 b := by
  have hb := b.toNat_lt
  intro hm
  simp only [hex1, List.mem_cons, List.not_mem_nil, or_false] at hm
  rcases hm with h | h
  · exact hexL_no _ (by omega) h.symm
  · exact hexL_no _ (by omega) h.symm
theorem mc_data (l : List UInt8) : (mcText l).data.toList = joinC 58 (l.map hex1) := by
  unfold mcText joinS mcParts
  rw [bstr_data, List.map_map]
  congr 1
theorem flat_hex (l : List UInt8) : (l.map hex1).flatten = hexs l := by simp [hexs, List.flatMap]
/-- A text joined, one byte more behind it: the last part is longer. -/
theorem joinC_snoc (c x : UInt8) (ps : List (List UInt8)) (p : List UInt8) : joinC c (ps ++ [p]) ++ [x] = joinC c (ps ++ [p ++ [x]]) := by
  induction ps with
  | nil => rfl
  | cons q r ih =>
    cases r with
    | nil => simp [joinC]
    | cons q2 r2 =>
      have : joinC c ((q :: q2 :: r2) ++ [p]) = q ++ c :: joinC c ((q2 :: r2) ++ [p]) := rfl
      rw [this]
      have e2 : joinC c ((q :: q2 :: r2) ++ [p ++ [x]]) = q ++ c :: joinC c ((q2 :: r2) ++ [p ++ [x]]) := rfl
      rw [e2, ← ih]
      simp
theorem joinC_more (c : UInt8) (ps : List (List UInt8)) (p : List UInt8) (hne : ps ≠ []) : joinC c ps ++ c :: p = joinC c (ps ++ [p]) := by
  induction ps with
  | nil => exact absurd rfl hne
  | cons q r ih =>
    cases r with
    | nil => rfl
    | cons q2 r2 =>
      have : joinC c (q :: q2 :: r2) = q ++ c :: joinC c (q2 :: r2) := rfl
      rw [this]
      have e2 : joinC c ((q :: q2 :: r2) ++ [p]) = q ++ c :: joinC c ((q2 :: r2) ++ [p]) := rfl
      rw [e2, ← ih (by simp)]
      simp
theorem count_le_len (c : UInt8) (s : List UInt8) : Lib.count s [c] ≤ s.length + 1 := Lib.count_le s [c]
theorem macOK_t (m : ByteArray) (hm : m.size = 6) (w : World) : Calls Tryd.prog 43 #[.string m] w fun e w' => e = .returned (.bool true) ∧ w = w' := by
  have h : (m.size : Int) = 6 := by omega
  clear hm
  go_enter Tryd.func43, Tryd.ntmps43
  go_wp2
  go_ret
  exact ⟨rfl, rfl⟩
theorem MacText_ok (l : List UInt8) (hl : l.length = 6) (w : World) : Calls Tryd.prog 21 #[.string (bstr l)] w fun e w' => e = .returned (.tuple #[.string (mcText l), .int .i64 0]) ∧ LeB w w' := by
  have hs : (bstr l).size = 6 := by rw [bstr_size]; exact hl
  have H := Lib.hid (And.intro (macText_ok l hl) (macOK_t (bstr l) hs))
  obtain ⟨m, hm⟩ : ∃ m, bstr l = m := ⟨_, rfl⟩
  rw [hm] at hs H ⊢
  have hsI : (m.size : Int) ≤ 6 := by omega
  clear hs hm hl
  go_enter Tryd.func21, Tryd.ntmps21
  go_wp2_with fail
  refine (H.out.2 _).mono ?_
  rintro e w1 ⟨rfl, rfl⟩
  go_wp2_with fail
  refine (H.out.1 _).mono ?_
  rintro e w1 ⟨rfl, hB1⟩
  have H1 := Lib.hid hB1
  clear hB1
  go_wp2_with fail
  go_ret2
  exact ⟨rfl, H1.out⟩
theorem ReadMac_ok (l : List UInt8) (hl : l.length = 6) (w : World) (hw : StdW w) : Calls Tryd.prog 23 #[.string (mcText l)] w fun e w' => e = .returned (.tuple #[.string (bstr l), .int .i64 0]) ∧ LeB w w' := by
  have hsz := mcText_size l hl
  have hne : l.map hex1 ≠ [] := by intro e; rw [List.map_eq_nil_iff] at e; rw [e] at hl; cases hl
  have hno : ∀ p ∈ l.map hex1, (58 : UInt8) ∉ p := by intro p hp; obtain ⟨b, _, rfl⟩ := List.mem_map.1 hp; exact hex1_no b
  have hrep := repl_ok (mcText l) ⟨#[58]⟩ ⟨#[]⟩ (by omega) (by show 1 ≤ 1; omega) (by show _ + _ * 0 ≤ _; omega) w hw
  have e1 : Lib.replaceAll (mcText l).data.toList (⟨#[58]⟩ : ByteArray).data.toList (⟨#[]⟩ : ByteArray).data.toList = hexs l ++ [] := by
    rw [mc_data]
    show Lib.replaceAll _ [58] [] = _
    rw [replaceAll_join 58 _ hne hno, flat_hex]
    simp
  rw [e1] at hrep
  have hs6 : (bstr l).size = 6 := by rw [bstr_size]; exact hl
  have H := Lib.hid (And.intro hrep (And.intro (fun W => readHex_ok l [] (by omega) (by simp) (bstr (hexs l ++ [])) rfl true rfl W) (And.intro (macOK_t (bstr l) hs6) (macText_ok l hl))))
  obtain ⟨t, ht⟩ : ∃ t, mcText l = t := ⟨_, rfl⟩
  obtain ⟨x, hx⟩ : ∃ x, bstr (hexs l ++ []) = x := ⟨_, rfl⟩
  obtain ⟨m, hm⟩ : ∃ m, bstr l = m := ⟨_, rfl⟩
  rw [ht, hx, hm] at H
  rw [ht] at hsz ⊢
  rw [hm]
  have hsI : (t.size : Int) ≤ 17 := by omega
  clear hrep e1 hs6 hne hno hsz hw ht hx hm hl
  go_enter Tryd.func23, Tryd.ntmps23
  go_wp2_with fail
  refine H.out.1.mono ?_
  rintro e w1 ⟨rfl, hB1⟩
  have H1 := Lib.hid hB1
  clear hB1
  go_wp2_with fail
  refine (H.out.2.1 w1).mono ?_
  rintro e w2 ⟨rfl, hB2⟩
  have H2 := Lib.hid (LeB.tr H1.out hB2)
  clear hB2
  go_wp2_with fail
  refine (H.out.2.2.1 w2).mono ?_
  rintro e w2' ⟨rfl, rfl⟩
  go_wp2_with fail
  refine (H.out.2.2.2 w2).mono ?_
  rintro e w3 ⟨rfl, hB3⟩
  have H3 := Lib.hid (LeB.tr H2.out hB3)
  clear hB3
  go_wp2_with fail
  go_ret2
  exact ⟨rfl, H3.out⟩
theorem ReadMac_not (l : List UInt8) (hl : l.length = 6) (t : ByteArray) (ht : mcText l ++ ⟨#[48]⟩ = t) (w : World) (hw : StdW w) : Calls Tryd.prog 23 #[.string t] w fun e w' => e = .returned (.tuple #[.string ⟨#[]⟩, .int .i64 3]) ∧ LeB w w' := by
  have hsz := mcText_size l hl
  have hts : t.size = 18 := by rw [← ht, ByteArray.size_append, hsz]; rfl
  obtain ⟨l0, x, hlx⟩ : ∃ l0 x, l = l0 ++ [x] := by
    rcases List.eq_nil_or_concat l with rfl | ⟨l0, x, rfl⟩
    · cases hl
    · exact ⟨l0, x, List.concat_eq_append⟩
  have htd : t.data.toList = joinC 58 (l0.map hex1 ++ [hex1 x ++ [48]]) := by
    rw [← ht, ByteArray.data_append, Array.toList_append, mc_data, hlx, List.map_append, List.map_singleton]
    exact joinC_snoc 58 48 (l0.map hex1) (hex1 x)
  have hno : ∀ p ∈ l0.map hex1 ++ [hex1 x ++ [48]], (58 : UInt8) ∉ p := by
    intro p hp
    rcases List.mem_append.1 hp with hp | hp
    · obtain ⟨b, _, rfl⟩ := List.mem_map.1 hp; exact hex1_no b
    · rw [List.mem_singleton] at hp; subst hp
      intro hm
      rcases List.mem_append.1 hm with hm | hm
      · exact hex1_no x hm
      · simp at hm
  have hrep := repl_ok t ⟨#[58]⟩ ⟨#[]⟩ (by omega) (by show 1 ≤ 1; omega) (by show _ + _ * 0 ≤ _; omega) w hw
  have e1 : Lib.replaceAll t.data.toList (⟨#[58]⟩ : ByteArray).data.toList (⟨#[]⟩ : ByteArray).data.toList = hexs l ++ [48] := by
    rw [htd]
    show Lib.replaceAll _ [58] [] = _
    rw [replaceAll_join 58 _ (by simp) hno, List.flatten_append, flat_hex, hlx]
    simp [hexs]
  rw [e1] at hrep
  have H := Lib.hid (And.intro hrep (fun W => readHex_ok l [48] (by omega) (by simp) (bstr (hexs l ++ [48])) rfl false rfl W))
  obtain ⟨x2, hx2⟩ : ∃ x, bstr (hexs l ++ [48]) = x := ⟨_, rfl⟩
  obtain ⟨m, hm⟩ : ∃ m, bstr l = m := ⟨_, rfl⟩
  rw [hx2, hm] at H
  have hsI : (t.size : Int) ≤ 18 := by omega
  clear hrep e1 hno hsz hw ht hx2 hm hts htd hl hlx
  go_enter Tryd.func23, Tryd.ntmps23
  go_wp2_with fail
  refine H.out.1.mono ?_
  rintro e w1 ⟨rfl, hB1⟩
  have H1 := Lib.hid hB1
  clear hB1
  go_wp2_with fail
  refine (H.out.2 w1).mono ?_
  rintro e w2 ⟨rfl, hB2⟩
  have H2 := Lib.hid (LeB.tr H1.out hB2)
  clear hB2
  go_wp2_with fail
  go_ret2
  exact ⟨rfl, H2.out⟩
end Go.Proofs.YtmjddgdcokbmeaaDoor
