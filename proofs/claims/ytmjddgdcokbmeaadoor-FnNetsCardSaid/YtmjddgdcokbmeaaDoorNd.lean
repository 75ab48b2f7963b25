/- Names: the text of a mac (impl's). -/
import Derived.Test.YtmjddgdcokbmeaaDoorNc
namespace Go.Proofs.YtmjddgdcokbmeaaDoor
open Go.RowKit
set_option linter.unusedVariables false
set_option linter.unusedSimpArgs false
set_option maxRecDepth 200000
set_option maxHeartbeats 4000000

def mcParts (l : List UInt8) : List ByteArray := l.map fun b => bstr (hex1 b)
def mcText (l : List UInt8) : ByteArray := joinS 58 (mcParts l)
theorem extract_one (l : List UInt8) (k : Nat) (hk : k < l.length) : (bstr l).extract k (k + 1) = ⟨#[l[k]]⟩ := by
  apply ByteArray.ext
  simp only [ByteArray.data_extract, bstr]
  apply Array.toList_inj.1
  rw [Array.toList_extract]
  simp only [List.extract_eq_take_drop, Nat.add_sub_cancel_left]
  rw [List.drop_eq_getElem_cons hk]
  rfl
theorem mcText_size (l : List UInt8) (hl : l.length = 6) : (mcText l).size = 17 := by
  match l, hl with
  | [a, b, c, d, e, f], _ =>
    unfold mcText joinS mcParts
    rw [bstr_size]
    simp [joinC, bstr_data, hex1]
theorem macText_ok (l : List UInt8) (hl : l.length = 6) (w : World) : Calls Tryd.prog 59 #[.string (bstr l)] w fun e w' => e = .returned (.string (mcText l)) ∧ LeB w w' := by
  obtain ⟨mac, hmac⟩ : ∃ m, bstr l = m := ⟨_, rfl⟩
  have hms : mac.size = 6 := by rw [← hmac, bstr_size]; exact hl
  have hex : ∀ k (hk : k < l.length), mac.extract k (k + 1) = ⟨#[l[k]]⟩ := fun k hk => by rw [← hmac]; exact extract_one l k hk
  rw [hmac]
  have HE := Lib.hid (And.intro hex hl)
  have hmI : (mac.size : Int) = 6 := by omega
  clear hex hl hmac hms
  go_enter Tryd.func59, Tryd.ntmps59
  go_wp2
  generalize hW : w.alloc _ = W
  have hown : OwnS w.heap.size (.slice (some ⟨w.heap.size, 0, none⟩) 0 0) [] W := by rw [← hW]; exact OwnS.start w
  have hB : LeB w W := by rw [← hW]; exact (Below.refl _ _).alloc (Nat.le_refl _) _
  clear hW
  go_loopw [3, 6] (fun v i wr => ∃ k : Nat, k ≤ 6 ∧ i = .int .i64 k ∧ OwnS w.heap.size v ((mcParts l).take k) wr ∧ LeB w wr) (fun _ i _ => 6 - (intOf i).toNat)
  case atStart => exact ⟨0, by omega, rfl, hown, hB⟩
  case round =>
    obtain ⟨k, hk, rfl, hown, hB⟩ := hrel
    have HO := Lib.hid (And.intro hown hB)
    clear hown hB
    by_cases hlt : k < 6
    · have hltI : (k : Int) < 6 := by omega
      have hkl : k < l.length := by have := HE.out.2; omega
      have he := HE.out.1 k hkl
      have hp : (mcParts l).take (k + 1) = (mcParts l).take k ++ [bstr (hex1 l[k])] := by
        rw [List.take_succ_eq_append_getElem (by unfold mcParts; rw [List.length_map]; exact hkl)]
        simp [mcParts]
      obtain ⟨b, hb⟩ : ∃ b, l[k] = b := ⟨_, rfl⟩
      rw [hb] at he hp
      have HP := Lib.hid hp
      clear hp hb hkl
      have hsl : ∀ W, (Instr.slice 9 (.string mac) (some (.int .i64 (k : Int))) (some (.int .i64 ((k : Int) + 1))) none).run Tryd.prog W = .ok (.string ⟨#[b]⟩) W := fun W => by
        have h := run_slice_string (P := Tryd.prog) (w := W) 9 mac .i64 .i64 (k : Int) ((k : Int) + 1) Tryd.underlying9 (by omega) (by omega) (by omega)
        rw [h]
        have e1 : ((k : Int) + 1).toNat = k + 1 := by omega
        rw [e1, Int.toNat_natCast, he]
      clear he
      go_wp2_with fail
      refine (hexText_ok b wr).mono ?_
      rintro e w1 ⟨rfl, hB1⟩
      have ho1 : OwnS w.heap.size u3 ((mcParts l).take k) w1 := own_belowS HO.out.1 hB1
      have H1 := Lib.hid (And.intro ho1 (LeB.tr HO.out.2 hB1))
      clear ho1 hB1 hsl
      go_wp2_with (at_builtin; (obtain ⟨v', w2, hr, ho, hb⟩ := push_str H1.out.2 H1.out.1 (by have := HE.out.2; simp [mcParts]; omega) (bstr (hex1 b)); refine wpList_append_run rfl _ _ _ _ rfl rfl rfl hr ?_); clear hr; rw [← HP.out] at ho)
      go_roundw
      case rel => exact ⟨k + 1, by omega, by go_num, ho, hb⟩
      case measure => simp [intOf]; omega
    · obtain rfl : k = 6 := by omega
      have hl6 : (mcParts l).length = 6 := by unfold mcParts; rw [List.length_map]; exact HE.out.2
      obtain ⟨A, c, rfl, hc, hr, hsp⟩ := HO.out.1.rd
      rw [List.take_of_length_le (by omega)] at hc hr ⊢
      have hcall := join_ok 58 (mcParts l) A c (by intro e; rw [e] at hl6; cases hl6) hc (by have := mcText_size l HE.out.2; unfold mcText at this; omega) (by omega) wr hr hsp
      have HR := Lib.hid (And.intro HO.out.2 hl6)
      clear hc hr hsp hl6
      go_wp2_with fail
      refine hcall.mono ?_
      rintro e w1 ⟨rfl, hB1⟩
      have H1 := Lib.hid (LeB.tr HR.out.1 hB1)
      clear hB1 hcall
      go_wp2_with fail
      go_ret
      exact ⟨rfl, H1.out⟩
end Go.Proofs.YtmjddgdcokbmeaaDoor
